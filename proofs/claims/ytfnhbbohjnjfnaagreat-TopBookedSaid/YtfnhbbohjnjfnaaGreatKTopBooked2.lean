/- Parts of the proof of TopBooked. -/
import Derived.Test.YtfnhbbohjnjfnaaGreatKTopBooked1
set_option linter.unusedVariables false
set_option linter.unusedSimpArgs false
set_option linter.unusedSectionVars false
namespace Go.Proofs.YtfnhbbohjnjfnaaGreat.AM
variable [Dr]
open Go
theorem QeV {P:Program} {t:TypeId} {k:IntKind} {cs:List CV} (ht:P.underlying t=some (.int k)) (h:Typed P t cs):∃ n,cs=[.int k n]∧(Lit.int k n).wf=true:=by
 cases h with
 | int ht' n hw=>rw[ht] at ht';cases ht';exact ⟨n,rfl,hw⟩
 | bool ht'=>rw[ht] at ht';cases ht'
 | str ht'=>rw[ht] at ht';cases ht'
 | slc ht'=>rw[ht] at ht';cases ht'
 | arr ht'=>rw[ht] at ht';cases ht'
 | struct ht'=>rw[ht] at ht';cases ht'
theorem typed_str {P:Program} {t:TypeId} {cs:List CV} (ht:P.underlying t=some .string) (h:Typed P t cs):∃ s:ByteArray,cs=[.str s]∧s.size≤maxLen:=by
 cases h with
 | str ht' s hs=>exact ⟨s,rfl,hs⟩
 | bool ht'=>rw[ht] at ht';cases ht'
 | int ht'=>rw[ht] at ht';cases ht'
 | slc ht'=>rw[ht] at ht';cases ht'
 | arr ht'=>rw[ht] at ht';cases ht'
 | struct ht'=>rw[ht] at ht';cases ht'
theorem QeU {P:Program} {t e:TypeId} {cs:List CV} (ht:P.underlying t=some (.slice e)) (h:Typed P t cs):∃ L:List (List CV),cs=[.rsl L.flatten L.length]∧L.length≤maxLen∧(∀ l∈L,l.length=P.cellsOf e)∧∀ l∈L,Typed P e l:=by
 cases h with
 | slc ht' L hn hl h=>rw[ht] at ht';cases ht';exact ⟨L,rfl,hn,hl,h⟩
 | bool ht'=>rw[ht] at ht';cases ht'
 | int ht'=>rw[ht] at ht';cases ht'
 | str ht'=>rw[ht] at ht';cases ht'
 | arr ht'=>rw[ht] at ht';cases ht'
 | struct ht'=>rw[ht] at ht';cases ht'
theorem typed_struct {P:Program} {t:TypeId} {fs:Array Field} {cs:List CV} (ht:P.underlying t=some (.struct fs)) (h:Typed P t cs):∃ L:List (List CV),cs=L.flatten∧L.length=fs.size∧∀ (i:Nat) (f:Field) (l:List CV),fs[i]? = some f→L[i]? = some l→Typed P f.type l:=by
 cases h with
 | struct ht' L hn hl h=>rw[ht] at ht';cases ht';exact ⟨L,rfl,hn,h⟩
 | bool ht'=>rw[ht] at ht';cases ht'
 | int ht'=>rw[ht] at ht';cases ht'
 | str ht'=>rw[ht] at ht';cases ht'
 | slc ht'=>rw[ht] at ht';cases ht'
 | arr ht'=>rw[ht] at ht';cases ht'
theorem Qdi {P:Program} {e:TypeId} {k:IntKind} (he:P.underlying e=some (.int k)):∀ L:List (List CV),(∀ l∈L,Typed P e l)→∃ zs:List Int,L.flatten=zs.map (.int k)∧L.length=zs.length∧∀ z∈zs,(Lit.int k z).wf=true
 | [],_=>⟨[],rfl,rfl,by simp⟩
 | l::L,h=>by
  obtain ⟨n,rfl,hn⟩:=QeV he (h l (by simp))
  obtain ⟨zs,h1,h2,h3⟩:=Qdi he L fun l hl=>h l (by simp[hl])
  exact ⟨n::zs,by simp[h1],by simp[h2],by simpa using ⟨hn,h3⟩⟩
theorem wf_u8 {n:Int} (h:(Lit.int .u8 n).wf=true):0≤n∧n≤255:=by
 simp only[Lit.wf,QD,decide_eq_true_eq,IntKind.min,IntKind.max,IntKind.bits,IntKind.signed] at h
 simp at h;omega
theorem args_cons {P:Program} {t:TypeId} {ts:List TypeId} {avs:List AV} (h:Args P (t::ts) avs):∃ cs avs',avs=avOf P t cs::avs'∧Typed P t cs∧Args P ts avs':=by
 generalize hts:t::ts=u at h
 cases h with
 | nil=>cases hts
 | cons h1 h2=>cases hts;exact ⟨_,_,rfl,h1,h2⟩
theorem args_nil {P:Program} {avs:List AV} (h:Args P [] avs):avs=[]:=by
 generalize hts:([]:List TypeId)=u at h
 cases h with
 | nil=>rfl
 | cons h1 h2=>cases hts
end Go.Proofs.YtfnhbbohjnjfnaaGreat.AM
namespace Go.Proofs.YtfnhbbohjnjfnaaGreat.AM
variable [Dr]
open Go Go.Proofs.YtfnhbbohjnjfnaaGreat.Qu
theorem typed_cen {cs:List CV} (h:Typed Tryz.prog 48 cs):∃ c:Cen,cs=cenC c∧c.nm.size≤maxLen∧c.ru.length≤maxLen:=by
 obtain ⟨L,rfl,hn,hf⟩:=typed_struct Tryz.underlying48 h
 match L,hn with
 | [a,b,d],_ =>
  obtain ⟨s,rfl,h1⟩:=typed_str Tryz.underlying9 (hf 0 _ a rfl rfl)
  obtain ⟨n,rfl,h2⟩:=QeV Tryz.underlying3 (hf 1 _ b rfl rfl)
  obtain ⟨L2,rfl,hn2,_,hl2⟩:=QeU Tryz.underlying30 (hf 2 _ d rfl rfl)
  obtain ⟨zs,g1,g2,g3⟩:=Qdi Tryz.underlying3 L2 hl2
  exact ⟨⟨s,n,zs⟩,by simp[cenC,g1,g2],h1,by show zs.length≤maxLen;omega⟩
theorem typed_lea {cs:List CV} (h:Typed Tryz.prog 91 cs):∃ c:Lea,cs=leaC c∧c.nm.size≤maxLen∧c.wi.length≤maxLen:=by
 obtain ⟨L,rfl,hn,hf⟩:=typed_struct Tryz.underlying91 h
 match L,hn with
 | [a,b,c,d,e],_ =>
  obtain ⟨s,rfl,h1⟩:=typed_str Tryz.underlying9 (hf 0 _ a rfl rfl)
  obtain ⟨n1,rfl,_⟩:=QeV Tryz.underlying3 (hf 1 _ b rfl rfl)
  obtain ⟨n2,rfl,_⟩:=QeV Tryz.underlying3 (hf 2 _ c rfl rfl)
  obtain ⟨n3,rfl,_⟩:=QeV Tryz.underlying3 (hf 3 _ d rfl rfl)
  obtain ⟨L2,rfl,hn2,_,hl2⟩:=QeU Tryz.underlying30 (hf 4 _ e rfl rfl)
  obtain ⟨zs,g1,g2,g3⟩:=Qdi Tryz.underlying3 L2 hl2
  exact ⟨⟨s,n1,n2,n3,zs⟩,by simp[leaC,g1,g2],h1,by show zs.length≤maxLen;omega⟩
theorem typed_list {α:Type} {f:α→List CV} {p:α→Prop} {t:TypeId} (h:∀ cs,Typed Tryz.prog t cs→∃ x,cs=f x∧p x):∀ L:List (List CV),(∀ l∈L,Typed Tryz.prog t l)→∃ xs:List α,L.flatten=xs.flatMap f∧L.length=xs.length∧∀ x∈xs,p x
 | [],_=>⟨[],rfl,rfl,by simp⟩
 | l::L,hl=>by
  obtain ⟨x,h1,h2⟩:=h l (hl l (by simp))
  obtain ⟨xs,g1,g2,g3⟩:=typed_list h L fun l hh=>hl l (by simp[hh])
  exact ⟨x::xs,by simp[h1,g1],by simp[g2],by simpa using ⟨h2,g3⟩⟩
theorem typed_q {cs:List CV} (h:Typed Tryz.prog 25 cs):∃ q:QL₀,avOf Tryz.prog 25 cs=qV q∧QSz q:=by
 obtain ⟨L,rfl,hn,hf⟩:=typed_struct Tryz.underlying25 h
 match L,hn with
 | [a,b],_ =>
  obtain ⟨L1,rfl,n1,_,h1⟩:=QeU Tryz.underlying22 (hf 0 _ a rfl rfl)
  obtain ⟨L2,rfl,n2,_,h2⟩:=QeU Tryz.underlying23 (hf 1 _ b rfl rfl)
  obtain ⟨cs,a1,a2,a3⟩:=typed_list (fun cs h=>typed_cen h) L1 h1
  obtain ⟨ls,b1,b2,b3⟩:=typed_list (fun cs h=>typed_lea h) L2 h2
  have hm:maxLen<2 ^ 63:=by decide
  refine ⟨⟨cs,ls⟩,?_,⟨by show cs.length<_;omega,by show ls.length<_;omega,fun i hi=>?_,fun i hi=>?_,fun i hi=>?_,fun i hi=>?_⟩⟩
  ·simp only[avOf,Tryz.underlying25,a1,b1,a2,b2]
   rfl
  ·have hi:i<cs.length:=hi
   show (cs[i]!).nm.size<_
   rw[getElem!_pos cs i hi]
   have:=(a3 _ (Q2 hi)).1
   omega
  ·have hi:i<cs.length:=hi
   show (cs[i]!).ru.length<_
   rw[getElem!_pos cs i hi]
   have:=(a3 _ (Q2 hi)).2
   omega
  ·have hi:i<ls.length:=hi
   show (ls[i]!).nm.size<_
   rw[getElem!_pos ls i hi]
   have:=(b3 _ (Q2 hi)).1
   omega
  ·have hi:i<ls.length:=hi
   show (ls[i]!).wi.length<_
   rw[getElem!_pos ls i hi]
   have:=(b3 _ (Q2 hi)).2
   omega
end Go.Proofs.YtfnhbbohjnjfnaaGreat.AM
namespace Go.Proofs.YtfnhbbohjnjfnaaGreat.AM
variable [Dr]
open Go Go.Proofs.YtfnhbbohjnjfnaaGreat.Qu Pl
section
variable {q:QL₀} {g:List Int}
end
theorem giveV_ok {q:QL₀} (he:eQ q=0):giveV q=.tup [ints (giveQ q),.i 0]:=by unfold giveV;rw[if_pos he]
theorem bk138 {σ:List AObj} {a p:Nat} {b:BK₀} {pv:AV} {tm ev:Int} {ls:List Le} (hX:rowOf σ a=some (bX b (.sl p 0 ls.length 5) pv tm ev)) (hp:rowOf σ p=some (lesX ls)) (hn:ls.length≤1000)
  {k:Nat} (hk:k<ls.length) {t:Int} (ht:(ls[k]!).t=t):AC Tryz.prog 138 [.ptr a 0,.i k,.i t] σ fun r τ=>r=.ptr p (k*5)∧τ=σ:=by
 refine AC.cut0 ?_ (by simp[QR,row_lt hp])
 refine ZF (fok138 true) (QC rfl) ?_
 have gX:=fun J=>ZH hX J
 have gp:=fun J=>ZH hp J
 have wn:IntKind.i64.wrap ((ls.length:Int)-1)=(ls.length:Int)-1:=ZC (by omega)
 have hia:∀ σ,VP 5 [.sl p 0 ls.length 5,.cv (.int .i64 k)] σ=some (.ptr p (k*5),σ):=fun σ=>by simp[VP,hk]
 have hg:((ls.flatMap leC).map AV.cv)[k*5+4]? = some (.i t):=by rw[les_get hk (by decide)];show some (AV.i (ls[k]!).t)=_;rw[ht]
 have hg2:((ls.flatMap leC)[k*5+4]?).map AV.cv=some (.i t):=by rw[← ZR];exact hg
 simp only[ic138,hX,wn,QW,QM,WW,X9,VW,EZ,Qau,CH,get_nz,get_ns,evA,simprocAttr]
 refine out_at 0 _ k (by omega) (by simp only[QW,QM,WW,X9,VW,EZ,Qau,CH,get_nz,get_ns];rfl) ?_
 have hbt:(t == t)=true:=by simp
 simp only[gX,gp,hia,hg,hg2,hbt,QW,QM,WW,X9,VW,EZ,Qau,CH,get_nz,get_ns,evA,simprocAttr]
 refine (must_t 4 _).run ?_
 simp only[gX,hia,QW,QM,WW,X9,VW,EZ,Qau,CH,get_nz,get_ns,evA,simprocAttr]
 exact ⟨_,rfl⟩
end Go.Proofs.YtfnhbbohjnjfnaaGreat.AM
namespace Go.Proofs.YtfnhbbohjnjfnaaGreat.Pl
theorem G6 {m:Nat}:∀ {n:Nat} {P Q:Nat→Bool} (f:Nat→Nat),(∀ i,i<n→P i=true→f i<m∧Q (f i)=true)→(∀ i j,i<n→j<n→P i=true→P j=true→f i=f j→i=j)→cnt n P≤cnt m Q
 | 0,P,Q,f,_,_=>by simp[cnt]
 | n+1,P,Q,f,h1,h2=>by
  have ih:=fun (Q':Nat→Bool) h=>G6 (m:=m) (n:=n) (P:=P) (Q:=Q') f h fun i j hi hj=>h2 i j (by omega) (by omega)
  simp only[cnt]
  by_cases hp:P n=true
  ·obtain ⟨a,b⟩:=h1 n (by omega) hp
   have:=ih (fun k=>Q k && !(k == f n)) fun i hi hpi=>by
    obtain ⟨c,d⟩:=h1 i (by omega) hpi
    refine ⟨c,?_⟩
    have:f i≠f n:=fun e=>by have:=h2 i n (by omega) (by omega) hpi hp e;omega
    simp[d,this]
   have h3:=JU (n:=m) (P:=fun k=>Q k && !(k == f n)) (Q:=Q) (x:=f n) a (by simp) b fun i _ hne=>by simp[hne]
   rw[if_pos hp];omega
  ·rw[if_neg hp]
   exact ih Q fun i hi=>h1 i (by omega)
section
variable (can:Nat→Nat→Bool) (n:Nat)
variable {can n}
end
theorem JO {l:List Int} {k j:Nat} {v:Int} (hk:k<l.length):gI (l.set k v) j=if j=k then v else gI l j:=by
 unfold gI
 by_cases e:j=k
 ·subst e;simp[hk]
 ·rw[if_neg e,QU (Ne.symm e)]
section
variable (can:Nat→Nat→Bool) (told:List Int) (n:Nat)
variable {can told n}
end
end Go.Proofs.YtfnhbbohjnjfnaaGreat.Pl
namespace Go.Proofs.YtfnhbbohjnjfnaaGreat.AM
variable [Dr]
open Go Go.Proofs.YtfnhbbohjnjfnaaGreat.Qu Pl
def pstA (ac:List Int) (f t:Nat) (c:Int):List Int:=(ac.set f (gI ac f-c)).set t (gI (ac.set f (gI ac f-c)) t+c)
theorem gI_map (zs:List Int) (k:Nat) (h:k<zs.length):(zs.map AV.i)[k]? = some (.i (gI zs k)):=by simp[gI,h]
set_option maxRecDepth 4000 in
theorem kPost {σ:List AObj} {a:Nat} {b:BK₀} {st:BS₀} {lv pv:AV} {O:List (Nat × AObj)} (hB:BkAt σ a b st lv pv O) {f t:Nat} (hf:f<b.ws.length+4) (ht:t<b.ws.length+4) (hal:st.ac.length=b.ws.length+4)
  {c:Int} (hc:0<c∧c≤1000000000) (hac:∀ j,-1000000000000≤gI st.ac j∧gI st.ac j≤1000000000000) (hpn:st.ps.length≤1000) :
  ∃ τ pv',(AC Tryz.prog 139 [.ptr a 0,.i f,.i t,.i c] σ fun r τ'=>r=.tup []∧τ'=τ)∧BkAt τ a b { st with ps:=st.ps++[⟨st.ev,f,t,c⟩],ac:=pstA st.ac f t c } lv pv' O∧Same (a::b.c::slOf pv) σ τ∧HM σ (.tup []) τ:=by
 have hp44:(2:Nat) ^ 44=17592186044416:=by decide
 have ⟨⟨s1,s2,s3⟩,⟨s4,s5⟩,s6⟩:=hB.sep
 obtain ⟨v',τ1,z,hap,hv',hz,hzr,hS,hle,hob⟩:=row_append (f:=poC) (by_:=32) poC_len (by decide) (H:=σ++[.cells (poX ⟨st.ev,f,t,c⟩)]) (x:=⟨st.ev,f,t,c⟩) (q:=σ.length) (hB.hp.same (Same.app [] _) fun _ _ h=>by cases h) (by simp only[QW,QM,WW,X9,VW,EZ,Qau,CH,get_nz,get_ns];rfl) (by omega) (by omega)
 have hS0:Same (slOf pv) σ τ1:=(Same.app _ _).trans hS (by simp)
 have hl1:σ.length<τ1.length:=by simp at hle;omega
 have hXt:rowOf τ1 a=some (bX b lv pv st.tm st.ev):=hS0.row hB.hX s3
 have hct:rowOf τ1 b.c=some (st.ac.map AV.i):=hS0.row hB.hc s5
 have u1:v'.isUndef=false:=by rw[hv'];rfl
 have u2:v'.isSc=true:=by rw[hv'];rfl
 have u3:cellsOf v'=[v']:=by rw[hv'];rfl
 have gX:=fun J=>ZH hB.hX J
 have kX:=fun J=>Qdq hB.hX J
 have hg1:=hac f
 have hac1:∀ j,-2000000000000≤gI (st.ac.set f (gI st.ac f-c)) j∧gI (st.ac.set f (gI st.ac f-c)) j≤2000000000000:=fun j=>by
  rw[JO (by omega)]
  have:=hac j
  split <;> omega
 have hg2:=hac1 t
 have wf1:IntKind.i64.wrap (gI st.ac f-c)=gI st.ac f-c:=ZC (by omega)
 have wf2:IntKind.i64.wrap (gI (st.ac.set f (gI st.ac f-c)) t+c)=gI (st.ac.set f (gI st.ac f-c)) t+c:=ZC (by omega)
 have hza:a≠z:=fun e=>by have:=row_lt hB.hX;simp at hz;omega
 have hzc:b.c≠z:=fun e=>by have:=row_lt hB.hc;simp at hz;omega
 let τ2:=τ1.set a (.cells (bX b lv v' st.tm st.ev))
 let τ3:=τ2.set b.c (.cells ((st.ac.set f (gI st.ac f-c)).map AV.i))
 let τ4:=τ3.set b.c (.cells ((pstA st.ac f t c).map AV.i))
 have hX2:rowOf τ2 a=some (bX b lv v' st.tm st.ev):=W0 hXt
 have hc2:rowOf τ2 b.c=some (st.ac.map AV.i):=by show rowOf (τ1.set a _) b.c=_;rw[QX s1];exact hct
 have hX3:rowOf τ3 a=some (bX b lv v' st.tm st.ev):=by show rowOf (τ2.set b.c _) a=_;rw[QX (Ne.symm s1)];exact hX2
 have hc3:rowOf τ3 b.c=some ((st.ac.set f (gI st.ac f-c)).map AV.i):=W0 hc2
 have hX4:rowOf τ4 a=some (bX b lv v' st.tm st.ev):=by show rowOf (τ3.set b.c _) a=_;rw[QX (Ne.symm s1)];exact hX3
 have hc4:rowOf τ4 b.c=some ((pstA st.ac f t c).map AV.i):=W0 hc3
 have hl4:τ4.length=τ1.length:=by simp[τ4,τ3,τ2]
 have hS4:Same (a::b.c::slOf pv) σ τ4:=(((hS0.less fun l hl=>by simp[hl]).set (.inl (by simp)) _).set (.inl (by simp)) _).set (.inl (by simp)) _
 have hzr4:rowOf τ4 z=some (posX (st.ps++[⟨st.ev,f,t,c⟩])):=by
  show rowOf (((τ1.set a _).set b.c _).set b.c _) z=_
  rw[QX hzc,QX hzc,QX hza];exact hzr
 have hB4:BkAt τ4 a b { st with ps:=st.ps++[⟨st.ev,f,t,c⟩],ac:=pstA st.ac f t c } lv v' O:=by
  refine hB.turn (hS4.less fun l hl=>?_) hX4 rfl rfl hc4 rfl ?_ ?_ (.inl rfl) (.inr ⟨z,by simp at hz;omega,by rw[hv'];rfl⟩) ?_ (fun h=>by simp at h)
  ·simp only[ZD,YV] at hl ⊢
   rcases hl with h | h | h
   ·exact .inl h
   ·exact .inr (.inl h)
   ·exact .inr (.inr (.inr h))
  ·refine hB.hl.same hS4 fun l hl=>?_
   simp only[ZD,not_or]
   exact ⟨fun e=>s2 (e ▸ hl),fun e=>s4 (e ▸ hl),s6 l hl⟩
  ·exact .inr ⟨z,by rw[hv'];simp,hzr4⟩
  ·intro l hl hp
   rw[hv'] at hp
   simp only[slOf,WZ] at hp
   subst hp
   have:=hB.hl.loc _ hl
   simp at hz;omega
 refine ⟨τ4,v',?_,hB4,hS4,?_⟩
 ·refine ZF (fok139 true) (QC rfl) ?_
  have hc0:(c == 0)=false:=by simp;omega
  have hia:∀ σ (k:Nat),k<b.ws.length+4→VP 1 [.sl b.c 0 (b.ws.length+4) 1,.cv (.int .i64 k)] σ=some (.ptr b.c k,σ):=fun σ k hk=>by simp[VP];omega
  have hif:=fun σ=>hia σ f hf
  have hit:=fun σ=>hia σ t ht
  have hgf:=gI_map st.ac f (by omega)
  have hgt:=gI_map (st.ac.set f (gI st.ac f-c)) t (by simp;omega)
  simp only[ic139,hc0,QW,QM,WW,X9,VW,EZ,Qau,CH,get_nz,get_ns,evA,simprocAttr]
  refine DW_s [] [(4,13)] hmix (by kernel_rfl) rfl ?_
  simp only[hB.hX,gX,kX,hap,u1,u2,u3,QW,QM,WW,X9,VW,EZ,Qau,CH,get_nz,get_ns,evA,simprocAttr]
  simp only[kX,hXt,WO hB.hX,u1,u2,u3,QW,QM,WW,X9,VW,EZ,Qau,CH,get_nz,get_ns,evA,simprocAttr]
  have e2:τ1.set a (.cells [.cv (.rsl (b.ws.map CV.str) b.ws.length),carL b.cs,.i b.pr,.i b.ex,.i b.lo,.i b.hi,.cv b.tc,lv,.sl b.k 0 b.cs.length 1,.sl b.s 0 b.cs.length 1,.sl b.c 0 (b.ws.length+4) 1,.map b.w,v',.i st.tm,.i st.ev])=τ2:=rfl
  have e3:τ2.set b.c (.cells ((st.ac.set f (gI st.ac f-c)).map AV.i))=τ3:=rfl
  have e4:τ3.set b.c (.cells ((pstA st.ac f t c).map AV.i))=τ4:=rfl
  have e5:(st.ac.set f (gI st.ac f-c)).set t (gI (st.ac.set f (gI st.ac f-c)) t+c)=pstA st.ac f t c:=rfl
  clear_value τ4 τ3 τ2
  simp only[e2,hX2,hc2,hif,hgf,wf1,GC,e3,QW,QM,WW,X9,VW,EZ,Qau,CH,get_nz,get_ns,evA,simprocAttr]
  have b1:f+1≤st.ac.length:=by omega
  have b2:t+1≤st.ac.length:=by omega
  simp only[b1,hX3,hc3,hit,hgt,wf2,GC,e5,e4,WE,b2,QW,QM,WW,X9,VW,EZ,Qau,CH,get_nz,get_ns,evA,simprocAttr]
 ·refine ⟨rfl,by omega,fun l o ho hne=>?_⟩
  have hBl:=hB4.lt
  by_cases hla:l=a
  ·subst hla
   have:=(WO hX4).symm.trans ho
   cases this
   refine ⟨?_,fun _=>trivial⟩
   have q1:=hBl b.k (by simp)
   have q2:=hBl b.s (by simp)
   have q3:=hBl b.c (by simp)
   have q4:=hBl b.w (by simp)
   have q5:QR τ4.length lv=true:=by
    rcases hB4.hl with ⟨rfl,_⟩ | ⟨p,rfl,hp⟩
    ·rfl
    ·simp[QR,row_lt hp]
   have q6:QR τ4.length v'=true:=by rw[hv'];simp[QR,row_lt hzr4]
   simp[Z3,QO,QR,q1,q2,q3,q4,q5,q6]
  by_cases hlc:l=b.c
  ·subst hlc
   have:=(WO hc4).symm.trans ho
   cases this
   refine ⟨?_,fun _=>trivial⟩
   simp only[Z3]
   rw[Z8]
   intro v hv
   obtain ⟨z,_,rfl⟩:=ZP.1 hv
   rfl
  have ho1:τ1[l]? = some o:=by
   have:τ4[l]? = τ1[l]? := by
    show (((τ1.set a _).set b.c _).set b.c _)[l]? = _
    rw[QU (fun e=>hlc e.symm),QU (fun e=>hlc e.symm),QU (fun e=>hla e.symm)]
   rw[← this];exact ho
  rcases hob l o ho1 with h | ⟨h1,h2⟩
  ·by_cases hls:l<σ.length
   ·rw[QE hls] at h;exact absurd h hne
   ·rw[QS (by omega)] at h
    obtain ⟨j,hj⟩:∃ j,l-σ.length=j:=⟨_,rfl⟩
    rw[hj] at h
    cases j with
    | zero=>cases h;exact ⟨rfl,fun _=>trivial⟩
    | succ j=>simp at h
  ·refine ⟨H1 0 _ o (QF _) h1,fun hls=>?_⟩
   by_cases he:l=σ.length
   ·subst he
    have:=hS σ.length (by simp) (fun hm=>by have:=hB.hp.loc _ hm;omega)
    rw[ho1] at this
    simp at this
    subst this;trivial
   ·exact h2 (by simp;omega)
abbrev inSt (x:Le) (t:Int):Le:={ x with t:=t }
theorem les_set {ls:List Le} {k:Nat} (h:k<ls.length) (t:Int):((ls.flatMap leC).map AV.cv).set (k*5+4) (.i t)=lesX (ls.set k (inSt ls[k]! t)):=by
 rw[← List.map_set (f:=AV.cv) (a:=.int .i64 t)]
 congr 1
 exact flat_set leC_len5 (j:=4) (by omega) h rfl
theorem BkAt.state {σ:List AObj} {a p:Nat} {b:BK₀} {st:BS₀} {pv:AV} {O:List (Nat × AObj)} (hB:BkAt σ a b st (.sl p 0 st.ls.length 5) pv O) (J:List AObj) {k:Nat} (hk:k<st.ls.length) (t:Int) :
  BkAt ((σ++J).set p (.cells (lesX (st.ls.set k (inSt st.ls[k]! t))))) a b { st with ls:=st.ls.set k (inSt st.ls[k]! t) } (.sl p 0 st.ls.length 5) pv O:=by
 have ⟨⟨s1,s2,s3⟩,⟨s4,s5⟩,s6⟩:=hB.sep
 simp only[slOf,WZ] at s2 s4 s6
 have hpr:rowOf σ p=some (lesX st.ls):=by
  rcases hB.hl with ⟨h,_⟩ | ⟨q,h,hq⟩
  ·cases h
  ·cases h;exact hq
 refine hB.turn ?_ ?_ rfl rfl ?_ rfl ?_ ?_ (.inl rfl) (.inl rfl) (fun l h=>by simp only[slOf,WZ] at h;subst h;exact s6 l rfl) hB.pn
 ·exact (Same.app _ _).set (.inl (by simp[slOf])) _
 ·rw[QX (Ne.symm s2)];exact ZH hB.hX J
 ·rw[QX (Ne.symm s4)];exact ZH hB.hc J
 ·exact .inr ⟨p,by simp,by rw[W0 (ZH hpr J)]⟩
 ·refine hB.hp.same (E:=[p]) ((Same.app _ _).set (.inl (by simp)) _) fun l hl h=>?_
  rw[WZ] at h;subst h;exact s6 l rfl hl
theorem post0 (σ:List AObj) (a:Nat) (f t:Int):AC Tryz.prog 139 [.ptr a 0,.i f,.i t,.i 0] σ fun r τ=>r=.tup []∧τ=σ:=by
 refine ZF (fok139 true) (QC rfl) ?_
 simp only[ic139,evA,simprocAttr]
def postS (st:BS₀) (f t:Nat) (c:Int):BS₀:=if c=0 then st else { st with ps:=st.ps++[⟨st.ev,f,t,c⟩],ac:=pstA st.ac f t c }
theorem kPost' {σ:List AObj} {a:Nat} {b:BK₀} {st:BS₀} {lv pv:AV} {O:List (Nat × AObj)} (hB:BkAt σ a b st lv pv O) {f t:Nat} (hf:f<b.ws.length+4) (ht:t<b.ws.length+4) (hA:AcOk b st)
  {c:Int} (hc:0≤c∧c≤1000000000) :
  ∃ τ pv',(AC Tryz.prog 139 [.ptr a 0,.i f,.i t,.i c] σ fun r τ'=>r=.tup []∧τ'=τ)∧BkAt τ a b (postS st f t c) lv pv' O∧HM σ (.tup []) τ:=by
 by_cases h0:c=0
 ·subst h0
  exact ⟨σ,pv,post0 σ a f t,by rw[postS,if_pos rfl];exact hB,HM.refl rfl⟩
 ·obtain ⟨τ,pv',h1,h2,_,h3⟩:=kPost hB hf ht hA.al (c:=c) (by omega) hA.ac hA.pn
  exact ⟨τ,pv',h1,by rw[postS,if_neg h0];exact h2,h3⟩
set_option maxRecDepth 4000 in
theorem kCancel {σ:List AObj} {a:Nat} {b:BK₀} {st:BS₀} {lv pv:AV} {O:List (Nat × AObj)} (hB:BkAt σ a b st lv pv O) (hls:LsOk st.ls) (hA:AcOk b st) (hw8:b.ws.length≤8) {ts:List (Int × Int)} (htc:TcOf b.tc ts) (htn:ts.length<2 ^ 60)
  {k:Nat} (hk:k<st.ls.length) (ho:(st.ls[k]!).t=0) {i:Nat} (hi:(st.ls[k]!).l=i) (hiw:i<b.ws.length) {at_:Int} (hat:0≤at_∧at_<(st.ls[k]!).s) (hpr:0≤b.pr∧b.pr≤10000) (hh4:(st.ls[k]!).h≤4)
  {F:Int} (hF:feeT ts (st.ls[k]!).h b.pr ((st.ls[k]!).s-at_)=F) (hFb:0≤F∧F≤1000000000) (hpt:0≤partT ts ((st.ls[k]!).s-at_)∧partT ts ((st.ls[k]!).s-at_)≤1000) (kd l c s h d w km ce:Int) :
  AC Tryz.prog 116 [.ptr a 0,bvA kd at_ l c k s h d w km ce] σ fun r τ=>r=.tup []∧∃ lv' pv',BkAt τ a b (postS { st with ls:=st.ls.set k (inSt st.ls[k]! 1) } i b.ws.length F) lv' pv' O:=by
 obtain ⟨p,rfl,hp⟩:∃ p,lv=.sl p 0 st.ls.length 5∧rowOf σ p=some (lesX st.ls):=by
  rcases hB.hl with ⟨_,h⟩ | h
  ·rw[h] at hk;simp at hk
  ·exact h
 refine ZF (fok116 true) (QC rfl) ?_
 have gX:=fun J=>ZH hB.hX J
 have gp:=fun J=>ZH hp J
 have hn:=hls.n
 have hlk:=hls.ok k hk
 have h138:=fun J=>bk138 (ZH hB.hX J) (ZH hp J) hn hk ho
 have hle:=les_len (ls:=st.ls)
 have hgs:((st.ls.flatMap leC)[k*5+2]?).map AV.cv=some (.i (st.ls[k]!).s):=by rw[← ZR];exact les_get hk (by decide)
 have hgs0:(lesX st.ls)[k*5+2]? = some (.i (st.ls[k]!).s):=les_get hk (by decide)
 have hst:=les_set hk (1:Int)
 have hle5:k*5+4+1≤(st.ls.flatMap leC).length:=by rw[UG leC_len5];omega
 have d1:decide (at_<(st.ls[k]!).s)=true:=decide_eq_true hat.2
 have hB1:=hB.state [.cells [.i kd,.i at_,.i l,.i c,.i k,.i s,.i h,.i d,.i w,.i km,.i ce]] hk (1:Int)
 have hat1:∀ (hx:AObj),True:=fun _=>trivial
 simp only[ic116,WI,cellsOf,QW,QM,WW,X9,VW,EZ,Qau,CH,get_nz,get_ns,evA,simprocAttr]
 refine (h138 _).run ?_
 simp only[QW,QM,WW,X9,VW,EZ,Qau,CH,get_nz,get_ns,evA,simprocAttr]
 refine DW_s [7] [] hmix (by kernel_rfl) rfl ?_
 simp only[gp,hgs,hgs0,d1,QW,QM,WW,X9,VW,EZ,Qau,CH,get_nz,get_ns,evA,simprocAttr]
 refine YE (must_t 2 _) rfl ?_
 simp only[gp,hst,hle5,QW,QM,WW,X9,VW,EZ,Qau,CH,get_nz,get_ns,evA,simprocAttr]
 have hxrow:rowOf ((σ++[AObj.cells [.i kd,.i at_,.i l,.i c,.i k,.i s,.i h,.i d,.i w,.i km,.i ce]]).set p (.cells (lesX (st.ls.set k (inSt st.ls[k]! 1))))) σ.length=some [.i kd,.i at_,.i l,.i c,.i k,.i s,.i h,.i d,.i w,.i km,.i ce]:=by
  rw[QX (by have:=row_lt hp;omega),XH]
 generalize (σ++[AObj.cells [.i kd,.i at_,.i l,.i c,.i k,.i s,.i h,.i d,.i w,.i km,.i ce]]).set p (.cells (lesX (st.ls.set k (inSt st.ls[k]! 1))))=τ1 at hB1 hxrow ⊢
 obtain ⟨τ,pv',h139,hB2,hok⟩:=kPost' hB1 (f:=i) (t:=b.ws.length) (by omega) (by omega) ⟨hA.al,hA.ac,hA.pn⟩ hFb
 have hX1:=hB1.hX
 have hkl:k<(st.ls.set k (inSt st.ls[k]! 1)).length:=by simpa using hk
 have hp1:rowOf τ1 p=some (lesX (st.ls.set k (inSt st.ls[k]! 1))):=by
  rcases hB1.hl with ⟨h,_⟩ | ⟨q,h,hq⟩
  ·cases h
  ·injection h with h1;rw[h1];exact hq
 have hget:(st.ls.set k (inSt st.ls[k]! 1))[k]! = inSt st.ls[k]! 1:=by rw[getElem!_pos _ k hkl,List.getElem_set_self]
 have q0:(lesX (st.ls.set k (inSt st.ls[k]! 1)))[k*5]? = some (.i i):=by
  have:=les_get hkl (j:=0) (by decide)
  rw[hget,Nat.add_zero] at this
  rw[this];show some (AV.i (st.ls[k]!).l)=_;rw[hi]
 have q2:(lesX (st.ls.set k (inSt st.ls[k]! 1)))[k*5+2]? = some (.i (st.ls[k]!).s):=by
  have:=les_get hkl (j:=2) (by decide)
  rw[hget] at this;exact this
 have q3:(lesX (st.ls.set k (inSt st.ls[k]! 1)))[k*5+3]? = some (.i (st.ls[k]!).h):=by
  have:=les_get hkl (j:=3) (by decide)
  rw[hget] at this;exact this
 have r0:=q0
 have r2:=q2
 have r3:=q3
 rw[ZR] at r0 r2 r3
 have a1:=hlk.s
 have a2:=hlk.h
 have w1:IntKind.i64.wrap ((st.ls[k]!).s-at_)=(st.ls[k]!).s-at_:=ZC (by omega)
 have h140:=bk140 hX1
 have h46:=bk46 htc htn (.rsl (b.ws.map CV.str) b.ws.length) (.rsl (b.cs.flatMap carC) b.cs.length) b.pr b.ex b.lo b.hi (st.ls[k]!).h ((st.ls[k]!).s-at_) hpr ⟨a2.1,hh4⟩ hpt
 rw[hF] at h46
 generalize lesX (st.ls.set k (inSt st.ls[k]! 1))=LX₀ at hp1 q0 q2 q3 r0 r2 r3
 refine DW_s [6,22] [] hmix (by kernel_rfl) rfl ?_
 simp only[hX1,hp1,q0,q2,q3,hxrow,QW,QM,WW,X9,VW,EZ,Qau,CH,get_nz,get_ns,evA,simprocAttr]
 refine YE h140 rfl ?_
 simp only[hX1,hp1,q0,q2,q3,hxrow,w1,QW,QM,WW,X9,VW,EZ,Qau,CH,get_nz,get_ns,evA,simprocAttr]
 refine YE (h46.call frz ⟨rfl,rfl⟩) rfl ?_
 simp only[QW,QM,WW,X9,VW,EZ,Qau,CH,get_nz,get_ns,evA,simprocAttr]
 refine MS h139 hok ?_
 simp only[QW,QM,WW,X9,VW,EZ,Qau,CH,get_nz,get_ns,evA,simprocAttr]
 exact ⟨_,_,hB2⟩
theorem BkAt.head {σ:List AObj} {a:Nat} {b:BK₀} {st:BS₀} {lv pv:AV} {O:List (Nat × AObj)} (hB:BkAt σ a b st lv pv O) (J:List AObj) (tm ev:Int) :
  BkAt ((σ++J).set a (.cells (bX b lv pv tm ev))) a b { st with tm:=tm,ev:=ev } lv pv O:=by
 have ⟨⟨s1,s2,s3⟩,⟨s4,s5⟩,s6⟩:=hB.sep
 have hS:Same [a] σ ((σ++J).set a (.cells (bX b lv pv tm ev))):=(Same.app _ _).set (.inl (by simp)) _
 refine hB.turn (hS.less fun l hl=>by simp only[WZ] at hl;simp[hl]) ?_ rfl rfl ?_ rfl ?_ ?_ (.inl rfl) (.inl rfl) s6 hB.pn
 ·rw[W0 (ZH hB.hX J)]
 ·rw[QX s1];exact ZH hB.hc J
 ·exact hB.hl.same hS fun l hl h=>by rw[WZ] at h;subst h;exact s2 hl
 ·exact hB.hp.same hS fun l hl h=>by rw[WZ] at h;subst h;exact s3 hl
abbrev kinA:AV:=.agg [.fn (.func 115) [],.fn (.func 116) [],.fn (.func 117) [],.fn (.func 118) [],.fn (.func 119) [],.fn (.func 120) [],.fn (.func 121) []]
theorem bk99 (σ:List AObj):AC Tryz.prog 99 [] σ fun r τ=>r=kinA∧τ=σ:=by
 refine AC.cutF ?_ rfl
 refine ZF (fok99 true) (QC rfl) ?_
 simp only[ic99,QW,QM,WW,X9,VW,EZ,Qau,CH,get_nz,get_ns,evA,simprocAttr]
 exact ⟨_,rfl⟩
set_option maxRecDepth 4000 in
theorem k98 {H:List AObj} {a:Nat} {b:BK₀} {st st':BS₀} {lv pv:AV} {O:List (Nat × AObj)} (hB:BkAt H a b st lv pv O) {kd at_ l c bk s h d w km ce n:Int} {kf:Nat} {B N X:Nat}
  (h1:(B,AObj.cells [.ptr a 0])∈O) (h2:(N,AObj.cells [.i n])∈O) (h3:(X,AObj.cells [.i kd,.i at_,.i l,.i c,.i bk,.i s,.i h,.i d,.i w,.i km,.i ce])∈O)
  (hkd:0≤kd∧kd≤6) (hat:st.tm≤at_∧at_≤4800) (hix:∀ σ,A7 7 1 1 false [kinA,.cv (.int .i64 kd)] σ=some (.fn (.func kf) [],σ))
  (hk:∀ H lv pv,BkAt H a b { st with ev:=n } lv pv O→AC Tryz.prog kf [.ptr a 0,bvA kd at_ l c bk s h d w km ce] H fun r τ=>r=.tup []∧∃ lv' pv',BkAt τ a b st' lv' pv' O) :
  AC Tryz.prog 98 [.ptr X 0,.ptr B 0,.ptr N 0] H fun r τ=>r=.tup []∧∃ lv' pv',BkAt τ a b { st' with tm:=at_ } lv' pv' O:=by
 refine AC_SW (fok98 true) (QC rfl) ?_
 have g1:=hB.box h1
 have g2:=hB.box h2
 have g3:=hB.box h3
 have l1:=fun J=>ZH g1 J
 have l2:=fun J=>ZH g2 J
 have l3:=fun J=>ZH g3 J
 have k1:=fun J=>Qdq g1 J
 have k2:=fun J=>Qdq g2 J
 have k3:=fun J=>Qdq g3 J
 have gX:=fun J=>ZH hB.hX J
 have kX:=fun J=>Qdq hB.hX J
 unfold ic98
 refine SW_seq ?_
 simp only[g1,g2,g3,QW,QM,WW,X9,VW,EZ,Qau,CH,get_nz,get_ns,evA,simprocAttr]
 refine out_at 0 6 kd hkd (by simp only[QW,QM,WW,X9,VW,EZ,Qau,CH,get_nz,get_ns];rfl) ?_
 simp only[QW,QM,WW,X9,VW,EZ,Qau,CH,get_nz,get_ns,evA,simprocAttr]
 refine (must_t 2 _).run ?_
 simp only[kSW_n,QW,QM,WW,X9,VW,EZ,Qau,CH,get_nz,get_ns,evA,simprocAttr]
 refine SW_seq ?_
 simp only[QW,QM,WW,X9,VW,EZ,Qau,CH,get_nz,get_ns,evA,simprocAttr]
 refine DW_s [7,9] [(0,6),(3,6)] hmix (by kernel_rfl) rfl ?_
 simp only[l1,l2,l3,gX,QW,QM,WW,X9,VW,EZ,Qau,CH,get_nz,get_ns,evA,simprocAttr]
 refine YE (out_at _ 4800 at_ hat (by simp only[QW,QM,WW,X9,VW,EZ,Qau,CH,get_nz,get_ns];rfl) ⟨rfl,rfl⟩) rfl ?_
 simp only[QW,QM,WW,X9,VW,EZ,Qau,CH,get_nz,get_ns,evA,simprocAttr]
 refine YE (must_t 7 _) rfl ?_
 simp only[k1,k2,k3,kX,kSW_n,QW,QM,WW,X9,VW,EZ,Qau,CH,get_nz,get_ns,evA,simprocAttr]
 refine SW_seq ?_
 simp only[l1,l2,l3,gX,kSW_n,QW,QM,WW,X9,VW,EZ,Qau,CH,get_nz,get_ns,evA,simprocAttr]
 have hB1:=hB.head [.cells [.i kd],.cells [.i at_]] st.tm n
 generalize (H++[AObj.cells [.i kd],.cells [.i at_]]).set a (.cells (bX b lv pv st.tm n))=τ1 at hB1 ⊢
 have f1:=hB1.box h1
 have f3:=hB1.box h3
 refine SW_seqS (SW_drawL [0] [] hmix (lst:=6) rfl rfl rfl rfl rfl (by kernel_rfl) (by kernel_rfl) rfl ?_)
 simp only[List.dropLast,List.cons_append,List.nil_append,mvI,QW,QM,WW,X9,VW,EZ,Qau,CH,get_nz,get_ns,evA,simprocAttr]
 refine YE (bk99 _) rfl ?_
 simp only[f1,f3,hix,QW,QM,WW,X9,VW,EZ,Qau,CH,get_nz,get_ns,evA,simprocAttr]
 refine (hk _ _ _ hB1).mono ?_
 rintro r τ2 ⟨rfl,lv2,pv2,hB2⟩
 have m1:=hB2.box h1
 have m3:=hB2.box h3
 have mX:=hB2.hX
 have hB3:=hB2.head [] at_ st'.ev
 rw[ZU] at hB3
 rw[kSW_n]
 refine SW_of ?_
 simp only[m1,m3,mX,QW,QM,WW,X9,VW,EZ,Qau,CH,get_nz,get_ns,evA,simprocAttr]
 exact ⟨lv2,pv2,hB3⟩
set_option maxRecDepth 4000 in
theorem k98p {H:List AObj} {a:Nat} {b:BK₀} {st st':BS₀} {lv pv:AV} {O:List (Nat × AObj)} (hB:BkAt H a b st lv pv O) {kd at_ l c bk s h d w km ce n e:Int} {kf:Nat} {B N X:Nat}
  (h1:(B,AObj.cells [.ptr a 0])∈O) (h2:(N,AObj.cells [.i n])∈O) (h3:(X,AObj.cells [.i kd,.i at_,.i l,.i c,.i bk,.i s,.i h,.i d,.i w,.i km,.i ce])∈O)
  (hkd:0≤kd∧kd≤6) (hat:st.tm≤at_∧at_≤4800) (hix:∀ σ,A7 7 1 1 false [kinA,.cv (.int .i64 kd)] σ=some (.fn (.func kf) [],σ))
  (hk:∀ H lv pv,BkAt H a b { st with ev:=n } lv pv O→ACp Tryz.prog kf [.ptr a 0,bvA kd at_ l c bk s h d w km ce] H [errP e] fun τ=>∃ lv' pv',BkAt τ a b st' lv' pv' O) :
  ACp Tryz.prog 98 [.ptr X 0,.ptr B 0,.ptr N 0] H [errP e] fun τ=>∃ lv' pv',BkAt τ a b st' lv' pv' O:=by
 refine ACp_SW (fok98 true) (QC rfl) ?_
 have g1:=hB.box h1
 have g2:=hB.box h2
 have g3:=hB.box h3
 have l1:=fun J=>ZH g1 J
 have l2:=fun J=>ZH g2 J
 have l3:=fun J=>ZH g3 J
 have k1:=fun J=>Qdq g1 J
 have k2:=fun J=>Qdq g2 J
 have k3:=fun J=>Qdq g3 J
 have gX:=fun J=>ZH hB.hX J
 have kX:=fun J=>Qdq hB.hX J
 unfold ic98
 refine SW_seq ?_
 simp only[g1,g2,g3,QW,QM,WW,X9,VW,EZ,Qau,CH,get_nz,get_ns,evA,simprocAttr]
 refine out_at 0 6 kd hkd (by simp only[QW,QM,WW,X9,VW,EZ,Qau,CH,get_nz,get_ns];rfl) ?_
 simp only[QW,QM,WW,X9,VW,EZ,Qau,CH,get_nz,get_ns,evA,simprocAttr]
 refine (must_t 2 _).run ?_
 simp only[kSW_n,QW,QM,WW,X9,VW,EZ,Qau,CH,get_nz,get_ns,evA,simprocAttr]
 refine SW_seq ?_
 simp only[QW,QM,WW,X9,VW,EZ,Qau,CH,get_nz,get_ns,evA,simprocAttr]
 refine DW_s [7,9] [(0,6),(3,6)] hmix (by kernel_rfl) rfl ?_
 simp only[l1,l2,l3,gX,QW,QM,WW,X9,VW,EZ,Qau,CH,get_nz,get_ns,evA,simprocAttr]
 refine YE (out_at _ 4800 at_ hat (by simp only[QW,QM,WW,X9,VW,EZ,Qau,CH,get_nz,get_ns];rfl) ⟨rfl,rfl⟩) rfl ?_
 simp only[QW,QM,WW,X9,VW,EZ,Qau,CH,get_nz,get_ns,evA,simprocAttr]
 refine YE (must_t 7 _) rfl ?_
 simp only[k1,k2,k3,kX,kSW_n,QW,QM,WW,X9,VW,EZ,Qau,CH,get_nz,get_ns,evA,simprocAttr]
 refine SW_seq ?_
 simp only[l1,l2,l3,gX,kSW_n,QW,QM,WW,X9,VW,EZ,Qau,CH,get_nz,get_ns,evA,simprocAttr]
 have hB1:=hB.head [.cells [.i kd],.cells [.i at_]] st.tm n
 generalize (H++[AObj.cells [.i kd],.cells [.i at_]]).set a (.cells (bX b lv pv st.tm n))=τ1 at hB1 ⊢
 have f1:=hB1.box h1
 have f3:=hB1.box h3
 refine SW_seqS (SW_drawP (cp:=[errP e]) [0] [] hmix (lst:=6) rfl rfl rfl rfl (by kernel_rfl) (by kernel_rfl) rfl ?_)
 simp only[List.dropLast,List.cons_append,List.nil_append,mvI,QW,QM,WW,X9,VW,EZ,Qau,CH,get_nz,get_ns,evA,simprocAttr]
 refine YE (bk99 _) rfl ?_
 simp only[f1,f3,hix,QW,QM,WW,X9,VW,EZ,Qau,CH,get_nz,get_ns,evA,simprocAttr]
 exact (hk _ _ _ hB1).mono fun τ hτ=>⟨rfl,hτ⟩
theorem kDo {σ:List AObj} {a:Nat} {b:BK₀} {st st':BS₀} {lv pv:AV} {O:List (Nat × AObj)} (hB:BkAt σ a b st lv pv O) {kd at_ l c bk s h d w km ce n:Int} {kf:Nat}
  (hkd:0≤kd∧kd≤6) (hat:st.tm≤at_∧at_≤4800) (hix:∀ σ,A7 7 1 1 false [kinA,.cv (.int .i64 kd)] σ=some (.fn (.func kf) [],σ))
  (hk:∀ H lv pv O,BkAt H a b { st with ev:=n } lv pv O→AC Tryz.prog kf [.ptr a 0,bvA kd at_ l c bk s h d w km ce] H fun r τ=>r=.tup []∧∃ lv' pv',BkAt τ a b st' lv' pv' O) :
  AC Tryz.prog 69 [.ptr a 0,.i n,bvA kd at_ l c bk s h d w km ce] σ fun r τ=>r=.i 0∧∃ lv' pv',BkAt τ a b { st' with tm:=at_ } lv' pv' O:=by
 refine ZF (fok69 true) (QC rfl) ?_
 have hB1:=(((hB.more (.cells [.ptr a 0])).more (.cells [.i n])).more (.cells [.i kd,.i at_,.i l,.i c,.i bk,.i s,.i h,.i d,.i w,.i km,.i ce])).more (.cells [.i 0])
 simp only[QW,QM,List.length_cons,List.length_nil,List.cons_append,List.nil_append] at hB1
 have h98:=k98 hB1 (B:=σ.length) (N:=σ.length+1) (X:=σ.length+2) (n:=n) (by simp) (by simp) (by simp) hkd hat hix (fun H lv pv hB=>hk H lv pv _ hB)
 simp only[ic69,WI,cellsOf,QW,QM,WW,X9,VW,EZ,Qau,CH,get_nz,get_ns,evA,simprocAttr]
 refine (caught_t (Q:=fun τ=>∃ lv' pv',BkAt τ a b { st' with tm:=at_ } lv' pv' O) ?_).mono ?_
 ·simp only[QW,QM,WW,X9,VW,EZ,Qau,CH,get_nz,get_ns,evA,simprocAttr]
  refine h98.mono ?_
  rintro r τ ⟨rfl,lv',pv',hB2⟩
  exact ⟨hB2.box (by simp),lv',pv',hB2.sub (by simp)⟩
 ·rintro r τ ⟨rfl,hQ⟩
  simp only[QW,QM,WW,X9,VW,EZ,Qau,CH,get_nz,get_ns,evA,simprocAttr]
  exact hQ
theorem kDoP {σ:List AObj} {a:Nat} {b:BK₀} {st st':BS₀} {lv pv:AV} {O:List (Nat × AObj)} (hB:BkAt σ a b st lv pv O) {kd at_ l c bk s h d w km ce n e:Int} {kf:Nat}
  (hkd:0≤kd∧kd≤6) (hat:st.tm≤at_∧at_≤4800) (hix:∀ σ,A7 7 1 1 false [kinA,.cv (.int .i64 kd)] σ=some (.fn (.func kf) [],σ))
  (hk:∀ H lv pv O,BkAt H a b { st with ev:=n } lv pv O→ACp Tryz.prog kf [.ptr a 0,bvA kd at_ l c bk s h d w km ce] H [errP e] fun τ=>∃ lv' pv',BkAt τ a b st' lv' pv' O) :
  AC Tryz.prog 69 [.ptr a 0,.i n,bvA kd at_ l c bk s h d w km ce] σ fun r τ=>r=.i e∧∃ lv' pv',BkAt τ a b st' lv' pv' O:=by
 refine ZF (fok69 true) (QC rfl) ?_
 have hB1:=(((hB.more (.cells [.ptr a 0])).more (.cells [.i n])).more (.cells [.i kd,.i at_,.i l,.i c,.i bk,.i s,.i h,.i d,.i w,.i km,.i ce])).more (.cells [.i 0])
 simp only[QW,QM,List.length_cons,List.length_nil,List.cons_append,List.nil_append] at hB1
 have h98:=k98p hB1 (B:=σ.length) (N:=σ.length+1) (X:=σ.length+2) (n:=n) (by simp) (by simp) (by simp) hkd hat hix (fun H lv pv hB=>hk H lv pv _ hB)
 simp only[ic69,WI,cellsOf,QW,QM,WW,X9,VW,EZ,Qau,CH,get_nz,get_ns,evA,simprocAttr]
 refine (caught_p (e:=e) (Q:=fun τ=>∃ lv' pv',BkAt τ a b st' lv' pv' O) ?_).mono ?_
 ·simp only[QW,QM,WW,X9,VW,EZ,Qau,CH,get_nz,get_ns,evA,simprocAttr]
  refine h98.mono ?_
  rintro τ ⟨lv',pv',hB2⟩
  refine ⟨hB2.box (by simp),lv',pv',?_⟩
  have hB3:BkAt τ a b st' lv' pv' ((O++[(σ.length,AObj.cells [.ptr a 0]),(σ.length+1,AObj.cells [.i n]),(σ.length+2,AObj.cells [.i kd,.i at_,.i l,.i c,.i bk,.i s,.i h,.i d,.i w,.i km,.i ce])])++[(σ.length+3,AObj.cells [.i 0])]):=by
   rw[QW];exact hB2
  exact (hB3.drop _).sub (by simp)
 ·rintro r τ ⟨rfl,hQ⟩
  simp only[QW,QM,WW,X9,VW,EZ,Qau,CH,get_nz,get_ns,evA,simprocAttr]
  exact hQ
set_option maxRecDepth 4000 in
theorem kBookP {σ:List AObj} {a:Nat} {b:BK₀} {st:BS₀} {lv pv:AV} {O:List (Nat × AObj)} (hB:BkAt σ a b st lv pv O) (hb:BOk b) (hw:st.wm=[]) (hls:LsOk st.ls)
  {l c s h at_:Nat} (hf:Fit b l c s h at_) (hcl:clrB st.ls (leN l c s h) (-1)=false) (kd bk d w km ce:Int) :
  ACp Tryz.prog 115 [.ptr a 0,bvA kd at_ l c bk s h d w km ce] σ [errP 5] fun τ=>∃ lv' pv',BkAt τ a b st lv' pv' O:=by
 refine ACp_SW (fok115 true) (QC rfl) ?_
 have hn:=hls.n
 have h49:=fun J=>bk49p (l:=l) (c:=c) (s:=s) (h:=h) (at_:=at_) (ZH hB.hX J) (show mapOf (σ++J) b.w=some [] by rw[← hw];exact (Same.app [] J).map hB.hm (by simp)) hb (hB.hl.same (Same.app [] J) fun _ _ h=>by cases h) hls.ok (by omega) hf hcl
 unfold ic115
 refine SW_seq ?_
 simp only[WI,cellsOf,kSW_n,QW,QM,WW,X9,VW,EZ,Qau,CH,get_nz,get_ns,evA,simprocAttr]
 refine SW_seq ?_
 simp only[kSW_n,QW,QM,WW,X9,VW,EZ,Qau,CH,get_nz,get_ns,evA,simprocAttr]
 refine SW_seqS (SW_regionP (ch:=[errP 5]) ?_)
 simp only[RGp,QW,QM,WW,X9,VW,EZ,Qau,CH,get_nz,get_ns,evA,simprocAttr]
 refine .inl ((h49 _).mono ?_)
 rintro τ ⟨J,rfl⟩
 refine ⟨rfl,lv,pv,?_⟩
 have:=hB.push ([.cells [.i kd,.i at_,.i l,.i c,.i bk,.i s,.i h,.i d,.i w,.i km,.i ce],.cells (leX (leN l c s h))]++J)
 simpa using this
theorem named_w {x:Sch} (hx:SchOk x) {i:Nat} (hi:i<x.ws.length):PC Tryz.prog 71 [namL (x.ws.take (i+1)),.fn (.func 72) []] (.i 0):=by
 have hl:(x.ws.take (i+1)).length=i+1:=by simp;omega
 have hget:∀ j,j<i+1→(x.ws.take (i+1))[j]! = x.ws[j]! := fun j hj=>by simp[hj]
 have h:=bk71 (x.ws.take (i+1)) i hl (by rw[hl];have:=hx.w8;omega) (fun j hj=>by rw[hget j (by omega)];exact hx.wz j (by omega))
 rw[nmE_congr (g:=fun j=>x.ws[j]!) (fun j hj=>hget j (by omega)),hx.wn i hi] at h
 exact h
theorem named_c {x:Sch} (hx:SchOk x) {i:Nat} (hi:i<x.cs.length):PC Tryz.prog 73 [carL (x.cs.take (i+1)),.fn (.func 74) []] (.i 0):=by
 have hl:(x.cs.take (i+1)).length=i+1:=by simp;omega
 have hget:∀ j,j<i+1→(x.cs.take (i+1))[j]! = x.cs[j]! := fun j hj=>by simp[hj]
 have h:=bk73 (x.cs.take (i+1)) i hl (by rw[hl];have:=hx.c5;omega) (fun j hj=>by rw[hget j (by omega)];exact hx.cz j (by omega))
 rw[nmE_congr (g:=fun j=>(x.cs[j]!).nm) (fun j hj=>by show ((x.cs.take (i+1))[j]!).nm=_;rw[hget j (by omega)]),hx.cn i hi] at h
 exact h
theorem out_two (lo hi a b:Int) (h:lo≤a∧a≤hi) (h':lo≤b∧b≤hi) {σ:List AObj} {l:Nat} (hr:rowOf σ l=some [.i a,.i b]) {K:AV→List AObj→Prop} (hk:K (.b false) σ):AC Tryz.prog 45 [.i lo,.i hi,.sl l 0 2 1] σ K:=by
 have h2:=bk45 lo hi [a,b] (by simp)
 have e:outF lo hi [a,b]=false:=by simp[outF];omega
 rw[e] at h2
 exact h2.call (.cons (.c (.c _ trivial)) (.cons (.c (.c _ trivial)) (.cons (TN (fun _=>trivial) (zs:=[a,b]) hr) .nil))) hk
set_option maxRecDepth 4000 in
theorem bk44 (x:Sch) (hx:SchOk x) {tc:CV} {ts:List (Int × Int)} (htc:TcOf tc ts) (hts:TsOk ts):PC Tryz.prog 44 [schT x tc] (.tup [.i 0,.i 0,.i 0]):=by
 refine ⟨ZF (fok44 true) (QC rfl) ?_,rfl⟩
 have w1:=hx.w1
 have w8:=hx.w8
 have c1:=hx.c1
 have c5:=hx.c5
 have hpr:=hx.pr
 have hex:=hx.ex
 have hlo:=hx.lo
 have tn:=hts.n
 have hlen:∀ σ,RZ false [.cv tc] σ=some (.i ts.length,σ):=fun σ=>by
  rcases htc with ⟨rfl,rfl⟩ | rfl <;> rfl
 have d4:decide ((ts.length:Int)>4)=false:=decide_eq_false (by omega)
 have hia:∀ i,i<ts.length→∀ σ,VP 2 [.cv tc,.cv (.int .i64 i)] σ=some (.cv (.rp (ts.flatMap tmC) (i*2)),σ):=fun i hi σ=>by
  rcases htc with ⟨rfl,rfl⟩ | rfl
  ·simp at hi
  ·exact XP hi σ
 have d1:decide (x.lo≥x.hi)=false:=decide_eq_false (by omega)
 simp only[ic44,WI,V4,cellsOf,QW,QM,WW,X9,VW,EZ,Qau,CH,get_nz,get_ns,evA,simprocAttr]
 refine out_at 1 8 x.ws.length (by omega) rfl ?_
 simp only[QW,QM,WW,X9,VW,EZ,Qau,CH,get_nz,get_ns,evA,simprocAttr]
 refine out_at 1 5 x.cs.length (by omega) rfl ?_
 simp only[hlen,d4,QW,QM,WW,X9,VW,EZ,Qau,CH,get_nz,get_ns,evA,simprocAttr]
 refine out_at 1 10000 x.pr (by omega) rfl ?_
 simp only[QW,QM,WW,X9,VW,EZ,Qau,CH,get_nz,get_ns,evA,simprocAttr]
 refine out_at 0 10000000 x.ex (by omega) rfl ?_
 simp only[QW,QM,WW,X9,VW,EZ,Qau,CH,get_nz,get_ns,evA,simprocAttr]
 refine out_two 0 24 x.lo x.hi (by omega) (by omega) rfl ?_
 simp only[d1,QW,QM,WW,X9,VW,EZ,Qau,CH,get_nz,get_ns,evA,simprocAttr]
 have hob:∀ o∈[AObj.cells [namL x.ws,carL x.cs,.i x.pr,.i x.ex,.i x.lo,.i x.hi,.cv tc],.cells [.i x.ws.length],.cells [.i x.cs.length],.cells [.i x.pr],.cells [.i x.ex],.cells [.i x.lo,.i x.hi]],Z3 6 o=true:=by simp[Z3,QO,QR]
 refine ZW x.ws.length (fun i s=>∃ v4 v5 v15 v16,s=⟨[schT x tc,.ptr 0 0,.i 0,.i 0,v4,v5,.undef,.undef,.undef,.undef,.b false,.b false,.b false,.i x.ws.length,.i i,v15,v16,.undef,.undef,.undef,.undef,.undef,.undef,.undef,.undef,.undef,.undef,.undef,.undef],[AObj.cells [namL x.ws,carL x.cs,.i x.pr,.i x.ex,.i x.lo,.i x.hi,.cv tc],.cells [.i x.ws.length],.cells [.i x.cs.length],.cells [.i x.pr],.cells [.i x.ex],.cells [.i x.lo,.i x.hi]]⟩) ?_ 0 (QF _) ⟨_,_,_,_,rfl⟩
 rintro i s hi ⟨v4,v5,v15,v16,rfl⟩
 by_cases h:i<x.ws.length
 ·have hws:IntKind.i64.wrap ((i:Int)+1)=((i+1:Nat):Int):=Q6 (by omega)
  simp only[ic44l2,QJ,h,hws,nam_sl (show i+1≤x.ws.length by omega),QW,QM,WW,X9,VW,EZ,Qau,CH,get_nz,get_ns,evA,simprocAttr]
  refine (named_w hx h).call frz ?_
  simp only[hws,QW,QM,WW,X9,VW,EZ,Qau,CH,get_nz,get_ns,evA,simprocAttr]
  exact ZL (by first | trivial | omega) ⟨_,_,_,_,rfl⟩
 have hie:i=x.ws.length:=by omega
 subst hie
 simp only[ic44l2,QJ,h,QW,QM,WW,X9,VW,EZ,Qau,CH,get_nz,get_ns,evA,simprocAttr]
 refine ZW x.cs.length (fun i s=>∃ v4 v5 v16 v6 v7 v20 v21 v22,s=⟨[schT x tc,.ptr 0 0,.i 0,.i 0,v4,v5,v6,v7,.undef,.undef,.b false,.b false,.b false,.i x.ws.length,.i x.ws.length,.b false,v16,carL x.cs,.i x.cs.length,.i i,v20,v21,v22,.undef,.undef,.undef,.undef,.undef,.undef],[AObj.cells [namL x.ws,carL x.cs,.i x.pr,.i x.ex,.i x.lo,.i x.hi,.cv tc],.cells [.i x.ws.length],.cells [.i x.cs.length],.cells [.i x.pr],.cells [.i x.ex],.cells [.i x.lo,.i x.hi]]⟩) ?_ 0 (QF _) ⟨_,_,_,_,_,_,_,_,rfl⟩
 rintro i s hi2 ⟨v4,v5,v16,v6,v7,v20,v21,v22,rfl⟩
 by_cases h':i<x.cs.length
 ·have hws:IntKind.i64.wrap ((i:Int)+1)=((i+1:Nat):Int):=Q6 (by omega)
  obtain ⟨k1,k2,k3⟩:=hx.ck i h'
  simp only[ic44l1,QJ,h',hws,XP h',car_ld h',car_sl (show i+1≤x.cs.length by omega),QW,QM,WW,X9,VW,EZ,Qau,CH,get_nz,get_ns,evA,simprocAttr]
  refine (named_c hx h').call frz ?_
  simp only[V4,QW,QM,WW,X9,VW,EZ,Qau,CH,get_nz,get_ns,evA,simprocAttr]
  refine out_at 0 1000000 _ k1 rfl ?_
  simp only[V4,QW,QM,WW,X9,VW,EZ,Qau,CH,get_nz,get_ns,evA,simprocAttr]
  refine out_at 1 1000000 _ k2 rfl ?_
  simp only[V4,QW,QM,WW,X9,VW,EZ,Qau,CH,get_nz,get_ns,evA,simprocAttr]
  refine out_at 0 255 _ k3 rfl ?_
  simp only[hws,QW,QM,WW,X9,VW,EZ,Qau,CH,get_nz,get_ns,evA,simprocAttr]
  exact W1 [AObj.cells [namL x.ws,carL x.cs,.i x.pr,.i x.ex,.i x.lo,.i x.hi,.cv tc],.cells [.i x.ws.length],.cells [.i x.cs.length],.cells [.i x.pr],.cells [.i x.ex],.cells [.i x.lo,.i x.hi]] _ rfl (by first | trivial | omega) (QF _) hob ⟨_,_,_,_,_,_,_,_,rfl⟩
 have hie:i=x.cs.length:=by omega
 subst hie
 simp only[ic44l1,QJ,h',hlen,QW,QM,WW,X9,VW,EZ,Qau,CH,get_nz,get_ns,evA,simprocAttr]
 refine ZW ts.length (fun i s=>∃ v4 v5 v16 v6 v7 v8 v9 v21 v22 v26 v27 v28,s=⟨[schT x tc,.ptr 0 0,.i 0,.i 0,v4,v5,v6,v7,v8,v9,.b false,.b false,.b false,.i x.ws.length,.i x.ws.length,.b false,v16,carL x.cs,.i x.cs.length,.i x.cs.length,.b false,v21,v22,.cv tc,.i ts.length,.i i,v26,v27,v28],[AObj.cells [namL x.ws,carL x.cs,.i x.pr,.i x.ex,.i x.lo,.i x.hi,.cv tc],.cells [.i x.ws.length],.cells [.i x.cs.length],.cells [.i x.pr],.cells [.i x.ex],.cells [.i x.lo,.i x.hi]]⟩) ?_ 0 (QF _) ⟨_,_,_,_,_,_,_,_,_,_,_,_,rfl⟩
 rintro i s hi3 ⟨v4,v5,v16,v6,v7,v8,v9,v21,v22,v26,v27,v28,rfl⟩
 by_cases h3:i<ts.length
 ·have hws:IntKind.i64.wrap ((i:Int)+1)=((i+1:Nat):Int):=Q6 (by omega)
  obtain ⟨k1,k2⟩:=hts.b i h3
  have h1:=hia i h3
  simp only[ic44l0,QJ,h3,h1,tm_ld h3,QW,QM,WW,X9,VW,EZ,Qau,CH,get_nz,get_ns,evA,simprocAttr]
  refine out_at 0 240 _ k1 rfl ?_
  simp only[V4,QW,QM,WW,X9,VW,EZ,Qau,CH,get_nz,get_ns,evA,simprocAttr]
  refine out_at 0 1000 _ k2 rfl ?_
  simp only[V4,QW,QM,WW,X9,VW,EZ,Qau,CH,get_nz,get_ns,evA,simprocAttr]
  refine DW_s [] [] hmix (by kernel_rfl) rfl ?_
  cases i with
  | zero =>
   simp only[hws,QW,QM,WW,X9,VW,EZ,Qau,CH,get_nz,get_ns,evA,simprocAttr]
   exact W1 [AObj.cells [namL x.ws,carL x.cs,.i x.pr,.i x.ex,.i x.lo,.i x.hi,.cv tc],.cells [.i x.ws.length],.cells [.i x.cs.length],.cells [.i x.pr],.cells [.i x.ex],.cells [.i x.lo,.i x.hi]] _ rfl (by first | trivial | omega) (QF _) hob ⟨_,_,_,_,_,_,_,_,_,_,_,_,rfl⟩
  | succ j =>
   obtain ⟨o1,o2⟩:=hts.o j h3
   have hd:decide (((j+1:Nat):Int)>0)=true:=decide_eq_true (by omega)
   have hj:j<ts.length:=by omega
   have hwj:IntKind.i64.wrap (((j+1:Nat):Int)-1)=(j:Int):=by rw[ZC (by omega)];omega
   have h1j:=hia j hj
   have g1:(ts.flatMap tmC)[j*2]? = some (.int .i64 (ts[j]!).1):=by
    have:=flat_get tmC_len hj (j:=0) (by decide);rw[Nat.add_zero] at this;rw[this];rfl
   have g2:(ts.flatMap tmC)[j*2+1]? = some (.int .i64 (ts[j]!).2):=by rw[flat_get tmC_len hj (by decide)];rfl
   have e1:decide ((ts[j+1]!).1≥(ts[j]!).1)=false:=decide_eq_false (by omega)
   have e2:decide ((ts[j+1]!).2<(ts[j]!).2)=false:=decide_eq_false (by omega)
   simp only[hd,hwj,h1j,g1,g2,e1,e2,hws,QW,QM,WW,X9,VW,EZ,Qau,CH,get_nz,get_ns,evA,simprocAttr]
   exact W1 [AObj.cells [namL x.ws,carL x.cs,.i x.pr,.i x.ex,.i x.lo,.i x.hi,.cv tc],.cells [.i x.ws.length],.cells [.i x.cs.length],.cells [.i x.pr],.cells [.i x.ex],.cells [.i x.lo,.i x.hi]] _ rfl (by first | trivial | omega) (QF _) hob ⟨_,_,_,_,_,_,_,_,_,_,_,_,rfl⟩
 have hie:i=ts.length:=by omega
 subst hie
 simp only[ic44l0,QJ,h3,QW,QM,WW,X9,VW,EZ,Qau,CH,get_nz,get_ns,evA,simprocAttr]
 exact frz
def bkH (x:Sch) (tc:CV) (st:BS₀):List AObj :=
 [.cells (bX (bk0 x tc 1 2 3 4) (.sl 5 0 st.ls.length 5) (match st.ps with | []=>.cv .nils | _=>.sl 6 0 st.ps.length 4) st.tm st.ev),.cells (st.km.map AV.i),.cells (st.sn.map AV.i),.cells (st.ac.map AV.i),.map st.wm,.cells (lesX st.ls)]++(match st.ps with | []=>[] | _=>[.cells (posX st.ps)])
theorem rens_cv (g:Nat→Nat) (cs:List CV):rens g (cs.map AV.cv)=cs.map AV.cv:=by
 induction cs with
 | nil=>rfl
 | cons c cs ih=>simp only[Q0,rens,ih,ren]
theorem rens_i (g:Nat→Nat) (zs:List Int):rens g (zs.map AV.i)=zs.map AV.i:=by
 induction zs with
 | nil=>rfl
 | cons c cs ih=>simp only[Q0,rens,ih,ren]
def ClM (es:List (AV × AV)):Prop:=∀ (n:Nat) (g:Nat→Nat),es.map (fun e=>(ren g e.1,ren g e.2))=es∧Z3 n (.map es)=true
theorem atF_new {gl:List Nat} {N j:Nat}:atF gl N (gl.length+j)=N+j:=by
 unfold atF;rw[if_neg (by omega)];omega
theorem atF_old {gl:List Nat} {N j:Nat} (h:j<gl.length):atF gl N j=gl.getD j 0:=by
 unfold atF;rw[if_pos h]
theorem putL_at {σ H1₀:List AObj} {gl:List Nat} (hnd:gl.Nodup) (hlt:∀ l∈gl,l<σ.length) (hle:gl.length≤H1₀.length) {l:Nat} (hl:l<H1₀.length) :
  (putL σ gl (H1₀.map (renO (atF gl σ.length))))[atF gl σ.length l]? = (H1₀[l]?).map (renO (atF gl σ.length)):=by
 obtain ⟨_,h2,_,h4⟩:=Qbb gl (H1₀.map (renO (atF gl σ.length))) σ hnd hlt (by simpa using hle)
 rw[← ZR]
 by_cases h:l<gl.length
 ·rw[atF_old h]
  exact h2 l _ (by simp[List.getD,h])
 ·obtain ⟨j,rfl⟩:∃ j,l=gl.length+j:=⟨l-gl.length,by omega⟩
  rw[atF_new];exact h4 j
theorem atF_inj {gl:List Nat} {N i j:Nat} (hnd:gl.Nodup) (hlt:∀ l∈gl,l<N) (h:atF gl N i=atF gl N j):i=j:=by
 have mem:∀ {i},i<gl.length→gl.getD i 0<N:=fun hi=>by
  simp only[List.getD,QI hi,Option.getD_some];exact hlt _ (Q2 hi)
 unfold atF at h
 split at h <;> split at h
 ·rename_i h1 h2
  simp only[List.getD,QI h1,QI h2,Option.getD_some] at h
  exact (List.getElem_inj hnd).1 h
 ·rename_i h1 h2;have:=mem h1;omega
 ·rename_i h1 h2;have:=mem h2;omega
 ·omega
theorem kAt {x:Sch} {tc:CV} {σ:List AObj} {a k s c w:Nat} {lv pv:AV} {O:List (Nat × AObj)} {st st':BS₀} {f:Nat} {e:E11} {H1₀:List AObj} {lv1 pv1:AV} (hB:BkAt σ a (bk0 x tc k s c w) st lv pv O) (hne:st.ls≠[]) (hcm:ClM st.wm) (hcm':ClM st'.wm)
  (h:AC Tryz.prog f [.ptr 0 0,bvE e] (bkH x tc st) fun r τ=>r=.tup []∧τ=H1₀) (hB1:BkAt H1₀ 0 (bk0 x tc 1 2 3 4) st' lv1 pv1 []) :
  AC Tryz.prog f [.ptr a 0,bvE e] σ fun r τ=>r=.tup []∧∃ lv' pv',BkAt τ a (bk0 x tc k s c w) st' lv' pv' O:=by
 obtain ⟨p,rfl,hp⟩:∃ p,lv=.sl p 0 st.ls.length 5∧rowOf σ p=some (lesX st.ls):=by
  rcases hB.hl with ⟨_,h⟩ | h
  ·exact absurd h hne
  ·exact h
 obtain ⟨gl,hgl,hglO,hat⟩:∃ gl:List Nat,gl.length=(bkH x tc st).length∧(∃ r,gl=a::k::s::c::w::p::r∧r=slOf pv)∧AtOk σ (atF gl σ.length) (bkH x tc st).length gl (bkH x tc st):=by
  have oX:=WO hB.hX
  have ok:=WO hB.hk
  have os:=WO hB.hs
  have oc:=WO hB.hc
  have op:=WO hp
  have om:σ[w]? = some (.map st.wm):=by
   have:=hB.hm
   unfold mapOf at this
   cases hg:σ[w]? with
   | none=>rw[show (bk0 x tc k s c w).w=w from rfl,hg] at this;cases this
   | some o=>rw[show (bk0 x tc k s c w).w=w from rfl,hg] at this;cases o <;> simp at this;rw[this]
  have ci:∀ n (zs:List Int),Z3 n (.cells (zs.map AV.i))=true:=fun n zs=>by
   simp only[Z3];rw[Z8];intro v hv;obtain ⟨z,_,rfl⟩:=ZP.1 hv;rfl
  have cc:∀ n (cs:List CV),Z3 n (.cells (cs.map AV.cv))=true:=fun n cs=>by
   simp only[Z3];rw[Z8];intro v hv;obtain ⟨z,_,rfl⟩:=ZP.1 hv;rfl
  have ri:∀ g (zs:List Int),renO g (.cells (zs.map AV.i))=.cells (zs.map AV.i):=fun g zs=>by simp only[renO,rens_i]
  have rc:∀ g (cs:List CV),renO g (.cells (cs.map AV.cv))=.cells (cs.map AV.cv):=fun g cs=>by simp only[renO,rens_cv]
  rcases hB.hp with ⟨rfl,hps⟩ | ⟨q,rfl,hq⟩
  ·refine ⟨[a,k,s,c,w,p],by simp[bkH,hps],⟨[],rfl,rfl⟩,?_⟩
   simp only[bkH,hps,ZU,AtOk,List.length_cons,List.length_nil]
   refine ⟨⟨trivial,rfl,?_⟩,⟨trivial,ci _ _,?_⟩,⟨trivial,ci _ _,?_⟩,⟨trivial,ci _ _,?_⟩,⟨trivial,(hcm _ id).2,?_⟩,⟨trivial,cc _ _,?_⟩,trivial⟩
   ·rw[oX];rfl
   ·rw[ri];exact ok
   ·rw[ri];exact os
   ·rw[ri];exact oc
   ·rw[om];simp only[renO,(hcm 0 _).1]
   ·rw[rc];exact op
  ·cases hps:st.ps with
   | nil=>exact absurd (hB.pn hps) (by simp)
   | cons y ys =>
    have oq:=WO hq
    refine ⟨[a,k,s,c,w,p,q],by simp[bkH,hps],⟨[q],rfl,rfl⟩,?_⟩
    simp only[bkH,hps,List.cons_append,List.nil_append,AtOk,List.length_cons,List.length_nil]
    refine ⟨⟨trivial,rfl,?_⟩,⟨trivial,ci _ _,?_⟩,⟨trivial,ci _ _,?_⟩,⟨trivial,ci _ _,?_⟩,⟨trivial,(hcm _ id).2,?_⟩,⟨trivial,cc _ _,?_⟩,⟨trivial,cc _ _,?_⟩,trivial⟩
    ·rw[oX,hps];rfl
    ·rw[ri];exact ok
    ·rw[ri];exact os
    ·rw[ri];exact oc
    ·rw[om];simp only[renO,(hcm 0 _).1]
    ·rw[rc];exact op
    ·rw[rc,← hps];exact oq
 obtain ⟨rr,rfl,hrr⟩:=hglO
 have hsub:((a::k::s::c::w::p::rr)++O.map (·.1)).Nodup:=by
  have:=hB.nd
  rw[hrr]
  simpa[slOf,bk0] using this
 have hltO:∀ l∈(a::k::s::c::w::p::rr)++O.map (·.1),l<σ.length:=fun l hl=>hB.lt l (by rw[hrr] at hl;simpa[slOf,bk0] using hl)
 obtain ⟨hnd,hndO,hdis⟩:=List.nodup_append.1 hsub
 have hlt:∀ l∈a::k::s::c::w::p::rr,l<σ.length:=fun l hl=>hltO l (J3 _ hl)
 have hr:=AC.at _ h hnd (by rfl) hat
 have e0:rens (atF (a::k::s::c::w::p::rr) σ.length) [.ptr 0 0,bvE e]=[.ptr a 0,bvE e]:=rfl
 rw[e0] at hr
 refine hr.mono ?_
 rintro r τ ⟨r0,τ0,⟨rfl,rfl⟩,hle,rfl,rfl⟩
 rw[← hgl] at hle
 have hat':=fun {l:Nat} (hl:l<τ0.length)=>putL_at (σ:=σ) (H1₀:=τ0) hnd hlt hle hl
 have hthird:=(Qbb (a::k::s::c::w::p::rr) (τ0.map (renO (atF (a::k::s::c::w::p::rr) σ.length))) σ hnd hlt (by simpa using hle)).2.2.1
 have hinj:=fun {i j:Nat}=>atF_inj (i:=i) (j:=j) hnd hlt
 have g0:atF (a::k::s::c::w::p::rr) σ.length 0=a:=rfl
 have g1:atF (a::k::s::c::w::p::rr) σ.length 1=k:=rfl
 have g2:atF (a::k::s::c::w::p::rr) σ.length 2=s:=rfl
 have g3:atF (a::k::s::c::w::p::rr) σ.length 3=c:=rfl
 have g4:atF (a::k::s::c::w::p::rr) σ.length 4=w:=rfl
 have gO:∀ i,∀ o∈O.map (·.1),atF (a::k::s::c::w::p::rr) σ.length i≠o:=fun i o ho he=>by
  have h1:=hltO o (List.mem_append_right _ ho)
  by_cases hi:i<(a::k::s::c::w::p::rr).length
  ·rw[atF_old hi] at he
   refine hdis _ ?_ o ho he
   simp only[List.getD,QI hi,Option.getD_some];exact Q2 hi
  ·unfold atF at he;rw[if_neg hi] at he;omega
 generalize atF (a::k::s::c::w::p::rr) σ.length=G at *
 generalize putL σ (a::k::s::c::w::p::rr) (τ0.map (renO G))=τ at *
 have row:∀ {l:Nat} {cs:List AV},rowOf τ0 l=some cs→rowOf τ (G l)=some (rens G cs):=fun {l cs} h=>by
  have h1:=WO h
  have:=hat' (QH.1 h1).1
  unfold rowOf
  rw[this,h1];rfl
 refine ⟨rfl,ren G lv1,ren G pv1,?_⟩
 obtain ⟨y1,y2,y3,y4,y5,y6,y7,y8,y9,y10⟩:=hB1
 have slr:∀ v:AV,slOf (ren G v)=(slOf v).map G:=fun v=>by cases v <;> simp[slOf,ren]
 refine ⟨?_,?_,?_,?_,?_,?_,?_,fun o ho=>?_,?_,fun h=>by rw[y10 h];rfl⟩
 ·have:=row y1
  rw[g0] at this
  rw[this]
  simp only[rens,ren,bk0,g1,g2,g3,g4]
 ·have:=row y2
  rw[show G (bk0 x tc 1 2 3 4).k=k from g1,rens_i] at this;exact this
 ·have:=row y3
  rw[show G (bk0 x tc 1 2 3 4).s=s from g2,rens_i] at this;exact this
 ·have:=row y4
  rw[show G (bk0 x tc 1 2 3 4).c=c from g3,rens_i] at this;exact this
 ·have hm:=y5
  have hl:=map_lt hm
  have hg:τ0[4]? = some (.map st'.wm):=by
   unfold mapOf at hm
   cases hg:τ0[4]? with
   | none=>rw[show (bk0 x tc 1 2 3 4).w=4 from rfl,hg] at hm;cases hm
   | some o=>rw[show (bk0 x tc 1 2 3 4).w=4 from rfl,hg] at hm;cases o <;> simp at hm;rw[hm]
  have:=hat' (l:=4) hl
  rw[g4,hg] at this
  simp only[Option.map_some,renO,(hcm' 0 G).1] at this
  show mapOf τ w=_
  unfold mapOf;rw[this]
 ·rcases y6 with ⟨rfl,h⟩ | ⟨q,rfl,hq⟩
  ·exact .inl ⟨rfl,h⟩
  ·have:=row hq
   rw[rens_cv] at this
   exact .inr ⟨G q,rfl,this⟩
 ·rcases y7 with ⟨rfl,h⟩ | ⟨q,rfl,hq⟩
  ·exact .inl ⟨rfl,h⟩
  ·have:=row hq
   rw[rens_cv] at this
   exact .inr ⟨G q,rfl,this⟩
 ·have hm:o.1∈O.map (·.1):=List.mem_map_of_mem ho
  rw[hthird o.1 (hltO _ (List.mem_append_right _ hm)) (fun hg=>hdis _ hg _ hm rfl)]
  exact hB.hO o ho
 ·have e1:a::(bk0 x tc k s c w).k::(bk0 x tc k s c w).s::(bk0 x tc k s c w).c::(bk0 x tc k s c w).w::(slOf (ren G lv1)++(slOf (ren G pv1)++O.map (·.1)))=((0::1::2::3::4::(slOf lv1++slOf pv1)).map G)++O.map (·.1):=by
   simp only[slr,Q0,ZS,g0,g1,g2,g3,g4,bk0,List.cons_append,QW]
  rw[e1,List.nodup_append]
  refine ⟨?_,hndO,fun y hy o ho=>?_⟩
  ·have hn:(0::1::2::3::4::(slOf lv1++slOf pv1)).Nodup:=by simpa[bk0] using y9
   exact List.pairwise_map.2 (hn.imp fun hne he=>hne (hinj he))
  ·obtain ⟨i,_,rfl⟩:=ZP.1 hy
   exact gO i o ho
end Go.Proofs.YtfnhbbohjnjfnaaGreat.AM
namespace Go.Proofs.YtfnhbbohjnjfnaaGreat.AM
variable [Dr]
open Go
abbrev vs21:List Nat:=[0,1]
def ic21:IC:=(.seq (.region [jw 0 .mv [jS]])
 (.seq (.region [jk 19 [],jm 1 0])
 (.seq (.dr [[],[0],[],[2],[1,3],[],[5],[6],[7],[4,8,4],[9,9,0,1,2,3,4,5,6,7,8,9]] [jv 1,jq .slS3 [.t 0,jn 3,jn 3],jq (.build [(.cv (.int .i64 0)),(.cv (.int .i64 0)),(.cv (.int .i64 0)),(.cv (.int .i64 0)),(.cv (.int .i64 0)),(.cv (.int .i64 0)),(.cv (.int .i64 0)),(.cv (.int .i64 0)),(.cv (.int .i64 0)),(.cv (.int .i64 0)),(.cv (.int .i64 0))] [(0,1),(1,1),(7,1),(8,1)]) [jn 2,jn 4,jn 1,jn 1],jq (.bslice 11 1 [(.cv (.int .i64 0)),(.cv (.int .i64 0)),(.cv (.int .i64 0)),(.cv (.int .i64 0)),(.cv (.int .i64 0)),(.cv (.int .i64 0)),(.cv (.int .i64 0)),(.cv (.int .i64 0)),(.cv (.int .i64 0)),(.cv (.int .i64 0)),(.cv (.int .i64 0))] [(0,11)]) [.t 2],jq (.append 11 88) [.t 1,.t 3],jv 1,jq (.iaS 11) [.t 5,jn 3],jq (.loadN 11) [.t 6],jq (.bslice 11 1 [(.cv (.int .i64 0)),(.cv (.int .i64 0)),(.cv (.int .i64 0)),(.cv (.int .i64 0)),(.cv (.int .i64 0)),(.cv (.int .i64 0)),(.cv (.int .i64 0)),(.cv (.int .i64 0)),(.cv (.int .i64 0)),(.cv (.int .i64 0)),(.cv (.int .i64 0))] [(0,11)]) [.t 7],jq (.append 11 88) [.t 4,.t 8],jm 0 9])
 .ret)))
abbrev rs21:List RC:=[(.v 0)]
theorem fok21 (p:Bool):FnOk Tryz.prog 21 ⟨ic21,vs21,13,rs21,p⟩:=.mk2 Tryz.func21 (by kernel_rfl) (by kernel_rfl) (by kernel_rfl) (by kernel_rfl) (by kernel_rfl)
def bkTab (b81 b117:Code) (p19:Bool):List (Nat × FE) :=
 [(16,⟨ic16,vs16,10,rs16,true⟩),
 (17,⟨ic17,vs17,6,rs17,true⟩),
 (19,⟨ic19,vs19,6,rs19,p19⟩),
 (21,⟨ic21,vs21,13,rs21,true⟩),
 (22,⟨ic22,vs22,26,rs22,true⟩),
 (23,⟨ic23,vs23,31,rs23,true⟩),
 (24,⟨ic24,vs24,26,rs24,true⟩),
 (25,⟨ic25,vs25,26,rs25,true⟩),
 (44,⟨ic44,vs44,160,rs44,true⟩),
 (45,⟨ic45,vs45,10,rs45,true⟩),
 (50,⟨ic50,vs50,26,rs50,true⟩),
 (64,⟨ic64,vs64,9,rs64,true⟩),
 (71,⟨ic71,vs71,26,rs71,true⟩),
 (72,⟨ic72,vs72,4,rs72,true⟩),
 (73,⟨ic73,vs73,26,rs73,true⟩),
 (74,⟨ic74,vs74,5,rs74,true⟩),
 (75,⟨ic75,vs75,13,rs75,true⟩),
 (79,⟨ic79,vs79,8,rs79,true⟩),
 (80,⟨ic80,vs80,25,rs80,true⟩),
 (81,⟨ic81 b81,vs81,28,rs81,true⟩),
 (96,⟨ic96,vs96,19,rs96,true⟩),
 (100,⟨ic100,vs100,34,rs100,true⟩),
 (101,⟨ic101,vs101,9,rs101,true⟩),
 (102,⟨ic102,vs102,10,rs102,true⟩),
 (103,⟨ic103,vs103,9,rs103,true⟩),
 (104,⟨ic104,vs104,10,rs104,true⟩),
 (105,⟨ic105,vs105,36,rs105,true⟩),
 (106,⟨ic106,vs106,4,rs106,false⟩),
 (117,⟨ic117 b117,vs117,74,rs117,false⟩),
 (118,⟨ic118,vs118,104,rs118,false⟩),
 (120,⟨ic120,vs120,41,rs120,false⟩),
 (122,⟨ic122,vs122,10,rs122,true⟩),
 (123,⟨ic123,vs123,19,rs123,true⟩),
 (124,⟨ic124,vs124,19,rs124,true⟩),
 (125,⟨ic125,vs125,26,rs125,false⟩),
 (138,⟨ic138,vs138,39,rs138,false⟩),
 (139,⟨ic139,vs139,49,rs139,false⟩),
 (140,⟨ic140,vs140,9,rs140,true⟩),
 (141,⟨ic141,vs141,55,rs141,false⟩),
 (142,⟨ic142,vs142,7,rs142,true⟩),
 (143,⟨ic143,vs143,10,rs143,true⟩),
 (144,⟨ic144,vs144,10,rs144,true⟩),
 (146,⟨ic146,vs146,13,rs146,true⟩)]
theorem bkTab_ok (p19:Bool):TOk Tryz.prog (bkTab (Tryz.f81.body.getD .skip) (Tryz.f117.body.getD .skip) p19) :=
 ⟨fok16 _,fok17 _,fok19 _,fok21 _,fok22 _,fok23 _,fok24 _,fok25 _,fok44 _,fok45 _,fok50 _,fok64 _,fok71 _,fok72 _,fok73 _,fok74 _,fok75 _,fok79 _,fok80 _,fok81 _,fok96 _,fok100 _,fok101 _,fok102 _,fok103 _,fok104 _,fok105 _,fok106 _,fok117 _,fok118 _,fok120 _,fok122 _,fok123 _,fok124 _,fok125 _,fok138 _,fok139 _,fok140 _,fok141 _,fok142 _,fok143 _,fok144 _,fok146 _,trivial⟩
end Go.Proofs.YtfnhbbohjnjfnaaGreat.AM
namespace Go.Proofs.YtfnhbbohjnjfnaaGreat.AM
variable [Dr]
open Go Go.Proofs.YtfnhbbohjnjfnaaGreat.Qu Pl
set_option maxRecDepth 100000
def T5 (b81 b117:Code) (p:Bool):Tb:=⟨tget (bkTab b81 b117 p),[]⟩
theorem T5_ok (p:Bool):TbOk Tryz.prog (T5 (Tryz.f81.body.getD .skip) (Tryz.f117.body.getD .skip) p):=⟨fun _ _ h=>TOk.get (bkTab_ok p) _ _ h,trivial⟩
abbrev run5 (b81 b117:Code) (p:Bool) (f:Nat) (as_:List AV) (σ:List AObj):Option (Bool × AV × List AObj):=JL (T5 b81 b117 p) (UI (T5 b81 b117 p) 1000000 40) 1000000 [] f as_ σ
def ws0:List ByteArray:=[bts [97,110,110],bts [98,101,110]]
def cs0:List Car:=[⟨bts [109,105,110,105],0,100,2⟩,⟨bts [118,97,110],500,200,0⟩]
def x0:Sch:=⟨ws0,cs0,4000,30000,8,20⟩
def ts0:List (Int × Int):=[(48,0),(24,500)]
def tc0:CV:=.rsl [.int .i64 48,.int .i64 0,.int .i64 24,.int .i64 500] 2
theorem tc0_of:TcOf tc0 ts0:=.inr rfl
theorem x0_ok:SchOk x0:=by
 refine ⟨by decide,by decide,by decide,by decide,fun i hi=>?_,fun i hi=>?_,fun i hi=>?_,fun i hi=>?_,fun i hi=>?_,by decide,by decide,by decide⟩
 ·have hi:i<2:=hi
  match i,hi with
  | 0,_=>decide
  | 1,_=>decide
 ·have hi:i<2:=hi
  match i,hi with
  | 0,_=>decide
  | 1,_=>decide
 ·have hi:i<2:=hi
  match i,hi with
  | 0,_=>rfl
  | 1,_=>rfl
 ·have hi:i<2:=hi
  match i,hi with
  | 0,_=>rfl
  | 1,_=>rfl
 ·have hi:i<2:=hi
  match i,hi with
  | 0,_=>decide
  | 1,_=>decide
theorem ts0_ok:TsOk ts0:=by
 refine ⟨by decide,fun i hi=>?_,fun i hi=>?_⟩
 ·have hi:i<2:=hi
  match i,hi with
  | 0,_=>decide
  | 1,_=>decide
 ·have hi:i+1<2:=hi
  match i,hi with
  | 0,_=>decide
theorem chk0:PC Tryz.prog 44 [schT x0 tc0] (.tup [.i 0,.i 0,.i 0]):=bk44 x0 x0_ok tc0_of ts0_ok
def q1:BS₀:=⟨[⟨0,0,33,2,0⟩],[0,500],[0,0],[0,0,0,0,0,0],[],[],0,0⟩
def q2:BS₀:={ q1 with ev:=1 }
def q3:BS₀:=⟨[⟨0,0,33,2,0⟩,⟨1,1,34,1,0⟩],[0,500],[0,0],[0,0,0,0,0,0],[],[],0,2⟩
def q4:BS₀:=⟨[⟨0,0,33,2,1⟩,⟨1,1,34,1,0⟩],[0,500],[0,0],[-4000,0,4000,0,0,0],[],[⟨3,0,2,4000⟩],5,3⟩
def q5:BS₀:=⟨[⟨0,0,33,2,1⟩,⟨1,1,34,1,2⟩],[0,650],[0,150],[-4000,-4000,8000,0,0,0],[],[⟨3,0,2,4000⟩,⟨4,1,2,4000⟩],35,4⟩
def q6:BS₀:=⟨[⟨0,0,33,2,1⟩,⟨1,1,34,1,3⟩],[0,650],[0,150],[-4000,-4000,-22000,50000,-20000,0],[],[⟨3,0,2,4000⟩,⟨4,1,2,4000⟩,⟨5,2,3,30000⟩,⟨5,4,3,20000⟩],36,5⟩
def w4:BS₀:=⟨[⟨0,0,57,2,0⟩,⟨1,1,34,1,0⟩],[0,500],[0,0],[0,0,0,0,0,0],[(.i 1,.i 2)],[],4,3⟩
def w5:BS₀:=⟨[⟨0,0,57,2,1⟩,⟨1,1,34,1,0⟩],[0,500],[0,0],[0,0,0,0,0,0],[(.i 1,.i 2)],[],5,4⟩
theorem lsOk_of {ls:List Le} (h:ls.all (fun x=>decide (0≤x.s∧x.s≤5000)&&decide (0≤x.h∧x.h≤100))=true) (hn:ls.length≤1000):LsOk ls:=by
 refine ⟨fun i hi=>?_,hn⟩
 rw[getElem!_pos ls i hi]
 have:=Q1.1 h _ (Q2 hi)
 simp only[QD,decide_eq_true_eq] at this
 exact ⟨this.1,this.2⟩
theorem and20:binF .and .int (.i 2) (.i 0)=some (.i 0):=by kernel_rfl
theorem and00:binF .and .int (.i 0) (.i 0)=some (.i 0):=by kernel_rfl
theorem bok0 (k s c w:Nat):BOk (bk0 x0 tc0 k s c w):=by
 refine ⟨(by decide:(2:Nat)≤8),(by decide:(2:Nat)≤5),fun i hi=>?_⟩
 have hi:i<2:=hi
 match i,hi with
 | 0,_=>exact and20
 | 1,_=>exact and00
abbrev e0:E11:=⟨0,0,0,0,0,33,2,0,0,0,0⟩
abbrev e1:E11:=⟨0,0,1,0,0,34,1,0,0,0,0⟩
abbrev e2:E11:=⟨0,0,1,1,0,34,1,0,0,0,0⟩
abbrev e3:E11:=⟨1,5,0,0,0,0,0,0,0,0,0⟩
abbrev e4:E11:=⟨3,35,0,0,1,0,0,0,0,150,0⟩
abbrev e5:E11:=⟨5,36,0,0,1,0,0,0,0,0,50000⟩
abbrev eW:E11:=⟨2,4,0,0,0,0,0,1,1,0,0⟩
theorem step0:StepAt x0 tc0 0 e0 (st0 x0) q1 0:=fun σ a k s c w lv pv O hB =>
 kDo (st':={ q1 with ev:=0 }) hB (kd:=0) (at_:=0) (n:=0) (by decide) (by decide) (fun σ=>rfl) fun H lv pv O hB=>(kBook hB (bok0 k s c w) rfl (lsOk_of rfl (by decide)) (l:=0) (c:=0) (s:=33) (h:=2) (at_:=0) ⟨show (0:Nat)<2 by decide,show (0:Nat)<2 by decide,by decide,by decide,by decide,by decide,show (8:Int)≤((33 % 24:Nat):Int) by decide,show ((33 % 24+2:Nat):Int)≤20 by decide⟩ (by decide) 0 0 0 0 0 0).mono fun r τ ⟨h1,lv',h2⟩=>⟨h1,lv',_,h2⟩
theorem step1:StepAt x0 tc0 1 e1 q1 q2 5:=fun σ a k s c w lv pv O hB =>
 kDoP (st':=q2) hB (kd:=0) (at_:=0) (n:=1) (by decide) (by decide) (fun σ=>rfl) fun H lv pv O hB=>kBookP hB (bok0 k s c w) rfl (lsOk_of rfl (by decide)) (l:=1) (c:=0) (s:=34) (h:=1) (at_:=0) ⟨show (1:Nat)<2 by decide,show (0:Nat)<2 by decide,by decide,by decide,by decide,by decide,show (8:Int)≤((34 % 24:Nat):Int) by decide,show ((34 % 24+1:Nat):Int)≤20 by decide⟩ (by decide) 0 0 0 0 0 0
theorem step2:StepAt x0 tc0 2 e2 q2 q3 0:=fun σ a k s c w lv pv O hB =>
 kDo (st':={ q3 with tm:=0 }) hB (kd:=0) (at_:=0) (n:=2) (by decide) (by decide) (fun σ=>rfl) fun H lv pv O hB=>(kBook hB (bok0 k s c w) rfl (lsOk_of rfl (by decide)) (l:=1) (c:=1) (s:=34) (h:=1) (at_:=0) ⟨show (1:Nat)<2 by decide,show (1:Nat)<2 by decide,by decide,by decide,by decide,by decide,show (8:Int)≤((34 % 24:Nat):Int) by decide,show ((34 % 24+1:Nat):Int)≤20 by decide⟩ (by decide) 0 0 0 0 0 0).mono fun r τ ⟨h1,lv',h2⟩=>⟨h1,lv',_,h2⟩
theorem acOk_of {b:BK₀} {st:BS₀} (hl:st.ac.length=b.ws.length+4) (h:st.ac.all (fun z=>decide (-1000000000000≤z∧z≤1000000000000))=true) (hp:st.ps.length≤1000):AcOk b st:=by
 refine ⟨hl,fun j=>?_,hp⟩
 unfold gI
 cases hj:st.ac[j]? with
 | none=>simp
 | some z =>
  have:=Q1.1 h z (QZ hj)
  simpa using this
theorem step3:StepAt x0 tc0 3 e3 q3 q4 0:=fun σ a k s c w lv pv O hB =>
 kDo (st':={ q4 with tm:=0 }) hB (kd:=1) (at_:=5) (n:=3) (by decide) (by decide) (fun σ=>rfl) fun H lv pv O hB=>kCancel hB (lsOk_of rfl (by decide)) (acOk_of rfl rfl (by decide)) (show (2:Nat)≤8 by decide) tc0_of (by decide) (k:=0) (by decide) rfl (i:=0) rfl (show (0:Nat)<2 by decide) (at_:=5) (by decide) (show (0:Int)≤4000∧(4000:Int)≤10000 by decide) (by decide) (F:=4000) (show feeT ts0 2 4000 (33-5)=4000 by decide +kernel) (by decide) (by decide) 1 0 0 0 0 0 0 0 0
theorem stepW:StepAt x0 tc0 4 e3 w4 w5 0:=fun σ a k s c w lv pv O hB =>
 kDo (st':={ w5 with tm:=4 }) hB (kd:=1) (at_:=5) (n:=4) (by decide) (by decide) (fun σ=>rfl) fun H lv pv O hB=>kCancel hB (lsOk_of rfl (by decide)) (acOk_of rfl rfl (by decide)) (show (2:Nat)≤8 by decide) tc0_of (by decide) (k:=0) (by decide) rfl (i:=0) rfl (show (0:Nat)<2 by decide) (at_:=5) (by decide) (show (0:Int)≤4000∧(4000:Int)≤10000 by decide) (by decide) (F:=0) (show feeT ts0 2 4000 (57-5)=0 by decide +kernel) (by decide) (by decide) 1 0 0 0 0 0 0 0 0
theorem clM_nil:ClM []:=fun n g=>⟨rfl,rfl⟩
theorem clM_one:ClM [(.i 1,.i 2)]:=fun n g=>⟨rfl,rfl⟩
theorem runWea (b81 b117:Code):(run5 b81 b117 false 117 [.ptr 0 0,bvE eW] (bkH x0 tc0 { q3 with ev:=3 })).map (fun r=>r.2.1)=some (.tup []):=by kernel_rfl
theorem runWea2 (b81 b117:Code):(run5 b81 b117 false 117 [.ptr 0 0,bvE eW] (bkH x0 tc0 { q3 with ev:=3 })).map (fun r=>r.2.2.take 6)=some (bkH x0 tc0 { w4 with tm:=0 }):=by kernel_rfl
theorem runDrv (b81 b117:Code):(run5 b81 b117 false 118 [.ptr 0 0,bvE e4] (bkH x0 tc0 { q4 with ev:=4 })).map (fun r=>r.2.1)=some (.tup []):=by kernel_rfl
def bkZ (x:Sch) (tc:CV) (st:BS₀) (z:Nat):List AObj :=
 [.cells (bX (bk0 x tc 1 2 3 4) (.sl 5 0 st.ls.length 5) (.sl z 0 st.ps.length 4) st.tm st.ev),.cells (st.km.map AV.i),.cells (st.sn.map AV.i),.cells (st.ac.map AV.i),.map st.wm,.cells (lesX st.ls)]
theorem runDrv2 (b81 b117:Code):(run5 b81 b117 false 118 [.ptr 0 0,bvE e4] (bkH x0 tc0 { q4 with ev:=4 })).map (fun r=>r.2.2.take 6)=some (bkZ x0 tc0 { q5 with tm:=5 } 15):=by kernel_rfl
theorem runDrv3 (b81 b117:Code):(run5 b81 b117 false 118 [.ptr 0 0,bvE e4] (bkH x0 tc0 { q4 with ev:=4 })).map (fun r=>r.2.2[15]?)=some (some (.cells (posX q5.ps))):=by kernel_rfl
theorem runCra (b81 b117:Code):(run5 b81 b117 false 120 [.ptr 0 0,bvE e5] (bkH x0 tc0 { q5 with ev:=5 })).map (fun r=>r.2.1)=some (.tup []):=by kernel_rfl
theorem runCra2 (b81 b117:Code):(run5 b81 b117 false 120 [.ptr 0 0,bvE e5] (bkH x0 tc0 { q5 with ev:=5 })).map (fun r=>r.2.2.take 6)=some (bkZ x0 tc0 { q6 with tm:=35 } 14):=by kernel_rfl
theorem runCra3 (b81 b117:Code):(run5 b81 b117 false 120 [.ptr 0 0,bvE e5] (bkH x0 tc0 { q5 with ev:=5 })).map (fun r=>r.2.2[14]?)=some (some (.cells (posX q6.ps))):=by kernel_rfl
theorem z_at {x:Sch} {tc:CV} {τ:List AObj} {st:BS₀} {z:Nat} (h:τ.take 6=bkZ x tc st z) (hz:τ[z]? = some (.cells (posX st.ps))) (h6:6≤z) (hps:st.ps≠[]) :
  BkAt τ 0 (bk0 x tc 1 2 3 4) st (.sl 5 0 st.ls.length 5) (.sl z 0 st.ps.length 4) []:=by
 have g:∀ l,l<6→τ[l]? = (bkZ x tc st z)[l]? := fun l hl=>by rw[← h,Z7,if_pos hl]
 refine ⟨?_,?_,?_,?_,?_,.inr ⟨5,rfl,?_⟩,.inr ⟨z,rfl,?_⟩,fun o ho=>by simp at ho,?_,fun h=>absurd h hps⟩
 ·unfold rowOf;rw[g 0 (by decide)];rfl
 ·show rowOf τ 1=_;unfold rowOf;rw[g 1 (by decide)];rfl
 ·show rowOf τ 2=_;unfold rowOf;rw[g 2 (by decide)];rfl
 ·show rowOf τ 3=_;unfold rowOf;rw[g 3 (by decide)];rfl
 ·show mapOf τ 4=_;unfold mapOf;rw[g 4 (by decide)];rfl
 ·unfold rowOf;rw[g 5 (by decide)];rfl
 ·unfold rowOf;rw[hz]
 ·simp only[slOf,bk0,WS,ZU,List.cons_append,List.nil_append,WQ,ZD,WK,or_false,not_or,YU,and_true,not_false_eq_true]
  omega
theorem h_at {x:Sch} {tc:CV} {τ:List AObj} {st:BS₀} (hps:st.ps=[]) (h:τ.take 6=bkH x tc st):BkAt τ 0 (bk0 x tc 1 2 3 4) st (.sl 5 0 st.ls.length 5) (.cv .nils) []:=by
 have g:∀ l,l<6→τ[l]? = (bkH x tc st)[l]? := fun l hl=>by rw[← h,Z7,if_pos hl]
 simp only[bkH,hps,ZU] at g
 refine ⟨?_,?_,?_,?_,?_,.inr ⟨5,rfl,?_⟩,.inl ⟨rfl,hps⟩,fun o ho=>by simp at ho,?_,fun _=>rfl⟩
 ·unfold rowOf;rw[g 0 (by decide)];rfl
 ·show rowOf τ 1=_;unfold rowOf;rw[g 1 (by decide)];rfl
 ·show rowOf τ 2=_;unfold rowOf;rw[g 2 (by decide)];rfl
 ·show rowOf τ 3=_;unfold rowOf;rw[g 3 (by decide)];rfl
 ·show mapOf τ 4=_;unfold mapOf;rw[g 4 (by decide)];rfl
 ·unfold rowOf;rw[g 5 (by decide)];rfl
 ·simp[slOf,bk0]
theorem ac_of {f:Nat} {e:E11} {H:List AObj} (h1:∀ b81 b117,(run5 b81 b117 false f [.ptr 0 0,bvE e] H).map (fun r=>r.2.1)=some (.tup [])) :
  ∃ kb τ,run5 (Tryz.f81.body.getD .skip) (Tryz.f117.body.getD .skip) false f [.ptr 0 0,bvE e] H=some (kb,.tup [],τ)∧AC Tryz.prog f [.ptr 0 0,bvE e] H fun r τ'=>r=.tup []∧τ'=τ:=by
 have h:=h1 (Tryz.f81.body.getD .skip) (Tryz.f117.body.getD .skip)
 rw[QA] at h
 obtain ⟨⟨kb,v,τ⟩,h2,h3⟩:=h
 simp only at h3
 subst h3
 obtain ⟨g1,_,_⟩:=R7 (Checked.mixed Tryz.checked) (T5_ok false) (N2 (Checked.mixed Tryz.checked) (T5_ok false) 1000000 40) 1000000 (.nil _) h2
 exact ⟨kb,τ,h2,g1⟩
theorem stepD:StepAt x0 tc0 4 e4 q4 q5 0:=fun σ a k s c w lv pv O hB =>
 kDo (st':={ q5 with tm:=5 }) hB (kd:=3) (at_:=35) (n:=4) (by decide) (by decide) (fun σ=>rfl) fun H lv pv O hB=>by
  obtain ⟨kb,τ,h1,h2⟩:=ac_of runDrv
  have t6:=runDrv2 (Tryz.f81.body.getD .skip) (Tryz.f117.body.getD .skip)
  have tz:=runDrv3 (Tryz.f81.body.getD .skip) (Tryz.f117.body.getD .skip)
  rw[h1] at t6 tz
  injection t6 with t6
  injection tz with tz
  exact kAt (e:=e4) hB (by decide) clM_nil clM_nil h2 (z_at t6 tz (by decide) (by decide))
theorem stepC:StepAt x0 tc0 5 e5 q5 q6 0:=fun σ a k s c w lv pv O hB =>
 kDo (st':={ q6 with tm:=35 }) hB (kd:=5) (at_:=36) (n:=5) (by decide) (by decide) (fun σ=>rfl) fun H lv pv O hB=>by
  obtain ⟨kb,τ,h1,h2⟩:=ac_of runCra
  have t6:=runCra2 (Tryz.f81.body.getD .skip) (Tryz.f117.body.getD .skip)
  have tz:=runCra3 (Tryz.f81.body.getD .skip) (Tryz.f117.body.getD .skip)
  rw[h1] at t6 tz
  injection t6 with t6
  injection tz with tz
  exact kAt (e:=e5) hB (by decide) clM_nil clM_nil h2 (z_at t6 tz (by decide) (by decide))
theorem stepWe:StepAt x0 tc0 3 eW q3 w4 0:=fun σ a k s c w lv pv O hB =>
 kDo (st':={ w4 with tm:=0 }) hB (kd:=2) (at_:=4) (n:=3) (by decide) (by decide) (fun σ=>rfl) fun H lv pv O hB=>by
  obtain ⟨kb,τ,h1,h2⟩:=ac_of runWea
  have t6:=runWea2 (Tryz.f81.body.getD .skip) (Tryz.f117.body.getD .skip)
  rw[h1] at t6
  injection t6 with t6
  exact kAt (e:=eW) hB (by decide) clM_nil clM_one h2 (h_at rfl t6)
abbrev esE:List E11:=[e0,e1,e2,e3]
abbrev esC:List E11:=[e0,e1,e2,e3,e4,e5]
abbrev esW:List E11:=[e0,e1,e2,eW,e3]
def stC:Nat→BS₀
 | 0=>st0 x0
 | 1=>q1
 | 2=>q2
 | 3=>q3
 | 4=>q4
 | 5=>q5
 | _=>q6
def stW:Nat→BS₀
 | 0=>st0 x0
 | 1=>q1
 | 2=>q2
 | 3=>q3
 | 4=>w4
 | _=>w5
theorem allC:∀ i,i<6→StepAt x0 tc0 i esC[i]! (stC i) (stC (i+1)) ([0,5,0,0,0,0]:List Int)[i]!
 | 0,_=>step0
 | 1,_=>step1
 | 2,_=>step2
 | 3,_=>step3
 | 4,_=>stepD
 | 5,_=>stepC
theorem allE:∀ i,i<4→StepAt x0 tc0 i esE[i]! (stC i) (stC (i+1)) ([0,5,0,0]:List Int)[i]!
 | 0,_=>step0
 | 1,_=>step1
 | 2,_=>step2
 | 3,_=>step3
theorem allW:∀ i,i<5→StepAt x0 tc0 i esW[i]! (stW i) (stW (i+1)) ([0,5,0,0,0]:List Int)[i]!
 | 0,_=>step0
 | 1,_=>step1
 | 2,_=>step2
 | 3,_=>stepWe
 | 4,_=>stepW
theorem exC:PC Tryz.prog 10 [schT x0 tc0,evL esC] (.tup [ints [0,5,0,0,0,0],.agg [lesL q6.ls,ints q6.km,ints q6.sn,ints q6.ac],.i 0]) :=
 bk10 x0 tc0 chk0 (by decide) (by decide) (by decide) esC (by decide) [0,5,0,0,0,0] rfl stC rfl allC ⟨rfl,rfl,rfl⟩
theorem exW:PC Tryz.prog 10 [schT x0 tc0,evL esW] (.tup [ints [0,5,0,0,0],.agg [lesL w5.ls,ints w5.km,ints w5.sn,ints w5.ac],.i 0]) :=
 bk10 x0 tc0 chk0 (by decide) (by decide) (by decide) esW (by decide) [0,5,0,0,0] rfl stW rfl allW ⟨rfl,rfl,rfl⟩
theorem exP:PC Tryz.prog 18 [schT x0 tc0,evL esE] (.tup [posL q4.ps,.i 0]) :=
 bk18 x0 tc0 chk0 (by decide) (by decide) (by decide) esE (by decide) [0,5,0,0] rfl stC rfl allE
theorem exF:PC Tryz.prog 15 [schT x0 tc0,.i 2,.i 28] (.tup [.i 4000,.i 0]):=by
 have h:=bk15 x0 chk0 tc0_of (by decide) 2 28 (by decide) (by decide) (by decide) (by decide)
 rw[show feeT ts0 2 x0.pr 28=4000 by decide +kernel] at h
 exact h
end Go.Proofs.YtfnhbbohjnjfnaaGreat.AM
namespace Go.Proofs.YtfnhbbohjnjfnaaGreat.AM
variable [Dr]
open Go Go.Proofs.YtfnhbbohjnjfnaaGreat.Qu Pl
section
variable {H:List AObj} {a V L:Nat} {b:BK₀} {st:BS₀} {lv pv:AV} {O:List (Nat × AObj)} {l c s h at_:Nat}
theorem f48q (hB:BkAt H a b st lv pv O) (h1:(V,AObj.cells [.ptr a 0])∈O) (h2:(L,AObj.cells (leX (leN l c s h)))∈O) (hb:BOk b) (htm:st.tm=at_)
  (f1:l<b.ws.length) (f2:c<b.cs.length) (f3:1≤h) (f4:h≤4) (f5:s≤4800) (f6:at_<s) (f7:(decide (((s % 24:Nat):Int)≥b.lo)&&decide (((s % 24+h:Nat):Int)≤b.hi))=false) :
  ACp Tryz.prog 48 [.ptr V 0,.ptr L 0] H [errP 2] fun τ=>BkAt τ a b st lv pv O:=by
 refine ACp_SW (fok48 true) (QC rfl) ?_
 have g1:=hB.box h1
 have g2:=hB.box h2
 have gX:=hB.hX
 rw[htm] at gX
 have h49:=bk49q gX hb f1 f2 f3 f4 f5 f6 f7
 unfold ic48
 refine SW_drawP (cp:=[errP 2]) [] [] hmix (lst:=6) rfl rfl rfl rfl (by kernel_rfl) (by kernel_rfl) rfl ?_
 simp only[List.dropLast,List.cons_append,List.nil_append,mvI,g1,g2,gX,QW,QM,WW,X9,VW,EZ,Qau,CH,get_nz,get_ns,evA,simprocAttr]
 exact h49.mono fun τ ⟨J,hJ⟩=>⟨rfl,by rw[hJ];exact hB.push J⟩
theorem f48t (hB:BkAt H a b st lv pv O) (h1:(V,AObj.cells [.ptr a 0])∈O) (h2:(L,AObj.cells (leX (leN l c s h)))∈O) (hb:BOk b) (hw:st.wm=[]) (hls:LsOk st.ls) (htm:st.tm=at_)
  (hf:Fit b l c s h at_) (hcl:clrB st.ls (leN l c s h) (-1)=true) :
  AC Tryz.prog 48 [.ptr V 0,.ptr L 0] H fun r τ=>r=.tup []∧τ=H:=by
 refine ZF (fok48 true) (QC rfl) ?_
 have g1:=hB.box h1
 have g2:=hB.box h2
 have gX:=hB.hX
 rw[htm] at gX
 have hn:=hls.n
 have h49:=bk49 gX (by rw[← hw];exact hB.hm) hb hB.hl hls.ok (by omega) hf hcl
 simp only[ic48,evA,simprocAttr]
 refine DW_s [6] [] hmix (by kernel_rfl) rfl ?_
 simp only[g1,g2,gX,QW,QM,WW,X9,VW,EZ,Qau,CH,get_nz,get_ns,evA,simprocAttr]
 refine YE h49 rfl ?_
 simp only[QW,QM,WW,X9,VW,EZ,Qau,CH,get_nz,get_ns,evA,simprocAttr]
theorem c47q (hB:BkAt H a b st lv pv O) (h1:(V,AObj.cells [.ptr a 0])∈O) (h2:(L,AObj.cells (leX (leN l c s h)))∈O) (hb:BOk b) (htm:st.tm=at_)
  (f1:l<b.ws.length) (f2:c<b.cs.length) (f3:1≤h) (f4:h≤4) (f5:s≤4800) (f6:at_<s) (f7:(decide (((s % 24:Nat):Int)≥b.lo)&&decide (((s % 24+h:Nat):Int)≤b.hi))=false) :
  AC Tryz.prog 47 [.fn (.func 48) [.ptr V 0,.ptr L 0]] H fun r τ=>r=.i 2∧BkAt τ a b st lv pv O:=by
 have hB1:=hB.more (.cells [.i 0])
 refine caught_p (e:=2) (Q:=fun τ=>BkAt τ a b st lv pv O) ?_
 refine (f48q hB1 (by simp[h1]) (by simp[h2]) hb htm f1 f2 f3 f4 f5 f6 f7).mono ?_
 intro τ hB2
 exact ⟨hB2.box (by simp),hB2.drop _⟩
theorem c47t (hB:BkAt H a b st lv pv O) (h1:(V,AObj.cells [.ptr a 0])∈O) (h2:(L,AObj.cells (leX (leN l c s h)))∈O) (hb:BOk b) (hw:st.wm=[]) (hls:LsOk st.ls) (htm:st.tm=at_)
  (hf:Fit b l c s h at_) (hcl:clrB st.ls (leN l c s h) (-1)=true) :
  AC Tryz.prog 47 [.fn (.func 48) [.ptr V 0,.ptr L 0]] H fun r τ=>r=.i 0∧BkAt τ a b st lv pv O:=by
 have hB1:=hB.more (.cells [.i 0])
 refine caught_t (Q:=fun τ=>BkAt τ a b st lv pv O) ?_
 refine (f48t hB1 (by simp[h1]) (by simp[h2]) hb hw hls htm hf hcl).mono ?_
 rintro r τ ⟨rfl,rfl⟩
 exact ⟨hB1.box (by simp),hB1.sub (by simp)⟩
end
set_option maxRecDepth 4000 in
theorem exN:PC Tryz.prog 20 [schT x0 tc0,evL esE,.i 1,.i 0,.i 43,.i 2] (.tup [.i 56,.i 0]):=by
 refine ⟨ZF (fok20 true) (QC rfl) ?_,rfl⟩
 simp only[ic20,WI,cellsOf,QW,QM,WW,X9,VW,EZ,Qau,CH,get_nz,get_ns,evA,simprocAttr]
 refine (bk41 x0 tc0 chk0 (by decide) (by decide) (by decide) esE (by decide) [0,5,0,0] rfl stC rfl allE _ [(0,.cells [namL x0.ws,carL x0.cs,.i x0.pr,.i x0.ex,.i x0.lo,.i x0.hi,.cv tc0])] (fun o ho=>by simp only[WZ] at ho;subst ho;rfl) (by simp)).mono ?_
 rintro r τ ⟨a,k,s,c,w,lv,pv,ev,O,rfl,hB,hE⟩
 have hin:(0,AObj.cells [namL x0.ws,carL x0.cs,.i x0.pr,.i x0.ex,.i x0.lo,.i x0.hi,.cv tc0])∈O:=by rcases hE with ⟨_,_,rfl⟩ | ⟨z,_,rfl⟩ <;> simp
 have h0:=hB.box hin
 have u1:ev.isUndef=false∧ev.isSc=true:=by rcases hE with ⟨rfl,_⟩ | ⟨z,rfl,_⟩ <;> exact ⟨rfl,rfl⟩
 have l0:=fun J=>ZH h0 J
 simp only[u1.1,u1.2,l0,QW,QM,WW,X9,VW,EZ,Qau,CH,get_nz,get_ns,evA,simprocAttr]
 have x1:IntKind.i64.wrap ((x0.ws.length:Int)-1)=1:=by decide
 have x2:IntKind.i64.wrap ((x0.cs.length:Int)-1)=1:=by decide
 rw[x1]
 refine out_at 0 1 1 (by decide) (by simp only[QW,QM,WW,X9,VW,EZ,Qau,CH,get_nz,get_ns];rfl) ?_
 simp only[l0,x2,V4,QW,QM,WW,X9,VW,EZ,Qau,CH,get_nz,get_ns,evA,simprocAttr]
 refine out_at 0 1 0 (by decide) (by simp only[QW,QM,WW,X9,VW,EZ,Qau,CH,get_nz,get_ns];rfl) ?_
 simp only[V4,QW,QM,WW,X9,VW,EZ,Qau,CH,get_nz,get_ns,evA,simprocAttr]
 refine out_at 0 4800 43 (by decide) (by simp only[QW,QM,WW,X9,VW,EZ,Qau,CH,get_nz,get_ns];rfl) ?_
 simp only[V4,QW,QM,WW,X9,VW,EZ,Qau,CH,get_nz,get_ns,evA,simprocAttr]
 refine out_at 1 4 2 (by decide) (by simp only[QW,QM,WW,X9,VW,EZ,Qau,CH,get_nz,get_ns];rfl) ?_
 simp only[QW,QM,WW,X9,VW,EZ,Qau,CH,get_nz,get_ns,evA,simprocAttr]
 have hB1:BkAt (τ++[.cells [.ptr a 0],.cells [.i 1],.cells [.i 0],.cells [.i 43],.cells [.i 2],.cells (leX (leN 1 0 43 2))]) a (bk0 x0 tc0 k s c w) q4 lv pv [(τ.length,.cells [.ptr a 0]),(τ.length+5,.cells (leX (leN 1 0 43 2)))]:=by
  have h1:=((((hB.sub (O':=[]) (by simp)).more (.cells [.ptr a 0])).push [.cells [.i 1],.cells [.i 0],.cells [.i 43],.cells [.i 2]]).more (.cells (leX (leN 1 0 43 2))))
  have h1:BkAt _ a (bk0 x0 tc0 k s c w) q4 lv pv _:=h1
  simpa using h1
 generalize τ++[AObj.cells [.ptr a 0],.cells [.i 1],.cells [.i 0],.cells [.i 43],.cells [.i 2],.cells (leX (leN 1 0 43 2))]=H1₀ at hB1 ⊢
 generalize τ.length+5=L1 at hB1 ⊢
 generalize τ.length=V at hB1 ⊢
 refine ZW 13 (fun i s'=>∃ H L v7 v8 v15 v16 v17,BkAt H a (bk0 x0 tc0 k s c w) q4 lv pv [(V,.cells [.ptr a 0]),(L,.cells (leX (leN 1 0 (43+i) 2)))]∧s'=⟨[schT x0 tc0,evL esE,.i 1,.i 0,.i 43,.i 2,.ptr 0 0,v7,v8,.ptr V 0,.i 0,.ptr L 0,.b false,.b false,.b false,v15,v16,v17],H⟩) ?_ 0 (QF _) ⟨H1₀,L1,_,_,_,_,_,hB1,rfl⟩
 rintro i s' hi ⟨H,L,v7,v8,v15,v16,v17,hB2,rfl⟩
 have g2:=hB2.box (l:=L) (cs:=leX (leN 1 0 (43+i) 2)) (by simp)
 have d0:decide (((43+i:Nat):Int)≤4800)=true:=decide_eq_true (by omega)
 by_cases h:i<13
 ·have hq:=c47q (l:=1) (c:=0) (s:=43+i) (h:=2) (at_:=5) hB2 (V:=V) (L:=L) (by simp) (by simp) (bok0 k s c w) rfl (show (1:Nat)<2 by decide) (show (0:Nat)<2 by decide) (by decide) (by decide) (by omega) (by omega) (by
   show (decide (((43+i) % 24:Nat)≥(8:Int))&&decide ((((43+i) % 24+2:Nat):Int)≤20))=false
   by_cases h8:((43+i) % 24:Nat)≥8
   ·rw[decide_eq_false (show ¬ ((((43+i) % 24+2:Nat):Int)≤20) by omega),UA]
   ·rw[decide_eq_false (show ¬ ((((43+i) % 24:Nat):Int)≥8) by omega),Bool.false_and])
  simp only[ic20l0,g2,d0,QW,QM,WW,X9,VW,EZ,Qau,CH,get_nz,get_ns,evA,simprocAttr]
  refine hq.mono ?_
  rintro r τ2 ⟨rfl,hB3⟩
  have g3:=hB3.box (l:=L) (cs:=leX (leN 1 0 (43+i) 2)) (by simp)
  have ws:IntKind.i64.wrap (((43+i:Nat):Int)+1)=((43+(i+1):Nat):Int):=by rw[ZC (by omega)];omega
  simp only[g3,ws,QW,QM,WW,X9,VW,EZ,Qau,CH,get_nz,get_ns,evA,simprocAttr]
  refine ZL h ⟨_,τ2.length,_,_,_,_,_,?_,rfl⟩
  have h4:=(hB3.more (.cells (leX (leN 1 0 (43+(i+1)) 2)))).sub (O':=[(V,.cells [.ptr a 0]),(τ2.length,.cells (leX (leN 1 0 (43+(i+1)) 2)))]) (by
   simp only[List.cons_append,List.nil_append]
   exact ((List.Sublist.refl _).cons _).cons_cons _)
  exact h4
 ·have hi13:i=13:=by omega
  subst hi13
  have ht:=c47t (l:=1) (c:=0) (s:=56) (h:=2) (at_:=5) hB2 (V:=V) (L:=L) (by simp) (by simp) (bok0 k s c w) rfl (lsOk_of rfl (by decide)) rfl ⟨show (1:Nat)<2 by decide,show (0:Nat)<2 by decide,by decide,by decide,by decide,by decide,show (8:Int)≤((56 % 24:Nat):Int) by decide,show ((56 % 24+2:Nat):Int)≤20 by decide⟩ (by decide)
  simp only[ic20l0,g2,d0,QW,QM,WW,X9,VW,EZ,Qau,CH,get_nz,get_ns,evA,simprocAttr]
  refine ht.mono ?_
  rintro r τ2 ⟨rfl,hB3⟩
  have g3:=hB3.box (l:=L) (cs:=leX (leN 1 0 (43+13) 2)) (by simp)
  simp only[g3,QW,QM,WW,X9,VW,EZ,Qau,CH,get_nz,get_ns,evA,simprocAttr]
  exact frz
end Go.Proofs.YtfnhbbohjnjfnaaGreat.AM
namespace Go.Proofs.YtfnhbbohjnjfnaaGreat.AM
variable [Dr]
open Go Go.Proofs.YtfnhbbohjnjfnaaGreat.Qu Pl
set_option maxRecDepth 100000
theorem kn_of {f:Nat} {args:List AV} {v:AV} {p:Bool} (h:∀ b81 b117,run5 b81 b117 p f args []=some (true,v,[])) (hv:QO 0 args=true) (σ:List AObj):AC Tryz.prog f args σ fun r τ=>r=v∧τ=σ :=
 AC_run (Checked.mixed Tryz.checked) (T5_ok p) 1000000 40 (h _ _) hv σ
theorem knSch (σ:List AObj):AC Tryz.prog 16 [] σ fun r τ=>r=schT x0 tc0∧τ=σ:=kn_of (p:=false) (fun b81 b117=>by kernel_rfl) rfl σ
theorem knCra (σ:List AObj):AC Tryz.prog 17 [] σ fun r τ=>r=evL esC∧τ=σ:=kn_of (p:=false) (fun b81 b117=>by kernel_rfl) rfl σ
theorem knEve (σ:List AObj):AC Tryz.prog 19 [] σ fun r τ=>r=evL esE∧τ=σ:=kn_of (p:=true) (fun b81 b117=>by kernel_rfl) rfl σ
theorem knWea (σ:List AObj):AC Tryz.prog 21 [] σ fun r τ=>r=evL esW∧τ=σ:=kn_of (p:=false) (fun b81 b117=>by kernel_rfl) rfl σ
abbrev emA:AV:=.agg [.cv .nils,.cv .nils,.i 0,.i 0,.i 0,.i 0,.cv .nils]
theorem knEmp (σ:List AObj):AC Tryz.prog 44 [emA] σ fun r τ=>r=.tup [.i 1,.i 0,.i 3]∧τ=σ:=kn_of (p:=false) (fun b81 b117=>by kernel_rfl) rfl σ
theorem exZ:PC Tryz.prog 15 [emA,.i 1,.i 1] (.tup [.i 0,.i 3]):=by
 refine ⟨ZF (fok15 true) (QC rfl) ?_,rfl⟩
 simp only[ic15,WI,V4,cellsOf,QW,QM,WW,X9,VW,EZ,Qau,CH,get_nz,get_ns,evA,simprocAttr]
 refine (knEmp _).run ?_
 simp only[QW,QM,WW,X9,VW,EZ,Qau,CH,get_nz,get_ns,evA,simprocAttr]
 exact frz
theorem knErr (σ:List AObj):AC Tryz.prog 22 [ints [0,5,0,0,0,0],ints [0,5,0,0,0,0]] σ fun r τ=>r=.b true∧τ=σ:=kn_of (p:=false) (fun b81 b117=>by kernel_rfl) rfl σ
theorem knSta (σ:List AObj):AC Tryz.prog 23 [.agg [lesL q6.ls,ints q6.km,ints q6.sn,ints q6.ac],.agg [lesL q6.ls,ints q6.km,ints q6.sn,ints q6.ac]] σ fun r τ=>r=.b true∧τ=σ:=kn_of (p:=false) (fun b81 b117=>by kernel_rfl) rfl σ
theorem knEqu (σ:List AObj):AC Tryz.prog 24 [posL q4.ps,posL q4.ps] σ fun r τ=>r=.b true∧τ=σ:=kn_of (p:=false) (fun b81 b117=>by kernel_rfl) rfl σ
theorem knInt (σ:List AObj):AC Tryz.prog 25 [ints w5.ac,ints w5.ac] σ fun r τ=>r=.b true∧τ=σ:=kn_of (p:=false) (fun b81 b117=>by kernel_rfl) rfl σ
theorem pc_b {f:Nat} {args:List AV} {x:Bool} (h:∀ σ,AC Tryz.prog f args σ fun r τ=>r=.b x∧τ=σ):PC Tryz.prog f args (.b x):=⟨(h []).mono fun r τ ⟨h1,_⟩=>by rw[h1];exact .c (.c _ trivial),rfl⟩
theorem ak5:PC Tryz.prog 5 [] (.b true):=by
 refine ⟨ZF (fok5 true) (QC rfl) ?_,rfl⟩
 simp only[ic5,QW,QM,WW,X9,VW,EZ,Qau,CH,get_nz,get_ns,evA,simprocAttr]
 refine (knSch _).run ?_
 simp only[QW,QM,WW,X9,VW,EZ,Qau,CH,get_nz,get_ns,evA,simprocAttr]
 refine exF.call frz ?_
 simp only[QW,QM,WW,X9,VW,EZ,Qau,CH,get_nz,get_ns,evA,simprocAttr]
 refine (knSch _).run ?_
 simp only[QW,QM,WW,X9,VW,EZ,Qau,CH,get_nz,get_ns,evA,simprocAttr]
 refine (knCra _).run ?_
 simp only[QW,QM,WW,X9,VW,EZ,Qau,CH,get_nz,get_ns,evA,simprocAttr]
 refine exC.call frz ?_
 simp only[QW,QM,WW,X9,VW,EZ,Qau,CH,get_nz,get_ns,evA,simprocAttr]
 refine (knSch _).run ?_
 simp only[QW,QM,WW,X9,VW,EZ,Qau,CH,get_nz,get_ns,evA,simprocAttr]
 refine (knEve _).run ?_
 simp only[QW,QM,WW,X9,VW,EZ,Qau,CH,get_nz,get_ns,evA,simprocAttr]
 refine exP.call frz ?_
 simp only[QW,QM,WW,X9,VW,EZ,Qau,CH,get_nz,get_ns,evA,simprocAttr]
 refine (knSch _).run ?_
 simp only[QW,QM,WW,X9,VW,EZ,Qau,CH,get_nz,get_ns,evA,simprocAttr]
 refine (knEve _).run ?_
 simp only[QW,QM,WW,X9,VW,EZ,Qau,CH,get_nz,get_ns,evA,simprocAttr]
 refine exN.call frz ?_
 simp only[QW,QM,WW,X9,VW,EZ,Qau,CH,get_nz,get_ns,evA,simprocAttr]
 refine (knSch _).run ?_
 simp only[QW,QM,WW,X9,VW,EZ,Qau,CH,get_nz,get_ns,evA,simprocAttr]
 refine (knWea _).run ?_
 simp only[QW,QM,WW,X9,VW,EZ,Qau,CH,get_nz,get_ns,evA,simprocAttr]
 refine exW.call frz ?_
 simp only[QW,QM,WW,X9,VW,EZ,Qau,CH,get_nz,get_ns,evA,simprocAttr]
 refine exZ.call frz ?_
 simp only[QW,QM,WW,X9,VW,EZ,Qau,CH,get_nz,get_ns,evA,simprocAttr]
 refine DW_s [33,44,50,70] [(36,39),(36,40),(36,41),(36,42),(39,40),(39,41),(39,42),(40,39),(40,41),(40,42),(41,39),(41,40),(41,42),(42,39),(42,40),(42,41),(68,69)] hmix (by kernel_rfl) rfl ?_
 simp only[QW,QM,WW,X9,VW,EZ,Qau,CH,get_nz,get_ns,evA,simprocAttr]
 refine YE ((pc_b knErr).call (.cons (.c (.c _ trivial)) (.cons (U4 (l:=2) (zs:=[0,5,0,0,0,0]) (fun _=>trivial) rfl rfl) .nil)) ⟨rfl,rfl⟩) rfl ?_
 simp only[QW,QM,WW,X9,VW,EZ,Qau,CH,get_nz,get_ns,evA,simprocAttr]
 refine YE ((pc_b knSta).call (.cons (.agg (.cons (.c (.c _ trivial)) (.cons (.c (.c _ trivial)) (.cons (.c (.c _ trivial)) (.cons (.c (.c _ trivial)) .nil))))) (.cons (.agg (.cons (sl_frz (cs:=q6.ls.flatMap leC) (rest:=[]) rfl rfl (fun _ _=>trivial)) (.cons (U4 (l:=4) (zs:=q6.km) (fun _=>trivial) rfl rfl) (.cons (U4 (l:=5) (zs:=q6.sn) (fun _=>trivial) rfl rfl) (.cons (U4 (l:=6) (zs:=q6.ac) (fun _=>trivial) rfl rfl) .nil))))) .nil)) ⟨rfl,rfl⟩) rfl ?_
 simp only[QW,QM,WW,X9,VW,EZ,Qau,CH,get_nz,get_ns,evA,simprocAttr]
 refine YE ((pc_b knEqu).call (.cons (.c (.c _ trivial)) (.cons (sl_frz (l:=7) (cs:=q4.ps.flatMap poC) (rest:=[]) rfl rfl (fun _ _=>trivial)) .nil)) ⟨rfl,rfl⟩) rfl ?_
 simp only[QW,QM,WW,X9,VW,EZ,Qau,CH,get_nz,get_ns,evA,simprocAttr]
 rw[show (((w5.ls.length:Nat):Int) == 2)=true by decide]
 have ia0:∀ σ,VP 5 [lesL w5.ls,.cv (.int .i64 0)] σ=some (.cv (.rp (w5.ls.flatMap leC) 0),σ):=fun σ=>rfl
 have ld0:∀ σ,YF 5 [.cv (.rp (w5.ls.flatMap leC) 0)] σ=some (.agg [.i 0,.i 0,.i 57,.i 2,.i 1],σ):=fun σ=>rfl
 have ke0:JW (true,[KK.int IntKind.i64,KK.int IntKind.i64,KK.int IntKind.i64,KK.int IntKind.i64,KK.int IntKind.i64]) (AV.agg [AV.i 0,AV.i 0,AV.i 57,AV.i 2,AV.i 1]) (AV.agg [AV.cv (CV.int IntKind.i64 0),AV.cv (CV.int IntKind.i64 0),AV.cv (CV.int IntKind.i64 57),AV.cv (CV.int IntKind.i64 2),AV.cv (CV.int IntKind.i64 1)])=some true:=rfl
 have mk0:∀ σ,XB 1 8 [.cv (.int .i64 0)] [.cv (.int .i64 6),.cv (.int .i64 6)] σ=some (.sl σ.length 0 6 1,σ++[.cells [.i 0,.i 0,.i 0,.i 0,.i 0,.i 0]]):=fun σ=>rfl
 simp only[ia0,ld0,ke0,mk0,Option.map_some,QW,QM,WW,X9,VW,EZ,Qau,CH,get_nz,get_ns,evA,simprocAttr]
 refine YE ((pc_b knInt).call (.cons (.c (.c _ trivial)) (.cons (U4 (l:=8) (zs:=w5.ac) (fun _=>trivial) rfl rfl) .nil)) ⟨rfl,rfl⟩) rfl ?_
 simp only[QW,QM,WW,X9,VW,EZ,Qau,CH,get_nz,get_ns,evA,simprocAttr]
 exact frz
end Go.Proofs.YtfnhbbohjnjfnaaGreat.AM
namespace Go.Proofs.YtfnhbbohjnjfnaaGreat.AM
variable [Dr]
open Go Go.Proofs.YtfnhbbohjnjfnaaGreat.Qu Pl
def nmC (w:ByteArray):List CV:=[.str w]
theorem nmC_len (w:ByteArray):(nmC w).length=1:=rfl
abbrev csX (wv kv:AV):List AV:=[wv,kv,.i 100,.i 0,.i 8,.i 20,.cv .nils]
structure CsAt (q:QL₀) (τ:List AObj) (wv kv:AV) (ws:List ByteArray) (cs:List Car):Prop where
 h0:rowOf τ 0=some [cenL q.cs,leaL q.ls]
 h1:rowOf τ 1=some [.cv .nils,.cv .nils,.i 0,.i 0,.i 0,.i 0,.cv .nils]
 h2:rowOf τ 2=some (csX wv kv)
 w:(wv=.cv .nils∧ws=[])∨∃ p,wv=.sl p 0 ws.length 1∧rowOf τ p=some ((ws.flatMap nmC).map .cv)
 k:(kv=.cv .nils∧cs=[])∨∃ p,kv=.sl p 0 cs.length 4∧rowOf τ p=some ((cs.flatMap carC).map .cv)
 nw:∀ l∈slOf wv,3≤l∧l∉slOf kv
 nk:∀ l∈slOf kv,3≤l
section
variable {q:QL₀} {τ τ1:List AObj} {wv kv:AV} {ws:List ByteArray} {cs:List Car} {z:Nat}
theorem sl_lt {α:Type} {f:α→List CV} {e:Nat} {xs:List α} {v:AV} (h:(v=.cv .nils∧xs=[])∨∃ p,v=.sl p 0 xs.length e∧rowOf τ p=some ((xs.flatMap f).map .cv)):∀ l∈slOf v,l<τ.length:=by
 rcases h with ⟨rfl,_⟩ | ⟨p,rfl,hp⟩
 ·intro l hl;simp[slOf] at hl
 ·intro l hl;simp[slOf] at hl;subst hl;exact row_lt hp
theorem CsAt.nam (h:CsAt q τ wv kv ws cs) {w:ByteArray} (hS:Same (slOf wv) τ τ1) (hz:τ.length≤z) (hzr:rowOf τ1 z=some (((ws++[w]).flatMap nmC).map .cv)) :
  CsAt q (τ1.set 2 (.cells (csX (.sl z 0 (ws.length+1) 1) kv))) (.sl z 0 (ws.length+1) 1) kv (ws++[w]) cs:=by
 obtain ⟨h0,h1,h2,hw,hk,nw,nk⟩:=h
 have l2:=row_lt h2
 have e:∀ {l},l<3→l∉slOf wv:=fun hl hm=>by have:=(nw _ hm).1;omega
 refine ⟨?_,?_,?_,.inr ⟨z,by simp,?_⟩,?_,fun l hl=>?_,nk⟩
 ·rw[QX (by omega)];exact hS.row h0 (e (by omega))
 ·rw[QX (by omega)];exact hS.row h1 (e (by omega))
 ·exact W0 (hS.row h2 (e (by omega)))
 ·rw[QX (by omega)];exact hzr
 ·rcases hk with hk | ⟨p,rfl,hp⟩
  ·exact .inl hk
  ·have hp3:=nk p (by simp[slOf])
   refine .inr ⟨p,rfl,?_⟩
   rw[QX (by omega)]
   exact hS.row hp fun hm=>(nw p hm).2 (by simp[slOf])
 ·simp only[slOf,WZ] at hl;subst hl
  refine ⟨by omega,fun hm=>?_⟩
  have:=sl_lt hk _ hm;omega
theorem CsAt.car (h:CsAt q τ wv kv ws cs) {c:Car} (hS:Same (slOf kv) τ τ1) (hz:τ.length≤z) (hzr:rowOf τ1 z=some (((cs++[c]).flatMap carC).map .cv)) :
  CsAt q (τ1.set 2 (.cells (csX wv (.sl z 0 (cs.length+1) 4)))) wv (.sl z 0 (cs.length+1) 4) ws (cs++[c]):=by
 obtain ⟨h0,h1,h2,hw,hk,nw,nk⟩:=h
 have l2:=row_lt h2
 have e:∀ {l},l<3→l∉slOf kv:=fun hl hm=>by have:=nk _ hm;omega
 refine ⟨?_,?_,?_,?_,.inr ⟨z,by simp,?_⟩,fun l hl=>?_,fun l hl=>?_⟩
 ·rw[QX (by omega)];exact hS.row h0 (e (by omega))
 ·rw[QX (by omega)];exact hS.row h1 (e (by omega))
 ·exact W0 (hS.row h2 (e (by omega)))
 ·rcases hw with hw | ⟨p,rfl,hp⟩
  ·exact .inl hw
  ·have hp3:=nw p (by simp[slOf])
   refine .inr ⟨p,rfl,?_⟩
   rw[QX (by omega)]
   exact hS.row hp hp3.2
 ·rw[QX (by omega)];exact hzr
 ·refine ⟨(nw l hl).1,fun hm=>?_⟩
  simp only[slOf,WZ] at hm;subst hm
  have:=sl_lt hw _ hl;omega
 ·simp only[slOf,WZ] at hl;subst hl;omega
end
def carO (c:Cen):Car:=⟨c.nm,0,1,0⟩
def schQ (q:QL₀):Sch:=⟨q.ls.map (·.nm),q.cs.map carO,100,0,8,20⟩
theorem take_snoc {α β:Type} [Inhabited α] (f:α→β) (xs:List α) {i:Nat} (h:i<xs.length):(xs.map f).take (i+1)=(xs.map f).take i++[f xs[i]!]:=by
 rw[JC,ZR,QI h,getElem!_pos xs i h];rfl
theorem nm_flat (ws:List ByteArray):ws.flatMap nmC=ws.map CV.str:=by
 induction ws with
 | nil=>rfl
 | cons w ws ih=>simp only[YH,ih];rfl
set_option maxRecDepth 4000 in
theorem bk9 (q:QL₀) (hq:QSz q) (h8:q.ls.length≤8) (h5:q.cs.length≤5) (l1:1≤q.ls.length) (c1:1≤q.cs.length):PC Tryz.prog 9 [qV q] (schT (schQ q) .nils):=by
 refine ⟨ZF (fok9 true) (QC rfl) ?_,rfl⟩
 have hp44:(2:Nat) ^ 44=17592186044416:=by decide
 simp only[ic9,WI,cellsOf,QW,QM,WW,X9,VW,EZ,Qau,CH,get_nz,get_ns,evA,simprocAttr]
 refine ZW q.ls.length (fun i s=>∃ wv τ v5 v6 v7,CsAt q τ wv (.cv .nils) ((q.ls.map (·.nm)).take i) []∧s=⟨[qV q,.ptr 0 0,.ptr 1 0,.ptr 2 0,.i i,v5,v6,v7],τ⟩) ?_ 0 (QF _) ⟨.cv .nils,_,_,_,_,⟨rfl,rfl,rfl,.inl ⟨rfl,rfl⟩,.inl ⟨rfl,rfl⟩,fun l h=>by simp[slOf] at h,fun l h=>by simp[slOf] at h⟩,rfl⟩
 rintro i s hi ⟨wv,τ,v5,v6,v7,hC,rfl⟩
 by_cases h:i<q.ls.length
 ·have hws:IntKind.i64.wrap ((i:Int)+1)=((i+1:Nat):Int):=Q6 (by omega)
  have g0:=fun J=>ZH hC.h0 J
  have g2:=fun J=>ZH hC.h2 J
  have k2:=fun J=>Qdq hC.h2 J
  have htl:((q.ls.map (·.nm)).take i).length=i:=by simp;omega
  obtain ⟨v',τ1,z,hap,hv',hz,hzr,hS,hle,_⟩:=row_append (f:=nmC) (by_:=16) nmC_len (by decide) (H:=τ++[.cells [.cv (.str (q.ls[i]!).nm)]]) (lv:=wv) (x:=(q.ls[i]!).nm) (q:=τ.length) (by
   rcases hC.w with h | ⟨p,h1,h2⟩
   ·exact .inl h
   ·exact .inr ⟨p,h1,ZH h2 _⟩) (by simp only[QW,QM,WW,X9,VW,EZ,Qau,CH,get_nz,get_ns];rfl) (by omega) (by omega)
  have hS0:Same (slOf wv) τ τ1:=(Same.app _ _).trans hS (by simp)
  have hzl:τ.length≤z:=by simp at hz;omega
  have hC':=hC.nam hS0 hzl hzr
  rw[← take_snoc (·.nm) q.ls h] at hC'
  have hr2:rowOf τ1 2=some (csX wv (.cv .nils)):=hS0.row hC.h2 fun hm=>by have:=(hC.nw _ hm).1;omega
  have u:v'.isUndef=false∧v'.isSc=true∧cellsOf v'=[v']:=by rw[hv'];exact ⟨rfl,rfl,rfl⟩
  have uw:wv.isUndef=false:=by rcases hC.w with ⟨h,_⟩ | ⟨p,h,_⟩ <;> rw[h] <;> rfl
  obtain ⟨u1,u2,u3⟩:=u
  have k21:=WO hr2
  have h0:=hC.h0
  have h2:=hC.h2
  simp only[ic9l1,QJ,h,h0,h2,QW,QM,WW,X9,VW,EZ,Qau,CH,get_nz,get_ns,evA,simprocAttr]
  refine DW_s [] [(1,8)] hmix (by kernel_rfl) rfl ?_
  simp only[XP h,lea_0 h,g0,g2,h0,h2,hap,u1,u2,u3,uw,V4,QW,QM,WW,X9,VW,EZ,Qau,CH,get_nz,get_ns,evA,simprocAttr]
  simp only[hap,hr2,k2,k21,u1,u2,u3,hws,QW,QM,WW,X9,VW,EZ,Qau,CH,get_nz,get_ns,evA,simprocAttr]
  refine ⟨(WO h2).symm,ZL (by first | trivial | omega) ⟨v',_,_,_,_,?_,rfl⟩⟩
  rw[hv'];exact hC'
 have hie:i=q.ls.length:=by omega
 subst hie
 have htk:(q.ls.map (·.nm)).take q.ls.length=q.ls.map (·.nm):=Q5 (by simp)
 rw[htk] at hC
 have h0:=hC.h0
 simp only[ic9l1,QJ,h,h0,QW,QM,WW,X9,VW,EZ,Qau,CH,get_nz,get_ns,evA,simprocAttr]
 clear hi h htk
 refine ZW q.cs.length (fun i s=>∃ kv τ v6 v7,CsAt q τ wv kv (q.ls.map (·.nm)) ((q.cs.map carO).take i)∧s=⟨[qV q,.ptr 0 0,.ptr 1 0,.ptr 2 0,.i q.ls.length,.i i,v6,v7],τ⟩) ?_ 0 (QF _) ⟨.cv .nils,_,_,_,hC,rfl⟩
 clear hC h0 τ
 rintro i s hi ⟨kv,τ,v6,v7,hC,rfl⟩
 by_cases h:i<q.cs.length
 ·have hws:IntKind.i64.wrap ((i:Int)+1)=((i+1:Nat):Int):=Q6 (by omega)
  have g0:=fun J=>ZH hC.h0 J
  have g2:=fun J=>ZH hC.h2 J
  have k2:=fun J=>Qdq hC.h2 J
  have htl:((q.cs.map carO).take i).length=i:=by simp;omega
  obtain ⟨v',τ1,z,hap,hv',hz,hzr,hS,hle,_⟩:=row_append (f:=carC) (by_:=40) CX (by decide) (H:=τ++[.cells [.cv (.str (q.cs[i]!).nm),.i 0,.i 1,.i 0]]) (lv:=kv) (x:=carO q.cs[i]!) (q:=τ.length) (by
   rcases hC.k with h | ⟨p,h1,h2⟩
   ·exact .inl h
   ·exact .inr ⟨p,h1,ZH h2 _⟩) (by simp only[QW,QM,WW,X9,VW,EZ,Qau,CH,get_nz,get_ns];rfl) (by omega) (by omega)
  have hS0:Same (slOf kv) τ τ1:=(Same.app _ _).trans hS (by simp)
  have hzl:τ.length≤z:=by simp at hz;omega
  have hC':=hC.car hS0 hzl hzr
  rw[← take_snoc carO q.cs h] at hC'
  have hr2:rowOf τ1 2=some (csX wv kv):=hS0.row hC.h2 fun hm=>by have:=hC.nk _ hm;omega
  have u:v'.isUndef=false∧v'.isSc=true∧cellsOf v'=[v']:=by rw[hv'];exact ⟨rfl,rfl,rfl⟩
  have uw:wv.isUndef=false:=by rcases hC.w with ⟨h,_⟩ | ⟨p,h,_⟩ <;> rw[h] <;> rfl
  have uk:kv.isUndef=false:=by rcases hC.k with ⟨h,_⟩ | ⟨p,h,_⟩ <;> rw[h] <;> rfl
  obtain ⟨u1,u2,u3⟩:=u
  have k21:=WO hr2
  have h0:=hC.h0
  have h2:=hC.h2
  simp only[ic9l0,QJ,h,h0,h2,QW,QM,WW,X9,VW,EZ,Qau,CH,get_nz,get_ns,evA,simprocAttr]
  refine DW_s [] [(1,9)] hmix (by kernel_rfl) rfl ?_
  simp only[XP h,cen_0 h,g0,g2,h0,h2,hap,u1,u2,u3,uw,uk,V4,QW,QM,WW,X9,VW,EZ,Qau,CH,get_nz,get_ns,evA,simprocAttr]
  simp only[hap,hr2,k2,k21,u1,u2,u3,hws,QW,QM,WW,X9,VW,EZ,Qau,CH,get_nz,get_ns,evA,simprocAttr]
  refine ⟨(WO h2).symm,ZL (by first | trivial | omega) ⟨v',_,_,_,?_,rfl⟩⟩
  rw[hv'];exact hC'
 have hie:i=q.cs.length:=by omega
 subst hie
 have htk:(q.cs.map carO).take q.cs.length=q.cs.map carO:=Q5 (by simp)
 rw[htk] at hC
 have h0:=hC.h0
 have h1:=hC.h1
 have h2:=hC.h2
 have uw:wv.isUndef=false∧cellsOf wv=[wv]∧wv.isSc=true:=by rcases hC.w with ⟨h,_⟩ | ⟨p,h,_⟩ <;> rw[h] <;> exact ⟨rfl,rfl,rfl⟩
 have uk:kv.isUndef=false∧cellsOf kv=[kv]∧kv.isSc=true:=by rcases hC.k with ⟨h,_⟩ | ⟨p,h,_⟩ <;> rw[h] <;> exact ⟨rfl,rfl,rfl⟩
 simp only[ic9l0,QJ,h,h0,h1,h2,uw.1,uw.2.1,uw.2.2,uk.1,uk.2.1,uk.2.2,QW,QM,WW,X9,VW,EZ,Qau,CH,get_nz,get_ns,evA,simprocAttr]
 simp only[W0 h1,QW,QM,WW,X9,VW,EZ,Qau,CH,get_nz,get_ns,evA,simprocAttr]
 refine .agg (.cons ?_ (.cons ?_ (.cons (.c (.c _ trivial)) (.cons (.c (.c _ trivial)) (.cons (.c (.c _ trivial)) (.cons (.c (.c _ trivial)) (.cons (.c (.c _ trivial)) .nil)))))))
 ·rcases hC.w with ⟨_,h⟩ | ⟨p,rfl,hp⟩
  ·have:q.ls.length=0:=by rw[← ZK (f:=(·.nm)),h];rfl
   omega
  ·have hp3:=(hC.nw p (by simp[slOf])).1
   refine sl_frz (cs:=(q.ls.map (·.nm)).map CV.str) (rest:=[]) (n:=(q.ls.map (·.nm)).length) (e:=1) ?_ (by simp) ?_
   ·rw[ZU,QX (by omega),← nm_flat];exact hp
   ·intro c hc
    obtain ⟨x,_,rfl⟩:=ZP.1 hc
    trivial
 ·rcases hC.k with ⟨_,h⟩ | ⟨p,rfl,hp⟩
  ·have:q.cs.length=0:=by rw[← ZK (f:=carO),h];rfl
   omega
  ·have hp3:=hC.nk p (by simp[slOf])
   refine sl_frz (cs:=(q.cs.map carO).flatMap carC) (rest:=[]) ?_ (UG CX _) ?_
   ·rw[ZU,QX (by omega)];exact hp
   ·intro c hc
    obtain ⟨x,_,hx⟩:=YM.1 hc
    simp only[carC,ZD,WK,or_false] at hx
    rcases hx with rfl | rfl | rfl | rfl <;> trivial
theorem get_map {α β:Type} [Inhabited α] [Inhabited β] (f:α→β) (xs:List α) {i:Nat} (h:i<xs.length):(xs.map f)[i]! = f xs[i]! := by
 rw[getElem!_pos (xs.map f) i (by simpa using h),getElem!_pos xs i h,List.getElem_map]
theorem nmE_of {nm:Nat→ByteArray} {k:Nat} (h1:JH (nm k)=true) (h2:∀ j,j<k→nm j≠nm k):nmE nm k=0:=by
 unfold nmE
 rw[if_neg (by rw[h1];simp),if_neg]
 intro h
 simp only[anyN,ZZ,ZI,decide_eq_true_eq] at h
 obtain ⟨j,hj,e⟩:=h
 exact h2 j hj e
theorem sch_ok {q:QL₀} (hq:QSz q) (he:eQ q=0) (h1:1≤q.ls.length):SchOk (schQ q)∧q.cs.length≤5∧q.ls.length≤8∧1≤q.cs.length:=by
 obtain ⟨v1,v2,v3,_⟩:=valid_iff (q:=q) he
 have hw:(schQ q).ws.length=q.ls.length:=by simp[schQ]
 have hc:(schQ q).cs.length=q.cs.length:=by simp[schQ]
 have gw:∀ i,i<q.ls.length→(schQ q).ws[i]! = (q.ls[i]!).nm:=fun i hi=>get_map (fun x:Lea=>x.nm) q.ls hi
 have gc:∀ i,i<q.cs.length→(schQ q).cs[i]! = carO q.cs[i]! := fun i hi=>get_map carO q.cs hi
 have a1:=v1.1
 have a2:=v1.2.1
 have a3:=v1.2.2
 refine ⟨⟨by omega,by omega,by omega,by omega,fun i hi=>?_,fun i hi=>?_,fun i hi=>?_,fun i hi=>?_,fun i hi=>?_,by show (1:Int)≤100∧(100:Int)≤10000;decide,by show (0:Int)≤0∧(0:Int)≤10000000;decide,by show (0:Int)≤8∧(8:Int)<20∧(20:Int)≤24;decide⟩,a2,a3,a1⟩
 ·rw[hw] at hi;rw[gw i hi];exact hq.lm i hi
 ·rw[hc] at hi;rw[gc i hi];exact hq.nm i hi
 ·rw[hw] at hi
  have:=v3 i hi
  unfold leaE at this
  simp only at this
  refine nmE_of ?_ fun j hj=>?_
  ·show JH ((schQ q).ws[i]!)=true
   rw[gw i hi]
   cases e:JH (q.ls[i]!).nm
   ·rw[if_pos e] at this;cases this
   ·rfl
  ·show (schQ q).ws[j]!≠(schQ q).ws[i]!
   rw[gw i hi,gw j (by omega)]
   exact (leaE_ok (v3 i hi)).nm j hj
 ·rw[hc] at hi
  have:=v2 i hi
  unfold cenE at this
  simp only at this
  refine nmE_of ?_ fun j hj=>?_
  ·show JH ((schQ q).cs[i]!).nm=true
   rw[gc i hi]
   show JH (q.cs[i]!).nm=true
   cases e:JH (q.cs[i]!).nm
   ·rw[if_pos e] at this;cases this
   ·rfl
  ·show ((schQ q).cs[j]!).nm≠((schQ q).cs[i]!).nm
   rw[gc i hi,gc j (by omega)]
   intro e
   have e:(q.cs[j]!).nm=(q.cs[i]!).nm:=e
   by_cases h1:JH (q.cs[i]!).nm=false
   ·rw[if_pos h1] at this;cases this
   rw[if_neg h1,if_pos ⟨j,hj,e⟩] at this
   cases this
 ·rw[hc] at hi;rw[gc i hi]
  exact ⟨⟨by show (0:Int)≤0;decide,by show (0:Int)≤1000000;decide⟩,⟨by show (1:Int)≤1;decide,by show (1:Int)≤1000000;decide⟩,by show (0:Int)≤0;decide,by show (0:Int)≤255;decide⟩
theorem chkS {q:QL₀} (hq:QSz q) (he:eQ q=0) (h1:1≤q.ls.length):PC Tryz.prog 44 [schT (schQ q) .nils] (.tup [.i 0,.i 0,.i 0]) :=
 bk44 _ (sch_ok hq he h1).1 (ts:=[]) (.inl ⟨rfl,rfl⟩) ⟨by decide,fun i hi=>absurd hi (W5 _),fun i hi=>absurd hi (W5 _)⟩
end Go.Proofs.YtfnhbbohjnjfnaaGreat.AM
namespace Go.Proofs.YtfnhbbohjnjfnaaGreat.Pl
inductive BEv where
 | bk (at_ i c h:Nat)
 | cn (b:Nat)
structure BLes where
 l:Nat
 c:Nat
 h:Nat
 op:Bool
structure BSt where
 ls:List BLes
 ac:List Int
 ps:List (Nat × Nat)
 tm:Nat
def clash (i c h:Nat) (x:BLes):Bool:=x.op&&((x.l == i||x.c == c)&&x.h == h)
def postA (n:Nat) (ac:List Int) (l:Nat):List Int:=(ac.set l (gI ac l-100)).set n (gI (ac.set l (gI ac l-100)) n+100)
def stepE (n m k:Nat) (s:BSt):BEv→Option BSt
 | .bk t i c h=>if s.tm≤t∧t≤1∧i<n∧c<m∧32≤h∧h<38∧s.ls.all (fun x=>!clash i c h x)=true then some ⟨s.ls++[⟨i,c,h,true⟩],s.ac,s.ps,t⟩ else none
 | .cn b=>match s.ls[b]? with
  | some x=>if x.op=true∧s.tm≤1 then some ⟨s.ls.set b ⟨x.l,x.c,x.h,false⟩,postA n s.ac x.l,s.ps++[(k,x.l)],1⟩ else none
  | none=>none
def runE (n m:Nat):Nat→BSt→List BEv→Option BSt
 | _,s,[]=>some s
 | k,s,e::es=>(stepE n m k s e).bind fun s'=>runE n m (k+1) s' es
theorem runE_snoc {n m:Nat} {e:BEv}:∀ (es:List BEv) (k:Nat) (s:BSt),runE n m k s (es++[e])=(runE n m k s es).bind fun s'=>stepE n m (k+es.length) s' e
 | [],k,s=>by simp[runE]
 | a::es,k,s=>by
  simp only[List.cons_append,runE]
  cases h:stepE n m k s a with
  | none=>rfl
  | some s' =>
   simp only[Option.bind_some]
   rw[runE_snoc es (k+1) s']
   have:k+1+es.length=k+(a::es).length:=by simp;omega
   rw[this]
structure SOk (n m k:Nat) (s:BSt):Prop where
 ls:∀ x∈s.ls,x.l<n∧x.c<m∧32≤x.h∧x.h<38
 al:s.ac.length=n+4
 as_:s.ac.sum=0
 ab:∀ j,-(100*(k:Int))≤gI s.ac j∧gI s.ac j≤100*(k:Int)
 ll:s.ls.length≤k
 pl:s.ps.length≤k
 tm:s.tm≤1
theorem sum_set:∀ (l:List Int) (i:Nat) (v:Int),i<l.length→(l.set i v).sum=l.sum-gI l i+v
 | [],i,v,h=>by simp at h
 | x::l,0,v,h=>by simp[gI];omega
 | x::l,i+1,v,h=>by
  have:=sum_set l i v (by simpa using h)
  simp only[List.set_cons_succ,List.sum_cons,this]
  have e:gI (x::l) (i+1)=gI l i:=by simp[gI]
  rw[e];omega
theorem sok_step {n m k:Nat} {s s':BSt} {e:BEv} (h:SOk n m k s) (hs:stepE n m k s e=some s'):SOk n m (k+1) s':=by
 have hab:=h.ab
 cases e with
 | bk t i c hh =>
  simp only[stepE] at hs
  split at hs
  ·rename_i hc
   cases hs
   refine ⟨fun x hx=>?_,h.al,h.as_,fun j=>?_,by have:=h.ll;simp;omega,by have:=h.pl;simp only;omega,hc.2.1⟩
   ·rcases YV.1 hx with hx | hx
    ·exact h.ls x hx
    ·rw[WZ] at hx;subst hx;exact ⟨hc.2.2.1,hc.2.2.2.1,hc.2.2.2.2.1,hc.2.2.2.2.2.1⟩
   ·have:=hab j;simp only;omega
  ·cases hs
 | cn b =>
  simp only[stepE] at hs
  split at hs
  ·rename_i x hx
   split at hs
   ·rename_i hc
    cases hs
    have hxm:=h.ls x (QZ hx)
    have hal:=h.al
    refine ⟨fun y hy=>?_,?_,?_,fun j=>?_,by have:=h.ll;simp only[WE];omega,by have:=h.pl;simp only[QM,List.length_singleton];omega,by simp⟩
    ·rcases List.mem_or_eq_of_mem_set hy with hy | hy
     ·exact h.ls y hy
     ·subst hy;exact hxm
    ·simp only[postA,WE];exact hal
    ·simp only[postA]
     rw[sum_set _ _ _ (by simp;omega),sum_set _ _ _ (by omega),h.as_];omega
    ·have h1:=hab j
     have h2:=hab x.l
     have h3:=hab n
     simp only[postA]
     rw[JO (by simp;omega),JO (j:=n) (by omega),JO (j:=j) (by omega)]
     split <;> split <;> omega
   ·cases hs
  ·cases hs
theorem sok_run {n m:Nat}:∀ (es:List BEv) (k:Nat) (s s':BSt),SOk n m k s→runE n m k s es=some s'→SOk n m (k+es.length) s'
 | [],k,s,s',h,hr=>by simp only[runE,Option.some.injEq] at hr;subst hr;exact h
 | e::es,k,s,s',h,hr=>by
  simp only[runE] at hr
  cases hs:stepE n m k s e with
  | none=>rw[hs] at hr;cases hr
  | some s1 =>
   rw[hs] at hr
   have:=sok_run es (k+1) s1 s' (sok_step h hs) hr
   rwa [show k+1+es.length=k+(e::es).length by simp;omega] at this
def s0 (n:Nat):BSt:=⟨[],List.replicate (n+4) 0,[],0⟩
theorem sok_0 (n m:Nat):SOk n m 0 (s0 n):=by
 refine ⟨fun x hx=>by simp[s0] at hx,by simp[s0],by simp[s0],fun j=>?_,by simp[s0],by simp[s0],by simp[s0]⟩
 have:gI (s0 n).ac j=0:=by
  simp only[gI,s0,YN]
  split <;> rfl
 rw[this];omega
section
variable {n m:Nat} {g:List Int} {P:Nat→Nat}
structure I1₀ (n m:Nat) (g:List Int) (i:Nat) (le ho ta:List Int) (es:List BEv):Prop where
 ll:le.length=n
 lh:ho.length=n
 lt:ta.length=m
 tq:∀ c,c<m→gI ta c=(cnt i (fun k=>gI g k == (c:Int)):Nat)
 el:es.length≤i
 st:∃ s,runE n m 0 (s0 n) es=some s∧s.tm=0∧s.ls.length=es.length ∧
  (∀ (l:Nat) (x:BLes),s.ls[l]? = some x→x.op=true∧x.l<i∧gI le x.l=l∧gI g x.l=x.c∧gI ho x.l=x.h∧(x.h:Int)<32+gI ta x.c) ∧
  (∀ k,k<i→0≤gI g k→∃ (l:Nat) (x:BLes),gI le k=l∧s.ls[l]? = some x∧x.l=k)∧(∀ k,k<i→gI g k<0→gI le k = -1)
theorem I1₀.zero {le ho ta:List Int} (h1:le.length=n) (h2:ho.length=n) (h3:ta.length=m) (h4:∀ c,c<m→gI ta c=0):I1₀ n m g 0 le ho ta [] :=
 ⟨h1,h2,h3,fun c hc=>by rw[h4 c hc];rfl,QG _,s0 n,rfl,rfl,rfl,fun l x h=>by simp[s0] at h,fun k h=>absurd h (W5 _),fun k h=>absurd h (W5 _)⟩
theorem I1₀.no {i:Nat} {le ho ta:List Int} {es:List BEv} (h:I1₀ n m g i le ho ta es) (hi:i<n) (hg:gI g i<0):I1₀ n m g (i+1) (le.set i (-1)) ho ta es:=by
 obtain ⟨h1,h2,h3,h4,h5,s,r1,r2,r3,r4,r5,r6⟩:=h
 have hs:∀ k,gI (le.set i (-1)) k=if k=i then -1 else gI le k:=fun k=>JO (by omega)
 refine ⟨by simpa using h1,h2,h3,fun c hc=>?_,by omega,s,r1,r2,r3,fun l x hx=>?_,fun k hk hgk=>?_,fun k hk hgk=>?_⟩
 ·rw[h4 c hc]
  have:(gI g i == (c:Int))=false:=by simp;omega
  simp[cnt,this]
 ·obtain ⟨a1,a2,a3,a4,a5,a6⟩:=r4 l x hx
  exact ⟨a1,by omega,by rw[hs,if_neg (by omega)];exact a3,a4,a5,a6⟩
 ·have hne:k≠i:=fun e=>by subst e;omega
  obtain ⟨l,x,b1,b2,b3⟩:=r5 k (by omega) hgk
  exact ⟨l,x,by rw[hs,if_neg hne];exact b1,b2,b3⟩
 ·rw[hs]
  split
  ·rfl
  ·exact r6 k (by omega) hgk
theorem I1₀.yes {i c:Nat} {le ho ta:List Int} {es:List BEv} (h:I1₀ n m g i le ho ta es) (hi:i<n) (hc:c<m) (hg:gI g i=c) (hcap:cnt n (fun k=>gI g k == (c:Int))≤P c) (h6:P c≤6) :
  ∃ t:Nat,gI ta c=t∧t+1≤P c∧I1₀ n m g (i+1) (le.set i es.length) (ho.set i (32+gI ta c)) (ta.set c (gI ta c+1)) (es++[.bk 0 i c (32+t)]):=by
 obtain ⟨h1,h2,h3,h4,h5,s,r1,r2,r3,r4,r5,r6⟩:=h
 have ht:=h4 c hc
 have hsl:∀ k,gI (le.set i es.length) k=if k=i then (es.length:Int) else gI le k:=fun k=>JO (by omega)
 have hsh:∀ k,gI (ho.set i (32+gI ta c)) k=if k=i then 32+gI ta c else gI ho k:=fun k=>JO (by omega)
 have hst:∀ k,gI (ta.set c (gI ta c+1)) k=if k=c then gI ta c+1 else gI ta k:=fun k=>JO (by omega)
 have hq:(gI g i == (c:Int))=true:=by simp[hg]
 have hlt:cnt i (fun k=>gI g k == (c:Int))+1≤P c:=by
  have e1:cnt (i+1) (fun k=>gI g k == (c:Int))=cnt i (fun k=>gI g k == (c:Int))+1:=by simp[cnt,hq]
  have e2:cnt (i+1) (fun k=>gI g k == (c:Int))≤cnt n (fun k=>gI g k == (c:Int)):=by
   exact G6 (fun k=>k) (fun k hk hp=>⟨by omega,hp⟩) (fun a b _ _ _ _ e=>e)
  omega
 refine ⟨_,ht,hlt,by simpa using h1,by simpa using h2,by simpa using h3,fun d hd=>?_,by simp;omega,?_⟩
 ·rw[hst]
  simp only[cnt]
  by_cases e:d=c
  ·subst e;rw[if_pos rfl,if_pos hq,ht];omega
  ·rw[if_neg e,h4 d hd,if_neg (by simp[hg];omega)];omega
 ·generalize cnt i (fun k=>gI g k == (c:Int))=t at ht hlt ⊢
  refine ⟨⟨s.ls++[⟨i,c,32+t,true⟩],s.ac,s.ps,0⟩,?_,rfl,by simp[r3],fun l x hx=>?_,fun k hk hgk=>?_,fun k hk hgk=>?_⟩
  ·rw[runE_snoc,r1]
   simp only[Option.bind_some,stepE]
   rw[if_pos]
   refine ⟨by omega,by omega,hi,hc,by omega,by omega,?_⟩
   rw[Q1]
   intro x hx
   obtain ⟨l,hl⟩:=List.mem_iff_getElem?.1 hx
   obtain ⟨a1,a2,a3,a4,a5,a6⟩:=r4 l x hl
   simp only[clash,a1,XI]
   have q1:(x.l == i)=false:=by simp;omega
   rw[q1,Y3]
   by_cases e:x.c=c
   ·rw[e,ht] at a6
    have:(x.h == 32+t)=false:=by simp;omega
    rw[this];simp
   ·have:(x.c == c)=false:=by simpa using e
    rw[this];simp
  ·by_cases hl:l<s.ls.length
   ·rw[QE hl] at hx
    obtain ⟨a1,a2,a3,a4,a5,a6⟩:=r4 l x hx
    refine ⟨a1,by omega,by rw[hsl,if_neg (by omega)];exact a3,a4,by rw[hsh,if_neg (by omega)];exact a5,?_⟩
    rw[hst]
    split
    ·rename_i e;rw[e] at a6;omega
    ·exact a6
   ·have:l=s.ls.length:=by
     have:=(QH.1 hx).1
     simp at this;omega
    subst this
    rw[QS (QG _),Nat.sub_self] at hx
    cases hx
    refine ⟨rfl,by simp,by rw[hsl,if_pos rfl,r3],hg,by rw[hsh,if_pos rfl,ht];simp,?_⟩
    rw[hst,if_pos rfl,ht];simp;omega
  ·by_cases e:k=i
   ·subst e
    exact ⟨s.ls.length,⟨k,c,32+t,true⟩,by rw[hsl,if_pos rfl,r3],by simp,rfl⟩
   ·obtain ⟨l,x,b1,b2,b3⟩:=r5 k (by omega) hgk
    exact ⟨l,x,by rw[hsl,if_neg e];exact b1,by rw[QE (QH.1 b2).1];exact b2,b3⟩
  ·have e:k≠i:=fun e=>by subst e;omega
   rw[hsl,if_neg e]
   exact r6 k (by omega) hgk
structure I2₀ (n m:Nat) (g ho:List Int) (pr:Nat→Nat) (b t:Nat) (fr nw:List Int) (es:List BEv):Prop where
 lf:fr.length=n
 ln:nw.length=n
 no:∀ k,k<n→(∀ u,u<t→pr u≠k)→gI nw k=gI g k
 ye:∀ u,u<t→gI nw (pr u) = -1
 el:es.length≤b+t
 st:∃ s,runE n m 0 (s0 n) es=some s∧s.tm≤1 ∧
  (∀ (l:Nat) (x:BLes),s.ls[l]? = some x→x.op=true→x.l<n∧gI fr x.l=l∧gI nw x.l=x.c∧gI ho x.l=x.h) ∧
  (∀ k,k<n→0≤gI fr k→∃ (l:Nat) (x:BLes),gI fr k=l∧s.ls[l]? = some x∧x.op=true∧x.l=k)
theorem I2₀.zero {pr:Nat→Nat} {le ho ta:List Int} {es:List BEv} (hl:g.length=n) (h:I1₀ n m g n le ho ta es):I2₀ n m g ho pr n 0 le g es:=by
 obtain ⟨h1,h2,h3,h4,h5,s,r1,r2,r3,r4,r5,r6⟩:=h
 refine ⟨h1,hl,fun _ _ _=>rfl,fun u hu=>absurd hu (W5 _),by omega,s,r1,by omega,fun l x hx _=>?_,fun k hk h0=>?_⟩
 ·obtain ⟨a1,a2,a3,a4,a5,a6⟩:=r4 l x hx
  exact ⟨a2,a3,a4,a5⟩
 ·by_cases e:0≤gI g k
  ·obtain ⟨l,x,b1,b2,b3⟩:=r5 k hk e
   exact ⟨l,x,b1,b2,(r4 l x b2).1,b3⟩
  ·have:=r6 k hk (by omega);omega
theorem I2₀.less {pr:Nat→Nat} {b t:Nat} {fr nw ho:List Int} {es:List BEv} (h:I2₀ n m g ho pr b t fr nw es) (hp:pr t<n) (hf:gI fr (pr t)<0):I2₀ n m g ho pr b (t+1) fr (nw.set (pr t) (-1)) es:=by
 obtain ⟨h1,h2,h3,h4,h5,s,r1,r2,r3,r4⟩:=h
 have hs:∀ k,gI (nw.set (pr t) (-1)) k=if k=pr t then -1 else gI nw k:=fun k=>JO (by omega)
 refine ⟨h1,by simpa using h2,fun k hk hu=>?_,fun u hu=>?_,by omega,s,r1,r2,fun l x hx ho=>?_,r4⟩
 ·rw[hs,if_neg (fun e=>hu t (by omega) e.symm)]
  exact h3 k hk fun u hu'=>hu u (by omega)
 ·rw[hs]
  split
  ·rfl
  ·rename_i e
   by_cases e2:u=t
   ·subst e2;exact absurd rfl e
   ·exact h4 u (by omega)
 ·obtain ⟨a1,a2,a3,a4⟩:=r3 l x hx ho
  refine ⟨a1,a2,?_,a4⟩
  rw[hs,if_neg (fun e=>by rw[e] at a2;omega)]
  exact a3
theorem I2₀.more {pr:Nat→Nat} {b t:Nat} {fr nw ho:List Int} {es:List BEv} (h:I2₀ n m g ho pr b t fr nw es) (hp:pr t<n) (hf:0≤gI fr (pr t)) :
  ∃ l:Nat,gI fr (pr t)=l∧l<b+t∧I2₀ n m g ho pr b (t+1) (fr.set (pr t) (-1)) (nw.set (pr t) (-1)) (es++[.cn l]):=by
 obtain ⟨h1,h2,h3,h4,h5,s,r1,r2,r3,r4⟩:=h
 obtain ⟨l,x,b1,b2,b3,b4⟩:=r4 _ hp hf
 have hs:∀ k,gI (nw.set (pr t) (-1)) k=if k=pr t then -1 else gI nw k:=fun k=>JO (by omega)
 have hsf:∀ k,gI (fr.set (pr t) (-1)) k=if k=pr t then -1 else gI fr k:=fun k=>JO (by omega)
 refine ⟨l,b1,?_,by simpa using h1,by simpa using h2,fun k hk hu=>?_,fun u hu=>?_,by simp;omega,⟨s.ls.set l ⟨x.l,x.c,x.h,false⟩,postA n s.ac x.l,s.ps++[(es.length,x.l)],1⟩,?_,by simp,fun l' y hy ho=>?_,fun k hk h0=>?_⟩
 ·have h1:=(sok_run es 0 _ _ (sok_0 n m) r1).ll
  have h2:=(QH.1 b2).1
  omega
 ·rw[hs,if_neg (fun e=>hu t (by omega) e.symm)]
  exact h3 k hk fun u hu'=>hu u (by omega)
 ·rw[hs]
  split
  ·rfl
  ·rename_i e
   by_cases e2:u=t
   ·subst e2;exact absurd rfl e
   ·exact h4 u (by omega)
 ·rw[runE_snoc,r1]
  simp only[Option.bind_some,stepE,b2]
  rw[if_pos ⟨b3,r2⟩,ZV]
 ·simp only[ZO] at hy
  split at hy
  ·split at hy
   ·cases hy;cases ho
   ·cases hy
  ·rename_i hne
   obtain ⟨a1,a2,a3,a4⟩:=r3 l' y hy ho
   have hk:y.l≠pr t:=fun e=>by rw[e,b1] at a2;omega
   exact ⟨a1,by rw[hsf,if_neg hk];exact a2,by rw[hs,if_neg hk];exact a3,a4⟩
 ·rw[hsf] at h0 ⊢
  split at h0
  ·omega
  ·rename_i e
   rw[if_neg e]
   obtain ⟨l',y,c1,c2,c3,c4⟩:=r4 k hk h0
   refine ⟨l',y,c1,?_,c3,c4⟩
   simp only[ZO]
   rw[if_neg]
   ·exact c2
   ·intro e2;subst e2;rw[b2] at c2;cases c2;omega
def frB (nw ho:List Int) (c h:Int):Nat→Bool
 | 0=>true
 | k+1=>frB nw ho c h k && !(gI nw k == c&&gI ho k == h)
def hrF (nw ho:List Int) (c:Int) (p:Nat):Nat→Int
 | 0=>-1
 | j+1=>if frB nw ho c (31+p-j) nw.length then 31+p-j else hrF nw ho c p j
theorem frB_iff {nw ho:List Int} {c h:Int}:∀ {k:Nat},frB nw ho c h k=true↔∀ j,j<k→¬ (gI nw j=c∧gI ho j=h)
 | 0=>⟨fun _ j hj=>absurd hj (W5 _),fun _=>rfl⟩
 | k+1=>by
  simp only[frB,QD,frB_iff (k:=k),Z0,Bool.and_eq_false_iff,beq_eq_false_iff_ne]
  constructor
  ·rintro ⟨h1,h2⟩ j hj ⟨h3,h4⟩
   by_cases e:j=k
   ·subst e;rcases h2 with h2 | h2
    ·exact h2 h3
    ·exact h2 h4
   ·exact h1 j (by omega) ⟨h3,h4⟩
  ·intro h
   refine ⟨fun j hj=>h j (by omega),?_⟩
   have:=h k (by omega)
   by_cases e:gI nw k=c
   ·exact .inr fun e2=>this ⟨e,e2⟩
   ·exact .inl e
theorem hr_ok {nw ho:List Int} {c:Int} {p:Nat}:∀ (j:Nat),j≤p→(∃ x:Nat,32+p-j≤x∧x<32+p∧frB nw ho c x nw.length=true)→∃ x:Nat,hrF nw ho c p j=x∧32+p-j≤x∧x<32+p∧frB nw ho c x nw.length=true
 | 0,_,⟨x,h1,h2,_⟩=>by omega
 | j+1,hj,⟨x,h1,h2,h3⟩=>by
  have e:(31+(p:Int)-(j:Int))=((31+p-j:Nat):Int):=by omega
  simp only[hrF]
  rw[e]
  by_cases hf:frB nw ho c ((31+p-j:Nat):Int) nw.length=true
  ·rw[if_pos hf]
   exact ⟨_,rfl,by omega,by omega,hf⟩
  ·rw[if_neg hf]
   have hx:32+p-j≤x:=by
    by_cases e2:x=31+p-j
    ·subst e2;exact absurd h3 hf
    ·omega
   obtain ⟨y,a1,a2,a3,a4⟩:=hr_ok j (by omega) ⟨x,hx,h2,h3⟩
   exact ⟨y,a1,by omega,a3,a4⟩
theorem free_ex {nw ho:List Int} {c:Int} {p:Nat} (h:cnt nw.length (fun k=>gI nw k == c)<p):∃ x:Nat,32≤x∧x<32+p∧frB nw ho c x nw.length=true:=by
 apply Classical.byContradiction
 intro hn
 have hall:∀ j,j<p→∃ k,k<nw.length∧gI nw k=c∧gI ho k=((32+j:Nat):Int):=fun j hj=>by
  apply Classical.byContradiction
  intro h2
  apply hn
  refine ⟨32+j,by omega,by omega,frB_iff.2 fun k hk h3=>h2 ⟨k,hk,h3.1,h3.2⟩⟩
 have hf:∃ f:Nat→Nat,∀ j,j<p→f j<nw.length∧gI nw (f j)=c∧gI ho (f j)=((32+j:Nat):Int):=by
  refine ⟨fun j=>if hj:j<p then Classical.choose (hall j hj) else 0,fun j hj=>?_⟩
  simp only[hj,dif_pos]
  exact Classical.choose_spec (hall j hj)
 obtain ⟨f,hf⟩:=hf
 have:=G6 (n:=p) (m:=nw.length) (P:=fun _=>true) (Q:=fun k=>gI nw k == c) f (fun i hi _=>⟨(hf i hi).1,by simp[(hf i hi).2.1]⟩) (fun i j hi hj _ _ e=>by
  have a:=(hf i hi).2.2
  have b:=(hf j hj).2.2
  rw[e,b] at a;omega)
 have h2:∀ q:Nat,cnt q (fun _=>true)=q:=fun q=>by
  induction q with
  | zero=>rfl
  | succ q ih=>simp[cnt,ih]
 rw[h2] at this;omega
structure I3₀ (n m:Nat) (pr:Nat→Nat) (a:Nat→Int) (gone M b u:Nat) (nw ho:List Int) (es:List BEv):Prop where
 ln:nw.length=n
 lh:ho.length=n
 no:∀ k,k<n→gI nw k = -1∨(k≠gone∧gI nw k=a k)
 ye:∀ w,u≤w→w<M→gI nw (pr (w+1)) = -1
 el:es.length≤b+u
 st:∃ s,runE n m 0 (s0 n) es=some s∧s.tm≤1∧∀ (l:Nat) (x:BLes),s.ls[l]? = some x→x.op=true→x.l<n∧gI nw x.l=x.c∧gI ho x.l=x.h
theorem I3₀.zero {pr:Nat→Nat} {a:Nat→Int} {gone M b:Nat} {fr nw ho:List Int} {es:List BEv} (h:I2₀ n m g ho pr b (M+1) fr nw es) (hlh:ho.length=n) (h0:pr 0=gone)
  (ha:∀ k,k<n→k≠gone→(∀ w,w<M→pr (w+1)≠k)→gI g k=a k):I3₀ n m pr a gone M (b+(M+1)) 0 nw ho es:=by
 obtain ⟨h1,h2,h3,h4,h5,s,r1,r2,r3,r4⟩:=h
 refine ⟨h2,hlh,fun k hk=>?_,fun w _ hw=>h4 (w+1) (by omega),by omega,s,r1,r2,fun l x hx ho=>?_⟩
 ·by_cases e:∃ u,u<M+1∧pr u=k
  ·obtain ⟨u,hu,rfl⟩:=e;exact .inl (h4 u hu)
  ·have hk2:∀ u,u<M+1→pr u≠k:=fun u hu e2=>e ⟨u,hu,e2⟩
   have hg:k≠gone:=fun e2=>hk2 0 (by omega) (by rw[h0,e2])
   rw[h3 k hk hk2]
   exact .inr ⟨hg,ha k hk hg fun w hw=>hk2 (w+1) (by omega)⟩
 ·obtain ⟨a1,a2,a3,a4⟩:=r3 l x hx ho
  exact ⟨a1,a3,a4⟩
theorem I3₀.step {pr:Nat→Nat} {a:Nat→Int} {gone M b u c:Nat} {nw ho:List Int} {es:List BEv} (h:I3₀ n m pr a gone M b u nw ho es) (hu:u<M) (hp:pr (u+1)<n) (hpg:pr (u+1)≠gone)
  (hinj:∀ w,w<M→pr (w+1)=pr (u+1)→w=u) (hc:c<m) (hac:a (pr (u+1))=c) (hcap:cnt n (fun k=>!(k == gone)&&a k == (c:Int))≤P c) (h6:P c≤6) :
  ∃ x:Nat,hrF nw ho c (P c) (P c)=x∧32≤x∧x<38∧I3₀ n m pr a gone M b (u+1) (nw.set (pr (u+1)) c) (ho.set (pr (u+1)) x) (es++[.bk 1 (pr (u+1)) c x]):=by
 obtain ⟨h1,h2,h3,h4,h5,s,r1,r2,r3⟩:=h
 have hnw:=h4 u (QG _) hu
 have hlt:cnt nw.length (fun k=>gI nw k == (c:Int))<P c:=by
  rw[h1]
  have:=cnt_lt (n:=n) (P:=fun k=>gI nw k == (c:Int)) (Q:=fun k=>!(k == gone)&&a k == (c:Int)) (fun k hk hq=>by
   have hq:gI nw k=c:=by simpa using hq
   rcases h3 k hk with e | ⟨e1,e2⟩
   ·omega
   ·have:a k=c:=by omega
    simp[e1,this]) hp (by simpa using (show gI nw (pr (u+1))≠c by omega)) (by simp[hpg,hac])
  omega
 obtain ⟨x,e1,e2,e3,e4⟩:=hr_ok (c:=(c:Int)) (P c) (QG _) (by
  obtain ⟨x,a1,a2,a3⟩:=free_ex (ho:=ho) hlt
  exact ⟨x,by omega,a2,a3⟩)
 have hfr:=frB_iff.1 e4
 have hs:∀ k,gI (nw.set (pr (u+1)) c) k=if k=pr (u+1) then (c:Int) else gI nw k:=fun k=>JO (by omega)
 have hsh:∀ k,gI (ho.set (pr (u+1)) x) k=if k=pr (u+1) then (x:Int) else gI ho k:=fun k=>JO (by omega)
 refine ⟨x,e1,by omega,by omega,by simpa using h1,by simpa using h2,fun k hk=>?_,fun w hw1 hw2=>?_,by simp;omega,⟨s.ls++[⟨pr (u+1),c,x,true⟩],s.ac,s.ps,1⟩,?_,by simp,fun l y hy hop=>?_⟩
 ·rw[hs]
  split
  ·rename_i e;subst e;exact .inr ⟨hpg,by omega⟩
  ·exact h3 k hk
 ·rw[hs,if_neg (fun e=>by have:=hinj w hw2 e;omega)]
  exact h4 w (by omega) hw2
 ·rw[runE_snoc,r1]
  simp only[Option.bind_some,stepE]
  rw[if_pos]
  refine ⟨by omega,by omega,hp,hc,by omega,by omega,?_⟩
  rw[Q1]
  intro y hy
  obtain ⟨l,hl⟩:=List.mem_iff_getElem?.1 hy
  cases hop:y.op with
  | false=>simp[clash,hop]
  | true =>
   obtain ⟨a1,a2,a3⟩:=r3 l y hl hop
   have q1:(y.l == pr (u+1))=false:=by
    have:y.l≠pr (u+1):=fun e=>by rw[e,hnw] at a2;omega
    simpa using this
   simp only[clash,hop,q1,Y3,XI,Z0,Bool.and_eq_false_iff,beq_eq_false_iff_ne]
   by_cases e:y.c=c
   ·refine .inr fun e5=>hfr y.l (by omega) ⟨by rw[a2,e],by rw[a3,e5]⟩
   ·exact .inl e
 ·by_cases hl:l<s.ls.length
  ·rw[QE hl] at hy
   obtain ⟨a1,a2,a3⟩:=r3 l y hy hop
   have hne:y.l≠pr (u+1):=fun e=>by rw[e,hnw] at a2;omega
   exact ⟨a1,by rw[hs,if_neg hne];exact a2,by rw[hsh,if_neg hne];exact a3⟩
  ·have:l=s.ls.length:=by
    have:=(QH.1 hy).1
    simp at this;omega
   subst this
   rw[QS (QG _),Nat.sub_self] at hy
   cases hy
   exact ⟨hp,by rw[hs,if_pos rfl],by rw[hsh,if_pos rfl]⟩
end
end Go.Proofs.YtfnhbbohjnjfnaaGreat.Pl
namespace Go.Proofs.YtfnhbbohjnjfnaaGreat.AM
variable [Dr]
open Go Go.Proofs.YtfnhbbohjnjfnaaGreat.Qu Pl
def leM (x:BLes):Le:=⟨x.l,x.c,x.h,1,if x.op then 0 else 1⟩
def poM (n:Nat) (p:Nat × Nat):Po:=⟨p.1,p.2,n,100⟩
def bsM (q:QL₀) (s:BSt) (k:Nat):BS₀:=⟨s.ls.map leM,(schQ q).cs.map (·.km),List.replicate (schQ q).cs.length 0,s.ac,[],s.ps.map (poM q.ls.length),s.tm,((k-1:Nat):Int)⟩
def evM:BEv→E11
 | .bk t i c h=>⟨0,t,i,c,0,h,1,0,0,0,0⟩
 | .cn b=>⟨1,1,0,0,b,0,0,0,0,0,0⟩
theorem st0_M (q:QL₀):bsM q (s0 q.ls.length) 0=st0 (schQ q):=by
 simp[bsM,s0,st0,schQ]
section
variable {q:QL₀} {s s':BSt} {k:Nat}
theorem leM_get {ls:List BLes} {j:Nat} {x:BLes} (h:ls[j]? = some x):(ls.map leM)[j]! = leM x:=by
 obtain ⟨hl,rfl⟩:=QH.1 h
 rw[getElem!_pos (ls.map leM) j (by simpa using hl),List.getElem_map]
theorem lsM_ok {n m:Nat} (hS:SOk n m k s) (hk:k≤60):LsOk (s.ls.map leM):=by
 refine ⟨fun j hj=>?_,by have:=hS.ll;simp;omega⟩
 have hj':j<s.ls.length:=by simpa using hj
 rw[leM_get (QI hj')]
 have:=hS.ls _ (Q2 hj')
 exact ⟨⟨by simp only[leM];omega,by simp only[leM];omega⟩,by show (0:Int)≤1∧(1:Int)≤100;decide⟩
theorem clr_of {i c h:Nat} (ha:s.ls.all (fun x=>!clash i c h x)=true):clrB (s.ls.map leM) (leN i c h 1) (-1)=true:=by
 unfold clrB
 rw[Z0,F8]
 intro j hj
 have hj':j<s.ls.length:=by simpa using hj
 have hg:=leM_get (QI hj')
 have hc:=Q1.1 ha _ (Q2 hj')
 simp only[hitB,hg]
 generalize s.ls[j]=x at hc
 simp only[clash,Z0,Bool.and_eq_false_iff] at hc
 simp only[leM,wayB]
 rcases hc with h1 | h1 | h1
 ·simp[h1]
 ·simp only[X8,beq_eq_false_iff_ne] at h1
  have e1:((x.l:Int) == (i:Int))=false:=beq_f (by omega)
  have e2:((x.c:Int) == (c:Int))=false:=beq_f (by omega)
  simp[e1,e2]
 ·rw[beq_eq_false_iff_ne] at h1
  simp
  intro _ _ h3
  exact decide_eq_false (by have:=of_decide_eq_true h3;omega)
theorem bokQ (h8:q.ls.length≤8) (h5:q.cs.length≤5) (k s c w:Nat):BOk (bk0 (schQ q) .nils k s c w):=by
 refine ⟨by show (q.ls.map (·.nm)).length≤8;simpa using h8,by show (q.cs.map carO).length≤5;simpa using h5,fun i hi=>?_⟩
 have hi:i<q.cs.length:=by simpa[bk0,schQ] using hi
 have:((bk0 (schQ q) .nils k s c w).cs[i]!).ne=0:=by
  show ((q.cs.map carO)[i]!).ne=0
  rw[get_map carO q.cs hi];rfl
 rw[this];exact and00
theorem step_bk (h8:q.ls.length≤8) (h5:q.cs.length≤5) (hS:SOk q.ls.length q.cs.length k s) (hk:k<60) {t i c h:Nat} (hs:stepE q.ls.length q.cs.length k s (.bk t i c h)=some s') :
  StepAt (schQ q) .nils k (evM (.bk t i c h)) (bsM q s k) (bsM q s' (k+1)) 0:=by
 simp only[stepE] at hs
 split at hs
 rotate_left
 ·cases hs
 rename_i hc
 obtain ⟨a1,a2,a3,a4,a5,a6,a7⟩:=hc
 cases hs
 intro σ a k1 s1 c1 w1 lv pv O hB
 refine kDo (st':={ bsM q ⟨s.ls++[⟨i,c,h,true⟩],s.ac,s.ps,t⟩ (k+1) with tm:=s.tm }) hB (kd:=0) (at_:=t) (n:=k) (by decide) ⟨by show (s.tm:Int)≤t;omega,by omega⟩ (fun σ=>rfl) fun H lv pv O hB=>?_
 have hw:(bk0 (schQ q) .nils k1 s1 c1 w1).ws.length=q.ls.length:=by simp[bk0,schQ]
 have hcs:(bk0 (schQ q) .nils k1 s1 c1 w1).cs.length=q.cs.length:=by simp[bk0,schQ]
 have hd:h % 24=h-24:=by omega
 refine (kBook hB (bokQ h8 h5 k1 s1 c1 w1) rfl (lsM_ok hS (by omega)) (l:=i) (c:=c) (s:=h) (h:=1) (at_:=t) ⟨by omega,by omega,by omega,by omega,by omega,by omega,?_,?_⟩ (clr_of a7) 0 0 0 0 0 0).mono ?_
 ·show (8:Int)≤((h % 24:Nat):Int);omega
 ·show ((h % 24+1:Nat):Int)≤20;omega
 ·rintro r τ ⟨h1,lv',h2⟩
  refine ⟨h1,lv',pv,?_⟩
  have e:({ { bsM q s k with ev:=((k:Nat):Int) } with ls:=(bsM q s k).ls++[leN i c h 1] }:BS₀) = { bsM q ⟨s.ls++[⟨i,c,h,true⟩],s.ac,s.ps,t⟩ (k+1) with tm:=s.tm }:=by
   simp[bsM,leM]
  rw[← e];exact h2
theorem feeN (bf:Int):feeT [] 1 100 bf=100:=by
 have:partT [] bf=1000:=rfl
 unfold feeT;rw[this];decide
theorem step_cn (h8:q.ls.length≤8) (h5:q.cs.length≤5) (hS:SOk q.ls.length q.cs.length k s) (hk:k<60) {b:Nat} (hs:stepE q.ls.length q.cs.length k s (.cn b)=some s') :
  StepAt (schQ q) .nils k (evM (.cn b)) (bsM q s k) (bsM q s' (k+1)) 0:=by
 simp only[stepE] at hs
 split at hs
 rotate_left
 ·cases hs
 rename_i x hx
 split at hs
 rotate_left
 ·cases hs
 rename_i hc
 obtain ⟨a1,a2⟩:=hc
 cases hs
 intro σ a k1 s1 c1 w1 lv pv O hB
 have hxl:=hS.ls x (QZ hx)
 have hg:(bsM q s k).ls[b]! = leM x:=leM_get hx
 have hbl:b<(bsM q s k).ls.length:=by show b<(s.ls.map leM).length;simpa using (QH.1 hx).1
 have hw:(bk0 (schQ q) .nils k1 s1 c1 w1).ws.length=q.ls.length:=by simp[bk0,schQ]
 refine kDo (st':={ bsM q ⟨s.ls.set b ⟨x.l,x.c,x.h,false⟩,postA q.ls.length s.ac x.l,s.ps++[(k,x.l)],1⟩ (k+1) with tm:=s.tm }) hB (kd:=1) (at_:=1) (n:=k) (by decide) ⟨by show (s.tm:Int)≤1;omega,by omega⟩ (fun σ=>rfl) fun H lv pv O hB=>?_
 have hls:LsOk ({ bsM q s k with ev:=((k:Nat):Int) }:BS₀).ls:=lsM_ok hS (by omega)
 have hac:AcOk (bk0 (schQ q) .nils k1 s1 c1 w1) { bsM q s k with ev:=((k:Nat):Int) }:=by
  refine ⟨?_,fun j=>?_,?_⟩
  ·rw[hw];exact hS.al
  ·have:=hS.ab j
   show -1000000000000≤gI s.ac j∧gI s.ac j≤1000000000000
   omega
  ·show (s.ps.map (poM q.ls.length)).length≤1000
   have:=hS.pl;simp;omega
 refine (kCancel hB hls hac (by omega) (ts:=[]) (.inl ⟨rfl,rfl⟩) (by decide) (k:=b) hbl (by show ((bsM q s k).ls[b]!).t=0;rw[hg];simp[leM,a1]) (i:=x.l) (by show ((bsM q s k).ls[b]!).l=_;rw[hg];rfl) (by omega) (at_:=1) ⟨by decide,by show (1:Int)<((bsM q s k).ls[b]!).s;rw[hg];show (1:Int)<(x.h:Int);omega⟩ (by show (0:Int)≤100∧(100:Int)≤10000;decide) (by show ((bsM q s k).ls[b]!).h≤4;rw[hg];show (1:Int)≤4;decide) (F:=100) (by show feeT [] ((bsM q s k).ls[b]!).h 100 _=100;rw[hg];exact feeN _) (by decide) (by show (0:Int)≤1000∧(1000:Int)≤1000;decide) 1 0 0 0 0 0 0 0 0).mono ?_
 rintro r τ ⟨h1,lv',pv',h2⟩
 refine ⟨h1,lv',pv',?_⟩
 have e:postS { { bsM q s k with ev:=((k:Nat):Int) } with ls:=(bsM q s k).ls.set b (inSt ((bsM q s k).ls[b]!) 1) } x.l (bk0 (schQ q) .nils k1 s1 c1 w1).ws.length 100 = { bsM q ⟨s.ls.set b ⟨x.l,x.c,x.h,false⟩,postA q.ls.length s.ac x.l,s.ps++[(k,x.l)],1⟩ (k+1) with tm:=s.tm }:=by
  rw[hw,hg]
  unfold postS
  rw[if_neg (by decide)]
  simp only[bsM,List.map_set,ZS,Q0,WS,Nat.add_sub_cancel]
  congr 1
 rw[← e];exact h2
theorem step_any (h8:q.ls.length≤8) (h5:q.cs.length≤5) (hS:SOk q.ls.length q.cs.length k s) (hk:k<60) {e:BEv} (hs:stepE q.ls.length q.cs.length k s e=some s') :
  StepAt (schQ q) .nils k (evM e) (bsM q s k) (bsM q s' (k+1)) 0:=by
 cases e with
 | bk t i c h=>exact step_bk h8 h5 hS hk hs
 | cn b=>exact step_cn h8 h5 hS hk hs
end
theorem movs_mem {b a:Nat→Int}:∀ {n:Nat} {m:Nat × Int × Int},m∈movs b a n→∃ j,j<n∧m=(j,b j,a j)∧a j≠b j
 | 0,m,h=>by simp[movs] at h
 | n+1,m,h=>by
  unfold movs at h
  rcases YV.1 h with h | h
  ·obtain ⟨j,h1,h2,h3⟩:=movs_mem h
   exact ⟨j,by omega,h2,h3⟩
  ·by_cases e:a n=b n
   ·rw[if_pos e] at h;simp at h
   ·rw[if_neg e] at h
    rw[WZ] at h
    exact ⟨n,by omega,h,e⟩
theorem place_inj {w:List Int} {c d:Int} (hc:c = -1∨c∈w) (hd:d = -1∨d∈w) (h0:(-1:Int)∉w) (e:place w c=place w d):c=d:=by
 by_cases h1:c∈w
 ·have g1:=place_get (place_mem h1)
  by_cases h2:d∈w
  ·have g2:=place_get (place_mem h2)
   rw[e,g2] at g1
   simpa using g1.symm
  ·have:=place_mem h1
   have:=place_none h2
   omega
 ·have hc:c = -1:=by rcases hc with h | h;exact h;exact absurd h h1
  by_cases h2:d∈w
  ·have:=place_mem h2
   have:=place_none h1
   omega
  ·rcases hd with h | h
   ·rw[hc,h]
   ·exact absurd h h2
section
variable {q:QL₀} (he:eQ q=0)
include he
theorem give_ran {i:Nat} (hi:i<q.ls.length):-1≤(giveQ q)[i]!∧(giveQ q)[i]! < 5:=by
 obtain ⟨h5,h8,hL,hC⟩:=val_of he
 rcases (give_ok hL).2 i hi with e | e
 ·rw[e];decide
 ·have:=(hL i hi).wi _ e
  omega
theorem no_neg {i:Nat} (hi:i<q.ls.length):(-1:Int)∉(q.ls[i]!).wi:=fun h=>by
 obtain ⟨h5,h8,hL,hC⟩:=val_of he
 have:=(hL i hi).wi _ h
 omega
def Btr (q:QL₀) (m:Nat × Int × Int):Prop:=m.1<q.ls.length∧m.2.1=(giveQ q)[m.1]!∧place (q.ls[m.1]!).wi m.2.2<place (q.ls[m.1]!).wi m.2.1∧MvOk m
theorem mv_ok {j:Nat} {x y:Int} (hj:j<q.ls.length) (hx:-1≤x∧x<5) (hy:-1≤y∧y<5):MvOk (j,x,y):=by
 have h8:=(val_of he).2.1
 have hp:(2:Int) ^ 62=4611686018427387904:=by decide
 exact ⟨by show j<_;omega,⟨by show -(2 ^ 62:Int)≤x;omega,by show x<_;omega⟩,⟨by show -(2 ^ 62:Int)≤y;omega,by show y<_;omega⟩⟩
theorem canc_btr {i:Nat} (hi:i<q.ls.length):∀ m∈cancM q i,Btr q m∧m.1≠i:=by
 intro m hm
 obtain ⟨h5,h8,hL,hC⟩:=val_of he
 obtain ⟨j,hj,rfl,hne⟩:=movs_mem hm
 have hl:=wo_len q hi
 have hL2:=leaOk_wo hL hi
 have hji:j≠i:=fun e=>by
  subst e
  apply hne
  unfold leftA
  rw[if_pos rfl]
 refine ⟨?_,hji⟩
 obtain ⟨k,hk,hup,hla⟩:∃ k,k<(woQ q i).ls.length∧upI i k=j∧leftA q i j=(giveQ (woQ q i))[k]! := by
  unfold leftA upI
  rw[if_neg hji]
  by_cases hlt:j<i
  ·exact ⟨j,by omega,by rw[if_pos hlt],by rw[if_pos hlt]⟩
  ·exact ⟨j-1,by omega,by rw[if_neg (by omega)];omega,by rw[if_neg hlt]⟩
 have hw:=wo_get q hk
 rw[hup] at hw
 have hu:∀ k,k<(woQ q i).ls.length→upI i k<q.ls.length:=fun k hk=>by unfold upI;split <;> omega
 have hle:=give_sub hL hL2 (σ:=upI i) hu (fun a b ha hb e=>by unfold upI at e;split at e <;> split at e <;> omega) (fun k hk=>wo_get q hk) (fun c=>QG _) (fun c=>rfl) hk
 rw[hup] at hle
 have hok2:(giveQ (woQ q i))[k]! = -1∨(giveQ (woQ q i))[k]!∈(q.ls[j]!).wi:=by rw[← hw];exact (give_ok hL2).2 k hk
 have hok1:=(give_ok hL).2 j hj
 have hne2:place (q.ls[j]!).wi ((giveQ (woQ q i))[k]!)≠place (q.ls[j]!).wi ((giveQ q)[j]!):=fun e=>hne (by rw[hla];exact place_inj hok2 hok1 (no_neg he hj) e)
 refine ⟨hj,rfl,?_,?_⟩
 ·show place (q.ls[j]!).wi (leftA q i j)<place (q.ls[j]!).wi ((giveQ q)[j]!)
  rw[hla];omega
 ·refine mv_ok he hj (give_ran he hj) ?_
  rw[hla]
  rcases hok2 with e | e
  ·rw[e];decide
  ·have:=(hL j hj).wi _ e;omega
end
theorem runE_app {n m:Nat}:∀ (a b:List BEv) (k:Nat) (s:BSt),runE n m k s (a++b)=(runE n m k s a).bind fun s'=>runE n m (k+a.length) s' b
 | [],b,k,s=>by simp[runE]
 | e::a,b,k,s=>by
  simp only[List.cons_append,runE]
  cases h:stepE n m k s e with
  | none=>rfl
  | some s' =>
   simp only[Option.bind_some]
   rw[runE_app a b (k+1) s']
   have:k+1+a.length=k+(e::a).length:=by simp;omega
   rw[this]
section
variable {q:QL₀} {es:List BEv} {s:BSt}
theorem run_pre (hr:runE q.ls.length q.cs.length 0 (s0 q.ls.length) es=some s) (k:Nat):∃ s',runE q.ls.length q.cs.length 0 (s0 q.ls.length) (es.take k)=some s':=by
 rw[← List.take_append_drop k es,runE_app] at hr
 cases h:runE q.ls.length q.cs.length 0 (s0 q.ls.length) (es.take k) with
 | none=>rw[h] at hr;cases hr
 | some s'=>exact ⟨s',rfl⟩
theorem run_law (hq:QSz q) (he:eQ q=0) (h1:1≤q.ls.length) (hes:es.length≤60) (hr:runE q.ls.length q.cs.length 0 (s0 q.ls.length) es=some s) :
  PC Tryz.prog 10 [schT (schQ q) .nils,evL (es.map evM)] (.tup [ints (List.replicate es.length 0),.agg [lesL (s.ls.map leM),ints ((schQ q).cs.map (·.km)),ints (List.replicate (schQ q).cs.length 0),ints s.ac],.i 0]):=by
 obtain ⟨hx,h5,h8,c1⟩:=sch_ok hq he h1
 have hf:∃ f:Nat→BSt,∀ k,runE q.ls.length q.cs.length 0 (s0 q.ls.length) (es.take k)=some (f k):=⟨fun k=>Classical.choose (run_pre hr k),fun k=>Classical.choose_spec (run_pre hr k)⟩
 obtain ⟨f,hf⟩:=hf
 have f0:f 0=s0 q.ls.length:=by
  have:=hf 0
  simp only[List.take_zero,runE,Option.some.injEq] at this
  exact this.symm
 have fe:f es.length=s:=by
  have:=hf es.length
  rw[X7,hr] at this
  injection this with this;exact this.symm
 have hml:(es.map evM).length=es.length:=by simp
 have h:=bk10 (schQ q) .nils (chkS hq he h1) hx.c1 hx.c5 hx.w8 (es.map evM) (by omega) (List.replicate es.length 0) (by simp) (fun k=>bsM q (f k) k) (by show bsM q (f 0) 0=_;rw[f0];exact st0_M q) (fun i hi=>?_) ?_
 ·rw[hml] at h
  have e:bsM q (f es.length) es.length=bsM q s es.length:=by rw[fe]
  simp only[e] at h
  exact h
 ·rw[hml] at hi
  have e1:(es.map evM)[i]! = evM es[i]:=by rw[getElem!_pos (es.map evM) i (by omega),List.getElem_map]
  have e2:(List.replicate es.length (0:Int))[i]! = 0:=by rw[getElem!_pos _ i (by simpa using hi)];simp
  rw[e1,e2]
  have hl:(es.take i).length=i:=by simp;omega
  have hS:SOk q.ls.length q.cs.length i (f i):=by
   have:=sok_run (es.take i) 0 _ _ (sok_0 q.ls.length q.cs.length) (hf i)
   rwa [hl,ZV] at this
  refine step_any h8 h5 hS (by omega) ?_
  have hn:=hf (i+1)
  rw[JC,QI hi] at hn
  simp only[Option.toList_some] at hn
  rw[runE_snoc,hf i,hl,ZV] at hn
  exact hn
 ·rw[hml]
  have hS:=sok_run es 0 _ _ (sok_0 q.ls.length q.cs.length) hr
  show StLen (schQ q) (bsM q (f es.length) es.length)
  rw[fe]
  refine ⟨by simp[bsM],by simp[bsM],?_⟩
  show s.ac.length=(q.ls.map (·.nm)).length+4
  rw[ZK];exact hS.al
end
theorem movs_fst {b a:Nat→Int}:∀ n:Nat,(movs b a n).map (·.1)=(List.range n).filter (fun k=>!decide (a k=b k))
 | 0=>rfl
 | n+1=>by
  simp only[movs,ZS,movs_fst n,WM,List.filter_append]
  by_cases e:a n=b n
  ·simp[e]
  ·simp[e]
theorem movs_nd {b a:Nat→Int} (n:Nat):((movs b a n).map (·.1)).Nodup:=by
 rw[movs_fst];exact List.nodup_range.filter _
theorem movs_in {b a:Nat→Int} {n k:Nat} (hk:k<n) (h:a k≠b k):k∈(movs b a n).map (·.1):=by
 rw[movs_fst,YB]
 exact ⟨ZI.2 hk,by simp[h]⟩
noncomputable def prQ (q:QL₀) (gone:Nat):Nat→Nat
 | 0=>gone
 | u+1=>((cancM q gone)[u]!).1
def plQ (q:QL₀) (c:Nat):Nat:=((q.cs[c]!).pl).toNat
section
variable {q:QL₀} (he:eQ q=0)
include he
theorem pl_nn {c:Nat} (hc:c<q.cs.length):((plQ q c:Nat):Int)=(q.cs[c]!).pl∧plQ q c≤6:=by
 obtain ⟨h5,h8,hL,hC⟩:=val_of he
 have:=(hC c hc).pl
 unfold plQ;omega
theorem gI_give {i:Nat} (hi:i<q.ls.length):gI (giveQ q) i=(giveQ q)[i]! := by
 rw[getElem!_pos (giveQ q) i (by rw[giveQ_len];exact hi)]
 simp[gI,giveQ_len,hi]
theorem give_in {i:Nat} (hi:i<q.ls.length):-1≤gI (giveQ q) i∧gI (giveQ q) i<q.cs.length:=by
 obtain ⟨h5,h8,hL,hC⟩:=val_of he
 rw[gI_give he hi]
 rcases (give_ok hL).2 i hi with e | e
 ·rw[e];omega
 ·have:=(hL i hi).wi _ e;omega
theorem give_cap {c:Nat} (hc:c<q.cs.length):cnt q.ls.length (fun k=>gI (giveQ q) k == (c:Int))≤plQ q c:=by
 obtain ⟨h5,h8,hL,hC⟩:=val_of he
 have h:=(give_accepts hL hC).cap c hc
 rw[count_cnt,giveQ_len] at h
 have:=pl_nn he hc
 have e:cnt q.ls.length (fun k=>gI (giveQ q) k == (c:Int))=cnt q.ls.length (fun k=>(giveQ q)[k]! == (c:Int)):=by
  refine K1 fun k hk=>?_
  rw[gI_give he hk]
 omega
theorem left_cap {gone:Nat} (hg:gone<q.ls.length) {c:Nat} (hc:c<q.cs.length):cnt q.ls.length (fun k=>!(k == gone)&&leftA q gone k == (c:Int))≤plQ q c:=by
 obtain ⟨h5,h8,hL,hC⟩:=val_of he
 have hl:=wo_len q hg
 have h:=(give_accepts (q:=woQ q gone) (leaOk_wo hL hg) (fun c hc=>⟨(hC c hc).pl,(hC c hc).ru⟩)).cap c hc
 rw[count_cnt,giveQ_len,hl] at h
 have hp:=pl_nn he hc
 have:=G6 (n:=q.ls.length) (m:=q.ls.length-1) (P:=fun k=>!(k == gone)&&leftA q gone k == (c:Int)) (Q:=fun k=>(giveQ (woQ q gone))[k]! == (c:Int)) (fun k=>if k<gone then k else k-1) (fun k hk hP=>by
  simp only[QD,Z0,beq_eq_false_iff_ne] at hP
  obtain ⟨a1,a2⟩:=hP
  unfold leftA at a2
  rw[if_neg a1] at a2
  refine ⟨?_,a2⟩
  show (if k<gone then k else k-1)<_
  split <;> omega) (fun i j hi hj hPi hPj e=>by
  simp only[QD,Z0,beq_eq_false_iff_ne] at hPi hPj
  have e:(if i<gone then i else i-1)=(if j<gone then j else j-1):=e
  have:=hPi.1
  have:=hPj.1
  split at e <;> split at e <;> omega)
 have e2:((woQ q gone).cs[c]!).pl=(q.cs[c]!).pl:=rfl
 rw[e2] at h
 omega
theorem mv_at {gone:Nat} (hg:gone<q.ls.length) {u:Nat} (hu:u<(cancM q gone).length) :
  prQ q gone (u+1)<q.ls.length∧prQ q gone (u+1)≠gone∧((cancM q gone)[u]!).2.1=gI (giveQ q) (prQ q gone (u+1))∧((cancM q gone)[u]!).2.2=leftA q gone (prQ q gone (u+1))∧0≤leftA q gone (prQ q gone (u+1))∧leftA q gone (prQ q gone (u+1))<q.cs.length:=by
 obtain ⟨h5,h8,hL,hC⟩:=val_of he
 have hm:(cancM q gone)[u]!∈cancM q gone:=by rw[getElem!_pos _ u hu];exact Q2 hu
 obtain ⟨⟨b1,b2,b3,_⟩,b4⟩:=canc_btr he hg _ hm
 obtain ⟨j,hj,e,hne⟩:=movs_mem hm
 show ((cancM q gone)[u]!).1<_∧((cancM q gone)[u]!).1≠_∧_=gI _ ((cancM q gone)[u]!).1∧_=leftA q gone ((cancM q gone)[u]!).1∧0≤leftA q gone ((cancM q gone)[u]!).1∧leftA q gone ((cancM q gone)[u]!).1<_
 rw[e] at b1 b2 b3 b4 ⊢
 simp only at b1 b2 b3 b4 ⊢
 have hin:leftA q gone j∈(q.ls[j]!).wi:=by
  apply Classical.byContradiction
  intro hn
  rw[place_none hn] at b3
  have:=place_le (q.ls[j]!).wi ((giveQ q)[j]!)
  omega
 have:=(hL j hj).wi _ hin
 exact ⟨b1,b4,by rw[gI_give he hj],trivial,this.1,this.2⟩
theorem mv_inj {gone:Nat} {u w:Nat} (hu:u<(cancM q gone).length) (hw:w<(cancM q gone).length) (h:prQ q gone (w+1)=prQ q gone (u+1)):w=u:=by
 have hn:((cancM q gone).map (·.1)).Nodup:=movs_nd _
 have h:((cancM q gone)[w]!).1=((cancM q gone)[u]!).1:=h
 rw[getElem!_pos _ u hu,getElem!_pos _ w hw] at h
 exact (List.getElem_inj (xs:=(cancM q gone).map (·.1)) (h₀:=by simpa using hw) (h₁:=by simpa using hu) hn).1 (by rw[List.getElem_map,List.getElem_map];exact h)
theorem stay {gone k:Nat} (hk:k<q.ls.length) (hn:∀ w,w<(cancM q gone).length→prQ q gone (w+1)≠k):gI (giveQ q) k=leftA q gone k:=by
 rw[gI_give he hk]
 apply Classical.byContradiction
 intro hne
 have hin:k∈(cancM q gone).map (·.1):=movs_in hk (fun e=>hne e.symm)
 obtain ⟨m,hm,e⟩:=ZP.1 hin
 obtain ⟨w,hw,rfl⟩:=List.getElem_of_mem hm
 refine hn w hw ?_
 show ((cancM q gone)[w]!).1=k
 rw[getElem!_pos _ w hw];exact e
end
end Go.Proofs.YtfnhbbohjnjfnaaGreat.AM
namespace Go.Proofs.YtfnhbbohjnjfnaaGreat.AM
variable [Dr]
open Go
abbrev vs3:List Nat:=[0,1,2,4,7,8,9,10,11,12,13,14,15,16,17,18,19,20,21,22,23,24,25,26,27,28,29,30,31,32,46,81,97,115,117,157,167,172,225,230,248,269,275,296,299,330,334,341]
def ic3l0:IC:=(.seq (.seq (.region [jv 29,jv 27,je 1,jw 46 (.bin .lss .int) [.t 0,.t 2]])
 (.cond 46 .skip
 (.exit 10)))
 (.seq (.block 11 (.seq (.region [jv 27,jv 29,ja 1 0 1,jl 2,jw 47 (.bin .neq .int) [.t 3,jn 0]])
 (.cond 47 (.seq (.region [jw 3 .mv [jB false]])
 .ret)
 .skip)))
 (.region [jv 29,jq (.bin .add .int) [.t 0,jn 1],jm 29 1])))
def ic3l1:IC:=(.seq (.seq (.region [jv 26,jv 17,je 1,jw 42 (.bin .lss .int) [.t 0,.t 2]])
 (.cond 42 .skip
 (.exit 8)))
 (.seq (.block 9 (.region [jv 25,jt 0,jh 1 true 17,jh 1 true 26,jg 1 true (.iaS 1) [.t 2,.t 3],ji 1 true 4,jh 1 true 22,jg 1 true (.bin .eql .int) [.t 5,.t 6],jg 1 true .mv [.t 7],jh 8 true 13,jh 8 true 26,jg 8 true (.iaS 1) [.t 9,.t 10],ji 8 true 11,jh 8 true 24,jg 8 true (.bin .eql .int) [.t 12,.t 13],jg 1 true .pick [.t 8,.t 14,jB false],jg 1 true .not [.t 15],jq .pick [.t 1,.t 16,jB false],jm 25 17]))
 (.region [jv 26,jq (.bin .add .int) [.t 0,jn 1],jm 26 1])))
def ic3l2:IC:=(.seq (.seq (.region [jv 24,jw 41 (.bin .geq .int) [.t 0,jn 32]])
 (.cond 41 .skip
 (.exit 6)))
 (.seq (.block 7 (.seq (.region [jw 25 .mv [jB true]])
 (.seq (.seq (.region [jz 26 0])
 (.block 8 (.loop ic3l1)))
 (.seq (.region [jw 43 .mv [.v 25]])
 (.cond 43 (.region [jv 24,jm 23 0])
 .skip)))))
 (.region [jv 24,jq (.bin .sub .int) [.t 0,jn 1],jm 24 1])))
def ic3l3:IC:=(.seq (.seq (.region [jv 20,jv 7,je 1,jw 40 (.bin .lss .int) [.t 0,.t 2]])
 (.cond 40 .skip
 (.exit 4)))
 (.seq (.block 5 (.seq (.dr [[],[],[0,1],[2],[3],[],[],[5,6],[7],[8],[4,0,1,2,3,4],[9,10,0,1,2,3,4,5,6,7,8,9,10]] [jv 7,jv 20,ja 3 0 1,jG 0 2,jl 3,jv 7,jv 20,ja 3 5 6,jG 2 7,jl 8,jm 21 4,jm 22 9])
 (.seq (.region [jz 23 (-1)])
 (.seq (.seq (.region [jF 0 2,jl 0,jv 22,ja 3 1 2,jG 1 3,jl 4,jq (.bin .add .int) [jn 31,.t 5],jm 24 6])
 (.block 6 (.loop ic3l2)))
 (.seq (.seq (.region [jv 23,jw 44 (.bin .lss .int) [.t 0,jn 0]])
 (.cond 44 (.seq (.region [jw 3 .mv [jB false]])
 .ret)
 .skip))
 (.seq (.region [jv 17,jv 21,jv 13,jv 21,jv 22,jv 23,ja 1 0 1,jq (.store 1) [.t 6,.t 4],ja 1 2 3,jq (.store 1) [.t 8,.t 5]])
 (.region [jv 10,jv 21,jv 22,jv 23,jq (.build [(.cv (.int .i64 0)),(.cv (.int .i64 0)),(.cv (.int .i64 0)),(.cv (.int .i64 0)),(.cv (.int .i64 0)),(.cv (.int .i64 0)),(.cv (.int .i64 0)),(.cv (.int .i64 0)),(.cv (.int .i64 0)),(.cv (.int .i64 0)),(.cv (.int .i64 0))] [(1,1),(2,1),(3,1),(5,1),(6,1)]) [jn 1,.t 1,.t 2,.t 3,jn 1],jq (.bslice 11 1 [(.cv (.int .i64 0)),(.cv (.int .i64 0)),(.cv (.int .i64 0)),(.cv (.int .i64 0)),(.cv (.int .i64 0)),(.cv (.int .i64 0)),(.cv (.int .i64 0)),(.cv (.int .i64 0)),(.cv (.int .i64 0)),(.cv (.int .i64 0)),(.cv (.int .i64 0))] [(0,11)]) [.t 4],jq (.append 11 88) [.t 0,.t 5],jm 10 6])))))))
 (.region [jv 20,jq (.bin .add .int) [.t 0,jn 1],jm 20 1])))
def ic3l4:IC:=(.seq (.seq (.region [jv 18,jv 7,je 1,jw 36 (.bin .lss .int) [.t 0,.t 2]])
 (.cond 36 .skip
 (.exit 2)))
 (.seq (.block 3 (.seq (.region [jv 6,jm 19 0])
 (.seq (.seq (.region [jv 18,jw 37 (.bin .geq .int) [.t 0,jn 0]])
 (.cond 37 (.region [jv 7,jv 18,ja 3 0 1,jG 0 2,jl 3,jm 19 4])
 .skip))
 (.seq (.seq (.dr [[],[0],[1],[2],[2],[4,2],[3,5,2],[2,6],[7,2],[8],[9,8],[10,8,8],[11],[11],[12,13,11],[14,11,11],[15],[15],[16,17,15],[18,15],[19,15],[15],[15],[21,22,15],[23,15],[20,24,15],[15,25,11],[26,15,11],[27],[27],[28,29,27],[30,27],[31,27],[32,27],[27,33,11],[34,27,11],[35],[35],[36,37,35],[38,35],[39,35],[35],[41,35],[42,35],[40,43,35],[35,44,11],[11,45,8],[8,46]] [jv 19,jq (.bin .lss .int) [.t 0,jn 0],jt 1,jh 2 false 19,jh 2 false 16,jg 2 false (.len false) [.t 4],jg 2 false (.bin .geq .int) [.t 3,.t 5],jq .pick [.t 2,jB true,.t 6],jt 7,jh 8 false 18,jg 8 false (.bin .geq .int) [.t 9,jn 0],jg 8 false .mv [.t 10],jh 11 true 19,jh 11 true 6,jg 11 true (.bin .eql .int) [.t 12,.t 13],jg 11 true .mv [.t 14],jh 15 false 7,jh 15 false 18,jg 15 false (.iaS 3) [.t 16,.t 17],jg 15 false (.fadd 1) [.t 18],ji 15 false 19,jh 15 false 5,jh 15 false 19,jg 15 false (.iaS 1) [.t 21,.t 22],ji 15 false 23,jg 15 false (.bin .neq .int) [.t 20,.t 24],jg 11 true .pick [.t 15,jB true,.t 25],jg 11 true .mv [.t 26],jh 27 false 7,jh 27 false 18,jg 27 false (.iaS 3) [.t 28,.t 29],jg 27 false (.fadd 2) [.t 30],ji 27 false 31,jg 27 false (.bin .lss .int) [.t 32,jn 0],jg 11 true .pick [.t 27,jB true,.t 33],jg 11 true .mv [.t 34],jh 35 false 7,jh 35 false 18,jg 35 false (.iaS 3) [.t 36,.t 37],jg 35 false (.fadd 2) [.t 38],ji 35 false 39,jg 35 false (.fadd 0) [.v 2],ji 35 false 41,jg 35 false (.len false) [.t 42],jg 35 false (.bin .geq .int) [.t 40,.t 43],jg 11 true .pick [.t 35,jB true,.t 44],jg 8 false .pick [.t 11,.t 45,jB false],jw 38 .pick [.t 8,jB true,.t 46]])
 (.cond 38 (.seq (.region [jw 3 .mv [jB false]])
 .ret)
 .skip))
 (.seq (.seq (.region [jv 16,jv 19,ja 1 0 1,jl 2,jw 39 (.bin .geq .int) [.t 3,jn 0]])
 (.cond 39 (.region [jv 16,jv 19,jv 10,jv 16,jv 19,ja 1 3 4,jl 5,jq (.build [(.cv (.int .i64 0)),(.cv (.int .i64 0)),(.cv (.int .i64 0)),(.cv (.int .i64 0)),(.cv (.int .i64 0)),(.cv (.int .i64 0)),(.cv (.int .i64 0)),(.cv (.int .i64 0)),(.cv (.int .i64 0)),(.cv (.int .i64 0)),(.cv (.int .i64 0))] [(0,1),(1,1),(4,1)]) [jn 1,jn 1,.t 6],jq (.bslice 11 1 [(.cv (.int .i64 0)),(.cv (.int .i64 0)),(.cv (.int .i64 0)),(.cv (.int .i64 0)),(.cv (.int .i64 0)),(.cv (.int .i64 0)),(.cv (.int .i64 0)),(.cv (.int .i64 0)),(.cv (.int .i64 0)),(.cv (.int .i64 0)),(.cv (.int .i64 0))] [(0,11)]) [.t 7],jq (.append 11 88) [.t 2,.t 8],jm 10 9,ja 1 0 1,jq (.store 1) [.t 11,jn (-1)]])
 .skip))
 (.region [jv 17,jv 19,ja 1 0 1,jq (.store 1) [.t 2,jn (-1)]]))))))
 (.region [jv 18,jq (.bin .add .int) [.t 0,jn 1],jm 18 1])))
def ic3l5:IC:=(.seq (.seq (.region [jv 14,jv 5,je 1,jw 32 (.bin .lss .int) [.t 0,.t 2]])
 (.cond 32 .skip
 (.exit 0)))
 (.seq (.block 1 (.seq (.region [jv 11,jv 14,ja 1 0 1,jq (.store 1) [.t 2,jn (-1)]])
 (.seq (.region [jv 5,jv 14,ja 1 0 1,jl 2,jm 15 3])
 (.seq (.seq (.region [jv 15,jq (.bin .lss .int) [.t 0,jn (-1)],jt 1,jh 2 false 15,jg 2 false (.fadd 0) [.v 2],ji 2 false 4,jg 2 false (.len false) [.t 5],jg 2 false (.bin .geq .int) [.t 3,.t 6],jw 33 .pick [.t 2,jB true,.t 7]])
 (.cond 33 (.seq (.region [jw 3 .mv [jB false]])
 .ret)
 .skip))
 (.seq (.region [jv 15,jw 34 (.bin .geq .int) [.t 0,jn 0]])
 (.cond 34 (.seq (.region [jv 11,jv 14,jv 13,jv 14,jv 10,je 4,jv 12,jv 15,ja 1 6 7,jl 8,jq (.bin .add .int) [jn 32,.t 9],ja 1 0 1,jq (.store 1) [.t 11,.t 5],ja 1 2 3,jq (.store 1) [.t 13,.t 10]])
 (.seq (.region [jv 10,jv 14,jv 15,jv 13,jv 14,ja 1 3 4,jl 5,jq (.build [(.cv (.int .i64 0)),(.cv (.int .i64 0)),(.cv (.int .i64 0)),(.cv (.int .i64 0)),(.cv (.int .i64 0)),(.cv (.int .i64 0)),(.cv (.int .i64 0)),(.cv (.int .i64 0)),(.cv (.int .i64 0)),(.cv (.int .i64 0)),(.cv (.int .i64 0))] [(2,1),(3,1),(5,1),(6,1)]) [.t 1,.t 2,.t 6,jn 1],jq (.bslice 11 1 [(.cv (.int .i64 0)),(.cv (.int .i64 0)),(.cv (.int .i64 0)),(.cv (.int .i64 0)),(.cv (.int .i64 0)),(.cv (.int .i64 0)),(.cv (.int .i64 0)),(.cv (.int .i64 0)),(.cv (.int .i64 0)),(.cv (.int .i64 0)),(.cv (.int .i64 0))] [(0,11)]) [.t 7],jq (.append 11 88) [.t 0,.t 8],jm 10 9])
 (.seq (.region [jv 12,jv 15,ja 1 0 1,jl 2,jq (.bin .add .int) [.t 3,jn 1],ja 1 0 1,jq (.store 1) [.t 5,.t 4]])
 (.seq (.dr [[],[],[0,1],[2],[],[4],[],[5,6],[7],[8],[3,9]] [jv 12,jv 15,ja 1 0 1,jl 2,jF 0 2,jl 4,jv 15,ja 3 5 6,jG 1 7,jl 8,jw 35 (.bin .gtr .int) [.t 3,.t 9]])
 (.cond 35 (.seq (.region [jw 3 .mv [jB false]])
 .ret)
 .skip)))))
 .skip))))))
 (.region [jv 14,jq (.bin .add .int) [.t 0,jn 1],jm 14 1])))
def ic3:IC:=(.seq (.region [jb 2 0,jw 3 .mv [jB false]])
 (.seq (.region [jN 2 2,jk 4 [.t 0],jt 1,jx 0 2,jx 1 2,jx 2 2,jt 3,jt 4,jm 4 5])
 (.seq (.seq (.region [jv 4,jq (.bin .neq .int) [.t 0,jn 0],jt 1,jg 2 false (.fadd 1) [.v 2],ji 2 false 3,jg 2 false (.len false) [.t 4],jg 2 false (.bin .eql .int) [.t 5,jn 0],jw 30 .pick [.t 2,jB true,.t 6]])
 (.cond 30 (.seq (.region [jk 5 [],jt 0,jf 1 true 6 [],jq .pick [.t 1,.t 2,jB false],jm 3 3])
 .ret)
 .skip))
 (.seq (.region [jN 2 2,jk 7 [.t 0],jt 1,jx 0 2,jx 1 2,jm 5 3,jm 4 4])
 (.seq (.region [jv 1,jq (.conv .i64) [.t 0],jF 1 2,jl 2,je 3,jq (.bin .rem .int) [.t 1,.t 4],jm 6 5])
 (.seq (.region [jN 2 2,jv 6,jk 8 [.t 0,.t 1],jt 2,jx 0 3,jx 1 3,jm 7 4,jm 8 5])
 (.seq (.seq (.region [jv 4,jq (.bin .neq .int) [.t 0,jn 0],jt 1,jh 2 false 8,jg 2 false (.bin .neq .int) [.t 3,jn 0],jq .pick [.t 2,jB true,.t 4],jt 5,jh 6 false 5,jg 6 false (.len false) [.t 7],jg 6 false (.fadd 1) [.v 2],ji 6 false 9,jg 6 false (.len false) [.t 10],jg 6 false (.bin .neq .int) [.t 8,.t 11],jw 31 .pick [.t 6,jB true,.t 12]])
 (.cond 31 (.seq (.region [jw 3 .mv [jB false]])
 .ret)
 .skip))
 (.seq (.region [jN 2 2,jk 9 [.t 0],jw 9 (.alloc [(.cv .nils),(.cv .nils),(.cv (.int .i64 0)),(.cv (.int .i64 0)),(.cv (.int .i64 0)),(.cv (.int .i64 0)),(.cv .nils)]) [],jq (.store 7) [.v 9,.t 1]])
 (.seq (.region [jw 10 .mv [jS]])
 (.seq (.dr [[],[0],[1,1],[],[3],[4],[5,5],[2,0,1,2],[6,7,0,1,2,3,4,5,6,7]] [jv 5,je 0,jq (.mkslice 1 8 [(.cv (.int .i64 0))]) [.t 1,.t 1],jF 0 2,jl 3,je 4,jq (.mkslice 1 8 [(.cv (.int .i64 0))]) [.t 5,.t 5],jm 11 2,jm 12 6])
 (.seq (.region [jv 5,je 0,jq (.mkslice 1 8 [(.cv (.int .i64 0))]) [.t 1,.t 1],jm 13 2])
 (.seq (.seq (.region [jz 14 0])
 (.block 0 (.loop ic3l5)))
 (.seq (.region [jq (.bslice 1 0 [] []) [],jv 11,jq (.append 1 8) [.t 0,.t 1],jm 16 2])
 (.seq (.region [jq (.bslice 1 0 [] []) [],jv 5,jq (.append 1 8) [.t 0,.t 1],jm 17 2])
 (.seq (.seq (.region [jz 18 (-1)])
 (.block 2 (.loop ic3l4)))
 (.seq (.seq (.region [jz 20 0])
 (.block 4 (.loop ic3l3)))
 (.seq (.region [jN 7 9,jv 10,jk 10 [.t 0,.t 1],jt 2,jx 0 3,jx 1 3,jx 2 3,jw 28 (.alloc [(.cv .nils),(.cv .nils),(.cv .nils),(.cv .nils)]) [],jm 27 4,jq (.store 4) [.v 28,.t 5],jm 4 6])
 (.seq (.seq (.region [jv 4,jq (.bin .neq .int) [.t 0,jn 0],jt 1,jh 2 false 27,jg 2 false (.len false) [.t 3],jh 2 false 10,jg 2 false (.len false) [.t 5],jg 2 false (.bin .neq .int) [.t 4,.t 6],jw 45 .pick [.t 2,jB true,.t 7]])
 (.cond 45 (.seq (.region [jw 3 .mv [jB false]])
 .ret)
 .skip))
 (.seq (.seq (.region [jz 29 0])
 (.block 10 (.loop ic3l0)))
 (.seq (.region [jF 3 28,jl 0,jk 11 [.t 1],jq (.bin .eql .int) [.t 2,jn 0],jt 3,jf 4 true 5 [],jq .pick [.t 4,.t 5,jB false],jt 6,jf 7 true 6 [],jq .pick [.t 7,.t 8,jB false],jm 3 9])
 .ret))))))))))))))))))))
abbrev rs3:List RC:=[(.v 3)]
theorem fok3 (p:Bool):FnOk Tryz.prog 3 ⟨ic3,vs3,352,rs3,p⟩:=.mk2 Tryz.func3 (by kernel_rfl) (by kernel_rfl) (by kernel_rfl) (by kernel_rfl) (by kernel_rfl)
end Go.Proofs.YtfnhbbohjnjfnaaGreat.AM
namespace Go.Proofs.YtfnhbbohjnjfnaaGreat.AM
variable [Dr]
open Go Go.Proofs.YtfnhbbohjnjfnaaGreat.Qu Pl
instance:Inhabited BEv:=⟨.cn 0⟩
def evX (e:BEv):List CV:=evC (evM e)
theorem evX_len (e:BEv):(evX e).length=11:=rfl
structure EvAt (τ:List AObj) (evv:AV) (es:List BEv) (R:List (Nat × List AV)):Prop where
 rows:∀ r∈R,τ[r.1]? = some (.cells r.2)
 ev:(evv=.cv .nils∧es=[])∨∃ p,evv=.sl p 0 es.length 11∧rowOf τ p=some ((es.flatMap evX).map .cv)
 nd:(slOf evv++R.map (·.1)).Nodup
section
variable {τ:List AObj} {evv:AV} {es:List BEv} {R:List (Nat × List AV)}
theorem EvAt.at (h:EvAt τ evv es R) {l:Nat} {cs:List AV} (hr:(l,cs)∈R):rowOf τ l=some cs:=by
 unfold rowOf;rw[h.rows _ hr]
theorem EvAt.lt (h:EvAt τ evv es R):∀ l∈slOf evv++R.map (·.1),l<τ.length:=by
 intro l hl
 rcases YV.1 hl with hl | hl
 ·exact sl_lt (f:=evX) (e:=11) (xs:=es) h.ev l hl
 ·obtain ⟨r,hr,rfl⟩:=ZP.1 hl
  exact (QH.1 (h.rows r hr)).1
theorem EvAt.push (h:EvAt τ evv es R) (J:List AObj):EvAt (τ++J) evv es R :=
 ⟨fun r hr=>by rw[QE (QH.1 (h.rows r hr)).1];exact h.rows r hr,by
  rcases h.ev with h | ⟨p,h1,h2⟩
  ·exact .inl h
  ·exact .inr ⟨p,h1,ZH h2 J⟩,h.nd⟩
theorem EvAt.sub (h:EvAt τ evv es R) {R':List (Nat × List AV)} (hR:R'.Sublist R):EvAt τ evv es R' :=
 ⟨fun r hr=>h.rows r (hR.subset hr),h.ev,h.nd.sublist ((hR.map _).append_left _)⟩
theorem EvAt.set {A B:List (Nat × List AV)} {l:Nat} {cs:List AV} (h:EvAt τ evv es (A++(l,cs)::B)) (cs':List AV):EvAt (τ.set l (.cells cs')) evv es (A++(l,cs')::B):=by
 have nd:=h.nd
 have hl:=(QH.1 (h.rows (l,cs) (by simp))).1
 simp only[ZS,Q0] at nd
 have hev:l∉slOf evv:=fun hm=>(List.nodup_append.1 nd).2.2 l hm l (by simp) rfl
 have nd2:=(List.nodup_append.1 nd).2.1
 have hA:∀ r∈A,r.1≠l:=fun r hr e=>(List.nodup_append.1 nd2).2.2 r.1 (List.mem_map_of_mem hr) l (by simp) e
 have hB:∀ r∈B,r.1≠l:=fun r hr e=>(WQ.1 (List.nodup_append.1 nd2).2.1).1 (e ▸ List.mem_map_of_mem hr)
 refine ⟨fun r hr=>?_,?_,by simpa only[ZS,Q0] using nd⟩
 ·rcases YV.1 hr with hr | hr
  ·rw[QU (Ne.symm (hA r hr))];exact h.rows r (by simp[hr])
  ·rcases ZD.1 hr with rfl | hr
   ·rw[Z2 hl]
   ·rw[QU (Ne.symm (hB r hr))];exact h.rows r (by simp[hr])
 ·rcases h.ev with h | ⟨p,h1,h2⟩
  ·exact .inl h
  ·refine .inr ⟨p,h1,?_⟩
   rw[QX (fun e=>hev (by rw[h1];simp[slOf,e]))];exact h2
theorem EvAt.app (h:EvAt τ evv es R) (e:BEv) (hn:es.length<1000) {H:List AObj} {x:Nat} (hH:∃ J,H=τ++J) (hx:rowOf H x=some ((evX e).map .cv)) :
  ∃ v' τ',ZX 11 88 [evv,.sl x 0 1 11] H=some (v',τ')∧EvAt τ' v' (es++[e]) R∧v'.isUndef=false∧v'.isSc=true:=by
 obtain ⟨J,rfl⟩:=hH
 have hp44:(2:Nat) ^ 44=17592186044416:=by decide
 have h1:=h.push J
 obtain ⟨v',τ1,z,hap,hv',hz,hzr,hS,hle,_⟩:=row_append (f:=evX) (by_:=88) evX_len (by decide) (H:=τ++J) (lv:=evv) (x:=e) (q:=x) h1.ev hx (by omega) (by omega)
 refine ⟨v',τ1,hap,⟨fun r hr=>?_,.inr ⟨z,by rw[hv'];simp,hzr⟩,?_⟩,by rw[hv'];rfl,by rw[hv'];rfl⟩
 ·have hm:r.1∈R.map (·.1):=List.mem_map_of_mem hr
  rw[hS r.1 (h1.lt _ (List.mem_append_right _ hm)) (fun hm2=>(List.nodup_append.1 h1.nd).2.2 _ hm2 _ hm rfl)]
  exact h1.rows r hr
 ·rw[hv']
  simp only[slOf,List.cons_append,List.nil_append,WQ]
  refine ⟨fun hm=>?_,(List.nodup_append.1 h1.nd).2.1⟩
  have:=h1.lt _ (List.mem_append_right _ hm)
  omega
end
section
variable {σ:List AObj} {l k n:Nat} {zs:List Int}
theorem row_ia (h:k<n) (σ:List AObj):VP 1 [.sl l 0 n 1,.cv (.int .i64 k)] σ=some (.ptr l k,σ):=by
 simp only[VP];rw[if_pos (by omega)];simp
theorem row_ld (hr:rowOf σ l=some (zs.map AV.i)) (h:k<zs.length):KZ [.ptr l k] σ=some (.i (gI zs k),σ):=by
 simp only[KZ,hr,Option.bind_some,gI_map zs k h];rfl
theorem row_st (hr:rowOf σ l=some (zs.map AV.i)) (h:k<zs.length) (v:Int):UM 1 [.ptr l k,.i v] σ=some (.undef,σ.set l (.cells ((zs.set k v).map AV.i))):=by
 rw[List.map_set]
 have h1:(cellsOf (.i v)).length=1∧k+1≤(zs.map AV.i).length∧(cellsOf (.i v)).all AV.isSc=true:=⟨rfl,by simp;omega,rfl⟩
 simp only[UM,hr,Option.bind_some]
 rw[if_pos h1];rfl
theorem ints_ia (h:k<zs.length) (σ:List AObj):VP 1 [ints zs,.cv (.int .i64 k)] σ=some (.cv (.rp (zs.map (.int .i64)) k),σ):=by rw[XP h,W3]
theorem ints_ld (h:k<zs.length) (σ:List AObj):KZ [.cv (.rp (zs.map (.int .i64)) k)] σ=some (.i (gI zs k),σ):=by
 simp[KZ,gI,h]
end
abbrev qX (q:QL₀):List AV:=[cenL q.cs,leaL q.ls]
abbrev sX (q:QL₀):List AV:=[namL (schQ q).ws,carL (schQ q).cs,.i 100,.i 0,.i 8,.i 20,.cv .nils]
noncomputable abbrev tbV (q:QL₀) (w gone:Nat) (ms:List (Nat × Int × Int)) (evv:AV) (rest:List AV):List AV:=[qV q,.cv (.int .u8 w),.ptr 0 0,.b false,.i 0,ints (giveQ q),.i gone,movL ms,.i 0,.ptr 1 0,evv,.sl 2 0 q.ls.length 1,.sl 3 0 q.cs.length 1,.sl 4 0 q.ls.length 1]++rest
set_option maxRecDepth 8000 in
theorem tb_l5 (q:QL₀) (he:eQ q=0) (w gone:Nat) (ms:List (Nat × Int × Int)) {Q:Exit→St→Prop} {d1:D1 ic3l5} {d2:D1 Q} {τ0:List AObj} {w15 w32 w33 w34 w35:AV} {le0 ta0 ho0:List Int}
  (h0:EvAt τ0 (.cv .nils) [] [(0,qX q),(1,sX q),(2,le0.map AV.i),(3,ta0.map AV.i),(4,ho0.map AV.i)]) (hI0:I1₀ q.ls.length q.cs.length (giveQ q) 0 le0 ho0 ta0 [])
  (hend:∀ τ evv es le ta ho v15 v32 v33 v34 v35,EvAt τ evv es [(0,qX q),(1,sX q),(2,le.map AV.i),(3,ta.map AV.i),(4,ho.map AV.i)]→I1₀ q.ls.length q.cs.length (giveQ q) q.ls.length le ho ta es →
   Q (.exit 0) ⟨tbV q w gone ms evv [.i q.ls.length,v15,.undef,.undef,.undef,.undef,.undef,.undef,.undef,.undef,.undef,.undef,.undef,.undef,.undef,.undef,.b false,.b false,v32,v33,v34,v35,.undef,.undef,.undef,.undef,.undef,.undef,.undef,.undef,.undef,.undef,.undef,.undef],τ⟩) :
  ILk Tryz.prog { vars:=vs3,N:=352,r:=none,n0:=0 } ic3l5 ⟨tbV q w gone ms (.cv .nils) [.i 0,w15,.undef,.undef,.undef,.undef,.undef,.undef,.undef,.undef,.undef,.undef,.undef,.undef,.undef,.undef,.b false,.b false,w32,w33,w34,w35,.undef,.undef,.undef,.undef,.undef,.undef,.undef,.undef,.undef,.undef,.undef,.undef],τ0⟩ Q d1 d2:=by
 have hgl:=giveQ_len q
 obtain ⟨h5,h8,hL,hC⟩:=val_of he
 refine ZW q.ls.length (fun i s=>∃ τ evv es le ta ho v15 v32 v33 v34 v35,EvAt τ evv es [(0,qX q),(1,sX q),(2,le.map AV.i),(3,ta.map AV.i),(4,ho.map AV.i)]∧I1₀ q.ls.length q.cs.length (giveQ q) i le ho ta es∧s=⟨tbV q w gone ms evv [.i i,v15,.undef,.undef,.undef,.undef,.undef,.undef,.undef,.undef,.undef,.undef,.undef,.undef,.undef,.undef,.b false,.b false,v32,v33,v34,v35,.undef,.undef,.undef,.undef,.undef,.undef,.undef,.undef,.undef,.undef,.undef,.undef],τ⟩) ?_ 0 (QF _) ⟨τ0,_,_,_,_,_,_,_,_,_,_,h0,hI0,rfl⟩
 rintro i s hi ⟨τ,evv,es,le,ta,ho,v15,v32,v33,v34,v35,hE,hI,rfl⟩
 by_cases h:i<q.ls.length
 rotate_left
 ·have hie:i=q.ls.length:=by omega
  subst hie
  simp only[ic3l5,hgl,QJ,h,evA,simprocAttr]
  exact hend _ _ _ _ _ _ _ _ _ _ _ hE hI
 have hws:IntKind.i64.wrap ((i:Int)+1)=((i+1:Nat):Int):=Q6 (by omega)
 have hll:=hI.ll
 have hia:=fun l σ=>row_ia (l:=l) h σ
 have hst:=row_st (hE.at (l:=2) (cs:=le.map AV.i) (by simp)) (k:=i) (by omega) (-1)
 have hE1:=EvAt.set (A:=[(0,qX q),(1,sX q)]) (l:=2) (cs:=le.map AV.i) (B:=[(3,ta.map AV.i),(4,ho.map AV.i)]) hE ((le.set i (-1)).map AV.i)
 have gia:=fun σ=>ints_ia (zs:=giveQ q) (k:=i) (by omega) σ
 have gld:=fun σ=>ints_ld (zs:=giveQ q) (k:=i) (by omega) σ
 have hgi:=give_in he h
 obtain ⟨z,hz⟩:∃ z,gI (giveQ q) i=z:=⟨_,rfl⟩
 rw[hz] at hgi
 have d1:decide (z < -1)=false:=decide_eq_false (by omega)
 have d2:decide (z≥(q.cs.length:Int))=false:=decide_eq_false (by omega)
 have hq0:=fun J=>ZH (hE1.at (l:=0) (cs:=qX q) (by simp)) J
 have hq00:=hE1.at (l:=0) (cs:=qX q) (by simp)
 by_cases hz0:0≤z
 rotate_left
 ·have d3:decide (z≥0)=false:=decide_eq_false hz0
  simp only[ic3l5,hgl,QJ,h,hia,hst,gia,gld,hz,d1,evA,simprocAttr]
  simp only[hq00,d2,d3,hws,evA,simprocAttr]
  exact ZL (by first | trivial | omega) ⟨_,_,_,_,_,_,_,_,_,_,_,hE1,hI.no h (by omega),rfl⟩
 obtain ⟨c,rfl⟩:∃ c:Nat,z=c:=⟨z.toNat,by omega⟩
 have hc:c<q.cs.length:=by omega
 obtain ⟨pl1,pl2⟩:=pl_nn he hc
 obtain ⟨t,ht,htp,hI2⟩:=hI.yes (P:=plQ q) h hc hz (give_cap he hc) pl2
 have d3:decide ((c:Int)≥0)=true:=decide_eq_true hz0
 have hel:=hI.el
 have hlt:=hI.lt
 have hlh:=hI.lh
 simp only[ic3l5,hgl,QJ,h,hia,hst,gia,gld,hz,d1,evA,simprocAttr]
 simp only[hq00,d2,d3,evA,simprocAttr]
 generalize τ.set 2 (.cells ((le.set i (-1)).map AV.i))=τ1 at hE1 hq0 hq00 ⊢
 have hlenE:∀ σ,RZ false [evv] σ=some (.i es.length,σ):=fun σ=>by rcases hE1.ev with ⟨rfl,h⟩ | ⟨p,rfl,_⟩ <;> simp[*,RZ]
 have uE:evv.isUndef=false:=by rcases hE1.ev with ⟨rfl,h⟩ | ⟨p,rfl,_⟩ <;> rfl
 have hia3:=fun l σ=>row_ia (l:=l) hc σ
 have ld3:=row_ld (hE1.at (l:=3) (cs:=ta.map AV.i) (by simp)) (k:=c) (by omega)
 rw[ht] at ld3
 have hw32:IntKind.i64.wrap (32+(t:Int))=((32+t:Nat):Int):=by rw[ZC (by omega)];omega
 have hst2:=row_st (hE1.at (l:=2) (cs:=(le.set i (-1)).map AV.i) (by simp)) (k:=i) (by simp;omega) es.length
 have hE2:=EvAt.set (A:=[(0,qX q),(1,sX q)]) (l:=2) (cs:=(le.set i (-1)).map AV.i) (B:=[(3,ta.map AV.i),(4,ho.map AV.i)]) hE1 (((le.set i (-1)).set i es.length).map AV.i)
 have hst3:=row_st (hE2.at (l:=4) (cs:=ho.map AV.i) (by simp)) (k:=i) (by omega) ((32+t:Nat):Int)
 have hE3:=EvAt.set (A:=[(0,qX q),(1,sX q),(2,((le.set i (-1)).set i es.length).map AV.i),(3,ta.map AV.i)]) (l:=4) (cs:=ho.map AV.i) (B:=[]) hE2 ((ho.set i ((32+t:Nat):Int)).map AV.i)
 simp only[hia,hia3,ld3,hlenE,uE,hw32,hst2,hst3,evA,simprocAttr]
 generalize (τ1.set 2 (.cells (((le.set i (-1)).set i es.length).map AV.i))).set 4 (.cells ((ho.set i ((32+t:Nat):Int)).map AV.i))=τ2 at hE3 ⊢
 have hr4:=hE3.at (l:=4) (cs:=(ho.set i ((32+t:Nat):Int)).map AV.i) (by simp)
 have hg4:((ho.set i ((32+t:Nat):Int)).map AV.i)[i]? = some (.i ((32+t:Nat):Int)):=by simp[hlh,h]
 obtain ⟨v',τ3,hap0,hE4,u1,u2⟩:=hE3.app (.bk 0 i c (32+t)) (by omega) (H:=τ2++[.cells [.i 0,.i 0,.i i,.i c,.i 0,.i ((32+t:Nat):Int),.i 1,.i 0,.i 0,.i 0,.i 0]]) (x:=τ2.length) ⟨_,rfl⟩ (by rw[WW];rfl)
 have hr3:=hE4.at (l:=3) (cs:=ta.map AV.i) (by simp)
 have hg3:(ta.map AV.i)[c]? = some (.i t):=by rw[gI_map ta c (by omega),ht]
 have hwt:IntKind.i64.wrap ((t:Int)+1)=((t+1:Nat):Int):=Q6 (by omega)
 have hst4:=row_st hr3 (k:=c) (by omega) ((t+1:Nat):Int)
 have hE5:=EvAt.set (A:=[(0,qX q),(1,sX q),(2,((le.set i (-1)).set i es.length).map AV.i)]) (l:=3) (cs:=ta.map AV.i) (B:=[(4,(ho.set i ((32+t:Nat):Int)).map AV.i)]) hE4 ((ta.set c ((t+1:Nat):Int)).map AV.i)
 simp only[hr4,hg4,V4,cellsOf,hap0,u1,u2,QW,QM,WW,X9,VW,EZ,Qau,CH,get_nz,get_ns,evA,simprocAttr]
 simp only[hia3,hr3,hg3,hwt,hst4,evA,simprocAttr]
 generalize τ3.set 3 (.cells ((ta.set c ((t+1:Nat):Int)).map AV.i))=τ4 at hE5 ⊢
 have hr3b:=hE5.at (l:=3) (cs:=(ta.set c ((t+1:Nat):Int)).map AV.i) (by simp)
 have hr0b:=hE5.at (l:=0) (cs:=qX q) (by simp)
 have hg3b:((ta.set c ((t+1:Nat):Int)).map AV.i)[c]? = some (.i ((t+1:Nat):Int)):=by simp[hlt,hc]
 have d4:decide (((t+1:Nat):Int)>(q.cs[c]!).pl)=false:=decide_eq_false (by omega)
 refine DW_s [] [] hmix (by kernel_rfl) rfl ?_
 simp only[hia3,hr3b,hg3b,hr0b,XP hc,cen_1 hc,d4,hws,evA,simprocAttr]
 refine ZL (by first | trivial | omega) ⟨τ4,v',_,_,_,_,_,_,_,_,_,hE5,?_,rfl⟩
 rw[ht] at hI2
 rw[List.set_set]
 exact hI2
theorem mov_0 {ms:List (Nat × Int × Int)} {k:Nat} (h:k<ms.length):(ms.flatMap movC)[k*3]? = some (.int .i64 ((ms[k]!).1:Int)):=flat_get movC_len h (j:=0) (by omega)
theorem mov_1 {ms:List (Nat × Int × Int)} {k:Nat} (h:k<ms.length):(ms.flatMap movC)[k*3+1]? = some (.int .i64 (ms[k]!).2.1):=flat_get movC_len h (j:=1) (by omega)
theorem mov_2 {ms:List (Nat × Int × Int)} {k:Nat} (h:k<ms.length):(ms.flatMap movC)[k*3+2]? = some (.int .i64 (ms[k]!).2.2):=flat_get movC_len h (j:=2) (by omega)
set_option maxRecDepth 8000 in
theorem tb_l4 (q:QL₀) (he:eQ q=0) (w gone:Nat) (hg:gone<q.ls.length) {Q:Exit→St→Prop} {d1:D1 ic3l4} {d2:D1 Q} {τ0:List AObj} {F N:Nat} {evv0 w15 w19 w32 w33 w34 w35 w36 w37 w38 w39:AV} {fr0 nw0 ho:List Int} {es0:List BEv}
  (h0:EvAt τ0 evv0 es0 [(0,qX q),(1,sX q),(4,ho.map AV.i),(F,fr0.map AV.i),(N,nw0.map AV.i)]) (hI0:I2₀ q.ls.length q.cs.length (giveQ q) ho (prQ q gone) q.ls.length 0 fr0 nw0 es0)
  (hend:∀ τ evv es fr nw v19 v36 v37 v38 v39,EvAt τ evv es [(0,qX q),(1,sX q),(4,ho.map AV.i),(F,fr.map AV.i),(N,nw.map AV.i)]→I2₀ q.ls.length q.cs.length (giveQ q) ho (prQ q gone) q.ls.length ((cancM q gone).length+1) fr nw es →
   Q (.exit 2) ⟨tbV q w gone (cancM q gone) evv [.i q.ls.length,w15,.sl F 0 q.ls.length 1,.sl N 0 q.ls.length 1,.i (cancM q gone).length,v19,.undef,.undef,.undef,.undef,.undef,.undef,.undef,.undef,.undef,.undef,.b false,.b false,w32,w33,w34,w35,v36,v37,v38,v39,.undef,.undef,.undef,.undef,.undef,.undef,.undef,.undef],τ⟩) :
  ILk Tryz.prog { vars:=vs3,N:=352,r:=none,n0:=0 } ic3l4 ⟨tbV q w gone (cancM q gone) evv0 [.i q.ls.length,w15,.sl F 0 q.ls.length 1,.sl N 0 q.ls.length 1,.i (-1),w19,.undef,.undef,.undef,.undef,.undef,.undef,.undef,.undef,.undef,.undef,.b false,.b false,w32,w33,w34,w35,w36,w37,w38,w39,.undef,.undef,.undef,.undef,.undef,.undef,.undef,.undef],τ0⟩ Q d1 d2:=by
 have hgl:=giveQ_len q
 obtain ⟨h5,h8,hL,hC⟩:=val_of he
 have hml:(cancM q gone).length≤q.ls.length:=movs_len _
 refine ZW ((cancM q gone).length+1) (fun t s=>∃ τ evv es fr nw v19 v36 v37 v38 v39,EvAt τ evv es [(0,qX q),(1,sX q),(4,ho.map AV.i),(F,fr.map AV.i),(N,nw.map AV.i)]∧I2₀ q.ls.length q.cs.length (giveQ q) ho (prQ q gone) q.ls.length t fr nw es∧s=⟨tbV q w gone (cancM q gone) evv [.i q.ls.length,w15,.sl F 0 q.ls.length 1,.sl N 0 q.ls.length 1,.i ((t:Int)-1),v19,.undef,.undef,.undef,.undef,.undef,.undef,.undef,.undef,.undef,.undef,.b false,.b false,w32,w33,w34,w35,v36,v37,v38,v39,.undef,.undef,.undef,.undef,.undef,.undef,.undef,.undef],τ⟩) ?_ 0 (QF _) ⟨τ0,_,_,_,_,_,_,_,_,_,h0,hI0,rfl⟩
 rintro t s ht ⟨τ,evv,es,fr,nw,v19,v36,v37,v38,v39,hE,hI,rfl⟩
 have hlf:=hI.lf
 have hln:=hI.ln
 have hel:=hI.el
 have hws:IntKind.i64.wrap ((t:Int)-1+1)=((t+1:Nat):Int)-1:=by rw[ZC (by omega)];omega
 by_cases h:t<(cancM q gone).length+1
 rotate_left
 ·have hie:t=(cancM q gone).length+1:=by omega
  subst hie
  have e:(((cancM q gone).length+1:Nat):Int)-1=((cancM q gone).length:Int):=by omega
  have hlt:¬ (((cancM q gone).length:Int)<((cancM q gone).length:Int)):=by omega
  simp only[ic3l4,e,hlt,evA,simprocAttr]
  exact hend _ _ _ _ _ _ _ _ _ _ hE hI
 have hp:prQ q gone t<q.ls.length:=by
  cases t with
  | zero=>exact hg
  | succ u=>exact (mv_at he hg (by omega)).1
 have dlt:decide ((t:Int)-1<((cancM q gone).length:Int))=true:=decide_eq_true (by omega)
 obtain ⟨j,hj⟩:∃ j,prQ q gone t=j:=⟨_,rfl⟩
 have hq0:=hE.at (l:=0) (cs:=qX q) (by simp)
 have hrf:=hE.at (l:=F) (cs:=fr.map AV.i) (by simp)
 have hrn:=hE.at (l:=N) (cs:=nw.map AV.i) (by simp)
 have hjl:j<q.ls.length:=by omega
 have hia:=fun l σ=>row_ia (l:=l) hjl σ
 have gia:=fun σ=>ints_ia (zs:=giveQ q) (k:=j) (by omega) σ
 have gld:((giveQ q).map (CV.int .i64))[j]? = some (.int .i64 (gI (giveQ q) j)):=by simp[gI,hgl,hjl]
 have hgf:(fr.map AV.i)[j]? = some (.i (gI fr j)):=gI_map fr j (by omega)
 have d1:decide ((j:Int)<0)=false:=decide_eq_false (by omega)
 have d2:decide ((j:Int)≥(q.ls.length:Int))=false:=decide_eq_false (by omega)
 cases t with
 | zero =>
  have e0:(((0:Nat):Int)-1) = -1:=rfl
  have hj:gone=j:=hj
  subst hj
  have hj':prQ q gone 0=gone:=rfl
  have d3:decide ((-1:Int)≥0)=false:=rfl
  rw[e0] at dlt hws
  simp only[ic3l4,e0,dlt,d3,evA,simprocAttr]
  refine DW_s [] [] hmix (by kernel_rfl) rfl ?_
  simp only[d1,d2,d3,evA,simprocAttr]
  by_cases hf0:0≤gI fr gone
  rotate_left
  ·have d4:decide (gI fr gone≥0)=false:=decide_eq_false hf0
   have hst:=row_st hrn (k:=gone) (by omega) (-1)
   have hE1:=EvAt.set (A:=[(0,qX q),(1,sX q),(4,ho.map AV.i),(F,fr.map AV.i)]) (l:=N) (cs:=nw.map AV.i) (B:=[]) hE ((nw.set gone (-1)).map AV.i)
   have hI1:=hI.less hp (by rw[hj'];omega)
   rw[hj'] at hI1
   simp only[hia,hrf,hgf,d4,hst,hws,evA,simprocAttr]
   exact ZL (by first | trivial | omega) ⟨_,_,_,_,_,_,_,_,_,_,hE1,hI1,rfl⟩
  have d4:decide (gI fr gone≥0)=true:=decide_eq_true hf0
  obtain ⟨l,hl,hlb,hI1⟩:=hI.more hp (by rw[hj'];exact hf0)
  rw[hj'] at hI1 hl
  rw[hl] at hgf d4
  have uE:evv.isUndef=false:=by rcases hE.ev with ⟨rfl,h⟩ | ⟨p,rfl,_⟩ <;> rfl
  have hrfJ:=fun J=>ZH hrf J
  obtain ⟨v',τ1,hap,hE1,u1,u2⟩:=hE.app (.cn l) (by omega) (H:=τ++[.cells [.i 1,.i 1,.i 0,.i 0,.i l,.i 0,.i 0,.i 0,.i 0,.i 0,.i 0]]) (x:=τ.length) ⟨_,rfl⟩ (by rw[WW];rfl)
  have hst1:=row_st (hE1.at (l:=F) (cs:=fr.map AV.i) (by simp)) (k:=gone) (by omega) (-1)
  have hE2:=EvAt.set (A:=[(0,qX q),(1,sX q),(4,ho.map AV.i)]) (l:=F) (cs:=fr.map AV.i) (B:=[(N,nw.map AV.i)]) hE1 ((fr.set gone (-1)).map AV.i)
  have hst2:=row_st (hE2.at (l:=N) (cs:=nw.map AV.i) (by simp)) (k:=gone) (by omega) (-1)
  have hE3:=EvAt.set (A:=[(0,qX q),(1,sX q),(4,ho.map AV.i),(F,(fr.set gone (-1)).map AV.i)]) (l:=N) (cs:=nw.map AV.i) (B:=[]) hE2 ((nw.set gone (-1)).map AV.i)
  simp only[hia,hrf,hgf,d4,uE,V4,cellsOf,hap,u1,u2,hst1,hst2,hws,QW,QM,WW,X9,VW,EZ,Qau,CH,get_nz,get_ns,evA,simprocAttr]
  exact ZL (by first | trivial | omega) ⟨_,_,_,_,_,_,_,_,_,_,hE3,hI1,rfl⟩
 | succ u =>
  have hu:u<(cancM q gone).length:=by omega
  obtain ⟨b1,b2,b3,b4,b5,b6⟩:=mv_at he hg hu
  have e0:(((u+1:Nat):Int)-1)=(u:Int):=by omega
  have hj':prQ q gone (u+1)=j:=hj
  rw[hj'] at b1 b2 b3 b4 b5 b6
  have m0:((cancM q gone)[u]!).1=j:=hj
  have d3:decide ((u:Int)≥0)=true:=decide_eq_true (by omega)
  rw[e0] at dlt hws
  have dg:((j:Int) == (gone:Int))=false:=beq_f (by omega)
  have db:(gI (giveQ q) j != gI (giveQ q) j)=false:=by simp
  have dt:decide (leftA q gone j<0)=false:=decide_eq_false (by omega)
  have du:decide (leftA q gone j≥(q.cs.length:Int))=false:=decide_eq_false (by omega)
  have iau:=fun σ=>XP (e:=3) (cs:=(cancM q gone).flatMap movC) hu σ
  have g0:=mov_0 hu
  have g1:=mov_1 hu
  have g2:=mov_2 hu
  rw[m0] at g0
  rw[b3] at g1
  rw[b4] at g2
  simp only[ic3l4,e0,dlt,d3,iau,g0,evA,simprocAttr]
  refine DW_s [] [] hmix (by kernel_rfl) rfl ?_
  simp only[d1,d2,d3,dg,iau,g1,g2,gia,gld,db,dt,du,hq0,evA,simprocAttr]
  by_cases hf0:0≤gI fr j
  rotate_left
  ·have d4:decide (gI fr j≥0)=false:=decide_eq_false hf0
   have hst:=row_st hrn (k:=j) (by omega) (-1)
   have hE1:=EvAt.set (A:=[(0,qX q),(1,sX q),(4,ho.map AV.i),(F,fr.map AV.i)]) (l:=N) (cs:=nw.map AV.i) (B:=[]) hE ((nw.set j (-1)).map AV.i)
   have hI1:=hI.less hp (by rw[hj'];omega)
   rw[hj'] at hI1
   simp only[hia,hrf,hgf,d4,hst,hws,evA,simprocAttr]
   exact ZL (by first | trivial | omega) ⟨_,_,_,_,_,_,_,_,_,_,hE1,hI1,rfl⟩
  have d4:decide (gI fr j≥0)=true:=decide_eq_true hf0
  obtain ⟨l,hl,hlb,hI1⟩:=hI.more hp (by rw[hj'];exact hf0)
  rw[hj'] at hI1 hl
  rw[hl] at hgf d4
  have uE:evv.isUndef=false:=by rcases hE.ev with ⟨rfl,h⟩ | ⟨p,rfl,_⟩ <;> rfl
  have hrfJ:=fun J=>ZH hrf J
  obtain ⟨v',τ1,hap,hE1,u1,u2⟩:=hE.app (.cn l) (by omega) (H:=τ++[.cells [.i 1,.i 1,.i 0,.i 0,.i l,.i 0,.i 0,.i 0,.i 0,.i 0,.i 0]]) (x:=τ.length) ⟨_,rfl⟩ (by rw[WW];rfl)
  have hst1:=row_st (hE1.at (l:=F) (cs:=fr.map AV.i) (by simp)) (k:=j) (by omega) (-1)
  have hE2:=EvAt.set (A:=[(0,qX q),(1,sX q),(4,ho.map AV.i)]) (l:=F) (cs:=fr.map AV.i) (B:=[(N,nw.map AV.i)]) hE1 ((fr.set j (-1)).map AV.i)
  have hst2:=row_st (hE2.at (l:=N) (cs:=nw.map AV.i) (by simp)) (k:=j) (by omega) (-1)
  have hE3:=EvAt.set (A:=[(0,qX q),(1,sX q),(4,ho.map AV.i),(F,(fr.set j (-1)).map AV.i)]) (l:=N) (cs:=nw.map AV.i) (B:=[]) hE2 ((nw.set j (-1)).map AV.i)
  simp only[hia,hrf,hgf,d4,uE,V4,cellsOf,hap,u1,u2,hst1,hst2,hws,QW,QM,WW,X9,VW,EZ,Qau,CH,get_nz,get_ns,evA,simprocAttr]
  exact ZL (by first | trivial | omega) ⟨_,_,_,_,_,_,_,_,_,_,hE3,hI1,rfl⟩
abbrev t3V (q:QL₀) (F N:Nat) (w15 w19 w32 w33 w34 w35 w36 w37 w38 w39:AV) (M:Nat) (u v21 v22 v23 v24 v25 v26 w40 w41 w42 w43 w44:AV):List AV :=
 [.i q.ls.length,w15,.sl F 0 q.ls.length 1,.sl N 0 q.ls.length 1,.i M,w19,u,v21,v22,v23,v24,v25,v26,.undef,.undef,.undef,.b false,.b false,w32,w33,w34,w35,w36,w37,w38,w39,w40,w41,w42,w43,w44,.undef,.undef,.undef]
section
variable {q:QL₀} {w gone:Nat} {ms:List (Nat × Int × Int)} {evv w15 w19 w32 w33 w34 w35 w36 w37 w38 w39 v21 w40 w41 w42 w43 w44 v25 v26:AV} {F N M:Nat} {τ:List AObj} {nw ho:List Int}
set_option maxRecDepth 8000 in
theorem tb_l1 (hgl:q.ls.length≤8) (hn:nw.length=q.ls.length) (hh:ho.length=q.ls.length) (hrN:rowOf τ N=some (nw.map AV.i)) (hr4:rowOf τ 4=some (ho.map AV.i)) (u:AV) (c hour h:Int) {Q:Exit→St→Prop} {d1:D1 ic3l1} {d2:D1 Q}
  (hend:∀ w42,Q (.exit 8) ⟨tbV q w gone ms evv (t3V q F N w15 w19 w32 w33 w34 w35 w36 w37 w38 w39 M u v21 (.i c) (.i hour) (.i h) (.b (frB nw ho c h q.ls.length)) (.i q.ls.length) w40 w41 w42 w43 w44),τ⟩) :
  ILk Tryz.prog { vars:=vs3,N:=352,r:=none,n0:=0 } ic3l1 ⟨tbV q w gone ms evv (t3V q F N w15 w19 w32 w33 w34 w35 w36 w37 w38 w39 M u v21 (.i c) (.i hour) (.i h) (.b true) (.i 0) w40 w41 w42 w43 w44),τ⟩ Q d1 d2:=by
 refine ZW q.ls.length (fun k s=>∃ w42,s=⟨tbV q w gone ms evv (t3V q F N w15 w19 w32 w33 w34 w35 w36 w37 w38 w39 M u v21 (.i c) (.i hour) (.i h) (.b (frB nw ho c h k)) (.i k) w40 w41 w42 w43 w44),τ⟩) ?_ 0 (QF _) ⟨_,rfl⟩
 rintro k s hk ⟨w42,rfl⟩
 by_cases hlt:k<q.ls.length
 rotate_left
 ·have hie:k=q.ls.length:=by omega
  subst hie
  simp only[ic3l1,QJ,hlt,evA,simprocAttr]
  exact hend _
 have hws:IntKind.i64.wrap ((k:Int)+1)=((k+1:Nat):Int):=Q6 (by omega)
 have hia:=fun l σ=>row_ia (l:=l) hlt σ
 have g1:=gI_map nw k (by omega)
 have g2:=gI_map ho k (by omega)
 have hf:frB nw ho c h (k+1)=(frB nw ho c h k && !(gI nw k == c&&gI ho k == h)):=rfl
 generalize frB nw ho c h (k+1)=b2 at hf
 generalize frB nw ho c h k=b at hf ⊢
 generalize gI nw k=x at hf g1
 generalize gI ho k=y at hf g2
 cases b
 ·have hf:b2=false:=by rw[hf];rfl
  subst hf
  simp only[ic3l1,QJ,hlt,hia,hrN,hr4,g1,g2,hws,evA,simprocAttr]
  exact ZL (by first | trivial | omega) ⟨_,rfl⟩
 cases e1:(x == c)
 ·have hf:b2=true:=by rw[hf,e1];rfl
  subst hf
  simp only[ic3l1,QJ,hlt,hia,hrN,hr4,g1,g2,e1,hws,evA,simprocAttr]
  exact ZL (by first | trivial | omega) ⟨_,rfl⟩
 cases e2:(y == h)
 ·have hf:b2=true:=by rw[hf,e1,e2];rfl
  subst hf
  simp only[ic3l1,QJ,hlt,hia,hrN,hr4,g1,g2,e1,e2,hws,evA,simprocAttr]
  exact ZL (by first | trivial | omega) ⟨_,rfl⟩
 ·have hf:b2=false:=by rw[hf,e1,e2];rfl
  subst hf
  simp only[ic3l1,QJ,hlt,hia,hrN,hr4,g1,g2,e1,e2,hws,evA,simprocAttr]
  exact ZL (by first | trivial | omega) ⟨_,rfl⟩
set_option maxRecDepth 8000 in
theorem tb_l2 (hgl:q.ls.length≤8) (hn:nw.length=q.ls.length) (hh:ho.length=q.ls.length) (hrN:rowOf τ N=some (nw.map AV.i)) (hr4:rowOf τ 4=some (ho.map AV.i)) (u:AV) (c:Int) (P:Nat) (hP:P≤6) {Q:Exit→St→Prop} {d1:D1 ic3l2} {d2:D1 Q}
  (hend:∀ v24 v25 v26 w41 w42 w43,Q (.exit 6) ⟨tbV q w gone ms evv (t3V q F N w15 w19 w32 w33 w34 w35 w36 w37 w38 w39 M u v21 (.i c) (.i (hrF nw ho c P P)) v24 v25 v26 w40 w41 w42 w43 w44),τ⟩) :
  ILk Tryz.prog { vars:=vs3,N:=352,r:=none,n0:=0 } ic3l2 ⟨tbV q w gone ms evv (t3V q F N w15 w19 w32 w33 w34 w35 w36 w37 w38 w39 M u v21 (.i c) (.i (-1)) (.i (31+P)) v25 v26 w40 w41 w42 w43 w44),τ⟩ Q d1 d2:=by
 refine ZW P (fun j s=>∃ v25 v26 w41 w42 w43,s=⟨tbV q w gone ms evv (t3V q F N w15 w19 w32 w33 w34 w35 w36 w37 w38 w39 M u v21 (.i c) (.i (hrF nw ho c P j)) (.i (31+P-j)) v25 v26 w40 w41 w42 w43 w44),τ⟩) ?_ 0 (QF _) ⟨v25,v26,w41,w42,w43,by simp[hrF]⟩
 rintro j s hj ⟨v25,v26,w41,w42,w43,rfl⟩
 by_cases hlt:j<P
 rotate_left
 ·have hie:j=P:=by omega
  subst hie
  have e:decide ((31:Int)+j-j≥32)=false:=decide_eq_false (by omega)
  simp only[ic3l2,e,evA,simprocAttr]
  exact hend _ _ _ _ _ _
 have e:decide ((31:Int)+P-j≥32)=true:=decide_eq_true (by omega)
 have hws:IntKind.i64.wrap ((31:Int)+P-j-1)=31+P-((j+1:Nat):Int):=by rw[ZC (by omega)];omega
 have hf:hrF nw ho c P (j+1)=if frB nw ho c (31+P-j) q.ls.length=true then (31:Int)+P-j else hrF nw ho c P j:=by rw[← hn];rfl
 simp only[ic3l2,e,evA,simprocAttr]
 refine tb_l1 hgl hn hh hrN hr4 u c _ _ fun w42=>?_
 cases hb:frB nw ho c (31+P-j) q.ls.length
 ·rw[hb,if_neg (by simp)] at hf
  simp only[hws,evA,simprocAttr]
  exact ZL (by first | trivial | omega) ⟨_,_,_,_,_,by rw[hf]⟩
 ·rw[hb,if_pos rfl] at hf
  simp only[hws,evA,simprocAttr]
  exact ZL (by first | trivial | omega) ⟨_,_,_,_,_,by rw[hf]⟩
end
set_option maxRecDepth 8000 in
theorem tb_l3 (q:QL₀) (he:eQ q=0) (w gone:Nat) (hg:gone<q.ls.length) {Q:Exit→St→Prop} {d1:D1 ic3l3} {d2:D1 Q} {τ0:List AObj} {F N B:Nat} {evv0 w15 w19 w32 w33 w34 w35 w36 w37 w38 w39:AV} {fr nw0 ho0:List Int} {es0:List BEv} (hB:B≤17)
  (h0:EvAt τ0 evv0 es0 [(0,qX q),(1,sX q),(4,ho0.map AV.i),(F,fr.map AV.i),(N,nw0.map AV.i)]) (hI0:I3₀ q.ls.length q.cs.length (prQ q gone) (leftA q gone) gone (cancM q gone).length B 0 nw0 ho0 es0)
  (hend:∀ τ evv es nw ho v20 v21 v22 v23 v24 v25 v26 w40 w41 w42 w43 w44,EvAt τ evv es [(0,qX q),(1,sX q),(4,ho.map AV.i),(F,fr.map AV.i),(N,nw.map AV.i)]→I3₀ q.ls.length q.cs.length (prQ q gone) (leftA q gone) gone (cancM q gone).length B (cancM q gone).length nw ho es →
   Q (.exit 4) ⟨tbV q w gone (cancM q gone) evv (t3V q F N w15 w19 w32 w33 w34 w35 w36 w37 w38 w39 (cancM q gone).length v20 v21 v22 v23 v24 v25 v26 w40 w41 w42 w43 w44),τ⟩) :
  ILk Tryz.prog { vars:=vs3,N:=352,r:=none,n0:=0 } ic3l3 ⟨tbV q w gone (cancM q gone) evv0 (t3V q F N w15 w19 w32 w33 w34 w35 w36 w37 w38 w39 (cancM q gone).length (.i 0) .undef .undef .undef .undef .undef .undef .undef .undef .undef .undef .undef),τ0⟩ Q d1 d2:=by
 have hgl:=giveQ_len q
 obtain ⟨h5,h8,hL,hC⟩:=val_of he
 have hml:(cancM q gone).length≤q.ls.length:=movs_len _
 refine ZW (cancM q gone).length (fun u s=>∃ τ evv es nw ho v21 v22 v23 v24 v25 v26 w40 w41 w42 w43 w44,EvAt τ evv es [(0,qX q),(1,sX q),(4,ho.map AV.i),(F,fr.map AV.i),(N,nw.map AV.i)]∧I3₀ q.ls.length q.cs.length (prQ q gone) (leftA q gone) gone (cancM q gone).length B u nw ho es∧s=⟨tbV q w gone (cancM q gone) evv (t3V q F N w15 w19 w32 w33 w34 w35 w36 w37 w38 w39 (cancM q gone).length (.i u) v21 v22 v23 v24 v25 v26 w40 w41 w42 w43 w44),τ⟩) ?_ 0 (QF _) ⟨τ0,_,_,_,_,_,_,_,_,_,_,_,_,_,_,_,h0,hI0,rfl⟩
 rintro u s hu ⟨τ,evv,es,nw,ho,v21,v22,v23,v24,v25,v26,w40,w41,w42,w43,w44,hE,hI,rfl⟩
 by_cases h:u<(cancM q gone).length
 rotate_left
 ·have hie:u=(cancM q gone).length:=by omega
  subst hie
  simp only[ic3l3,QJ,h,evA,simprocAttr]
  exact hend _ _ _ _ _ _ _ _ _ _ _ _ _ _ _ _ _ hE hI
 have hws:IntKind.i64.wrap ((u:Int)+1)=((u+1:Nat):Int):=Q6 (by omega)
 obtain ⟨b1,b2,b3,b4,b5,b6⟩:=mv_at he hg h
 obtain ⟨c,hc⟩:∃ c:Nat,leftA q gone (prQ q gone (u+1))=c:=⟨(leftA q gone (prQ q gone (u+1))).toNat,by omega⟩
 rw[hc] at b4 b5 b6
 have hcm:c<q.cs.length:=by omega
 obtain ⟨pl1,pl2⟩:=pl_nn he hcm
 obtain ⟨x,x1,x2,x3,hI2⟩:=hI.step (P:=plQ q) h b1 b2 (fun w' hw' e=>mv_inj he h hw' e) hcm hc (left_cap he hg hcm) pl2
 have g0:=mov_0 h
 have g2:=mov_2 h
 rw[b4] at g2
 have m0:((cancM q gone)[u]!).1=prQ q gone (u+1):=rfl
 rw[m0] at g0
 generalize prQ q gone (u+1)=j at b1 b2 b3 hc hI2 g0
 have iau:=fun σ=>XP (e:=3) (cs:=(cancM q gone).flatMap movC) h σ
 have hq0:=hE.at (l:=0) (cs:=qX q) (by simp)
 have hrN:=hE.at (l:=N) (cs:=nw.map AV.i) (by simp)
 have hr4:=hE.at (l:=4) (cs:=ho.map AV.i) (by simp)
 have hln:=hI.ln
 have hlh:=hI.lh
 have hel:=hI.el
 have hw31:IntKind.i64.wrap (31+(q.cs[c]!).pl)=31+((plQ q c:Nat):Int):=by rw[← pl1];exact ZC (by omega)
 simp only[ic3l3,QJ,h,evA,simprocAttr]
 refine DW_s [] [] hmix (by kernel_rfl) rfl ?_
 simp only[iau,g0,g2,hq0,XP hcm,cen_1 hcm,hw31,evA,simprocAttr]
 refine tb_l2 h8 hln hlh hrN hr4 _ _ (plQ q c) pl2 fun v24 v25 v26 w41 w42 w43=>?_
 rw[x1]
 have d1:decide ((x:Int)<0)=false:=decide_eq_false (by omega)
 have hia:=fun l σ=>row_ia (l:=l) b1 σ
 have hst1:=row_st hrN (k:=j) (by omega) c
 have hE1:=EvAt.set (A:=[(0,qX q),(1,sX q),(4,ho.map AV.i),(F,fr.map AV.i)]) (l:=N) (cs:=nw.map AV.i) (B:=[]) hE ((nw.set j c).map AV.i)
 have hst2:=row_st (hE1.at (l:=4) (cs:=ho.map AV.i) (by simp)) (k:=j) (by omega) x
 have hE2:=EvAt.set (A:=[(0,qX q),(1,sX q)]) (l:=4) (cs:=ho.map AV.i) (B:=[(F,fr.map AV.i),(N,(nw.set j c).map AV.i)]) hE1 ((ho.set j x).map AV.i)
 obtain ⟨v',τ3,hap,hE3,u1,u2⟩:=hE2.app (.bk 1 j c x) (by omega) (H:=((τ.set N (.cells ((nw.set j c).map AV.i))).set 4 (.cells ((ho.set j x).map AV.i)))++[.cells [.i 0,.i 1,.i j,.i c,.i 0,.i x,.i 1,.i 0,.i 0,.i 0,.i 0]]) (x:=τ.length) ⟨_,rfl⟩ (by
  have e:τ.length=((τ.set N (.cells ((nw.set j c).map AV.i))).set 4 (.cells ((ho.set j x).map AV.i))).length:=by simp
  rw[e,WW];rfl)
 have uE:evv.isUndef=false:=by rcases hE.ev with ⟨rfl,h⟩ | ⟨p,rfl,_⟩ <;> rfl
 simp only[d1,hia,hst1,hst2,uE,V4,cellsOf,evA,simprocAttr]
 simp only[hap,u1,u2,hws,QW,QM,WW,X9,VW,EZ,Qau,CH,get_nz,get_ns,evA,simprocAttr]
 exact ZL (by first | trivial | omega) ⟨_,_,_,_,_,_,_,_,_,_,_,_,_,_,_,_,hE3,hI2,rfl⟩
section
variable {τ:List AObj} {evv:AV} {es:List BEv} {R:List (Nat × List AV)}
theorem EvAt.grow (h:EvAt τ evv es R) {τ':List AObj} (hS:∀ l,l<τ.length→τ'[l]? = τ[l]?) {z:Nat} {cs:List AV} (hz:τ.length≤z) (hr:τ'[z]? = some (.cells cs)):EvAt τ' evv es (R++[(z,cs)]):=by
 have hlt:=h.lt
 refine ⟨fun r hm=>?_,?_,?_⟩
 ·rcases YV.1 hm with hm | hm
  ·rw[hS _ (hlt _ (List.mem_append_right _ (List.mem_map_of_mem hm)))];exact h.rows r hm
  ·rw[WZ] at hm;subst hm;exact hr
 ·rcases h.ev with h1 | ⟨p,h1,h2⟩
  ·exact .inl h1
  ·refine .inr ⟨p,h1,?_⟩
   have:=WO h2
   unfold rowOf
   rw[hS p (hlt p (by rw[h1];simp[slOf])),this]
 ·rw[ZS,← QW,List.nodup_append]
  refine ⟨h.nd,by simp,fun x hx y hy e=>?_⟩
  simp at hy;subst hy;subst e
  have:=hlt _ hx;omega
theorem clone_at (h:EvAt τ evv es R) {src:AV} {zs:List Int} (hs:Z9 (τ++[.cells []]) 1 src=some (zs.map AV.i)) (hl:lenF src=some zs.length) (hn:zs.length≤100) :
  ∃ z τ',ZX 1 8 [.sl τ.length 0 0 1,src] (τ++[.cells []])=some (.sl z 0 zs.length 1,τ')∧EvAt τ' evv es (R++[(z,zs.map AV.i)]):=by
 have hp44:(2:Nat) ^ 44=17592186044416:=by decide
 refine ⟨(τ++[AObj.cells []]).length,(τ++[AObj.cells []]).set τ.length .dead++[.cells (zs.map AV.i)],?_,h.grow (fun l hlt=>?_) (by simp) (by simp)⟩
 ·have hrow:rowOf (τ++[.cells []]) τ.length=some []:=XH τ []
  simp only[ZX,hrow,hs,hl,Option.bind_some]
  rw[if_pos ⟨trivial,by simp,by simp,by omega,by omega,by rw[Q1];intro v hv;obtain ⟨z,_,rfl⟩:=ZP.1 hv;rfl⟩]
  simp
 ·rw[QE (by simp;omega),QU (by omega),QE hlt]
end
set_option maxRecDepth 8000 in
theorem lc3 (q:QL₀) (hq:QSz q) (w:Nat) (hw:w<256):AC Tryz.prog 3 [qV q,.cv (.int .u8 w)] [] fun r _=>r=.b true:=by
 refine ZF (fok3 true) (QC rfl) ?_
 simp only[ic3,WI,cellsOf,evA,simprocAttr]
 refine (c4 q hq).call frz ?_
 simp only[chkV_e,evA,simprocAttr]
 by_cases he:eQ q=0
 rotate_left
 ·have hb:=bne_t he
  simp only[hb,evA,simprocAttr]
  refine ak5.call .nil ?_
  simp only[evA,simprocAttr]
  refine c6.call .nil ?_
  simp only[evA,simprocAttr]
 by_cases hl0:q.ls.length=0
 ·have e:((q.ls.length:Int) == 0)=true:=by rw[hl0];rfl
  simp only[he,e,evA,simprocAttr]
  refine ak5.call .nil ?_
  simp only[evA,simprocAttr]
  refine c6.call .nil ?_
  simp only[evA,simprocAttr]
 have e:((q.ls.length:Int) == 0)=false:=beq_f (by omega)
 have h1:1≤q.ls.length:=by omega
 obtain ⟨hx,h5,h8,c1⟩:=sch_ok hq he h1
 have hgl:=giveQ_len q
 simp only[he,e,evA,simprocAttr]
 refine (c7 q hq).call ?_
 simp only[giveV_ok he,evA,simprocAttr]
 have hwr:IntKind.i64.wrap (w:Int)=(w:Int):=ZC (by omega)
 have hn0:¬ ((q.ls.length:Int)=0):=by omega
 obtain ⟨gone,hgd⟩:∃ g,g=w % q.ls.length:=⟨_,rfl⟩
 have htm:(w:Int).tmod (q.ls.length:Int)=(gone:Int):=by rw[hgd];rfl
 have hg:gone<q.ls.length:=by rw[hgd];exact Nat.mod_lt _ (by omega)
 clear hgd
 simp only[hwr,hn0,htm,evA,simprocAttr]
 refine (c8 q hq gone).call ?_
 have hcv:cancV q (gone:Int)=.tup [movL (cancM q gone),.i 0]:=by
  unfold cancV
  rw[if_pos he,if_pos (by simp[inB];omega)]
  rfl
 have hne:((q.ls.length:Int) != (q.ls.length:Int))=false:=by simp
 simp only[hcv,hgl,hne,evA,simprocAttr]
 refine (bk9 q hq h8 h5 h1 c1).call frz ?_
 simp only[evA,simprocAttr]
 have hmk1:=fun σ=>MP (n:=q.ls.length) (by omega) σ
 have hmk2:=fun σ=>MP (n:=q.cs.length) (by omega) σ
 refine DW_s [] [(2,6),(4,2),(6,2)] hmix (by kernel_rfl) rfl ?_
 simp only[hgl,hmk1,hmk2,QW,QM,WW,X9,VW,EZ,Qau,CH,get_nz,get_ns,evA,simprocAttr]
 refine tb_l5 q he w gone (cancM q gone) (le0:=List.replicate q.ls.length 0) (ta0:=List.replicate q.cs.length 0) (ho0:=List.replicate q.ls.length 0) ⟨fun r hr=>?_,.inl ⟨rfl,rfl⟩,by simp[slOf]⟩ (I1₀.zero (by simp) (by simp) (by simp) (fun c hc=>by simp[gI,hc])) fun τ evv es le ta ho v15 v32 v33 v34 v35 hE hI=>?_
 ·simp only[ZD,WK,or_false] at hr
  rcases hr with rfl | rfl | rfl | rfl | rfl <;> rfl
 have hI2:=I2₀.zero (pr:=prQ q gone) hgl hI
 have hll:=hI.ll
 have hr2:=hE.at (l:=2) (cs:=le.map AV.i) (by simp)
 have hsr:Z9 (τ++[.cells []]) 1 (.sl 2 0 q.ls.length 1)=some (le.map AV.i):=by
  have h0:=ZH hr2 [.cells []]
  have h1:0+q.ls.length*1≤(le.map AV.i).length:=by rw[ZK];omega
  have h2:(le.map AV.i).take (q.ls.length*1)=le.map AV.i:=Q5 (by rw[ZK];omega)
  simp only[Z9,h0,Option.bind_some,h1,if_true,YO,h2]
 obtain ⟨F,τ1,hap1,hE1⟩:=clone_at hE (src:=.sl 2 0 q.ls.length 1) (zs:=le) hsr (by simp[lenF,hll]) (by omega)
 obtain ⟨N,τ2,hap2,hE2⟩:=clone_at hE1 (src:=ints (giveQ q)) (zs:=giveQ q) (by simp[Z9]) (by simp[lenF]) (by omega)
 rw[hll] at hap1
 rw[hgl] at hap2
 simp only[V4,hap1,hap2,QW,QM,WW,X9,VW,EZ,Qau,CH,get_nz,get_ns,evA,simprocAttr]
 have hml:(cancM q gone).length≤q.ls.length:=movs_len _
 have hlh:=hI.lh
 refine tb_l4 q he w gone hg (F:=F) (N:=N) (hE2.sub (((((List.Sublist.refl _).cons _).cons _).cons_cons _).cons_cons _)) hI2 fun τ3 evv3 es3 fr nw v19 v36 v37 v38 v39 hE3 hI3=>?_
 simp only[evA,simprocAttr]
 refine tb_l3 q he w gone hg (B:=q.ls.length+((cancM q gone).length+1)) (by omega) hE3 (I3₀.zero hI3 hlh rfl (fun k hk hne hn=>stay he hk hn)) fun τ4 evv4 es4 nw4 ho4 v20 v21 v22 v23 v24 v25 v26 w40 w41 w42 w43 w44 hE4 hI4=>?_
 simp only[evA,simprocAttr]
 have hr1:=hE4.at (l:=1) (cs:=sX q) (by simp)
 have u4:evv4.isUndef=false:=by rcases hE4.ev with ⟨rfl,h⟩ | ⟨p,rfl,_⟩ <;> rfl
 have hel:=hI4.el
 obtain ⟨s,hrun,_⟩:=hI4.st
 simp only[hr1,u4,evA,simprocAttr]
 refine (run_law hq he h1 (by omega) hrun).call (.cons (.agg (.cons (.c (.c _ trivial)) (.cons (.c (.c _ trivial)) (.cons (.c (.c _ trivial)) (.cons (.c (.c _ trivial)) (.cons (.c (.c _ trivial)) (.cons (.c (.c _ trivial)) (.cons (.c (.c _ trivial)) .nil)))))))) (.cons ?_ .nil)) ?_
 ·rcases hE4.ev with ⟨rfl,h⟩ | ⟨p,rfl,hp⟩
  ·rw[h];exact .c .nl
  ·have e:evL (es4.map evM)=.cv (.rsl (es4.flatMap evX) es4.length):=by
    simp only[evL,ZK,List.flatMap_map]
    rfl
   rw[e]
   exact sl_frz (rest:=[]) (by rw[ZU];exact hp) (UG evX_len _) (fun _ _=>trivial)
 have hS:=sok_run es4 0 _ _ (sok_0 q.ls.length q.cs.length) hrun
 have hlen4:∀ σ,RZ false [evv4] σ=some (.i es4.length,σ):=fun σ=>by rcases hE4.ev with ⟨rfl,h⟩ | ⟨p,rfl,_⟩ <;> simp[*,RZ]
 have hrl:(List.replicate es4.length (0:Int)).length=es4.length:=by simp
 have hne4:((es4.length:Int) != (es4.length:Int))=false:=by simp
 simp only[t3V,hlen4,hrl,hne4,u4,QW,QM,WW,X9,VW,EZ,Qau,CH,get_nz,get_ns,evA,simprocAttr]
 have hel60:es4.length≤60:=by omega
 refine ZW es4.length (fun i st=>∃ v46 v47,st=⟨tbV q w gone (cancM q gone) evv4 [.i q.ls.length,v15,.sl F 0 q.ls.length 1,.sl N 0 q.ls.length 1,.i (cancM q gone).length,v19,v20,v21,v22,v23,v24,v25,v26,ints (List.replicate es4.length 0),.ptr τ4.length 0,.i i,.b false,.b false,v32,v33,v34,v35,v36,v37,v38,v39,w40,w41,w42,w43,w44,.b false,v46,v47],τ4++[.cells [lesL (s.ls.map leM),ints ((schQ q).cs.map (·.km)),ints (List.replicate (schQ q).cs.length 0),ints s.ac]]⟩) ?_ 0 (QF _) ⟨_,_,rfl⟩
 rintro i st hi ⟨v46,v47,rfl⟩
 by_cases h:i<es4.length
 ·have hws:IntKind.i64.wrap ((i:Int)+1)=((i+1:Nat):Int):=Q6 (by omega)
  have gia:=fun σ=>ints_ia (zs:=List.replicate es4.length 0) (k:=i) (by simpa using h) σ
  have gld:((List.replicate es4.length (0:Int)).map (CV.int .i64))[i]? = some (.int .i64 0):=by simp[h]
  simp only[ic3l0,hrl,QJ,h,gia,gld,hws,evA,simprocAttr]
  exact ZL (by first | trivial | omega) ⟨_,_,rfl⟩
 simp only[ic3l0,hrl,QJ,h,QW,QM,WW,X9,VW,EZ,Qau,CH,get_nz,get_ns,evA,simprocAttr]
 have hb:∀ j,-1000000000000≤gI s.ac j∧gI s.ac j≤1000000000000:=fun j=>by have:=hS.ab j;omega
 refine (bk11 s.ac (by rw[hS.al];omega) hb).call frz ?_
 simp only[hS.as_,QW,QM,WW,X9,VW,EZ,Qau,CH,get_nz,get_ns,evA,simprocAttr]
 refine ak5.call .nil ?_
 simp only[QW,QM,WW,X9,VW,EZ,Qau,CH,get_nz,get_ns,evA,simprocAttr]
 refine c6.call .nil ?_
 simp only[QW,QM,WW,X9,VW,EZ,Qau,CH,get_nz,get_ns,evA,simprocAttr]
theorem typed_byte {cs:List CV} (h:Typed Tryz.prog 5 cs):∃ x:Nat,x<256∧avOf Tryz.prog 5 cs=.cv (.int .u8 x):=by
 obtain ⟨n,rfl,hn⟩:=QeV Tryz.underlying5 h
 have:=wf_u8 hn
 exact ⟨n.toNat,by omega,by rw[VI this.1];simp[avOf,Tryz.underlying5]⟩
theorem law_TopBooked (avs:List AV) (h:Args Tryz.prog Tryz.f3.params.toList avs):AC Tryz.prog 3 avs [] fun r _=>r=.b true:=by
 have h:Args Tryz.prog [25,5] avs:=h
 obtain ⟨cs1,avs,rfl,h1,h⟩:=args_cons h
 obtain ⟨cs2,avs,rfl,h2,h⟩:=args_cons h
 cases args_nil h
 obtain ⟨q,e,hq⟩:=typed_q h1
 obtain ⟨w,hw,e2⟩:=typed_byte h2
 rw[e,e2]
 exact lc3 q hq w hw
end Go.Proofs.YtfnhbbohjnjfnaaGreat.AM

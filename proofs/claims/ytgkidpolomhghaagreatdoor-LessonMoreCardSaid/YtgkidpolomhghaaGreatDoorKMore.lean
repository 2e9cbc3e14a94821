/- Parts of the proof of More. -/
import Derived.Test.YtgkidpolomhghaaGreatDoorProg
import Derived.Test.YtgkidpolomhghaaGreatDoorRows
import Derived.WalkKit
import Derived.ProofKit
import Derived.OpenShut
import Derived.Carry
import Derived.Test.YtgkidpolomhghaaGreatDoorZ27
set_option linter.unusedVariables false
set_option linter.unusedSimpArgs false
set_option linter.unusedSectionVars false
namespace Go.Proofs.YtgkidpolomhghaaGreatDoor.AM
variable [Dr]
open Go
abbrev vs42:List Nat:=[0,1,4,5,6,16,20,28,32,54]
def ic42l0:IC:=(.seq (.seq (.region [jv 4,jv 0,je 1,jw 8 (.bin .lss .int) [.t 0,.t 2]])
 (.cond 8 .skip
 (.exit 2)))
 (.seq (.block 3 (.seq (.dr [[],[],[0,1],[2],[3],[],[5],[6],[7],[4,8,7],[9],[10,9],[11],[11],[12,13,11],[14,11],[15,11],[16,11,11],[17,11],[11,18]] [jv 0,jv 4,ja 2 0 1,jG 0 2,jl 3,jv 1,je 5,jk 83 [.t 6],jq (.bin .sub .int) [.t 7,jn 1],jk 64 [.t 4,jn 0,.t 8],jq .not [.t 9],jt 10,jh 11 false 0,jh 11 false 4,jg 11 false (.iaS 2) [.t 12,.t 13],jg 11 false (.fadd 1) [.t 14],ji 11 false 15,jf 11 false 64 [.t 16,jn 0,jn 100000],jg 11 false .not [.t 17],jw 9 .pick [.t 11,jB true,.t 18]])
 (.cond 9 (.seq (.region [jz 2 7])
 .ret)
 .skip)))
 (.region [jv 4,jq (.bin .add .int) [.t 0,jn 1],jm 4 1])))
def ic42l1:IC:=(.seq (.seq (.region [jv 3,jv 1,je 1,jw 6 (.bin .lss .int) [.t 0,.t 2]])
 (.cond 6 .skip
 (.exit 0)))
 (.seq (.block 1 (.seq (.region [jv 1,jv 3,ja 1 0 1,jl 2,jk 64 [.t 3,jn 0,jn 3],jw 7 .not [.t 4]])
 (.cond 7 (.seq (.region [jz 2 7])
 .ret)
 .skip)))
 (.region [jv 3,jq (.bin .add .int) [.t 0,jn 1],jm 3 1])))
def ic42:IC:=(.seq (.region [jz 2 0])
 (.seq (.seq (.region [jv 0,je 0,jk 64 [.t 1,jn 1,jn 12],jq .not [.t 2],jt 3,jh 4 false 1,jg 4 false (.len false) [.t 5],jf 4 false 64 [.t 6,jn 1,jn 6],jg 4 false .not [.t 7],jw 5 .pick [.t 4,jB true,.t 8]])
 (.cond 5 (.seq (.region [jz 2 3])
 .ret)
 .skip))
 (.seq (.seq (.region [jz 3 0])
 (.block 0 (.loop ic42l1)))
 (.seq (.seq (.region [jz 4 0])
 (.block 2 (.loop ic42l0)))
 (.seq (.region [jz 2 0])
 .ret)))))
abbrev rs42:List RC:=[(.v 2)]
theorem fok42 (p:Bool):FnOk Tryz.prog 42 ⟨ic42,vs42,55,rs42,p⟩:=.mk2 Tryz.func42 (by kernel_rfl) (by kernel_rfl) (by kernel_rfl) (by kernel_rfl) (by kernel_rfl)
abbrev vs64:List Nat:=[0,1,2,6]
def ic64:IC:=(.seq (.region [jw 3 .mv [jB false]])
 (.seq (.region [jv 0,jv 1,jq (.bin .geq .int) [.t 0,.t 1],jt 2,jh 3 true 0,jh 3 true 2,jg 3 true (.bin .leq .int) [.t 4,.t 5],jq .pick [.t 3,.t 6,jB false],jm 3 7])
 .ret))
abbrev rs64:List RC:=[(.v 3)]
theorem fok64 (p:Bool):FnOk Tryz.prog 64 ⟨ic64,vs64,15,rs64,p⟩:=.mk2 Tryz.func64 (by kernel_rfl) (by kernel_rfl) (by kernel_rfl) (by kernel_rfl) (by kernel_rfl)
end Go.Proofs.YtgkidpolomhghaaGreatDoor.AM
namespace Go.Proofs.YtgkidpolomhghaaGreatDoor.AM
variable [Dr]
open Go
variable {P:Program} {fx:Fx} {s:St} {Q:Exit→St→Prop} {f:FuncId}
theorem WB.later {m:LM} {X:Nat→Prop} {en:En} {w:World} {c:Code} {s':St} {m':LM} {w':World} {ac':Act} (h:WB f P fx c s' Q) (hr:rok fx m) (hs':SRel fx m' X en s' ac' w') (hst:Step fx.n0 m X w m' w') :
  InF f (fen m fx.r) 0 P c (Lift fx m X en w Q) ac' w':=by
 rw[← EQ hr hst]
 exact InF.mono (h m' X en ac' w' hs' (EH hr hst)) fun e ac2 w2 ⟨s2,m2,h1,h2,h3⟩=>⟨s2,m2,h1,h2,hst.trans h3⟩
end Go.Proofs.YtgkidpolomhghaaGreatDoor.AM
namespace Go.Proofs.YtgkidpolomhghaaGreatDoor.AM
variable [Dr]
open Go Pl
section
variable {l:List Pat} {k:Nat}
theorem pat_0 (h:k<l.length):(NU l)[k*2]? = some (.int .i64 (l[k]!).1):=flat_get IY h (j:=0) (by omega)
theorem pat_1 (h:k<l.length):(NU l)[k*2+1]? = some (.int .i64 (l[k]!).2):=flat_get IY h (j:=1) (by omega)
end
theorem le64 (n lo hi:Int):PC Tryz.prog 64 [.i n,.i lo,.i hi] (.b (inB n lo hi)):=by
 refine ⟨ZF (fok64 true) (QC rfl) ?_,rfl⟩
 unfold inB
 by_cases h:n≥lo <;> simp only[ic64,h,evA,simprocAttr] <;> exact frz
end Go.Proofs.YtgkidpolomhghaaGreatDoor.AM
namespace Go.Proofs.YtgkidpolomhghaaGreatDoor.AM
variable [Dr]
open Go Go.ChangeShapes Go.WideShapes Go.ChangeAt Go.RowKit
abbrev noO:Nat→Prop:=Own (fun _=>none) (fun _=>False)
theorem not_noO (b:Nat):¬ noO b:=by rintro (h | ⟨l,hl⟩);exact h;cases hl
theorem DG {α:Type} {Q:Nat→α→Prop}:∀ (n:Nat),(∀ i,i<n→∃ l,Q i l)→∃ L:List α,L.length=n∧∀ (i:Nat) (l:α),L[i]? = some l→Q i l
 | 0,_=>⟨[],rfl,by simp⟩
 | n+1,h=>by
  obtain ⟨L,h1,h2⟩:=DG n (fun i hi=>h i (by omega))
  obtain ⟨l,hl⟩:=h n (by omega)
  refine ⟨L++[l],by simp[h1],fun i l' hi=>?_⟩
  rcases ZB i n with hlt | hge
  ·rw[QE (by omega)] at hi;exact h2 i l' hi
  ·rw[QS (by omega),h1] at hi
   have:i=n:=by
    rcases ZB n i with h' | h'
    ·rw[QN (by simp;omega)] at hi;cases hi
    ·omega
   subst this
   simp at hi;subst hi;exact hl
theorem CJ {R:Nat→CV→Prop} {esz:Nat}:∀ (L:List (List CV)) (n:Nat),(∀ (i:Nat) (l:List CV),L[i]? = some l→l.length=esz∧∀ (j:Nat) (c:CV),l[j]? = some c→R (n+i*esz+j) c) →
  L.flatten.length=L.length*esz∧∀ (k:Nat) (c:CV),L.flatten[k]? = some c→R (n+k) c
 | [],n,_=>by simp
 | l::L,n,h=>by
  obtain ⟨h1,h2⟩:=h 0 l (by simp)
  have ih:=CJ L (n+esz) (fun i l' hi=>by
   obtain ⟨g1,g2⟩:=h (i+1) l' (by simpa using hi)
   refine ⟨g1,fun j c hj=>?_⟩
   have:=g2 j c hj
   rwa [WP,Nat.one_mul,← Nat.add_assoc,Nat.add_right_comm n] at this)
  refine ⟨by simp[h1,ih.1,WP,Nat.add_comm],fun k c hk=>?_⟩
  rw[List.flatten_cons] at hk
  rcases ZB k l.length with hlt | hge
  ·rw[QE hlt] at hk
   have:=h2 k c hk
   simpa using this
  ·rw[QS hge] at hk
   have:=ih.2 (k-l.length) c hk
   rwa [show n+esz+(k-l.length)=n+k by omega] at this
theorem A4 {P:Program} {R:Nat→CV→Prop} {N:Nat}:∀ (fs:List Field) (L:List (List CV)) (n:Nat),J8 P fs n=some N→L.length=fs.length →
  (∀ (i:Nat) (f:Field) (l:List CV),fs[i]? = some f→L[i]? = some l→l.length=P.cellsOf f.type∧∀ (j:Nat) (c:CV),l[j]? = some c→R (f.offset+j) c) →
  n+L.flatten.length=N∧∀ (k:Nat) (c:CV),L.flatten[k]? = some c→R (n+k) c
 | [],L,n,he,hl,_=>by
  have:L=[]:=ZT (by simpa using hl)
  subst this
  simp only[J8,Option.some.injEq] at he
  simp[he]
 | f::fs,[],n,_,hl,_=>by simp at hl
 | f::fs,l::L,n,he,hl,h=>by
  simp only[J8] at he
  split at he
  ·rename_i hoff
   obtain ⟨h1,h2⟩:=h 0 f l (by simp) (by simp)
   have ih:=A4 fs L (n+P.cellsOf f.type) he (by simpa using hl) (fun i f' l' hf hl'=>h (i+1) f' l' (by simpa using hf) (by simpa using hl'))
   refine ⟨by rw[← ih.1];simp[h1];omega,fun k c hk=>?_⟩
   rw[List.flatten_cons] at hk
   rcases ZB k l.length with hlt | hge
   ·rw[QE hlt] at hk
    have:=h2 k c hk
    rwa [hoff] at this
   ·rw[QS hge] at hk
    have:=ih.2 (k-l.length) c hk
    rwa [show n+P.cellsOf f.type+(k-l.length)=n+k by omega] at this
  ·cases he
theorem NT {W:World} {a:Addr}:∀ (cs:List CV) (i:Nat),(∀ (j:Nat) (c:CV),cs[j]? = some c→∃ v,W.cell? (a.add (i+j))=some v∧c.rep W noO v)→CV.reps W noO cs a i
 | [],_,_=>by simp[CV.reps]
 | c::cs,i,h=>by
  simp only[CV.reps]
  refine ⟨not_noO _,by simpa using h 0 c (by simp),NT cs (i+1) fun j c' hj=>?_⟩
  have:=h (j+1) c' (by simpa using hj)
  rwa [show i+(j+1)=i+1+j by omega] at this
section
variable {H:Type} {enc:TypeId × Value→H} {P:Program} {W:World}
theorem EW:∀ (n:Nat) (t:TypeId) (cs:List Value) (x:DataW H × List MemPlace) (fuel:Nat),TG P n t=true→DataW.trod enc P W 0 (fun _=>true) true fuel t cs=some x →
  ∃ cvs:List CV,Typed P t cvs∧cvs.length=cs.length∧∀ (i:Nat) (c:CV) (v:Value),cvs[i]? = some c→cs[i]? = some v→c.rep W noO v
 | 0,t,cs,x,fuel,ho,_=>by simp[TG] at ho
 | n + 1,t,cs,x,fuel,ho,h=>by
  simp only[TG] at ho
  split at ho
  ·rename_i ht
   obtain ⟨b,rfl,_⟩:=DataW.trod_bool ht h
   refine ⟨[.bool b],.bool ht b,rfl,fun i c v h1 h2=>?_⟩
   cases i with
   | zero=>simp at h1 h2;subst h1 h2;simp[CV.rep]
   | succ i=>simp at h1
  ·rename_i k ht
   obtain ⟨b,rfl,_,hw⟩:=DataW.trod_int ht h
   refine ⟨[.int k b],.int ht b hw,rfl,fun i c v h1 h2=>?_⟩
   cases i with
   | zero=>simp at h1 h2;subst h1 h2;simp[CV.rep]
   | succ i=>simp at h1
  ·rename_i ht
   obtain ⟨s,rfl,_,hw⟩:=DataW.trod_string ht h
   refine ⟨[.str s],.str ht s hw,rfl,fun i c v h1 h2=>?_⟩
   cases i with
   | zero=>simp at h1 h2;subst h1 h2;simp[CV.rep]
   | succ i=>simp at h1
  ·rename_i e ht
   rcases DataW.trod_slice ht h with ⟨rfl,_⟩ | ⟨a,len,cap,elems,rest,m,_,rfl,_,_,hlc,hcm,hel,hget,_⟩
   ·refine ⟨[.rsl [] 0],by simpa using Typed.slc ht [] (by simp) (by simp) (by simp),rfl,fun i c v h1 h2=>?_⟩
    cases i with
    | zero=>simp at h1 h2;subst h1 h2;simp[CV.rep]
    | succ i=>simp at h1
   ·obtain ⟨L,hL,hQ⟩:=DG (Q:=fun i l=>Typed P e l∧l.length=P.cellsOf e∧∀ (j:Nat) (c:CV),l[j]? = some c→∃ v,W.cell? (a.add (i*P.cellsOf e+j))=some v∧c.rep W noO v) len (fun i hi=>by
     have hg:=hget i hi
     rw[QI (by omega)] at hg
     obtain ⟨ci,h1,h2⟩:=QB.1 hg
     obtain ⟨_,hlen,hcell⟩:=World.cells?_some h1
     obtain ⟨cvs,g1,g2,g3⟩:=EW n e ci _ _ ho h2
     refine ⟨cvs,g1,by omega,fun j c hj=>?_⟩
     have hjl:j<cvs.length:=(QH.1 hj).1
     have hc:=hcell j (by omega)
     rw[QI (by omega)] at hc
     exact ⟨_,by rw[← Addr.add_add];exact hc,g3 j c _ hj (QI _)⟩)
    have hmem:∀ l∈L,∃ i:Nat,L[i]? = some l:=fun l hl=>List.mem_iff_getElem?.1 hl
    have hfl:=CJ (R:=fun k c=>∃ v,W.cell? (a.add k)=some v∧c.rep W noO v) (esz:=P.cellsOf e) L 0 (fun i l hi=>⟨(hQ i l hi).2.1,fun j c hj=>by simpa using (hQ i l hi).2.2 j c hj⟩)
    refine ⟨[.rsl L.flatten L.length],Typed.slc ht L (by omega) (fun l hl=>let ⟨i,hi⟩:=hmem l hl;(hQ i l hi).2.1) (fun l hl=>let ⟨i,hi⟩:=hmem l hl;(hQ i l hi).1),rfl,fun i c v h1 h2=>?_⟩
    cases i with
    | zero =>
     simp at h1 h2;subst h1 h2
     simp only[CV.rep]
     exact .inr ⟨a,cap,by rw[hL],by omega,NT _ 0 (fun j c hj=>hfl.2 j c hj)⟩
    | succ i=>simp at h1
  ·rename_i k e ht
   simp only[QD,decide_eq_true_eq] at ho
   obtain ⟨xs,m,_,_,hlen,hxs,hget⟩:=DataW.trod_array ht h
   obtain ⟨L,hL,hQ⟩:=DG (Q:=fun i l=>Typed P e l∧l.length=P.cellsOf e∧∀ (j:Nat) (c:CV),l[j]? = some c→∀ v,cs[i*P.cellsOf e+j]? = some v→c.rep W noO v) k (fun i hi=>by
     have hg:=hget i hi
     rw[QI (by omega)] at hg
     obtain ⟨cvs,g1,g2,g3⟩:=EW n e _ _ _ ho.1 hg
     have hik:i*P.cellsOf e+P.cellsOf e≤k*P.cellsOf e:=by
      have:=YQ (P.cellsOf e) (show i+1≤k by omega)
      rwa [WP,Nat.one_mul] at this
     have hl2:cvs.length=P.cellsOf e:=by rw[g2];simp;omega
     refine ⟨cvs,g1,hl2,fun j c hj v hv=>?_⟩
     have hjl:j<cvs.length:=(QH.1 hj).1
     exact g3 j c v hj (by rw[Z7,if_pos (by omega),X4];exact hv))
   have hmem:∀ l∈L,∃ i:Nat,L[i]? = some l:=fun l hl=>List.mem_iff_getElem?.1 hl
   have hfl:=CJ (R:=fun k c=>∀ v,cs[k]? = some v→c.rep W noO v) (esz:=P.cellsOf e) L 0 (fun i l hi=>⟨(hQ i l hi).2.1,fun j c hj=>by simpa using (hQ i l hi).2.2 j c hj⟩)
   exact ⟨L.flatten,Typed.arr ht L hL (fun l hl=>let ⟨i,hi⟩:=hmem l hl;(hQ i l hi).2.1) (fun l hl=>let ⟨i,hi⟩:=hmem l hl;(hQ i l hi).1),by rw[hfl.1,hlen,ho.2,hL],fun i c v h1 h2=>hfl.2 i c h1 v (by simpa using h2)⟩
  ·rename_i fs ht
   simp only[QD,decide_eq_true_eq,Q1] at ho
   obtain ⟨xs,m,_,_,hlen,hxs,hget⟩:=DataW.trod_struct ht h
   obtain ⟨L,hL,hQ⟩:=DG (Q:=fun i l=>∀ f,fs[i]? = some f→Typed P f.type l∧l.length=min (P.cellsOf f.type) (cs.length-f.offset)∧∀ (j:Nat) (c:CV),l[j]? = some c→∀ v,cs[f.offset+j]? = some v→c.rep W noO v) fs.size (fun i hi=>by
     have hfi:fs[i]? = some fs[i]:=Q7 hi
     have hg:=hget i fs[i] hfi
     rw[QI (by omega)] at hg
     obtain ⟨cvs,g1,g2,g3⟩:=EW n _ _ _ _ (ho.1 fs[i] (by simp)) hg
     have hl2:cvs.length=min (P.cellsOf fs[i].type) (cs.length-fs[i].offset):=by rw[g2];simp
     refine ⟨cvs,fun f hf=>?_⟩
     rw[hfi] at hf;cases hf
     refine ⟨g1,hl2,fun j c hj v hv=>?_⟩
     have hjl:j<cvs.length:=(QH.1 hj).1
     exact g3 j c v hj (by rw[Z7,if_pos (by omega),X4];exact hv))
   have hoff:∀ (fs:List Field) (n N:Nat),J8 P fs n=some N→n≤N∧∀ (i:Nat) (f:Field),fs[i]? = some f→f.offset+P.cellsOf f.type≤N:=by
    intro fs
    induction fs with
    | nil=>intro n N h;simp only[J8,Option.some.injEq] at h;simp[h]
    | cons f fs ih =>
     intro n N h
     simp only[J8] at h
     split at h
     ·rename_i ho
      obtain ⟨h1,h2⟩:=ih _ _ h
      refine ⟨by omega,fun i f' hi=>?_⟩
      cases i with
      | zero=>simp at hi;subst hi;omega
      | succ i=>exact h2 i f' (by simpa using hi)
     ·cases h
   have hin:=(hoff _ _ _ ho.2).2
   have hl:∀ (i:Nat) (f:Field) (l:List CV),fs[i]? = some f→L[i]? = some l→l.length=P.cellsOf f.type:=by
    intro i f l hf hl
    obtain ⟨_,h2,_⟩:=hQ i l hl f hf
    have:=hin i f (by simpa using hf)
    omega
   have hfl:=A4 (P:=P) (R:=fun k c=>∀ v,cs[k]? = some v→c.rep W noO v) fs.toList L 0 ho.2 (by simpa using hL) (fun i f l hf hl' =>
    ⟨hl i f l (by simpa using hf) hl',fun j c hj=>(hQ i l hl' f (by simpa using hf)).2.2 j c hj⟩)
   exact ⟨L.flatten,Typed.struct ht L hL hl (fun i f l hf hl'=>(hQ i l hl' f hf).1),by have:=hfl.1;omega,fun i c v h1 h2=>hfl.2 i c h1 v (by simpa using h2)⟩
  ·cases ho
theorem DV:∀ (cvs:List CV) (vs:List Value),cvs.length=vs.length→(∀ (i:Nat) (c:CV) (v:Value),cvs[i]? = some c→vs[i]? = some v→c.rep W noO v)→QK nom noX W (cvs.map .cv) vs
 | [],[],_,_=>by simp[QK]
 | c::cvs,v::vs,hl,h=>by
  simp only[Q0,QK,VRel]
  exact ⟨h 0 c v rfl rfl,DV cvs vs (by simpa using hl) fun i c v h1 h2=>h (i+1) c v (by simpa using h1) (by simpa using h2)⟩
 | [],_::_,hl,_=>by simp at hl
 | _::_,[],hl,_=>by simp at hl
theorem QfB {n:Nat} {t:TypeId} {v:Value} {d:DataW H} {ps:List MemPlace} {r:Reach} {base:Nat} (ho:TG P n t=true) (hval:Value.okWide P W r base t v) (h:DataW.Trod enc P W 0 (fun _=>true) true t v d ps) :
  ∃ cs,Typed P t cs∧VRel nom noX W (avOf P t cs) v:=by
 obtain ⟨fuel,h⟩:=h
 obtain ⟨cvs,h1,h2,h3⟩:=EW n t _ _ _ ho h
 refine ⟨cvs,h1,?_⟩
 unfold avOf
 have one:(v.cells.toList=[v])→VRel nom noX W (.cv (cvs.headD .nilp)) v:=by
  intro hv
  rw[hv] at h2 h3
  match cvs,h2 with
  | [c],_=>simp only[List.headD_cons,VRel];exact h3 0 c v rfl rfl
 cases n with
 | zero=>simp[TG] at ho
 | succ n =>
  simp only[TG] at ho
  split at ho
  ·rename_i ht;rw[ht];obtain ⟨b,rfl⟩:=okWide_bool ht hval;exact one rfl
  ·rename_i ht;rw[ht];obtain ⟨b,rfl⟩:=okWide_int ht hval;exact one rfl
  ·rename_i ht;rw[ht];obtain ⟨b,rfl⟩:=okWide_string ht hval;exact one rfl
  ·rename_i ht;rw[ht];obtain ⟨_,_,_,rfl⟩:=okWide_slice ht hval;exact one rfl
  ·rename_i ht;rw[ht]
   simp only[Value.okWide,ht] at hval
   obtain ⟨arr,rfl,_⟩:=hval
   simp only[VRel]
   exact ⟨arr.toList,by simp,DV _ _ h2 h3⟩
  ·rename_i ht;rw[ht]
   simp only[Value.okWide,ht] at hval
   obtain ⟨arr,rfl,_⟩:=hval
   simp only[VRel]
   exact ⟨arr.toList,by simp,DV _ _ h2 h3⟩
  ·cases ho
theorem C1 {n:Nat} {r:Reach} {base:Nat}:∀ {ts:List TypeId} {vs:List Value} {ds:List (DataW H)} {ps:List MemPlace},(ts.all (TG P n))=true →
  (∀ (j:Nat) (t:TypeId) (v:Value),ts[j]? = some t→vs[j]? = some v→Value.okWide P W r base t v)→DataW.TrodAll enc P W 0 (fun _=>true) true ts vs ds ps →
  ds.length=ts.length∧∃ avs,Args P ts avs∧QK nom noX W avs vs
 | [],_,_,_,_,_,h=>by
  obtain ⟨rfl,rfl,rfl⟩:=trodAll_nil h
  exact ⟨rfl,[],.nil,by simp[QK]⟩
 | t::ts,_,_,_,ho,hval,h=>by
  obtain ⟨v,vs1,d,ds1,a,b,rfl,rfl,rfl,h1,h2⟩:=trodAll_cons h
  simp only[List.all_cons,QD] at ho
  obtain ⟨cs,g1,g2⟩:=QfB ho.1 (hval 0 t v rfl rfl) h1
  obtain ⟨hl,avs,g3,g4⟩:=C1 ho.2 (fun j t v h1 h2=>hval (j+1) t v (by simpa using h1) (by simpa using h2)) h2
  exact ⟨by simp[hl],_,.cons g1 g3,by simp only[QK];exact ⟨g2,g4⟩⟩
theorem LU (hl:laidOutB P=true) {W':World} (hb:Below W.heap.size W W'):∀ {ts:List TypeId} {vs:List Value} {ds:List (DataW H)} {ps:List MemPlace},(ts.all fun t=>P.readableRec t&&decide (t<P.types.size))=true →
  DataW.TrodAll enc P W 0 (fun _=>true) true ts vs ds ps→(∀ x∈ps,x.block<W.heap.size)→DataW.TrodAll enc P W' 0 (fun b=>decide (b<W.heap.size)) true ts vs ds ps
 | [],_,_,_,_,h,_=>by
  obtain ⟨rfl,rfl,rfl⟩:=trodAll_nil h
  exact trodAll_mk0
 | t::ts,_,_,_,ho,h,hlt=>by
  obtain ⟨v,vs1,d,ds1,a,b,rfl,rfl,rfl,h1,h2⟩:=trodAll_cons h
  simp only[List.all_cons,QD,decide_eq_true_eq] at ho
  refine trodAll_cons_mk (Below.trod hl ho.1.1 ho.1.2 h1 hb fun x hx=>hlt x (by simp[hx])) (LU hl hb ?_ h2 fun x hx=>hlt x (by simp[hx]))
  simpa using ho.2
theorem law_of_AC {f:FuncId} {fn:Func} {s:ChangeSpec} {n:Nat} {t:TypeId} {base:Nat} {args:Array Value} {ds gs:List (DataW H)} {before:List MemPlace}
  (hl:laidOutB P=true) (hpar:(fn.params.toList.all fun t=>P.readableRec t&&decide (t<P.types.size))=true) (ho:fn.params.toList.all (TG P n)=true)
  (hres:fn.resultTypes = #[t]) (htb:P.underlying t=some .bool) (hsv:s.vars=[]) (hs:∀ ds:List (DataW H),ds.length=fn.params.toList.length→s.fn H ds = { results:=[.lit (.bool true)],args:=ds })
  (hAC:∀ avs,Args P fn.params.toList avs→AC P f avs [] fun r _=>r=.b true)
  (hval:∀ (j:Nat) t v,fn.params[j]? = some t→args[j]? = some v→Value.okWide P W .any base t v) (hgl:GlOk nom noX W)
  (hW:DataW.Whole enc P fn.params.toList s.vars false W args.toList ds gs before) :
  Calls P f args W fun e W'=>∃ v,e=.returned v∧s.post enc P fn false true false false W args v W':=by
 have hW':=hW
 obtain ⟨p,q,hA,hV,rfl,hfz,hnd⟩:=hW
 rw[hsv] at hV
 obtain ⟨rfl,rfl⟩:=trodVars_none hV
 have hlt:∀ x∈p,x.block<W.heap.size:=fun x hx=>hW'.lt x (by simp[hx])
 obtain ⟨hlen,avs,hav,hrel⟩:=C1 ho (fun j t v h1 h2=>hval j t v (by simpa using h1) (by simpa using h2)) hA
 have hcall:=(hAC avs hav).2 nom noX W args.toList hrel ⟨by simp,by simp,by simp,by simp,by simp,hgl⟩
 have hcall:=callsIn_wide.1 hcall
 simp only[Array.toArray_toList] at hcall
 refine hcall.mono fun e W' ⟨c,r,σ',m',he,hq,hr,_,hst,_⟩=>?_
 subst he hq
 simp only[VRel,CV.rep] at hr
 subst hr
 have hb:Below W.heap.size W W':=⟨hst.os,hst.tape,hst.output,hst.size,fun k hk=>hst.fr k hk (.inr (by simp))⟩
 have hsf:s.fn H (ds++[]) = { results:=[.lit (.bool true)],args:=ds }:=by rw[ZU];exact hs ds hlen
 refine ⟨_,rfl,ds,[],p++[],[],p,[],hW',?_,?_,?_,hb.frame _,fun h=>by simp at h⟩
 ·rw[hsf,hres]
  exact trodAll_mk1 (shut_bool htb true)
 ·rw[hsf]
  exact LU hl hb hpar hA hlt
 ·rw[hsf,hsv]
  rfl
end
end Go.Proofs.YtgkidpolomhghaaGreatDoor.AM
namespace Go.Proofs.YtgkidpolomhghaaGreatDoor.AM
variable [Dr]
open Go
theorem QeV {P:Program} {t:TypeId} {k:IntKind} {cs:List CV} (ht:P.underlying t=some (.int k)) (h:Typed P t cs):∃ n,cs=[.int k n]∧(Lit.int k n).wf=true:=by
 cases h with
 | int ht' n hw=>rw[ht] at ht';cases ht';exact ⟨n,rfl,hw⟩
 | bool ht'=>rw[ht] at ht';cases ht'
 | str ht'=>rw[ht] at ht';cases ht'
 | slc ht'=>rw[ht] at ht';cases ht'
 | arr ht'=>rw[ht] at ht';cases ht'
 | struct ht'=>rw[ht] at ht';cases ht'
theorem QeU {P:Program} {t e:TypeId} {cs:List CV} (ht:P.underlying t=some (.slice e)) (h:Typed P t cs):∃ L:List (List CV),cs=[.rsl L.flatten L.length]∧L.length≤maxLen∧(∀ l∈L,l.length=P.cellsOf e)∧∀ l∈L,Typed P e l:=by
 cases h with
 | slc ht' L hn hl h=>rw[ht] at ht';cases ht';exact ⟨L,rfl,hn,hl,h⟩
 | bool ht'=>rw[ht] at ht';cases ht'
 | int ht'=>rw[ht] at ht';cases ht'
 | str ht'=>rw[ht] at ht';cases ht'
 | arr ht'=>rw[ht] at ht';cases ht'
 | struct ht'=>rw[ht] at ht';cases ht'
theorem typed_arr {P:Program} {t e:TypeId} {n:Nat} {cs:List CV} (ht:P.underlying t=some (.array n e)) (h:Typed P t cs):∃ L:List (List CV),cs=L.flatten∧L.length=n∧(∀ l∈L,l.length=P.cellsOf e)∧∀ l∈L,Typed P e l:=by
 cases h with
 | arr ht' L hn hl h=>rw[ht] at ht';cases ht';exact ⟨L,rfl,hn,hl,h⟩
 | bool ht'=>rw[ht] at ht';cases ht'
 | int ht'=>rw[ht] at ht';cases ht'
 | str ht'=>rw[ht] at ht';cases ht'
 | slc ht'=>rw[ht] at ht';cases ht'
 | struct ht'=>rw[ht] at ht';cases ht'
theorem typed_struct {P:Program} {t:TypeId} {fs:Array Field} {cs:List CV} (ht:P.underlying t=some (.struct fs)) (h:Typed P t cs):∃ L:List (List CV),cs=L.flatten∧L.length=fs.size∧∀ (i:Nat) (f:Field) (l:List CV),fs[i]? = some f→L[i]? = some l→Typed P f.type l:=by
 cases h with
 | struct ht' L hn hl h=>rw[ht] at ht';cases ht';exact ⟨L,rfl,hn,h⟩
 | bool ht'=>rw[ht] at ht';cases ht'
 | int ht'=>rw[ht] at ht';cases ht'
 | str ht'=>rw[ht] at ht';cases ht'
 | slc ht'=>rw[ht] at ht';cases ht'
 | arr ht'=>rw[ht] at ht';cases ht'
theorem Qdi {P:Program} {e:TypeId} {k:IntKind} (he:P.underlying e=some (.int k)):∀ L:List (List CV),(∀ l∈L,Typed P e l)→∃ zs:List Int,L.flatten=zs.map (.int k)∧L.length=zs.length∧∀ z∈zs,(Lit.int k z).wf=true
 | [],_=>⟨[],rfl,rfl,by simp⟩
 | l::L,h=>by
  obtain ⟨n,rfl,hn⟩:=QeV he (h l (by simp))
  obtain ⟨zs,h1,h2,h3⟩:=Qdi he L fun l hl=>h l (by simp[hl])
  exact ⟨n::zs,by simp[h1],by simp[h2],by simpa using ⟨hn,h3⟩⟩
theorem typed_ints {P:Program} {t e:TypeId} {k:IntKind} {cs:List CV} (ht:P.underlying t=some (.slice e)) (he:P.underlying e=some (.int k)) (h:Typed P t cs):∃ zs:List Int,cs=[.rsl (zs.map (.int k)) zs.length]∧zs.length<2 ^ 63∧∀ z∈zs,(Lit.int k z).wf=true:=by
 obtain ⟨L,rfl,hn,_,hl⟩:=QeU ht h
 obtain ⟨zs,h1,h2,h3⟩:=Qdi he L hl
 refine ⟨zs,by rw[h1,h2],?_,h3⟩
 rw[← h2];unfold maxLen at hn;omega
theorem args_cons {P:Program} {t:TypeId} {ts:List TypeId} {avs:List AV} (h:Args P (t::ts) avs):∃ cs avs',avs=avOf P t cs::avs'∧Typed P t cs∧Args P ts avs':=by
 generalize hts:t::ts=u at h
 cases h with
 | nil=>cases hts
 | cons h1 h2=>cases hts;exact ⟨_,_,rfl,h1,h2⟩
theorem args_nil {P:Program} {avs:List AV} (h:Args P [] avs):avs=[]:=by
 generalize hts:([]:List TypeId)=u at h
 cases h with
 | nil=>rfl
 | cons h1 h2=>cases hts
abbrev vs10:List Nat:=[0,1,2,4,5,6,7,8,9,10,11,12,13,14,15,16,17,26,38,72,79,89,95,116]
def ic10l0:IC:=(.seq (.seq (.region [jv 14,jq (.iaA 2 1) [.v 4,jn 0],jl 1,je 2,jw 22 (.bin .lss .int) [.t 0,.t 3]])
 (.cond 22 .skip
 (.exit 0)))
 (.seq (.block 1 (.seq (.dr [[],[],[1],[],[2,3],[4],[],[6],[],[7,8],[9],[5,10],[11],[0,12],[13,13,0,1,2,3,4,5,6,7,8,9,10,11,12,13]] [jv 13,jq (.iaA 2 1) [.v 4,jn 0],jl 1,jv 14,ja 1 2 3,jl 4,jq (.iaA 2 1) [.v 4,jn 1],jl 6,jv 14,ja 1 7 8,jl 9,jq (.bin .add .int) [.t 5,.t 10],jq (.bslice 1 1 [(.cv (.int .i64 0))] [(0,1)]) [.t 11],jq (.append 1 8) [.t 0,.t 12],jm 13 13])
 (.seq (.region [jv 13,jv 14,ja 1 0 1,jl 2,jw 23 (.bin .gtr .int) [.t 3,jn 3]])
 (.cond 23 (.seq (.region [jk 22 [],jm 5 0])
 .ret)
 .skip))))
 (.region [jv 14,jq (.bin .add .int) [.t 0,jn 1],jm 14 1])))
def ic10:IC:=(.seq (.region [jb 3 1,jb 4 2,jw 5 .mv [jB false]])
 (.seq (.region [jv 0,jq (.iaA 2 1) [.v 4,jn 0],jl 1,jk 17 [.t 0,.t 2],jt 3,jx 0 4,jx 1 4,jw 6 (.alloc [(.cv .nils),(.cv (.int .i64 0))]) [],jq (.store 2) [.v 6,.t 5],jm 7 6])
 (.seq (.seq (.region [jv 7,jw 17 (.bin .neq .int) [.t 0,jn 0]])
 (.cond 17 (.seq (.region [jk 22 [],jm 5 0])
 .ret)
 .skip))
 (.seq (.dr [[],[],[0,1],[],[3],[2,4,2],[5,5,0,1,2,3,4,5]] [jq (.bslice 2 0 [] []) [],jv 0,jq (.append 2 16) [.t 0,.t 1],jN 2 3,jq (.bslice 2 1 [(.cv (.int .i64 0)),(.cv (.int .i64 0))] [(0,2)]) [.t 3],jq (.append 2 16) [.t 2,.t 4],jm 8 5])
 (.seq (.seq (.region [jv 8,jq (.iaA 2 1) [.v 4,jn 0],jl 1,jk 42 [.t 0,.t 2],jw 18 (.bin .eql .int) [.t 3,jn 0]])
 (.cond 18 (.seq (.region [jv 8,jq (.iaA 2 1) [.v 4,jn 0],jl 1,jk 17 [.t 0,.t 2],jt 3,jx 0 4,jx 1 4,jw 9 (.alloc [(.cv .nils),(.cv (.int .i64 0))]) [],jq (.store 2) [.v 9,.t 5],jm 10 6])
 (.seq (.region [jv 10,jq (.bin .neq .int) [.t 0,jn 0],jt 1,jg 2 false (.fadd 0) [.v 9],ji 2 false 3,jg 2 false (.len false) [.t 4],jg 2 false (.fadd 0) [.v 6],ji 2 false 6,jg 2 false (.len false) [.t 7],jg 2 false (.bin .gtr .int) [.t 5,.t 8],jq .pick [.t 2,jB true,.t 9],jt 10,jg 11 false (.fadd 0) [.v 9],ji 11 false 12,jg 11 false (.len false) [.t 13],jg 11 false (.fadd 0) [.v 6],ji 11 false 15,jg 11 false (.len false) [.t 16],jg 11 false (.bin .eql .int) [.t 14,.t 17],jg 11 false .mv [.t 18],jg 19 true (.fadd 1) [.v 9],ji 19 true 20,jg 19 true (.fadd 1) [.v 6],ji 19 true 22,jg 19 true (.bin .gtr .int) [.t 21,.t 23],jg 11 false .pick [.t 19,.t 24,jB false],jw 19 .pick [.t 11,jB true,.t 25]])
 (.cond 19 (.seq (.region [jw 5 .mv [jB false]])
 .ret)
 .skip)))
 .skip))
 (.seq (.seq (.region [jq (.iaA 2 1) [.v 4,jn 1],jl 0,je 1,jq (.iaA 2 1) [.v 4,jn 0],jl 3,je 4,jw 20 (.bin .neq .int) [.t 2,.t 5]])
 (.cond 20 (.seq (.region [jk 22 [],jm 5 0])
 .ret)
 .skip))
 (.seq (.region [jv 0,jq (.iaA 2 1) [.v 4,jn 1],jl 1,jk 17 [.t 0,.t 2],jt 3,jx 0 4,jx 1 4,jw 11 (.alloc [(.cv .nils),(.cv (.int .i64 0))]) [],jq (.store 2) [.v 11,.t 5],jm 12 6])
 (.seq (.seq (.region [jv 12,jw 21 (.bin .neq .int) [.t 0,jn 0]])
 (.cond 21 (.seq (.region [jk 22 [],jm 5 0])
 .ret)
 .skip))
 (.seq (.region [jw 13 .mv [jS]])
 (.seq (.seq (.region [jz 14 0])
 (.block 0 (.loop ic10l0)))
 (.seq (.region [jv 0,jv 13,jk 17 [.t 0,.t 1],jt 2,jx 0 3,jx 1 3,jw 15 (.alloc [(.cv .nils),(.cv (.int .i64 0))]) [],jq (.store 2) [.v 15,.t 4],jm 16 5])
 (.seq (.region [jv 16,jq (.bin .eql .int) [.t 0,jn 0],jt 1,jg 2 true (.fadd 0) [.v 15],ji 2 true 3,jg 2 true (.len false) [.t 4],jg 2 true (.fadd 0) [.v 6],ji 2 true 6,jg 2 true (.len false) [.t 7],jg 2 true (.bin .geq .int) [.t 5,.t 8],jq .pick [.t 2,.t 9,jB false],jt 10,jg 11 true (.fadd 0) [.v 15],ji 11 true 12,jg 11 true (.len false) [.t 13],jg 11 true (.fadd 0) [.v 11],ji 11 true 15,jg 11 true (.len false) [.t 16],jg 11 true (.bin .geq .int) [.t 14,.t 17],jq .pick [.t 11,.t 18,jB false],jt 19,jg 20 true (.fadd 0) [.v 15],ji 20 true 21,jg 20 true (.len false) [.t 22],jg 20 true (.fadd 0) [.v 6],ji 20 true 24,jg 20 true (.len false) [.t 25],jg 20 true (.fadd 0) [.v 11],ji 20 true 27,jg 20 true (.len false) [.t 28],jg 20 true (.bin .add .int) [.t 26,.t 29],jg 20 true (.bin .leq .int) [.t 23,.t 30],jq .pick [.t 20,.t 31,jB false],jt 32,jf 33 true 22 [],jq .pick [.t 33,.t 34,jB false],jm 5 35])
 .ret))))))))))))
abbrev rs10:List RC:=[(.v 5)]
theorem fok10 (p:Bool):FnOk Tryz.prog 10 ⟨ic10,vs10,160,rs10,p⟩:=.mk2 Tryz.func10 (by kernel_rfl) (by kernel_rfl) (by kernel_rfl) (by kernel_rfl) (by kernel_rfl)
end Go.Proofs.YtgkidpolomhghaaGreatDoor.AM
namespace Go.Proofs.YtgkidpolomhghaaGreatDoor.AM
open Go Pl
theorem typed_list {α:Type} {f:α→List CV} {p:α→Prop} {t:TypeId} (h:∀ cs,Typed Tryz.prog t cs→∃ x,cs=f x∧p x):∀ L:List (List CV),(∀ l∈L,Typed Tryz.prog t l)→∃ xs:List α,L.flatten=xs.flatMap f∧L.length=xs.length∧∀ x∈xs,p x
 | [],_=>⟨[],rfl,rfl,by simp⟩
 | l::L,hl=>by
  obtain ⟨x,h1,h2⟩:=h l (hl l (by simp))
  obtain ⟨xs,g1,g2,g3⟩:=typed_list h L fun l hh=>hl l (by simp[hh])
  exact ⟨x::xs,by simp[h1,g1],by simp[g2],by simpa using ⟨h2,g3⟩⟩
theorem typed_i {cs:List CV} (h:Typed Tryz.prog 3 cs):∃ x:Int,cs=[.int .i64 x]:=by
 obtain ⟨n,rfl,_⟩:=QeV Tryz.underlying3 h
 exact ⟨n,rfl⟩
theorem typed_row {cs:List CV} (h:Typed Tryz.prog 23 cs):∃ zs:List Int,cs=[rowC zs]∧zs.length<2 ^ 63:=by
 obtain ⟨zs,h1,h2,_⟩:=typed_ints Tryz.underlying23 Tryz.underlying3 h
 exact ⟨zs,h1,h2⟩
theorem typed_pat {cs:List CV} (h:Typed Tryz.prog 73 cs):∃ p:Pat,cs=patC p∧True:=by
 obtain ⟨L,rfl,hn,hf⟩:=typed_struct Tryz.underlying73 h
 match L,hn with
 | [a,b],_ =>
  obtain ⟨n1,rfl⟩:=typed_i (hf 0 _ a rfl rfl)
  obtain ⟨n2,rfl⟩:=typed_i (hf 1 _ b rfl rfl)
  exact ⟨(n1,n2),rfl,trivial⟩
theorem typed_pats {cs:List CV} (h:Typed Tryz.prog 22 cs):∃ l:List Pat,avOf Tryz.prog 22 cs=.cv (patR l)∧l.length<2 ^ 63:=by
 obtain ⟨L1,rfl,n1,_,h1⟩:=QeU Tryz.underlying22 h
 obtain ⟨l,a1,a2,_⟩:=typed_list (fun cs h=>typed_pat h) L1 h1
 have hm:maxLen<2 ^ 63:=by decide
 refine ⟨l,?_,by omega⟩
 simp only[avOf,Tryz.underlying22,a1,a2,List.headD_cons]
 rfl
end Go.Proofs.YtgkidpolomhghaaGreatDoor.AM
namespace Go.Proofs.YtgkidpolomhghaaGreatDoor.AM
variable [Dr]
open Go Pl
theorem outF_alR {lo hi:Int} {zs:List Int} (h:∀ j,j<zs.length→inB (gI zs j) lo hi=true):outF lo hi zs=false:=by
 rw[VL]
 intro z hz
 obtain ⟨j,hj,rfl⟩:=WN.1 hz
 have:=VB.1 (h j hj)
 unfold gI at this
 rwa [QI hj] at this
theorem outF_exR {lo hi:Int} {zs:List Int} {j:Nat} (hj:j<zs.length) (h:inB (gI zs j) lo hi=false):outF lo hi zs=true:=by
 cases hh:outF lo hi zs with
 | true=>rfl
 | false =>
  rw[VB.2 (VL.1 hh _ (Qcs hj))] at h
  cases h
theorem outF_sgR {lo hi z:Int}:outF lo hi [z] = !inB z lo hi:=by
 cases h:inB z lo hi with
 | true =>
  refine outF_alR (zs:=[z]) fun j hj=>?_
  have:j=0:=by simpa using hj
  subst this;exact h
 | false=>exact outF_exR (zs:=[z]) (j:=0) (by simp) h
theorem le42 (ps:List Pat) (l:List Int) (hp:ps.length<2 ^ 63) (hl:l.length<2 ^ 63):PC Tryz.prog 42 [.cv (patR ps),ints l] (.i (chkE ps l)):=by
 refine ⟨ZF (fok42 true) (QC rfl) ?_,rfl⟩
 unfold chkE
 rw[outF_sgR,outF_sgR]
 simp only[ic42,evA,simprocAttr]
 refine (le64 _ 1 12).call frz ?_
 cases h1:inB (ps.length:Int) 1 12 with
 | false =>
  simp only[h1,US,evA,simprocAttr]
  exact frz
 | true =>
 simp only[h1,Y3,evA,simprocAttr]
 refine (le64 _ 1 6).call frz ?_
 cases h2:inB (l.length:Int) 1 6 with
 | false =>
  simp only[h2,evA,simprocAttr]
  exact frz
 | true =>
 have hl6:=(VB.1 h2).2
 have hm8:l.length≤8:=by omega
 have hpw:=HF hm8
 have hw2:IntKind.i64.wrap ((2:Int) ^ l.length-1)=(2:Int) ^ l.length-1:=ZC (by omega)
 simp only[h2,evA,simprocAttr]
 refine ZW l.length (fun k s=>(∀ j,j<k→inB (gI l j) 0 3=true)∧∃ v6 v7,s=⟨[.cv (patR ps),ints l,.i 0,.i k,.undef,.b false,v6,v7,.undef,.undef],[]⟩) ?_ 0 (QF _) ⟨by omega,_,_,rfl⟩
 rintro k s hk ⟨hall,v6,v7,rfl⟩
 by_cases h:k<l.length
 ·simp only[ic42l1,QJ,h,J5 h,J4 h,evA,simprocAttr]
  refine (le64 _ 0 3).call frz ?_
  cases hin:inB (gI l k) 0 3 with
  | true =>
   have hin2:inB (l[k]?.getD 0) 0 3=true:=hin
   simp only[hin2,Q6 (show k+1<2 ^ 63 by omega),evA,simprocAttr]
   refine ZL (by first | trivial | omega) ⟨fun j hj=>?_,_,_,rfl⟩
   rcases QQ.1 hj with hj | rfl
   ·exact hall j hj
   ·exact hin
  | false =>
   have hin2:inB (l[k]?.getD 0) 0 3=false:=hin
   rw[outF_exR h hin]
   simp only[hin2,evA,simprocAttr]
   exact frz
 have hke:k=l.length:=by omega
 subst hke
 rw[outF_alR hall]
 simp only[ic42l1,QJ,h,evA,simprocAttr]
 clear h hk hall
 refine ZW ps.length (fun k s=>(∀ j,j<k→patE l.length ps[j]! = 0)∧∃ v8 v9,s=⟨[.cv (patR ps),ints l,.i 0,.i l.length,.i k,.b false,.b false,v7,v8,v9],[]⟩) ?_ 0 (QF _) ⟨by omega,_,_,rfl⟩
 rintro k s hk ⟨hall,v8,v9,rfl⟩
 by_cases h:k<ps.length
 ·have ld0:=pat_0 h
  have ld1:=pat_1 h
  have hE:patE l.length ps[k]! = if inB (ps[k]!).1 0 ((2:Int) ^ l.length-1)=false∨inB (ps[k]!).2 0 100000=false then 7 else 0:=by
   unfold patE
   rw[outF_sgR,outF_sgR]
   cases inB (ps[k]!).1 0 ((2:Int) ^ l.length-1) <;> cases inB (ps[k]!).2 0 100000 <;> simp
  have hfs:=fun h3=>VO (g:=fun i=>patE l.length ps[i]!) ps.length 0 k (QF _) (by omega) (fun j _ hj=>hall j hj) h3
  have hnext:patE l.length ps[k]! = 0→∀ j,j<k+1→patE l.length ps[j]! = 0:=fun h3 j hj=>by
   rcases QQ.1 hj with hj | rfl
   ·exact hall j hj
   ·exact h3
  generalize ps[k]! = q at *
  obtain ⟨sh,me⟩:=q
  simp only at ld0 ld1 hE
  simp only[ic42l0,QJ,h,evA,simprocAttr]
  cases h4:inB sh 0 ((2:Int) ^ l.length-1) with
  | false =>
   rw[if_pos (.inl h4)] at hE
   rw[hfs (by rw[hE];decide),hE]
   refine DW_s [7,9,17] [] hmix (by kernel_rfl) rfl ?_
   simp only[O9 h,ld0,evA,simprocAttr]
   refine YE ((c49 l.length hm8).call frz ⟨rfl,rfl⟩) rfl ?_
   simp only[hw2,evA,simprocAttr]
   refine YE ((le64 sh 0 _).call frz ⟨rfl,rfl⟩) rfl ?_
   simp only[h4,evA,simprocAttr]
   exact frz
  | true =>
  cases h5:inB me 0 100000 with
  | false =>
   rw[if_pos (.inr h5)] at hE
   rw[hfs (by rw[hE];decide),hE]
   refine DW_s [7,9,17] [] hmix (by kernel_rfl) rfl ?_
   simp only[O9 h,ld0,evA,simprocAttr]
   refine YE ((c49 l.length hm8).call frz ⟨rfl,rfl⟩) rfl ?_
   simp only[hw2,evA,simprocAttr]
   refine YE ((le64 sh 0 _).call frz ⟨rfl,rfl⟩) rfl ?_
   simp only[h4,O9 h,ld1,evA,simprocAttr]
   refine YE ((le64 me 0 _).call frz ⟨rfl,rfl⟩) rfl ?_
   simp only[h5,evA,simprocAttr]
   exact frz
  | true =>
   rw[if_neg (by rw[h4,h5];simp)] at hE
   refine DW_s [7,9,17] [] hmix (by kernel_rfl) rfl ?_
   simp only[O9 h,ld0,evA,simprocAttr]
   refine YE ((c49 l.length hm8).call frz ⟨rfl,rfl⟩) rfl ?_
   simp only[hw2,evA,simprocAttr]
   refine YE ((le64 sh 0 _).call frz ⟨rfl,rfl⟩) rfl ?_
   simp only[h4,O9 h,ld1,evA,simprocAttr]
   refine YE ((le64 me 0 _).call frz ⟨rfl,rfl⟩) rfl ?_
   simp only[h5,Q6 (show k+1<2 ^ 63 by omega),evA,simprocAttr]
   exact ZL (by first | trivial | omega) ⟨hnext hE,_,_,rfl⟩
 ·have hke:k=ps.length:=by omega
  subst hke
  rw[J7 ps.length 0 fun j _ hj=>hall j (by omega)]
  simp only[ic42l0,QJ,h,evA,simprocAttr]
  exact frz
theorem natsI_len' (cs:List Nat):(HG cs).length=cs.length:=by simp[HG]
structure PtOk (ps:List Pat):Prop where
 p12:ps.length≤12
 sh:∀ k,k<ps.length→0≤(ps[k]!).1∧(ps[k]!).1<9223372036854775808
end Go.Proofs.YtgkidpolomhghaaGreatDoor.AM
namespace Go.Proofs.YtgkidpolomhghaaGreatDoor.AM
open Go Pl
theorem grL_len (ps:List Pat):∀ (f k:Nat) (l:List Int),(grL ps f k l).length≤f
 | 0,_,_=>QG _
 | f+1,k,l=>by
  unfold grL
  split
  ·exact QF _
  ·split
   ·rw[List.length_cons];have:=grL_len ps f k (afL (ps[k]!).1 l);omega
   ·have:=grL_len ps f (k+1) l;omega
structure BcOk (ps:List Pat) (l:List Int):Prop where
 few:fewL ps l=(HG (UJ ps l),XX ps (UJ ps l),0)
 len:(UJ ps l).length≤200
 rng:∀ x∈UJ ps l,x<ps.length
 srt:(UJ ps l).Pairwise (·≤·)
 eno:OS ps l (UJ ps l)
 least:∀ cs:List Nat,(∀ x∈cs,x<ps.length)→OS ps l cs→(UJ ps l).length<cs.length∨(UJ ps l).length=cs.length∧XX ps (UJ ps l)≤XX ps cs
theorem PsOk.n3 {ps:List Pat} {l:List Int} (h:PsOk ps l):N3 l:=fun i hi=>h.need i hi
theorem PsOk.mt {ps:List Pat} {l:List Int} (h:PsOk ps l):∀ k,k<ps.length→0≤(ps[k]!).2∧(ps[k]!).2≤100000:=fun k hk=>(h.pat k hk).2
theorem bc_ok {ps:List Pat} {l:List Int} (hc:chkE ps l=0) (hl:NY ps l=false):BcOk ps l:=by
 have hok:=Qd3 hc
 have hm:∀ k,k<ps.length→0≤(ps[k]!).2:=fun k hk=>(hok.mt k hk).1
 obtain ⟨a,b,hv⟩:=few_some hm hok.n3.nn hl
 obtain ⟨h1,h2,h3,h4,h5⟩:=OP hm hok.n3.nn hv
 have hs:sumN l<100:=by
  have h:=n3_sum (pad6_len hok.l6) (pad6_n3 hok.n3)
  unfold pad6 at h
  rwa [QbW] at h
 refine ⟨?_,?_,h5,h4,h3,fun cs hcs he=>?_⟩
 ·unfold fewL
  rw[if_neg (fun h=>h hc),if_neg (by rw[hl];decide)]
 ·have:=grL_len ps (ps.length+sumN l+1) 0 l
  have:=hok.p12
  unfold UJ
  omega
 ·obtain ⟨a',b',e,h⟩:=EP hm (ps.length+sumN l+1) 0 l cs hok.n3.nn (by omega) (fun x hx=>⟨QF _,hcs x hx⟩) he
  rw[hv] at e
  cases e
  rw[h2]
  omega
theorem fewL_bad {ps:List Pat} {l:List Int} (hc:chkE ps l≠0):fewL ps l=([],0,chkE ps l):=by unfold fewL;rw[if_pos hc]
theorem fewL_lack {ps:List Pat} {l:List Int} (hc:chkE ps l=0) (hl:NY ps l=true):fewL ps l=([],0,9):=by unfold fewL;rw[if_neg (fun h=>h hc),if_pos hl]
theorem chkE_of {ps:List Pat} {l k:List Int} (h:PsOk ps l) (hk:k.length=l.length) (hn:∀ i,i<k.length→0≤gI k i∧gI k i≤3):chkE ps k=0:=by
 have a1:outF 1 12 [(ps.length:Int)]=false:=VL.2 fun z hz=>by
  have:=h.p1;have:=h.p12
  rw[WZ.1 hz];omega
 have a2:outF 1 6 [(k.length:Int)]=false:=VL.2 fun z hz=>by
  have:=h.l1;have:=h.l6
  rw[WZ.1 hz];omega
 have a3:outF 0 3 k=false:=VL.2 fun z hz=>by
  obtain ⟨i,hi,rfl⟩:=WN.1 hz
  have:=hn i hi
  unfold gI at this
  rwa [QI hi] at this
 unfold chkE
 rw[a1,a2,a3,if_neg (by decide),if_neg (by decide),hk,J7]
 intro i _ hi
 have hp:=h.pat i (by omega)
 unfold patE
 rw[VL.2 fun z hz=>by rw[WZ.1 hz];omega,VL.2 fun z hz=>by rw[WZ.1 hz];exact hp.2,if_neg (by decide)]
theorem lack_of {ps:List Pat} {l:List Int} {cs:List Nat} (hc:∀ x∈cs,x<ps.length) (he:OS ps l cs):NY ps l=false:=by
 unfold NY
 rw[W6]
 intro i hi
 have hi:=ZI.1 hi
 simp only[QD,decide_eq_true_eq,Z0,W6,not_and]
 intro h0 hall
 have h1:=he i hi
 have h2:0<YJ ps cs i:=by omega
 obtain ⟨k,hk,hb⟩:=List.countP_pos_iff.1 h2
 exact hall k (ZI.2 (hc k hk)) hb
theorem pat_app {ps:List Pat} {p:Pat} {k:Nat} (h:k<ps.length):(ps++[p])[k]! = ps[k]! := by
 rw[getElem!_pos (ps++[p]) k (by simp;omega),getElem!_pos ps k h,List.getElem_append_left h]
theorem shown_app {ps:List Pat} {p:Pat} {cs:List Nat} (h:∀ x∈cs,x<ps.length) (i:Nat):YJ (ps++[p]) cs i=YJ ps cs i:=by
 unfold YJ
 apply List.countP_congr
 intro x hx
 rw[pat_app (h x hx)]
theorem metres_app {ps:List Pat} {p:Pat} {cs:List Nat} (h:∀ x∈cs,x<ps.length):XX (ps++[p]) cs=XX ps cs:=by
 unfold XX
 congr 1
 apply JI
 intro x hx
 rw[pat_app (h x hx)]
theorem more_le {ps:List Pat} {p:Pat} {l:List Int} (h1:BcOk ps l) (hc:chkE (ps++[p]) l=0):NY (ps++[p]) l=false∧((UJ (ps++[p]) l).length<(UJ ps l).length∨(UJ (ps++[p]) l).length=(UJ ps l).length∧XX (ps++[p]) (UJ (ps++[p]) l)≤XX ps (UJ ps l)):=by
 have hr:∀ x∈UJ ps l,x<(ps++[p]).length:=fun x hx=>by have:=h1.rng x hx;simp;omega
 have he:OS (ps++[p]) l (UJ ps l):=fun i hi=>by rw[shown_app h1.rng];exact h1.eno i hi
 have hl:=lack_of hr he
 have h2:=(bc_ok hc hl).least _ hr he
 rw[metres_app h1.rng] at h2
 exact ⟨hl,h2⟩
def addL (x y:List Int) (i:Nat):List Int:=(List.range i).map fun j=>gI x j+gI y j
theorem addL_len (x y:List Int) (i:Nat):(addL x y i).length=i:=by simp[addL]
theorem addL_succ (x y:List Int) (i:Nat):addL x y (i+1)=addL x y i++[gI x i+gI y i]:=by simp[addL,WM]
theorem addL_get {x y:List Int} {i j:Nat} (h:j<i):gI (addL x y i) j=gI x j+gI y j:=by simp[addL,gI,h]
theorem both_le {ps:List Pat} {x y:List Int} (hx:BcOk ps x) (hy:BcOk ps y) (nx:∀ i,i<x.length→0≤gI x i) (ny:∀ i,i<y.length→0≤gI y i) (hl:y.length=x.length) (hc:chkE ps (addL x y x.length)=0) :
  ∃ h:BcOk ps (addL x y x.length),(UJ ps x).length≤(UJ ps (addL x y x.length)).length∧(UJ ps y).length≤(UJ ps (addL x y x.length)).length∧(UJ ps (addL x y x.length)).length≤(UJ ps x).length+(UJ ps y).length:=by
 have hr:∀ z∈UJ ps x++UJ ps y,z<ps.length:=fun z hz=>by
  rcases YV.1 hz with h | h
  ·exact hx.rng z h
  ·exact hy.rng z h
 have he:OS ps (addL x y x.length) (UJ ps x++UJ ps y):=fun i hi=>by
  rw[addL_len] at hi
  rw[addL_get hi]
  have h1:=hx.eno i hi
  have h2:=hy.eno i (by omega)
  unfold YJ at *
  rw[List.countP_append]
  omega
 have hb:=bc_ok hc (lack_of hr he)
 refine ⟨hb,?_,?_,?_⟩
 ·have:=hx.least (UJ ps (addL x y x.length)) hb.rng fun i hi=>by
   have h1:=hb.eno i (by rw[addL_len];exact hi)
   rw[addL_get hi] at h1
   have:=ny i (by omega)
   omega
  omega
 ·have:=hy.least (UJ ps (addL x y x.length)) hb.rng fun i hi=>by
   have h1:=hb.eno i (by rw[addL_len];omega)
   rw[addL_get (by omega)] at h1
   have:=nx i (by omega)
   omega
  omega
 ·have:=hb.least _ hr he
  rw[QM] at this
  omega
theorem app_srcK {e by_ l n m:Nat} {σ:List AObj} {xs cs:List CV} {w:AV} (hr:rowOf σ l=some (xs.map .cv)) (hs:Z9 σ e w=some (cs.map .cv)) (hw:lenF w=some m) (hx:xs.length=n*e) (hc:cs.length=m*e) (hb:(n+m)*by_≤2 ^ 44) (hn:n+m≤2 ^ 44) :
  ZX e by_ [.sl l 0 n e,w] σ=some (.sl σ.length 0 (n+m) e,σ.set l .dead++[.cells ((xs++cs).map .cv)]):=by
 have hsc:(cs.map AV.cv).all AV.isSc=true:=by
  rw[Q1]
  intro x hx
  obtain ⟨z,_,rfl⟩:=ZP.1 hx
  rfl
 simp only[ZX,hr,hs,hw,Option.bind_some]
 have h1:True∧n*e≤(xs.map AV.cv).length∧m*e=(cs.map AV.cv).length∧(n+m)*by_≤2 ^ 44∧n+m≤2 ^ 44∧(cs.map AV.cv).all AV.isSc=true:=⟨trivial,by simp[hx],by simp[hc],hb,hn,hsc⟩
 rw[if_pos h1,Q5 (by simp[hx]),ZS]
theorem app_rslK {e by_ l n m:Nat} {σ:List AObj} {xs cs:List CV} (hr:rowOf σ l=some (xs.map .cv)) (hx:xs.length=n*e) (hc:cs.length=m*e) (hb:(n+m)*by_≤2 ^ 44) (hn:n+m≤2 ^ 44) :
  ZX e by_ [.sl l 0 n e,.cv (.rsl cs m)] σ=some (.sl σ.length 0 (n+m) e,σ.set l .dead++[.cells ((xs++cs).map .cv)]):=by
 have hsc:(cs.map AV.cv).all AV.isSc=true:=by
  rw[Q1]
  intro x hx
  obtain ⟨z,_,rfl⟩:=ZP.1 hx
  rfl
 simp only[ZX,hr,Z9,hc,if_true,lenF,Option.bind_some]
 have h1:True∧n*e≤(xs.map AV.cv).length∧m*e=(cs.map AV.cv).length∧(n+m)*by_≤2 ^ 44∧n+m≤2 ^ 44∧(cs.map AV.cv).all AV.isSc=true:=⟨trivial,by simp[hx],by simp[hc],hb,hn,hsc⟩
 rw[if_pos h1,Q5 (by simp[hx]),ZS]
theorem loop10 {Q:Exit→St→Prop} (ps:List Pat) (p:Pat) (x y:List Int) (H:List AObj) (v8 v9 v10 v11 v18 v19 v20:AV) (hl:y.length=x.length) (h6:x.length≤6) (nx:∀ i,i<x.length→0≤gI x i∧gI x i≤3) (ny:∀ i,i<y.length→0≤gI y i∧gI y i≤3) (hr:rowOf H 1=some [ints x,ints y])
  (hret:∀ v13 (i:Nat) v22 v23 H',Q .ret ⟨[.cv (patR ps),patA p,.agg [ints x,ints y],.ptr 0 0,.ptr 1 0,.b true,.ptr 2 0,.i 0,v8,v9,v10,v11,.i 0,v13,.i i,.undef,.undef,.b false,v18,v19,v20,.b false,v22,v23],H'⟩)
  (hend:∀ v13 (i:Nat) v22 v23 J,i=x.length→(∀ j,j<x.length→gI x j+gI y j≤3)→VH H.length 1 (H++J) v13 x.length ((addL x y x.length).map (.int .i64))→Q (.exit 0) ⟨[.cv (patR ps),patA p,.agg [ints x,ints y],.ptr 0 0,.ptr 1 0,.b false,.ptr 2 0,.i 0,v8,v9,v10,v11,.i 0,v13,.i i,.undef,.undef,.b false,v18,v19,v20,.b false,v22,v23],H++J⟩) (v22 v23:AV) :
  IL Tryz.prog ⟨vs10,160,none,0⟩ ic10l0 ⟨[.cv (patR ps),patA p,.agg [ints x,ints y],.ptr 0 0,.ptr 1 0,.b false,.ptr 2 0,.i 0,v8,v9,v10,v11,.i 0,.cv .nils,.i 0,.undef,.undef,.b false,v18,v19,v20,.b false,v22,v23],H⟩ Q:=by
 have hA0:∀ σ,PD 2 1 [.ptr 1 0,.i 0] σ=some (.ptr 1 0,σ):=fun _=>rfl
 have hA1:∀ σ,PD 2 1 [.ptr 1 0,.i 1] σ=some (.ptr 1 1,σ):=fun _=>rfl
 refine ZW x.length (fun i s=>(∀ j,j<i→gI x j+gI y j≤3)∧∃ v13 v22 v23 J,VH H.length 1 (H++J) v13 i ((addL x y i).map (.int .i64))∧s=⟨[.cv (patR ps),patA p,.agg [ints x,ints y],.ptr 0 0,.ptr 1 0,.b false,.ptr 2 0,.i 0,v8,v9,v10,v11,.i 0,v13,.i i,.undef,.undef,.b false,v18,v19,v20,.b false,v22,v23],H++J⟩) ?_ 0 (QF _) ⟨by omega,.cv .nils,v22,v23,[],.inl ⟨rfl,rfl,rfl⟩,by rw[ZU];rfl⟩
 rintro i s hi ⟨hall,v13,v22,v23,J,hacc,rfl⟩
 have hrJ:=ZH hr J
 by_cases h:i<x.length
 ·have hiy:i<y.length:=by omega
  have h1:=nx i h
  have h2:=ny i hiy
  have hw:IntKind.i64.wrap (x[i]?.getD 0+y[i]?.getD 0)=gI x i+gI y i:=ZC (by unfold gI at *;omega)
  obtain ⟨v',σ',ha,hacc',hlow,hlen⟩:=K3 (by_:=8) (x:=[.int .i64 (gI x i+gI y i)]) (by simp) hacc rfl (by omega) (by omega)
  rw[show (addL x y i).map (.int .i64)++[CV.int .i64 (gI x i+gI y i)]=(addL x y (i+1)).map (.int .i64) by rw[addL_succ];simp] at hacc'
  obtain ⟨J',rfl⟩:=AG (σ:=H) (by simp at hlen;omega) fun i hi=>(hlow i hi).trans (QE hi)
  have hal:=addL_len x y (i+1)
  obtain ⟨l,hlH,hv,hrow⟩:∃ l,H.length≤l∧v'=.sl l 0 (i+1) 1∧rowOf (H++J') l=some (((addL x y (i+1)).map (.int .i64)).map .cv):=by
   rcases hacc' with ⟨_,h0,_⟩ | ⟨l,h1,h2,_,h4⟩
   ·omega
   ·exact ⟨l,h1,h2,h4⟩
  rw[XW] at hrow
  have hrow2:rowOf (H++J') l=some ((addL x y (i+1)).map AV.i):=hrow
  have hia:∀ σ,VP 1 [v',.i i] σ=some (.ptr l (0+i),σ):=fun σ=>by rw[hv];exact W9 (by omega) σ
  have hld:=V1 (zs:=addL x y (i+1)) (k:=i) (by omega)
  rw[show (addL x y (i+1))[i]?.getD 0=gI x i+gI y i from addL_get (by omega)] at hld
  have ha2:ZX 1 8 [v13,.sl (H++J).length 0 1 1] ((H++J)++[AObj.cells [.i (gI x i+gI y i)]])=some (v',H++J'):=ha
  simp only[ic10l0,hA0,hrJ,QJ,h,evA,simprocAttr]
  refine DW_s [] [] hmix (by kernel_rfl) rfl ?_
  by_cases hg:gI x i+gI y i>3
  ·have hd:decide (gI x i+gI y i>3)=true:=decide_eq_true hg
   simp only[hA0,hA1,hrJ,J5 h,J5 hiy,J4 h,J4 hiy,WA,hw,ha2,hia,ZV,hrow2,hld,hd,evA,simprocAttr]
   refine awake.call .nil ?_
   simp only[evA,simprocAttr]
   exact hret _ _ _ _ _
  ·have hd:decide (gI x i+gI y i>3)=false:=decide_eq_false hg
   simp only[hA0,hA1,hrJ,J5 h,J5 hiy,J4 h,J4 hiy,WA,hw,ha2,hia,ZV,hrow2,hld,hd,Q6 (show i+1<2 ^ 63 by omega),evA,simprocAttr]
   refine ZL (by first | trivial | omega) ⟨fun j hj=>?_,_,_,_,J',hacc',rfl⟩
   rcases QQ.1 hj with hj | rfl
   ·exact hall j hj
   ·omega
 ·have hie:i=x.length:=by omega
  simp only[ic10l0,hA0,hrJ,QJ,h,evA,simprocAttr]
  subst hie
  exact hend _ _ _ _ J rfl hall hacc
theorem law10 (ps:List Pat) (p:Pat) (x y:List Int) (hp:ps.length<2 ^ 63) (hx:x.length<2 ^ 63) (hy:y.length<2 ^ 63):PC Tryz.prog 10 [.cv (patR ps),patA p,.agg [ints x,ints y]] (.b true):=by
 have h17:=le17 ps x hp hx
 unfold fewA at h17
 have hA0:∀ σ,PD 2 1 [.ptr 1 0,.i 0] σ=some (.ptr 1 0,σ):=fun _=>rfl
 have hA1:∀ σ,PD 2 1 [.ptr 1 0,.i 1] σ=some (.ptr 1 1,σ):=fun _=>rfl
 refine ⟨ZF (fok10 true) (QC rfl) ?_,rfl⟩
 simp only[ic10,WI,cellsOf,hA0,evA,simprocAttr]
 have hbad:∀ e,(fewL ps x).2.2=e→e≠0→(e != 0)=true:=fun e _ h=>by simpa using h
 by_cases hc:chkE ps x=0
 rotate_left
 ·rw[fewL_bad hc] at h17
  have hb:(chkE ps x != 0)=true:=by simpa using hc
  refine h17.call frz ?_
  simp only[hb,evA,simprocAttr]
  refine awake.call .nil ?_
  simp only[evA,simprocAttr]
  (repeat' (first | exact HL.nil | exact KS.nil | exact FrzC.nl | exact FrzC.c _ trivial | apply HL.cons | apply KS.cons | apply FrzV.agg | apply FrzV.tup | apply FrzV.c | refine FrzC.sl _ _ _ _ _ _ rfl (QC rfl) ?_))
 cases hlk:NY ps x with
 | true =>
  rw[fewL_lack hc hlk] at h17
  refine h17.call frz ?_
  simp only[evA,simprocAttr]
  refine awake.call .nil ?_
  simp only[evA,simprocAttr]
  (repeat' (first | exact HL.nil | exact KS.nil | exact FrzC.nl | exact FrzC.c _ trivial | apply HL.cons | apply KS.cons | apply FrzV.agg | apply FrzV.tup | apply FrzV.c | refine FrzC.sl _ _ _ _ _ _ rfl (QC rfl) ?_))
 | false =>
 have hbc:=bc_ok hc hlk
 have hok:=Qd3 hc
 have h12:=hok.p12
 rw[hbc.few] at h17
 have na:=natsI_len' (UJ ps x)
 refine h17.call frz ?_
 simp only[evA,simprocAttr]
 refine DW_s [] [(0,4),(2,4),(3,0),(3,2),(4,0),(4,2)] hmix (by kernel_rfl) rfl ?_
 have a1:=app_rslK (e:=2) (by_:=16) (l:=3) (n:=0) (m:=ps.length) (σ:=[.cells [.i p.1,.i p.2],.cells [ints x,ints y],.cells [ints (HG (UJ ps x)),.i (XX ps (UJ ps x))],.cells []]) (xs:=[]) (cs:=NU ps) rfl rfl (Qef ps) (by omega) (by omega)
 have hM:NU ps++[.int .i64 p.1,.int .i64 p.2]=NU (ps++[p]):=by simp[NU]
 have hn:ps.length+1=(ps++[p]).length:=by simp
 have a2:=app_srcK (e:=2) (by_:=16) (l:=4) (n:=ps.length) (m:=1) (σ:=[.cells [.i p.1,.i p.2],.cells [ints x,ints y],.cells [ints (HG (UJ ps x)),.i (XX ps (UJ ps x))],.dead,.cells ((NU ps).map AV.cv),.cells [.i p.1,.i p.2]]) (xs:=NU ps) (cs:=[.int .i64 p.1,.int .i64 p.2]) (w:=.sl 5 0 1 2) rfl rfl rfl (Qef ps) rfl (by omega) (by omega)
 rw[hM,hn] at a2
 have hfz:∀ σ,rowOf σ 6=some ((NU (ps++[p])).map AV.cv)→FrzV anyC σ (.sl 6 0 (ps++[p]).length 2) (.cv (patR (ps++[p]))):=fun σ hr=>GI (.inr ⟨6,rfl,Qef _,hr⟩) fun _ _=>trivial
 have h42:=le42 (ps++[p]) x (by rw[← hn];omega) hx
 have h17m:=le17 (ps++[p]) x (by rw[← hn];omega) hx
 unfold fewA at h17m
 have hmore:=more_le (p:=p) hbc
 have h17y:=le17 ps y hp hy
 unfold fewA at h17y
 by_cases hcm:chkE (ps++[p]) x=0
 ·obtain ⟨hlm,hmo⟩:=hmore hcm
  have hbm:=bc_ok hcm hlm
  rw[hcm] at h42
  rw[hbm.few] at h17m
  have nm:=natsI_len' (UJ (ps++[p]) x)
  simp only[a1,a2,hA0,evA,simprocAttr]
  refine h42.call (.cons (hfz _ rfl) (.cons (.c (.c _ trivial)) .nil)) ?_
  simp only[hA0,evA,simprocAttr]
  refine h17m.call (.cons (hfz _ rfl) (.cons (.c (.c _ trivial)) .nil)) ?_
  have d1:decide (((HG (UJ (ps++[p]) x)).length:Int)>((HG (UJ ps x)).length:Int))=false:=decide_eq_false (by omega)
  rcases hmo with hlt | ⟨heq,hle⟩
  ·have d2:(((HG (UJ (ps++[p]) x)).length:Int) == ((HG (UJ ps x)).length:Int))=false:=by simp;omega
   simp only[d1,d2,evA,simprocAttr]
   have hxl:=hok.l6
   by_cases hl:y.length=x.length
   rotate_left
   ·have hb:((y.length:Int) != x.length)=true:=by simp;omega
    simp only[hA0,hA1,hb,evA,simprocAttr]
    refine awake.call .nil ?_
    simp only[evA,simprocAttr]
    (repeat' (first | exact HL.nil | exact KS.nil | exact FrzC.nl | exact FrzC.c _ trivial | apply HL.cons | apply KS.cons | apply FrzV.agg | apply FrzV.tup | apply FrzV.c | refine FrzC.sl _ _ _ _ _ _ rfl (QC rfl) ?_))
   have hb:((y.length:Int) != x.length)=false:=by rw[hl];simp
   simp only[hA0,hA1,hb,evA,simprocAttr]
   by_cases hcy:chkE ps y=0
   rotate_left
   ·rw[fewL_bad hcy] at h17y
    have hb:(chkE ps y != 0)=true:=by simpa using hcy
    refine h17y.call frz ?_
    simp only[hb,evA,simprocAttr]
    refine awake.call .nil ?_
    simp only[evA,simprocAttr]
    (repeat' (first | exact HL.nil | exact KS.nil | exact FrzC.nl | exact FrzC.c _ trivial | apply HL.cons | apply KS.cons | apply FrzV.agg | apply FrzV.tup | apply FrzV.c | refine FrzC.sl _ _ _ _ _ _ rfl (QC rfl) ?_))
   cases hly:NY ps y with
   | true =>
    rw[fewL_lack hcy hly] at h17y
    refine h17y.call frz ?_
    simp only[evA,simprocAttr]
    refine awake.call .nil ?_
    simp only[evA,simprocAttr]
    (repeat' (first | exact HL.nil | exact KS.nil | exact FrzC.nl | exact FrzC.c _ trivial | apply HL.cons | apply KS.cons | apply FrzV.agg | apply FrzV.tup | apply FrzV.c | refine FrzC.sl _ _ _ _ _ _ rfl (QC rfl) ?_))
   | false =>
   have hby:=bc_ok hcy hly
   have hoky:=Qd3 hcy
   rw[hby.few] at h17y
   refine h17y.call frz ?_
   simp only[evA,simprocAttr]
   refine loop10 ps p x y [.cells [.i p.1,.i p.2],.cells [ints x,ints y],.cells [ints (HG (UJ ps x)),.i (XX ps (UJ ps x))],.dead,.dead,.cells [.i p.1,.i p.2],.cells ((NU (ps++[p])).map AV.cv),.cells [ints (HG (UJ (ps++[p]) x)),.i (XX (ps++[p]) (UJ (ps++[p]) x))],.cells [ints (HG (UJ ps y)),.i (XX ps (UJ ps y))]] _ _ _ _ _ _ _ hl hxl hok.need hoky.need rfl ?_ ?_ _ _
   ·intro v13 i v22 v23 H'
    simp only[evA,simprocAttr]
    (repeat' (first | exact HL.nil | exact KS.nil | exact FrzC.nl | exact FrzC.c _ trivial | apply HL.cons | apply KS.cons | apply FrzV.agg | apply FrzV.tup | apply FrzV.c | refine FrzC.sl _ _ _ _ _ _ rfl (QC rfl) ?_))
   ·intro v13 i v22 v23 J hi hall hacc
    subst hi
    have r1:rowOf ([AObj.cells [.i p.1,.i p.2],.cells [ints x,ints y],.cells [ints (HG (UJ ps x)),.i (XX ps (UJ ps x))],.dead,.dead,.cells [.i p.1,.i p.2],.cells ((NU (ps++[p])).map AV.cv),.cells [ints (HG (UJ (ps++[p]) x)),.i (XX (ps++[p]) (UJ (ps++[p]) x))],.cells [ints (HG (UJ ps y)),.i (XX ps (UJ ps y))]]++J) 2=some [ints (HG (UJ ps x)),.i (XX ps (UJ ps x))]:=rfl
    have r2:rowOf ([AObj.cells [.i p.1,.i p.2],.cells [ints x,ints y],.cells [ints (HG (UJ ps x)),.i (XX ps (UJ ps x))],.dead,.dead,.cells [.i p.1,.i p.2],.cells ((NU (ps++[p])).map AV.cv),.cells [ints (HG (UJ (ps++[p]) x)),.i (XX (ps++[p]) (UJ (ps++[p]) x))],.cells [ints (HG (UJ ps y)),.i (XX ps (UJ ps y))]]++J) 8=some [ints (HG (UJ ps y)),.i (XX ps (UJ ps y))]:=rfl
    have hcb:=chkE_of hok (addL_len x y x.length) fun i hi=>by
     rw[addL_len] at hi
     have h1:=hok.need i hi
     have h2:=hoky.need i (by omega)
     have h3:=hall i hi
     rw[addL_get hi]
     omega
    obtain ⟨hbb,g1,g2,g3⟩:=both_le hbc hby (fun i hi=>(hok.need i hi).1) (fun i hi=>(hoky.need i hi).1) hl hcb
    have hfb:FrzV anyC ([AObj.cells [.i p.1,.i p.2],.cells [ints x,ints y],.cells [ints (HG (UJ ps x)),.i (XX ps (UJ ps x))],.dead,.dead,.cells [.i p.1,.i p.2],.cells ((NU (ps++[p])).map AV.cv),.cells [ints (HG (UJ (ps++[p]) x)),.i (XX (ps++[p]) (UJ (ps++[p]) x))],.cells [ints (HG (UJ ps y)),.i (XX ps (UJ ps y))]]++J) v13 (ints (addL x y x.length)):=by
     have e:ints (addL x y x.length)=.cv (.rsl ((addL x y x.length).map (.int .i64)) x.length):=by
      show AV.cv (.rsl _ (addL x y x.length).length)=_
      rw[addL_len]
     rw[e]
     exact GI hacc.acc fun _ _=>trivial
    have h17b:=le17 ps (addL x y x.length) hp (by rw[addL_len];exact hx)
    unfold fewA at h17b
    rw[hbb.few] at h17b
    have n1:=natsI_len' (UJ ps x)
    have n2:=natsI_len' (UJ ps y)
    have n3:=natsI_len' (UJ ps (addL x y x.length))
    have l1:=hbc.len
    have l2:=hby.len
    have d1:decide (((HG (UJ ps (addL x y x.length))).length:Int)≥((HG (UJ ps x)).length:Int))=true:=decide_eq_true (by omega)
    have d2:decide (((HG (UJ ps (addL x y x.length))).length:Int)≥((HG (UJ ps y)).length:Int))=true:=decide_eq_true (by omega)
    have hw:IntKind.i64.wrap (((HG (UJ ps x)).length:Int)+((HG (UJ ps y)).length:Int))=((HG (UJ ps x)).length:Int)+((HG (UJ ps y)).length:Int):=ZC (by omega)
    have d3:decide (((HG (UJ ps (addL x y x.length))).length:Int)≤((HG (UJ ps x)).length:Int)+((HG (UJ ps y)).length:Int))=true:=decide_eq_true (by omega)
    generalize [AObj.cells [.i p.1,.i p.2],.cells [ints x,ints y],.cells [ints (HG (UJ ps x)),.i (XX ps (UJ ps x))],.dead,.dead,.cells [.i p.1,.i p.2],.cells ((NU (ps++[p])).map AV.cv),.cells [ints (HG (UJ (ps++[p]) x)),.i (XX (ps++[p]) (UJ (ps++[p]) x))],.cells [ints (HG (UJ ps y)),.i (XX ps (UJ ps y))]]++J=H2 at *
    simp only[evA,simprocAttr]
    refine h17b.call (.cons (.c (.c _ trivial)) (.cons hfb .nil)) ?_
    have hst:∀ a b:AV,a.isSc=true→b.isSc=true→UM 2 [.ptr H2.length 0,.agg [a,b]] (H2++[AObj.cells [.cv .nils,.i 0]])=some (.undef,H2++[AObj.cells [a,b]]):=fun a b ha hb=>by
     simp[UM,cellsOf,XH,ha,hb,setRange]
    have q1:=fun cs=>ZH r1 [AObj.cells cs]
    have q2:=fun cs=>ZH r2 [AObj.cells cs]
    have q3:=fun cs:List AV=>XH (σ:=H2) (cs:=cs)
    have hst2:=hst (ints (HG (UJ ps (addL x y x.length)))) (.i (XX ps (UJ ps (addL x y x.length)))) rfl rfl
    simp only[hst2,q1,q2,q3,d1,d2,hw,d3,evA,simprocAttr]
    refine awake.call .nil ?_
    simp only[evA,simprocAttr]
    (repeat' (first | exact HL.nil | exact KS.nil | exact FrzC.nl | exact FrzC.c _ trivial | apply HL.cons | apply KS.cons | apply FrzV.agg | apply FrzV.tup | apply FrzV.c | refine FrzC.sl _ _ _ _ _ _ rfl (QC rfl) ?_))
  ·have d2:(((HG (UJ (ps++[p]) x)).length:Int) == ((HG (UJ ps x)).length:Int))=true:=by rw[na,nm,heq];simp
   have d3:decide (XX (ps++[p]) (UJ (ps++[p]) x)>XX ps (UJ ps x))=false:=decide_eq_false (by omega)
   simp only[d1,d2,d3,evA,simprocAttr]
   have hxl:=hok.l6
   by_cases hl:y.length=x.length
   rotate_left
   ·have hb:((y.length:Int) != x.length)=true:=by simp;omega
    simp only[hA0,hA1,hb,evA,simprocAttr]
    refine awake.call .nil ?_
    simp only[evA,simprocAttr]
    (repeat' (first | exact HL.nil | exact KS.nil | exact FrzC.nl | exact FrzC.c _ trivial | apply HL.cons | apply KS.cons | apply FrzV.agg | apply FrzV.tup | apply FrzV.c | refine FrzC.sl _ _ _ _ _ _ rfl (QC rfl) ?_))
   have hb:((y.length:Int) != x.length)=false:=by rw[hl];simp
   simp only[hA0,hA1,hb,evA,simprocAttr]
   by_cases hcy:chkE ps y=0
   rotate_left
   ·rw[fewL_bad hcy] at h17y
    have hb:(chkE ps y != 0)=true:=by simpa using hcy
    refine h17y.call frz ?_
    simp only[hb,evA,simprocAttr]
    refine awake.call .nil ?_
    simp only[evA,simprocAttr]
    (repeat' (first | exact HL.nil | exact KS.nil | exact FrzC.nl | exact FrzC.c _ trivial | apply HL.cons | apply KS.cons | apply FrzV.agg | apply FrzV.tup | apply FrzV.c | refine FrzC.sl _ _ _ _ _ _ rfl (QC rfl) ?_))
   cases hly:NY ps y with
   | true =>
    rw[fewL_lack hcy hly] at h17y
    refine h17y.call frz ?_
    simp only[evA,simprocAttr]
    refine awake.call .nil ?_
    simp only[evA,simprocAttr]
    (repeat' (first | exact HL.nil | exact KS.nil | exact FrzC.nl | exact FrzC.c _ trivial | apply HL.cons | apply KS.cons | apply FrzV.agg | apply FrzV.tup | apply FrzV.c | refine FrzC.sl _ _ _ _ _ _ rfl (QC rfl) ?_))
   | false =>
   have hby:=bc_ok hcy hly
   have hoky:=Qd3 hcy
   rw[hby.few] at h17y
   refine h17y.call frz ?_
   simp only[evA,simprocAttr]
   refine loop10 ps p x y [.cells [.i p.1,.i p.2],.cells [ints x,ints y],.cells [ints (HG (UJ ps x)),.i (XX ps (UJ ps x))],.dead,.dead,.cells [.i p.1,.i p.2],.cells ((NU (ps++[p])).map AV.cv),.cells [ints (HG (UJ (ps++[p]) x)),.i (XX (ps++[p]) (UJ (ps++[p]) x))],.cells [ints (HG (UJ ps y)),.i (XX ps (UJ ps y))]] _ _ _ _ _ _ _ hl hxl hok.need hoky.need rfl ?_ ?_ _ _
   ·intro v13 i v22 v23 H'
    simp only[evA,simprocAttr]
    (repeat' (first | exact HL.nil | exact KS.nil | exact FrzC.nl | exact FrzC.c _ trivial | apply HL.cons | apply KS.cons | apply FrzV.agg | apply FrzV.tup | apply FrzV.c | refine FrzC.sl _ _ _ _ _ _ rfl (QC rfl) ?_))
   ·intro v13 i v22 v23 J hi hall hacc
    subst hi
    have r1:rowOf ([AObj.cells [.i p.1,.i p.2],.cells [ints x,ints y],.cells [ints (HG (UJ ps x)),.i (XX ps (UJ ps x))],.dead,.dead,.cells [.i p.1,.i p.2],.cells ((NU (ps++[p])).map AV.cv),.cells [ints (HG (UJ (ps++[p]) x)),.i (XX (ps++[p]) (UJ (ps++[p]) x))],.cells [ints (HG (UJ ps y)),.i (XX ps (UJ ps y))]]++J) 2=some [ints (HG (UJ ps x)),.i (XX ps (UJ ps x))]:=rfl
    have r2:rowOf ([AObj.cells [.i p.1,.i p.2],.cells [ints x,ints y],.cells [ints (HG (UJ ps x)),.i (XX ps (UJ ps x))],.dead,.dead,.cells [.i p.1,.i p.2],.cells ((NU (ps++[p])).map AV.cv),.cells [ints (HG (UJ (ps++[p]) x)),.i (XX (ps++[p]) (UJ (ps++[p]) x))],.cells [ints (HG (UJ ps y)),.i (XX ps (UJ ps y))]]++J) 8=some [ints (HG (UJ ps y)),.i (XX ps (UJ ps y))]:=rfl
    have hcb:=chkE_of hok (addL_len x y x.length) fun i hi=>by
     rw[addL_len] at hi
     have h1:=hok.need i hi
     have h2:=hoky.need i (by omega)
     have h3:=hall i hi
     rw[addL_get hi]
     omega
    obtain ⟨hbb,g1,g2,g3⟩:=both_le hbc hby (fun i hi=>(hok.need i hi).1) (fun i hi=>(hoky.need i hi).1) hl hcb
    have hfb:FrzV anyC ([AObj.cells [.i p.1,.i p.2],.cells [ints x,ints y],.cells [ints (HG (UJ ps x)),.i (XX ps (UJ ps x))],.dead,.dead,.cells [.i p.1,.i p.2],.cells ((NU (ps++[p])).map AV.cv),.cells [ints (HG (UJ (ps++[p]) x)),.i (XX (ps++[p]) (UJ (ps++[p]) x))],.cells [ints (HG (UJ ps y)),.i (XX ps (UJ ps y))]]++J) v13 (ints (addL x y x.length)):=by
     have e:ints (addL x y x.length)=.cv (.rsl ((addL x y x.length).map (.int .i64)) x.length):=by
      show AV.cv (.rsl _ (addL x y x.length).length)=_
      rw[addL_len]
     rw[e]
     exact GI hacc.acc fun _ _=>trivial
    have h17b:=le17 ps (addL x y x.length) hp (by rw[addL_len];exact hx)
    unfold fewA at h17b
    rw[hbb.few] at h17b
    have n1:=natsI_len' (UJ ps x)
    have n2:=natsI_len' (UJ ps y)
    have n3:=natsI_len' (UJ ps (addL x y x.length))
    have l1:=hbc.len
    have l2:=hby.len
    have d1:decide (((HG (UJ ps (addL x y x.length))).length:Int)≥((HG (UJ ps x)).length:Int))=true:=decide_eq_true (by omega)
    have d2:decide (((HG (UJ ps (addL x y x.length))).length:Int)≥((HG (UJ ps y)).length:Int))=true:=decide_eq_true (by omega)
    have hw:IntKind.i64.wrap (((HG (UJ ps x)).length:Int)+((HG (UJ ps y)).length:Int))=((HG (UJ ps x)).length:Int)+((HG (UJ ps y)).length:Int):=ZC (by omega)
    have d3:decide (((HG (UJ ps (addL x y x.length))).length:Int)≤((HG (UJ ps x)).length:Int)+((HG (UJ ps y)).length:Int))=true:=decide_eq_true (by omega)
    generalize [AObj.cells [.i p.1,.i p.2],.cells [ints x,ints y],.cells [ints (HG (UJ ps x)),.i (XX ps (UJ ps x))],.dead,.dead,.cells [.i p.1,.i p.2],.cells ((NU (ps++[p])).map AV.cv),.cells [ints (HG (UJ (ps++[p]) x)),.i (XX (ps++[p]) (UJ (ps++[p]) x))],.cells [ints (HG (UJ ps y)),.i (XX ps (UJ ps y))]]++J=H2 at *
    simp only[evA,simprocAttr]
    refine h17b.call (.cons (.c (.c _ trivial)) (.cons hfb .nil)) ?_
    have hst:∀ a b:AV,a.isSc=true→b.isSc=true→UM 2 [.ptr H2.length 0,.agg [a,b]] (H2++[AObj.cells [.cv .nils,.i 0]])=some (.undef,H2++[AObj.cells [a,b]]):=fun a b ha hb=>by
     simp[UM,cellsOf,XH,ha,hb,setRange]
    have q1:=fun cs=>ZH r1 [AObj.cells cs]
    have q2:=fun cs=>ZH r2 [AObj.cells cs]
    have q3:=fun cs:List AV=>XH (σ:=H2) (cs:=cs)
    have hst2:=hst (ints (HG (UJ ps (addL x y x.length)))) (.i (XX ps (UJ ps (addL x y x.length)))) rfl rfl
    simp only[hst2,q1,q2,q3,d1,d2,hw,d3,evA,simprocAttr]
    refine awake.call .nil ?_
    simp only[evA,simprocAttr]
    (repeat' (first | exact HL.nil | exact KS.nil | exact FrzC.nl | exact FrzC.c _ trivial | apply HL.cons | apply KS.cons | apply FrzV.agg | apply FrzV.tup | apply FrzV.c | refine FrzC.sl _ _ _ _ _ _ rfl (QC rfl) ?_))
 ·have hb:(chkE (ps++[p]) x == 0)=false:=by simpa using hcm
  simp only[a1,a2,hA0,evA,simprocAttr]
  refine h42.call (.cons (hfz _ rfl) (.cons (.c (.c _ trivial)) .nil)) ?_
  simp only[hb,evA,simprocAttr]
  have hxl:=hok.l6
  by_cases hl:y.length=x.length
  rotate_left
  ·have hb:((y.length:Int) != x.length)=true:=by simp;omega
   simp only[hA0,hA1,hb,evA,simprocAttr]
   refine awake.call .nil ?_
   simp only[evA,simprocAttr]
   (repeat' (first | exact HL.nil | exact KS.nil | exact FrzC.nl | exact FrzC.c _ trivial | apply HL.cons | apply KS.cons | apply FrzV.agg | apply FrzV.tup | apply FrzV.c | refine FrzC.sl _ _ _ _ _ _ rfl (QC rfl) ?_))
  have hb:((y.length:Int) != x.length)=false:=by rw[hl];simp
  simp only[hA0,hA1,hb,evA,simprocAttr]
  by_cases hcy:chkE ps y=0
  rotate_left
  ·rw[fewL_bad hcy] at h17y
   have hb:(chkE ps y != 0)=true:=by simpa using hcy
   refine h17y.call frz ?_
   simp only[hb,evA,simprocAttr]
   refine awake.call .nil ?_
   simp only[evA,simprocAttr]
   (repeat' (first | exact HL.nil | exact KS.nil | exact FrzC.nl | exact FrzC.c _ trivial | apply HL.cons | apply KS.cons | apply FrzV.agg | apply FrzV.tup | apply FrzV.c | refine FrzC.sl _ _ _ _ _ _ rfl (QC rfl) ?_))
  cases hly:NY ps y with
  | true =>
   rw[fewL_lack hcy hly] at h17y
   refine h17y.call frz ?_
   simp only[evA,simprocAttr]
   refine awake.call .nil ?_
   simp only[evA,simprocAttr]
   (repeat' (first | exact HL.nil | exact KS.nil | exact FrzC.nl | exact FrzC.c _ trivial | apply HL.cons | apply KS.cons | apply FrzV.agg | apply FrzV.tup | apply FrzV.c | refine FrzC.sl _ _ _ _ _ _ rfl (QC rfl) ?_))
  | false =>
  have hby:=bc_ok hcy hly
  have hoky:=Qd3 hcy
  rw[hby.few] at h17y
  refine h17y.call frz ?_
  simp only[evA,simprocAttr]
  refine loop10 ps p x y [.cells [.i p.1,.i p.2],.cells [ints x,ints y],.cells [ints (HG (UJ ps x)),.i (XX ps (UJ ps x))],.dead,.dead,.cells [.i p.1,.i p.2],.cells ((NU (ps++[p])).map AV.cv),.cells [ints (HG (UJ ps y)),.i (XX ps (UJ ps y))]] _ _ _ _ _ _ _ hl hxl hok.need hoky.need rfl ?_ ?_ _ _
  ·intro v13 i v22 v23 H'
   simp only[evA,simprocAttr]
   (repeat' (first | exact HL.nil | exact KS.nil | exact FrzC.nl | exact FrzC.c _ trivial | apply HL.cons | apply KS.cons | apply FrzV.agg | apply FrzV.tup | apply FrzV.c | refine FrzC.sl _ _ _ _ _ _ rfl (QC rfl) ?_))
  ·intro v13 i v22 v23 J hi hall hacc
   subst hi
   have r1:rowOf ([AObj.cells [.i p.1,.i p.2],.cells [ints x,ints y],.cells [ints (HG (UJ ps x)),.i (XX ps (UJ ps x))],.dead,.dead,.cells [.i p.1,.i p.2],.cells ((NU (ps++[p])).map AV.cv),.cells [ints (HG (UJ ps y)),.i (XX ps (UJ ps y))]]++J) 2=some [ints (HG (UJ ps x)),.i (XX ps (UJ ps x))]:=rfl
   have r2:rowOf ([AObj.cells [.i p.1,.i p.2],.cells [ints x,ints y],.cells [ints (HG (UJ ps x)),.i (XX ps (UJ ps x))],.dead,.dead,.cells [.i p.1,.i p.2],.cells ((NU (ps++[p])).map AV.cv),.cells [ints (HG (UJ ps y)),.i (XX ps (UJ ps y))]]++J) 7=some [ints (HG (UJ ps y)),.i (XX ps (UJ ps y))]:=rfl
   have hcb:=chkE_of hok (addL_len x y x.length) fun i hi=>by
    rw[addL_len] at hi
    have h1:=hok.need i hi
    have h2:=hoky.need i (by omega)
    have h3:=hall i hi
    rw[addL_get hi]
    omega
   obtain ⟨hbb,g1,g2,g3⟩:=both_le hbc hby (fun i hi=>(hok.need i hi).1) (fun i hi=>(hoky.need i hi).1) hl hcb
   have hfb:FrzV anyC ([AObj.cells [.i p.1,.i p.2],.cells [ints x,ints y],.cells [ints (HG (UJ ps x)),.i (XX ps (UJ ps x))],.dead,.dead,.cells [.i p.1,.i p.2],.cells ((NU (ps++[p])).map AV.cv),.cells [ints (HG (UJ ps y)),.i (XX ps (UJ ps y))]]++J) v13 (ints (addL x y x.length)):=by
    have e:ints (addL x y x.length)=.cv (.rsl ((addL x y x.length).map (.int .i64)) x.length):=by
     show AV.cv (.rsl _ (addL x y x.length).length)=_
     rw[addL_len]
    rw[e]
    exact GI hacc.acc fun _ _=>trivial
   have h17b:=le17 ps (addL x y x.length) hp (by rw[addL_len];exact hx)
   unfold fewA at h17b
   rw[hbb.few] at h17b
   have n1:=natsI_len' (UJ ps x)
   have n2:=natsI_len' (UJ ps y)
   have n3:=natsI_len' (UJ ps (addL x y x.length))
   have l1:=hbc.len
   have l2:=hby.len
   have d1:decide (((HG (UJ ps (addL x y x.length))).length:Int)≥((HG (UJ ps x)).length:Int))=true:=decide_eq_true (by omega)
   have d2:decide (((HG (UJ ps (addL x y x.length))).length:Int)≥((HG (UJ ps y)).length:Int))=true:=decide_eq_true (by omega)
   have hw:IntKind.i64.wrap (((HG (UJ ps x)).length:Int)+((HG (UJ ps y)).length:Int))=((HG (UJ ps x)).length:Int)+((HG (UJ ps y)).length:Int):=ZC (by omega)
   have d3:decide (((HG (UJ ps (addL x y x.length))).length:Int)≤((HG (UJ ps x)).length:Int)+((HG (UJ ps y)).length:Int))=true:=decide_eq_true (by omega)
   generalize [AObj.cells [.i p.1,.i p.2],.cells [ints x,ints y],.cells [ints (HG (UJ ps x)),.i (XX ps (UJ ps x))],.dead,.dead,.cells [.i p.1,.i p.2],.cells ((NU (ps++[p])).map AV.cv),.cells [ints (HG (UJ ps y)),.i (XX ps (UJ ps y))]]++J=H2 at *
   simp only[evA,simprocAttr]
   refine h17b.call (.cons (.c (.c _ trivial)) (.cons hfb .nil)) ?_
   have hst:∀ a b:AV,a.isSc=true→b.isSc=true→UM 2 [.ptr H2.length 0,.agg [a,b]] (H2++[AObj.cells [.cv .nils,.i 0]])=some (.undef,H2++[AObj.cells [a,b]]):=fun a b ha hb=>by
    simp[UM,cellsOf,XH,ha,hb,setRange]
   have q1:=fun cs=>ZH r1 [AObj.cells cs]
   have q2:=fun cs=>ZH r2 [AObj.cells cs]
   have q3:=fun cs:List AV=>XH (σ:=H2) (cs:=cs)
   have hst2:=hst (ints (HG (UJ ps (addL x y x.length)))) (.i (XX ps (UJ ps (addL x y x.length)))) rfl rfl
   simp only[hst2,q1,q2,q3,d1,d2,hw,d3,evA,simprocAttr]
   refine awake.call .nil ?_
   simp only[evA,simprocAttr]
   (repeat' (first | exact HL.nil | exact KS.nil | exact FrzC.nl | exact FrzC.c _ trivial | apply HL.cons | apply KS.cons | apply FrzV.agg | apply FrzV.tup | apply FrzV.c | refine FrzC.sl _ _ _ _ _ _ rfl (QC rfl) ?_))
theorem typed_pata {cs:List CV} (h:Typed Tryz.prog 73 cs):∃ p:Pat,avOf Tryz.prog 73 cs=patA p:=by
 obtain ⟨p,rfl,_⟩:=typed_pat h
 exact ⟨p,by simp only[avOf,Tryz.underlying73];rfl⟩
theorem typed_two {cs:List CV} (h:Typed Tryz.prog 83 cs):∃ x y:List Int,avOf Tryz.prog 83 cs=.agg [ints x,ints y]∧x.length<2 ^ 63∧y.length<2 ^ 63:=by
 obtain ⟨L,rfl,hl,hl2,hl3⟩:=typed_arr Tryz.underlying83 h
 match L,hl,hl3 with
 | [a,b],_,hl3 =>
  obtain ⟨x,rfl,hx⟩:=typed_row (hl3 a (by simp))
  obtain ⟨y,rfl,hy⟩:=typed_row (hl3 b (by simp))
  exact ⟨x,y,by simp only[avOf,Tryz.underlying83];rfl,hx,hy⟩
theorem law_LessonMore (avs:List AV) (h:Args Tryz.prog Tryz.f10.params.toList avs):AC Tryz.prog 10 avs [] fun r _=>r=.b true:=by
 have h:Args Tryz.prog [22,73,83] avs:=h
 obtain ⟨cs1,avs,rfl,h1,h⟩:=args_cons h
 obtain ⟨cs2,avs,rfl,h2,h⟩:=args_cons h
 obtain ⟨cs3,avs,rfl,h3,h⟩:=args_cons h
 cases args_nil h
 obtain ⟨ps,e1,hp⟩:=typed_pats h1
 obtain ⟨p,e2⟩:=typed_pata h2
 obtain ⟨x,y,e3,hx,hy⟩:=typed_two h3
 rw[e1,e2,e3]
 exact (law10 ps p x y hp hx hy).call (by (repeat' (first | exact HL.nil | exact KS.nil | exact FrzC.nl | exact FrzC.c _ trivial | apply HL.cons | apply KS.cons | apply FrzV.agg | apply FrzV.tup | apply FrzV.c | refine FrzC.sl _ _ _ _ _ _ rfl (QC rfl) ?_))) rfl
end Go.Proofs.YtgkidpolomhghaaGreatDoor.AM

/- Parts of the proof of Even. -/
import Derived.Test.YtgkidpolomhghaaGreatDoorRows
import Derived.WalkKit
import Derived.ProofKit
import Derived.OpenShut
import Derived.Carry
import Derived.Test.YtgkidpolomhghaaGreatDoorProg
import Derived.Test.YtgkidpolomhghaaGreatDoorZ27
set_option linter.unusedVariables false
set_option linter.unusedSimpArgs false
set_option linter.unusedSectionVars false
namespace Go.Proofs.YtgkidpolomhghaaGreatDoor.AM
variable [Dr]
open Go
variable {P:Program} {fx:Fx} {s:St} {Q:Exit→St→Prop} {f:FuncId}
theorem WB.later {m:LM} {X:Nat→Prop} {en:En} {w:World} {c:Code} {s':St} {m':LM} {w':World} {ac':Act} (h:WB f P fx c s' Q) (hr:rok fx m) (hs':SRel fx m' X en s' ac' w') (hst:Step fx.n0 m X w m' w') :
  InF f (fen m fx.r) 0 P c (Lift fx m X en w Q) ac' w':=by
 rw[← EQ hr hst]
 exact InF.mono (h m' X en ac' w' hs' (EH hr hst)) fun e ac2 w2 ⟨s2,m2,h1,h2,h3⟩=>⟨s2,m2,h1,h2,hst.trans h3⟩
end Go.Proofs.YtgkidpolomhghaaGreatDoor.AM
namespace Go.Proofs.YtgkidpolomhghaaGreatDoor.AM
variable [Dr]
open Go Pl
section
variable {l:List Les} {k:Nat}
theorem les_4 (h:k<l.length):(F0 l)[k*7+4]? = some (.int .i64 (l[k]!).e):=flat_get HJ h (j:=4) (by omega)
end
end Go.Proofs.YtgkidpolomhghaaGreatDoor.AM
namespace Go.Proofs.YtgkidpolomhghaaGreatDoor.AM
variable [Dr]
open Go Go.ChangeShapes Go.WideShapes Go.ChangeAt Go.RowKit
abbrev noO:Nat→Prop:=Own (fun _=>none) (fun _=>False)
theorem not_noO (b:Nat):¬ noO b:=by rintro (h | ⟨l,hl⟩);exact h;cases hl
theorem DG {α:Type} {Q:Nat→α→Prop}:∀ (n:Nat),(∀ i,i<n→∃ l,Q i l)→∃ L:List α,L.length=n∧∀ (i:Nat) (l:α),L[i]? = some l→Q i l
 | 0,_=>⟨[],rfl,by simp⟩
 | n+1,h=>by
  obtain ⟨L,h1,h2⟩:=DG n (fun i hi=>h i (by omega))
  obtain ⟨l,hl⟩:=h n (by omega)
  refine ⟨L++[l],by simp[h1],fun i l' hi=>?_⟩
  rcases ZB i n with hlt | hge
  ·rw[QE (by omega)] at hi;exact h2 i l' hi
  ·rw[QS (by omega),h1] at hi
   have:i=n:=by
    rcases ZB n i with h' | h'
    ·rw[QN (by simp;omega)] at hi;cases hi
    ·omega
   subst this
   simp at hi;subst hi;exact hl
theorem CJ {R:Nat→CV→Prop} {esz:Nat}:∀ (L:List (List CV)) (n:Nat),(∀ (i:Nat) (l:List CV),L[i]? = some l→l.length=esz∧∀ (j:Nat) (c:CV),l[j]? = some c→R (n+i*esz+j) c) →
  L.flatten.length=L.length*esz∧∀ (k:Nat) (c:CV),L.flatten[k]? = some c→R (n+k) c
 | [],n,_=>by simp
 | l::L,n,h=>by
  obtain ⟨h1,h2⟩:=h 0 l (by simp)
  have ih:=CJ L (n+esz) (fun i l' hi=>by
   obtain ⟨g1,g2⟩:=h (i+1) l' (by simpa using hi)
   refine ⟨g1,fun j c hj=>?_⟩
   have:=g2 j c hj
   rwa [WP,Nat.one_mul,← Nat.add_assoc,Nat.add_right_comm n] at this)
  refine ⟨by simp[h1,ih.1,WP,Nat.add_comm],fun k c hk=>?_⟩
  rw[List.flatten_cons] at hk
  rcases ZB k l.length with hlt | hge
  ·rw[QE hlt] at hk
   have:=h2 k c hk
   simpa using this
  ·rw[QS hge] at hk
   have:=ih.2 (k-l.length) c hk
   rwa [show n+esz+(k-l.length)=n+k by omega] at this
theorem A4 {P:Program} {R:Nat→CV→Prop} {N:Nat}:∀ (fs:List Field) (L:List (List CV)) (n:Nat),J8 P fs n=some N→L.length=fs.length →
  (∀ (i:Nat) (f:Field) (l:List CV),fs[i]? = some f→L[i]? = some l→l.length=P.cellsOf f.type∧∀ (j:Nat) (c:CV),l[j]? = some c→R (f.offset+j) c) →
  n+L.flatten.length=N∧∀ (k:Nat) (c:CV),L.flatten[k]? = some c→R (n+k) c
 | [],L,n,he,hl,_=>by
  have:L=[]:=ZT (by simpa using hl)
  subst this
  simp only[J8,Option.some.injEq] at he
  simp[he]
 | f::fs,[],n,_,hl,_=>by simp at hl
 | f::fs,l::L,n,he,hl,h=>by
  simp only[J8] at he
  split at he
  ·rename_i hoff
   obtain ⟨h1,h2⟩:=h 0 f l (by simp) (by simp)
   have ih:=A4 fs L (n+P.cellsOf f.type) he (by simpa using hl) (fun i f' l' hf hl'=>h (i+1) f' l' (by simpa using hf) (by simpa using hl'))
   refine ⟨by rw[← ih.1];simp[h1];omega,fun k c hk=>?_⟩
   rw[List.flatten_cons] at hk
   rcases ZB k l.length with hlt | hge
   ·rw[QE hlt] at hk
    have:=h2 k c hk
    rwa [hoff] at this
   ·rw[QS hge] at hk
    have:=ih.2 (k-l.length) c hk
    rwa [show n+P.cellsOf f.type+(k-l.length)=n+k by omega] at this
  ·cases he
theorem NT {W:World} {a:Addr}:∀ (cs:List CV) (i:Nat),(∀ (j:Nat) (c:CV),cs[j]? = some c→∃ v,W.cell? (a.add (i+j))=some v∧c.rep W noO v)→CV.reps W noO cs a i
 | [],_,_=>by simp[CV.reps]
 | c::cs,i,h=>by
  simp only[CV.reps]
  refine ⟨not_noO _,by simpa using h 0 c (by simp),NT cs (i+1) fun j c' hj=>?_⟩
  have:=h (j+1) c' (by simpa using hj)
  rwa [show i+(j+1)=i+1+j by omega] at this
section
variable {H:Type} {enc:TypeId × Value→H} {P:Program} {W:World}
theorem EW:∀ (n:Nat) (t:TypeId) (cs:List Value) (x:DataW H × List MemPlace) (fuel:Nat),TG P n t=true→DataW.trod enc P W 0 (fun _=>true) true fuel t cs=some x →
  ∃ cvs:List CV,Typed P t cvs∧cvs.length=cs.length∧∀ (i:Nat) (c:CV) (v:Value),cvs[i]? = some c→cs[i]? = some v→c.rep W noO v
 | 0,t,cs,x,fuel,ho,_=>by simp[TG] at ho
 | n + 1,t,cs,x,fuel,ho,h=>by
  simp only[TG] at ho
  split at ho
  ·rename_i ht
   obtain ⟨b,rfl,_⟩:=DataW.trod_bool ht h
   refine ⟨[.bool b],.bool ht b,rfl,fun i c v h1 h2=>?_⟩
   cases i with
   | zero=>simp at h1 h2;subst h1 h2;simp[CV.rep]
   | succ i=>simp at h1
  ·rename_i k ht
   obtain ⟨b,rfl,_,hw⟩:=DataW.trod_int ht h
   refine ⟨[.int k b],.int ht b hw,rfl,fun i c v h1 h2=>?_⟩
   cases i with
   | zero=>simp at h1 h2;subst h1 h2;simp[CV.rep]
   | succ i=>simp at h1
  ·rename_i ht
   obtain ⟨s,rfl,_,hw⟩:=DataW.trod_string ht h
   refine ⟨[.str s],.str ht s hw,rfl,fun i c v h1 h2=>?_⟩
   cases i with
   | zero=>simp at h1 h2;subst h1 h2;simp[CV.rep]
   | succ i=>simp at h1
  ·rename_i e ht
   rcases DataW.trod_slice ht h with ⟨rfl,_⟩ | ⟨a,len,cap,elems,rest,m,_,rfl,_,_,hlc,hcm,hel,hget,_⟩
   ·refine ⟨[.rsl [] 0],by simpa using Typed.slc ht [] (by simp) (by simp) (by simp),rfl,fun i c v h1 h2=>?_⟩
    cases i with
    | zero=>simp at h1 h2;subst h1 h2;simp[CV.rep]
    | succ i=>simp at h1
   ·obtain ⟨L,hL,hQ⟩:=DG (Q:=fun i l=>Typed P e l∧l.length=P.cellsOf e∧∀ (j:Nat) (c:CV),l[j]? = some c→∃ v,W.cell? (a.add (i*P.cellsOf e+j))=some v∧c.rep W noO v) len (fun i hi=>by
     have hg:=hget i hi
     rw[QI (by omega)] at hg
     obtain ⟨ci,h1,h2⟩:=QB.1 hg
     obtain ⟨_,hlen,hcell⟩:=World.cells?_some h1
     obtain ⟨cvs,g1,g2,g3⟩:=EW n e ci _ _ ho h2
     refine ⟨cvs,g1,by omega,fun j c hj=>?_⟩
     have hjl:j<cvs.length:=(QH.1 hj).1
     have hc:=hcell j (by omega)
     rw[QI (by omega)] at hc
     exact ⟨_,by rw[← Addr.add_add];exact hc,g3 j c _ hj (QI _)⟩)
    have hmem:∀ l∈L,∃ i:Nat,L[i]? = some l:=fun l hl=>List.mem_iff_getElem?.1 hl
    have hfl:=CJ (R:=fun k c=>∃ v,W.cell? (a.add k)=some v∧c.rep W noO v) (esz:=P.cellsOf e) L 0 (fun i l hi=>⟨(hQ i l hi).2.1,fun j c hj=>by simpa using (hQ i l hi).2.2 j c hj⟩)
    refine ⟨[.rsl L.flatten L.length],Typed.slc ht L (by omega) (fun l hl=>let ⟨i,hi⟩:=hmem l hl;(hQ i l hi).2.1) (fun l hl=>let ⟨i,hi⟩:=hmem l hl;(hQ i l hi).1),rfl,fun i c v h1 h2=>?_⟩
    cases i with
    | zero =>
     simp at h1 h2;subst h1 h2
     simp only[CV.rep]
     exact .inr ⟨a,cap,by rw[hL],by omega,NT _ 0 (fun j c hj=>hfl.2 j c hj)⟩
    | succ i=>simp at h1
  ·rename_i k e ht
   simp only[QD,decide_eq_true_eq] at ho
   obtain ⟨xs,m,_,_,hlen,hxs,hget⟩:=DataW.trod_array ht h
   obtain ⟨L,hL,hQ⟩:=DG (Q:=fun i l=>Typed P e l∧l.length=P.cellsOf e∧∀ (j:Nat) (c:CV),l[j]? = some c→∀ v,cs[i*P.cellsOf e+j]? = some v→c.rep W noO v) k (fun i hi=>by
     have hg:=hget i hi
     rw[QI (by omega)] at hg
     obtain ⟨cvs,g1,g2,g3⟩:=EW n e _ _ _ ho.1 hg
     have hik:i*P.cellsOf e+P.cellsOf e≤k*P.cellsOf e:=by
      have:=YQ (P.cellsOf e) (show i+1≤k by omega)
      rwa [WP,Nat.one_mul] at this
     have hl2:cvs.length=P.cellsOf e:=by rw[g2];simp;omega
     refine ⟨cvs,g1,hl2,fun j c hj v hv=>?_⟩
     have hjl:j<cvs.length:=(QH.1 hj).1
     exact g3 j c v hj (by rw[Z7,if_pos (by omega),X4];exact hv))
   have hmem:∀ l∈L,∃ i:Nat,L[i]? = some l:=fun l hl=>List.mem_iff_getElem?.1 hl
   have hfl:=CJ (R:=fun k c=>∀ v,cs[k]? = some v→c.rep W noO v) (esz:=P.cellsOf e) L 0 (fun i l hi=>⟨(hQ i l hi).2.1,fun j c hj=>by simpa using (hQ i l hi).2.2 j c hj⟩)
   exact ⟨L.flatten,Typed.arr ht L hL (fun l hl=>let ⟨i,hi⟩:=hmem l hl;(hQ i l hi).2.1) (fun l hl=>let ⟨i,hi⟩:=hmem l hl;(hQ i l hi).1),by rw[hfl.1,hlen,ho.2,hL],fun i c v h1 h2=>hfl.2 i c h1 v (by simpa using h2)⟩
  ·rename_i fs ht
   simp only[QD,decide_eq_true_eq,Q1] at ho
   obtain ⟨xs,m,_,_,hlen,hxs,hget⟩:=DataW.trod_struct ht h
   obtain ⟨L,hL,hQ⟩:=DG (Q:=fun i l=>∀ f,fs[i]? = some f→Typed P f.type l∧l.length=min (P.cellsOf f.type) (cs.length-f.offset)∧∀ (j:Nat) (c:CV),l[j]? = some c→∀ v,cs[f.offset+j]? = some v→c.rep W noO v) fs.size (fun i hi=>by
     have hfi:fs[i]? = some fs[i]:=Q7 hi
     have hg:=hget i fs[i] hfi
     rw[QI (by omega)] at hg
     obtain ⟨cvs,g1,g2,g3⟩:=EW n _ _ _ _ (ho.1 fs[i] (by simp)) hg
     have hl2:cvs.length=min (P.cellsOf fs[i].type) (cs.length-fs[i].offset):=by rw[g2];simp
     refine ⟨cvs,fun f hf=>?_⟩
     rw[hfi] at hf;cases hf
     refine ⟨g1,hl2,fun j c hj v hv=>?_⟩
     have hjl:j<cvs.length:=(QH.1 hj).1
     exact g3 j c v hj (by rw[Z7,if_pos (by omega),X4];exact hv))
   have hoff:∀ (fs:List Field) (n N:Nat),J8 P fs n=some N→n≤N∧∀ (i:Nat) (f:Field),fs[i]? = some f→f.offset+P.cellsOf f.type≤N:=by
    intro fs
    induction fs with
    | nil=>intro n N h;simp only[J8,Option.some.injEq] at h;simp[h]
    | cons f fs ih =>
     intro n N h
     simp only[J8] at h
     split at h
     ·rename_i ho
      obtain ⟨h1,h2⟩:=ih _ _ h
      refine ⟨by omega,fun i f' hi=>?_⟩
      cases i with
      | zero=>simp at hi;subst hi;omega
      | succ i=>exact h2 i f' (by simpa using hi)
     ·cases h
   have hin:=(hoff _ _ _ ho.2).2
   have hl:∀ (i:Nat) (f:Field) (l:List CV),fs[i]? = some f→L[i]? = some l→l.length=P.cellsOf f.type:=by
    intro i f l hf hl
    obtain ⟨_,h2,_⟩:=hQ i l hl f hf
    have:=hin i f (by simpa using hf)
    omega
   have hfl:=A4 (P:=P) (R:=fun k c=>∀ v,cs[k]? = some v→c.rep W noO v) fs.toList L 0 ho.2 (by simpa using hL) (fun i f l hf hl' =>
    ⟨hl i f l (by simpa using hf) hl',fun j c hj=>(hQ i l hl' f (by simpa using hf)).2.2 j c hj⟩)
   exact ⟨L.flatten,Typed.struct ht L hL hl (fun i f l hf hl'=>(hQ i l hl' f hf).1),by have:=hfl.1;omega,fun i c v h1 h2=>hfl.2 i c h1 v (by simpa using h2)⟩
  ·cases ho
theorem DV:∀ (cvs:List CV) (vs:List Value),cvs.length=vs.length→(∀ (i:Nat) (c:CV) (v:Value),cvs[i]? = some c→vs[i]? = some v→c.rep W noO v)→QK nom noX W (cvs.map .cv) vs
 | [],[],_,_=>by simp[QK]
 | c::cvs,v::vs,hl,h=>by
  simp only[Q0,QK,VRel]
  exact ⟨h 0 c v rfl rfl,DV cvs vs (by simpa using hl) fun i c v h1 h2=>h (i+1) c v (by simpa using h1) (by simpa using h2)⟩
 | [],_::_,hl,_=>by simp at hl
 | _::_,[],hl,_=>by simp at hl
theorem QfB {n:Nat} {t:TypeId} {v:Value} {d:DataW H} {ps:List MemPlace} {r:Reach} {base:Nat} (ho:TG P n t=true) (hval:Value.okWide P W r base t v) (h:DataW.Trod enc P W 0 (fun _=>true) true t v d ps) :
  ∃ cs,Typed P t cs∧VRel nom noX W (avOf P t cs) v:=by
 obtain ⟨fuel,h⟩:=h
 obtain ⟨cvs,h1,h2,h3⟩:=EW n t _ _ _ ho h
 refine ⟨cvs,h1,?_⟩
 unfold avOf
 have one:(v.cells.toList=[v])→VRel nom noX W (.cv (cvs.headD .nilp)) v:=by
  intro hv
  rw[hv] at h2 h3
  match cvs,h2 with
  | [c],_=>simp only[List.headD_cons,VRel];exact h3 0 c v rfl rfl
 cases n with
 | zero=>simp[TG] at ho
 | succ n =>
  simp only[TG] at ho
  split at ho
  ·rename_i ht;rw[ht];obtain ⟨b,rfl⟩:=okWide_bool ht hval;exact one rfl
  ·rename_i ht;rw[ht];obtain ⟨b,rfl⟩:=okWide_int ht hval;exact one rfl
  ·rename_i ht;rw[ht];obtain ⟨b,rfl⟩:=okWide_string ht hval;exact one rfl
  ·rename_i ht;rw[ht];obtain ⟨_,_,_,rfl⟩:=okWide_slice ht hval;exact one rfl
  ·rename_i ht;rw[ht]
   simp only[Value.okWide,ht] at hval
   obtain ⟨arr,rfl,_⟩:=hval
   simp only[VRel]
   exact ⟨arr.toList,by simp,DV _ _ h2 h3⟩
  ·rename_i ht;rw[ht]
   simp only[Value.okWide,ht] at hval
   obtain ⟨arr,rfl,_⟩:=hval
   simp only[VRel]
   exact ⟨arr.toList,by simp,DV _ _ h2 h3⟩
  ·cases ho
theorem C1 {n:Nat} {r:Reach} {base:Nat}:∀ {ts:List TypeId} {vs:List Value} {ds:List (DataW H)} {ps:List MemPlace},(ts.all (TG P n))=true →
  (∀ (j:Nat) (t:TypeId) (v:Value),ts[j]? = some t→vs[j]? = some v→Value.okWide P W r base t v)→DataW.TrodAll enc P W 0 (fun _=>true) true ts vs ds ps →
  ds.length=ts.length∧∃ avs,Args P ts avs∧QK nom noX W avs vs
 | [],_,_,_,_,_,h=>by
  obtain ⟨rfl,rfl,rfl⟩:=trodAll_nil h
  exact ⟨rfl,[],.nil,by simp[QK]⟩
 | t::ts,_,_,_,ho,hval,h=>by
  obtain ⟨v,vs1,d,ds1,a,b,rfl,rfl,rfl,h1,h2⟩:=trodAll_cons h
  simp only[List.all_cons,QD] at ho
  obtain ⟨cs,g1,g2⟩:=QfB ho.1 (hval 0 t v rfl rfl) h1
  obtain ⟨hl,avs,g3,g4⟩:=C1 ho.2 (fun j t v h1 h2=>hval (j+1) t v (by simpa using h1) (by simpa using h2)) h2
  exact ⟨by simp[hl],_,.cons g1 g3,by simp only[QK];exact ⟨g2,g4⟩⟩
theorem LU (hl:laidOutB P=true) {W':World} (hb:Below W.heap.size W W'):∀ {ts:List TypeId} {vs:List Value} {ds:List (DataW H)} {ps:List MemPlace},(ts.all fun t=>P.readableRec t&&decide (t<P.types.size))=true →
  DataW.TrodAll enc P W 0 (fun _=>true) true ts vs ds ps→(∀ x∈ps,x.block<W.heap.size)→DataW.TrodAll enc P W' 0 (fun b=>decide (b<W.heap.size)) true ts vs ds ps
 | [],_,_,_,_,h,_=>by
  obtain ⟨rfl,rfl,rfl⟩:=trodAll_nil h
  exact trodAll_mk0
 | t::ts,_,_,_,ho,h,hlt=>by
  obtain ⟨v,vs1,d,ds1,a,b,rfl,rfl,rfl,h1,h2⟩:=trodAll_cons h
  simp only[List.all_cons,QD,decide_eq_true_eq] at ho
  refine trodAll_cons_mk (Below.trod hl ho.1.1 ho.1.2 h1 hb fun x hx=>hlt x (by simp[hx])) (LU hl hb ?_ h2 fun x hx=>hlt x (by simp[hx]))
  simpa using ho.2
theorem law_of_AC {f:FuncId} {fn:Func} {s:ChangeSpec} {n:Nat} {t:TypeId} {base:Nat} {args:Array Value} {ds gs:List (DataW H)} {before:List MemPlace}
  (hl:laidOutB P=true) (hpar:(fn.params.toList.all fun t=>P.readableRec t&&decide (t<P.types.size))=true) (ho:fn.params.toList.all (TG P n)=true)
  (hres:fn.resultTypes = #[t]) (htb:P.underlying t=some .bool) (hsv:s.vars=[]) (hs:∀ ds:List (DataW H),ds.length=fn.params.toList.length→s.fn H ds = { results:=[.lit (.bool true)],args:=ds })
  (hAC:∀ avs,Args P fn.params.toList avs→AC P f avs [] fun r _=>r=.b true)
  (hval:∀ (j:Nat) t v,fn.params[j]? = some t→args[j]? = some v→Value.okWide P W .any base t v) (hgl:GlOk nom noX W)
  (hW:DataW.Whole enc P fn.params.toList s.vars false W args.toList ds gs before) :
  Calls P f args W fun e W'=>∃ v,e=.returned v∧s.post enc P fn false true false false W args v W':=by
 have hW':=hW
 obtain ⟨p,q,hA,hV,rfl,hfz,hnd⟩:=hW
 rw[hsv] at hV
 obtain ⟨rfl,rfl⟩:=trodVars_none hV
 have hlt:∀ x∈p,x.block<W.heap.size:=fun x hx=>hW'.lt x (by simp[hx])
 obtain ⟨hlen,avs,hav,hrel⟩:=C1 ho (fun j t v h1 h2=>hval j t v (by simpa using h1) (by simpa using h2)) hA
 have hcall:=(hAC avs hav).2 nom noX W args.toList hrel ⟨by simp,by simp,by simp,by simp,by simp,hgl⟩
 have hcall:=callsIn_wide.1 hcall
 simp only[Array.toArray_toList] at hcall
 refine hcall.mono fun e W' ⟨c,r,σ',m',he,hq,hr,_,hst,_⟩=>?_
 subst he hq
 simp only[VRel,CV.rep] at hr
 subst hr
 have hb:Below W.heap.size W W':=⟨hst.os,hst.tape,hst.output,hst.size,fun k hk=>hst.fr k hk (.inr (by simp))⟩
 have hsf:s.fn H (ds++[]) = { results:=[.lit (.bool true)],args:=ds }:=by rw[ZU];exact hs ds hlen
 refine ⟨_,rfl,ds,[],p++[],[],p,[],hW',?_,?_,?_,hb.frame _,fun h=>by simp at h⟩
 ·rw[hsf,hres]
  exact trodAll_mk1 (shut_bool htb true)
 ·rw[hsf]
  exact LU hl hb hpar hA hlt
 ·rw[hsf,hsv]
  rfl
end
end Go.Proofs.YtgkidpolomhghaaGreatDoor.AM
namespace Go.Proofs.YtgkidpolomhghaaGreatDoor.AM
variable [Dr]
open Go
theorem QeV {P:Program} {t:TypeId} {k:IntKind} {cs:List CV} (ht:P.underlying t=some (.int k)) (h:Typed P t cs):∃ n,cs=[.int k n]∧(Lit.int k n).wf=true:=by
 cases h with
 | int ht' n hw=>rw[ht] at ht';cases ht';exact ⟨n,rfl,hw⟩
 | bool ht'=>rw[ht] at ht';cases ht'
 | str ht'=>rw[ht] at ht';cases ht'
 | slc ht'=>rw[ht] at ht';cases ht'
 | arr ht'=>rw[ht] at ht';cases ht'
 | struct ht'=>rw[ht] at ht';cases ht'
theorem typed_str {P:Program} {t:TypeId} {cs:List CV} (ht:P.underlying t=some .string) (h:Typed P t cs):∃ s:ByteArray,cs=[.str s]∧s.size≤maxLen:=by
 cases h with
 | str ht' s hs=>exact ⟨s,rfl,hs⟩
 | bool ht'=>rw[ht] at ht';cases ht'
 | int ht'=>rw[ht] at ht';cases ht'
 | slc ht'=>rw[ht] at ht';cases ht'
 | arr ht'=>rw[ht] at ht';cases ht'
 | struct ht'=>rw[ht] at ht';cases ht'
theorem QeU {P:Program} {t e:TypeId} {cs:List CV} (ht:P.underlying t=some (.slice e)) (h:Typed P t cs):∃ L:List (List CV),cs=[.rsl L.flatten L.length]∧L.length≤maxLen∧(∀ l∈L,l.length=P.cellsOf e)∧∀ l∈L,Typed P e l:=by
 cases h with
 | slc ht' L hn hl h=>rw[ht] at ht';cases ht';exact ⟨L,rfl,hn,hl,h⟩
 | bool ht'=>rw[ht] at ht';cases ht'
 | int ht'=>rw[ht] at ht';cases ht'
 | str ht'=>rw[ht] at ht';cases ht'
 | arr ht'=>rw[ht] at ht';cases ht'
 | struct ht'=>rw[ht] at ht';cases ht'
theorem typed_struct {P:Program} {t:TypeId} {fs:Array Field} {cs:List CV} (ht:P.underlying t=some (.struct fs)) (h:Typed P t cs):∃ L:List (List CV),cs=L.flatten∧L.length=fs.size∧∀ (i:Nat) (f:Field) (l:List CV),fs[i]? = some f→L[i]? = some l→Typed P f.type l:=by
 cases h with
 | struct ht' L hn hl h=>rw[ht] at ht';cases ht';exact ⟨L,rfl,hn,h⟩
 | bool ht'=>rw[ht] at ht';cases ht'
 | int ht'=>rw[ht] at ht';cases ht'
 | str ht'=>rw[ht] at ht';cases ht'
 | slc ht'=>rw[ht] at ht';cases ht'
 | arr ht'=>rw[ht] at ht';cases ht'
theorem Qdi {P:Program} {e:TypeId} {k:IntKind} (he:P.underlying e=some (.int k)):∀ L:List (List CV),(∀ l∈L,Typed P e l)→∃ zs:List Int,L.flatten=zs.map (.int k)∧L.length=zs.length∧∀ z∈zs,(Lit.int k z).wf=true
 | [],_=>⟨[],rfl,rfl,by simp⟩
 | l::L,h=>by
  obtain ⟨n,rfl,hn⟩:=QeV he (h l (by simp))
  obtain ⟨zs,h1,h2,h3⟩:=Qdi he L fun l hl=>h l (by simp[hl])
  exact ⟨n::zs,by simp[h1],by simp[h2],by simpa using ⟨hn,h3⟩⟩
theorem typed_ints {P:Program} {t e:TypeId} {k:IntKind} {cs:List CV} (ht:P.underlying t=some (.slice e)) (he:P.underlying e=some (.int k)) (h:Typed P t cs):∃ zs:List Int,cs=[.rsl (zs.map (.int k)) zs.length]∧zs.length<2 ^ 63∧∀ z∈zs,(Lit.int k z).wf=true:=by
 obtain ⟨L,rfl,hn,_,hl⟩:=QeU ht h
 obtain ⟨zs,h1,h2,h3⟩:=Qdi he L hl
 refine ⟨zs,by rw[h1,h2],?_,h3⟩
 rw[← h2];unfold maxLen at hn;omega
theorem args_cons {P:Program} {t:TypeId} {ts:List TypeId} {avs:List AV} (h:Args P (t::ts) avs):∃ cs avs',avs=avOf P t cs::avs'∧Typed P t cs∧Args P ts avs':=by
 generalize hts:t::ts=u at h
 cases h with
 | nil=>cases hts
 | cons h1 h2=>cases hts;exact ⟨_,_,rfl,h1,h2⟩
theorem args_nil {P:Program} {avs:List AV} (h:Args P [] avs):avs=[]:=by
 generalize hts:([]:List TypeId)=u at h
 cases h with
 | nil=>rfl
 | cons h1 h2=>cases hts
abbrev vs15:List Nat:=[0,1,2,3,4,5,6,7,8,9,16,41,50,73]
def ic15l0:IC:=(.seq (.seq (.region [jv 9,jF 5 1,jG 1 1,jl 2,je 3,jw 13 (.bin .lss .int) [.t 0,.t 4]])
 (.cond 13 .skip
 (.exit 4)))
 (.seq (.block 5 (.dr [[],[],[1],[2],[],[4],[5],[],[6,7],[8],[9],[3,10],[],[12],[13],[],[14,15],[16],[17],[11,18],[0,0,1,2,3,4,5,6,7,8,9,10,11,12,13,14,15,16,17,18,19],[20,19,0,1,2,3,4,5,6,7,8,9,10,11,12,13,14,15,16,17,18,19]] [jv 5,jv 5,jq (.iaS 1) [.t 1,jn 3],jl 2,jF 5 1,jG 1 4,jl 5,jv 9,ja 7 6 7,jG 4 8,jl 9,jq (.bin .add .int) [.t 3,.t 10],jF 5 1,jG 1 12,jl 13,jv 9,ja 7 14 15,jG 3 16,jl 17,jq (.bin .sub .int) [.t 11,.t 18],jq (.iaS 1) [.t 0,jn 3],jq (.store 1) [.t 20,.t 19]]))
 (.region [jv 9,jq (.bin .add .int) [.t 0,jn 1],jm 9 1])))
def ic15l1:IC:=(.seq (.seq (.region [jv 8,jv 6,jv 7,ja 1 1 2,jl 3,je 4,jw 12 (.bin .lss .int) [.t 0,.t 5]])
 (.cond 12 .skip
 (.exit 2)))
 (.seq (.block 3 (.dr [[],[],[],[],[2,3],[4],[],[],[6,7],[8],[],[9,10],[11],[5,12],[0,1,0,1,2,3,4,5,6,7,8,9,10,11,12,13],[14,13,0,1,2,3,4,5,6,7,8,9,10,11,12,13]] [jv 5,jv 7,jv 5,jv 7,ja 1 2 3,jl 4,jv 6,jv 7,ja 1 6 7,jl 8,jv 8,ja 1 9 10,jl 11,jq (.bin .add .int) [.t 5,.t 12],ja 1 0 1,jq (.store 1) [.t 14,.t 13]]))
 (.region [jv 8,jq (.bin .add .int) [.t 0,jn 1],jm 8 1])))
def ic15l2:IC:=(.seq (.seq (.region [jv 7,jw 11 (.bin .lss .int) [.t 0,jn 3]])
 (.cond 11 .skip
 (.exit 0)))
 (.seq (.block 1 (.seq (.region [jz 8 0])
 (.block 2 (.loop ic15l1))))
 (.region [jv 7,jq (.bin .add .int) [.t 0,jn 1],jm 7 1])))
def ic15:IC:=(.seq (.region [jb 1 0,jw 2 .mv [jB false]])
 (.seq (.region [jN 7 1,jk 37 [.t 0],jt 1,jx 0 2,jx 1 2,jw 3 (.alloc [(.cv .nils),(.cv .nils),(.cv .nils)]) [],jq (.store 3) [.v 3,.t 3],jm 4 4])
 (.seq (.seq (.region [jv 4,jw 10 (.bin .neq .int) [.t 0,jn 0]])
 (.cond 10 (.seq (.region [jF 0 3,jl 0,je 1,jF 1 3,jl 3,je 4,jq (.bin .add .int) [.t 2,.t 5],jF 2 3,jl 7,je 8,jq (.bin .add .int) [.t 6,.t 9],jq (.bin .eql .int) [.t 10,jn 0],jt 11,jf 12 true 22 [],jq .pick [.t 12,.t 13,jB false],jm 2 14])
 .ret)
 .skip))
 (.seq (.region [jq (.mkslice 1 8 [(.cv (.int .i64 0))]) [jn 4,jn 4],jm 5 0])
 (.seq (.region [jF 0 3,jl 0,jF 1 3,jl 2,jF 2 3,jl 4,jq (.bslice 1 3 [(.cv .nils),(.cv .nils),(.cv .nils)] [(0,1),(1,1),(2,1)]) [.t 1,.t 3,.t 5],jm 6 6])
 (.seq (.seq (.region [jz 7 0])
 (.block 0 (.loop ic15l2)))
 (.seq (.seq (.region [jz 9 0])
 (.block 4 (.loop ic15l0)))
 (.seq (.dr [[],[0],[1],[],[3],[4],[2,5],[6],[7],[8,7],[9,7],[7],[11,7],[12,7],[10,13,7],[7,14],[15,7],[16],[17,16],[18,16],[16],[20,16],[21,16],[19,22,16],[16,23],[24,16],[25],[26,25],[27,25],[25],[29,25],[30,25],[28,31,25],[25,32],[33,25],[34],[35,34],[36,34],[34],[38,34],[39,34],[37,40,34],[34,41],[42,34],[43],[44,43],[45,43],[43],[47,43],[48,43],[46,49,43],[43,50],[51,43],[52,52],[52,53],[54,53,0,1,2,3,4,5,6,7,8,9,10,11,12,13,14,15,16,17,18,19,20,21,22,23,24,25,26,27,28,29,30,31,32,33,34,35,36,37,38,39,40,41,42,43,44,45,46,47,48,49,50,51,52,53,54]] [jv 5,jq (.iaS 1) [.t 0,jn 0],jl 1,jv 5,jq (.iaS 1) [.t 3,jn 3],jl 4,jq (.bin .eql .int) [.t 2,.t 5],jt 6,jh 7 true 5,jg 7 true (.iaS 1) [.t 8,jn 1],ji 7 true 9,jh 7 true 5,jg 7 true (.iaS 1) [.t 11,jn 3],ji 7 true 12,jg 7 true (.bin .eql .int) [.t 10,.t 13],jq .pick [.t 7,.t 14,jB false],jt 15,jh 16 true 5,jg 16 true (.iaS 1) [.t 17,jn 2],ji 16 true 18,jh 16 true 5,jg 16 true (.iaS 1) [.t 20,jn 3],ji 16 true 21,jg 16 true (.bin .eql .int) [.t 19,.t 22],jq .pick [.t 16,.t 23,jB false],jt 24,jg 25 true (.fadd 0) [.v 3],ji 25 true 26,jg 25 true (.len false) [.t 27],jg 25 true (.fadd 2) [.v 1],ji 25 true 29,jg 25 true (.len false) [.t 30],jg 25 true (.bin .eql .int) [.t 28,.t 31],jq .pick [.t 25,.t 32,jB false],jt 33,jg 34 true (.fadd 1) [.v 3],ji 34 true 35,jg 34 true (.len false) [.t 36],jg 34 true (.fadd 3) [.v 1],ji 34 true 38,jg 34 true (.len false) [.t 39],jg 34 true (.bin .eql .int) [.t 37,.t 40],jq .pick [.t 34,.t 41,jB false],jt 42,jg 43 true (.fadd 2) [.v 3],ji 43 true 44,jg 43 true (.len false) [.t 45],jg 43 true (.fadd 4) [.v 1],ji 43 true 47,jg 43 true (.len false) [.t 48],jg 43 true (.bin .eql .int) [.t 46,.t 49],jq .pick [.t 43,.t 50,jB false],jt 51,jf 52 true 22 [],jq .pick [.t 52,.t 53,jB false],jm 2 54])
 .ret))))))))
abbrev rs15:List RC:=[(.v 2)]
theorem fok15 (p:Bool):FnOk Tryz.prog 15 ⟨ic15,vs15,152,rs15,p⟩:=.mk2 Tryz.func15 (by kernel_rfl) (by kernel_rfl) (by kernel_rfl) (by kernel_rfl) (by kernel_rfl)
end Go.Proofs.YtgkidpolomhghaaGreatDoor.AM
namespace Go.Proofs.YtgkidpolomhghaaGreatDoor.AM
open Go Pl
theorem typed_list {α:Type} {f:α→List CV} {p:α→Prop} {t:TypeId} (h:∀ cs,Typed Tryz.prog t cs→∃ x,cs=f x∧p x):∀ L:List (List CV),(∀ l∈L,Typed Tryz.prog t l)→∃ xs:List α,L.flatten=xs.flatMap f∧L.length=xs.length∧∀ x∈xs,p x
 | [],_=>⟨[],rfl,rfl,by simp⟩
 | l::L,hl=>by
  obtain ⟨x,h1,h2⟩:=h l (hl l (by simp))
  obtain ⟨xs,g1,g2,g3⟩:=typed_list h L fun l hh=>hl l (by simp[hh])
  exact ⟨x::xs,by simp[h1,g1],by simp[g2],by simpa using ⟨h2,g3⟩⟩
theorem get_of {α:Type} [Inhabited α] {p:α→Prop} {l:List α} (h:∀ x∈l,p x) (i:Nat) (hi:i<l.length):p l[i]! := by
 rw[getElem!_pos l i hi]
 exact h _ (Q2 hi)
theorem typed_i {cs:List CV} (h:Typed Tryz.prog 3 cs):∃ x:Int,cs=[.int .i64 x]:=by
 obtain ⟨n,rfl,_⟩:=QeV Tryz.underlying3 h
 exact ⟨n,rfl⟩
theorem typed_row {cs:List CV} (h:Typed Tryz.prog 23 cs):∃ zs:List Int,cs=[rowC zs]∧zs.length<2 ^ 63:=by
 obtain ⟨zs,h1,h2,_⟩:=typed_ints Tryz.underlying23 Tryz.underlying3 h
 exact ⟨zs,h1,h2⟩
theorem typed_les {cs:List CV} (h:Typed Tryz.prog 94 cs):∃ l:Les,cs=lesC l∧True:=by
 obtain ⟨L,rfl,hn,hf⟩:=typed_struct Tryz.underlying94 h
 match L,hn with
 | [a,b,c,d,e,f,g],_ =>
  obtain ⟨n1,rfl⟩:=typed_i (hf 0 _ a rfl rfl)
  obtain ⟨n2,rfl⟩:=typed_i (hf 1 _ b rfl rfl)
  obtain ⟨n3,rfl⟩:=typed_i (hf 2 _ c rfl rfl)
  obtain ⟨n4,rfl⟩:=typed_i (hf 3 _ d rfl rfl)
  obtain ⟨n5,rfl⟩:=typed_i (hf 4 _ e rfl rfl)
  obtain ⟨n6,rfl⟩:=typed_i (hf 5 _ f rfl rfl)
  obtain ⟨n7,rfl⟩:=typed_i (hf 6 _ g rfl rfl)
  exact ⟨⟨n1,n2,n3,n4,n5,n6,n7⟩,rfl,trivial⟩
theorem typed_dyc {cs:List CV} (h:Typed Tryz.prog 37 cs):∃ d:Dy,cs=[minR d.mi,lesR d.ls]∧DSz d:=by
 obtain ⟨L,rfl,hn,hf⟩:=typed_struct Tryz.underlying37 h
 match L,hn with
 | [a,b],_ =>
  obtain ⟨L1,rfl,n1,_,h1⟩:=QeU Tryz.underlying34 (hf 0 _ a rfl rfl)
  obtain ⟨L2,rfl,n2,_,h2⟩:=QeU Tryz.underlying35 (hf 1 _ b rfl rfl)
  obtain ⟨m,a1,a2,a3⟩:=typed_list (f:=fun zs:List Int=>[rowC zs]) (p:=fun zs=>zs.length<2 ^ 63) (fun cs h=>typed_row h) L1 h1
  obtain ⟨ls,b1,b2,_⟩:=typed_list (fun cs h=>typed_les h) L2 h2
  have hm:maxLen<2 ^ 63:=by decide
  refine ⟨⟨m,ls⟩,?_,⟨by show m.length<_;omega,by show ls.length<_;omega,get_of a3⟩⟩
  simp only[minR,lesR,F0,a1,b1,a2,b2,List.map_eq_flatMap,List.flatten_cons,List.flatten_nil,ZU,List.cons_append,List.nil_append]
theorem typed_cls {cs:List CV} (h:Typed Tryz.prog 217 cs):∃ c:Cls,cs=clsC c∧c.nm.size<2 ^ 63∧c.inc.length<2 ^ 63:=by
 obtain ⟨L,rfl,hn,hf⟩:=typed_struct Tryz.underlying217 h
 match L,hn with
 | [a,b,c,d,e],_ =>
  obtain ⟨s,rfl,h1⟩:=typed_str Tryz.underlying9 (hf 0 _ a rfl rfl)
  obtain ⟨zs,rfl,hz⟩:=typed_row (hf 1 _ b rfl rfl)
  obtain ⟨n1,rfl⟩:=typed_i (hf 2 _ c rfl rfl)
  obtain ⟨n2,rfl⟩:=typed_i (hf 3 _ d rfl rfl)
  obtain ⟨n3,rfl⟩:=typed_i (hf 4 _ e rfl rfl)
  have hm:maxLen<2 ^ 63:=by decide
  exact ⟨⟨s,zs,n1,n2,n3⟩,rfl,by show s.size<_;omega,hz⟩
theorem typed_sysc {cs:List CV} (h:Typed Tryz.prog 52 cs):∃ s:Sys,cs=[clsR s.cl,strR s.co]∧SSz s:=by
 obtain ⟨L,rfl,hn,hf⟩:=typed_struct Tryz.underlying52 h
 match L,hn with
 | [a,b],_ =>
  obtain ⟨L1,rfl,n1,_,h1⟩:=QeU Tryz.underlying49 (hf 0 _ a rfl rfl)
  obtain ⟨L2,rfl,n2,_,h2⟩:=QeU Tryz.underlying50 (hf 1 _ b rfl rfl)
  obtain ⟨cs,a1,a2,a3⟩:=typed_list (fun cs h=>typed_cls h) L1 h1
  obtain ⟨co,b1,b2,b3⟩:=typed_list (f:=fun x:ByteArray=>[CV.str x]) (p:=fun x=>x.size<2 ^ 63) (fun cs h=>by
   obtain ⟨x,rfl,hx⟩:=typed_str Tryz.underlying9 h
   have hm:maxLen<2 ^ 63:=by decide
   exact ⟨x,rfl,by omega⟩) L2 h2
  have hm:maxLen<2 ^ 63:=by decide
  refine ⟨⟨cs,co⟩,?_,⟨by show cs.length<_;omega,by show co.length<_;omega,fun i hi=>(get_of a3 i hi).1,fun i hi=>(get_of a3 i hi).2,fun i hi=>?_⟩⟩
  ·simp only[clsR,strR,DZ,a1,b1,a2,b2,List.map_eq_flatMap,List.flatten_cons,List.flatten_nil,ZU,List.cons_append,List.nil_append]
  ·have hi:i<co.length:=hi
   show (co[i]!).size<_
   rw[getElem!_pos co i hi]
   exact b3 _ (Q2 hi)
theorem typed_rg {cs:List CV} (h:Typed Tryz.prog 176 cs):∃ r:Rt,cs=rgC r∧True:=by
 obtain ⟨L,rfl,hn,hf⟩:=typed_struct Tryz.underlying176 h
 match L,hn with
 | [a,b],_ =>
  obtain ⟨n1,rfl⟩:=typed_i (hf 0 _ a rfl rfl)
  obtain ⟨n2,rfl⟩:=typed_i (hf 1 _ b rfl rfl)
  exact ⟨(n1,n2),rfl,trivial⟩
theorem typed_tch {cs:List CV} (h:Typed Tryz.prog 102 cs):∃ t:Tch,cs=tchC t∧t.rg.length<2 ^ 63:=by
 obtain ⟨L,rfl,hn,hf⟩:=typed_struct Tryz.underlying102 h
 match L,hn with
 | [a,b,c],_ =>
  obtain ⟨L1,rfl,n1,_,h1⟩:=QeU Tryz.underlying100 (hf 0 _ a rfl rfl)
  obtain ⟨l,a1,a2,_⟩:=typed_list (fun cs h=>typed_rg h) L1 h1
  obtain ⟨n1,rfl⟩:=typed_i (hf 1 _ b rfl rfl)
  obtain ⟨n2,rfl⟩:=typed_i (hf 2 _ c rfl rfl)
  have hm:maxLen<2 ^ 63:=by decide
  refine ⟨⟨l,n1,n2⟩,?_,by show l.length<_;omega⟩
  rw[a1,a2];rfl
theorem typed_car {cs:List CV} (h:Typed Tryz.prog 98 cs):∃ c:Car,cs=carC c∧True:=by
 obtain ⟨L,rfl,hn,hf⟩:=typed_struct Tryz.underlying98 h
 match L,hn with
 | [a,b],_ =>
  obtain ⟨n1,rfl⟩:=typed_i (hf 0 _ a rfl rfl)
  obtain ⟨n2,rfl⟩:=typed_i (hf 1 _ b rfl rfl)
  exact ⟨⟨n1,n2⟩,rfl,trivial⟩
theorem typed_pln {cs:List CV} (h:Typed Tryz.prog 56 cs):∃ p:Pln,avOf Tryz.prog 56 cs=plnV p∧PSz p:=by
 obtain ⟨L,rfl,hn,hf⟩:=typed_struct Tryz.underlying56 h
 match L,hn with
 | [a,b,c,d,e],_ =>
  obtain ⟨s,rfl,hs⟩:=typed_sysc (hf 0 _ a rfl rfl)
  obtain ⟨le,rfl,hle⟩:=typed_row (hf 1 _ b rfl rfl)
  obtain ⟨L1,rfl,n1,_,h1⟩:=QeU Tryz.underlying53 (hf 2 _ c rfl rfl)
  obtain ⟨L2,rfl,n2,_,h2⟩:=QeU Tryz.underlying54 (hf 3 _ d rfl rfl)
  obtain ⟨y,rfl,hy⟩:=typed_dyc (hf 4 _ e rfl rfl)
  obtain ⟨te,a1,a2,a3⟩:=typed_list (fun cs h=>typed_tch h) L1 h1
  obtain ⟨ca,b1,b2,_⟩:=typed_list (fun cs h=>typed_car h) L2 h2
  have hm:maxLen<2 ^ 63:=by decide
  refine ⟨⟨s,le,te,ca,y⟩,?_,⟨hs,hle,by show te.length<_;omega,by show ca.length<_;omega,get_of a3,hy⟩⟩
  simp only[avOf,Tryz.underlying56,a1,b1,a2,b2]
  rfl
def smF (zs:List Int):Nat→Int
 | 0=>0
 | k+1=>smF zs k+gI zs k
theorem smF_set {zs:List Int} {i:Nat} {v:Int} (hi:i<zs.length):∀ k,smF (zs.set i v) k=smF zs k+if i<k then v-gI zs i else 0
 | 0=>by simp[smF]
 | k+1=>by
  unfold smF
  rw[smF_set hi k,JO hi]
  by_cases h:k=i
  ·subst h
   rw[if_pos rfl,if_neg (by omega),if_pos (by omega)];omega
  ·rw[if_neg h]
   by_cases h2:i<k
   ·rw[if_pos h2,if_pos (by omega)];omega
   ·rw[if_neg h2,if_neg (by omega)];omega
theorem smF_zero (n:Nat):∀ k,smF (List.replicate n 0) k=0
 | 0=>rfl
 | k+1=>by
  unfold smF
  rw[smF_zero n k]
  unfold gI
  rw[YN]
  split <;> rfl
theorem smF_bd {zs:List Int} {b:Int} (h:∀ j,0≤gI zs j∧gI zs j≤b):∀ k:Nat,0≤smF zs k∧smF zs k≤b*k
 | 0=>by simp[smF]
 | k+1=>by
  have:=smF_bd h k
  have:=h k
  unfold smF
  rw[show b*((k+1:Nat):Int)=b*k+b by rw[Int.natCast_succ,Int.mul_add,Int.mul_one]]
  omega
def dsF (ls:List Les):Nat→Int
 | 0=>0
 | k+1=>dsF ls k+(ls[k]!).e-(ls[k]!).b
theorem dsF_bd {ls:List Les} (h:∀ i,i<ls.length→0≤(ls[i]!).e-(ls[i]!).b∧(ls[i]!).e-(ls[i]!).b≤1440):∀ k,k≤ls.length→0≤dsF ls k∧dsF ls k≤1440*k
 | 0,_=>by simp[dsF]
 | k+1,hk=>by
  have:=dsF_bd h k (by omega)
  have:=h k (by omega)
  unfold dsF
  omega
theorem sm_hr {f:Les→Int} {n:Nat} {ls:List Les} (hf:∀ i,i<ls.length→0≤f ls[i]!∧f ls[i]! < n):∀ k,k≤ls.length→smF (hrF f n ls k) n=dsF ls k
 | 0,_=>by unfold hrF dsF;exact smF_zero n n
 | k+1,hk=>by
  have h1:=hf k (by omega)
  have h2:=DC f n ls k
  unfold hrF dsF
  rw[smF_set (by rw[h2];omega),sm_hr hf k (by omega),if_pos (by omega)]
  omega
def svF (T:Int) (n:Nat):List Int:=[if 0<n then T else 0,if 1<n then T else 0,if 2<n then T else 0,0]
theorem svF_zero {T:Int} {n:Nat} (h:n<3):(svF T n).set n 0=svF T n:=by
 match n,h with
 | 0,_=>rfl
 | 1,_=>rfl
 | 2,_=>rfl
theorem svF_succ {T:Int} {n:Nat} (h:n<3):(svF T n).set n T=svF T (n+1):=by
 match n,h with
 | 0,_=>rfl
 | 1,_=>rfl
 | 2,_=>rfl
theorem law15 (p:Pln) (hp:PSz p):PC Tryz.prog 15 [plnV p] (.b true):=by
 have h37:=le37 p hp
 refine ⟨ZF (fok15 true) (QC rfl) ?_,rfl⟩
 simp only[ic15,WI,cellsOf,evA,simprocAttr]
 unfold hrsA at h37
 by_cases he:plnE p=0
 rotate_left
 ·have hb:(plnE p != 0)=true:=by simpa using he
  rw[if_pos he] at h37
  refine h37.call frz ?_
  simp only[hb,evA,simprocAttr]
  refine awake.call .nil ?_
  simp only[evA,simprocAttr]
  (repeat' (first | exact HL.nil | exact KS.nil | exact FrzC.nl | exact FrzC.c _ trivial | apply HL.cons | apply KS.cons | apply FrzV.agg | apply FrzV.tup | apply FrzV.c | refine FrzC.sl _ _ _ _ _ _ rfl (QC rfl) ?_))
 rw[if_neg (fun h=>h he)] at h37
 have hok:=Qdc he
 have h37:PC Tryz.prog 37 [plnV p] (.tup [.agg [ints (hrF (·.le) p.le.length p.day.ls p.day.ls.length),ints (hrF (·.te) p.te.length p.day.ls p.day.ls.length),ints (hrF (·.ca) p.ca.length p.day.ls p.day.ls.length)],.i 0]):=h37
 have hn1:=DC (·.le) p.le.length p.day.ls p.day.ls.length
 have hn2:=DC (·.te) p.te.length p.day.ls p.day.ls.length
 have hn3:=DC (·.ca) p.ca.length p.day.ls p.day.ls.length
 have h12:=hok.day.l12
 have hdur:∀ i,i<p.day.ls.length→0≤(p.day.ls[i]!).e-(p.day.ls[i]!).b∧(p.day.ls[i]!).e-(p.day.ls[i]!).b≤1440:=fun i hi=>by
  have hl:=hok.day.les i hi
  have:=hl.b0
  have:=hl.be
  have:=hl.e1
  omega
 have hb1:=fun j=>Qar (f:=(·.le)) (n:=p.le.length) hdur p.day.ls.length (QG _) j
 have hb2:=fun j=>Qar (f:=(·.te)) (n:=p.te.length) hdur p.day.ls.length (QG _) j
 have hb3:=fun j=>Qar (f:=(·.ca)) (n:=p.ca.length) hdur p.day.ls.length (QG _) j
 have ht1:smF (hrF (·.le) p.le.length p.day.ls p.day.ls.length) p.le.length=dsF p.day.ls p.day.ls.length:=sm_hr (fun i hi=>⟨(hok.day.les i hi).le.1,(hok.who i hi).1⟩) _ (QG _)
 have ht2:smF (hrF (·.te) p.te.length p.day.ls p.day.ls.length) p.te.length=dsF p.day.ls p.day.ls.length:=sm_hr (fun i hi=>⟨(hok.day.les i hi).te.1,(hok.who i hi).2.1⟩) _ (QG _)
 have ht3:smF (hrF (·.ca) p.ca.length p.day.ls p.day.ls.length) p.ca.length=dsF p.day.ls p.day.ls.length:=sm_hr (fun i hi=>⟨(hok.day.les i hi).ca.1,(hok.who i hi).2.2⟩) _ (QG _)
 have l1:=hok.le
 have l2:=hok.te
 have l3:=hok.ca
 have hds:=dsF_bd hdur
 have e1:((hrF (·.le) p.le.length p.day.ls p.day.ls.length).length:Int) == (p.le.length:Int):=by rw[hn1];simp
 have e2:((hrF (·.te) p.te.length p.day.ls p.day.ls.length).length:Int) == (p.te.length:Int):=by rw[hn2];simp
 have e3:((hrF (·.ca) p.ca.length p.day.ls p.day.ls.length).length:Int) == (p.ca.length:Int):=by rw[hn3];simp
 generalize hrF (·.le) p.le.length p.day.ls p.day.ls.length=A at *
 generalize hrF (·.te) p.te.length p.day.ls p.day.ls.length=B at *
 generalize hrF (·.ca) p.ca.length p.day.ls p.day.ls.length=C at *
 have hmk:∀ σ,XB 1 8 [.i 0] [.i 4,.i 4] σ=some (.sl σ.length 0 4 1,σ++[.cells ([(0:Int),0,0,0].map AV.i)]):=fun σ=>MP (n:=4) (by decide) σ
 refine h37.call frz ?_
 simp only[hmk,evA,simprocAttr]
 have hL:∀ n,n<3→∃ L:List Int,([ints A,ints B,ints C])[n]? = some (ints L)∧L.length≤8∧smF L L.length=dsF p.day.ls p.day.ls.length∧∀ j,0≤gI L j∧gI L j≤1440*p.day.ls.length:=fun n hn=>by
  match n,hn with
  | 0,_=>exact ⟨A,rfl,by omega,by rw[hn1];exact ht1,hb1⟩
  | 1,_=>exact ⟨B,rfl,by omega,by rw[hn2];exact ht2,hb2⟩
  | 2,_=>exact ⟨C,rfl,by omega,by rw[hn3];exact ht3,hb3⟩
 generalize hT:dsF p.day.ls p.day.ls.length=T at hL hds
 refine ZW 3 (fun n s=>∃ v8 v11 v12,s=⟨[plnV p,.ptr 0 0,.b false,.ptr 1 0,.i 0,.sl 2 0 4 1,.sl 3 0 3 1,.i n,v8,.undef,.b false,v11,v12,.undef],[.cells (plnC p),.cells [ints A,ints B,ints C],.cells ((svF T n).map AV.i),.cells [ints A,ints B,ints C]]⟩) ?_ 0 (QF _) ⟨_,_,_,rfl⟩
 rintro n s hn ⟨v8,v11,v12,rfl⟩
 by_cases hn3:n<3
 ·have hd:decide ((n:Int)<3)=true:=decide_eq_true (by omega)
  obtain ⟨L,hget,hL8,hsm,hLb⟩:=hL n hn3
  have hz:=svF_zero (T:=T) hn3
  simp only[ic15l2,hd,evA,simprocAttr]
  refine ZW L.length (fun i s=>∃ v12,s=⟨[plnV p,.ptr 0 0,.b false,.ptr 1 0,.i 0,.sl 2 0 4 1,.sl 3 0 3 1,.i n,.i i,.undef,.b false,.b true,v12,.undef],[.cells (plnC p),.cells [ints A,ints B,ints C],.cells (((svF T n).set n (smF L i)).map AV.i),.cells [ints A,ints B,ints C]]⟩) ?_ 0 (QF _) ⟨_,by show _=St.mk _ [_,_,.cells (((svF T n).set n 0).map AV.i),_];rw[hz];rfl⟩
  clear v8 v11 v12
  rintro i s hi ⟨v12,rfl⟩
  have hn4:n<4:=by omega
  have hbd:=smF_bd hLb i
  by_cases h:i<L.length
  ·have hsucc:smF L (i+1)=smF L i+gI L i:=rfl
   have hlz:((svF T n).set n (smF L i)).length=4:=by simp[svF]
   have hl0:=V1 (zs:=(svF T n).set n (smF L i)) (k:=n) (by omega)
   have hg0:((svF T n).set n (smF L i))[n]?.getD 0=smF L i:=by rw[Z2 (by simp[svF];omega)];rfl
   rw[hg0] at hl0
   have hw:IntKind.i64.wrap (smF L i+L[i]?.getD 0)=smF L (i+1):=by
    have h1:=hLb i
    rw[hsucc]
    unfold gI at h1 ⊢
    have h9:1440*(p.day.ls.length:Int)*i≤1440*12*8:=by
     have a1:(1440*(p.day.ls.length:Int))≤1440*12:=by omega
     have a2:(i:Int)≤8:=by omega
     exact Int.mul_le_mul a1 a2 (by omega) (by omega)
    exact ZC (by omega)
   have hset:((svF T n).set n (smF L i)).set n (smF L (i+1))=(svF T n).set n (smF L (i+1)):=by simp
   have hle:n+1≤((svF T n).set n (smF L i)).length:=by omega
   generalize (svF T n).set n (smF L i)=Z at *
   simp only[ic15l1,QJ,W9 hn3,W9 hn4,ZV,hget,h,evA,simprocAttr]
   refine DW_s [] [] hmix (by kernel_rfl) rfl ?_
   simp only[W9 hn3,W9 hn4,ZV,hget,hl0,J5 h,J4 h,WA,hw,ZK,hle,GC,hset,Q6 (show i+1<2 ^ 63 by omega),evA,simprocAttr]
   exact ZL (by first | trivial | omega) ⟨_,rfl⟩
  ·have hie:i=L.length:=by omega
   subst hie
   have hsu:=svF_succ (T:=T) hn3
   rw[hsm,hsu]
   simp only[ic15l1,QJ,W9 hn3,ZV,hget,h,Q6 (show n+1<2 ^ 63 by omega),evA,simprocAttr]
   exact ZL (by first | trivial | omega) ⟨_,_,_,rfl⟩
 ·have hne:n=3:=by omega
  subst hne
  rw[show svF T 3=[T,T,T,dsF p.day.ls 0] from rfl]
  have a0:∀ σ,VP 1 [.sl 2 0 4 1,.i 0] σ=some (.ptr 2 0,σ):=fun σ=>W9 (k:=0) (by decide) σ
  have a1:∀ σ,VP 1 [.sl 2 0 4 1,.i 1] σ=some (.ptr 2 1,σ):=fun σ=>W9 (k:=1) (by decide) σ
  have a2:∀ σ,VP 1 [.sl 2 0 4 1,.i 2] σ=some (.ptr 2 2,σ):=fun σ=>W9 (k:=2) (by decide) σ
  have a3:∀ σ,VP 1 [.sl 2 0 4 1,.i 3] σ=some (.ptr 2 3,σ):=fun σ=>W9 (k:=3) (by decide) σ
  simp only[ic15l2,evA,simprocAttr]
  refine ZW p.day.ls.length (fun k s=>∃ v13,s=⟨[plnV p,.ptr 0 0,.b false,.ptr 1 0,.i 0,.sl 2 0 4 1,.sl 3 0 3 1,.i 3,v8,.i k,.b false,.b false,v12,v13],[.cells (plnC p),.cells [ints A,ints B,ints C],.cells [.i T,.i T,.i T,.i (dsF p.day.ls k)],.cells [ints A,ints B,ints C]]⟩) ?_ 0 (QF _) ⟨_,rfl⟩
  rintro k s hk ⟨v13,rfl⟩
  by_cases h:k<p.day.ls.length
  ·have hd:=hds k hk
   have hl:=hok.day.les k h
   have:=hl.b0
   have:=hl.be
   have:=hl.e1
   have hw1:IntKind.i64.wrap (dsF p.day.ls k+(p.day.ls[k]!).e)=dsF p.day.ls k+(p.day.ls[k]!).e:=ZC (by omega)
   have hw2:IntKind.i64.wrap (dsF p.day.ls k+(p.day.ls[k]!).e-(p.day.ls[k]!).b)=dsF p.day.ls (k+1):=ZC (by omega)
   simp only[ic15l0,QJ,h,evA,simprocAttr]
   refine DW_s [] [] hmix (by kernel_rfl) rfl ?_
   simp only[a3,F5 h,les_3 h,les_4 h,hw1,hw2,Q6 (show k+1<2 ^ 63 by omega),evA,simprocAttr]
   exact ZL (by first | trivial | omega) ⟨_,rfl⟩
  ·have hke:k=p.day.ls.length:=by omega
   subst hke
   rw[hT]
   simp only[ic15l0,QJ,h,evA,simprocAttr]
   refine DW_s [53] [] hmix (by kernel_rfl) rfl ?_
   simp only[a0,a1,a2,a3,e1,e2,e3,beq_self_eq_true,evA,simprocAttr]
   refine YE (awake.call .nil ⟨rfl,rfl⟩) rfl ?_
   simp only[evA,simprocAttr]
   (repeat' (first | exact HL.nil | exact KS.nil | exact FrzC.nl | exact FrzC.c _ trivial | apply HL.cons | apply KS.cons | apply FrzV.agg | apply FrzV.tup | apply FrzV.c | refine FrzC.sl _ _ _ _ _ _ rfl (QC rfl) ?_))
theorem law_LessonEven (avs:List AV) (h:Args Tryz.prog Tryz.f15.params.toList avs):AC Tryz.prog 15 avs [] fun r _=>r=.b true:=by
 have h:Args Tryz.prog [56] avs:=h
 obtain ⟨cs1,avs,rfl,h1,h⟩:=args_cons h
 cases args_nil h
 obtain ⟨p,e1,hp⟩:=typed_pln h1
 rw[e1]
 exact (law15 p hp).call (by (repeat' (first | exact HL.nil | exact KS.nil | exact FrzC.nl | exact FrzC.c _ trivial | apply HL.cons | apply KS.cons | apply FrzV.agg | apply FrzV.tup | apply FrzV.c | refine FrzC.sl _ _ _ _ _ _ rfl (QC rfl) ?_))) rfl
end Go.Proofs.YtgkidpolomhghaaGreatDoor.AM

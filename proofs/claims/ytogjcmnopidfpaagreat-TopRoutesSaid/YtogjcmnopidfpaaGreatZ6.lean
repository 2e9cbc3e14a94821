/- Parts of the proof, joined: AmT to AmEc. -/
import Derived.RangeFuncNested
import Derived.Test.YtogjcmnopidfpaaGreatZ5
set_option linter.unusedVariables false
set_option linter.unusedSimpArgs false
set_option linter.unusedSectionVars false
namespace Go.Proofs.YtogjcmnopidfpaaGreat.AM
variable [Dr]
open Go
variable {P:Program} {fx:Fx} {m:LM} {X:Nat→Prop} {en:En} {w:World} {s:St} {Q:Exit→St→Prop}
theorem HRel.alloc0 {σ:List AObj} (h:HRel m X σ w) (o:Obj):HRel m X σ (w.alloc o)∧Step σ.length m X w m (w.alloc o)∧Mono m X w m X (w.alloc o):=by
 have hs:Step σ.length m X w m (w.alloc o) :=
  ⟨fun _ _=>rfl,fun l b hb=>.inl ⟨l,hb⟩,by simp,fun b hb _=>heap_alloc_old w o hb,fun b c e hb=>⟨c,by rw[heap_alloc_old w o (lt_of_heap hb)];exact hb,rfl⟩,rfl,rfl,rfl,fun _=>QG _⟩
 have hm:=h.mono_of_step hs (QG _)
 refine ⟨⟨fun b hb=>?_,fun l b hb=>?_,h.own,h.inj,fun l o1 ho=>?_,h.gl.mono hm⟩,hs,hm⟩
 ·have:=h.xb b hb;simp;omega
 ·have:=h.dom l b hb;exact ⟨this.1,by simp;omega⟩
 ·have:=h.obj l o1 ho
  cases hml:m l with
  | none=>rw[hml] at this;cases o1 <;> simp[ORel] at this ⊢
  | some b=>rw[hml] at this;exact ORel.mono hm (heap_alloc_old w o (h.dom l b hml).2) this
def VJ (fx:Fx) (vals:List AV) (ps:Array Nat) (assign body:Code):XC :=
 {state:=.ready,pending:=none,vars:=fx.vars,ntmps:=fx.N,vals,params:=ps.toList,assign,body }
def U9 (P:Program) (fx:Fx) (vals:List AV) (l:Nat) (Q:Exit→St→Prop) (σ':List AObj):Prop :=
 ∃ r2,σ'[l]? = some (.loop r2)∧r2.state≠.busy∧match r2.pending with
  | none=>Q .normal ⟨vals,setLoop σ' l r2 .exhausted none⟩
  | some c=>W P fx c ⟨vals,setLoop σ' l r2 .exhausted (some c)⟩ Q
theorem N6 {g:Operand} {ps:Array Nat} {assign body:Code} {gf:FuncId} {cap:List AV} {opd:Opd} (hgo:XA fx.vars [] g=opd) (hg:WY s.vals [] opd=.fn (.func gf) cap) (hvl:s.vals.length≤fx.vars.length)
  (hr0:∀ l0,fx.r=some l0→∃ r0,s.heap[l0]? = some (.loop r0))
  (h:AC P gf (.yld s.heap.length::cap) (s.heap++[.loop (VJ fx s.vals ps assign body)]) fun _ σ'=>U9 P fx s.vals s.heap.length Q σ') :
  W P fx (.rangeFunc g ps assign body) s Q:=by
 intro m X en ac w hs hr
 have hgv:VRel m X w (.fn (.func gf) cap) (ac.eval g):=by
  have:=U7 (ops:=[]) (ρ:=[]) (ds:=ac.defers) (tmps:=ac.tmps) hs.heap.gl hs.vars (fun j t hj _=>by simp at hj) g
  simp only[WS] at this
  rw[hgo,hg] at this;exact this
 simp only[VRel] at hgv
 obtain ⟨vs,hge,hcap⟩:=hgv
 refine wpIn_rangeFunc ?_
 intro fn hfn
 have rest:∀ (w1:World) (mark:List Deferred) (d:Nat),HRel m X s.heap w1→Step s.heap.length m X w m w1→Mono m X w m X w1→DRel m X en w1 (mark++ac.defers) →
   ∀ w2,w2=w1.alloc (.loop { state:=.ready,pending:=none,fn,tmps:=ac.tmps,params:=ps,assign,body,defers:=d }) →
   ∃ (dd:Deferred) (w₁':World) (f:FuncId) (args:Array Value) (w₂:World),
   (resolve ac.eval (rangeCall g w1.heap.size) 0).run P w2=.ok dd w₁'∧(∀ f',Target.leads P w₁' dd.target dd.args=some f'→(fen m fx.r).fn f')∧(invoke dd.target dd.args).run P w₁'=.ok (.enter f args) w₂ ∧
   ((fen m fx.r).depth.isSome=true→1≤0)∧CallsIn (fen m fx.r) (0-1) P f args w₂ (rangePost (fen m fx.r) 0 P w1.heap.size (Lift fx m X en w Q) { ac with defers:=mark++ac.defers }):=by
  intro w1 mark d hh1 hst1 hm1 hd1 w2 hw2
  obtain ⟨k1,k2,k3⟩:=hh1.alloc (.loop { state:=.ready,pending:=none,fn,tmps:=ac.tmps,params:=ps,assign,body,defers:=d }) (.loop (VJ fx s.vals ps assign body)) (fun hm=>by
   simp only[ORel,VJ]
   exact ⟨ac.tmps,d,fn,hs.size,(hs.vars.mono hm1).mono hm,by rw[heap_alloc_new],hvl,fun f h=>by cases h⟩)
  rw[← hw2] at k1 k2 k3
  have hst2:=hst1.trans k2
  refine ⟨{ target:=.fn (.func gf) vs.toArray,args:=#[.func (.yield w1.heap.size) #[] #[]] },w2,gf,(Value.func (.yield w1.heap.size) #[] #[]::vs).toArray,w2,?_,fun _ _=>trivial,?_,by simp[fen,Fence.wide],?_⟩
  ·have:Act.eval ac (.const (.func (.yield w1.heap.size) #[] #[]))=.func (.yield w1.heap.size) #[] #[]:=rfl
   simp[resolve,rangeCall,hge,Deferred.ofValue,this]
  ·simp only[invoke];rw[h.1];simp
  ·have hcall:=h.2 _ X w2 (Value.func (.yield w1.heap.size) #[] #[]::vs) (by
    simp only[QK,VRel]
    exact ⟨⟨w1.heap.size,LM.put_same _ _ _,rfl⟩,(hcap.mono hm1).mono k3⟩) k1
   refine CallsIn.mono (F:=fen m fx.r) (n:=0) hcall ?_
   rintro e w3 ⟨c,rv,σ',m',rfl,⟨r2,hl2,hnb,hq⟩,hv,hh3,hst3,hle⟩
   simp only[rangePost]
   have hlt:s.heap.length<(s.heap++[AObj.loop (VJ fx s.vals ps assign body)]).length:=by simp
   have hb3:m' s.heap.length=some w1.heap.size:=by rw[hst3.keep _ hlt];exact LM.put_same _ _ _
   have hmono3:=k1.mono_of_step hst3 (QG _)
   obtain ⟨tm2,d2,fi2,v1,v2,v3,v4⟩:∃ (tmps:Array Value) (d fi:Nat),tmps.size=r2.ntmps∧ARel m' X w3 r2.vars r2.vals tmps∧w3.heap[w1.heap.size]? = some (.loop { state:=r2.state,pending:=r2.pending,fn:=fi,tmps,params:=r2.params.toArray,assign:=r2.assign,body:=r2.body,defers:=d })∧r2.vals.length≤r2.vars.length∧∀ f,r2.fi=some f→fi=f:=by
    have:=hh3.obj _ _ hl2;rw[hb3] at this;simpa only[ORel] using this
   refine ⟨r2.pending,_,run_endLoop v3 hnb,?_⟩
   obtain ⟨x1,x2,x3⟩:=hh3.setLoop hb3 hl2 v3 .exhausted r2.pending
   have hst4:Step fx.n0 m X w m' (w3.putObj w1.heap.size (.loop { ({ state:=r2.state,pending:=r2.pending,fn:=fi2,tmps:=tm2,params:=r2.params.toArray,assign:=r2.assign,body:=r2.body,defers:=d2 }:Loop) with state:=.exhausted })):=by
    have hb:=hs.base
    have a1:=hst2.less hb
    have a2:=hst3.less (show fx.n0≤(s.heap++[AObj.loop (VJ fx s.vals ps assign body)]).length by simp;omega)
    have a3:=x2.less (show fx.n0≤σ'.length by simp at hle;omega)
    exact (a1.trans a2).trans a3
   have hs4:SRel fx m' X en ⟨s.vals,AM.setLoop σ' s.heap.length r2 .exhausted r2.pending⟩ { ac with defers:=mark++ac.defers } (w3.putObj w1.heap.size (.loop { ({ state:=r2.state,pending:=r2.pending,fn:=fi2,tmps:=tm2,params:=r2.params.toArray,assign:=r2.assign,body:=r2.body,defers:=d2 }:Loop) with state:=.exhausted })):=by
    refine ⟨hs.size,((((hs.vars.mono hm1).mono k3).mono hmono3).mono x3),?_,x1,?_,?_⟩
    ·exact ((hd1.step k2).step hst3).step x2
    ·have:=hs.base;simp[AM.setLoop] at hle ⊢;omega
    ·have:=hs.entry;have h1:=hst1.size;have h2:=k2.size;have h3:=hst3.size;simp;omega
   cases hp:r2.pending with
   | none =>
    rw[hp] at hq hs4 hst4
    dsimp only
    exact ⟨_,m',hq,hs4,hst4⟩
   | some cj =>
    rw[hp] at hq hs4 hst4
    dsimp only at hq ⊢
    exact W.later hq hr hs4 hst4
 cases hfr:fx.r with
 | none =>
  obtain ⟨a1,a2,a3⟩:=hs.heap.alloc0 (.deferred (some []))
  have hd1:DRel m X en (w.alloc (.deferred (some []))) ([{ target:=.collected w.heap.size,args:=#[] }]++ac.defers):=by
   obtain ⟨bs,g1,g2,g3⟩:=hs.defs.step a2
   refine ⟨w.heap.size::bs,by simp[g1],?_,?_⟩
   ·refine WQ.2 ⟨fun hmem=>?_,g2⟩
    obtain ⟨bs0,q1,q2,q3⟩:=hs.defs
    have:bs0=bs:=by
     have e:=q1.symm.trans g1
     have inj:∀ (x y:List Nat),x.map (fun b=>({ target:=.collected b,args:=#[] }:Deferred))=y.map (fun b=>{ target:=.collected b,args:=#[] })→x=y:=by
      intro x
      induction x with
      | nil=>intro y hy;cases y with
       | nil=>rfl
       | cons=>simp at hy
      | cons a x ih=>intro y hy;cases y with
       | nil=>simp at hy
       | cons b y=>simp at hy;rw[hy.1,ih y (by simpa using hy.2)]
     exact inj _ _ (List.append_cancel_right e)
    subst this
    have:=(q3 _ hmem).2.1;omega
   ·intro b hb
    rcases ZD.1 hb with rfl | hb
    ·refine ⟨hs.entry,by simp,heap_alloc_new _ _,?_⟩
     rintro (hx | ⟨l,hl⟩)
     ·have:=hs.heap.xb _ hx;omega
     ·have:=(hs.heap.dom l _ hl).2;omega
    ·exact g3 b hb
  obtain ⟨dd,w₁',f,args,w₂,r1,r2,r3,r4,r5⟩:=rest (w.alloc (.deferred (some []))) [{ target:=.collected w.heap.size,args:=#[] }] w.heap.size a1 a2 a3 hd1 _ rfl
  have hsz:(w.alloc (.deferred (some []))).heap.size=w.heap.size+1:=by simp
  rw[hsz] at r1 r5
  rw[hfr] at r2 r4 r5
  have hro:(fen m none).round=none:=rfl
  refine ⟨w.heap.size+1,[{ target:=.collected w.heap.size,args:=#[] }],_,dd,w₁',f,args,w₂,?_,r1,r2,r3,r4,r5⟩
  rw[hro];exact run_enterLoop_outer fn ac.tmps ps assign body
 | some l0 =>
  obtain ⟨r0,hl0⟩:=hr0 l0 hfr
  obtain ⟨hl0n,b0,hb0⟩:=hr l0 hfr
  obtain ⟨tm0,d0,fi0,v1,v2,v3,v4⟩:=hs.heap.loop hb0 hl0
  have hro:(fen m (some l0)).round=some b0:=by simp[fen,hb0]
  obtain ⟨dd,w₁',f,args,w₂,r1,r2,r3,r4,r5⟩:=rest w [] d0 hs.heap (Step.refl _ _ _ _) (Mono.refl _ _ _) (by simpa using hs.defs) _ rfl
  rw[hfr] at r2 r4 r5
  refine ⟨w.heap.size,[],_,dd,w₁',f,args,w₂,?_,r1,r2,r3,r4,r5⟩
  rw[hro];exact run_enterLoop_inner v3 fn ac.tmps ps assign body
abbrev nom:LM:=fun _=>none
end Go.Proofs.YtogjcmnopidfpaaGreat.AM
namespace Go.Proofs.YtogjcmnopidfpaaGreat.AM
variable [Dr]
open Go
def kindOf:IOp→Nat
 | .mv | .pick | .not | .bin _ _ | .conv _ | .build _ _ | .nilck | .mkfn _ | .mkbm _ | .eqS _ _ | .slS _ _ _ | .slStr _ _ | .fadd _ | .fld _ _ _ | .iaA _ _ | .iaS _ | .ixA _ _ _ _ | .ixStr | .extract _ | .len _ | .min2 | .max2 | .slS3 | .cap=>0
 | .load1 | .loadN _ | .slA _ _ _ _ | .lookup _ _ _ | .maplen=>1
 | _=>2
theorem KF {io:IOp} {as_:List AV} {σ σ':List AObj} {r:AV} (hk:kindOf io=0) (h:ZQ io as_ σ=some (r,σ')):σ'=σ∧∀ τ,ZQ io as_ τ=some (r,τ):=by
 cases io <;> (try (cases hk;done)) <;> simp only[ZQ] at h ⊢
 case mv=>unfold f_mv at h ⊢;split at h <;> cases h;exact ⟨rfl,fun _=>rfl⟩
 case pick=>unfold P4 at h ⊢;split at h <;> cases h;exact ⟨rfl,fun _=>rfl⟩
 case not=>unfold CN at h ⊢;split at h <;> cases h;exact ⟨rfl,fun _=>rfl⟩
 case bin=>unfold OJ at h ⊢;split at h <;> simp only[QA,reduceCtorEq] at h <;> (obtain ⟨v,hv,he⟩:=h;cases he;exact ⟨rfl,fun _=>by simp[hv]⟩)
 case conv=>unfold P5 at h ⊢;split at h <;> cases h;exact ⟨rfl,fun _=>rfl⟩
 case build=>unfold DL at h ⊢;simp only[QA] at h ⊢;obtain ⟨v,hv,he⟩:=h;cases he;exact ⟨rfl,fun _=>⟨v,hv,rfl⟩⟩
 case nilck=>unfold G4 at h ⊢;split at h <;> cases h <;> exact ⟨rfl,fun _=>rfl⟩
 case mkfn=>unfold NI at h ⊢;cases h;exact ⟨rfl,fun _=>rfl⟩
 case mkbm=>unfold NJ at h ⊢;cases h;exact ⟨rfl,fun _=>rfl⟩
 case slS =>
  unfold VG at h ⊢
  split at h <;> simp only[QB,reduceCtorEq] at h
  all_goals
   obtain ⟨⟨a,b⟩,hb,h⟩:=h
   simp only at h
   split at h <;> try (cases h;done)
  ·rename_i hc
   split at h
   ·rename_i h2;cases h;exact ⟨rfl,fun _=>by simp only[hb,Option.bind_some];rw[if_pos hc,if_pos h2]⟩
   ·rename_i h2;cases h;exact ⟨rfl,fun _=>by simp only[hb,Option.bind_some];rw[if_pos hc,if_neg h2]⟩
  ·rename_i hc;cases h;exact ⟨rfl,fun _=>by simp only[hb,Option.bind_some];rw[if_pos hc]⟩
  ·rename_i hc;cases h;exact ⟨rfl,fun _=>by simp only[hb,Option.bind_some];rw[if_pos hc]⟩
  ·rename_i hc
   split at h
   ·rename_i h2;cases h;exact ⟨rfl,fun _=>by simp only[hb,Option.bind_some];rw[if_pos hc,if_pos h2]⟩
   ·rename_i h2;cases h;exact ⟨rfl,fun _=>by simp only[hb,Option.bind_some];rw[if_pos hc,if_neg h2]⟩
 case slStr =>
  unfold LN at h ⊢
  split at h <;> simp only[QB,reduceCtorEq] at h
  obtain ⟨⟨a,b⟩,hb,h⟩:=h
  simp only at h
  split at h <;> try (cases h;done)
  rename_i hc;cases h;exact ⟨rfl,fun _=>by simp only[hb,Option.bind_some];rw[if_pos hc]⟩
 case fadd=>unfold DK at h ⊢;split at h <;> cases h <;> exact ⟨rfl,fun _=>rfl⟩
 case fld =>
  unfold OH at h ⊢;split at h <;> try (cases h;done)
  ·split at h <;> cases h;rename_i hc;exact ⟨rfl,fun _=>by rw[if_pos hc]⟩
  ·simp only[QA] at h;obtain ⟨v,hv,he⟩:=h;cases he;exact ⟨rfl,fun _=>by simp[hv]⟩
 case iaA=>unfold PD at h ⊢;split at h <;> (try (cases h;done)) <;> (split at h <;> cases h;rename_i hc;exact ⟨rfl,fun _=>by rw[if_pos hc]⟩)
 case iaS=>unfold VP at h ⊢;split at h <;> (try (cases h;done)) <;> (split at h <;> cases h;rename_i hc;exact ⟨rfl,fun _=>by rw[if_pos hc]⟩)
 case ixA =>
  unfold A7 at h ⊢;split at h <;> try (cases h;done)
  ·split at h <;> cases h;rename_i hc;exact ⟨rfl,fun _=>by rw[if_pos hc]⟩
  ·split at h <;> (try (cases h;done));rename_i hc;simp only[QA] at h;obtain ⟨v,hv,he⟩:=h;cases he;exact ⟨rfl,fun _=>by rw[if_pos hc];simp[hv]⟩
 case ixStr=>unfold G5 at h ⊢;split at h <;> (try (cases h;done));split at h <;> (try (cases h;done));rename_i hc;simp only[QA] at h;obtain ⟨v,hv,he⟩:=h;cases he;exact ⟨rfl,fun _=>by rw[if_pos hc];simp[hv]⟩
 case extract=>unfold U6 at h ⊢;split at h <;> (try (cases h;done));simp only[QA] at h;obtain ⟨v,hv,he⟩:=h;cases he;exact ⟨rfl,fun _=>by simp[hv]⟩
 case len=>unfold RZ at h ⊢;split at h <;> cases h <;> exact ⟨rfl,fun _=>rfl⟩
 case min2=>unfold DJ at h ⊢;split at h <;> (try (cases h;done));split at h <;> cases h;rename_i hc;exact ⟨rfl,fun _=>by rw[if_pos hc]⟩
 case max2=>unfold GT at h ⊢;split at h <;> (try (cases h;done)) <;> (split at h <;> cases h;rename_i hc;exact ⟨rfl,fun _=>by rw[if_pos hc]⟩)
 case eqS=>unfold OI at h ⊢;split at h <;> (try (cases h;done));simp only[QA] at h ⊢;obtain ⟨v,hv,he⟩:=h;cases he;exact ⟨rfl,fun _=>⟨v,hv,rfl⟩⟩
 case slS3=>unfold TR at h ⊢;split at h <;> (try (cases h;done)) <;> (simp only[QB] at h;first | (obtain ⟨a,ha,b,hb,c,hc,h⟩:=h;split at h <;> (try (cases h;done));rename_i hcc;cases h;exact ⟨rfl,fun _=>by simp only[ha,hb,hc,Option.bind_some];rw[if_pos hcc]⟩) | (obtain ⟨b,hb,c,hc,h⟩:=h;split at h <;> (try (cases h;done));rename_i hcc;cases h;exact ⟨rfl,fun _=>by simp only[hb,hc,Option.bind_some];rw[if_pos hcc]⟩))
 case cap=>unfold NZ at h ⊢;split at h <;> cases h;exact ⟨rfl,fun _=>rfl⟩
theorem GB {io:IOp} {as_:List AV} {σ σ':List AObj} {r:AV} (hk:kindOf io=1) (h:ZQ io as_ σ=some (r,σ')):σ'=σ:=by
 cases io <;> (try (cases hk;done)) <;> simp only[ZQ] at h
 case load1 =>
  unfold KZ at h;split at h <;> (try (cases h;done))
  ·simp only[QB,QA] at h;obtain ⟨_,_,_,_,he⟩:=h;cases he;rfl
  ·simp only[QA] at h;obtain ⟨_,_,he⟩:=h;cases he;rfl
 case loadN =>
  unfold YF at h;split at h <;> (try (cases h;done))
  ·simp only[QB] at h;obtain ⟨_,_,h⟩:=h;split at h <;> cases h;rfl
  ·split at h <;> cases h;rfl
 case slA=>unfold OG at h;split at h <;> (try (cases h;done));simp only[QB] at h;obtain ⟨_,_,_,_,h⟩:=h;split at h <;> cases h;rfl
 case lookup=>unfold KL at h;split at h <;> (try (cases h;done));simp only[QB] at h;obtain ⟨_,_,h⟩:=h;split at h <;> (try (cases h;done));simp only[QA] at h;obtain ⟨_,_,he⟩:=h;cases he;rfl
 case maplen=>unfold TS at h;split at h <;> (try (cases h;done));simp only[QA] at h;obtain ⟨_,_,he⟩:=h;cases he;rfl
theorem Z8 {k:Nat}:∀ {vs:List AV},QO k vs=true↔∀ v∈vs,QR k v=true
 | []=>by simp[QO]
 | v::vs=>by simp[QO,Z8 (vs:=vs)]
theorem XM {k n:Nat} {vs:List AV} (h:QO k vs=true):QO k (vs.take n)=true :=
 Z8.2 fun v hv=>Z8.1 h v (List.mem_of_mem_take hv)
theorem JV {k n:Nat} {vs:List AV} (h:QO k vs=true):QO k (vs.drop n)=true :=
 Z8.2 fun v hv=>Z8.1 h v (List.mem_of_mem_drop hv)
theorem VN {k:Nat} {vs us:List AV} (h:QO k vs=true) (h':QO k us=true):QO k (vs++us)=true :=
 Z8.2 fun v hv=>(YV.1 hv).elim (Z8.1 h v) (Z8.1 h' v)
theorem I5 {k:Nat} (cs:List CV):QO k (cs.map .cv)=true :=
 Z8.2 fun v hv=>by obtain ⟨c,_,rfl⟩:=ZP.1 hv;rfl
theorem R9 {k i:Nat} {vs:List AV} {v:AV} (h:QO k vs=true) (hv:QR k v=true):QO k (vs.set i v)=true :=
 Z8.2 fun u hu=>by
  rcases List.mem_or_eq_of_mem_set hu with h1 | rfl
  ·exact Z8.1 h u h1
  ·exact hv
theorem X5 {k:Nat}:∀ {us vs:List AV} {off:Nat},QO k vs=true→QO k us=true→QO k (setRange vs off us)=true
 | [],vs,off,h,_=>by simpa[setRange] using h
 | u::us,vs,off,h,h'=>by
  simp only[QO,QD] at h'
  simp only[setRange]
  exact X5 (R9 h h'.1) h'.2
theorem HI {k:Nat} {v:AV} (h:QR k v=true):QO k (cellsOf v)=true:=by
 cases v <;> simp_all [cellsOf,QR,QO]
theorem H6 {k i:Nat} {vs:List AV} {v:AV} (h:QO k vs=true) (hv:vs[i]? = some v):QR k v=true:=Z8.1 h v (QZ hv)
theorem KU {k n:Nat} {zs:List AV} (h:QO k zs=true):QO k (YW n zs)=true:=by
 unfold YW
 split
 ·rename_i z
  exact Z8.2 fun v hv=>by rw[(List.mem_replicate.1 hv).2];simpa[QO] using h
 ·exact Z8.2 fun v hv=>by obtain ⟨i,_,rfl⟩:=ZP.1 hv;exact XO h _
theorem FZ {k:Nat}:∀ {ps:List (Nat × Nat)} {vs zs cs:List AV},HW zs ps vs=some cs→QO k zs=true→QO k vs=true→QO k cs=true
 | [],[],zs,cs,h,hz,_=>by simp[HW] at h;subst h;exact hz
 | (off,n)::ps,v::vs,zs,cs,h,hz,hv=>by
  simp only[QO,QD] at hv
  simp only[HW] at h
  split at h
  ·exact FZ h (X5 hz (HI hv.1)) hv.2
  ·cases h
 | [],_::_,_,_,h,_,_=>by simp[HW] at h
 | _::_,[],_,_,h,_,_=>by simp[HW] at h
theorem Qdb {a b:Nat} (hab:a≤b) {v:AV} (h:QR a v=true):QR b v=true:=Y8 hab v h
theorem YL {a b:Nat} (hab:a≤b) {v:List AV} (h:QO a v=true):QO b v=true:=XN hab v h
def ioCl:IOp→Bool
 | .alloc zs | .clear zs | .build zs _ | .bslice _ _ zs _ | .mkslice _ _ zs | .mksliceC _ _ zs | .appendz _ _ zs=>QO 0 zs
 | .lookup _ z _=>QR 0 z
 | _=>true
def Cl (σ:List AObj):Prop:=∀ (l:Nat) o,σ[l]? = some o→Z3 σ.length o=true
theorem Cl.row {σ:List AObj} (h:Cl σ) {l:Nat} {cs:List AV} (hr:rowOf σ l=some cs):QO σ.length cs=true∧l<σ.length:=by
 unfold rowOf at hr
 split at hr
 ·rename_i cs' ho;cases hr
  exact ⟨h l _ ho,(QH.1 ho).1⟩
 ·cases hr
theorem Cl.mapOf {σ:List AObj} (h:Cl σ) {l:Nat} {es:List (AV × AV)} (hr:mapOf σ l=some es):(∀ e∈es,QR σ.length e.1=true∧QR σ.length e.2=true)∧l<σ.length:=by
 unfold AM.mapOf at hr
 split at hr
 ·rename_i cs' ho;cases hr
  have:=h l _ ho
  simp only[Z3,Q1,QD] at this
  exact ⟨this,(QH.1 ho).1⟩
 ·cases hr
theorem Cl.set {σ:List AObj} (h:Cl σ) (l:Nat) {o:AObj} (ho:Z3 σ.length o=true):Cl (σ.set l o):=by
 intro x o' hx
 rw[ZO] at hx
 rw[WE]
 split at hx
 ·split at hx
  ·cases hx;exact ho
  ·cases hx
 ·exact h x o' hx
theorem Cl.push {σ:List AObj} (h:Cl σ) {o:AObj} (ho:Z3 (σ.length+1) o=true):Cl (σ++[o]):=by
 intro x o' hx
 rw[QM,List.length_singleton]
 rcases ZB x σ.length with hlt | hge
 ·rw[QE hlt] at hx
  exact H1 _ _ o' (XE _) (h x o' hx)
 ·rw[QS hge] at hx
  have:x-σ.length=0:=by
   have:=(QH.1 hx).1
   simp at this;omega
  rw[this] at hx;simp at hx;subst hx;exact ho
theorem D7 {σ:List AObj} (h:Cl σ) {esz:Nat} {x:AV} {new:List AV} (hs:Z9 σ esz x=some new):QO σ.length new=true:=by
 unfold Z9 at hs
 split at hs
 ·cases hs;rfl
 ·split at hs <;> cases hs;exact I5 _
 ·split at hs
  ·simp only[QB] at hs
   obtain ⟨cs,hcs,hs⟩:=hs
   split at hs <;> cases hs
   exact XM (JV (h.row hcs).1)
  ·cases hs
 ·split at hs <;> cases hs
  exact Z8.2 fun v hv=>by obtain ⟨c,_,rfl⟩:=ZP.1 hv;rfl
 ·split at hs
  ·simp only[QB] at hs
   obtain ⟨cs,hcs,hs⟩:=hs
   split at hs <;> cases hs
   exact XM (JV (h.row hcs).1)
  ·cases hs
 ·cases hs
theorem A6 {k:Nat} {ks:Bool × List KK} {key:AV}:∀ {es:List (AV × AV)} {i:Nat} {r:Option (Nat × AV)},(∀ e∈es,QR k e.1=true∧QR k e.2=true)→findKey ks key es i=some r→∀ p,r=some p→QR k p.2=true
 | [],i,r,_,h,p,hp=>by simp[findKey] at h;subst h;cases hp
 | (k',v)::es,i,r,he,h,p,hp=>by
  simp only[findKey] at h
  split at h
  ·cases h;cases hp;exact (he (k',v) (by simp)).2
  ·exact A6 (fun e hh=>he e (by simp[hh])) h p hp
  ·cases h
theorem BM {io:IOp} {as_:List AV} {σ σ':List AObj} {r:AV} (hcl:ioCl io=true) (ha:QO σ.length as_=true) (hσ:Cl σ) (h:ZQ io as_ σ=some (r,σ')):QR σ'.length r=true∧Cl σ':=by
 cases io <;> simp only[ZQ] at h
 case mv=>unfold f_mv at h;split at h <;> cases h;simp only[QO,WH] at ha;exact ⟨ha,hσ⟩
 case pick=>unfold P4 at h;split at h <;> cases h;simp only[QO,WH,QD] at ha;exact ⟨by split;exact ha.2.1;exact ha.2.2,hσ⟩
 case not=>unfold CN at h;split at h <;> cases h;exact ⟨rfl,hσ⟩
 case bin op tk =>
  unfold OJ at h;split at h
  rotate_left
  ·simp only[QA] at h;obtain ⟨v,hv,he⟩:=h;cases he
   refine ⟨?_,hσ⟩
   unfold binI at hv;split at hv <;> first | (cases hv;rfl;done) | (split at hv <;> cases hv;rfl) | cases hv
  ·cases h
  simp only[QA] at h;obtain ⟨v,hv,he⟩:=h;cases he
  refine ⟨?_,hσ⟩
  unfold binF at hv
  split at hv
  ·split at hv
   ·unfold VK at hv;split at hv <;> (try (cases hv;done));split at hv <;> cases hv <;> rfl
   ·split at hv <;> (try (cases hv;done));unfold binI at hv;split at hv <;> first | (cases hv;rfl;done) | (split at hv <;> cases hv;rfl) | cases hv
  all_goals first | (unfold K8 at hv;split at hv <;> cases hv <;> rfl;done) | (unfold binS at hv;split at hv <;> first | (cases hv;rfl;done) | (split at hv <;> cases hv;rfl) | cases hv) | cases hv
 case conv=>unfold P5 at h;split at h <;> cases h;exact ⟨rfl,hσ⟩
 case alloc zs=>unfold UO at h;split at h <;> cases h;exact ⟨by simp[QR],hσ.push (YL (QF _) hcl)⟩
 case box =>
  unfold WI at h;split at h <;> (try (cases h;done));split at h <;> cases h
  simp only[QO,WH] at ha
  exact ⟨by simp[QR],hσ.push (YL (XE _) (HI ha))⟩
 case build zs ps =>
  unfold DL at h;simp only[QA] at h;obtain ⟨v,hv,he⟩:=h;cases he
  exact ⟨FZ hv (YL (QF _) hcl) ha,hσ⟩
 case bslice esz len zs ps =>
  unfold V4 at h;simp only[QA] at h;obtain ⟨v,hv,he⟩:=h;cases he
  exact ⟨by simp[QR],hσ.push (YL (XE _) (FZ hv (YL (QF _) hcl) ha))⟩
 case load1 =>
  unfold KZ at h;split at h <;> (try (cases h;done))
  ·simp only[QB,QA] at h;obtain ⟨cs,hcs,v,hv,he⟩:=h;cases he;exact ⟨H6 (hσ.row hcs).1 hv,hσ⟩
  ·simp only[QA] at h;obtain ⟨_,_,he⟩:=h;cases he;exact ⟨rfl,hσ⟩
 case loadN n =>
  unfold YF at h;split at h <;> (try (cases h;done))
  ·simp only[QB] at h;obtain ⟨cs,hcs,h⟩:=h;split at h <;> cases h;exact ⟨XM (JV (hσ.row hcs).1),hσ⟩
  ·split at h <;> cases h
   refine ⟨?_,hσ⟩
   simp only[QR];exact I5 _
 case store n =>
  unfold UM at h;split at h <;> (try (cases h;done));simp only[QB] at h;obtain ⟨cs,hcs,h⟩:=h;split at h <;> cases h
  simp only[QO,WH,QD] at ha
  exact ⟨rfl,hσ.set _ (X5 (hσ.row hcs).1 (HI ha.2))⟩
 case nilck=>unfold G4 at h;split at h <;> cases h <;> (simp only[QO,WH] at ha;exact ⟨ha,hσ⟩)
 case mkfn=>unfold NI at h;cases h;exact ⟨ha,hσ⟩
 case mkbm=>unfold NJ at h;cases h;exact ⟨ha,hσ⟩
 case mkmap=>unfold KY at h;split at h <;> cases h;exact ⟨by simp[QR],hσ.push rfl⟩
 case mkslice esz bytes zs=>unfold XB at h;split at h <;> (try (cases h;done));split at h <;> cases h;exact ⟨by simp[QR],hσ.push (KU (YL (QF _) hcl))⟩
 case slA n esz lo hi =>
  unfold OG at h;split at h <;> (try (cases h;done));simp only[QB] at h;obtain ⟨cs,hcs,p,hp,h⟩:=h;split at h <;> cases h
  exact ⟨by simp[QR,(hσ.row hcs).2],hσ⟩
 case slS esz lo hi =>
  unfold VG at h;split at h <;> (try (cases h;done)) <;> simp only[QB] at h <;> obtain ⟨p,hp,h⟩:=h <;> (try simp only at h) <;> split at h <;> (try (cases h;done))
  ·simp only[QO,QD,QR] at ha
   split at h <;> cases h
   ·exact ⟨rfl,hσ⟩
   ·exact ⟨by simpa[QR] using ha.1,hσ⟩
  ·cases h;exact ⟨rfl,hσ⟩
  ·cases h;exact ⟨rfl,hσ⟩
  ·simp only[QO,QD,QR] at ha
   split at h <;> cases h
   ·exact ⟨by simpa[QR] using ha.1,hσ⟩
   ·exact ⟨by simpa[QR] using ha.1,hσ⟩
 case slStr lo hi =>
  unfold LN at h;split at h <;> (try (cases h;done));simp only[QB] at h;obtain ⟨p,hp,h⟩:=h;(try simp only at h);split at h <;> cases h;exact ⟨rfl,hσ⟩
 case fadd off=>unfold DK at h;split at h <;> cases h <;> (simp only[QO,WH,QR] at ha;first | exact ⟨rfl,hσ⟩ | exact ⟨by simpa[QR] using ha,hσ⟩)
 case fld off n agg =>
  unfold OH at h;split at h <;> (try (cases h;done)) <;> simp only[QO,WH,QR] at ha
  ·split at h <;> cases h;exact ⟨XM (JV ha),hσ⟩
  ·simp only[QA] at h;obtain ⟨v,hv,he⟩:=h;cases he;exact ⟨H6 ha hv,hσ⟩
 case iaA len esz=>unfold PD at h;split at h <;> (try (cases h;done)) <;> simp only[QO,WH,QR] at ha <;> split at h <;> cases h <;> first | exact ⟨rfl,hσ⟩ | exact ⟨by simpa[QR] using ha,hσ⟩
 case iaS esz=>unfold VP at h;split at h <;> (try (cases h;done)) <;> simp only[QO,WH,QR] at ha <;> split at h <;> cases h <;> first | exact ⟨rfl,hσ⟩ | exact ⟨by simpa[QR] using ha,hσ⟩
 case ixA len esz n agg =>
  unfold A7 at h;split at h <;> (try (cases h;done)) <;> simp only[QO,WH,QR] at ha
  ·split at h <;> cases h;exact ⟨XM (JV ha),hσ⟩
  ·split at h <;> (try (cases h;done));simp only[QA] at h;obtain ⟨v,hv,he⟩:=h;cases he;exact ⟨H6 ha hv,hσ⟩
 case ixStr=>unfold G5 at h;split at h <;> (try (cases h;done));split at h <;> (try (cases h;done));simp only[QA] at h;obtain ⟨v,hv,he⟩:=h;cases he;exact ⟨rfl,hσ⟩
 case extract i=>unfold U6 at h;split at h <;> (try (cases h;done));simp only[QA] at h;obtain ⟨v,hv,he⟩:=h;cases he;simp only[QO,WH,QR] at ha;exact ⟨H6 ha hv,hσ⟩
 case len=>unfold RZ at h;split at h <;> cases h <;> exact ⟨rfl,hσ⟩
 case min2=>unfold DJ at h;split at h <;> (try (cases h;done));split at h <;> cases h;exact ⟨rfl,hσ⟩
 case max2=>unfold GT at h;split at h <;> (try (cases h;done)) <;> (split at h <;> cases h;exact ⟨rfl,hσ⟩)
 case append esz bytes =>
  unfold ZX at h
  split at h <;> (try (cases h;done))
  ·simp only[QB] at h;obtain ⟨new,hnew,n,hn,h⟩:=h
   split at h
   ·cases h;exact ⟨rfl,hσ⟩
   ·split at h <;> cases h;exact ⟨by simp[QR],hσ.push (YL (XE _) (D7 hσ hnew))⟩
  ·simp only[QB] at h;obtain ⟨cs,hcs,new,hnew,n,hn,h⟩:=h
   split at h <;> cases h
   refine ⟨by simp[QR],(hσ.set _ rfl).push ?_⟩
   rw[WE]
   exact YL (XE _) (VN (XM (hσ.row hcs).1) (D7 hσ hnew))
  ·simp only[QB] at h;obtain ⟨cs,hcs,new,hnew,n,hn,h⟩:=h
   simp only[QO,QD,QR] at ha
   split at h
   ·split at h <;> cases h
    exact ⟨by simpa[QR] using ha.1,hσ.set _ (X5 (hσ.row hcs).1 (D7 hσ hnew))⟩
   ·split at h <;> cases h
    exact ⟨by simp[QR],hσ.push (YL (XE _) (VN (XM (JV (hσ.row hcs).1)) (D7 hσ hnew)))⟩
 case clear zs =>
  unfold UN at h;split at h <;> (try (cases h;done)) <;> (
   simp only[QB] at h;obtain ⟨cs,hcs,h⟩:=h;split at h <;> cases h
   exact ⟨rfl,hσ.set _ (X5 (hσ.row hcs).1 (KU (YL (QF _) hcl)))⟩)
 case copy esz =>
  unfold UE at h;split at h <;> (try (cases h;done));simp only[QB] at h;obtain ⟨cs,hcs,new,hnew,n,hn,h⟩:=h;split at h <;> cases h
  exact ⟨rfl,hσ.set _ (X5 (hσ.row hcs).1 (XM (D7 hσ hnew)))⟩
 case lookup ks z ok =>
  unfold KL at h;split at h <;> (try (cases h;done));simp only[QB] at h;obtain ⟨es,hes,h⟩:=h;split at h <;> (try (cases h;done));simp only[QA] at h;obtain ⟨res,hres,he⟩:=h;cases he
  have hg:QR σ.length ((res.map (·.2)).getD z)=true:=by
   cases res with
   | none=>exact Qdb (QF _) hcl
   | some p=>exact A6 (hσ.mapOf hes).1 hres p rfl
  refine ⟨?_,hσ⟩
  split
  ·simp only[QR,QO,hg,WH,XI]
  ·exact hg
 case mapset ks =>
  unfold JZ at h;split at h <;> (try (cases h;done));simp only[QB] at h;obtain ⟨es,hes,h⟩:=h;split at h <;> (try (cases h;done));simp only[QA] at h;obtain ⟨res,hres,he⟩:=h;cases he
  simp only[QO,WH,QD] at ha
  refine ⟨rfl,hσ.set _ ?_⟩
  simp only[Z3,Q1,QD]
  intro e he
  cases res with
  | none =>
   simp only[XU,YV,WZ] at he
   rcases he with he | rfl
   ·exact (hσ.mapOf hes).1 e he
   ·exact ⟨ha.2.1,ha.2.2⟩
  | some p =>
   simp only[XU] at he
   rcases List.mem_or_eq_of_mem_set he with h1 | rfl
   ·exact (hσ.mapOf hes).1 e h1
   ·exact ⟨ha.2.1,ha.2.2⟩
 case mapdel ks =>
  unfold J0 at h;split at h <;> (try (cases h;done));simp only[QB] at h;obtain ⟨es,hes,h⟩:=h;split at h <;> (try (cases h;done));simp only[QA] at h;obtain ⟨res,hres,he⟩:=h;cases he
  refine ⟨rfl,hσ.set _ ?_⟩
  simp only[Z3,Q1,QD]
  intro e he
  cases res with
  | none=>exact (hσ.mapOf hes).1 e he
  | some p=>exact (hσ.mapOf hes).1 e (List.mem_of_mem_eraseIdx he)
 case maplen=>unfold TS at h;split at h <;> (try (cases h;done));simp only[QA] at h;obtain ⟨_,_,he⟩:=h;cases he;exact ⟨rfl,hσ⟩
 case eqS neg ks=>unfold OI at h;split at h <;> (try (cases h;done));simp only[QA] at h;obtain ⟨v,hv,he⟩:=h;cases he;exact ⟨rfl,hσ⟩
 case mksliceC esz bytes zs=>unfold XR at h;split at h <;> (try (cases h;done));split at h <;> cases h;exact ⟨by simp[QR],hσ.push (KU (YL (QF _) hcl))⟩
 case slS3=>unfold TR at h;split at h <;> (try (cases h;done)) <;> (simp only[QB] at h;first | (obtain ⟨_,_,_,_,_,_,h⟩:=h;split at h <;> cases h;exact ⟨rfl,hσ⟩) | (obtain ⟨_,_,_,_,h⟩:=h;split at h <;> cases h;refine ⟨?_,hσ⟩;simp only[QO,QR,QD] at ha ⊢;exact ha.1))
 case cap=>unfold NZ at h;split at h <;> cases h;exact ⟨rfl,hσ⟩
 case appendz esz bytes zs =>
  unfold VQ at h;split at h <;> (try (cases h;done));simp only[QB] at h;obtain ⟨cs,hcs,h⟩:=h;split at h <;> cases h
  exact ⟨by simp[QR],hσ.push (YL (XE _) (VN (XM (JV (hσ.row hcs).1)) (KU (YL (QF _) hcl))))⟩
 case stuck=>cases h
 case mapent=>cases h
 case entst=>cases h
 case rstr=>unfold F6 at h;split at h <;> cases h;exact ⟨by simp[QR],hσ.push rfl⟩
 case snext =>
  unfold KX at h;split at h <;> (try (cases h;done));simp only[QA] at h;obtain ⟨_,_,h⟩:=h;split at h <;> cases h
  ·exact ⟨rfl,hσ.set _ rfl⟩
  ·exact ⟨rfl,hσ⟩
end Go.Proofs.YtogjcmnopidfpaaGreat.AM
namespace Go.Proofs.YtogjcmnopidfpaaGreat.AM
set_option linter.unusedSectionVars false
variable [Dr]
open Go
set_option linter.unusedVariables false
set_option linter.unusedSimpArgs false
theorem AP (io:IOp):kindOf io≤2:=by
 unfold kindOf;split <;> omega
theorem BL {io:IOp} {as_:List AV} {σ σ':List AObj} {r:AV} (h:ZQ io as_ σ=some (r,σ')):∀ (l:Nat) o,σ.length≤l→σ'[l]? = some o→o.live:=by
 have same:σ'=σ→∀ (l:Nat) o,σ.length≤l→σ'[l]? = some o→o.live:=by
  rintro rfl l o hl ho
  rw[QN hl] at ho;cases ho
 have push:∀ (τ:List AObj) (x:AObj),σ'=τ++[x]→τ.length=σ.length→x.live→∀ (l:Nat) o,σ.length≤l→σ'[l]? = some o→o.live:=by
  rintro τ x rfl ht hx l o hl ho
  rw[QS (by omega)] at ho
  have:l-τ.length=0:=by
   have:=(QH.1 ho).1
   simp at this;omega
  rw[this] at ho;simp at ho;subst ho;exact hx
 have set:∀ (x:Nat) (y:AObj),σ'=σ.set x y→∀ (l:Nat) o,σ.length≤l→σ'[l]? = some o→o.live:=by
  rintro x y rfl l o hl ho
  rw[QN (by simp;omega)] at ho;cases ho
 by_cases h0:kindOf io=0
 ·exact same (KF h0 h).1
 by_cases h1:kindOf io=1
 ·exact same (GB h1 h)
 cases io <;> (try (exact absurd rfl h0)) <;> (try (exact absurd rfl h1)) <;> simp only[ZQ] at h
 case alloc zs=>unfold UO at h;split at h <;> cases h;exact push _ _ rfl rfl trivial
 case box=>unfold WI at h;split at h <;> (try (cases h;done));split at h <;> cases h;exact push _ _ rfl rfl trivial
 case bslice esz len zs ps=>unfold V4 at h;simp only[QA] at h;obtain ⟨v,hv,he⟩:=h;cases he;exact push _ _ rfl rfl trivial
 case store n=>unfold UM at h;split at h <;> (try (cases h;done));simp only[QB] at h;obtain ⟨cs,hcs,h⟩:=h;split at h <;> cases h;exact set _ _ rfl
 case mkmap=>unfold KY at h;split at h <;> cases h;exact push _ _ rfl rfl trivial
 case mkslice esz bytes zs=>unfold XB at h;split at h <;> (try (cases h;done));split at h <;> cases h;exact push _ _ rfl rfl trivial
 case mksliceC esz bytes zs=>unfold XR at h;split at h <;> (try (cases h;done));split at h <;> cases h;exact push _ _ rfl rfl trivial
 case append esz bytes =>
  unfold ZX at h
  split at h <;> (try (cases h;done))
  ·simp only[QB] at h;obtain ⟨new,hnew,n,hn,h⟩:=h
   split at h
   ·cases h;exact same rfl
   ·split at h <;> cases h;exact push _ _ rfl rfl trivial
  ·simp only[QB] at h;obtain ⟨cs,hcs,new,hnew,n,hn,h⟩:=h
   split at h <;> cases h
   exact push _ _ rfl (by simp) trivial
  ·simp only[QB] at h;obtain ⟨cs,hcs,new,hnew,n,hn,h⟩:=h
   split at h
   ·split at h <;> cases h;exact set _ _ rfl
   ·split at h <;> cases h;exact push _ _ rfl rfl trivial
 case clear zs=>unfold UN at h;split at h <;> (try (cases h;done)) <;> (simp only[QB] at h;obtain ⟨cs,hcs,h⟩:=h;split at h <;> cases h;exact set _ _ rfl)
 case copy esz=>unfold UE at h;split at h <;> (try (cases h;done));simp only[QB] at h;obtain ⟨cs,hcs,new,hnew,n,hn,h⟩:=h;split at h <;> cases h;exact set _ _ rfl
 case mapset ks=>unfold JZ at h;split at h <;> (try (cases h;done));simp only[QB] at h;obtain ⟨es,hes,h⟩:=h;split at h <;> (try (cases h;done));simp only[QA] at h;obtain ⟨res,hres,he⟩:=h;cases he;exact set _ _ rfl
 case mapdel ks=>unfold J0 at h;split at h <;> (try (cases h;done));simp only[QB] at h;obtain ⟨es,hes,h⟩:=h;split at h <;> (try (cases h;done));simp only[QA] at h;obtain ⟨res,hres,he⟩:=h;cases he;exact set _ _ rfl
 case stuck=>cases h
 case mapent=>cases h
 case entst=>cases h
 case appendz esz bytes zs=>unfold VQ at h;split at h <;> (try (cases h;done));simp only[QB] at h;obtain ⟨cs,hcs,h⟩:=h;split at h <;> cases h;exact push _ _ rfl rfl trivial
 case rstr=>unfold F6 at h;split at h <;> cases h;exact push _ _ rfl rfl trivial
 case snext =>
  unfold KX at h;split at h <;> (try (cases h;done));simp only[QA] at h;obtain ⟨_,_,h⟩:=h;split at h <;> cases h
  ·exact set _ _ rfl
  ·exact same rfl
def JA (kp:List Nat) (j:Nat) (i:Ins):Nat :=
 match i.op with
 | .prim io=>kindOf io
 | .call=>if kp.contains j then 1 else 2
def AU (i:Ins):Bool :=
 (match i.op with | .prim io=>ioCl io | .call=>true)&&i.args.all fun | .c a=>QR 0 a | _=>true
def pdAt (pds:List (List Nat)) (j:Nat):List Nat:=pds.getD j []
def IU (x:Nat) (i:Ins):Bool:=(i.args.any fun | .v y=>x == y | _=>false)||i.dst == some x
def HM (σ:List AObj) (v:AV) (τ:List AObj):Prop :=
 QR τ.length v=true∧σ.length≤τ.length∧∀ (l:Nat) o,τ[l]? = some o→σ[l]?≠some o→Z3 τ.length o=true∧(σ.length≤l→o.live)
def RP (P:Program) (kp:List Nat):Nat→List Ins→List AV→List AV→List AObj→(List AV→List AV→List AObj→Prop)→Prop
 | _,[],vals,ρ,σ,K=>K vals ρ σ
 | j,i::is,vals,ρ,σ,K =>
  match gdOk ρ i.gd with
  | none=>False
  | some false=>RP P kp (j+1) is (setD i.dst vals (.tup [])) (ρ++[.tup []]) σ K
  | some true =>
   match i.op,i.args.map (WY vals ρ) with
   | .prim io,as_ =>
    match ZQ io as_ σ with
    | some (v,σ')=>RP P kp (j+1) is (setD i.dst vals v) (ρ++[v]) σ' K
    | none=>False
   | .call,fv::as_=>if kp.contains j then ∃ v,X0 P fv as_ σ (fun v' τ'=>v'=v∧τ'=σ)∧QR σ.length v=true∧RP P kp (j+1) is (setD i.dst vals v) (ρ++[v]) σ K
     else ∃ v τ,X0 P fv as_ σ (fun v' τ'=>v'=v∧τ'=τ)∧HM σ v τ∧RP P kp (j+1) is (setD i.dst vals v) (ρ++[v]) τ K
   | .call,[]=>False
def VS (P:Program) (kp:List Nat) (j:Nat) (i:Ins) (vals ρ:List AV) (σ:List AObj) (v:AV) (τ:List AObj):Prop :=
 match gdOk ρ i.gd with
 | none=>False
 | some false=>v=.tup []∧τ=σ
 | some true =>
  match i.op,i.args.map (WY vals ρ) with
  | .prim io,as_=>ZQ io as_ σ=some (v,τ)
  | .call,fv::as_=>X0 P fv as_ σ (fun v' τ'=>v'=v∧τ'=τ)∧HM σ v τ∧(kp.contains j=true→τ=σ)
  | .call,[]=>False
variable {P:Program} {fx:Fx} {Q:Exit→St→Prop} {s:St}
theorem HM.refl {σ:List AObj} {v:AV} (h:QR σ.length v=true):HM σ v σ:=⟨h,QG _,fun l o h1 h2=>absurd h1 h2⟩
theorem KJ (σ:List AObj) (f:Nat→Bool) (hf:∀ l,f l=false):VU f σ=σ:=by
 apply Z1
 intro l
 rw[J6,hf]
 cases σ[l]? <;> simp
theorem CO {n:Nat} {vals ρ:List AV} {x:Opd} (hv:QO n vals=true) (hr:QO n ρ=true) (hc:(match x with | .c a=>QR 0 a | _=>true)=true):QR n (WY vals ρ x)=true:=by
 cases x with
 | v i=>exact XO hv i
 | t j=>exact XO hr j
 | c a=>exact Qdb (QF _) hc
end Go.Proofs.YtogjcmnopidfpaaGreat.AM
namespace Go.Proofs.YtogjcmnopidfpaaGreat.AM
set_option linter.unusedSectionVars false
variable [Dr]
open Go
set_option linter.unusedVariables false
set_option linter.unusedSimpArgs false
theorem RE {P:Program} {f:FuncId} {fn:Func} {c:Code} (hf:P.funcs[f]? = some fn) (hn:(fn.name == "runtime.NumGoroutine")=false) (hb:fn.body=some c):PI P f:=by
 intro args w
 unfold callFunc
 simp only[Sem.run_bind,show (program).run P w=.ok P w from rfl,Result.andThen_ok,hf,hn,hb,Option.isNone,QT,if_false,Sem.run_pure]
mutual
def ren (g:Nat→Nat):AV→AV
 | .cv c=>.cv c
 | .ptr l o=>.ptr (g l) o
 | .sl l o n e=>.sl (g l) o n e
 | .map l=>.map (g l)
 | .fn f cs=>.fn f (rens g cs)
 | .bm f cs=>.bm f (rens g cs)
 | .yld l=>.yld (g l)
 | .agg cs=>.agg (rens g cs)
 | .tup cs=>.tup (rens g cs)
 | .undef=>.undef
 | .slc l o n c e=>.slc (g l) o n c e
def rens (g:Nat→Nat):List AV→List AV
 | []=>[]
 | a::as_=>ren g a::rens g as_
end
def renO (g:Nat→Nat):AObj→AObj
 | .dead=>.dead
 | .cells cs=>.cells (rens g cs)
 | .map es=>.map (es.map fun e=>(ren g e.1,ren g e.2))
 | .siter s p=>.siter s p
 | .loop r=>.loop { r with vals:=rens g r.vals }
theorem UY (g:Nat→Nat):∀ vs:List AV,(rens g vs).length=vs.length
 | []=>rfl
 | v::vs=>by simp[rens,UY g vs]
theorem O3 (g:Nat→Nat):∀ (vs:List AV) (i:Nat),(rens g vs).getD i .undef=ren g (vs.getD i .undef)
 | [],i=>by simp[rens,ren]
 | v::vs,0=>by simp[rens]
 | v::vs,i+1=>by simpa[rens] using O3 g vs i
mutual
theorem PU {g:Nat→Nat} {k:Nat} (hg:∀ l,l<k→g l=l):∀ a:AV,QR k a=true→ren g a=a
 | .cv _,_=>rfl
 | .ptr l _,h=>by simp only[QR,decide_eq_true_eq] at h;simp[ren,hg l h]
 | .sl l _ _ _,h=>by simp only[QR,decide_eq_true_eq] at h;simp[ren,hg l h]
 | .map l,h=>by simp only[QR,decide_eq_true_eq] at h;simp[ren,hg l h]
 | .fn _ cs,h=>by simp only[QR] at h;simp[ren,E0 hg cs h]
 | .bm _ cs,h=>by simp only[QR] at h;simp[ren,E0 hg cs h]
 | .yld l,h=>by simp only[QR,decide_eq_true_eq] at h;simp[ren,hg l h]
 | .agg cs,h=>by simp only[QR] at h;simp[ren,E0 hg cs h]
 | .tup cs,h=>by simp only[QR] at h;simp[ren,E0 hg cs h]
 | .undef,_=>rfl
 | .slc l _ _ _ _,h=>by simp only[QR,decide_eq_true_eq] at h;simp[ren,hg l h]
theorem E0 {g:Nat→Nat} {k:Nat} (hg:∀ l,l<k→g l=l):∀ vs:List AV,QO k vs=true→rens g vs=vs
 | [],_=>rfl
 | v::vs,h=>by simp only[QO,QD] at h;simp[rens,PU hg v h.1,E0 hg vs h.2]
end
theorem E1 {g:Nat→Nat} {k:Nat} (hg:∀ l,l<k→g l=l) {o:AObj} (h:Z3 k o=true):renO g o=o:=by
 cases o with
 | dead=>rfl
 | cells cs=>simp[renO,E0 hg cs h]
 | map es =>
  simp only[Z3,Q1,QD] at h
  simp only[renO,AObj.map.injEq]
  conv=>rhs;rw[← List.map_id es]
  apply JI
  intro e he
  simp[PU hg _ (h e he).1,PU hg _ (h e he).2]
 | siter _ _=>rfl
 | loop r=>simp only[Z3] at h;simp[renO,E0 hg _ h]
section
variable {m m2:LM} {X:Nat→Prop} {w:World} {g:Nat→Nat} {k:Nat}
mutual
theorem VRel.ren (hm:∀ l,l<k→m2 l=m (g l)) (ho:∀ b,Own m2 X b→Own m X b):∀ (a:AV) (v:Value),QR k a=true→VRel m X w (AM.ren g a) v→VRel m2 X w a v
 | .cv c,v,_,h=>by simp only[AM.ren,VRel] at h ⊢;exact CV.rep_less ho c v h
 | .ptr l off,v,hk,h=>by simp only[AM.ren,VRel,QR,decide_eq_true_eq] at h hk ⊢;rw[hm l hk];exact h
 | .sl l off len esz,v,hk,h=>by simp only[AM.ren,VRel,QR,decide_eq_true_eq] at h hk ⊢;rw[hm l hk];exact h
 | .map l,v,hk,h=>by simp only[AM.ren,VRel,QR,decide_eq_true_eq] at h hk ⊢;rw[hm l hk];exact h
 | .fn f cs,v,hk,h=>by simp only[AM.ren,VRel,QR] at h hk ⊢;obtain ⟨vs,h1,h2⟩:=h;exact ⟨vs,h1,QK.ren hm ho cs vs hk h2⟩
 | .bm f cs,v,hk,h=>by simp only[AM.ren,VRel,QR] at h hk ⊢;obtain ⟨vs,h1,h2⟩:=h;exact ⟨vs,h1,QK.ren hm ho cs vs hk h2⟩
 | .yld l,v,hk,h=>by simp only[AM.ren,VRel,QR,decide_eq_true_eq] at h hk ⊢;rw[hm l hk];exact h
 | .agg cs,v,hk,h=>by simp only[AM.ren,VRel,QR] at h hk ⊢;obtain ⟨vs,h1,h2⟩:=h;exact ⟨vs,h1,QK.ren hm ho cs vs hk h2⟩
 | .tup cs,v,hk,h=>by simp only[AM.ren,VRel,QR] at h hk ⊢;obtain ⟨vs,h1,h2⟩:=h;exact ⟨vs,h1,QK.ren hm ho cs vs hk h2⟩
 | .undef,v,_,_=>by simp[VRel]
 | .slc l off len cap esz,v,hk,h=>by simp only[AM.ren,VRel,QR,decide_eq_true_eq] at h hk ⊢;rw[hm l hk];exact h
theorem QK.ren (hm:∀ l,l<k→m2 l=m (g l)) (ho:∀ b,Own m2 X b→Own m X b):∀ (as_:List AV) (vs:List Value),QO k as_=true→QK m X w (AM.rens g as_) vs→QK m2 X w as_ vs
 | [],[],_,_=>by simp[QK]
 | a::as_,v::vs,hk,h=>by simp only[AM.rens,QK,QO,QD] at h hk ⊢;exact ⟨VRel.ren hm ho a v hk.1 h.1,QK.ren hm ho as_ vs hk.2 h.2⟩
 | [],_::_,_,h=>by simp[AM.rens,QK] at h
 | _::_,[],_,h=>by simp[AM.rens,QK] at h
end
theorem ORel.ren (hm:∀ l,l<k→m2 l=m (g l)) (ho:∀ b,Own m2 X b→Own m X b) {b:Option Nat} {o:AObj} (hk:Z3 k o=true) (h:ORel m X w b (renO g o)):ORel m2 X w b o:=by
 cases b with
 | none=>cases o <;> simp[ORel,renO] at h ⊢
 | some b =>
  cases o with
  | dead=>trivial
  | cells cs =>
   simp only[ORel,renO,Z3,UY] at h hk ⊢
   obtain ⟨c,e,h1,h2,h3⟩:=h
   exact ⟨c,e,h1,h2,QK.ren hm ho _ _ hk h3⟩
  | map es =>
   simp only[ORel,renO,Z3,ZK] at h hk ⊢
   obtain ⟨ces,clock,h1,h2,h3,h4,h5⟩:=h
   refine ⟨ces,clock,h1,h2,h3,h4,fun i kk a hi=>?_⟩
   obtain ⟨e,he,g1,g2⟩:=h5 i (AM.ren g kk) (AM.ren g a) (by rw[ZR,hi];rfl)
   rw[Q1] at hk
   have:=hk _ (QZ hi)
   simp only[QD] at this
   exact ⟨e,he,VRel.ren hm ho _ _ this.1 g1,VRel.ren hm ho _ _ this.2 g2⟩
  | siter s0 p=>exact h
  | loop r =>
   simp only[ORel,renO,Z3,UY] at h hk ⊢
   obtain ⟨tmps,d,fi,h1,h2,h3⟩:=h
   refine ⟨tmps,d,fi,h1,fun i t hi=>?_,h3⟩
   have:=h2 i t hi
   simp only[O3] at this
   exact VRel.ren hm ho _ _ (XO hk i) this
end
theorem EI {g:Nat→Nat} {o:AObj} (h:o.live):(renO g o).live:=by cases o <;> simp_all [renO,AObj.live]
variable {P:Program}
structure Tidy (n0:Nat) (σ:List AObj) (r:AV) (σ':List AObj) (g:Nat→Nat) (r2:AV) (σ2:List AObj):Prop where
 low:∀ l,l<n0→g l=l
 rise:∀ a b,a<b→b<σ2.length→g a<g b
 le:n0≤σ2.length
 res:r=ren g r2
 rin:QR σ2.length r2=true
 obj:∀ (l:Nat) o,σ2[l]? = some o→(l<n0∧σ[l]? = some o∧σ'[l]? = some o)∨(Z3 σ2.length o=true∧σ'[g l]? = some (renO g o))
theorem AC.tidy {f:FuncId} {args:List AV} {σ:List AObj} {Q Q':AV→List AObj→Prop} (h:AC P f args σ Q) (hq:∀ r σ',Q r σ'→∃ g r2 σ2,Tidy σ.length σ r σ' g r2 σ2∧Q' r2 σ2):AC P f args σ Q':=by
 refine ⟨h.1,fun m X w cargs ha hh=>(h.2 m X w cargs ha hh).mono ?_⟩
 rintro e w' ⟨c,r,σ',m',rfl,hQ,hr,hh',hst,hle⟩
 obtain ⟨g,r2,σ2,ht,hQ'⟩:=hq r σ' hQ
 let m2:LM:=fun l=>if l<σ2.length then m' (g l) else none
 have hm2:∀ l,l<σ2.length→m2 l=m' (g l):=fun l hl=>by simp only[m2];rw[if_pos hl]
 have hm2s:∀ l b,m2 l=some b→l<σ2.length∧m' (g l)=some b:=fun l b hl=>by
  simp only[m2] at hl
  split at hl
  ·rename_i h;exact ⟨h,hl⟩
  ·cases hl
 have how:∀ b,Own m2 X b→Own m' X b:=by
  rintro b (hx | ⟨l,hl⟩)
  ·exact .inl hx
  ·exact .inr ⟨g l,(hm2s l b hl).2⟩
 have hobj:∀ (l:Nat) o,σ2[l]? = some o→Z3 σ2.length o=true∧σ'[g l]? = some (renO g o):=by
  intro l o ho
  rcases ht.obj l o ho with ⟨h1,h2,h3⟩ | h1
  ·have hin:=hh.closed l o h2
   refine ⟨H1 _ _ o ht.le hin,?_⟩
   rw[ht.low l h1,E1 ht.low hin];exact h3
  ·exact h1
 refine ⟨c,r2,σ2,m2,rfl,hQ',?_,⟨hh'.xb,?_,?_,?_,?_,hh'.gl.less how⟩,⟨?_,?_,hst.size,hst.fr,hst.shp,hst.os,hst.tape,hst.output,hst.drawn⟩,ht.le⟩
 ·exact VRel.ren hm2 how r2 c ht.rin (by rw[← ht.res];exact hr)
 ·intro l b hl;obtain ⟨h1,h2⟩:=hm2s l b hl;exact ⟨h1,(hh'.dom _ b h2).2⟩
 ·intro l b o hl ho hv
  obtain ⟨h1,h2⟩:=hm2s l b hl
  exact hh'.own (g l) b _ h2 (hobj l o ho).2 (EI hv)
 ·intro l l' b o' hl hl' ho' hv
  obtain ⟨h1,h2⟩:=hm2s l b hl
  obtain ⟨h1',h2'⟩:=hm2s l' b hl'
  have:=hh'.inj (g l) (g l') b _ h2 h2' (hobj l' o' ho').2 (EI hv)
  rcases ZB l' l with hlt | hge
  ·have:=ht.rise l' l hlt h1;omega
  ·exact hge
 ·intro l o ho
  obtain ⟨h1,h2⟩:=hobj l o ho
  have hl:l<σ2.length:=(QH.1 ho).1
  rw[hm2 l hl]
  exact ORel.ren hm2 how h1 (hh'.obj _ _ h2)
 ·intro l hl
  rw[hm2 l (by have:=ht.le;omega),ht.low l hl];exact hst.keep l hl
 ·intro l b hl;exact hst.new _ b (hm2s l b hl).2
end Go.Proofs.YtogjcmnopidfpaaGreat.AM
namespace Go.Proofs.YtogjcmnopidfpaaGreat.AM
set_option linter.unusedSectionVars false
variable [Dr]
open Go
set_option linter.unusedVariables false
set_option linter.unusedSimpArgs false
section
variable {P:Program} {b:Frame} {a:Act} {k:List Item} {cs:List Frame} {w:World}
theorem UX {c:Code}:step P (lone (b.atR a (.code (.scope c)::k)) cs w)=.next (lone (b.atR a (.code c :: .inScope c::k)) cs w) :=
 step_lone_go (by simp[stepG,stepG.exec,Frame.atR])
theorem SG {c:Code}:step P (lone (b.atR a (.inScope c::k)) cs w)=.next (lone (b.atR a k) cs w) :=
 step_lone_go (by simp[stepG,stepG.exec,Frame.atR])
theorem LS {F:Fence} {n:Nat} {Q:Exit→Act→World→Prop} {c:Code} (h:c.wpIn F n P (fun e a w=>match e with | .goto _=>False | e=>Q e a w) a w):(Code.scope c).wpIn F n P Q a w:=by
 intro b k cs hro hb hr
 have h0:(lone (b.atR a (.code (.scope c)::k)) cs w).fenced P F:=fenced_calm hb hr rfl
 obtain ⟨e,a₁,w₁,hq,harr⟩:=h b (.inScope c::k) cs hro hb hr
 cases e with
 | normal=>exact ⟨.normal,a₁,w₁,hq,.head h0 UX (StepsIn.trans harr (.one (fenced_calm hb hr rfl) SG))⟩
 | exit id' =>
  have hx:exitTo id' (.inScope c::k)=exitTo id' k:=by simp[exitTo]
  exact ⟨.exit id',a₁,w₁,hq,fun k' hk=>.head h0 UX (harr.1 k' (by rw[hx];exact hk)),
   fun hr' hk=>let ⟨k₁,h1,h2⟩:=harr.2 hr' (by rw[hx];exact hk);⟨k₁,h1,.head h0 UX h2⟩⟩
 | goto l=>exact hq.elim
 | ret=>exact ⟨_,a₁,w₁,hq,.of_steps (.one h0 UX) harr⟩
 | panic ch=>exact ⟨_,a₁,w₁,hq,.of_steps (.one h0 UX) harr⟩
 | outgrown=>exact ⟨_,a₁,w₁,hq,.of_steps (.one h0 UX) harr⟩
end
theorem QeI {P:Program} {fx:Fx} {s:St} {Q:Exit→St→Prop} {c:Code} (h:W P fx c s fun e s'=>match e with | .goto _=>False | e=>Q e s'):W P fx (.scope c) s Q:=by
 intro m X en ac w hs hr
 refine LS (wpIn_mono (h m X en ac w hs hr) ?_)
 rintro e ac' w' ⟨s',m',hq,hs',hst⟩
 cases e with
 | goto l=>exact hq.elim
 | _=>exact ⟨s',m',hq,hs',hst⟩
theorem XD {P:Program} {fx:Fx} {s:St} {Q:Exit→St→Prop} {b:Bool} {x y:Code} (h:W P fx (if b then x else y) s Q):W P fx (.cond (.const (.bool b)) x y) s Q :=
 fun m X en ac w hs hr=>wpIn_cond (t:=b) rfl (h m X en ac w hs hr)
inductive IC where
 | scope (a:IC)
 | skip
 | label (l:Nat)
 | exit (i:Nat)
 | ret
 | seq (a b:IC)
 | block (i:Nat) (a:IC)
 | cond (i:Nat) (a b:IC)
 | loop (a:IC)
 | region (is:List Ins)
 | draw (dirs:List (List Nat)) (is:List Ins) (pds:List (List Nat))
 | rangef (g:Opd) (ps:Array Nat) (assign body:Code) (ia ib:IC)
def Qbd:List (List Nat)→List (List Nat)→List (List Nat)
 | [],pds=>pds
 | d::ds,pds=>Qbd ds (pds++[(d++d.flatMap fun e=>pds.getD e []).eraseDups])
def UU (ops:Array Oper):List (List Nat):=(List.range ops.size).map (V9 ops)
def IC.dr (dirs:List (List Nat)) (is:List Ins):IC:=.draw dirs is (Qbd dirs [])
def QL (P:Program) (vars:List Nat) (N:Nat):Code→Option IC
 | .skip=>some .skip
 | .label l=>some (.label l)
 | .exit i=>some (.exit i)
 | .ret=>some .ret
 | .seq a b=>(QL P vars N a).bind fun x=>(QL P vars N b).map fun y=>.seq x y
 | .block i a=>(QL P vars N a).map fun x=>.block i x
 | .loop a=>(QL P vars N a).map fun x=>.loop x
 | .scope a=>(QL P vars N a).map fun x=>.scope x
 | .cond (.const (.bool b)) x y=>if b then QL P vars N x else QL P vars N y
 | .cond (.tmp t) a b=>(vars.idxOf? t).bind fun i=>(QL P vars N a).bind fun x=>(QL P vars N b).map fun y=>.cond i x y
 | .region _ ops false=>(VY P vars N ops).map .region
 | .region _ ops true=>(VY P vars N ops).map fun is=>.draw (UU ops) is (Qbd (UU ops) [])
 | .rangeFunc g ps assign body=>(QL P vars N assign).bind fun ia=>(QL P vars N body).map fun ib=>.rangef (XA vars [] g) ps assign body ia ib
 | _=>none
variable {P:Program} {fx:Fx} {s:St} {Q:Exit→St→Prop}
def DW (P:Program) (fx:Fx) (dirs:List (List Nat)) (is:List Ins) (s:St) (Q:Exit→St→Prop):Prop :=
 ∀ id ops,UU ops=dirs→VY P fx.vars fx.N ops=some is→W P fx (.region id ops true) s Q
def IL (P:Program) (fx:Fx) (a:IC) (s:St) (Q:Exit→St→Prop):Prop :=
 ∀ c,QL P fx.vars fx.N c=some a→WL P fx c s Q
def RW (P:Program) (fx:Fx) (g:Opd) (ps:Array Nat) (assign body:Code) (s:St) (Q:Exit→St→Prop):Prop :=
 ∃ gf cap,WY s.vals [] g=.fn (.func gf) cap∧s.vals.length≤fx.vars.length∧(∀ l0,fx.r=some l0→∃ r0,s.heap[l0]? = some (.loop r0)) ∧
  AC P gf (.yld s.heap.length::cap) (s.heap++[.loop (VJ fx s.vals ps assign body)]) fun _ σ'=>U9 P fx s.vals s.heap.length Q σ'
def IW (P:Program) (fx:Fx):IC→St→(Exit→St→Prop)→Prop
 | .skip,s,Q=>Q .normal s
 | .label _,s,Q=>Q .normal s
 | .exit i,s,Q=>Q (.exit i) s
 | .ret,s,Q=>Q .ret s
 | .seq a b,s,Q=>IW P fx a s fun e s'=>match e with | .normal=>IW P fx b s' Q | e=>Q e s'
 | .block i a,s,Q=>IW P fx a s fun e s'=>match e with | .exit i'=>if i'=i then Q .normal s' else Q (.exit i') s' | e=>Q e s'
 | .cond i a b,s,Q=>∃ t,s.vals.getD i .undef=.b t∧(if t then IW P fx a s Q else IW P fx b s Q)
 | .loop a,s,Q=>IL P fx a s Q
 | .scope a,s,Q=>IW P fx a s fun e s'=>match e with | .goto _=>False | e=>Q e s'
 | .region is,s,Q=>RG P is s.vals [] s.heap fun vals _ σ=>Q .normal ⟨vals,σ⟩
 | .draw dirs is _,s,Q=>DW P fx dirs is s Q
 | .rangef g ps assign body _ _,s,Q=>RW P fx g ps assign body s Q
theorem Y6:∀ (c:Code) (ic:IC) (s:St) (Q:Exit→St→Prop),QL P fx.vars fx.N c=some ic→IW P fx ic s Q→W P fx c s Q
 | .skip,ic,s,Q,hc,h=>by simp only[QL,Option.some.injEq] at hc;subst hc;exact W_skip h
 | .label l,ic,s,Q,hc,h=>by simp only[QL,Option.some.injEq] at hc;subst hc;exact QeJ h
 | .exit i,ic,s,Q,hc,h=>by simp only[QL,Option.some.injEq] at hc;subst hc;exact QbM h
 | .ret,ic,s,Q,hc,h=>by simp only[QL,Option.some.injEq] at hc;subst hc;exact QcP h
 | .seq a b,ic,s,Q,hc,h=>by
  simp only[QL,QB,QA] at hc
  obtain ⟨x,hx,y,hy,rfl⟩:=hc
  refine QcO ((Y6 a x s _ hx h).mono ?_)
  intro e s' hq
  cases e with
  | normal=>exact Y6 b y s' Q hy hq
  | _=>exact hq
 | .block i a,ic,s,Q,hc,h=>by
  simp only[QL,QA] at hc
  obtain ⟨x,hx,rfl⟩:=hc
  exact QbO (Y6 a x s _ hx h)
 | .loop a,ic,s,Q,hc,h=>by
  simp only[QL,QA] at hc
  obtain ⟨x,hx,rfl⟩:=hc
  exact W_loop (h a hx)
 | .scope a,ic,s,Q,hc,h=>by
  simp only[QL,QA] at hc
  obtain ⟨x,hx,rfl⟩:=hc
  exact QeI (Y6 a x s _ hx h)
 | .cond (.const v) a b,ic,s,Q,hc,h=>by
  cases v <;> simp only[QL,reduceCtorEq] at hc
  rename_i t
  cases t with
  | true=>simp only[if_true] at hc;exact XD (Y6 a ic s Q hc h)
  | false=>simp only[QT,if_false] at hc;exact XD (Y6 b ic s Q hc h)
 | .cond (.tmp t) a b,ic,s,Q,hc,h=>by
  simp only[QL,QB,QA] at hc
  obtain ⟨i,hi,x,hx,y,hy,rfl⟩:=hc
  obtain ⟨b',hb,h⟩:=h
  refine QbN (Y9 hi) hb ?_
  cases b' with
  | true=>exact Y6 a x s Q hx h
  | false=>exact Y6 b y s Q hy h
 | .region id ops false,ic,s,Q,hc,h=>by
  simp only[QL,QA] at hc
  obtain ⟨is,his,rfl⟩:=hc
  exact C5 his h
 | .region id ops true,ic,s,Q,hc,h=>by
  simp only[QL,QA] at hc
  obtain ⟨is,his,rfl⟩:=hc
  exact h id ops rfl his
 | .rangeFunc g ps assign body,ic,s,Q,hc,h=>by
  simp only[QL,QB,QA] at hc
  obtain ⟨ia,h1,ib,h2,rfl⟩:=hc
  obtain ⟨gf,cap,g1,g2,g3,g4⟩:=h
  exact N6 rfl g1 g2 g3 g4
 | .cond (.global _) _ _,_,_,_,hc,_=>by simp[QL] at hc
 | .cond (.func _) _ _,_,_,_,hc,_=>by simp[QL] at hc
 | .goto _,_,_,_,hc,_=>by simp[QL] at hc
 | .refuse _,_,_,_,hc,_=>by simp[QL] at hc
theorem QfI {a:IC} (h:IW P fx a s fun e s'=>match e with | .normal=>IL P fx a s' Q | e=>Q e s'):IL P fx a s Q :=
 fun c hc=>FG ((Y6 c a s _ hc h).mono fun e s' hq=>by
  cases e with
  | normal=>exact hq c hc
  | _=>exact hq)
theorem AC_IW {f:FuncId} {fn:Func} {c:Code} {ic:IC} {args:List AV} {σ:List AObj} {Q:AV→List AObj→Prop} (vars:List Nat) (hf:P.funcs[f]? = some fn) (hb:fn.body=some c) (hn:(fn.name == "runtime.NumGoroutine")=false) (hargs:args.length≤fn.ntmps)
  (hc:QL P vars fn.ntmps c=some ic)
  (h:IW P ⟨vars,fn.ntmps,none,σ.length⟩ ic ⟨Y5 vars args,σ⟩ fun e s'=>match e with
   | .normal | .ret=>∃ r,UB P vars s'.vals s'.heap fn.results.toList=some r∧Q r s'.heap
   | _=>False):AC P f args σ Q :=
 IB hf hb (RE hf hn hb) hargs (Y6 (fx:=⟨vars,fn.ntmps,none,σ.length⟩) c ic _ _ hc h)
def bts (l:List Nat):ByteArray:=⟨(l.map UInt8.ofNat).toArray⟩
def nav:List Nat→Code→Code
 | [],c=>c
 | 0::p,.seq a _=>nav p a
 | 1::p,.seq _ b=>nav p b
 | 0::p,.cond _ a _=>nav p a
 | 1::p,.cond _ _ b=>nav p b
 | 0::p,.block _ a=>nav p a
 | 0::p,.loop a=>nav p a
 | 0::p,.scope a=>nav p a
 | 2::p,.rangeFunc _ _ a _=>nav p a
 | 3::p,.rangeFunc _ _ _ b=>nav p b
 | _,_=>.skip
end Go.Proofs.YtogjcmnopidfpaaGreat.AM
namespace Go.Proofs.YtogjcmnopidfpaaGreat.AM
variable [Dr]
open Go
def JJ:AV→List Nat
 | .ptr l _=>[l]
 | .sl l _ _ _=>[l]
 | .map l=>[l]
 | .slc l _ _ _ _=>[l]
 | _=>[]
inductive PlT where
 | no
 | at (io:IOp) (as_:List AV) (n:Nat)
 deriving Inhabited
def O4 (k n:Nat):List Nat:=match k with | 2=>[n] | _=>[]
def YX:PlT→List Nat
 | .no=>[]
 | .at io as_ n=>as_.flatMap JJ++O4 (kindOf io) n
def plOf (i:Ins) (as_:List AV) (σ:List AObj):PlT :=
 match i.op with
 | .prim io=>.at io as_ σ.length
 | .call=>.no
theorem JX {f:Nat→Bool} {σ:List AObj} {x:AObj} (h:f σ.length=false):VU f (σ++[x])=VU f σ++[x]:=by
 simp[VU,List.mapIdx_append,h]
theorem KV {f:Nat→Bool} {σ:List AObj} {l:Nat} {x:AObj} (h:f l=false):VU f (σ.set l x)=(VU f σ).set l x:=by
 apply Z1
 intro k
 rw[J6]
 by_cases hk:l=k
 ·subst hk
  by_cases hl:l<σ.length
  ·rw[Z2 hl,Z2 (by rw[YA];exact hl)]
   simp[h]
  ·rw[QN (by simp;omega),QN (by simp[YA];omega)];rfl
 ·rw[QU hk,QU hk,J6]
theorem JG {f:Nat→Bool} {σ:List AObj} {l:Nat} (h:f l=false):rowOf (VU f σ) l=rowOf σ l:=by
 unfold rowOf;rw[J6]
 cases σ[l]? with
 | none=>rfl
 | some o=>simp[h]
theorem E6 {f:Nat→Bool} {σ:List AObj} {l:Nat} (h:f l=false):mapOf (VU f σ) l=mapOf σ l:=by
 unfold mapOf;rw[J6]
 cases σ[l]? with
 | none=>rfl
 | some o=>simp[h]
theorem QaZ {f:Nat→Bool} {σ:List AObj} {l:Nat} (h:f l=false):RH (VU f σ) l=RH σ l:=by
 unfold RH;rw[J6]
 cases σ[l]? with
 | none=>rfl
 | some o=>simp[h]
theorem IG {f:Nat→Bool} {σ:List AObj} {e:Nat} {x:AV} (h:∀ l∈JJ x,f l=false):Z9 (VU f σ) e x=Z9 σ e x:=by
 cases x with
 | sl l off len esz =>
  simp only[Z9]
  rw[JG (h l (by simp[JJ]))]
 | slc l off len cap esz =>
  simp only[Z9]
  rw[JG (h l (by simp[JJ]))]
 | cv c=>cases c <;> rfl
 | _=>rfl
theorem Qc3 {io:IOp} {as_:List AV} {σ σ':List AObj} {r:AV} {f:Nat→Bool} (h:ZQ io as_ σ=some (r,σ')) (hf:∀ l∈YX (.at io as_ σ.length),f l=false):ZQ io as_ (VU f σ)=some (r,VU f σ'):=by
 by_cases h0:kindOf io=0
 ·obtain ⟨e1,e2⟩:=KF h0 h
  rw[e1];exact e2 _
 have hn:kindOf io=2→f σ.length=false:=fun hk=>hf _ (by simp[YX,hk,O4])
 cases io <;> (try exact absurd rfl h0) <;> simp only[ZQ] at h ⊢
 case alloc zs =>
  unfold UO at h ⊢;split at h <;> (try (cases h;done))
  cases h;rw[JX (hn rfl),YA]
 case box =>
  unfold WI at h ⊢;split at h <;> (try (cases h;done))
  split at h <;> (try (cases h;done))
  rename_i hc
  cases h;rw[if_neg hc,JX (hn rfl),YA]
 case bslice e n zs ps =>
  unfold V4 at h ⊢
  simp only[QA] at h ⊢
  obtain ⟨cs,h1,h2⟩:=h
  cases h2
  exact ⟨cs,h1,by rw[JX (hn rfl),YA]⟩
 case load1 =>
  unfold KZ at h ⊢;split at h <;> (try (cases h;done))
  ·rename_i l off
   rw[JG (hf l (by simp[YX,JJ]))]
   simp only[QB,QA] at h ⊢;obtain ⟨cs,h1,v,h2,he⟩:=h;cases he;exact ⟨cs,h1,_,h2,rfl⟩
  ·simp only[QA] at h ⊢;obtain ⟨v,h1,he⟩:=h;cases he;exact ⟨v,h1,rfl⟩
 case loadN n =>
  unfold YF at h ⊢;split at h <;> (try (cases h;done))
  ·rename_i l off
   rw[JG (hf l (by simp[YX,JJ]))]
   simp only[QB] at h ⊢;obtain ⟨cs,h1,h⟩:=h
   split at h <;> (try (cases h;done))
   rename_i hc;cases h;exact ⟨cs,h1,by rw[if_pos hc]⟩
  ·split at h <;> (try (cases h;done))
   rename_i hc;cases h;rw[if_pos hc]
 case store n =>
  unfold UM at h ⊢;split at h <;> (try (cases h;done))
  rename_i l off v
  have hl:=hf l (by simp[YX,JJ])
  rw[JG hl]
  simp only[QB] at h ⊢;obtain ⟨cs,h1,h⟩:=h
  split at h <;> (try (cases h;done))
  rename_i hc;cases h;exact ⟨cs,h1,by rw[if_pos hc,KV hl]⟩
 case mkmap =>
  unfold KY at h ⊢;split at h <;> (try (cases h;done))
  cases h;rw[JX (hn rfl),YA]
 case mkslice e b zs =>
  unfold XB at h ⊢;split at h <;> (try (cases h;done))
  split at h <;> (try (cases h;done))
  rename_i hc
  cases h;rw[if_pos hc,JX (hn rfl),YA]
 case mksliceC e b zs =>
  unfold XR at h ⊢;split at h <;> (try (cases h;done))
  split at h <;> (try (cases h;done))
  rename_i hc
  cases h;rw[if_pos hc,JX (hn rfl),YA]
 case slA n e lo hi =>
  unfold OG at h ⊢;split at h <;> (try (cases h;done))
  rename_i l off bs
  rw[JG (hf l (by simp[YX,JJ]))]
  simp only[QB] at h ⊢;obtain ⟨cs,h1,p,h2,h⟩:=h
  split at h <;> (try (cases h;done))
  rename_i hc;cases h;exact ⟨cs,h1,p,h2,by rw[if_pos hc]⟩
 case append e b =>
  unfold ZX at h ⊢;split at h <;> (try (cases h;done))
  ·rename_i x
   rw[IG (fun l hl=>hf l (by simp[YX,hl]))]
   simp only[QB] at h ⊢;obtain ⟨new,h1,n,h2,h⟩:=h
   refine ⟨new,h1,n,h2,?_⟩
   split at h
   ·rename_i hc;cases h;rw[if_pos hc]
   ·rename_i hc
    rw[if_neg hc]
    split at h <;> (try (cases h;done))
    rename_i hc2;cases h;rw[if_pos hc2,JX (hn rfl),YA]
  ·rename_i l len e' x
   have hl:=hf l (by simp[YX,JJ])
   rw[IG (fun l hl=>hf l (by simp[YX,hl])),JG hl]
   simp only[QB] at h ⊢;obtain ⟨cs,h0,new,h1,n,h2,h⟩:=h
   refine ⟨cs,h0,new,h1,n,h2,?_⟩
   split at h <;> (try (cases h;done))
   rename_i hc2;cases h
   rw[if_pos hc2,JX (by rw[WE];exact hn rfl),KV hl,YA]
  ·rename_i l off len cap e' x
   have hl:=hf l (by simp[YX,JJ])
   rw[IG (fun l hl=>hf l (by simp[YX,hl])),JG hl]
   simp only[QB] at h ⊢;obtain ⟨cs,h0,new,h1,n,h2,h⟩:=h
   refine ⟨cs,h0,new,h1,n,h2,?_⟩
   split at h
   ·rename_i hcc;rw[if_pos hcc]
    split at h <;> (try (cases h;done))
    rename_i hc2;cases h;rw[if_pos hc2,KV hl]
   ·rename_i hcc;rw[if_neg hcc]
    split at h <;> (try (cases h;done))
    rename_i hc2;cases h;rw[if_pos hc2,JX (hn rfl),YA]
 case clear zs =>
  unfold UN at h ⊢;split at h <;> (try (cases h;done))
  ·rename_i l off len e'
   have hl:=hf l (by simp[YX,JJ])
   rw[JG hl]
   simp only[QB] at h ⊢;obtain ⟨cs,h0,h⟩:=h
   refine ⟨cs,h0,?_⟩
   split at h <;> (try (cases h;done))
   rename_i hc2;cases h
   rw[if_pos hc2,KV hl]
  ·rename_i l off len cap e'
   have hl:=hf l (by simp[YX,JJ])
   rw[JG hl]
   simp only[QB] at h ⊢;obtain ⟨cs,h0,h⟩:=h
   refine ⟨cs,h0,?_⟩
   split at h <;> (try (cases h;done))
   rename_i hc2;cases h
   rw[if_pos hc2,KV hl]
 case copy e =>
  unfold UE at h ⊢;split at h <;> (try (cases h;done))
  rename_i l off len e' x
  have hl:=hf l (by simp[YX,JJ])
  rw[IG (fun l hl=>hf l (by simp[YX,hl])),JG hl]
  simp only[QB] at h ⊢;obtain ⟨cs,h0,new,h1,n,h2,h⟩:=h
  refine ⟨cs,h0,new,h1,n,h2,?_⟩
  split at h <;> (try (cases h;done))
  rename_i hc2;cases h
  rw[if_pos hc2,KV hl]
 case lookup ks z ok =>
  unfold KL at h ⊢;split at h <;> (try (cases h;done))
  rename_i l k
  rw[E6 (hf l (by simp[YX,JJ]))]
  simp only[QB] at h ⊢;obtain ⟨es,h1,h⟩:=h
  refine ⟨es,h1,?_⟩
  split at h <;> (try (cases h;done))
  rename_i hc
  rw[if_neg hc]
  simp only[QA] at h ⊢;obtain ⟨v,h2,he⟩:=h;cases he;exact ⟨v,h2,rfl⟩
 case mapset ks =>
  unfold JZ at h ⊢;split at h <;> (try (cases h;done))
  rename_i l k v
  have hl:=hf l (by simp[YX,JJ])
  rw[E6 hl]
  simp only[QB] at h ⊢;obtain ⟨es,h1,h⟩:=h
  refine ⟨es,h1,?_⟩
  split at h <;> (try (cases h;done))
  rename_i hc
  rw[if_neg hc]
  simp only[QA] at h ⊢;obtain ⟨v,h2,he⟩:=h;cases he;exact ⟨v,h2,by rw[KV hl]⟩
 case mapdel ks =>
  unfold J0 at h ⊢;split at h <;> (try (cases h;done))
  rename_i l k
  have hl:=hf l (by simp[YX,JJ])
  rw[E6 hl]
  simp only[QB] at h ⊢;obtain ⟨es,h1,h⟩:=h
  refine ⟨es,h1,?_⟩
  split at h <;> (try (cases h;done))
  rename_i hc
  rw[if_neg hc]
  simp only[QA] at h ⊢;obtain ⟨v,h2,he⟩:=h;cases he;exact ⟨v,h2,by rw[KV hl]⟩
 case maplen =>
  unfold TS at h ⊢;split at h <;> (try (cases h;done))
  rename_i l
  rw[E6 (hf l (by simp[YX,JJ]))]
  simp only[QA] at h ⊢;obtain ⟨v,h2,he⟩:=h;cases he;exact ⟨v,h2,rfl⟩
 case appendz e b zs =>
  unfold VQ at h ⊢;split at h <;> (try (cases h;done))
  rename_i l off len cap e' k nn
  have hl:=hf l (by simp[YX,JJ])
  rw[JG hl]
  simp only[QB] at h ⊢;obtain ⟨cs,h0,h⟩:=h
  refine ⟨cs,h0,?_⟩
  split at h <;> (try (cases h;done))
  rename_i hc2;cases h
  rw[if_pos hc2,JX (hn rfl),YA]
 case stuck=>cases h
 case mapent=>cases h
 case entst=>cases h
 case rstr =>
  unfold F6 at h ⊢;split at h <;> (try (cases h;done))
  cases h;rw[JX (hn rfl),YA]
 case snext =>
  unfold KX at h ⊢;split at h <;> (try (cases h;done))
  rename_i l
  have hl:=hf l (by simp[YX,JJ])
  rw[QaZ hl]
  simp only[QA] at h ⊢;obtain ⟨sp,h2,h⟩:=h
  refine ⟨sp,h2,?_⟩
  split at h
  ·rename_i hc;cases h;rw[if_pos hc,KV hl]
  ·rename_i hc;cases h;rw[if_neg hc]
theorem QeA {σ:List AObj} {x:AObj} {l:Nat} (h:(σ++[x])[l]?≠σ[l]?):l=σ.length:=by
 rcases Nat.lt_trichotomy l σ.length with h1 | h1 | h1
 ·rw[QE h1] at h;exact absurd rfl h
 ·exact h1
 ·rw[QN (by simp;omega),QN (by omega)] at h;exact absurd rfl h
theorem ch_set {σ:List AObj} {x:AObj} {l l0:Nat} (h:(σ.set l0 x)[l]?≠σ[l]?):l=l0:=by
 by_cases h1:l0=l
 ·exact h1.symm
 ·rw[QU h1] at h;exact absurd rfl h
theorem stepF_ch {io:IOp} {as_:List AV} {σ σ':List AObj} {r:AV} (h:ZQ io as_ σ=some (r,σ')) {l:Nat} (hl:σ'[l]?≠σ[l]?):l∈YX (.at io as_ σ.length):=by
 by_cases h0:kindOf io=0
 ·rw[(KF h0 h).1] at hl;exact absurd rfl hl
 by_cases h1:kindOf io=1
 ·rw[GB h1 h] at hl;exact absurd rfl hl
 have hnew:kindOf io=2→∀ x,σ'=σ++[x]→l∈YX (.at io as_ σ.length):=fun hk x he=>by
  rw[he] at hl;rw[QeA hl];simp[YX,hk,O4]
 have hset:∀ l0 x,l0∈as_.flatMap JJ→σ'=σ.set l0 x→l∈YX (.at io as_ σ.length):=fun l0 x hm he=>by
  rw[he] at hl;rw[ch_set hl];simp only[YX,YV];exact .inl hm
 cases io <;> (try exact absurd rfl h0) <;> (try exact absurd rfl h1) <;> simp only[ZQ] at h
 case alloc zs =>
  unfold UO at h;split at h <;> (try (cases h;done))
  cases h;exact hnew rfl _ rfl
 case box =>
  unfold WI at h;split at h <;> (try (cases h;done))
  split at h <;> (try (cases h;done))
  cases h;exact hnew rfl _ rfl
 case bslice e n zs ps =>
  unfold V4 at h
  simp only[QA] at h
  obtain ⟨cs,h1,h2⟩:=h
  cases h2;exact hnew rfl _ rfl
 case store n =>
  unfold UM at h;split at h <;> (try (cases h;done))
  simp only[QB] at h;obtain ⟨cs,h1,h⟩:=h
  split at h <;> (try (cases h;done))
  cases h;exact hset _ _ (by simp[JJ]) rfl
 case mkmap =>
  unfold KY at h;split at h <;> (try (cases h;done))
  cases h;exact hnew rfl _ rfl
 case mkslice e b zs =>
  unfold XB at h;split at h <;> (try (cases h;done))
  split at h <;> (try (cases h;done))
  cases h;exact hnew rfl _ rfl
 case mksliceC e b zs =>
  unfold XR at h;split at h <;> (try (cases h;done))
  split at h <;> (try (cases h;done))
  cases h;exact hnew rfl _ rfl
 case append e b =>
  unfold ZX at h;split at h <;> (try (cases h;done))
  ·simp only[QB] at h;obtain ⟨new,h1,n,h2,h⟩:=h
   split at h
   ·cases h;exact absurd rfl hl
   ·split at h <;> (try (cases h;done))
    cases h;exact hnew rfl _ rfl
  ·rename_i l0 len e' x
   simp only[QB] at h;obtain ⟨cs,h0,new,h1,n,h2,h⟩:=h
   split at h <;> (try (cases h;done))
   cases h
   by_cases he:l=l0
   ·subst he;simp[YX,JJ]
   ·have:(σ.set l0 AObj.dead)[l]? = σ[l]? := QU (fun h=>he h.symm)
    rw[← this] at hl
    have:=QeA hl
    rw[WE] at this
    rw[this];simp[YX,kindOf,O4]
  ·simp only[QB] at h;obtain ⟨cs,h0,new,h1,n,h2,h⟩:=h
   split at h
   ·split at h <;> (try (cases h;done))
    cases h;exact hset _ _ (by simp[JJ]) rfl
   ·split at h <;> (try (cases h;done))
    cases h;exact hnew rfl _ rfl
 case clear zs =>
  unfold UN at h;split at h <;> (try (cases h;done)) <;> (
   simp only[QB] at h;obtain ⟨cs,h0,h⟩:=h
   split at h <;> (try (cases h;done))
   cases h;exact hset _ _ (by simp[JJ]) rfl)
 case copy e =>
  unfold UE at h;split at h <;> (try (cases h;done))
  simp only[QB] at h;obtain ⟨cs,h0,new,h1,n,h2,h⟩:=h
  split at h <;> (try (cases h;done))
  cases h;exact hset _ _ (by simp[JJ]) rfl
 case mapset ks =>
  unfold JZ at h;split at h <;> (try (cases h;done))
  simp only[QB] at h;obtain ⟨es,h1,h⟩:=h
  split at h <;> (try (cases h;done))
  simp only[QA] at h;obtain ⟨v,h2,he⟩:=h;cases he;exact hset _ _ (by simp[JJ]) rfl
 case mapdel ks =>
  unfold J0 at h;split at h <;> (try (cases h;done))
  simp only[QB] at h;obtain ⟨es,h1,h⟩:=h
  split at h <;> (try (cases h;done))
  simp only[QA] at h;obtain ⟨v,h2,he⟩:=h;cases he;exact hset _ _ (by simp[JJ]) rfl
 case appendz e b zs =>
  unfold VQ at h;split at h <;> (try (cases h;done))
  simp only[QB] at h;obtain ⟨cs,h0,h⟩:=h
  split at h <;> (try (cases h;done))
  cases h;exact hnew rfl _ rfl
 case stuck=>cases h
 case mapent=>cases h
 case entst=>cases h
 case rstr =>
  unfold F6 at h;split at h <;> (try (cases h;done))
  cases h;exact hnew rfl _ rfl
 case snext =>
  unfold KX at h;split at h <;> (try (cases h;done))
  simp only[QA] at h;obtain ⟨_,_,h⟩:=h;split at h <;> cases h
  ·exact hset _ _ (by simp[JJ]) rfl
  ·exact absurd rfl hl
end Go.Proofs.YtogjcmnopidfpaaGreat.AM
namespace Go.Proofs.YtogjcmnopidfpaaGreat.AM
set_option linter.unusedSectionVars false
variable [Dr]
open Go
set_option linter.unusedVariables false
set_option linter.unusedSimpArgs false
def Qaq (i:Ins):Bool:=match i.op with | .prim _=>true | .call=>false
def Qap:IOp→Bool
 | .alloc _ | .box | .bslice _ _ _ _ | .mkslice _ _ _ | .mkmap | .rstr | .mksliceC _ _ _ | .appendz _ _ _=>true
 | _=>false
def MW (i:Ins):Bool:=match i.op with | .prim io=>Qap io | .call=>false
theorem Qc1 {io:IOp} {as_:List AV} {σ σ':List AObj} {r:AV} (hp:Qap io=true) (h:ZQ io as_ σ=some (r,σ')):∃ o,σ'=σ++[o]:=by
 cases io <;> (try (cases hp;done)) <;> simp only[ZQ] at h
 case alloc zs=>unfold UO at h;split at h <;> cases h;exact ⟨_,rfl⟩
 case box=>unfold WI at h;split at h <;> (try (cases h;done));split at h <;> cases h;exact ⟨_,rfl⟩
 case bslice esz len zs ps=>unfold V4 at h;simp only[QA] at h;obtain ⟨v,hv,he⟩:=h;cases he;exact ⟨_,rfl⟩
 case mkslice esz bytes zs=>unfold XB at h;split at h <;> (try (cases h;done));split at h <;> cases h;exact ⟨_,rfl⟩
 case mkmap=>unfold KY at h;split at h <;> cases h;exact ⟨_,rfl⟩
 case appendz esz bytes zs=>unfold VQ at h;split at h <;> (try (cases h;done));simp only[QB] at h;obtain ⟨cs,hcs,h⟩:=h;split at h <;> cases h;exact ⟨_,rfl⟩
 case mksliceC esz bytes zs=>unfold XR at h;split at h <;> (try (cases h;done));split at h <;> cases h;exact ⟨_,rfl⟩
 case rstr=>unfold F6 at h;split at h <;> cases h;exact ⟨_,rfl⟩
theorem CG {σ:List AObj} {f:Nat→Bool} (h:∀ l,l<σ.length→f l=false):VU f σ=σ:=by
 apply Z1
 intro l
 rw[J6]
 by_cases hl:l<σ.length
 ·simp[h l hl,hl]
 ·simp[hl]
def Qa8 (ops:Array Oper) (is:List Ins) (pds:List (List Nat)) (kp:List Nat) (xs:List (Nat × Nat)):Bool :=
 (xs.all fun p=>decide (p.2<is.length)&&match is[p.1]? with | some i=>Qaq i||(decide (p.1<p.2)&&(match is[p.2]? with | some i'=>MW i' | none=>false)) | none=>false) &&
 (List.range ops.size).all fun j =>
  (V9 ops j).all (fun e=>decide (e<j)) &&
  (pdAt pds j).all (fun k=>decide (k<j)&&((V9 ops j).contains k||(V9 ops j).any fun e=>(pdAt pds e).contains k)) &&
  match is[j]? with
  | none=>true
  | some i=>AU i&&i.args.all (fun | .t k=>(pdAt pds j).contains k | _=>true)&&(match i.gd with | some (k,_)=>(pdAt pds j).contains k | none=>true) &&
   (List.range ops.size).all fun k =>
    match is[k]? with
    | none=>true
    | some i'=>decide (j=k)||(pdAt pds j).contains k||(pdAt pds k).contains j ||
      ((match i'.dst with | some x=>!IU x i | none=>true)&&(!(decide (JA kp k i'=2)&&decide (JA kp j i≠0))||xs.contains (j,k)))
def RQ (dirs:List (List Nat)) (is:List Ins) (pds:List (List Nat)) (kp:List Nat) (xs:List (Nat × Nat)):Bool :=
 (xs.all fun p=>decide (p.2<is.length)&&match is[p.1]? with | some i=>Qaq i||(decide (p.1<p.2)&&(match is[p.2]? with | some i'=>MW i' | none=>false)) | none=>false) &&
 (List.range dirs.length).all fun j =>
  (dirs.getD j []).all (fun e=>decide (e<j)) &&
  (pdAt pds j).all (fun k=>decide (k<j)&&((dirs.getD j []).contains k||(dirs.getD j []).any fun e=>(pdAt pds e).contains k)) &&
  match is[j]? with
  | none=>true
  | some i=>AU i&&i.args.all (fun | .t k=>(pdAt pds j).contains k | _=>true)&&(match i.gd with | some (k,_)=>(pdAt pds j).contains k | none=>true) &&
   (List.range dirs.length).all fun k =>
    match is[k]? with
    | none=>true
    | some i'=>decide (j=k)||(pdAt pds j).contains k||(pdAt pds k).contains j ||
      ((match i'.dst with | some x=>!IU x i | none=>true)&&(!(decide (JA kp k i'=2)&&decide (JA kp j i≠0))||xs.contains (j,k)))
theorem AA {ops:Array Oper} {is:List Ins} {pds:List (List Nat)} {kp:List Nat} {xs:List (Nat × Nat)} (h:RQ (UU ops) is pds kp xs=true):Qa8 ops is pds kp xs=true:=by
 have hl:(UU ops).length=ops.size:=by simp[UU]
 have hg:∀ j,j<ops.size→(UU ops).getD j []=V9 ops j:=fun j hj=>by simp[UU,List.getD,hj]
 unfold RQ at h
 unfold Qa8
 rw[hl,QD] at h
 rw[QD]
 refine ⟨h.1,?_⟩
 have h:=h.2
 rw[Q1] at h ⊢
 intro j hj
 have hj':j<ops.size:=by simpa using hj
 have:=h j hj
 rw[hg j hj'] at this
 exact this
def xOne:List Nat→List AObj→List AObj→Prop
 | [],_,_=>True
 | l::ls,a,b=>a[l]? = b[l]?∧xOne ls a b
theorem QbS:∀ {ls:List Nat} {a b:List AObj},xOne ls a b→∀ l∈ls,a[l]? = b[l]?
 | [],_,_,_,l,hl=>by simp at hl
 | l0::ls,a,b,h,l,hl=>by
  rcases ZD.1 hl with rfl | hl
  ·exact h.1
  ·exact QbS h.2 l hl
def xAll:List (Nat × Nat)→List PlT→List (List AObj)→Prop
 | [],_,_=>True
 | p::xs,pl,hs=>xOne (YX (pl.getD p.1 .no)) (hs.getD (p.2+1) []) (hs.getD p.2 [])∧xAll xs pl hs
theorem QbT:∀ {xs:List (Nat × Nat)} {pl:List PlT} {hs:List (List AObj)},xAll xs pl hs→∀ a k,(a,k)∈xs→∀ l∈YX (pl.getD a .no),(hs.getD (k+1) [])[l]? = (hs.getD k [])[l]?
 | [],pl,hs,_,a,k,hm,l,hl=>by simp at hm
 | p::xs,pl,hs,h,a,k,hm,l,hl=>by
  simp only[xAll] at h
  rcases ZD.1 hm with rfl | hm
  ·exact QbS h.1 l hl
  ·exact QbT h.2 a k hm l hl
def RPx (P:Program) (kp:List Nat) (xs:List (Nat × Nat)):Nat→List Ins→List PlT→List (List AObj)→List AV→List AV→List AObj→(List AV→List AV→List AObj→Prop)→Prop
 | _,[],pl,hs,vals,ρ,σ,K=>xAll xs pl (hs++[σ])∧K vals ρ σ
 | j,i::is,pl,hs,vals,ρ,σ,K =>
  match gdOk ρ i.gd with
  | none=>False
  | some false=>RPx P kp xs (j+1) is (pl++[.no]) (hs++[σ]) (setD i.dst vals (.tup [])) (ρ++[.tup []]) σ K
  | some true =>
   match i.op,i.args.map (WY vals ρ) with
   | .prim io,as_ =>
    match ZQ io as_ σ with
    | some (v,σ')=>RPx P kp xs (j+1) is (pl++[plOf i as_ σ]) (hs++[σ]) (setD i.dst vals v) (ρ++[v]) σ' K
    | none=>False
   | .call,fv::as_=>if kp.contains j then ∃ v,X0 P fv as_ σ (fun v' τ'=>v'=v∧τ'=σ)∧QR σ.length v=true∧RPx P kp xs (j+1) is (pl++[.no]) (hs++[σ]) (setD i.dst vals v) (ρ++[v]) σ K
     else ∃ v τ,X0 P fv as_ σ (fun v' τ'=>v'=v∧τ'=τ)∧HM σ v τ∧RPx P kp xs (j+1) is (pl++[.no]) (hs++[σ]) (setD i.dst vals v) (ρ++[v]) τ K
   | .call,[]=>False
variable {P:Program} {fx:Fx} {Q:Exit→St→Prop} {s:St}
def plAt (is:List Ins) (V:Nat→List AV) (pre:List AV) (r:Nat→AV) (S:Nat→List AObj) (q:Nat):PlT :=
 match is[q]? with
 | some i=>match gdOk (pre++(List.range q).map r) i.gd with
  | some true=>plOf i (i.args.map (WY (V q) (pre++(List.range q).map r))) (S q)
  | _=>.no
 | none=>.no
theorem QaN {kp:List Nat} {xs:List (Nat × Nat)} {K:List AV→List AV→List AObj→Prop}:∀ (is:List Ins) (j:Nat) (pl:List PlT) (hs:List (List AObj)) (vals ρ:List AV) (σ:List AObj),RPx P kp xs j is pl hs vals ρ σ K →
  ∃ (V:Nat→List AV) (r:Nat→AV) (S:Nat→List AObj),V 0=vals∧S 0=σ ∧
   (∀ (q:Nat) i,is[q]? = some i→V (q+1)=setD i.dst (V q) (r q)∧VS P kp (j+q) i (V q) (ρ++(List.range q).map r) (S q) (r q) (S (q+1))) ∧
   xAll xs (pl++(List.range is.length).map (plAt is V ρ r S)) (hs++(List.range (is.length+1)).map S) ∧
   K (V is.length) (ρ++(List.range is.length).map r) (S is.length)
 | [],j,pl,hs,vals,ρ,σ,h=>⟨fun _=>vals,fun _=>.undef,fun _=>σ,rfl,rfl,by simp,by simpa[RPx] using h.1,by simpa[RPx] using h.2⟩
 | i :: is,j,pl,hs,vals,ρ,σ,h=>by
  have main:∀ v τ p,p=(match gdOk ρ i.gd with | some true=>plOf i (i.args.map (WY vals ρ)) σ | _=>.no)→VS P kp j i vals ρ σ v τ→RPx P kp xs (j+1) is (pl++[p]) (hs++[σ]) (setD i.dst vals v) (ρ++[v]) τ K →
    ∃ (V:Nat→List AV) (r:Nat→AV) (S:Nat→List AObj),V 0=vals∧S 0=σ ∧
    (∀ (q:Nat) i',(i::is)[q]? = some i'→V (q+1)=setD i'.dst (V q) (r q)∧VS P kp (j+q) i' (V q) (ρ++(List.range q).map r) (S q) (r q) (S (q+1))) ∧
    xAll xs (pl++(List.range (i::is).length).map (plAt (i::is) V ρ r S)) (hs++(List.range ((i::is).length+1)).map S) ∧
    K (V (i::is).length) (ρ++(List.range (i::is).length).map r) (S (i::is).length):=by
   intro v τ p hp hs' hr
   obtain ⟨V,r,S,h1,h2,h3,hx3,h4⟩:=QaN is (j+1) (pl++[p]) (hs++[σ]) _ _ _ hr
   have hrg:∀ q,(List.range (q+1)).map (fun q=>match q with | 0=>v | q+1=>r q)=v::(List.range q).map r:=by
    intro q;rw[UR];simp[Function.comp_def]
   have hrgS:∀ q,(List.range (q+1)).map (fun q=>match q with | 0=>σ | q+1=>S q)=σ::(List.range q).map S:=by
    intro q;rw[UR];simp[Function.comp_def]
   refine ⟨fun q=>match q with | 0=>vals | q+1=>V q,fun q=>match q with | 0=>v | q+1=>r q,fun q=>match q with | 0=>σ | q+1=>S q,rfl,rfl,?_,?_,?_⟩
   ·intro q i' hq
    cases q with
    | zero =>
     simp at hq;subst hq
     refine ⟨by simp[h1],?_⟩
     simpa[h2] using hs'
    | succ q =>
     simp at hq
     obtain ⟨g1,g2⟩:=h3 q i' hq
     refine ⟨g1,?_⟩
     rw[hrg,show j+(q+1)=j+1+q by omega]
     simpa using g2
   ·have e:∀ q,(List.range (q+1)).map (plAt (i::is) (fun q=>match q with | 0=>vals | q+1=>V q) ρ (fun q=>match q with | 0=>v | q+1=>r q) (fun q=>match q with | 0=>σ | q+1=>S q))=p::(List.range q).map (plAt is V (ρ++[v]) r S):=by
     intro q
     rw[UR]
     simp only[Q0,XW,List.cons.injEq]
     refine ⟨?_,JI fun k _=>?_⟩
     ·rw[hp];simp[plAt]
     ·simp only[Function.comp,plAt,List.getElem?_cons_succ]
      rw[hrg]
      simp
    simp only[List.length_cons]
    rw[e,hrgS]
    simpa using hx3
   ·simp only[List.length_cons]
    rw[hrg];simpa using h4
  simp only[RPx] at h
  cases hg:gdOk ρ i.gd with
  | none=>rw[hg] at h;exact h.elim
  | some b =>
   rw[hg] at h
   cases b with
   | false=>exact main (.tup []) σ .no (by rw[hg]) (by simp[VS,hg]) h
   | true =>
    simp only at h
    cases hop:i.op with
    | prim io =>
     simp only[hop] at h
     cases hst:ZQ io (i.args.map (WY vals ρ)) σ with
     | none=>rw[hst] at h;exact h.elim
     | some p=>rw[hst] at h;exact main p.1 p.2 _ (by rw[hg]) (by simp[VS,hg,hop,hst]) h
    | call =>
     have hpl:∀ as_,plOf i as_ σ=.no:=fun as_=>by simp[plOf,hop]
     simp only[hop] at h
     cases hargs:i.args.map (WY vals ρ) with
     | nil=>rw[hargs] at h;exact h.elim
     | cons fv as_ =>
      rw[hargs] at h
      simp only at h
      split at h
      ·rename_i hk
       obtain ⟨v,h1,h2,h3⟩:=h
       exact main v σ .no (by rw[hg,hpl]) (by simp only[VS,hg,hop,hargs];exact ⟨h1,.refl h2,fun _=>trivial⟩) h3
      ·rename_i hk
       obtain ⟨v,τ,h1,h2,h3⟩:=h
       exact main v τ .no (by rw[hg,hpl]) (by simp only[VS,hg,hop,hargs];exact ⟨h1,h2,fun h=>absurd h hk⟩) h3
theorem PE {id:Nat} {ops:Array Oper} {is:List Ins} (pds:List (List Nat)) (kp:List Nat) (xs:List (Nat × Nat)) (hmix:P.follows .mixedOrders=true) (hc:VY P fx.vars fx.N ops=some is) (hord:Qa8 ops is pds kp xs=true)
  (hvl:s.vals.length=fx.vars.length) (h:RPx P kp xs 0 is [] [] s.vals [] s.heap fun vals _ σ=>Q .normal ⟨vals,σ⟩):W P fx (.region id ops true) s Q:=by
 intro m X en ac w hs hr
 obtain ⟨V,r,S,hV0,hS0,htr,hx0,hK⟩:=QaN is 0 [] [] _ _ _ h
 simp only[List.nil_append,ZV] at htr hK hx0
 have hlen:is.length=ops.size:=by
  unfold VY at hc
  split at hc
  ·rw[UV] at hc
   have key:∀ (l:List Oper) (js:List Ins),l.mapM (JP P fx.vars (ops.toList.map (·.dst)))=some js→js.length=l.length:=by
    intro l
    induction l with
    | nil=>intro js h;simp at h;subst h;rfl
    | cons x l ih =>
     intro js h
     simp only[WV,Option.bind_eq_bind,QB,Option.pure_def,Option.some.injEq] at h
     obtain ⟨i,_,js',h2,rfl⟩:=h
     simp[ih _ h2]
   simpa using key _ _ hc
  ·cases hc
 simp only[Qa8,QD] at hord
 obtain ⟨hxs,hord⟩:=hord
 rw[Q1] at hxs
 simp only[Q1,ZI,QD,decide_eq_true_eq] at hord
 have hi:∀ j,j<ops.size→∃ i,is[j]? = some i:=fun j hj=>⟨is[j],QI (by omega)⟩
 have hlt:∀ (j:Nat) i,is[j]? = some i→j<ops.size:=fun j i h=>by have:=(QH.1 h).1;omega
 have st:=fun (j:Nat) (i:Ins) (h:is[j]? = some i)=>by
  have:=(hord j (hlt j i h)).2
  rw[h] at this
  simpa only[QD,Q1,ZI] using this
 have hpair:∀ (j k:Nat) i i',is[j]? = some i→is[k]? = some i'→j≠k→k∉pdAt pds j→j∉pdAt pds k→(∀ x,i'.dst=some x→IU x i=false)∧(JA kp k i'=2→JA kp j i=0∨(j,k)∈xs):=by
  intro j k i i' hj hk hne h1 h2
  have:=(st j i hj).2 k (hlt k i' hk)
  rw[hk] at this
  simp only[WR,decide_eq_true_eq,XS,hne,h1,h2,false_or,QD,Z0,Bool.and_eq_false_iff,decide_eq_false_iff_not,ne_eq,JE] at this
  refine ⟨fun x hx=>?_,fun h2=>?_⟩
  ·have:=this.1;rw[hx] at this;simpa using this
  ·rcases this.2 with (h | h) | h
   ·exact absurd h2 h
   ·exact .inl h
   ·exact .inr h
 have hxl:∀ (j k:Nat),(j,k)∈xs→k<is.length∧∃ i,is[j]? = some i∧((∃ io,i.op=.prim io)∨(i.op=.call∧j<k∧∃ i' io,is[k]? = some i'∧i'.op=.prim io∧Qap io=true)):=by
  intro j k hm
  have:=hxs _ hm
  simp only[QD,decide_eq_true_eq] at this
  obtain ⟨h1,h2⟩:=this
  refine ⟨h1,?_⟩
  cases hij:is[j]? with
  | none=>rw[hij] at h2;simp at h2
  | some i =>
   rw[hij] at h2
   refine ⟨i,rfl,?_⟩
   cases hop:i.op with
   | prim io=>exact .inl ⟨io,rfl⟩
   | call =>
    simp only[Qaq,hop,Y3,QD,decide_eq_true_eq] at h2
    obtain ⟨h4,h5⟩:=h2
    refine .inr ⟨rfl,h4,?_⟩
    cases hik:is[k]? with
    | none=>rw[hik] at h5;cases h5
    | some i' =>
     rw[hik] at h5
     simp only[MW] at h5
     split at h5
     ·rename_i io ho;exact ⟨i',io,rfl,ho,h5⟩
     ·cases h5
 have hx:∀ (j k:Nat) (i:Ins),(j,k)∈xs→is[j]? = some i→gdOk ((List.range j).map r) i.gd=some true→∀ l∈YX (plOf i (i.args.map (WY (V j) ((List.range j).map r))) (S j)),(S (k+1))[l]? = (S k)[l]? := by
  intro j k i hm hij hg l hl
  obtain ⟨hk,_⟩:=hxl j k hm
  have hjl:j<is.length:=(QH.1 hij).1
  have:=QbT hx0 j k hm l (by simpa[List.getD,ZR,List.getElem?_range hjl,plAt,hij,hg] using hl)
  simpa[List.getD,ZR,List.getElem?_range (show k+1<is.length+1 by omega),List.getElem?_range (show k<is.length+1 by omega)] using this
 have stepcases:∀ (j:Nat) i,is[j]? = some i→(S j).length≤(S (j+1)).length∧(JA kp j i≠2→S (j+1)=S j)∧(∀ (l:Nat) o,(S j).length≤l→(S (j+1))[l]? = some o→o.live) ∧
   (Cl (S j)→QO (S j).length (V j)=true→QO (S j).length ((List.range j).map r)=true→Cl (S (j+1))∧QR (S (j+1)).length (r j)=true):=by
  intro j i hj
  have hso:=(htr j i hj).2
  unfold VS at hso
  have same:r j=.tup []→S (j+1)=S j→_:=fun (e1:r j=.tup []) (e2:S (j+1)=S j)=>show (S j).length≤(S (j+1)).length∧(JA kp j i≠2→S (j+1)=S j)∧(∀ (l:Nat) o,(S j).length≤l→(S (j+1))[l]? = some o→o.live) ∧
   (Cl (S j)→QO (S j).length (V j)=true→QO (S j).length ((List.range j).map r)=true→Cl (S (j+1))∧QR (S (j+1)).length (r j)=true) from by
    rw[e2,e1]
    refine ⟨QG _,fun _=>rfl,fun l o hl ho=>?_,fun h _ _=>⟨h,rfl⟩⟩
    rw[QN hl] at ho;cases ho
  split at hso
  ·exact hso.elim
  ·exact same hso.1 hso.2
  ·cases hop:i.op with
   | prim io =>
    simp only[hop] at hso
    have hk:JA kp j i=kindOf io:=by simp[JA,hop]
    refine ⟨ED hso,fun hk2=>?_,BL hso,fun h1 h2 h3=>?_⟩
    ·rw[hk] at hk2
     by_cases h0:kindOf io=0
     ·exact (KF h0 hso).1
     ·by_cases h1:kindOf io=1
      ·exact GB h1 hso
      ·have:=AP io
       omega
    ·have hcl:=(st j i hj).1.1.1
     unfold AU at hcl
     rw[hop] at hcl
     simp only[QD,Q1] at hcl
     have:=BM hcl.1 (Z8.2 fun v hv=>by
      obtain ⟨x,hx,rfl⟩:=ZP.1 hv
      exact CO h2 h3 (hcl.2 x hx)) h1 hso
     exact ⟨this.2,this.1⟩
   | call =>
    have hso':∃ σ0,HM σ0 (r j) (S (j+1))∧σ0=S j∧(kp.contains j=true→S (j+1)=S j):=by
     cases has:i.args.map (WY (V j) ((List.range j).map r)) with
     | nil=>simp only[hop,has] at hso
     | cons fv as_=>simp only[hop,has] at hso;exact ⟨S j,hso.2.1,rfl,hso.2.2⟩
    obtain ⟨_,⟨g1,g2,g3⟩,rfl,g4⟩:=hso'
    refine ⟨g2,fun hk2=>?_,fun l o hl ho=>(g3 l o ho (by rw[QN hl];simp)).2 hl,fun h1 _ _=>⟨fun l o ho=>?_,g1⟩⟩
    ·simp only[JA,hop] at hk2
     by_cases hkp:kp.contains j=true
     ·exact g4 hkp
     ·rw[if_neg hkp] at hk2;exact absurd rfl hk2
    ·by_cases he:(S j)[l]? = some o
     ·exact H1 _ _ o g2 (h1 l o he)
     ·exact (g3 l o ho he).1
 have inv:∀ j,j≤ops.size→Cl (S j)∧QO (S j).length (V j)=true∧QO (S j).length ((List.range j).map r)=true:=by
  intro j
  induction j with
  | zero =>
   intro _
   rw[hS0,hV0]
   exact ⟨fun l o ho=>hs.heap.closed l o ho,hs.vals_locs (Nat.le_of_eq hvl),rfl⟩
  | succ j ih =>
   intro hj
   obtain ⟨i,hij⟩:=hi j (by omega)
   obtain ⟨h1,h2,h3⟩:=ih (by omega)
   obtain ⟨g1,_,_,g4⟩:=stepcases j i hij
   obtain ⟨g5,g6⟩:=g4 h1 h2 h3
   refine ⟨g5,?_,?_⟩
   ·rw[(htr j i hij).1]
    unfold setD;split
    ·exact R9 (YL g1 h2) g6
    ·exact YL g1 h2
   ·rw[WM,ZS]
    exact VN (YL g1 h3) (by simp[QO,g6])
 have hmono:∀ j d,j+d≤ops.size→(S j).length≤(S (j+d)).length:=by
  intro j d
  induction d with
  | zero=>intro _;exact QG _
  | succ d ih =>
   intro hd
   obtain ⟨i3,hi3⟩:=hi (j+d) (by omega)
   exact YR (ih (by omega)) (stepcases (j+d) i3 hi3).1
 have hpush:∀ (j k:Nat) (i':Ins) (io:IOp),j<k→is[k]? = some i'→i'.op=.prim io→Qap io=true→∀ l,(S (k+1))[l]?≠(S k)[l]?→(S (j+1)).length≤l:=by
  intro j k i' io hjk hik e4 e5 l hch2
  have hle:=hmono (j+1) (k-(j+1)) (by have:=hlt k i' hik;omega)
  rw[show j+1+(k-(j+1))=k by omega] at hle
  have hso2:=(htr k i' hik).2
  unfold VS at hso2
  split at hso2
  ·exact hso2.elim
  ·exact absurd (by rw[hso2.2]) hch2
  ·simp only[e4] at hso2
   obtain ⟨o,ho⟩:=Qc1 e5 hso2
   refine Nat.le_of_not_lt fun hl=>hch2 ?_
   rw[ho,QE (by omega)]
 let kd:Nat→Nat:=fun j=>match is[j]? with | some i=>JA kp j i | none=>0
 have hkd:∀ (j:Nat) i,is[j]? = some i→kd j=JA kp j i:=fun j i h=>by simp only[kd,h]
 let ch:Nat→Nat→Bool:=fun k l=>Classical.propDecidable (kd k=2∧(S (k+1))[l]?≠(S k)[l]?) |>.decide
 let hd:Nat→Nat→Bool:=fun j l=>Classical.propDecidable ((kd j=0∨∃ k',(j,k')∈xs)∧∃ k,k<ops.size∧k≠j∧k∉pdAt pds j∧j∉pdAt pds k∧ch k l=true) |>.decide
 have hch:∀ k l,ch k l=true↔(kd k=2∧(S (k+1))[l]?≠(S k)[l]?):=fun k l=>by simp only[ch,decide_eq_true_eq]
 have hhd:∀ j l,hd j l=true↔((kd j=0∨∃ k',(j,k')∈xs)∧∃ k,k<ops.size∧k≠j∧k∉pdAt pds j∧j∉pdAt pds k∧ch k l=true):=fun j l=>by simp only[hd,decide_eq_true_eq]
 have hF : Free P fx ops is V r S (pdAt pds) ch hd:=by
  refine ⟨?_,?_,?_,by rw[hV0];exact hvl,fun j i hj=>(htr j i hj).1,?_,?_,?_,?_,?_,?_,?_,?_,?_,?_,?_,?_⟩
  ·intro j hj e he;exact (hord j hj).1.1 e he
  ·intro j hj k hk;exact ((hord j hj).1.2 k hk).1
  ·intro j hj k hk
   have:=((hord j hj).1.2 k hk).2
   simp only[WR,XS,ZZ] at this
   exact this
  ·intro j hj;obtain ⟨i,hij⟩:=hi j hj;exact (stepcases j i hij).1
  ·intro j hj l hcl
   obtain ⟨i,hij⟩:=hi j hj
   by_cases hk:JA kp j i=2
   ·by_cases he:(S (j+1))[l]? = (S j)[l]?
    ·exact he
    ·have:=(hch j l).2 ⟨by rw[hkd j i hij];exact hk,he⟩
     rw[this] at hcl;cases hcl
   ·rw[(stepcases j i hij).2.1 hk]
  ·intro j hj l hcl
   obtain ⟨i,hij⟩:=hi j hj
   obtain ⟨_,hne⟩:=(hch j l).1 hcl
   rcases ZB l (S (j+1)).length with h | h
   ·exact h
   ·have:=(stepcases j i hij).1
    rw[QN h,QN (by omega)] at hne
    exact absurd rfl hne
  ·intro j k hj hk hne h1 h2 l hcl
   obtain ⟨i,hij⟩:=hi j hj
   obtain ⟨i',hik⟩:=hi k hk
   obtain ⟨hk2,_⟩:=(hch k l).1 hcl
   rw[hkd k i' hik] at hk2
   have h0:=(hpair j k i i' hij hik (Ne.symm hne) h1 h2).2 hk2
   exact (hhd j l).2 ⟨h0.imp (fun h=>by rw[hkd j i hij];exact h) (fun h=>⟨k,h⟩),k,hk,hne,h1,h2,hcl⟩
  ·intro j hj l hcl
   obtain ⟨hk2,hcj⟩:=(hch j l).1 hcl
   cases hb:hd j l with
   | false=>rfl
   | true =>
    obtain ⟨h,k,hk,hne,h1,h2,hclk⟩:=(hhd j l).1 hb
    rcases h with h | ⟨k',h⟩
    ·omega
    ·obtain ⟨_,i,e1,hpc⟩:=hxl j k' h
     rcases hpc with ⟨io,e2⟩ | ⟨e2,_⟩
     rotate_left
     ·obtain ⟨i',hik⟩:=hi k hk
      obtain ⟨hkk2,hch2⟩:=(hch k l).1 hclk
      rw[hkd k i' hik] at hkk2
      rw[hkd j i e1] at hk2
      rcases (hpair j k i i' e1 hik (Ne.symm hne) h1 h2).2 hkk2 with h3 | h3
      ·omega
      obtain ⟨_,i0,f1,hpc⟩:=hxl j k h3
      rw[e1] at f1;cases f1
      rcases hpc with ⟨io,e3⟩ | ⟨_,hjk,i2,io,e3,e4,e5⟩
      ·rw[e2] at e3;cases e3
      rw[hik] at e3;cases e3
      have hge:=hpush j k i' io hjk hik e4 e5 l hch2
      have hge2:=(stepcases j i e1).1
      rw[QN hge,QN (by omega)] at hcj
      exact absurd rfl hcj
     obtain ⟨i',hik⟩:=hi k hk
     obtain ⟨hkk2,hch2⟩:=(hch k l).1 hclk
     rw[hkd k i' hik] at hkk2
     rw[hkd j i e1] at hk2
     have hso:=(htr j i e1).2
     unfold VS at hso
     split at hso
     ·exact hso.elim
     ·exact absurd (by rw[hso.2]) hcj
     ·rename_i hg
      simp only[e2] at hso
      have hmem:=stepF_ch hso hcj
      rcases (hpair j k i i' e1 hik (Ne.symm hne) h1 h2).2 hkk2 with h3 | h3
      ·omega
      ·exact absurd (hx j k i h3 e1 hg l (by simp only[plOf,e2];exact hmem)) hch2
  ·intro j hj l o hl ho;obtain ⟨i,hij⟩:=hi j hj;exact (stepcases j i hij).2.2.1 l o hl ho
  ·intro j hj;obtain ⟨i,hij⟩:=hi j hj;obtain ⟨h1,h2,h3⟩:=inv j (by omega);exact ((stepcases j i hij).2.2.2 h1 h2 h3).2
  ·intro j hj l o _ ho;exact (inv (j+1) (by omega)).1 l o ho
  ·intro j i hj k hk
   have:=(st j i hj).1.1.2 _ hk
   simpa using this
  ·intro j i k b hj hg
   have:=(st j i hj).1.2
   rw[hg] at this
   simpa using this
  ·intro j k i i' x hj hk hne hx hor
   by_cases h1:k∈pdAt pds j
   ·exact .inl h1
   by_cases h2:j∈pdAt pds k
   ·exact .inr h2
   have:=(hpair j k i i' hj hk hne h1 h2).1 x hx
   simp only[IU,X8,W6] at this
   rcases hor with hor | hor
   ·have h3:=this.1 _ hor;simp at h3
   ·have h3:=this.2;rw[hor] at h3;simp at h3
  ·intro j i hj
   have hso:=(htr j i hj).2
   unfold VS at hso
   split at hso
   ·rename_i hg;exact hso.elim
   ·rename_i hg;rw[hg];exact hso
   ·rename_i hg;rw[hg]
    simp only
    have heapy:kd j≠0→(∀ k',(j,k')∉xs)→∀ l,hd j l=false:=fun hne hnx l=>by
     cases hb:hd j l with
     | false=>rfl
     | true =>
      rcases ((hhd j l).1 hb).1 with h | ⟨k',h⟩
      ·exact absurd h hne
      ·exact absurd h (hnx k')
    cases hop:i.op with
    | prim io =>
     simp only[hop] at hso
     have hk:kd j=kindOf io:=by rw[hkd j i hj];simp[JA,hop]
     by_cases h0:kindOf io=0
     ·obtain ⟨e1,e2⟩:=KF h0 hso
      rw[e1];exact e2 _
     by_cases hxj:∃ k',(j,k')∈xs
     ·refine Qc3 hso fun l hl=>?_
      cases hb:hd j l with
      | false=>rfl
      | true =>
       obtain ⟨_,k,hk',hne,h1,h2,hcl⟩:=(hhd j l).1 hb
       obtain ⟨i',hik⟩:=hi k hk'
       obtain ⟨hk2,hch2⟩:=(hch k l).1 hcl
       rw[hkd k i' hik] at hk2
       rcases (hpair j k i i' hj hik (Ne.symm hne) h1 h2).2 hk2 with h | h
       ·rw[← hkd j i hj] at h;omega
       ·exact absurd (hx j k i h hj hg l (by simp only[plOf,hop];exact hl)) hch2
     ·have hnx:∀ k',(j,k')∉xs:=fun k' h=>hxj ⟨k',h⟩
      rw[KJ _ _ (heapy (by omega) hnx),KJ _ _ (heapy (by omega) hnx)]
      exact hso
    | call =>
     have hk:kd j≠0:=by rw[hkd j i hj];simp only[JA,hop];split <;> omega
     have hhigh:∀ l,l<(S (j+1)).length→hd j l=false:=fun l hl=>by
      cases hb:hd j l with
      | false=>rfl
      | true =>
       obtain ⟨hor,k,hk',hne,h1,h2,hcl⟩:=(hhd j l).1 hb
       obtain ⟨i',hik⟩:=hi k hk'
       obtain ⟨hk2,hch2⟩:=(hch k l).1 hcl
       rw[hkd k i' hik] at hk2
       rcases (hpair j k i i' hj hik (Ne.symm hne) h1 h2).2 hk2 with h | h
       ·rw[← hkd j i hj] at h;exact absurd h hk
       ·obtain ⟨_,i0,e1,hpc⟩:=hxl j k h
        rw[hj] at e1;cases e1
        rcases hpc with ⟨io,e2⟩ | ⟨_,hjk,i2,io,e3,e4,e5⟩
        ·rw[hop] at e2;cases e2
        ·rw[hik] at e3;cases e3
         have:=hpush j k i' io hjk hik e4 e5 l hch2
         omega
     by_cases hxj:∃ k',(j,k')∈xs
     ·cases has:i.args.map (WY (V j) ((List.range j).map r)) with
      | nil=>simp only[hop,has] at hso
      | cons fv as_ =>
       simp only[hop,has] at hso ⊢
       have g:=hso.1
       have hge2:=(stepcases j i hj).1
       rw[CG hhigh,CG fun l hl=>hhigh l (by omega)]
       exact g
     have hnx:∀ k',(j,k')∉xs:=fun k' h=>hxj ⟨k',h⟩
     rw[KJ _ _ (heapy hk hnx),KJ _ _ (heapy hk hnx)]
     cases has:i.args.map (WY (V j) ((List.range j).map r)) with
     | nil=>simp only[hop,has] at hso
     | cons fv as_=>simp only[hop,has] at hso ⊢;exact hso.1
 exact PG hmix hc hF hV0 hS0 (by rw[hlen] at hK;exact hK) m X en ac w hs hr
theorem DW_ordx {dirs:List (List Nat)} {is:List Ins} (kp:List Nat) (xs:List (Nat × Nat)) (hmix:P.follows .mixedOrders=true) (hord:RQ dirs is (Qbd dirs []) kp xs=true) (hvl:s.vals.length=fx.vars.length)
  (h:RPx P kp xs 0 is [] [] s.vals [] s.heap fun vals _ σ=>Q .normal ⟨vals,σ⟩):DW P fx dirs is s Q:=by
 rintro id ops rfl hc
 exact PE _ kp xs hmix hc (AA hord) hvl h
end Go.Proofs.YtogjcmnopidfpaaGreat.AM
namespace Go.Proofs.YtogjcmnopidfpaaGreat.AM
variable [Dr]
open Go
mutual
inductive FrzC (p:CV→Prop) (σ:List AObj):AV→CV→Prop
 | c (c:CV):p c→FrzC p σ (.cv c) c
 | nl:FrzC p σ (.cv .nils) (.rsl [] 0)
 | sl (l off len esz:Nat) (cs:List AV) (ds:List CV):rowOf σ l=some cs→off+len*esz≤cs.length→HL p σ ((cs.drop off).take (len*esz)) ds→FrzC p σ (.sl l off len esz) (.rsl ds len)
 | ptr (l off:Nat) (cs:List AV) (ds:List CV):rowOf σ l=some cs→HL p σ cs ds→FrzC p σ (.ptr l off) (.rp ds off)
 | slc (l off len cap esz:Nat) (cs:List AV) (ds:List CV):rowOf σ l=some cs→off+len*esz≤cs.length→HL p σ ((cs.drop off).take (len*esz)) ds→FrzC p σ (.slc l off len cap esz) (.rsl ds len)
inductive HL (p:CV→Prop) (σ:List AObj):List AV→List CV→Prop
 | nil:HL p σ [] []
 | cons {a:AV} {c:CV} {as_:List AV} {cs:List CV}:FrzC p σ a c→HL p σ as_ cs→HL p σ (a::as_) (c::cs)
end
mutual
inductive FrzV (p:CV→Prop) (σ:List AObj):AV→AV→Prop
 | c {a:AV} {c:CV}:FrzC p σ a c→FrzV p σ a (.cv c)
 | agg {as_ bs:List AV}:KS p σ as_ bs→FrzV p σ (.agg as_) (.agg bs)
 | tup {as_ bs:List AV}:KS p σ as_ bs→FrzV p σ (.tup as_) (.tup bs)
 | fn {f:Fn} {as_ bs:List AV}:KS p σ as_ bs→FrzV p σ (.fn f as_) (.fn f bs)
 | bm {f:FuncId} {as_ bs:List AV}:KS p σ as_ bs→FrzV p σ (.bm f as_) (.bm f bs)
 | un (a:AV):FrzV p σ a .undef
inductive KS (p:CV→Prop) (σ:List AObj):List AV→List AV→Prop
 | nil:KS p σ [] []
 | cons {a b:AV} {as_ bs:List AV}:FrzV p σ a b→KS p σ as_ bs→KS p σ (a::as_) (b::bs)
end
abbrev anyC:CV→Prop:=fun _=>True
def scl:CV→Prop
 | .rsl _ _ | .rp _ _=>False
 | _=>True
section
variable {m m':LM} {X X':Nat→Prop} {w:World} {σ:List AObj} {p:CV→Prop}
theorem WO {l:Nat} {cs:List AV} (h:rowOf σ l=some cs):σ[l]? = some (.cells cs):=by
 unfold rowOf at h;split at h
 ·cases h;assumption
 ·cases h
theorem H5 {O:Nat→Prop} {a:Addr} (hO:¬ O a.block):∀ (ds:List CV) (i:Nat) (vs:List Value),ds.length=vs.length→(∀ (j:Nat) (d:CV) (v:Value),ds[j]? = some d→vs[j]? = some v→w.cell? (a.add (i+j))=some v∧d.rep w O v)→CV.reps w O ds a i
 | [],_,_,_,_=>by simp[CV.reps]
 | d::ds,i,[],hl,_=>by simp at hl
 | d::ds,i,v::vs,hl,h=>by
  simp only[CV.reps]
  have h0:=h 0 d v rfl rfl
  refine ⟨hO,⟨v,by simpa using h0.1,h0.2⟩,H5 hO ds (i+1) vs (by simpa using hl) fun j d' v' h1 h2=>?_⟩
  have:=h (j+1) d' v' (by simpa using h1) (by simpa using h2)
  rwa [show i+(j+1)=i+1+j by omega] at this
theorem frz_rep (hh:HRel m X σ w) (hb:∀ (c:CV) v,p c→c.rep w (Own m X) v→c.rep w (Own m' X') v) (hn:∀ (l b:Nat) (o:AObj),m l=some b→σ[l]? = some o→o.live→¬ Own m' X' b) {a:AV} {c:CV} (h:FrzC p σ a c):∀ v,VRel m X w a v→c.rep w (Own m' X') v:=by
 refine FrzC.rec (motive_1:=fun a c _=>∀ v,VRel m X w a v→c.rep w (Own m' X') v) (motive_2:=fun as_ cs _=>∀ vs,QK m X w as_ vs→cs.length=vs.length∧∀ (j:Nat) (d:CV) (v:Value),cs[j]? = some d→vs[j]? = some v→d.rep w (Own m' X') v) ?_ ?_ ?_ ?_ ?_ ?_ ?_ h
 ·intro c hp v hv
  simp only[VRel] at hv
  exact hb c v hp hv
 ·intro v hv
  simp only[VRel,CV.rep] at hv ⊢
  refine .inl ⟨hv,?_⟩
  simp
 ·intro l off len esz cs ds hrow hle _ ih v hv
  simp only[VRel] at hv
  obtain ⟨b,cap,hb,rfl,hlc,_⟩:=hv
  have hrow:=WO hrow
  have hor:=hh.obj l _ hrow
  rw[hb] at hor
  simp only[ORel] at hor
  obtain ⟨c,e,hc,hsz,hvs⟩:=hor
  have h2:=ih _ (QK.take (len*esz) (QK.drop off hvs))
  simp only[CV.rep]
  refine .inr ⟨_,cap,rfl,hlc,H5 (hn l b _ hb hrow trivial) ds 0 _ h2.1 fun j d v hd hv=>⟨?_,h2.2 j d v hd hv⟩⟩
  have hj:j<len*esz:=by have:=(QH.1 hv).1;simp at this;omega
  rw[Z7,if_pos hj,X4,Z7] at hv
  rw[if_pos (by omega)] at hv
  have hadd:(Addr.mk b off none).add (0+j)=⟨b,off+j,none⟩:=by unfold Addr.add;by_cases h0:j=0 <;> simp[h0]
  rw[hadd,F7 hc]
  simpa using hv
 ·intro l off cs ds hrow _ ih v hv
  simp only[VRel] at hv
  obtain ⟨b,hb,rfl⟩:=hv
  have hrow:=WO hrow
  have hor:=hh.obj l _ hrow
  rw[hb] at hor
  simp only[ORel] at hor
  obtain ⟨c,e,hc,hsz,hvs⟩:=hor
  have h2:=ih _ hvs
  simp only[CV.rep]
  refine ⟨⟨b,0,none⟩,by unfold Addr.add;by_cases h0:off=0 <;> simp[h0],H5 (hn l b _ hb hrow trivial) ds 0 _ h2.1 fun j d v hd hv=>⟨?_,h2.2 j d v hd hv⟩⟩
  have hj:j<cs.length:=by have:=(QH.1 hv).1;simp at this;omega
  rw[Z7,if_pos hj] at hv
  have hadd:(Addr.mk b 0 none).add (0+j)=⟨b,j,none⟩:=by unfold Addr.add;by_cases h0:j=0 <;> simp[h0]
  rw[hadd,F7 hc]
  simpa using hv
 ·intro l off len cap esz cs ds hrow hle _ ih v hv
  simp only[VRel] at hv
  obtain ⟨b,hb,rfl,hlc,_⟩:=hv
  have hrow:=WO hrow
  have hor:=hh.obj l _ hrow
  rw[hb] at hor
  simp only[ORel] at hor
  obtain ⟨c,e,hc,hsz,hvs⟩:=hor
  have h2:=ih _ (QK.take (len*esz) (QK.drop off hvs))
  simp only[CV.rep]
  refine .inr ⟨_,cap,rfl,hlc,H5 (hn l b _ hb hrow trivial) ds 0 _ h2.1 fun j d v hd hv=>⟨?_,h2.2 j d v hd hv⟩⟩
  have hj:j<len*esz:=by have:=(QH.1 hv).1;simp at this;omega
  rw[Z7,if_pos hj,X4,Z7] at hv
  rw[if_pos (by omega)] at hv
  have hadd:(Addr.mk b off none).add (0+j)=⟨b,off+j,none⟩:=by unfold Addr.add;by_cases h0:j=0 <;> simp[h0]
  rw[hadd,F7 hc]
  simpa using hv
 ·intro vs hv
  rw[QK.nil' hv]
  exact ⟨rfl,fun j d v h=>by simp at h⟩
 ·intro a c as_ cs _ _ ih1 ih2 vs hv
  obtain ⟨v,us,rfl,h1,h2⟩:=hv.cons
  have h2:=ih2 us h2
  refine ⟨by simp[h2.1],fun j d v' hd hv'=>?_⟩
  cases j with
  | zero=>simp at hd hv';subst hd hv';exact ih1 _ h1
  | succ j=>exact h2.2 j d v' (by simpa using hd) (by simpa using hv')
theorem RX (hh:HRel m X σ w) (hb:∀ (c:CV) v,p c→c.rep w (Own m X) v→c.rep w (Own m' X') v) (hn:∀ (l b:Nat) (o:AObj),m l=some b→σ[l]? = some o→o.live→¬ Own m' X' b) {a a':AV} (h:FrzV p σ a a'):∀ v,VRel m X w a v→VRel m' X' w a' v:=by
 refine FrzV.rec (motive_1:=fun a a' _=>∀ v,VRel m X w a v→VRel m' X' w a' v) (motive_2:=fun as_ bs _=>∀ vs,QK m X w as_ vs→QK m' X' w bs vs) ?_ ?_ ?_ ?_ ?_ ?_ ?_ ?_ h
 ·intro a c hc v hv
  simp only[VRel]
  exact frz_rep hh hb hn hc v hv
 ·intro as_ bs _ ih v hv;simp only[VRel] at hv ⊢;obtain ⟨vs,h1,h2⟩:=hv;exact ⟨vs,h1,ih vs h2⟩
 ·intro as_ bs _ ih v hv;simp only[VRel] at hv ⊢;obtain ⟨vs,h1,h2⟩:=hv;exact ⟨vs,h1,ih vs h2⟩
 ·intro f as_ bs _ ih v hv;simp only[VRel] at hv ⊢;obtain ⟨vs,h1,h2⟩:=hv;exact ⟨vs,h1,ih vs h2⟩
 ·intro f as_ bs _ ih v hv;simp only[VRel] at hv ⊢;obtain ⟨vs,h1,h2⟩:=hv;exact ⟨vs,h1,ih vs h2⟩
 ·intro a v _;simp[VRel]
 ·intro vs hv;rw[QK.nil' hv];simp[QK]
 ·intro a b as_ bs _ _ ih1 ih2 vs hv
  obtain ⟨v,us,rfl,h1,h2⟩:=hv.cons
  exact ⟨ih1 v h1,ih2 us h2⟩
theorem Qbq (hh:HRel m X σ w) (hb:∀ (c:CV) v,p c→c.rep w (Own m X) v→c.rep w (Own m' X') v) (hn:∀ (l b:Nat) (o:AObj),m l=some b→σ[l]? = some o→o.live→¬ Own m' X' b):∀ {as_ bs:List AV},KS p σ as_ bs→∀ vs,QK m X w as_ vs→QK m' X' w bs vs
 | _,_,.nil,vs,hv=>by rw[QK.nil' hv];simp[QK]
 | _,_,.cons h1 h2,vs,hv=>by
  obtain ⟨v,us,rfl,g1,g2⟩:=hv.cons
  exact ⟨RX hh hb hn h1 v g1,Qbq hh hb hn h2 us g2⟩
theorem Qa2 {O O':Nat→Prop} (c:CV) (v:Value) (hp:scl c) (h:c.rep w O v):c.rep w O' v:=by
 cases c <;> simp only[scl] at hp <;> simpa only[CV.rep] using h
theorem HRel.below {σ:List AObj} {w':World} (hh:HRel m X σ w) (hsz:w.heap.size≤w'.heap.size) (h:∀ b,b<w.heap.size→w'.heap[b]? = w.heap[b]?):HRel m X σ w':=by
 have hm:Mono m X w m X w':=by
  refine ⟨fun _ _ h=>h,fun b hb hc=>⟨h b hc.lt,hb⟩,fun b c e hb=>⟨c,?_,rfl⟩⟩
  rw[h b ((Q3.1 hb).1),hb]
 refine ⟨fun b hb=>Z6 (hh.xb b hb) hsz,fun l b hl=>⟨(hh.dom l b hl).1,Z6 (hh.dom l b hl).2 hsz⟩,hh.own,hh.inj,fun l o ho=>?_,hh.gl.mono hm⟩
 have:=hh.obj l o ho
 cases hml:m l with
 | none=>rw[hml] at this;cases o <;> simp[ORel] at this ⊢
 | some b=>rw[hml] at this;exact ORel.mono hm (h b (hh.dom l b hml).2) this
end
theorem AC.pure {P:Program} {f:FuncId} {args:List AV} {Q:AV→List AObj→Prop} {R:AV→Prop} (hcl:QO 0 args=true) (h:AC P f args [] Q)
  (hq:∀ r σ',Q r σ'→∃ v,FrzV anyC σ' r v∧R v) (σ:List AObj):AC P f args σ fun r σ'=>R r∧σ'=σ:=by
 refine ⟨h.1,fun m X w cargs ha hh=>?_⟩
 have hown:∀ b,Own nom (Own m X) b↔Own m X b:=fun b=>⟨fun h=>h.elim id (fun ⟨l,hl⟩=>by cases hl),.inl⟩
 have ha0:QK nom (Own m X) w args cargs:=QK.less (k:=0) (fun l hl=>absurd hl (W5 _)) (fun b hb=>(hown b).1 hb) args cargs hcl ha
 have hh0:HRel nom (Own m X) [] w:=by
  refine ⟨fun b hb=>?_,fun l b hl=>(by cases hl),fun l b o hl=>(by cases hl),fun l l' b o hl=>(by cases hl),fun l o ho=>(by simp at ho),hh.gl.less fun b hb=>(hown b).1 hb⟩
  rcases hb with hb | ⟨l,hl⟩
  ·exact hh.xb b hb
  ·exact (hh.dom l b hl).2
 refine (h.2 nom (Own m X) w cargs ha0 hh0).mono ?_
 rintro e w' ⟨c,r,σ',m',rfl,hQ,hv,hh',hst,_⟩
 obtain ⟨v,hf,hR⟩:=hq r σ' hQ
 have hsame:∀ b,b<w.heap.size→w'.heap[b]? = w.heap[b]? := fun b hb=>hst.fr b hb (.inr fun l hl=>by cases hl)
 refine ⟨c,v,σ,m,rfl,⟨hR,rfl⟩,?_,hh.below hst.size hsame,?_,QG _⟩
 ·refine RX hh' (fun c v _ h=>CV.rep_less (fun b hb=>.inl hb) c v h) ?_ hf c hv
  intro l b o hl ho hlive hb
  exact hh'.own l b o hl ho hlive hb
 ·exact ⟨fun _ _=>rfl,fun l b hl=>.inl ⟨l,hl⟩,hst.size,fun b hb _=>hsame b hb,hst.shp,hst.os,hst.tape,hst.output,hst.drawn⟩
theorem AC.pureN {P:Program} {f:FuncId} {args args':List AV} {Q:AV→List AObj→Prop} {R:AV→Prop} (h:AC P f args [] Q) (hq:∀ r σ',Q r σ'→∃ v,FrzV scl σ' r v∧R v) {σ:List AObj} (hf:KS anyC σ args' args):AC P f args' σ fun r σ'=>R r∧σ'=σ:=by
 refine ⟨h.1,fun m X w cargs ha hh=>?_⟩
 have hown:∀ b,Own nom X b→X b:=fun b h=>h.elim id (fun ⟨l,hl⟩=>by cases hl)
 have ha0:QK nom X w args cargs:=by
  refine Qbq hh (fun c v _ h=>CV.rep_less (fun b hb=>.inl (hown b hb)) c v h) ?_ hf cargs ha
  intro l b o hl ho hlive hb
  exact hh.own l b o hl ho hlive (hown b hb)
 have hh0:HRel nom X [] w:=⟨hh.xb,fun l b hl=>(by cases hl),fun l b o hl=>(by cases hl),fun l l' b o hl=>(by cases hl),fun l o ho=>(by simp at ho),hh.gl.less fun b hb=>.inl (hown b hb)⟩
 refine (h.2 nom X w cargs ha0 hh0).mono ?_
 rintro e w' ⟨c,r,σ',m',rfl,hQ,hv,hh',hst,_⟩
 obtain ⟨v,hf,hR⟩:=hq r σ' hQ
 have hsame:∀ b,b<w.heap.size→w'.heap[b]? = w.heap[b]? := fun b hb=>hst.fr b hb (.inr fun l hl=>by cases hl)
 refine ⟨c,v,σ,m,rfl,⟨hR,rfl⟩,?_,hh.below hst.size hsame,?_,QG _⟩
 ·refine RX hh' (fun c v hp h=>Qa2 c v hp h) ?_ hf c hv
  intro l b o hl ho hlive hb
  have hbs:b<w.heap.size:=by
   rcases hb with hb | ⟨l',hl'⟩
   ·exact hh.xb b hb
   ·exact (hh.dom l' b hl').2
  rcases hst.new l b hl with ⟨l',hl'⟩ | hge
  ·cases hl'
  ·omega
 ·exact ⟨fun _ _=>rfl,fun l b hl=>.inl ⟨l,hl⟩,hst.size,fun b hb _=>hsame b hb,hst.shp,hst.os,hst.tape,hst.output,hst.drawn⟩
structure PC (P:Program) (f:FuncId) (args:List AV) (v:AV):Prop where
 ac:AC P f args [] fun r τ=>FrzV scl τ r v
 cl:QR 0 v=true
theorem PC.call {P:Program} {f:FuncId} {args args':List AV} {v:AV} {σ:List AObj} {K:AV→List AObj→Prop} (h:PC P f args v) (hf:KS anyC σ args' args) (hk:K v σ):AC P f args' σ K :=
 (AC.pureN (R:=fun r=>r=v) h.ac (fun r τ hr=>⟨v,hr,rfl⟩) hf).mono fun r τ ⟨h1,h2⟩=>by rw[h1,h2];exact hk
mutual
theorem GE {σ:List AObj} {k:Nat}:∀ (a:AV),QR 0 a=true→FrzV anyC σ a a
 | .cv c,_=>.c (.c c trivial)
 | .ptr l o,h=>by simp[QR] at h
 | .sl l o n e,h=>by simp[QR] at h
 | .map l,h=>by simp[QR] at h
 | .fn f cs,h=>.fn (KW (k:=k) cs (by simpa[QR] using h))
 | .bm f cs,h=>.bm (KW (k:=k) cs (by simpa[QR] using h))
 | .yld l,h=>by simp[QR] at h
 | .agg cs,h=>.agg (KW (k:=k) cs (by simpa[QR] using h))
 | .tup cs,h=>.tup (KW (k:=k) cs (by simpa[QR] using h))
 | .undef,_=>.un _
 | .slc l o n c e,h=>by simp[QR] at h
theorem KW {σ:List AObj} {k:Nat}:∀ (as_:List AV),QO 0 as_=true→KS anyC σ as_ as_
 | [],_=>.nil
 | a::as_,h=>by
  simp only[QO,QD] at h
  exact .cons (GE (k:=k) a h.1) (KW (k:=k) as_ h.2)
end
structure PA (P:Program) (f:FuncId) (args:List AV) (v:AV):Prop where
 ac:AC P f args [] fun r τ=>FrzV anyC τ r v
 cl:QR 0 v=true
 al:QO 0 args=true
theorem PA.call {P:Program} {f:FuncId} {args:List AV} {v:AV} {σ:List AObj} {K:AV→List AObj→Prop} (h:PA P f args v) (hk:K v σ):AC P f args σ K :=
 (AC.pure (R:=fun r=>r=v) h.al h.ac (fun r τ hr=>⟨v,hr,rfl⟩) σ).mono fun r τ ⟨h1,h2⟩=>by rw[h1,h2];exact hk
def mapO {α β:Type} (f:α→Option β):List α→Option (List β)
 | []=>some []
 | a::as_=>match f a with
  | none=>none
  | some b=>match mapO f as_ with
   | none=>none
   | some bs=>some (b::bs)
def frzF (σ:List AObj):Nat→AV→Option CV
 | _,.cv c=>some c
 | n+1,.sl l off len esz =>
  match rowOf σ l with
  | some cs=>if off+len*esz≤cs.length then (mapO (frzF σ n) ((cs.drop off).take (len*esz))).map (.rsl · len) else none
  | none=>none
 | n+1,.ptr l off =>
  match rowOf σ l with
  | some cs=>(mapO (frzF σ n) cs).map (.rp · off)
  | none=>none
 | n+1,.slc l off len _ esz =>
  match rowOf σ l with
  | some cs=>if off+len*esz≤cs.length then (mapO (frzF σ n) ((cs.drop off).take (len*esz))).map (.rsl · len) else none
  | none=>none
 | _,_=>none
def L8 (σ:List AObj):Nat→AV→Option AV
 | _,.cv c=>some (.cv c)
 | n+1,.agg as_=>(mapO (L8 σ n) as_).map .agg
 | n+1,.tup as_=>(mapO (L8 σ n) as_).map .tup
 | n+1,.fn f as_=>(mapO (L8 σ n) as_).map (.fn f)
 | n+1,.bm f as_=>(mapO (L8 σ n) as_).map (.bm f)
 | _,.undef=>some .undef
 | n+1,a=>(frzF σ n a).map .cv
 | _,_=>none
theorem Qcu {σ:List AObj}:∀ (n:Nat) (a:AV) (c:CV),frzF σ n a=some c→FrzC anyC σ a c:=by
 have hm:∀ (n:Nat),(∀ (a:AV) (c:CV),frzF σ n a=some c→FrzC anyC σ a c)→∀ (as_:List AV) (cs:List CV),mapO (frzF σ n) as_=some cs→HL anyC σ as_ cs:=by
  intro n ih as_
  induction as_ with
  | nil=>intro cs h;simp only[mapO,Option.some.injEq] at h;subst h;exact .nil
  | cons a as_ ihl =>
   intro cs h
   simp only[mapO] at h
   split at h
   ·cases h
   ·rename_i b hb
    split at h
    ·cases h
    ·rename_i bs hbs
     cases h
     exact .cons (ih a b hb) (ihl bs hbs)
 intro n
 induction n with
 | zero=>intro a c h;cases a <;> simp[frzF] at h;subst h;exact .c _ trivial
 | succ n ih =>
  intro a c h
  cases a <;> simp only[frzF,reduceCtorEq] at h
  ·cases h;exact .c _ trivial
  ·split at h
   ·rename_i cs hcs
    simp only[QA] at h
    obtain ⟨ds,hds,rfl⟩:=h
    exact .ptr _ _ cs ds hcs (hm n ih _ _ hds)
   ·cases h
  ·split at h
   ·rename_i cs hcs
    split at h
    ·rename_i hle
     simp only[QA] at h
     obtain ⟨ds,hds,rfl⟩:=h
     exact .sl _ _ _ _ cs ds hcs hle (hm n ih _ _ hds)
    ·cases h
   ·cases h
  ·split at h
   ·rename_i cs hcs
    split at h
    ·rename_i hle
     simp only[QA] at h
     obtain ⟨ds,hds,rfl⟩:=h
     exact .slc _ _ _ _ _ cs ds hcs hle (hm n ih _ _ hds)
    ·cases h
   ·cases h
theorem Qbr {σ:List AObj}:∀ (n:Nat) (a:AV) (c:AV),L8 σ n a=some c→FrzV anyC σ a c:=by
 have hm:∀ (n:Nat),(∀ (a:AV) (c:AV),L8 σ n a=some c→FrzV anyC σ a c)→∀ (as_:List AV) (cs:List AV),mapO (L8 σ n) as_=some cs→KS anyC σ as_ cs:=by
  intro n ih as_
  induction as_ with
  | nil=>intro cs h;simp only[mapO,Option.some.injEq] at h;subst h;exact .nil
  | cons a as_ ihl =>
   intro cs h
   simp only[mapO] at h
   split at h
   ·cases h
   ·rename_i b hb
    split at h
    ·cases h
    ·rename_i bs hbs
     cases h
     exact .cons (ih a b hb) (ihl bs hbs)
 intro n
 induction n with
 | zero =>
  intro a c h
  cases a <;> simp only[L8,reduceCtorEq,Option.some.injEq] at h
  ·subst h;exact .c (.c _ trivial)
  ·subst h;exact .un _
 | succ n ih =>
  intro a c h
  cases a <;> simp only[L8,reduceCtorEq,Option.some.injEq] at h
  case cv=>subst h;exact .c (.c _ trivial)
  case undef=>subst h;exact .un _
  case agg=>simp only[QA] at h;obtain ⟨ds,hds,rfl⟩:=h;exact .agg (hm n ih _ _ hds)
  case tup=>simp only[QA] at h;obtain ⟨ds,hds,rfl⟩:=h;exact .tup (hm n ih _ _ hds)
  case fn=>simp only[QA] at h;obtain ⟨ds,hds,rfl⟩:=h;exact .fn (hm n ih _ _ hds)
  case bm=>simp only[QA] at h;obtain ⟨ds,hds,rfl⟩:=h;exact .bm (hm n ih _ _ hds)
  all_goals
   simp only[QA] at h
   obtain ⟨d,hd,rfl⟩:=h
   exact .c (Qcu n _ _ hd)
def F9 (r r':XC):Prop:=r'.vars=r.vars∧r'.ntmps=r.ntmps∧r'.params=r.params∧r'.assign=r.assign∧r'.body=r.body
def WT (σ σ':List AObj):Prop:=∀ (l:Nat) (r:XC),σ[l]? = some (AObj.loop r)→∃ r',σ'[l]? = some (AObj.loop r')∧F9 r r'
theorem F9.refl (r:XC):F9 r r:=⟨rfl,rfl,rfl,rfl,rfl⟩
theorem F9.trans {a b c:XC} (h:F9 a b) (k:F9 b c):F9 a c :=
 ⟨k.1.trans h.1,k.2.1.trans h.2.1,k.2.2.1.trans h.2.2.1,k.2.2.2.1.trans h.2.2.2.1,k.2.2.2.2.trans h.2.2.2.2⟩
theorem WT.refl (σ:List AObj):WT σ σ:=fun l r h=>⟨r,h,.refl r⟩
theorem WT.trans {a b c:List AObj} (h:WT a b) (k:WT b c):WT a c:=fun l r hr =>
 let ⟨r1,h1,h2⟩:=h l r hr
 let ⟨r2,h3,h4⟩:=k l r1 h1
 ⟨r2,h3,h2.trans h4⟩
theorem Qc2 {io:IOp} {as_:List AV} {σ σ':List AObj} {v:AV} (h:ZQ io as_ σ=some (v,σ')) {l:Nat} {r:XC} (hl:σ[l]? = some (.loop r)):σ'[l]? = some (.loop r):=by
 have push:∀ (τ:List AObj) (x:AObj),σ'=τ++[x]→τ[l]? = some (.loop r)→σ'[l]? = some (.loop r):=by
  rintro τ x rfl ht
  rw[QE (QH.1 ht).1];exact ht
 have row:∀ (x:Nat) (cs:List AV) (y:AObj),rowOf σ x=some cs→(σ.set x y)[l]? = some (.loop r):=by
  intro x cs y hx
  have hx:=WO hx
  rw[QU];exact hl
  rintro rfl;rw[hl] at hx;cases hx
 have mp:∀ (x:Nat) (es:List (AV × AV)) (y:AObj),mapOf σ x=some es→(σ.set x y)[l]? = some (.loop r):=by
  intro x es y hx
  rw[QU];exact hl
  rintro rfl;unfold mapOf at hx;rw[hl] at hx;cases hx
 by_cases h0:kindOf io=0
 ·rw[(KF h0 h).1];exact hl
 by_cases h1:kindOf io=1
 ·rw[GB h1 h];exact hl
 cases io <;> (try (exact absurd rfl h0)) <;> (try (exact absurd rfl h1)) <;> simp only[ZQ] at h
 case alloc zs=>unfold UO at h;split at h <;> cases h;exact push _ _ rfl hl
 case box=>unfold WI at h;split at h <;> (try (cases h;done));split at h <;> cases h;exact push _ _ rfl hl
 case bslice esz len zs ps=>unfold V4 at h;simp only[QA] at h;obtain ⟨v,hv,he⟩:=h;cases he;exact push _ _ rfl hl
 case store n=>unfold UM at h;split at h <;> (try (cases h;done));simp only[QB] at h;obtain ⟨cs,hcs,h⟩:=h;split at h <;> cases h;exact row _ _ _ hcs
 case mkmap=>unfold KY at h;split at h <;> cases h;exact push _ _ rfl hl
 case mkslice esz bytes zs=>unfold XB at h;split at h <;> (try (cases h;done));split at h <;> cases h;exact push _ _ rfl hl
 case mksliceC esz bytes zs=>unfold XR at h;split at h <;> (try (cases h;done));split at h <;> cases h;exact push _ _ rfl hl
 case append esz bytes =>
  unfold ZX at h
  split at h <;> (try (cases h;done))
  ·simp only[QB] at h;obtain ⟨new,hnew,n,hn,h⟩:=h
   split at h
   ·cases h;exact hl
   ·split at h <;> cases h;exact push _ _ rfl hl
  ·simp only[QB] at h;obtain ⟨cs,hcs,new,hnew,n,hn,h⟩:=h
   split at h <;> cases h
   exact push _ _ rfl (row _ _ _ hcs)
  ·simp only[QB] at h;obtain ⟨cs,hcs,new,hnew,n,hn,h⟩:=h
   split at h
   ·split at h <;> cases h;exact row _ _ _ hcs
   ·split at h <;> cases h;exact push _ _ rfl hl
 case clear zs=>unfold UN at h;split at h <;> (try (cases h;done)) <;> (simp only[QB] at h;obtain ⟨cs,hcs,h⟩:=h;split at h <;> cases h;exact row _ _ _ hcs)
 case copy esz=>unfold UE at h;split at h <;> (try (cases h;done));simp only[QB] at h;obtain ⟨cs,hcs,new,hnew,n,hn,h⟩:=h;split at h <;> cases h;exact row _ _ _ hcs
 case mapset ks=>unfold JZ at h;split at h <;> (try (cases h;done));simp only[QB] at h;obtain ⟨es,hes,h⟩:=h;split at h <;> (try (cases h;done));simp only[QA] at h;obtain ⟨res,hres,he⟩:=h;cases he;exact mp _ _ _ hes
 case mapdel ks=>unfold J0 at h;split at h <;> (try (cases h;done));simp only[QB] at h;obtain ⟨es,hes,h⟩:=h;split at h <;> (try (cases h;done));simp only[QA] at h;obtain ⟨res,hres,he⟩:=h;cases he;exact mp _ _ _ hes
 case stuck=>cases h
 case mapent=>cases h
 case entst=>cases h
 case appendz esz bytes zs=>unfold VQ at h;split at h <;> (try (cases h;done));simp only[QB] at h;obtain ⟨cs,hcs,h⟩:=h;split at h <;> cases h;exact push _ _ rfl hl
 case rstr=>unfold F6 at h;split at h <;> cases h;exact push _ _ rfl hl
 case snext =>
  unfold KX at h;split at h <;> (try (cases h;done));simp only[QA] at h;obtain ⟨⟨s,p⟩,hsp,h⟩:=h;split at h <;> cases h
  ·have:=II hsp
   rw[QU];exact hl
   rintro rfl;rw[hl] at this;cases this
  ·exact hl
inductive RC where
 | v (i:Nat)
 | l1 (i:Nat)
 | lN (i n:Nat)
def R0 (P:Program) (vars:List Nat):ResultVar→Option RC
 | .tmp t=>(vars.idxOf? t).map .v
 | .cell a t=>(vars.idxOf? a).bind fun i=>(UD P t).bind fun g=>if g then (P.info? t).map fun ti=>.lN i ti.size else some (.l1 i)
def resE (vals:List AV) (σ:List AObj):RC→Option AV
 | .v i=>some (vals.getD i .undef)
 | .l1 i=>(KZ [vals.getD i .undef] σ).map (·.1)
 | .lN i n=>(YF n [vals.getD i .undef] σ).map (·.1)
def RL (vals:List AV) (σ:List AObj):List RC→Option AV
 | [r]=>resE vals σ r
 | rs=>(mapO (resE vals σ) rs).map .tup
theorem Qd9 {α β:Type} (f:α→Option β):∀ l,mapO f l=l.mapM f
 | []=>rfl
 | a::l=>by
  simp only[mapO,Qd9 f l,WV,Option.bind_eq_bind,Option.pure_def]
  cases f a <;> simp
  cases List.mapM f l <;> rfl
theorem Qd0 {P:Program} {vars:List Nat} {vals:List AV} {σ:List AObj} {rv:ResultVar} {rc:RC} (h:R0 P vars rv=some rc):resF vars vals σ P rv=resE vals σ rc:=by
 cases rv with
 | tmp t=>simp only[R0,QA] at h;obtain ⟨i,hi,rfl⟩:=h;simp[resF,resE,hi]
 | cell a t =>
  simp only[R0,QB] at h
  obtain ⟨i,hi,g,hg,h⟩:=h
  simp only[resF,hi,hg,Option.bind_some]
  cases g with
  | true=>simp only[if_true,QA] at h ⊢;obtain ⟨ti,ht,rfl⟩:=h;simp[ht,resE]
  | false=>simp only[QT,if_false,Option.some.injEq] at h ⊢;subst h;rfl
theorem BY {P:Program} {vars:List Nat} {vals:List AV} {σ:List AObj} {rvs:List ResultVar} {rcs:List RC} (h:mapO (R0 P vars) rvs=some rcs):UB P vars vals σ rvs=RL vals σ rcs:=by
 have key:∀ (rvs:List ResultVar) (rcs:List RC),mapO (R0 P vars) rvs=some rcs→rvs.length=rcs.length∧mapO (resF vars vals σ P) rvs=mapO (resE vals σ) rcs:=by
  intro rvs
  induction rvs with
  | nil=>intro rcs h;simp only[mapO,Option.some.injEq] at h;subst h;exact ⟨rfl,rfl⟩
  | cons a rvs ih =>
   intro rcs h
   simp only[mapO] at h
   split at h
   ·cases h
   ·rename_i b hb
    split at h
    ·cases h
    ·rename_i bs hbs
     cases h
     obtain ⟨h1,h2⟩:=ih bs hbs
     refine ⟨by simp[h1],?_⟩
     simp only[mapO,Qd0 hb,h2]
 obtain ⟨h1,h2⟩:=key rvs rcs h
 unfold UB RL
 match rvs,rcs,h1 with
 | [],[],_=>simp[mapO]
 | [a],[b],_ =>
  simp only[mapO] at h
  split at h
  ·cases h
  ·rename_i c hc
   cases h
   exact Qd0 hc
 | a::b::rvs,c::d::rcs,_=>simp only[← Qd9,h2]
structure FE where
 ic:IC
 vars:List Nat
 N:Nat
 res:List RC
 pure:Bool
structure FnOk (P:Program) (f:FuncId) (fe:FE):Prop where
 ok:∃ fn c,P.funcs[f]? = some fn∧fn.body=some c∧(fn.name == "runtime.NumGoroutine")=false∧fn.ntmps=fe.N∧QL P fe.vars fn.ntmps c=some fe.ic∧mapO (R0 P fe.vars) fn.results.toList=some fe.res
structure LE where
 vars:List Nat
 N:Nat
 ps:List Nat
 ia:IC
 ib:IC
abbrev Env:=List (Nat × LE)
def P6:Env→Nat→Option LE
 | [],_=>none
 | (k,e)::es,l=>if Nat.beq k l then some e else P6 es l
def RD (P:Program) (E:Env) (σ:List AObj):Prop :=
 ∀ (l:Nat) (le:LE),P6 E l=some le→∃ r,σ[l]? = some (AObj.loop r)∧r.vars=le.vars∧r.ntmps=le.N∧r.params=le.ps∧QL P le.vars le.N r.assign=some le.ia∧QL P le.vars le.N r.body=some le.ib ∧
  le.vars.Nodup∧(∀ t∈le.ps,t∈le.vars)∧∀ t∈le.ps,t<le.N
theorem RD.keep {P:Program} {E:Env} {σ σ':List AObj} (h:RD P E σ) (k:WT σ σ'):RD P E σ':=by
 intro l le hl
 obtain ⟨r,h1,h2,h3,h4,h5,h6,h7⟩:=h l le hl
 obtain ⟨r',k1,k2,k3,k4,k5,k6⟩:=k l r h1
 exact ⟨r',k1,k2.trans h2,k3.trans h3,k4.trans h4,by rw[k5];exact h5,by rw[k6];exact h6,h7⟩
def Qcw {α:Type} (n:Int) (k:α):α :=
 match n with
 | .ofNat m=>if Nat.beq m 0 then k else k
 | .negSucc m=>if Nat.beq m 0 then k else k
theorem Qet {α:Type} (n:Int) (k:α):Qcw n k=k:=by cases n <;> simp[Qcw]
def NC {α:Type} (v:AV) (k:α):α :=
 match v with
 | .cv (.int _ n)=>Qcw n k
 | .cv (.bool true)=>k
 | _=>k
theorem LI {α:Type} (v:AV) (k:α):NC v k=k:=by unfold NC;split <;> simp[Qet]
def CI {α β:Type}:List α→(List α→β)→β
 | [],k=>k []
 | a::as_,k=>CI as_ fun bs=>k (a::bs)
theorem A0 {α β:Type}:∀ (l:List α) (k:List α→β),CI l k=k l
 | [],k=>rfl
 | a::l,k=>by simp[CI,A0 l]
def Qcq:AObj→Bool | .dead=>false | _=>true
def QdD (σ:List AObj) (v:AV) (τ:List AObj):Bool :=
 QR τ.length v&&decide (σ.length≤τ.length)&&τ.all (Z3 τ.length)&&(τ.drop σ.length).all Qcq
def Qaj (b k:Bool) (σ:List AObj) (v:AV) (τ:List AObj):Bool :=
 match b with
 | true=>k
 | false=>QdD σ v τ
abbrev CallE:=AV→List AV→List AObj→Option (Bool × AV × List AObj)
mutual
def cvEq:CV→CV→Bool
 | .int k a,.int k' b=>decide (k=k')&&decide (a=b)
 | .bool a,.bool b=>a == b
 | .str a,.str b=>decide (a=b)
 | .nilp,.nilp | .nilm,.nilm | .nilf,.nilf | .nili,.nili | .nils,.nils=>true
 | .rsl as_ n,.rsl bs m=>Nat.beq n m&&Qbz as_ bs
 | .rp as_ n,.rp bs m=>Nat.beq n m&&Qbz as_ bs
 | _,_=>false
def Qbz:List CV→List CV→Bool
 | [],[]=>true
 | a::as_,b::bs=>cvEq a b&&Qbz as_ bs
 | _,_=>false
end
def avEq:AV→AV→Bool
 | .cv a,.cv b=>cvEq a b
 | .ptr a b,.ptr c d=>Nat.beq a c&&Nat.beq b d
 | .map a,.map b=>Nat.beq a b
 | .sl a b c d,.sl a' b' c' d'=>(Nat.beq a a'&&Nat.beq b b')&&(Nat.beq c c'&&Nat.beq d d')
 | .slc a b c d e,.slc a' b' c' d' e'=>(Nat.beq a a'&&Nat.beq b b')&&((Nat.beq c c'&&Nat.beq d d')&&Nat.beq e e')
 | _,_=>false
def QaL:List AV→List AV→Bool
 | [],[]=>true
 | a::as_,b::bs=>avEq a b&&QaL as_ bs
 | _,_=>false
def objEq:Option AObj→Option AObj→Bool
 | some (.cells a),some (.cells b)=>QaL a b
 | none,none=>true
 | some .dead,some .dead=>true
 | _,_=>false
def QdN:List Nat→List AObj→List AObj→Bool
 | [],_,_=>true
 | l::ls,a,b=>objEq a[l]? b[l]? && QdN ls a b
def QdO:List (Nat × Nat)→List PlT→List (List AObj)→Bool
 | [],_,_=>true
 | p::xs,pl,hs=>QdN (YX (pl.getD p.1 .no)) (hs.getD (p.2+1) []) (hs.getD p.2 [])&&QdO xs pl hs
abbrev RegR:=Option (List AV × List AV × List AObj)
abbrev RegK:=List AV→List AV→List AObj→RegR
def rPrim (i:Ins) (k:RegK) (vals ρ:List AV):Option (AV × List AObj)→RegR
 | some (v,σ')=>NC v (k (setD i.dst vals v) (ρ++[v]) σ')
 | none=>none
def rCall (i:Ins) (k:RegK) (vals ρ:List AV):Option (Bool × AV × List AObj)→RegR
 | some (_,v,σ')=>NC v (k (setD i.dst vals v) (ρ++[v]) σ')
 | none=>none
def rCall1 (call:CallE) (i:Ins) (k:RegK) (vals ρ:List AV) (σ:List AObj):List AV→RegR
 | fv::as_=>rCall i k vals ρ (call fv as_ σ)
 | []=>none
def rOp (call:CallE) (i:Ins) (k:RegK) (vals ρ:List AV) (σ:List AObj):IK→RegR
 | .prim io=>rPrim i k vals ρ (ZQ io (i.args.map (WY vals ρ)) σ)
 | .call=>rCall1 call i k vals ρ σ (i.args.map (WY vals ρ))
def rIns (call:CallE) (i:Ins) (k:RegK) (vals ρ:List AV) (σ:List AObj):Option Bool→RegR
 | none=>none
 | some false=>k (setD i.dst vals (.tup [])) (ρ++[.tup []]) σ
 | some true=>rOp call i k vals ρ σ i.op
def runR (call:CallE):List Ins→List AV→List AV→List AObj→Option (List AV × List AV × List AObj)
 | [],vals,ρ,σ=>some (vals,ρ,σ)
 | i::is,vals,ρ,σ=>rIns call i (runR call is) vals ρ σ (gdOk ρ i.gd)
abbrev RegX:=List PlT→List (List AObj)→List AV→List AV→List AObj→RegR
def xPrim (i:Ins) (as_:List AV) (k:RegX) (pl:List PlT) (hs:List (List AObj)) (vals ρ:List AV) (σ:List AObj):Option (AV × List AObj)→RegR
 | some (v,σ')=>NC v (k (pl++[plOf i as_ σ]) (hs++[σ]) (setD i.dst vals v) (ρ++[v]) σ')
 | none=>none
def xCall (b:Bool) (i:Ins) (k:RegX) (pl:List PlT) (hs:List (List AObj)) (vals ρ:List AV) (σ:List AObj):Option (Bool × AV × List AObj)→RegR
 | some (kk,v,σ')=>if Qaj b kk σ v σ' then NC v (k (pl++[.no]) (hs++[σ]) (setD i.dst vals v) (ρ++[v]) σ') else none
 | none=>none
def xCall1 (call:CallE) (b:Bool) (i:Ins) (k:RegX) (pl:List PlT) (hs:List (List AObj)) (vals ρ:List AV) (σ:List AObj):List AV→RegR
 | fv::as_=>xCall b i k pl hs vals ρ σ (call fv as_ σ)
 | []=>none
def xOp (call:CallE) (b:Bool) (i:Ins) (k:RegX) (pl:List PlT) (hs:List (List AObj)) (vals ρ:List AV) (σ:List AObj):IK→RegR
 | .prim io=>xPrim i (i.args.map (WY vals ρ)) k pl hs vals ρ σ (ZQ io (i.args.map (WY vals ρ)) σ)
 | .call=>xCall1 call b i k pl hs vals ρ σ (i.args.map (WY vals ρ))
def xIns (call:CallE) (b:Bool) (i:Ins) (k:RegX) (pl:List PlT) (hs:List (List AObj)) (vals ρ:List AV) (σ:List AObj):Option Bool→RegR
 | none=>none
 | some false=>k (pl++[.no]) (hs++[σ]) (setD i.dst vals (.tup [])) (ρ++[.tup []]) σ
 | some true=>xOp call b i k pl hs vals ρ σ i.op
def runX (call:CallE) (kp:List Nat) (xs:List (Nat × Nat)):Nat→List Ins→List PlT→List (List AObj)→List AV→List AV→List AObj→Option (List AV × List AV × List AObj)
 | _,[],pl,hs,vals,ρ,σ=>if QdO xs pl (hs++[σ]) then some (vals,ρ,σ) else none
 | j,i::is,pl,hs,vals,ρ,σ=>xIns call (kp.contains j) i (runX call kp xs (j+1) is) pl hs vals ρ σ (gdOk ρ i.gd)
def isCall (i:Ins):Bool:=match i.op with | .call=>true | _=>false
def callsOf (is:List Ins):List Nat:=(List.range is.length).filter fun j=>match is[j]? with | some i=>isCall i | none=>false
def xsOf (is:List Ins) (pds:List (List Nat)) (kp:List Nat):List (Nat × Nat) :=
 (List.range is.length).flatMap fun k=>match is[k]? with
  | some i=>if Nat.beq (JA kp k i) 2 then ((List.range is.length).filter fun j=>(match is[j]? with | some i'=>((Qaq i' && !Nat.beq (JA kp j i') 0)||(Nat.blt j k&&MW i)) && !Nat.beq j k | none=>false) && !(pdAt pds k).contains j && !(pdAt pds j).contains k).map fun j=>(j,k) else []
  | none=>[]
def kpSel (dirs:List (List Nat)) (is:List Ins) (pds:List (List Nat)):Option (List Nat × List (Nat × Nat)) :=
 let cs:=callsOf is
 let ks:=([]:List Nat)::cs::(cs.map fun c=>[c])++cs.map fun c=>cs.filter (· != c)
 if RQ dirs is pds [] [] then some ([],[]) else
 (ks.find? fun kp=>RQ dirs is pds kp (xsOf is pds kp)).map fun kp=>(kp,xsOf is pds kp)
def Qbj (body:St→Option (Exit × St)):Nat→St→Option (Exit × St)
 | 0,_=>none
 | n+1,s =>
  match body s with
  | some (.normal,s')=>CI s'.vals fun vals=>CI s'.heap fun heap=>Qbj body n ⟨vals,heap⟩
  | r=>r
def TI (σ:List AObj) (l:Nat):Option XC :=
 match σ[l]? with
 | some (.loop r)=>some r
 | _=>none
def Qbh {α:Type}:Option α→Bool | none=>true | _=>false
def rfChk (fx:Fx) (s:St) (ps:Array Nat):Bool :=
 Nat.ble s.vals.length fx.vars.length&&(match fx.r with | none=>true | some l0=>(TI s.heap l0).isSome)&&(decide fx.vars.Nodup&&ps.toList.all (fun t=>fx.vars.contains t&&Nat.blt t fx.N))
abbrev RI:=Option (Exit × St)
abbrev RunI:=Env→Fx→St→RI
def rThen (rb:RunI) (E:Env) (fx:Fx):RI→RI
 | some (.normal,s')=>rb E fx s'
 | r=>r
def rBlock (i:Nat):RI→RI
 | some (.exit i',s')=>some (if Nat.beq i' i then .normal else .exit i',s')
 | r=>r
def rScope:RI→RI
 | some (.goto _,_)=>none
 | r=>r
def rCond (ra rb:RunI) (E:Env) (fx:Fx) (s:St):AV→RI
 | .cv (.bool true)=>ra E fx s
 | .cv (.bool false)=>rb E fx s
 | _=>none
def rReg:RegR→RI
 | some (vals,_,σ)=>some (.normal,⟨vals,σ⟩)
 | none=>none
def rDraw (call:CallE) (fx:Fx) (is:List Ins) (s:St):Option (List Nat × List (Nat × Nat))→RI
 | none=>none
 | some (kp,xs)=>if Nat.beq s.vals.length fx.vars.length then rReg (runX call kp xs 0 is [] [] s.vals [] s.heap) else none
def rfPend (s:St) (r2:XC) (σ':List AObj):Option Code→RI
 | none=>some (.normal,⟨s.vals,setLoop σ' s.heap.length r2 .exhausted none⟩)
 | some .ret=>some (.ret,⟨s.vals,setLoop σ' s.heap.length r2 .exhausted (some .ret)⟩)
 | some (.exit i)=>some (.exit i,⟨s.vals,setLoop σ' s.heap.length r2 .exhausted (some (.exit i))⟩)
 | _=>none
def isBusy:LoopState→Bool | .busy=>true | _=>false
def MU:LoopState→Bool | .ready=>true | _=>false
def rfLoop (s:St) (σ':List AObj):Option XC→RI
 | some r2=>if isBusy r2.state then none else rfPend s r2 σ' r2.pending
 | none=>none
def rfRes (s:St):Option (Bool × AV × List AObj)→RI
 | some (_,_,σ')=>rfLoop s σ' (TI σ' s.heap.length)
 | none=>none
def rfGo (call:Env→CallE) (E:Env) (fx:Fx) (ps:Array Nat) (assign body:Code) (ia ib:IC) (s:St):AV→RI
 | .fn (.func gf) cap =>
  if rfChk fx s ps then rfRes s (call ((s.heap.length,⟨fx.vars,fx.N,ps.toList,ia,ib⟩)::E) (.fn (.func gf) cap) [.yld s.heap.length] (s.heap++[.loop (VJ fx s.vals ps assign body)]))
  else none
 | _=>none
def runI (call:Env→CallE) (lf:Nat):IC→RunI
 | .skip=>fun _ _ s=>some (.normal,s)
 | .label _=>fun _ _ s=>some (.normal,s)
 | .exit i=>fun _ _ s=>some (.exit i,s)
 | .ret=>fun _ _ s=>some (.ret,s)
 | .seq a b=>fun E fx s=>rThen (runI call lf b) E fx (runI call lf a E fx s)
 | .block i a=>fun E fx s=>rBlock i (runI call lf a E fx s)
 | .cond i a b=>fun E fx s=>rCond (runI call lf a) (runI call lf b) E fx s (s.vals.getD i .undef)
 | .loop a=>fun E fx s=>Qbj (runI call lf a E fx) lf s
 | .scope a=>fun E fx s=>rScope (runI call lf a E fx s)
 | .region is=>fun E fx s=>rReg (runR (call E) is s.vals [] s.heap)
 | .draw dirs is pds=>fun E fx s=>rDraw (call E) fx is s (kpSel dirs is pds)
 | .rangef g ps assign body ia ib=>fun E fx s=>rfGo call E fx ps assign body ia ib s (WY s.vals [] g)
def rRes (σ:List AObj):Option AV→Option (AV × List AObj)
 | some r=>some (r,σ)
 | none=>none
def rFn (res:List RC):RI→Option (AV × List AObj)
 | some (.normal,s)=>rRes s.heap (RL s.vals s.heap res)
 | some (.ret,s)=>rRes s.heap (RL s.vals s.heap res)
 | _=>none
def runF (call:Env→CallE) (lf:Nat) (E:Env) (fe:FE) (args:List AV) (σ:List AObj):Option (AV × List AObj) :=
 if Nat.ble args.length fe.N then rFn fe.res (runI call lf fe.ic E ⟨fe.vars,fe.N,none,σ.length⟩ ⟨Y5 fe.vars args,σ⟩)
 else none
def cutF (n0:Nat) (r:AV) (σ:List AObj):List AObj :=
 if Nat.ble (n0+24) σ.length&&(QR n0 r&&(σ.take n0).all (Z3 n0)) then σ.take n0 else σ
def rFrz2 (σ:List AObj):Option AV→Option (Bool × AV × List AObj)
 | some v=>if QR 0 v then some (true,v,σ) else none
 | none=>none
def rFrz (σ:List AObj):Option (AV × List AObj)→Option (Bool × AV × List AObj)
 | some (r,σ')=>rFrz2 σ (L8 σ' 8 r)
 | none=>none
def rCut (σ:List AObj):Option (AV × List AObj)→Option (Bool × AV × List AObj)
 | some (r,σ')=>some (false,r,cutF σ.length r σ')
 | none=>none
def rFe (call:Env→CallE) (lf:Nat) (E:Env) (args:List AV) (σ:List AObj):Option FE→Option (Bool × AV × List AObj)
 | none=>none
 | some fe=>if fe.pure&&QO 0 args then rFrz σ (runF call lf [] fe args []) else rCut σ (runF call lf E fe args σ)
mutual
def aEq:AV→AV→Bool
 | .cv a,.cv b=>cvEq a b
 | .agg as_,.agg bs=>asEq as_ bs
 | _,_=>false
def asEq:List AV→List AV→Bool
 | [],[]=>true
 | a::as_,b::bs=>aEq a b&&asEq as_ bs
 | _,_=>false
end
abbrev Kn:=List (Nat × List AV × AV)
def Qbm:Kn→Nat→List AV→Option AV
 | [],_,_=>none
 | (f,as_,v)::ks,g,bs=>if Nat.beq f g&&asEq as_ bs then some v else Qbm ks g bs
structure Tb where
 T:Nat→Option FE
 K:Kn
def rKn (call:Env→CallE) (lf:Nat) (E:Env) (args:List AV) (σ:List AObj) (fe:Option FE):Option AV→Option (Bool × AV × List AObj)
 | some v=>some (true,v,σ)
 | none=>rFe call lf E args σ fe
def JL (T:Tb) (call:Env→CallE) (lf:Nat) (E:Env) (f:FuncId) (args:List AV) (σ:List AObj):Option (Bool × AV × List AObj) :=
 rKn call lf E args σ (T.T f) (Qbm T.K f args)
def yEnd (σ:List AObj) (l:Nat) (e:Exit):Option XC→Option (Bool × AV × List AObj)
 | some r2=>some (false,.b (Qbh (GQ e)),setLoop σ l r2 (if Qbh (GQ e) then .ready else .done) (GQ e))
 | none=>none
def yRes (l:Nat):RI→Option (Bool × AV × List AObj)
 | none=>none
 | some (.panic _,_)=>none
 | some (.outgrown,_)=>none
 | some (e,s2)=>yEnd s2.heap l e (TI s2.heap l)
def yBody (rb:RunI) (E:Env) (fx:Fx) (l:Nat) (s1:St):Option XC→Option (Bool × AV × List AObj)
 | some r1=>if MU r1.state then yRes l (rb E fx ⟨s1.vals,setLoop s1.heap l r1 .busy r1.pending⟩) else none
 | none=>none
def yAss (rb:RunI) (E:Env) (fx:Fx) (l:Nat):RI→Option (Bool × AV × List AObj)
 | some (.normal,s1)=>yBody rb E fx l s1 (TI s1.heap l)
 | _=>none
def yGo (call:Env→CallE) (lf:Nat) (E:Env) (l:Nat) (args:List AV) (σ:List AObj):Option LE→Option XC→Option (Bool × AV × List AObj)
 | some le,some r =>
  if MU r.state&&Nat.beq args.length le.ps.length then
   yAss (runI call lf le.ib) E ⟨le.vars,le.N,some l,σ.length⟩ l (runI call lf le.ia E ⟨le.vars,le.N,some l,σ.length⟩ ⟨JM le.vars le.ps args r.vals,σ⟩)
  else none
 | _,_=>none
def runY (call:Env→CallE) (lf:Nat) (E:Env) (l:Nat) (args:List AV) (σ:List AObj):Option (Bool × AV × List AObj) :=
 yGo call lf E l args σ (P6 E l) (TI σ l)
def UI (T:Tb) (lf:Nat):Nat→Env→CallE
 | 0,_,_,_,_=>none
 | d+1,E,fv,as_,σ =>
  match fv with
  | .fn (.func f) cap=>JL T (UI T lf d) lf E f (as_++cap) σ
  | .bm f first=>JL T (UI T lf d) lf E f (first++as_) σ
  | .yld l=>runY (UI T lf d) lf E l as_ σ
  | _=>none
section
variable {P:Program} {fx:Fx} {s:St} {Q:Exit→St→Prop}
theorem X0.mono {fv:AV} {args:List AV} {σ:List AObj} {Q Q':AV→List AObj→Prop} (h:X0 P fv args σ Q) (hq:∀ r σ',Q r σ'→Q' r σ'):X0 P fv args σ Q':=by
 unfold X0 at h ⊢
 split at h
 ·exact AC.mono h hq
 ·exact AC.mono h hq
 ·exact YC.mono h hq
 ·exact h.elim
theorem QaK {a b:Nat} (h:a≠b):Nat.beq a b=false:=by
 cases hb:Nat.beq a b with
 | true=>exact absurd (ZJ hb) h
 | false=>rfl
def H4 (P:Program) (E:Env) (call:CallE):Prop :=
 ∀ fv as_ σ k v σ',RD P E σ→call fv as_ σ=some (k,v,σ')→X0 P fv as_ σ (fun v' τ'=>v'=v∧τ'=σ')∧WT σ σ'∧(k=true→σ'=σ∧QR 0 v=true)
theorem WT.of_step {io:IOp} {as_:List AV} {σ σ':List AObj} {v:AV} (h:ZQ io as_ σ=some (v,σ')):WT σ σ':=fun l r hr=>⟨r,Qc2 h hr,.refl r⟩
theorem Qcp {o:AObj} (h:Qcq o=true):o.live:=by cases o <;> simp_all [Qcq,AObj.live]
theorem QbA {σ τ:List AObj} {v:AV} (h:QdD σ v τ=true):HM σ v τ:=by
 simp only[QdD,QD,decide_eq_true_eq,Q1] at h
 obtain ⟨⟨⟨h1,h2⟩,h3⟩,h4⟩:=h
 refine ⟨h1,h2,fun l o ho _=>⟨h3 o (QZ ho),fun hl=>Qcp (h4 o ?_)⟩⟩
 apply QZ (i:=l-σ.length)
 rw[X4,show σ.length+(l-σ.length)=l by omega];exact ho
theorem MI {E:Env} {call:CallE} (hc:H4 P E call):∀ (is:List Ins) (vals ρ:List AV) (σ:List AObj) (vals' ρ':List AV) (σ':List AObj),RD P E σ→runR call is vals ρ σ=some (vals',ρ',σ') →
  WT σ σ'∧∀ K:List AV→List AV→List AObj→Prop,K vals' ρ' σ'→RG P is vals ρ σ K
 | [],vals,ρ,σ,vals',ρ',σ',hE,h=>by
  simp only[runR,Option.some.injEq,Prod.mk.injEq] at h
  obtain ⟨rfl,rfl,rfl⟩:=h
  exact ⟨.refl _,fun K hK=>hK⟩
 | i :: is,vals,ρ,σ,vals',ρ',σ',hE,h=>by
  simp only[runR,rIns] at h
  simp only[RG]
  split at h
  ·cases h
  ·rename_i hg
   obtain ⟨h1,h2⟩:=MI hc is _ _ _ _ _ _ hE h
   refine ⟨h1,fun K hK=>?_⟩
   (try simp only[hg]);exact h2 K hK
  ·rename_i hg
   try simp only[hg]
   unfold rOp at h
   split at h
   ·rename_i io hop
    unfold rPrim at h
    split at h
    ·rename_i v σ1 hst
     rw[LI] at h
     have hk:=WT.of_step hst
     obtain ⟨h1,h2⟩:=MI hc is _ _ _ _ _ _ (hE.keep hk) h
     refine ⟨hk.trans h1,fun K hK=>?_⟩
     simp only[hop,hst];exact h2 K hK
    ·cases h
   ·rename_i hop
    unfold rCall1 at h
    split at h
    rotate_left
    ·cases h
    rename_i fv as_ hargs
    unfold rCall at h
    split at h
    ·rename_i k v σ1 hcall
     simp only[LI] at h
     obtain ⟨g1,g2,g3⟩:=hc _ _ _ _ _ _ hE hcall
     obtain ⟨h1,h2⟩:=MI hc is _ _ _ _ _ _ (hE.keep g2) h
     refine ⟨g2.trans h1,fun K hK=>?_⟩
     simp only[hop,hargs]
     refine g1.mono ?_
     rintro r τ ⟨rfl,rfl⟩
     exact h2 K hK
    ·cases h
theorem CQ:∀ (n:Nat),(∀ a b:CV,SizeOf.sizeOf a≤n→cvEq a b=true→a=b)∧(∀ as_ bs:List CV,SizeOf.sizeOf as_≤n→Qbz as_ bs=true→as_=bs)
 | 0=>⟨fun a b h=>by cases a <;> simp at h,fun as_ bs h=>by cases as_ <;> simp at h⟩
 | n+1=>by
  obtain ⟨ih1,ih2⟩:=CQ n
  refine ⟨fun a b hn h=>?_,fun as_ bs hn h=>?_⟩
  ·cases a <;> cases b <;> simp only[cvEq,QT,QD,decide_eq_true_eq,beq_iff_eq] at h
   ·rw[h.1,h.2]
   ·rw[h]
   ·rw[h]
   ·rfl
   ·rfl
   ·rfl
   ·rfl
   ·rfl
   ·rw[ZJ h.1,ih2 _ _ (by simp at hn;omega) h.2]
   ·rw[ZJ h.1,ih2 _ _ (by simp at hn;omega) h.2]
  ·cases as_ <;> cases bs <;> simp only[Qbz,QT,QD] at h
   ·rfl
   ·rw[ih1 _ _ (by simp at hn;omega) h.1,ih2 _ _ (by simp at hn;omega) h.2]
theorem QdJ {a b:AV} (h:avEq a b=true):a=b:=by
 unfold avEq at h
 split at h
 ·rw[(CQ _).1 _ _ (QG _) h]
 ·simp only[QD] at h;rw[ZJ h.1,ZJ h.2]
 ·rw[ZJ h]
 ·simp only[QD] at h;rw[ZJ h.1.1,ZJ h.1.2,ZJ h.2.1,ZJ h.2.2]
 ·simp only[QD] at h;rw[ZJ h.1.1,ZJ h.1.2,ZJ h.2.1.1,ZJ h.2.1.2,ZJ h.2.2]
 ·cases h
theorem N4:∀ {as_ bs:List AV},QaL as_ bs=true→as_=bs
 | [],[],_=>rfl
 | a::as_,b::bs,h=>by simp only[QaL,QD] at h;rw[QdJ h.1,N4 h.2]
 | [],_::_,h=>by simp[QaL] at h
 | _::_,[],h=>by simp[QaL] at h
theorem Qbg {a b:Option AObj} (h:objEq a b=true):a=b:=by
 unfold objEq at h
 split at h
 ·rw[N4 h]
 ·rfl
 ·rfl
 ·cases h
theorem NP:∀ {ls:List Nat} {a b:List AObj},QdN ls a b=true→xOne ls a b
 | [],_,_,_=>trivial
 | l::ls,a,b,h=>by
  simp only[QdN,QD] at h
  exact ⟨Qbg h.1,NP h.2⟩
theorem NQ:∀ {xs:List (Nat × Nat)} {pl:List PlT} {hs:List (List AObj)},QdO xs pl hs=true→xAll xs pl hs
 | [],pl,hs,_=>trivial
 | p::xs,pl,hs,h=>by
  simp only[QdO,QD] at h
  exact ⟨NP h.1,NQ h.2⟩
theorem MH {E:Env} {call:CallE} (hc:H4 P E call):∀ (is:List Ins) (kp:List Nat) (xs:List (Nat × Nat)) (j:Nat) (pl:List PlT) (hs:List (List AObj)) (vals ρ:List AV) (σ:List AObj) (vals' ρ':List AV) (σ':List AObj),RD P E σ→runX call kp xs j is pl hs vals ρ σ=some (vals',ρ',σ') →
  WT σ σ'∧∀ K:List AV→List AV→List AObj→Prop,K vals' ρ' σ'→RPx P kp xs j is pl hs vals ρ σ K
 | [],kp,xs,j,pl,hs,vals,ρ,σ,vals',ρ',σ',hE,h=>by
  simp only[runX] at h
  split at h
  ·rename_i hx
   simp only[Option.some.injEq,Prod.mk.injEq] at h
   obtain ⟨rfl,rfl,rfl⟩:=h
   exact ⟨.refl _,fun K hK=>⟨NQ hx,hK⟩⟩
  ·cases h
 | i :: is,kp,xs,j,pl,hs,vals,ρ,σ,vals',ρ',σ',hE,h=>by
  simp only[runX,xIns] at h
  simp only[RPx]
  split at h
  ·cases h
  ·rename_i hg
   obtain ⟨h1,h2⟩:=MH hc is kp xs (j+1) _ _ _ _ _ _ _ _ hE h
   refine ⟨h1,fun K hK=>?_⟩
   (try simp only[hg]);exact h2 K hK
  ·rename_i hg
   try simp only[hg]
   unfold xOp at h
   split at h
   ·rename_i io hop
    unfold xPrim at h
    split at h
    ·rename_i v σ1 hst
     rw[LI] at h
     have hk:=WT.of_step hst
     obtain ⟨h1,h2⟩:=MH hc is kp xs (j+1) _ _ _ _ _ _ _ _ (hE.keep hk) h
     refine ⟨hk.trans h1,fun K hK=>?_⟩
     simp only[hop,hst];exact h2 K hK
    ·cases h
   ·rename_i hop
    unfold xCall1 at h
    split at h
    rotate_left
    ·cases h
    rename_i fv as_ hargs
    unfold xCall at h
    split at h
    ·rename_i k v σ1 hcall
     split at h
     ·rename_i hok
      rw[LI] at h
      obtain ⟨g1,g2,g3⟩:=hc _ _ _ _ _ _ hE hcall
      obtain ⟨h1,h2⟩:=MH hc is kp xs (j+1) _ _ _ _ _ _ _ _ (hE.keep g2) h
      refine ⟨g2.trans h1,fun K hK=>?_⟩
      simp only[hop,hargs]
      by_cases hkp:kp.contains j=true
      ·simp only[hkp,Qaj] at hok
       simp only[hkp,if_true]
       obtain ⟨rfl,hl⟩:=g3 hok
       exact ⟨v,g1,Y8 (QF _) v hl,h2 K hK⟩
      ·simp only[hkp,Qaj] at hok
       simp only[hkp,if_false,QT]
       exact ⟨v,σ1,g1,QbA hok,h2 K hK⟩
     ·cases h
    ·cases h
theorem Qbx {E:Env} {k l:Nat} {e:LE}:P6 ((k,e)::E) l=if k=l then some e else P6 E l:=by
 simp only[P6]
 by_cases h:k=l
 ·subst h;simp
 ·have:Nat.beq k l=false:=QaK h
  rw[this,if_neg h];rfl
theorem WT.push (σ:List AObj) (o:AObj):WT σ (σ++[o]):=fun l r hr=>⟨r,by rw[QE (QH.1 hr).1];exact hr,.refl r⟩
theorem GD {σ:List AObj} {l:Nat} {r:XC} (h:TI σ l=some r):σ[l]? = some (.loop r):=by
 unfold TI at h;split at h
 ·cases h;assumption
 ·cases h
theorem WT.setLoop {σ:List AObj} {l:Nat} {r:XC} (h:σ[l]? = some (.loop r)) (st:LoopState) (p:Option Code):WT σ (setLoop σ l r st p):=by
 intro l' r' hr'
 unfold AM.setLoop
 by_cases hl:l=l'
 ·subst hl
  rw[h] at hr';cases hr'
  have:l<σ.length:=(QH.1 h).1
  exact ⟨{ r with state:=st,pending:=p },by rw[Z2 this],rfl,rfl,rfl,rfl,rfl⟩
 ·exact ⟨r',by rw[QU hl];exact hr',.refl _⟩
theorem Qer {dirs:List (List Nat)} {is:List Ins} {pds:List (List Nat)} {kp:List Nat} {xs:List (Nat × Nat)} (h:kpSel dirs is pds=some (kp,xs)):RQ dirs is pds kp xs=true:=by
 unfold kpSel at h
 dsimp only at h
 split at h
 ·rename_i hf
  cases h
  exact hf
 ·simp only[QA,Prod.mk.injEq] at h
  obtain ⟨kp',hf,rfl,rfl⟩:=h
  exact List.find?_some (p:=fun kp=>RQ dirs is pds kp (xsOf is pds kp)) hf
theorem NX {E:Env} {body:St→Option (Exit × St)} {c:Code} (hb:∀ s e s',RD P E s.heap→body s=some (e,s')→WT s.heap s'.heap∧∀ Q:Exit→St→Prop,Q e s'→W P fx c s Q):∀ (n:Nat) (s:St) (e:Exit) (s':St),RD P E s.heap→Qbj body n s=some (e,s') →
  WT s.heap s'.heap∧∀ Q:Exit→St→Prop,Q e s'→WL P fx c s Q
 | 0,s,e,s',hE,h=>by simp[Qbj] at h
 | n+1,s,e,s',hE,h=>by
  simp only[Qbj,A0] at h
  split at h
  ·rename_i s1 h1
   obtain ⟨k1,k2⟩:=hb s _ s1 hE h1
   obtain ⟨k3,k4⟩:=NX hb n _ e s' (hE.keep k1) h
   exact ⟨k1.trans k3,fun Q hQ=>FG (k2 _ (k4 Q hQ))⟩
  ·rename_i hne
   obtain ⟨k1,k2⟩:=hb s e s' hE h
   refine ⟨k1,fun Q hQ=>FG (k2 _ ?_)⟩
   cases e with
   | normal=>exact absurd h (hne s')
   | _=>exact hQ
theorem AD {α:Type} (o:Option α):Qbh o=o.isNone:=by cases o <;> rfl
variable {call:Env→CallE}
theorem XL (hmix:P.follows .mixedOrders=true) (hc:∀ E,H4 P E (call E)) (lf:Nat):∀ (c:Code) (E:Env) (fx:Fx) (ic:IC) (s:St) (e:Exit) (s':St),QL P fx.vars fx.N c=some ic→RD P E s.heap→runI call lf ic E fx s=some (e,s') →
  WT s.heap s'.heap∧∀ Q:Exit→St→Prop,Q e s'→W P fx c s Q
 | .skip,E,fx,ic,s,e,s',hcc,hE,h=>by simp only[QL,Option.some.injEq] at hcc;subst hcc;simp only[runI,Option.some.injEq,Prod.mk.injEq] at h;obtain ⟨rfl,rfl⟩:=h;exact ⟨.refl _,fun Q hQ=>W_skip hQ⟩
 | .label l,E,fx,ic,s,e,s',hcc,hE,h=>by simp only[QL,Option.some.injEq] at hcc;subst hcc;simp only[runI,Option.some.injEq,Prod.mk.injEq] at h;obtain ⟨rfl,rfl⟩:=h;exact ⟨.refl _,fun Q hQ=>QeJ hQ⟩
 | .exit i,E,fx,ic,s,e,s',hcc,hE,h=>by simp only[QL,Option.some.injEq] at hcc;subst hcc;simp only[runI,Option.some.injEq,Prod.mk.injEq] at h;obtain ⟨rfl,rfl⟩:=h;exact ⟨.refl _,fun Q hQ=>QbM hQ⟩
 | .ret,E,fx,ic,s,e,s',hcc,hE,h=>by simp only[QL,Option.some.injEq] at hcc;subst hcc;simp only[runI,Option.some.injEq,Prod.mk.injEq] at h;obtain ⟨rfl,rfl⟩:=h;exact ⟨.refl _,fun Q hQ=>QcP hQ⟩
 | .seq a b,E,fx,ic,s,e,s',hcc,hE,h=>by
  simp only[QL,QB,QA] at hcc
  obtain ⟨x,hx,y,hy,rfl⟩:=hcc
  simp only[runI] at h
  unfold rThen at h
  split at h
  ·rename_i s1 h1
   obtain ⟨k1,k2⟩:=XL hmix hc lf a E fx x s _ s1 hx hE h1
   obtain ⟨k3,k4⟩:=XL hmix hc lf b E fx y s1 e s' hy (hE.keep k1) h
   exact ⟨k1.trans k3,fun Q hQ=>QcO (k2 _ (k4 Q hQ))⟩
  ·rename_i hne
   obtain ⟨k1,k2⟩:=XL hmix hc lf a E fx x s e s' hx hE h
   refine ⟨k1,fun Q hQ=>QcO (k2 _ ?_)⟩
   cases e with
   | normal=>exact absurd h (hne s')
   | _=>exact hQ
 | .block i a,E,fx,ic,s,e,s',hcc,hE,h=>by
  simp only[QL,QA] at hcc
  obtain ⟨x,hx,rfl⟩:=hcc
  simp only[runI] at h
  unfold rBlock at h
  split at h
  ·rename_i i' s1 h1
   simp only[Option.some.injEq,Prod.mk.injEq] at h
   obtain ⟨h2,rfl⟩:=h
   obtain ⟨k1,k2⟩:=XL hmix hc lf a E fx x s _ s1 hx hE h1
   refine ⟨k1,fun Q hQ=>QbO (k2 _ ?_)⟩
   by_cases hi:i'=i
   ·subst hi;simp at h2 ⊢;subst h2;exact hQ
   ·have hb:Nat.beq i' i=false:=QaK hi
    rw[hb] at h2;simp only[QT,if_false] at h2;subst h2
    simp only[hi,if_false];exact hQ
  ·rename_i hne
   obtain ⟨k1,k2⟩:=XL hmix hc lf a E fx x s e s' hx hE h
   refine ⟨k1,fun Q hQ=>QbO (k2 _ ?_)⟩
   cases e with
   | exit i'=>exact absurd h (hne i' s')
   | _=>exact hQ
 | .loop a,E,fx,ic,s,e,s',hcc,hE,h=>by
  simp only[QL,QA] at hcc
  obtain ⟨x,hx,rfl⟩:=hcc
  simp only[runI] at h
  obtain ⟨k1,k2⟩:=NX (P:=P) (fx:=fx) (E:=E) (c:=a) (fun s e s' hE h=>XL hmix hc lf a E fx x s e s' hx hE h) lf s e s' hE h
  exact ⟨k1,fun Q hQ=>W_loop (k2 Q hQ)⟩
 | .scope a,E,fx,ic,s,e,s',hcc,hE,h=>by
  simp only[QL,QA] at hcc
  obtain ⟨x,hx,rfl⟩:=hcc
  simp only[runI] at h
  unfold rScope at h
  split at h
  ·cases h
  ·rename_i hne
   obtain ⟨k1,k2⟩:=XL hmix hc lf a E fx x s e s' hx hE h
   refine ⟨k1,fun Q hQ=>QeI (k2 _ ?_)⟩
   cases e with
   | goto l=>exact absurd h (hne l s')
   | _=>exact hQ
 | .cond (.const v) a b,E,fx,ic,s,e,s',hcc,hE,h=>by
  cases v <;> simp only[QL,reduceCtorEq] at hcc
  rename_i t
  cases t with
  | true =>
   simp only[if_true] at hcc
   obtain ⟨k1,k2⟩:=XL hmix hc lf a E fx ic s e s' hcc hE h
   exact ⟨k1,fun Q hQ=>XD (k2 Q hQ)⟩
  | false =>
   simp only[QT,if_false] at hcc
   obtain ⟨k1,k2⟩:=XL hmix hc lf b E fx ic s e s' hcc hE h
   exact ⟨k1,fun Q hQ=>XD (k2 Q hQ)⟩
 | .cond (.tmp t) a b,E,fx,ic,s,e,s',hcc,hE,h=>by
  simp only[QL,QB,QA] at hcc
  obtain ⟨i,hi,x,hx,y,hy,rfl⟩:=hcc
  simp only[runI] at h
  unfold rCond at h
  split at h
  ·rename_i hv
   obtain ⟨k1,k2⟩:=XL hmix hc lf a E fx x s e s' hx hE h
   exact ⟨k1,fun Q hQ=>QbN (Y9 hi) hv (k2 Q hQ)⟩
  ·rename_i hv
   obtain ⟨k1,k2⟩:=XL hmix hc lf b E fx y s e s' hy hE h
   exact ⟨k1,fun Q hQ=>QbN (Y9 hi) hv (k2 Q hQ)⟩
  ·cases h
 | .region id ops false,E,fx,ic,s,e,s',hcc,hE,h=>by
  simp only[QL,QA] at hcc
  obtain ⟨is,his,rfl⟩:=hcc
  simp only[runI] at h
  unfold rReg at h
  split at h
  ·rename_i vals ρ σ hr
   simp only[Option.some.injEq,Prod.mk.injEq] at h
   obtain ⟨rfl,rfl⟩:=h
   obtain ⟨k1,k2⟩:=MI (hc E) is _ _ _ _ _ _ hE hr
   exact ⟨k1,fun Q hQ=>C5 his (k2 _ hQ)⟩
  ·cases h
 | .region id ops true,E,fx,ic,s,e,s',hcc,hE,h=>by
  simp only[QL,QA] at hcc
  obtain ⟨is,his,rfl⟩:=hcc
  simp only[runI] at h
  unfold rDraw at h
  split at h
  ·cases h
  ·rename_i kp xs hkp
   split at h
   ·rename_i hlen
    unfold rReg at h
    split at h
    ·rename_i vals ρ σ hr
     simp only[Option.some.injEq,Prod.mk.injEq] at h
     obtain ⟨rfl,rfl⟩:=h
     obtain ⟨k1,k2⟩:=MH (hc E) is _ _ _ _ _ _ _ _ _ _ _ hE hr
     exact ⟨k1,fun Q hQ=>PE _ kp xs hmix his (AA (Qer hkp)) (by simpa using hlen) (k2 _ hQ)⟩
    ·cases h
   ·cases h
 | .rangeFunc g ps assign body,E,fx,ic,s,e,s',hcc,hE,h=>by
  simp only[QL,QB,QA] at hcc
  obtain ⟨ia,hia,ib,hib,rfl⟩:=hcc
  simp only[runI] at h
  unfold rfGo at h
  split at h
  rotate_left
  ·cases h
  rename_i gf cap hg
  split at h
  rotate_left
  ·cases h
  rename_i hchk
  simp only[rfChk,QD,decide_eq_true_eq,Q1] at hchk
  obtain ⟨⟨hvl,hr0⟩,hnd,hps⟩:=hchk
  unfold rfRes at h
  split at h
  rotate_left
  ·cases h
  rename_i k0 v0 σ' hcall
  unfold rfLoop at h
  split at h
  rotate_left
  ·cases h
  rename_i r2 hr2
  have hr2':=GD hr2
  have hE':RD P ((s.heap.length,⟨fx.vars,fx.N,ps.toList,ia,ib⟩)::E) (s.heap++[.loop (VJ fx s.vals ps assign body)]):=by
   intro l le hl
   rw[Qbx] at hl
   split at hl
   ·rename_i hl0
    subst hl0;cases hl
    refine ⟨VJ fx s.vals ps assign body,by simp,rfl,rfl,rfl,hia,hib,hnd,fun t ht=>?_,fun t ht=>?_⟩
    ·have:=(hps t ht).1;simpa using this
    ·have:=(hps t ht).2;simpa using this
   ·exact (hE.keep (.push _ _)) l le hl
  obtain ⟨g1,g2,g3⟩:=hc _ _ _ _ _ _ _ hE' hcall
  have hk:WT s.heap σ':=(WT.push _ _).trans g2
  have hr0':∀ l0,fx.r=some l0→∃ r0,s.heap[l0]? = some (.loop r0):=by
   intro l0 hl0
   rw[hl0] at hr0
   simp only[Option.isSome_iff_exists] at hr0
   obtain ⟨r0,hr0⟩:=hr0
   exact ⟨r0,GD hr0⟩
  have main:∀ Q:Exit→St→Prop,r2.state≠.busy→(match r2.pending with
    | none=>Q .normal ⟨s.vals,setLoop σ' s.heap.length r2 .exhausted none⟩
    | some c=>W P fx c ⟨s.vals,setLoop σ' s.heap.length r2 .exhausted (some c)⟩ Q)→W P fx (.rangeFunc g ps assign body) s Q:=by
   intro Q hbusy hq
   refine N6 rfl hg (by simpa using hvl) hr0' ?_
   have g1':AC P gf (.yld s.heap.length::cap) (s.heap++[.loop (VJ fx s.vals ps assign body)]) fun v' τ'=>v'=v0∧τ'=σ':=g1
   refine g1'.mono ?_
   rintro r τ ⟨rfl,rfl⟩
   exact ⟨r2,hr2',hbusy,hq⟩
  split at h
  ·cases h
  rename_i hbusy
  have hbusy:r2.state≠.busy:=fun hb=>by rw[hb] at hbusy;exact hbusy rfl
  unfold rfPend at h
  split at h
  ·rename_i hp
   simp only[Option.some.injEq,Prod.mk.injEq] at h
   obtain ⟨rfl,rfl⟩:=h
   exact ⟨hk.trans (.setLoop hr2' _ _),fun Q hQ=>main Q hbusy (by rw[hp];exact hQ)⟩
  ·rename_i hp
   simp only[Option.some.injEq,Prod.mk.injEq] at h
   obtain ⟨rfl,rfl⟩:=h
   exact ⟨hk.trans (.setLoop hr2' _ _),fun Q hQ=>main Q hbusy (by rw[hp];exact QcP hQ)⟩
  ·rename_i i hp
   simp only[Option.some.injEq,Prod.mk.injEq] at h
   obtain ⟨rfl,rfl⟩:=h
   exact ⟨hk.trans (.setLoop hr2' _ _),fun Q hQ=>main Q hbusy (by rw[hp];exact QbM hQ)⟩
  ·cases h
 | .cond (.global _) _ _,_,_,_,_,_,_,hcc,_,_=>by simp[QL] at hcc
 | .cond (.func _) _ _,_,_,_,_,_,_,hcc,_,_=>by simp[QL] at hcc
 | .goto _,_,_,_,_,_,_,hcc,_,_=>by simp[QL] at hcc
 | .refuse _,_,_,_,_,_,_,hcc,_,_=>by simp[QL] at hcc
variable {T:Nat→Option FE}
theorem BV (hmix:P.follows .mixedOrders=true) (hc:∀ E,H4 P E (call E)) (lf:Nat) {E:Env} {f:FuncId} {fe:FE} (hf:FnOk P f fe) {args:List AV} {σ σ':List AObj} {r:AV} (hE:RD P E σ) (h:runF call lf E fe args σ=some (r,σ')) :
  AC P f args σ (fun v τ=>v=r∧τ=σ')∧WT σ σ':=by
 obtain ⟨fn,c,h1,h2,h3,h4,h5,h6⟩:=hf.ok
 unfold runF at h
 split at h
 rotate_left
 ·cases h
 rename_i hlen
 have hlen':args.length≤fn.ntmps:=by rw[h4];simpa using hlen
 have fin:∀ e s,runI call lf fe.ic E ⟨fe.vars,fe.N,none,σ.length⟩ ⟨Y5 fe.vars args,σ⟩=some (e,s)→(e=.normal∨e=.ret)→rRes s.heap (RL s.vals s.heap fe.res)=some (r,σ')→AC P f args σ (fun v τ=>v=r∧τ=σ')∧WT σ σ':=by
  intro e s hr he hres
  unfold rRes at hres
  split at hres
  rotate_left
  ·cases hres
  rename_i r' hres'
  simp only[Option.some.injEq,Prod.mk.injEq] at hres
  obtain ⟨rfl,rfl⟩:=hres
  obtain ⟨k1,k2⟩:=XL hmix hc lf c E ⟨fe.vars,fe.N,none,σ.length⟩ fe.ic ⟨Y5 fe.vars args,σ⟩ e s (by rw[← h4];exact h5) hE hr
  refine ⟨?_,k1⟩
  refine IB (vars:=fe.vars) h1 h2 (RE h1 h3 h2) hlen' ?_
  rw[h4]
  refine k2 _ ?_
  have:UB P fe.vars s.vals s.heap fn.results.toList=some r':=by rw[BY h6];exact hres'
  rcases he with rfl | rfl <;> exact ⟨r',this,rfl,rfl⟩
 unfold rFn at h
 split at h
 ·rename_i s hr;exact fin _ _ hr (.inl rfl) h
 ·rename_i s hr;exact fin _ _ hr (.inr rfl) h
 ·cases h
theorem cut_AC {f:FuncId} {args:List AV} {σ σ':List AObj} {r:AV} (h:AC P f args σ (fun v τ=>v=r∧τ=σ')) (hk:WT σ σ') (hle:σ.length≤σ'.length):AC P f args σ (fun v τ=>v=r∧τ=cutF σ.length r σ')∧WT σ (cutF σ.length r σ'):=by
 unfold cutF
 split
 ·rename_i hc
  simp only[QD,Q1] at hc
  replace hc:=hc.2
  have hlt:(σ'.take σ.length).length=σ.length:=by simp[hle]
  refine ⟨h.tidy ?_,?_⟩
  ·rintro v τ ⟨rfl,rfl⟩
   refine ⟨id,v,τ.take σ.length,⟨fun _ _=>rfl,fun _ _ h _=>h,by omega,?_,by rw[hlt];exact hc.1,fun l o ho=>.inr ?_⟩,rfl,rfl⟩
   ·exact (PU (g:=id) (k:=σ.length) (fun _ _=>rfl) v hc.1).symm
   ·have hin:=hc.2 o (QZ ho)
    rw[hlt]
    refine ⟨hin,?_⟩
    rw[E1 (g:=id) (k:=σ.length) (fun _ _=>rfl) hin]
    rw[Z7] at ho
    split at ho
    ·exact ho
    ·cases ho
  ·intro l r' hr'
   obtain ⟨r2,k1,k2⟩:=hk l r' hr'
   have:l<σ.length:=(QH.1 hr').1
   exact ⟨r2,by rw[Z7,if_pos this];exact k1,k2⟩
 ·exact ⟨h,hk⟩
end
section
variable {P:Program} {T:Tb} {call:Env→CallE}
theorem RD.nil (σ:List AObj):RD P [] σ:=fun l le h=>by simp[P6] at h
theorem cut_AC' {f:FuncId} {args:List AV} {σ σ':List AObj} {r:AV} (h:AC P f args σ (fun v τ=>v=r∧τ=σ')) (hk:WT σ σ'):AC P f args σ (fun v τ=>v=r∧τ=cutF σ.length r σ')∧WT σ (cutF σ.length r σ'):=by
 rcases ZB σ'.length σ.length with hlt | hge
 ·have:cutF σ.length r σ'=σ':=by
   unfold cutF
   rw[Q5 (by omega)]
   split <;> rfl
  rw[this];exact ⟨h,hk⟩
 ·exact cut_AC h hk hge
theorem QaM:∀ (n:Nat),(∀ a b:AV,SizeOf.sizeOf a≤n→aEq a b=true→a=b)∧(∀ as_ bs:List AV,SizeOf.sizeOf as_≤n→asEq as_ bs=true→as_=bs)
 | 0=>⟨fun a b h=>by cases a <;> simp at h,fun as_ bs h=>by cases as_ <;> simp at h⟩
 | n+1=>by
  obtain ⟨ih1,ih2⟩:=QaM n
  refine ⟨fun a b hn h=>?_,fun as_ bs hn h=>?_⟩
  ·cases a <;> cases b <;> simp only[aEq,QT,reduceCtorEq] at h
   ·rw[(CQ _).1 _ _ (QG _) h]
   ·rw[ih2 _ _ (by simp at hn;omega) h]
  ·cases as_ <;> cases bs <;> simp only[asEq,QT,QD,reduceCtorEq] at h
   ·rfl
   ·rw[ih1 _ _ (by simp at hn;omega) h.1,ih2 _ _ (by simp at hn;omega) h.2]
def KnOk (P:Program):Kn→Prop
 | []=>True
 | (f,as_,v)::ks=>(QR 0 v=true∧∀ σ,AC P f as_ σ fun r τ=>r=v∧τ=σ)∧KnOk P ks
theorem KnOk.get {P:Program}:∀ {ks:Kn},KnOk P ks→∀ f as_ v,Qbm ks f as_=some v→QR 0 v=true∧∀ σ,AC P f as_ σ fun r τ=>r=v∧τ=σ
 | [],_,f,as_,v,h=>by simp[Qbm] at h
 | (g,bs,u)::ks,hok,f,as_,v,h=>by
  simp only[Qbm] at h
  split at h
  ·rename_i hk
   cases h
   simp only[QD] at hk
   rw[← ZJ hk.1,← (QaM _).2 _ _ (QG _) hk.2]
   exact hok.1
  ·exact KnOk.get hok.2 f as_ v h
structure TbOk (P:Program) (T:Tb):Prop where
 t:∀ f fe,T.T f=some fe→FnOk P f fe
 k:KnOk P T.K
theorem R7 (hmix:P.follows .mixedOrders=true) (hT:TbOk P T) (hc:∀ E,H4 P E (call E)) (lf:Nat) {E:Env} {f:FuncId} {args:List AV} {σ σ':List AObj} {k:Bool} {v:AV} (hE:RD P E σ)
  (h:JL T call lf E f args σ=some (k,v,σ')):AC P f args σ (fun v' τ=>v'=v∧τ=σ')∧WT σ σ'∧(k=true→σ'=σ∧QR 0 v=true):=by
 unfold JL rKn at h
 split at h
 ·rename_i v0 hkn
  simp only[Option.some.injEq,Prod.mk.injEq] at h
  obtain ⟨rfl,rfl,rfl⟩:=h
  obtain ⟨h1,h2⟩:=hT.k.get _ _ _ hkn
  exact ⟨h2 σ,.refl _,fun _=>⟨rfl,h1⟩⟩
 unfold rFe at h
 split at h
 ·cases h
 rename_i fe hfe
 have hfo:=hT.t f fe hfe
 by_cases hp:(fe.pure&&QO 0 args)=true
 ·rw[if_pos hp] at h
  simp only[QD] at hp
  unfold rFrz at h
  split at h
  rotate_left
  ·cases h
  rename_i r τ hr
  unfold rFrz2 at h
  split at h
  rotate_left
  ·cases h
  rename_i v0 hv0
  split at h
  rotate_left
  ·cases h
  rename_i hl0
  simp only[Option.some.injEq,Prod.mk.injEq] at h
  obtain ⟨rfl,rfl,rfl⟩:=h
  obtain ⟨g1,g2⟩:=BV hmix hc lf hfo (.nil []) hr
  refine ⟨?_,.refl _,fun _=>⟨rfl,hl0⟩⟩
  refine AC.pure hp.2 g1 ?_ σ
  rintro v' τ' ⟨rfl,rfl⟩
  exact ⟨v0,Qbr 8 _ _ hv0,rfl⟩
 ·rw[if_neg hp] at h
  unfold rCut at h
  split at h
  rotate_left
  ·cases h
  rename_i r τ hr
  simp only[Option.some.injEq,Prod.mk.injEq] at h
  obtain ⟨rfl,rfl,rfl⟩:=h
  obtain ⟨g1,g2⟩:=BV hmix hc lf hfo hE hr
  obtain ⟨g3,g4⟩:=cut_AC' g1 g2
  exact ⟨g3,g4,fun hk=>by cases hk⟩
theorem Qc9 (hmix:P.follows .mixedOrders=true) (hc:∀ E,H4 P E (call E)) (lf:Nat) {E:Env} {l:Nat} {args:List AV} {σ σ':List AObj} {k:Bool} {v:AV} (hE:RD P E σ)
  (h:runY call lf E l args σ=some (k,v,σ')):YC P l args σ (fun v' τ=>v'=v∧τ=σ')∧WT σ σ'∧(k=true→σ'=σ∧QR 0 v=true):=by
 unfold runY yGo at h
 split at h
 rotate_left
 ·cases h
 rename_i le r hle hr
 have hr:=GD hr
 obtain ⟨r',h0,h1,h2,h3,h4,h5,h6,h7,h8⟩:=hE l le hle
 rw[hr] at h0;cases h0
 have ready:∀ st:LoopState,MU st=true→st=.ready:=fun st h=>by cases st <;> simp_all [MU]
 split at h
 rotate_left
 ·cases h
 rename_i hchk
 simp only[QD] at hchk
 have hst:=ready _ hchk.1
 have hlen:=ZJ hchk.2
 unfold yAss at h
 split at h
 rotate_left
 ·cases h
 rename_i s1 hs1
 obtain ⟨k1,k2⟩:=XL hmix hc lf r.assign E ⟨le.vars,le.N,some l,σ.length⟩ le.ia _ _ _ h4 hE hs1
 unfold yBody at h
 split at h
 rotate_left
 ·cases h
 rename_i r1 hr1
 have hr1:=GD hr1
 split at h
 rotate_left
 ·cases h
 rename_i hst1
 have hst1:=ready _ hst1
 have hkl:=WT.setLoop hr1 .busy r1.pending
 have fin:∀ (e:Exit) (s2:St) (r2:XC),runI call lf le.ib E ⟨le.vars,le.N,some l,σ.length⟩ ⟨s1.vals,setLoop s1.heap l r1 .busy r1.pending⟩=some (e,s2)→(∀ x,e≠.panic x)→e≠.outgrown→TI s2.heap l=some r2 →
   (k,v,σ')=(false,.b (Qbh (GQ e)),setLoop s2.heap l r2 (if Qbh (GQ e) then .ready else .done) (GQ e)) →
   YC P l args σ (fun v' τ=>v'=v∧τ=σ')∧WT σ σ'∧(k=true→σ'=σ∧QR 0 v=true):=by
  intro e s2 r2 hrun hnp hno hr2 heq
  have hr2:=GD hr2
  simp only[Prod.mk.injEq] at heq
  obtain ⟨rfl,rfl,rfl⟩:=heq
  obtain ⟨k3,k4⟩:=XL hmix hc lf r.body E ⟨le.vars,le.N,some l,σ.length⟩ le.ib _ _ _ h5 (hE.keep (k1.trans hkl)) hrun
  refine ⟨?_,((k1.trans hkl).trans k3).trans (.setLoop hr2 _ _),fun hk=>by cases hk⟩
  refine N5 hr hst (by rw[h3];exact hlen) (by rw[h1];exact h6) (by rw[h1,h3];exact h7) (by rw[h2,h3];exact h8) ?_
  rw[h1,h2,h3]
  refine k2 _ ?_
  refine ⟨r1,hr1,hst1,?_⟩
  refine k4 _ ?_
  cases e with
  | panic x=>exact absurd rfl (hnp x)
  | outgrown=>exact absurd rfl hno
  | _=>exact ⟨r2,hr2,by simp only[AD],by simp only[AD]⟩
 unfold yRes at h
 split at h
 ·cases h
 ·cases h
 ·cases h
 ·rename_i e s2 hn1 hn2 hs2
  unfold yEnd at h
  split at h
  rotate_left
  ·cases h
  rename_i r2 hr2
  simp only[Option.some.injEq] at h
  exact fin e s2 r2 hs2 (fun x hx=>hn1 x hx) (fun hx=>hn2 hx) hr2 h.symm
theorem N2 (hmix:P.follows .mixedOrders=true) (hT:TbOk P T) (lf:Nat):∀ (d:Nat) (E:Env),H4 P E (UI T lf d E)
 | 0,E,fv,as_,σ,k,v,σ',hE,h=>by simp[UI] at h
 | d+1,E,fv,as_,σ,k,v,σ',hE,h=>by
  have hc:=N2 hmix hT lf d
  simp only[UI] at h
  split at h
  ·exact R7 hmix hT hc lf hE h
  ·exact R7 hmix hT hc lf hE h
  ·exact Qc9 hmix hc lf hE h
  ·cases h
theorem AC_run (hmix:P.follows .mixedOrders=true) (hT:TbOk P T) (lf d:Nat) {f:FuncId} {args:List AV} {v:AV} (h:JL T (UI T lf d) lf [] f args []=some (true,v,[])) (hcl:QO 0 args=true) (σ:List AObj) :
  AC P f args σ fun r τ=>r=v∧τ=σ:=by
 obtain ⟨g1,g2,g3⟩:=R7 hmix hT (N2 hmix hT lf d) lf (.nil []) h
 obtain ⟨_,hl⟩:=g3 rfl
 refine AC.pure hcl g1 ?_ σ
 rintro r τ ⟨rfl,rfl⟩
 refine ⟨r,?_,rfl⟩
 exact GE (k:=0) r hl
end
def TOk (P:Program):List (Nat × FE)→Prop
 | []=>True
 | (f,fe)::es=>FnOk P f fe∧TOk P es
def tget:List (Nat × FE)→Nat→Option FE
 | [],_=>none
 | (k,e)::es,f=>if Nat.beq k f then some e else tget es f
theorem TOk.get {P:Program}:∀ {es:List (Nat × FE)},TOk P es→∀ f fe,tget es f=some fe→FnOk P f fe
 | [],_,f,fe,h=>by simp[tget] at h
 | (k,e)::es,hok,f,fe,h=>by
  simp only[tget] at h
  split at h
  ·rename_i hk
   cases h
   rw[← ZJ hk];exact hok.1
  ·exact TOk.get hok.2 f fe h
theorem FnOk.mk' {P:Program} {f:FuncId} {fn:Func} {c:Code} {vars:List Nat} {N:Nat} {ic:IC} {res:List RC} {pure:Bool} (h1:P.funcs[f]? = some fn) (h2:fn.body=some c) (h3:(fn.name == "runtime.NumGoroutine")=false) (h5:QL P vars fn.ntmps c=some ic)
  (h6:mapO (R0 P vars) fn.results.toList=some res) (h4:fn.ntmps=N):FnOk P f ⟨ic,vars,N,res,pure⟩:=⟨fn,c,h1,h2,h3,h4,h5,h6⟩
theorem FnOk.mk2 {P:Program} {f:FuncId} {fn:Func} {vars:List Nat} {N:Nat} {ic:IC} {res:List RC} {pure:Bool} (h1:P.funcs[f]? = some fn) (h2:fn.body.isSome=true) (h3:(fn.name == "runtime.NumGoroutine")=false)
  (h5:QL P vars fn.ntmps (fn.body.getD .skip)=some ic) (h6:mapO (R0 P vars) fn.results.toList=some res) (h4:fn.ntmps=N):FnOk P f ⟨ic,vars,N,res,pure⟩:=by
 cases hb:fn.body with
 | none=>rw[hb] at h2;cases h2
 | some c=>rw[hb] at h5;exact FnOk.mk' h1 hb h3 h5 h6 h4
def jS:Opd:=.c (.cv .nils)
def jB (b:Bool):Opd:=.c (.cv (.bool b))
def jn (z:Int):Opd:=.c (.cv (.int .i64 z))
def jq (o:IOp) (a:List Opd):Ins:=⟨none,none,.prim o,a⟩
def jw (d:Nat) (o:IOp) (a:List Opd):Ins:=⟨some d,none,.prim o,a⟩
def jg (n:Nat) (b:Bool) (o:IOp) (a:List Opd):Ins:=⟨none,some (n,b),.prim o,a⟩
def jk (f:Nat) (a:List Opd):Ins:=⟨none,none,.call,.c (.fn (.func f) [])::a⟩
def jd (d f:Nat) (a:List Opd):Ins:=⟨some d,none,.call,.c (.fn (.func f) [])::a⟩
def jf (n:Nat) (b:Bool) (f:Nat) (a:List Opd):Ins:=⟨none,some (n,b),.call,.c (.fn (.func f) [])::a⟩
def jv (n:Nat):Ins:=⟨none,none,.prim .mv,[.v n]⟩
def jt (n:Nat):Ins:=⟨none,none,.prim .mv,[.t n]⟩
def jl (n:Nat):Ins:=⟨none,none,.prim .load1,[.t n]⟩
def jL (n:Nat):Ins:=⟨none,none,.prim .load1,[.v n]⟩
def je (n:Nat):Ins:=⟨none,none,.prim (.len false),[.t n]⟩
def jc (n:Nat):Ins:=⟨none,none,.prim .nilck,[.t n]⟩
def ja (e a b:Nat):Ins:=⟨none,none,.prim (.iaS e),[.t a,.t b]⟩
def jF (k n:Nat):Ins:=⟨none,none,.prim (.fadd k),[.v n]⟩
def jG (k n:Nat):Ins:=⟨none,none,.prim (.fadd k),[.t n]⟩
def jx (k n:Nat):Ins:=⟨none,none,.prim (.extract k),[.t n]⟩
def jN (k n:Nat):Ins:=⟨none,none,.prim (.loadN k),[.v n]⟩
def jm (d n:Nat):Ins:=⟨some d,none,.prim .mv,[.t n]⟩
def jz (d:Nat) (z:Int):Ins:=⟨some d,none,.prim .mv,[.c (.cv (.int .i64 z))]⟩
def jb (d n:Nat):Ins:=⟨some d,none,.prim .box,[.v n]⟩
def jh (n:Nat) (b:Bool) (m:Nat):Ins:=⟨none,some (n,b),.prim .mv,[.v m]⟩
def ji (n:Nat) (b:Bool) (m:Nat):Ins:=⟨none,some (n,b),.prim .load1,[.t m]⟩
end Go.Proofs.YtogjcmnopidfpaaGreat.AM

/- Parts of the proof, joined: AmM to AmEa. -/
import Derived.Test.YtgkidpolomhghaaGreatDoorX1
set_option linter.unusedVariables false
set_option linter.unusedSimpArgs false
set_option linter.unusedSectionVars false
namespace Go.Proofs.YtgkidpolomhghaaGreatDoor.AM
variable [Dr]
open Go
variable {P:Program} {fx:Fx} {m:LM} {X:Nat→Prop} {en:En} {w:World}
theorem SRel.of_heap {s:St} {σ':List AObj} {m':LM} {ac:Act} {w':World} (h:SRel fx m X en s ac w) (h':HRel m' X σ' w') (hs:Step s.heap.length m X w m' w') (hl:s.heap.length≤σ'.length):SRel fx m' X en { s with heap:=σ' } ac w' where
 size:=h.size
 vars:=h.vars.mono (h.heap.mono_of_step hs (QG _))
 defs:=h.defs.step hs
 heap:=h'
 base:=YR h.base hl
 entry:=YR h.entry hs.size
theorem TRel.mono {vars:List Nat} {ops:List Oper} {ρ:List AV} {tmps:Array Value} {m':LM} {w':World} (h:TRel m X w vars ops ρ tmps) (hm:Mono m X w m' X w'):TRel m' X w' vars ops ρ tmps :=
 fun j t hj hv=>VRel.mono hm _ _ (h j t hj hv)
theorem ED {io:IOp} {αs:List AV} {σ σ':List AObj} {r:AV} (h:ZQ io αs σ=some (r,σ')):σ.length≤σ'.length:=by
 cases io <;> simp only[ZQ] at h
 case mv=>unfold f_mv at h;split at h <;> cases h;exact QG _
 case pick=>unfold P4 at h;split at h <;> cases h;exact QG _
 case not=>unfold CN at h;split at h <;> cases h;exact QG _
 case bin=>unfold OJ at h;split at h <;> first | (simp only[QA] at h;obtain ⟨_,_,h⟩:=h;cases h;exact QG _) | cases h
 case conv=>unfold P5 at h;split at h <;> cases h;exact QG _
 case alloc=>unfold UO at h;split at h <;> cases h;simp
 case box=>unfold WI at h;split at h <;> first | (split at h <;> cases h;simp) | cases h
 case build=>unfold DL at h;simp only[QA] at h;obtain ⟨_,_,h⟩:=h;cases h;exact QG _
 case bslice=>unfold V4 at h;simp only[QA] at h;obtain ⟨_,_,h⟩:=h;cases h;simp
 case load1=>unfold KZ at h;split at h <;> first | (simp only[QB,QA] at h;obtain ⟨_,_,_,_,h⟩:=h;cases h;exact QG _) | (simp only[QA] at h;obtain ⟨_,_,h⟩:=h;cases h;exact QG _) | cases h
 case loadN=>unfold YF at h;split at h <;> first | (simp only[QB] at h;obtain ⟨_,_,h⟩:=h;split at h <;> cases h;exact QG _) | (split at h <;> cases h;exact QG _) | cases h
 case store=>unfold UM at h;split at h <;> first | (simp only[QB] at h;obtain ⟨_,_,h⟩:=h;split at h <;> cases h;simp) | cases h
 case nilck=>unfold G4 at h;split at h <;> cases h <;> exact QG _
 case mkfn=>unfold NI at h;cases h;exact QG _
 case mkbm=>unfold NJ at h;cases h;exact QG _
 case mkmap=>unfold KY at h;split at h <;> cases h;simp
 case mkslice=>unfold XB at h;split at h <;> first | (split at h <;> cases h;simp) | cases h
 case slA=>unfold OG at h;split at h <;> first | (simp only[QB] at h;obtain ⟨_,_,_,_,h⟩:=h;split at h <;> cases h;exact QG _) | cases h
 case slS=>unfold VG at h;split at h <;> first | (simp only[QB] at h;obtain ⟨_,_,h⟩:=h;split at h <;> first | (split at h <;> cases h <;> exact QG _) | (cases h;exact QG _) | cases h) | cases h
 case slStr=>unfold LN at h;split at h <;> first | (simp only[QB] at h;obtain ⟨_,_,h⟩:=h;split at h <;> cases h;exact QG _) | cases h
 case fadd=>unfold DK at h;split at h <;> cases h <;> exact QG _
 case fld=>unfold OH at h;split at h <;> first | (split at h <;> cases h;exact QG _) | (simp only[QA] at h;obtain ⟨_,_,h⟩:=h;cases h;exact QG _) | cases h
 case iaA=>unfold PD at h;split at h <;> first | (split at h <;> cases h;exact QG _) | cases h
 case iaS=>unfold VP at h;split at h <;> first | (split at h <;> cases h;exact QG _) | cases h
 case ixA=>unfold A7 at h;split at h <;> first | (split at h <;> first | (cases h;exact QG _) | (simp only[QA] at h;obtain ⟨_,_,h⟩:=h;cases h;exact QG _) | cases h) | cases h
 case ixStr=>unfold G5 at h;split at h <;> first | (split at h <;> first | (simp only[QA] at h;obtain ⟨_,_,h⟩:=h;cases h;exact QG _) | cases h) | cases h
 case extract=>unfold U6 at h;split at h <;> first | (simp only[QA] at h;obtain ⟨_,_,h⟩:=h;cases h;exact QG _) | cases h
 case len=>unfold RZ at h;split at h <;> cases h <;> exact QG _
 case min2=>unfold DJ at h;split at h <;> first | (split at h <;> cases h;exact QG _) | cases h
 case max2=>unfold GT at h;split at h <;> first | (split at h <;> cases h;exact QG _) | cases h
 case append =>
  unfold ZX at h;split at h
  ·simp only[QB] at h;obtain ⟨_,_,_,_,h⟩:=h;split at h
   ·cases h;exact QG _
   ·split at h <;> cases h;simp
  ·simp only[QB] at h;obtain ⟨_,_,_,_,_,_,h⟩:=h;split at h <;> cases h;simp
  ·simp only[QB] at h;obtain ⟨_,_,_,_,_,_,h⟩:=h;split at h <;> (split at h <;> cases h;simp)
  ·cases h
 case clear=>unfold UN at h;split at h <;> first | (simp only[QB] at h;obtain ⟨_,_,h⟩:=h;split at h <;> cases h;simp) | cases h
 case copy=>unfold UE at h;split at h <;> first | (simp only[QB] at h;obtain ⟨_,_,_,_,_,_,h⟩:=h;split at h <;> cases h;simp) | cases h
 case lookup=>unfold KL at h;split at h <;> first | (simp only[QB] at h;obtain ⟨_,_,h⟩:=h;split at h <;> first | (cases h;done) | (simp only[QA] at h;obtain ⟨_,_,h⟩:=h;cases h;exact QG _)) | cases h
 case mapset=>unfold JZ at h;split at h <;> first | (simp only[QB] at h;obtain ⟨_,_,h⟩:=h;split at h <;> first | (cases h;done) | (simp only[QA] at h;obtain ⟨_,_,h⟩:=h;cases h;simp)) | cases h
 case mapdel=>unfold J0 at h;split at h <;> first | (simp only[QB] at h;obtain ⟨_,_,h⟩:=h;split at h <;> first | (cases h;done) | (simp only[QA] at h;obtain ⟨_,_,h⟩:=h;cases h;simp)) | cases h
 case maplen=>unfold TS at h;split at h <;> first | (simp only[QA] at h;obtain ⟨_,_,h⟩:=h;cases h;exact QG _) | cases h
 case stuck=>cases h
 case mapent=>cases h
 case entst=>cases h
 case eqS=>unfold OI at h;split at h <;> (try (cases h;done));simp only[QA] at h;obtain ⟨v,hv,he⟩:=h;cases he;exact QG _
 case mksliceC=>unfold XR at h;split at h <;> first | (split at h <;> cases h;simp) | cases h
 case slS3=>unfold TR at h;split at h <;> (try (cases h;done)) <;> (simp only[QB] at h;obtain ⟨_,_,_,_,_,_,h⟩:=h;split at h <;> cases h;exact QG _)
 case cap=>unfold NZ at h;split at h <;> cases h;exact QG _
 case appendz=>unfold VQ at h;split at h <;> (try (cases h;done));simp only[QB] at h;obtain ⟨_,_,h⟩:=h;split at h <;> cases h;simp
 case rstr=>unfold F6 at h;split at h <;> cases h;simp
 case snext=>unfold KX at h;split at h <;> (try (cases h;done));simp only[QA] at h;obtain ⟨_,_,h⟩:=h;split at h <;> cases h <;> simp
def wfen (ro:Option Nat):Fence:={ Fence.wide with round:=ro }
theorem VC {vars:List Nat} {dsts:List (Option Nat)} {o:Oper} {i:Ins} {io:IOp} (h:JP P vars dsts o=some i) (hop:i.op=.prim io) :
  ∃ os,TV P (QeD vars) o=some (io,os)∧i.args=os.map (XA vars dsts)∧i.dst=KA vars o.dst∧i.gd=o.guard:=by
 unfold JP at h;split at h
 ·cases h;cases hop
 ·simp only[QA] at h;obtain ⟨⟨io',os⟩,hc,he⟩:=h;subst he;cases hop;exact ⟨os,hc,rfl,rfl,rfl⟩
theorem DR {vars:List Nat} {dsts:List (Option Nat)} {o:Oper} {i:Ins} (h:JP P vars dsts o=some i) (hop:i.op=.call) :
  ∃ f args at_,o.op=.call { callee:=.value f,args,argTypes:=at_ }∧i.args=(f::args.toList).map (XA vars dsts)∧i.dst=KA vars o.dst∧i.gd=o.guard:=by
 unfold JP at h;split at h
 ·rename_i f args at_ ho;cases h;exact ⟨f,args,at_,ho,rfl,rfl,rfl⟩
 ·simp only[QA] at h;obtain ⟨⟨io',os⟩,hc,he⟩:=h;subst he;cases hop
theorem R1 {vars:List Nat} {dsts:List (Option Nat)} {o:Oper} {i:Ins} (h:JP P vars dsts o=some i):i.dst=KA vars o.dst∧i.gd=o.guard:=by
 unfold JP at h;split at h
 ·cases h;exact ⟨rfl,rfl⟩
 ·simp only[QA] at h;obtain ⟨⟨io',os⟩,hc,he⟩:=h;subst he;exact ⟨rfl,rfl⟩
theorem YY {cm:Bool} {o:Oper} {x:IOp × List Operand} (h:TV P cm o=some x):∀ c,o.op≠.defer c:=by
 intro c hc;unfold TV at h;rw[hc] at h;cases h
theorem Qav {ops:Array Oper} {ρ:List AV} {tmps:Array Value} {o:Oper} {b:Bool} (hok:GU fx.vars fx.N ops.toList=true) (ho:o∈ops.toList) (ht:TRel m X w fx.vars ops.toList ρ tmps) (hsz:tmps.size=fx.N)
  (hg:gdOk ρ o.guard=some b):Region.wanted o (yielded ops tmps)=b:=by
 unfold Region.wanted;cases hgd:o.guard with
 | none=>rw[hgd] at hg;simp[gdOk] at hg;simp[hg]
 | some jw =>
  obtain ⟨j,want⟩:=jw;rw[hgd] at hg;simp only[gdOk] at hg;split at hg
  ·rename_i bb hb;cases hg;unfold GU at hok;simp only[QD,decide_eq_true_eq,Q1] at hok;obtain ⟨⟨⟨⟨_,_⟩,hlt⟩,_⟩,hgs⟩:=hok;have h1:=hgs o ho;rw[hgd] at h1;simp only at h1;split at h1
   ·rename_i t htj;have htv:t∉fx.vars:=by simpa using h1
    have hr:=ht j t htj htv;rw[hb] at hr;have hv:=hr.bool;cases hoj:ops.toList[j]? with
    | none=>rw[hoj] at htj;simp at htj
    | some oj =>
     rw[hoj] at htj;simp at htj;have htN:t<tmps.size:=by rw[hsz];have:=hlt t (X3.2 ⟨oj,QZ hoj,htj⟩);simpa using this
     have e1:tmps[t]? = some (.bool bb):=by rw[Q7 htN];rw[QV,Q7 htN] at hv;simpa using hv
     have e2:ops[j]? = some oj:=by simpa using hoj
     simp only[yielded,e2,Option.bind_some,htj,e1];cases bb <;> cases want <;> rfl
   ·cases h1
  ·rename_i us hb;cases hg;unfold GU at hok;simp only[QD,decide_eq_true_eq,Q1] at hok;obtain ⟨⟨⟨⟨_,_⟩,hlt⟩,_⟩,hgs⟩:=hok;have h1:=hgs o ho;rw[hgd] at h1;simp only at h1;split at h1
   ·rename_i t htj;have htv:t∉fx.vars:=by simpa using h1
    have hr:=ht j t htj htv;rw[hb] at hr;simp only[VRel] at hr;obtain ⟨vs,hv,_⟩:=hr;cases hoj:ops.toList[j]? with
    | none=>rw[hoj] at htj;simp at htj
    | some oj =>
     rw[hoj] at htj;simp at htj;have htN:t<tmps.size:=by rw[hsz];have:=hlt t (X3.2 ⟨oj,QZ hoj,htj⟩);simpa using this
     have e1:tmps[t]? = some (.tuple vs.toArray):=by rw[Q7 htN];rw[QV,Q7 htN] at hv;simpa using hv
     have e2:ops[j]? = some oj:=by simpa using hoj
     simp only[yielded,e2,Option.bind_some,htj,e1];cases want <;> rfl
   ·cases h1
  ·cases hg
theorem C8 {ro:Option Nat} {ops:Array Oper} (hok:GU fx.vars fx.N ops.toList=true) {Qc:Exit→Act→World→Prop} :
  ∀ (is:List Ins) (j:Nat) (m:LM) (w:World) (vals ρ:List AV) (σ:List AObj) (K:List AV→List AV→List AObj→Prop) (ac:Act),
  (ops.toList.drop j).mapM (JP P fx.vars (ops.toList.map (·.dst)))=some is→ρ.length=j →
  RG P is vals ρ σ K→SRel fx m X en ⟨vals,σ⟩ ac w→TRel m X w fx.vars ops.toList ρ ac.tmps →
  (∀ m' ac' w' vals ρ σ,K vals ρ σ→SRel fx m' X en ⟨vals,σ⟩ ac' w'→Step fx.n0 m X w m' w'→Qc .normal ac' w') →
  wpOpsIn (wfen ro) 0 P ops Qc (List.range' j (ops.size-j)) ac w
 | [],j,m,w,vals,ρ,σ,K,ac,hc,hj,hrg,hs,ht,hk=>by
  have:ops.size-j=0:=by
   cases hd:ops.toList.drop j with
   | nil=>have:=congrArg List.length hd;simp at this;omega
   | cons o os =>
    rw[hd] at hc;simp only[WV,Option.bind_eq_bind,QB,Option.pure_def] at hc;obtain ⟨_,_,_,_,h⟩:=hc;cases h
  rw[this];simp only[List.range'_zero,wpOpsIn];exact hk m ac w vals ρ σ hrg hs (Step.refl _ _ _ _)
 | i :: is,j,m,w,vals,ρ,σ,K,ac,hc,hj,hrg,hs,ht,hk=>by
  cases hd:ops.toList.drop j with
  | nil=>rw[hd] at hc;simp at hc
  | cons o os =>
   rw[hd] at hc;simp only[WV,Option.bind_eq_bind,QB,Option.pure_def,Option.some.injEq,List.cons.injEq] at hc;obtain ⟨i0,hi,is0,his,he1,he2⟩:=hc;rw[he1] at hi;rw[he2] at his;clear he1 he2;have hoj:ops.toList[j]? = some o:=by have:=congrArg List.head? hd;simpa using this
   have hlt:j<ops.size:=by have:=(QH.1 hoj).1;simpa using this
   have hoj':ops[j]? = some o:=by simpa using hoj
   have hos:ops.toList.drop (j+1)=os:=by rw[← List.tail_drop,hd];rfl
   rw[← hos] at his;have hn:ops.size-j=(ops.size-(j+1))+1:=by omega
   rw[hn,List.range'_succ];simp only[wpOpsIn,hoj'];obtain ⟨hdst,hgd⟩:=R1 hi;have next:∀ (m':LM) (w':World) (σ':List AObj) (v:AV) (c:Value),HRel m' X σ' w'→Step σ.length m X w m' w'→σ.length≤σ'.length→VRel m' X w' v c →
     RG P is (setD i.dst vals v) (ρ++[v]) σ' K→wpOpsIn (wfen ro) 0 P ops Qc (List.range' (j+1) (ops.size-(j+1))) (ac.put o.dst c) w':=by
    intro m' w' σ' v c hh hst hle hv hrg';have hs1:SRel fx m' X en ⟨vals,σ'⟩ ac w':=hs.of_heap hh hst hle;have ht1:=ht.mono (hs.heap.mono_of_step hst (QG _));obtain ⟨hs2,ht2⟩:=Qd2 hok hoj hj hs1 ht1 hv;rw[← hdst] at hs2;refine C8 hok is (j+1) m' w' _ _ σ' K _ his (by simp[hj]) hrg' hs2 ht2 ?_;intro m2 ac2 w2 vals2 ρ2 σ2 hK hs3 hst2;exact hk m2 ac2 w2 vals2 ρ2 σ2 hK hs3 (Step.trans (hst.less hs.base) hst2)
   simp only[RG] at hrg;split at hrg
   ·exact hrg.elim
   ·rename_i hg;rw[hgd] at hg;have:=Qav hok (QZ hoj) ht hs.size hg;rw[this];simp only[QT,if_false];exact ⟨fun _ _=>trivial,next m w σ (.tup []) Go.undef hs.heap (Step.refl _ _ _ _) (QG _) (by simp[VRel,QK,Go.undef]) hrg⟩
   ·rename_i hg;rw[hgd] at hg;have:=Qav hok (QZ hoj) ht hs.size hg;rw[this];simp only[if_true];refine ⟨fun _ _=>trivial,?_⟩;generalize has:i.args.map (WY vals ρ)=αs at hrg;cases hop:i.op with
    | prim io =>
     rw[hop] at hrg
     dsimp only at hrg
     obtain ⟨os',hco,hargs,_,_⟩:=VC hi hop;rw[hargs] at has;have hrel:=UT hs.heap.gl hs.vars ht os';rw[has] at hrel;split at hrg
     ·rename_i v σ' hsf;obtain ⟨nx,w',m',hrun,hres,hh,hst⟩:=FV hco hs.heap hrel hsf;rw[Oper.semAt_eq _ _ _ (YY hco),hrun];rcases hres with ⟨c,rfl,hv⟩ | ⟨rfl,rfl⟩
      ·exact next m' w' σ' v c hh hst (ED hsf) hv hrg
      ·exact next m' w' σ' .undef Go.undef hh hst (ED hsf) (by simp[VRel]) hrg
     ·exact hrg.elim
    | call =>
     rw[hop] at hrg;cases αs with
     | nil=>exact hrg.elim
     | cons fv αs =>
     dsimp only at hrg
     obtain ⟨f,args,at_,hop',hargs,_,_⟩:=DR hi hop;rw[hargs] at has;have hrel:=UT hs.heap.gl hs.vars ht (f::args.toList);rw[has] at hrel;obtain ⟨fc,us,he,hfv,hrest⟩:=hrel.cons;simp only[Q0,List.cons.injEq] at he;obtain ⟨rfl,rfl⟩:=he;have hnd:∀ c,o.op≠.defer c:=by rw[hop'];simp
     rw[Oper.semAt_eq _ _ _ hnd];have hex:execOp ac.eval o=(do let d ← resolve ac.eval { callee:=.value f,args,argTypes:=at_ } o.type;invoke d.target d.args):=by simp only[execOp,hop']
     rw[hex];unfold X0 at hrg;split at hrg
     ·rename_i g cap;simp only[VRel] at hfv;obtain ⟨vs,hfe,hcap⟩:=hfv;have hrun:(do let d ← resolve ac.eval { callee:=.value f,args,argTypes:=at_ } o.type;invoke d.target d.args:Sem Next).run P w=.ok (.enter g ((args.toList.map ac.eval)++vs).toArray) w:=by
       simp only[resolve,hfe,Deferred.ofValue,Sem.run_bind,Sem.run_pure,Result.andThen_ok,invoke];rw[hrg.1];congr 2;apply Array.ext';simp
      rw[hrun];refine ⟨by simp[wfen,Fence.wide],?_⟩;have hcall:=hrg.2 m X w _ (QK.append hrest hcap) hs.heap;refine CallsIn.mono (F:=wfen ro) (n:=0) hcall ?_;rintro e w' ⟨c,r,σ',m',rfl,hq,hv,hh,hst,hle⟩;exact next m' w' σ' r c hh hst hle hv hq
     ·rename_i g first
      simp only[VRel] at hfv;obtain ⟨vs,hfe,hcap⟩:=hfv;have hrun:(do let d ← resolve ac.eval { callee:=.value f,args,argTypes:=at_ } o.type;invoke d.target d.args:Sem Next).run P w=.ok (.enter g (vs++(args.toList.map ac.eval)).toArray) w:=by simp only[resolve,hfe,Deferred.ofValue,Sem.run_bind,Sem.run_pure,Result.andThen_ok,invoke];rw[hrg.1];congr 2;apply Array.ext';simp
      rw[hrun];refine ⟨by simp[wfen,Fence.wide],?_⟩;have hcall:=hrg.2 m X w _ (QK.append hcap hrest) hs.heap;refine CallsIn.mono (F:=wfen ro) (n:=0) hcall ?_;rintro e w' ⟨c,r,σ',m',rfl,hq,hv,hh,hst,hle⟩;exact next m' w' σ' r c hh hst hle hv hq
     ·rename_i l;simp only[VRel] at hfv;obtain ⟨b,hb,hfe⟩:=hfv;obtain ⟨L,hL,hsz,hround⟩:=hrg m X w _ b hb hrest hs.heap;have hrun:(do let d ← resolve ac.eval { callee:=.value f,args,argTypes:=at_ } o.type;invoke d.target d.args:Sem Next).run P w=.ok (.round b L.fn ((L.params.zip (args.toList.map ac.eval).toArray).foldl (fun tmps (t,a)=>tmps.setIfInBounds t a) L.tmps) L.assign L.body) w:=by
       simp only[resolve,hfe,Deferred.ofValue,Sem.run_bind,Sem.run_pure,Result.andThen_ok,invoke];have e:#[]++args.map ac.eval=(args.toList.map ac.eval).toArray:=by apply Array.ext';simp
       rw[e];exact run_yield hL (by simpa using hsz)
      rw[hrun];refine ⟨by simp[wfen,Fence.wide],?_⟩;refine RoundIn.mono (F:=wfen ro) (n:=0) hround ?_;rintro e w' ⟨c,r,σ',m',rfl,hq,hv,hh,hst,hle⟩;exact next m' w' σ' r c hh hst hle hv hq
     ·exact hrg.elim
end Go.Proofs.YtgkidpolomhghaaGreatDoor.AM
namespace Go.Proofs.YtgkidpolomhghaaGreatDoor.AM
variable [Dr]
open Go
variable {P:Program} {fx:Fx} {m:LM} {X:Nat→Prop} {en:En} {w:World} {s:St} {Q:Exit→St→Prop}
theorem fen_eq (m:LM) (r:Option Nat):fen m r=wfen (r.bind m):=rfl
theorem W.mono {c:Code} {Q':Exit→St→Prop} (h:W P fx c s Q) (hq:∀ e s',Q e s'→Q' e s'):W P fx c s Q' :=
 fun m X en ac w hs hr=>wpIn_mono (h m X en ac w hs hr) fun e ac' w' ⟨s',m',h1,h2⟩=>⟨s',m',hq _ _ h1,h2⟩
theorem W_skip (h:Q .normal s):W P fx .skip s Q :=
 fun m X en ac w hs hr=>wpIn_skip ⟨s,m,h,hs,Step.refl _ _ _ _⟩
theorem QeJ {l:Nat} (h:Q .normal s):W P fx (.label l) s Q :=
 fun m X en ac w hs hr=>wpIn_label ⟨s,m,h,hs,Step.refl _ _ _ _⟩
theorem QbM {i:Nat} (h:Q (.exit i) s):W P fx (.exit i) s Q :=
 fun m X en ac w hs hr=>wpIn_exit ⟨s,m,h,hs,Step.refl _ _ _ _⟩
theorem QcP (h:Q .ret s):W P fx .ret s Q :=
 fun m X en ac w hs hr=>wpIn_ret ⟨s,m,h,hs,Step.refl _ _ _ _⟩
theorem W.later {c:Code} {s':St} {m':LM} {w':World} {ac':Act} (h:W P fx c s' Q) (hr:rok fx m) (hs':SRel fx m' X en s' ac' w') (hst:Step fx.n0 m X w m' w') :
  c.wpIn (fen m fx.r) 0 P (Lift fx m X en w Q) ac' w':=by
 rw[← EQ hr hst];exact wpIn_mono (h m' X en ac' w' hs' (EH hr hst)) fun e ac2 w2 ⟨s2,m2,h1,h2,h3⟩=>⟨s2,m2,h1,h2,hst.trans h3⟩
theorem QcO {x y:Code} (h:W P fx x s fun e s'=>match e with | .normal=>W P fx y s' Q | e=>Q e s'):W P fx (.seq x y) s Q:=by
 intro m X en ac w hs hr;refine wpIn_seq (wpIn_mono (h m X en ac w hs hr) ?_);rintro e ac' w' ⟨s',m',hq,hs',hst⟩;cases e with
 | normal=>exact W.later hq hr hs' hst
 | _=>exact ⟨s',m',hq,hs',hst⟩
theorem QbO {i:Nat} {x:Code} (h:W P fx x s fun e s'=>match e with | .exit i'=>if i'=i then Q .normal s' else Q (.exit i') s' | e=>Q e s'):W P fx (.block i x) s Q:=by
 intro m X en ac w hs hr;refine wpIn_block (wpIn_mono (h m X en ac w hs hr) ?_);rintro e ac' w' ⟨s',m',hq,hs',hst⟩;cases e with
 | exit i' =>
  simp only[Exit.inBlock]
  dsimp only at hq
  split
  ·rename_i hi;rw[if_pos hi] at hq;exact ⟨s',m',hq,hs',hst⟩
  ·rename_i hi;rw[if_neg hi] at hq;exact ⟨s',m',hq,hs',hst⟩
 | _=>exact ⟨s',m',hq,hs',hst⟩
theorem QbN {t i:Nat} {b:Bool} {x y:Code} (hv:fx.vars[i]? = some t) (hb:s.vals.getD i .undef=.b b) (h:W P fx (if b then x else y) s Q):W P fx (.cond (.tmp t) x y) s Q:=by
 intro m X en ac w hs hr;have:=hs.vars i t hv;rw[hb] at this;exact wpIn_cond (t:=b) this.bool (h m X en ac w hs hr)
def Weak (fx:Fx) (s s':St):Prop:=∀ m X en ac w,SRel fx m X en s ac w→∃ m',SRel fx m' X en s' ac w∧Step fx.n0 m X w m' w
theorem Weak.refl (fx:Fx) (s:St):Weak fx s s:=fun m X en ac w h=>⟨m,h,Step.refl _ _ _ _⟩
theorem Weak.trans {fx:Fx} {a b c:St} (h:Weak fx a b) (k:Weak fx b c):Weak fx a c:=fun m X en ac w hs =>
 let ⟨m1,h1,s1⟩:=h m X en ac w hs
 let ⟨m2,h2,s2⟩:=k m1 X en ac w h1
 ⟨m2,h2,s1.trans s2⟩
def RA (F:Fence) (P:Program) (c:Code) (Q:Exit→Act→World→Prop) (a:Act) (w:World):Prop :=
 ∀ (b:Frame) (k:List Item) (cs:List Frame),b.roundOf=F.round→F.fn b.fn→F.room (cs.length+1+0) →
  ∃ e a' w',Q e a' w'∧ArrivesIn (Machine.fenced P F) P (lone (b.atR a (.code c :: .inLoop c::k)) cs w) b k cs e a' w'
theorem D6 {F:Fence} {c:Code} {Q:Exit→Act→World→Prop} {a:Act} {w:World} (h:RA F P c Q a w):(Code.loop c).wpIn F 0 P Q a w:=by
 intro b k cs hro hb hr;obtain ⟨e,a',w',hq,harr⟩:=h b k cs hro hb hr;exact ⟨e,a',w',hq,.of_steps (.one (fenced_calm hb hr rfl) stepR_loop) harr⟩
theorem L4 {F:Fence} {c:Code} {Q:Exit→Act→World→Prop} {a:Act} {w:World} (h:c.wpIn F 0 P (Exit.then (fun a' w'=>RA F P c Q a' w') Q) a w):RA F P c Q a w:=by
 intro b k cs hro hb hr;obtain ⟨e,a₁,w₁,hq,harr⟩:=h b (.inLoop c::k) cs hro hb hr;cases e with
 | normal =>
  obtain ⟨e₂,a₂,w₂,hq₂,harr₂⟩:=hq b k cs hro hb hr;exact ⟨e₂,a₂,w₂,hq₂,.of_steps (StepsIn.trans harr (.one (fenced_calm hb hr rfl) stepR_inLoop)) harr₂⟩
 | exit id=>exact ⟨_,a₁,w₁,hq,.pass (x:=.inLoop c) rfl (fun _ _=>.inl (by simp)) harr⟩
 | goto l=>exact ⟨_,a₁,w₁,hq,.pass (x:=.inLoop c) rfl (fun _ _=>.inl (by simp)) harr⟩
 | ret=>exact ⟨_,a₁,w₁,hq,.pass (x:=.inLoop c) rfl (fun _ _=>.inl (by simp)) harr⟩
 | panic ch=>exact ⟨_,a₁,w₁,hq,.pass (x:=.inLoop c) rfl (fun _ _=>.inl (by simp)) harr⟩
 | outgrown=>exact ⟨_,a₁,w₁,hq,.pass (x:=.inLoop c) rfl (fun _ _=>.inl (by simp)) harr⟩
def WL (P:Program) (fx:Fx) (c:Code) (s:St) (Q:Exit→St→Prop):Prop :=
 ∀ m X en ac w,SRel fx m X en s ac w→rok fx m→RA (fen m fx.r) P c (Lift fx m X en w Q) ac w
theorem W_loop {c:Code} (h:WL P fx c s Q):W P fx (.loop c) s Q :=
 fun m X en ac w hs hr=>D6 (h m X en ac w hs hr)
theorem RA.mono {F:Fence} {c:Code} {Q Q':Exit→Act→World→Prop} {a:Act} {w:World} (h:RA F P c Q a w) (hq:∀ e a w,Q e a w→Q' e a w):RA F P c Q' a w :=
 fun b k cs h1 h2 h3=>let ⟨e,a',w',q,r⟩:=h b k cs h1 h2 h3;⟨e,a',w',hq _ _ _ q,r⟩
theorem WL.later {c:Code} {s':St} {m':LM} {w':World} {ac':Act} (h:WL P fx c s' Q) (hr:rok fx m) (hs':SRel fx m' X en s' ac' w') (hst:Step fx.n0 m X w m' w') :
  RA (fen m fx.r) P c (Lift fx m X en w Q) ac' w':=by
 rw[← EQ hr hst];exact RA.mono (h m' X en ac' w' hs' (EH hr hst)) fun e ac2 w2 ⟨s2,m2,h1,h2,h3⟩=>⟨s2,m2,h1,h2,hst.trans h3⟩
theorem FG {c:Code} (h:W P fx c s fun e s'=>match e with | .normal=>WL P fx c s' Q | e=>Q e s'):WL P fx c s Q:=by
 intro m X en ac w hs hr;refine L4 (wpIn_mono (h m X en ac w hs hr) ?_);rintro e ac' w' ⟨s',m',hq,hs',hst⟩;cases e with
 | normal=>exact WL.later hq hr hs' hst
 | _=>exact ⟨s',m',hq,hs',hst⟩
theorem WL.weak {c:Code} {s':St} (hw:Weak fx s s') (h:WL P fx c s' Q):WL P fx c s Q:=by
 intro m X en ac w hs hr;obtain ⟨m',hs',hst⟩:=hw m X en ac w hs;exact WL.later h hr hs' hst
theorem WL.mono {c:Code} {Q':Exit→St→Prop} (h:WL P fx c s Q) (hq:∀ e s',Q e s'→Q' e s'):WL P fx c s Q' :=
 fun m X en ac w hs hr=>RA.mono (h m X en ac w hs hr) fun e ac' w' ⟨s',m',h1,h2⟩=>⟨s',m',hq _ _ h1,h2⟩
theorem C5 {id:Nat} {ops:Array Oper} {is:List Ins} (hc:VY P fx.vars fx.N ops=some is) (h:RG P is s.vals [] s.heap fun vals _ σ=>Q .normal ⟨vals,σ⟩):W P fx (.region id ops false) s Q:=by
 intro m X en ac w hs hr;unfold VY at hc;split at hc
 ·rename_i hok;have:=C8 (ro:=fx.r.bind m) (Qc:=Lift fx m X en w Q) hok is 0 m w s.vals [] s.heap _ ac (by rw[← UV];simpa using hc) rfl h hs (fun j t _ _=>by simp[VRel]) ?_
  ·refine wpIn_region ?_;rw[List.range_eq_range'];exact this
  ·intro m' ac' w' vals ρ σ hK hs' hst;exact ⟨_,m',hK,hs',hst⟩
 ·cases hc
def resF (vars:List Nat) (vals:List AV) (σ:List AObj) (P:Program):ResultVar→Option AV
 | .tmp t=>(vars.idxOf? t).map fun i=>vals.getD i .undef
 | .cell a t=>(vars.idxOf? a).bind fun i=>(UD P t).bind fun g=>if g then (P.info? t).bind fun ti=>(YF ti.size [vals.getD i .undef] σ).map (·.1) else (KZ [vals.getD i .undef] σ).map (·.1)
def UB (P:Program) (vars:List Nat) (vals:List AV) (σ:List AObj) (rs:List ResultVar):Option AV :=
 match rs with
 | [r]=>resF vars vals σ P r
 | rs=>(rs.mapM (resF vars vals σ P)).map .tup
def Y5 (vars:List Nat) (args:List AV):List AV:=vars.map fun t=>args.getD t .undef
theorem res_one {s:St} {ac:Act} (hs:SRel fx m X en s ac w) {rv:ResultVar} {a:AV} (h:resF fx.vars s.vals s.heap P rv=some a) :
  ∃ v,(match rv with | .tmp t=>pure (ac.tmps.getD t Go.undef) | .cell c t=>do loadVar t (← asAddr (ac.tmps.getD c Go.undef)):Sem Value).run P w=.ok v w∧VRel m X w a v:=by
 cases rv with
 | tmp t =>
  simp only[resF,QA] at h;obtain ⟨i,hi,rfl⟩:=h;exact ⟨_,rfl,hs.vars i t (Y9 hi)⟩
 | cell c t =>
  simp only[resF,QB] at h;obtain ⟨i,hi,g,hg,h⟩:=h;have hv:=hs.vars i c (Y9 hi);cases g with
  | true =>
   simp only[if_true,QB,QA] at h;obtain ⟨ti,hti,⟨a',σ'⟩,hl,rfl⟩:=h;obtain ⟨ad,v,he,h1,h2,_⟩:=AI hs.heap hg hti (by simp only[QK];exact ⟨hv,trivial⟩:QK m X w [_] [ac.tmps.getD c Go.undef]) hl;refine ⟨v,?_,h2⟩;simp only[he,asAddr,Sem.run_bind,Sem.run_pure,Result.andThen_ok];exact h1
  | false =>
   simp only[QT,if_false,QA] at h;obtain ⟨⟨a',σ'⟩,hl,rfl⟩:=h;obtain ⟨ad,v,he,h1,h2,_⟩:=AJ hs.heap hg (by simp only[QK];exact ⟨hv,trivial⟩:QK m X w [_] [ac.tmps.getD c Go.undef]) hl;refine ⟨v,?_,h2⟩;simp only[he,asAddr,Sem.run_bind,Sem.run_pure,Result.andThen_ok];exact h1
theorem Qb7 {s:St} {ac:Act} (hs:SRel fx m X en s ac w):∀ {rs:List ResultVar} {αs:List AV},rs.mapM (resF fx.vars s.vals s.heap P)=some αs →
  ∃ vs:List Value,(rs.mapM fun | .tmp t=>pure (ac.tmps.getD t Go.undef) | .cell c t=>do loadVar t (← asAddr (ac.tmps.getD c Go.undef)):Sem (List Value)).run P w=.ok vs w∧QK m X w αs vs
 | [],αs,h=>by simp at h;subst h;exact ⟨[],by simp,by simp[QK]⟩
 | rv::rs,αs,h=>by simp only[WV,Option.bind_eq_bind,QB,Option.pure_def,Option.some.injEq] at h;obtain ⟨a,ha,as',has,rfl⟩:=h;obtain ⟨v,h1,h2⟩:=res_one hs ha;obtain ⟨vs,h3,h4⟩:=Qb7 hs has;refine ⟨v::vs,?_,by simp only[QK];exact ⟨h2,h4⟩⟩;simp only[WV,Sem.run_bind];rw[h1];simp only[Result.andThen_ok];rw[h3];simp
theorem O1 {s:St} {ac:Act} {fn:Func} {r:AV} (hs:SRel fx m X en s ac w) (h:UB P fx.vars s.vals s.heap fn.results.toList=some r) :
  ∃ v,(results fn ac.tmps).run P w=.ok v w∧VRel m X w r v:=by
 have hm:∀ {αs:List AV},fn.results.toList.mapM (resF fx.vars s.vals s.heap P)=some αs→∃ vs:List Value,vs.length=fn.results.toList.length∧(results fn ac.tmps).run P w=.ok (if h:vs.length=1 then vs[0] else .tuple vs.toArray) w∧QK m X w αs vs:=by
  intro αs has;obtain ⟨vs,h1,h2⟩:=Qb7 hs has;have hl:vs.length=fn.results.toList.length:=by
   rw[← h2.length];have:∀ (l:List ResultVar) (bs:List AV),l.mapM (resF fx.vars s.vals s.heap P)=some bs→bs.length=l.length:=by
    intro l
    induction l with
    | nil=>intro bs h;simp at h;subst h;rfl
    | cons x l ih =>
     intro bs h;simp only[WV,Option.bind_eq_bind,QB,Option.pure_def,Option.some.injEq] at h;obtain ⟨_,_,bs',hbs,rfl⟩:=h;simp[ih _ hbs]
   exact this _ _ has
  refine ⟨vs,hl,?_,h2⟩;unfold results;rw[Array.mapM_eq_mapM_toList];simp only[Sem.run_bind,Sem.run_map]
  erw [h1]
  simp
 unfold UB at h;split at h
 ·rename_i rv hrv;obtain ⟨vs,hl,h1,h2⟩:=hm (αs:=[r]) (by rw[hrv];simp[h]);rw[hrv] at hl
  match vs,hl,h1,h2 with
  | [v],_,h1,h2=>exact ⟨v,by simpa using h1,by simp only[QK] at h2;exact h2.1⟩
 ·rename_i rs hrs;simp only[QA] at h;obtain ⟨αs,has,rfl⟩:=h;obtain ⟨vs,hl,h1,h2⟩:=hm has;refine ⟨.tuple vs.toArray,?_,by simp only[VRel];exact ⟨vs,rfl,h2⟩⟩;have:vs.length≠1:=by
   intro h1l;rw[hl] at h1l
   match hq:fn.results.toList,h1l with
   | [rv],_=>exact hrs rv hq
  rw[h1,dif_neg this]
structure HA (w w':World) (e:Nat):Prop where
 size:w'.heap.size=w.heap.size
 old:∀ b:Nat,b<e→w'.heap[b]? = w.heap[b]?
 same:∀ (b:Nat) (o:Obj),w.heap[b]? = some o→(∀ d,o≠.deferred d)→w'.heap[b]? = some o
 os:w'.os=w.os
 tape:w'.tape=w.tape
 output:w'.output=w.output
 drawn:w.drawn≤w'.drawn
theorem HA.refl (w:World) (e:Nat):HA w w e:=⟨rfl,fun _ _=>rfl,fun _ _ h _=>h,rfl,rfl,rfl,QG _⟩
theorem HA.put {w w1:World} {e b:Nat} {d:Option (List Deferred)} (h:HA w w1 e) (hb:e≤b) (hw:w1.heap[b]? = some (.deferred d)) (d':Option (List Deferred)):HA w (w1.putObj b (.deferred d')) e where
 size:=by simp[h.size]
 old k hk:=by rw[World.putObj_heap_other (by omega)];exact h.old k hk
 same k o hk hd:=by
  have:=h.same k o hk hd;have hne:k≠b:=by rintro rfl;rw[hw] at this;cases this;exact hd d rfl
  rw[World.putObj_heap_other hne];exact this
 os:=h.os
 tape:=h.tape
 output:=h.output
 drawn:=h.drawn
theorem HA.mono {w w':World} {e:Nat} (h:HA w w' e):Mono m X w m X w' where
 sub _ _ hl:=hl
 cl b hb hc:=by obtain ⟨c,ty,fr,hc⟩:=hc;exact ⟨by rw[h.same b _ hc (by simp),hc],hb⟩
 shp b c e hb:=⟨c,h.same b _ hb (by simp),rfl⟩
theorem HRel.taken {σ:List AObj} {w':World} {e:Nat} (hh:HRel m X σ w) (h:HA w w' e):HRel m X σ w':=by
 refine ⟨fun b hb=>by rw[h.size];exact hh.xb b hb,fun l b hl=>by rw[h.size];exact hh.dom l b hl,hh.own,hh.inj,fun l o ho=>?_,hh.gl.mono h.mono⟩;have:=hh.obj l o ho;cases hml:m l with
 | none=>rw[hml] at this;cases o <;> simp[ORel] at this ⊢
 | some b =>
  rw[hml] at this;cases o with
  | dead=>trivial
  | cells cs =>
   have h2:=this;simp only[ORel] at h2;obtain ⟨c,ty,hb,_⟩:=h2;exact ORel.mono h.mono (by rw[hb];exact h.same b _ hb (by simp)) this
  | map es =>
   have h2:=this;simp only[ORel] at h2;obtain ⟨c,ty,hb,_⟩:=h2;exact ORel.mono h.mono (by rw[hb];exact h.same b _ hb (by simp)) this
  | siter s0 p =>
   have h2:=this;simp only[ORel] at h2;exact ORel.mono h.mono (by rw[h2];exact h.same b _ h2 (by simp)) this
  | loop r =>
   have h2:=this;simp only[ORel] at h2;obtain ⟨_,_,_,_,_,hb,_⟩:=h2;exact ORel.mono h.mono (by rw[hb];exact h.same b _ hb (by simp)) this
theorem Step.taken {n0:Nat} {m':LM} {w' w'':World} {e:Nat} (hs:Step n0 m X w m' w') (h:HA w' w'' e) (he:w.heap.size≤e):Step n0 m X w m' w'' where
 keep:=hs.keep
 new:=hs.new
 size:=by rw[h.size];exact hs.size
 fr b hb hno:=by rw[h.old b (by omega)];exact hs.fr b hb hno
 shp b c ty hb:=by obtain ⟨c',h1,h2⟩:=hs.shp b c ty hb;exact ⟨c',h.same b _ h1 (by simp),h2⟩
 os:=h.os.trans hs.os
 tape:=h.tape.trans hs.tape
 output:=h.output.trans hs.output
 drawn o:=YR (hs.drawn o) h.drawn
theorem G1 {fn:Func} {tmps:Array Value} {R:Ending→World→Prop} {e:Nat} {w:World}:∀ (bs:List Nat) (w1:World),HA w w1 e→bs.Nodup→(∀ b∈bs,e≤b∧w1.heap[b]? = some (.deferred (some []))) →
  (∀ w2,HA w w2 e→∃ v,(results fn tmps).run P w2=.ok v w2∧R (.returned v) w2)→LeavesInM Fence.wide 0 P fn tmps R (bs.map fun b=>{ target:=.collected b,args:=#[] }) .returning w1
 | [],w1,ht,_,_,h=>by obtain ⟨v,h1,h2⟩:=h w1 ht;simp only[WS,LeavesInM,LeavesIn];exact ⟨v,h1,h2⟩
 | b::bs,w1,ht,hnd,hall,h=>by
  simp only[Q0,LeavesInM];obtain ⟨hb1,hb2⟩:=hall b (by simp);refine ⟨by simp,.inl ⟨b,w1.putObj b (.deferred none),rfl,run_takeDeferred hb2,?_⟩⟩;refine G1 bs _ (ht.put hb1 hb2 none) (WQ.1 hnd).2 ?_ h;intro b' hb';have hne:b'≠b:=by rintro rfl;exact (WQ.1 hnd).1 hb'
  refine ⟨(hall b' (by simp[hb'])).1,?_⟩;rw[World.putObj_heap_other hne];exact (hall b' (by simp[hb'])).2
theorem IB {f:FuncId} {fn:Func} {c:Code} {args:List AV} {σ:List AObj} {vars:List Nat} {Q:AV→List AObj→Prop} (hf:P.funcs[f]? = some fn) (hb:fn.body=some c) (hen:PI P f) (hargs:args.length≤fn.ntmps)
  (h:W P ⟨vars,fn.ntmps,none,σ.length⟩ c ⟨Y5 vars args,σ⟩ fun e s'=>match e with
   | .normal | .ret=>∃ r,UB P vars s'.vals s'.heap fn.results.toList=some r∧Q r s'.heap
   | _=>False):AC P f args σ Q:=by
 refine ⟨hen,fun m X w cargs ha hh=>?_⟩;refine callsIn_of_wp_marks hf hb trivial ?_;have hlen:=ha.length;have hs0:SRel ⟨vars,fn.ntmps,none,σ.length⟩ m X ⟨w.heap.size,[]⟩ ⟨Y5 vars args,σ⟩ { tmps:=cargs.toArray++Array.replicate (fn.ntmps-cargs.toArray.size) Go.undef,defers:=[] } w:=by
  refine ⟨by simp;omega,?_,⟨[],rfl,YU,by simp⟩,hh,QG _,QG _⟩;intro i t hi;have e1:(Y5 vars args).getD i .undef=args.getD t .undef:=by simp only[Y5,List.getD,ZR];rw[show vars[i]? = some t from hi];rfl
  rw[e1];rw[QV];by_cases ht:t<cargs.length
  ·have e2:(cargs.toArray++Array.replicate (fn.ntmps-cargs.toArray.size) Go.undef)[t]? = some cargs[t]:=by
    rw[JF (by simpa using ht)];simp[ht]
   rw[e2];have:=ha.getD t Go.undef;simpa[List.getD,ht] using this
  ·have:args.getD t .undef=.undef:=by simp[List.getD,QN (show args.length≤t by omega)]
   rw[this];simp[VRel]
 have key:=h m X ⟨w.heap.size,[]⟩ _ w hs0 (by intro l hl;cases hl);refine wpIn_mono key ?_;rintro e ac' w' ⟨s',m',hq,hs',hst⟩;have fin:(∃ r,UB P vars s'.vals s'.heap fn.results.toList=some r∧Q r s'.heap)→LeavesInM Fence.wide 0 P fn ac'.tmps (OT m X w σ Q) ac'.defers .returning w':=by
  rintro ⟨r,hr,hQ⟩;obtain ⟨bs,hbs,hnd,hall⟩:=hs'.defs;rw[hbs,ZU];refine G1 (e:=w.heap.size) (w:=w') bs w' (HA.refl _ _) hnd (fun b hb=>⟨(hall b hb).1,(hall b hb).2.2.1⟩) ?_;intro w2 ht;have hh2:=hs'.heap.taken ht;have hs2:SRel ⟨vars,fn.ntmps,none,σ.length⟩ m' X ⟨0,[]⟩ s' { ac' with defers:=[] } w2 :=
   ⟨hs'.size,hs'.vars.mono ht.mono,⟨[],rfl,YU,by simp⟩,hh2,hs'.base,QF _⟩
  obtain ⟨v,h1,h2⟩:=O1 (fx:=⟨vars,fn.ntmps,none,σ.length⟩) (fn:=fn) hs2 hr;exact ⟨v,h1,v,r,s'.heap,m',rfl,hQ,h2,hh2,hst.taken ht (QG _),hs'.base⟩
 cases e with
 | normal=>exact fin hq
 | ret=>exact fin hq
 | exit i=>exact hq.elim
 | goto l=>exact hq.elim
 | panic ch=>exact hq.elim
 | outgrown=>exact hq.elim
mutual
def QR (k:Nat):AV→Bool
 | .cv _=>true
 | .ptr l _=>decide (l<k)
 | .sl l _ _ _=>decide (l<k)
 | .map l=>decide (l<k)
 | .fn _ cs=>QO k cs
 | .bm _ cs=>QO k cs
 | .yld l=>decide (l<k)
 | .agg cs=>QO k cs
 | .tup cs=>QO k cs
 | .undef=>true
 | .slc l _ _ _ _=>decide (l<k)
def QO (k:Nat):List AV→Bool
 | []=>true
 | a::αs=>QR k a&&QO k αs
end
def Z3 (k:Nat):AObj→Bool
 | .dead=>true
 | .cells cs=>QO k cs
 | .map es=>es.all fun e=>QR k e.1&&QR k e.2
 | .siter _ _=>true
 | .loop r=>QO k r.vals
def LM.upto (m:LM) (k:Nat):LM:=fun l=>if l<k then m l else none
theorem B5 {k b:Nat} (h:Own (m.upto k) X b):Own m X b:=by
 rcases h with h | ⟨l,hl⟩
 ·exact .inl h
 ·unfold LM.upto at hl;split at hl
  ·exact .inr ⟨l,hl⟩
  ·cases hl
mutual
theorem VRel.upto {k:Nat}:∀ (a:AV) (v:Value),QR k a=true→VRel m X w a v→VRel (m.upto k) X w a v
 | .cv c,v,_,h=>by simp only[VRel] at h ⊢;exact CV.rep_mono (fun b hb _=>⟨rfl,fun ho=>hb (B5 ho)⟩) c v h
 | .ptr l off,v,hk,h=>by simp only[VRel,QR,decide_eq_true_eq] at h hk ⊢;obtain ⟨b,h1,h2⟩:=h;exact ⟨b,by simp[LM.upto,hk,h1],h2⟩
 | .sl l off len esz,v,hk,h=>by simp only[VRel,QR,decide_eq_true_eq] at h hk ⊢;obtain ⟨b,cap,h1,h2⟩:=h;exact ⟨b,cap,by simp[LM.upto,hk,h1],h2⟩
 | .map l,v,hk,h=>by simp only[VRel,QR,decide_eq_true_eq] at h hk ⊢;obtain ⟨b,h1,h2⟩:=h;exact ⟨b,by simp[LM.upto,hk,h1],h2⟩
 | .fn f cs,v,hk,h=>by simp only[VRel,QR] at h hk ⊢;obtain ⟨vs,h1,h2⟩:=h;exact ⟨vs,h1,QK.upto cs vs hk h2⟩
 | .bm f cs,v,hk,h=>by simp only[VRel,QR] at h hk ⊢;obtain ⟨vs,h1,h2⟩:=h;exact ⟨vs,h1,QK.upto cs vs hk h2⟩
 | .yld l,v,hk,h=>by simp only[VRel,QR,decide_eq_true_eq] at h hk ⊢;obtain ⟨b,h1,h2⟩:=h;exact ⟨b,by simp[LM.upto,hk,h1],h2⟩
 | .agg cs,v,hk,h=>by simp only[VRel,QR] at h hk ⊢;obtain ⟨vs,h1,h2⟩:=h;exact ⟨vs,h1,QK.upto cs vs hk h2⟩
 | .tup cs,v,hk,h=>by simp only[VRel,QR] at h hk ⊢;obtain ⟨vs,h1,h2⟩:=h;exact ⟨vs,h1,QK.upto cs vs hk h2⟩
 | .undef,v,_,_=>by simp[VRel]
 | .slc l off len cap esz,v,hk,h=>by simp only[VRel,QR,decide_eq_true_eq] at h hk ⊢;obtain ⟨b,h1,h2⟩:=h;exact ⟨b,by simp[LM.upto,hk,h1],h2⟩
theorem QK.upto {k:Nat}:∀ (αs:List AV) (vs:List Value),QO k αs=true→QK m X w αs vs→QK (m.upto k) X w αs vs
 | [],[],_,_=>by simp[QK]
 | a::αs,v::vs,hk,h=>by simp only[QK,QO,QD] at h hk ⊢;exact ⟨VRel.upto a v hk.1 h.1,QK.upto αs vs hk.2 h.2⟩
 | [],_::_,_,h=>by simp[QK] at h
 | _::_,[],_,h=>by simp[QK] at h
end
theorem XO {k:Nat}:∀ {αs:List AV},QO k αs=true→∀ i,QR k (αs.getD i .undef)=true
 | [],_,i=>by simp[List.getD,QR]
 | a::αs,h,0=>by simp only[QO,QD] at h;simpa[List.getD] using h.1
 | a::αs,h,i+1=>by simp only[QO,QD] at h;simpa[List.getD] using XO h.2 i
def sub1:AV→AV→Prop:=fun a b=>b=a∨b=.undef
theorem Weak.drop {vals':List AV} {k:Nat} (hv:∀ i,sub1 (s.vals.getD i .undef) (vals'.getD i .undef)) (hk:fx.n0≤k) (hl:QO k vals'=true) (ho:∀ o∈s.heap.take k,Z3 k o=true) (hkl:k≤s.heap.length):Weak fx s ⟨vals',s.heap.take k⟩:=by
 intro m X en ac w hs;refine ⟨m.upto k,⟨hs.size,?_,?_,?_,?_,hs.entry⟩,?_⟩
 ·intro i t hi;have hrel:=hs.vars i t hi;rcases hv i with h1 | h1
  ·rw[h1];rw[← h1];have:=XO hl i;rw[h1] at this ⊢;exact VRel.upto _ _ this hrel
  ·rw[h1];simp[VRel]
 ·obtain ⟨bs,h1,h2,h3⟩:=hs.defs;refine ⟨bs,h1,h2,fun b hb=>?_⟩;obtain ⟨g1,g2,g3,g4⟩:=h3 b hb;exact ⟨g1,g2,g3,fun ho=>g4 (B5 ho)⟩
 ·have hh:=hs.heap;refine ⟨hh.xb,?_,?_,?_,?_,hh.gl.less fun b hb=>B5 hb⟩
  ·intro l b hb;unfold LM.upto at hb;split at hb
   ·rename_i hlk;have:=hh.dom l b hb;exact ⟨by simp;omega,this.2⟩
   ·cases hb
  ·intro l b o hb ho1 hv;unfold LM.upto at hb;split at hb
   ·rename_i hlk;rw[Z7,if_pos hlk] at ho1;exact hh.own l b o hb ho1 hv
   ·cases hb
  ·intro l l' b o' h1 h2 ho2 hv2;unfold LM.upto at h1 h2;split at h1
   ·split at h2
    ·rw[Z7,if_pos (by assumption)] at ho2;exact hh.inj l l' b o' h1 h2 ho2 hv2
    ·cases h2
   ·cases h1
  ·intro l o hlo;have hin:=ho o (QZ hlo);rw[Z7] at hlo;split at hlo
   ·rename_i hlk;have hr:=hh.obj l o hlo;have hml:m.upto k l=m l:=by simp[LM.upto,hlk]
    rw[hml];cases hm:m l with
    | none=>rw[hm] at hr;cases o <;> simp[ORel] at hr ⊢
    | some b =>
     rw[hm] at hr;cases o with
     | dead=>trivial
     | cells cs =>
      simp only[ORel,Z3] at hr hin ⊢;obtain ⟨c,e,h1,h2,h3⟩:=hr;exact ⟨c,e,h1,h2,QK.upto _ _ hin h3⟩
     | map es =>
      simp only[ORel,Z3] at hr hin ⊢;obtain ⟨ces,clock,h1,h2,h3,h4,h5⟩:=hr;refine ⟨ces,clock,h1,h2,h3,h4,fun i kk a hi=>?_⟩;obtain ⟨e,he,g1,g2⟩:=h5 i kk a hi;rw[Q1] at hin;have:=hin _ (QZ hi);simp only[QD] at this;exact ⟨e,he,VRel.upto _ _ this.1 g1,VRel.upto _ _ this.2 g2⟩
     | siter s0 p=>exact hr
     | loop r =>
      simp only[ORel,Z3] at hr hin ⊢;obtain ⟨tmps,d,fi,h1,h2,h3⟩:=hr;exact ⟨tmps,d,fi,h1,fun i t hi=>VRel.upto _ _ (XO hin i) (h2 i t hi),h3⟩
   ·cases hlo
 ·simp;have:=hs.base;omega
 ·refine ⟨fun l hl=>by simp[LM.upto];omega,fun l b hb=>?_,QG _,fun _ _ _=>rfl,fun b c e h=>⟨c,h,rfl⟩,rfl,rfl,rfl,fun _=>QG _⟩;unfold LM.upto at hb;split at hb
  ·exact .inl ⟨l,hb⟩
  ·cases hb
end Go.Proofs.YtgkidpolomhghaaGreatDoor.AM
namespace Go.Proofs.YtgkidpolomhghaaGreatDoor.AM
variable [Dr]
open Go
variable {P:Program} {fx:Fx} {m:LM} {X:Nat→Prop} {en:En} {w:World}
inductive C7 (dir:Nat→List Nat) (n:Nat):List Nat→List Nat→Prop
 | nil {D:List Nat}:(∀ i,i<n→i∈D)→C7 dir n D []
 | cons {D:List Nat} {i:Nat} {l:List Nat}:i<n→i∉D→(∀ e∈dir i,e∈D)→C7 dir n (i::D) l→C7 dir n D (i::l)
def V9 (ops:Array Oper) (i:Nat):List Nat :=
 match ops[i]? with
 | some o=>(o.after.toList.filter (Region.binds .any)).map (·.on)
 | none=>[]
theorem QaB {ops:Array Oper} {i:Nat} {o:Oper} (h:ops[i]? = some o) (listed:Array Bool) :
  (o.after.all fun e=>!Region.binds .any e||listed.getD e.on false)=true↔∀ e∈V9 ops i,listed.getD e false=true:=by
 simp only[V9,h,Array.all_eq_true',ZP,YB];constructor
 ·rintro hall e ⟨x,⟨hx,hb⟩,rfl⟩;have:=hall x (by simpa using hx);simpa[hb] using this
 ·intro hall x hx;by_cases hb:Region.binds .any x=true
  ·have:=hall x.on ⟨x,⟨by simpa using hx,hb⟩,rfl⟩;simp[this]
  ·simp[hb]
theorem NG {α:Type} (p q:α→Bool) (l:List α) (h:∀ x,q x=true→p x=true) (a:α) (ha:a∈l) (hp:p a=true) (hq:q a=false):(l.filter q).length<(l.filter p).length:=by
 induction l with
 | nil=>simp at ha
 | cons x l ih =>
  have hle:(l.filter q).length≤(l.filter p).length:=by
   clear ih ha
   induction l with
   | nil=>simp
   | cons y l ih =>
    simp only[XK];by_cases hy:q y=true
    ·simp[hy,h y hy,ih]
    ·simp only[hy,if_false,QT];split <;> (try simp only[List.length_cons]) <;> omega
  simp only[XK];rcases ZD.1 ha with rfl | ha'
  ·simp[hp,hq];omega
  ·have:=ih ha';by_cases hx:q x=true
   ·simp[hx,h x hx];omega
   ·rw[if_neg hx];split <;> (try simp only[List.length_cons]) <;> omega
theorem Qb3 {ops:Array Oper} (hback:∀ i,i<ops.size→∀ e∈V9 ops i,e<i):∀ (fuel t:Nat) (listed:Array Bool) (acc D:List Nat),listed.size=ops.size →
  (∀ i,i<ops.size→(listed.getD i false=true↔i∈D))→((List.range ops.size).filter fun i=>!listed.getD i false).length≤fuel →
  ∃ l,Region.linearise.go .any ops fuel t listed acc=acc.reverse++l∧C7 (V9 ops) ops.size D l
 | 0,t,listed,acc,D,hsz,hl,hf=>by refine ⟨[],by simp[Region.linearise.go],.nil fun i hi=>?_⟩;rw[← hl i hi];have h0:((List.range ops.size).filter fun i=>!listed.getD i false)=[]:=ZT (by omega);rw[List.filter_eq_nil_iff] at h0;have:=h0 i (by simpa using hi);simpa using this
 | fuel + 1,t,listed,acc,D,hsz,hl,hf=>by
  simp only[Region.linearise.go];generalize hrs:((List.range ops.size).filter fun i=>!listed.getD i true&&((ops[i]?).map (fun o:Oper=>o.after.all fun e=>!Region.binds .any e||listed.getD e.on false)).getD false)=rs;have hmem:∀ i,i∈rs↔i<ops.size∧i∉D∧∀ e∈V9 ops i,e∈D:=by
   intro i;rw[← hrs];simp only[YB,ZI,QD,Z0];constructor
   ·rintro ⟨hi,h1,h2⟩;have hio:ops[i]? = some ops[i]:=Q7 hi;have e1:listed.getD i false=listed.getD i true:=by simp[QV,Q7 (show i<listed.size by omega)]
    rw[hio] at h2;simp only[Option.map_some,Option.getD_some] at h2;rw[QaB hio] at h2;refine ⟨hi,fun hD=>?_,fun e he=>(hl e (Nat.lt_trans (hback i hi e he) hi)).1 (h2 e he)⟩;have:=(hl i hi).2 hD;rw[e1,h1] at this;cases this
   ·rintro ⟨hi,h1,h2⟩;have hio:ops[i]? = some ops[i]:=Q7 hi;have e1:listed.getD i false=listed.getD i true:=by simp[QV,Q7 (show i<listed.size by omega)]
    refine ⟨hi,?_,?_⟩
    ·rw[← e1];cases hq:listed.getD i false with
     | false=>rfl
     | true=>exact absurd ((hl i hi).1 hq) h1
    ·rw[hio];simp only[Option.map_some,Option.getD_some];rw[QaB hio];exact fun e he=>(hl e (Nat.lt_trans (hback i hi e he) hi)).2 (h2 e he)
  by_cases hall:∀ i,i<ops.size→i∈D
  ·have:rs=[]:=by
    apply List.eq_nil_iff_forall_not_mem.2;intro i hi;have:=(hmem i).1 hi;exact this.2.1 (hall i this.1)
   rw[this];exact ⟨[],by simp,.nil hall⟩
  · -- THE FIRST ONE THAT IS LEFT
   have hne:rs≠[]:=by
    intro hnil;apply hall;intro i
    induction i using Nat.strongRecOn with
    | _ i ih =>
     intro hi;by_cases hD:i∈D
     ·exact hD
     ·exfalso;have:i∈rs:=(hmem i).2 ⟨hi,hD,fun e he=>ih e (hback i hi e he) (Nat.lt_trans (hback i hi e he) hi)⟩;rw[hnil] at this;simp at this
   have hlen:0<rs.length:=List.length_pos_iff.2 hne;have hidx:t % rs.length<rs.length:=Nat.mod_lt _ hlen;rw[QI hidx];have hin:rs[t % rs.length]∈rs:=Q2 hidx;generalize rs[t % rs.length]=i at hin ⊢;obtain ⟨hi,hiD,hdir⟩:=(hmem i).1 hin;obtain ⟨l,h1,h2⟩:=Qb3 hback fuel (t / rs.length) (listed.setIfInBounds i true) (i::acc) (i::D) (by simp[hsz]) (by
    intro j hj;by_cases hji:j=i
    ·subst hji;simp[QV,hsz,hj]
    ·have:(listed.setIfInBounds i true).getD j false=listed.getD j false:=by
      simp only[QV];rw[W2 (fun h=>hji h.symm)]
     rw[this,hl j hj];simp[hji]) (by
    have:((List.range ops.size).filter fun j=>!(listed.setIfInBounds i true).getD j false).length<((List.range ops.size).filter fun j=>!listed.getD j false).length:=by
     refine NG _ _ _ ?_ i (by simpa using hi) ?_ ?_
     ·intro j hj;by_cases hji:j=i
      ·subst hji;simp[QV,hsz,hi] at hj
      ·have:(listed.setIfInBounds i true).getD j false=listed.getD j false:=by
        simp only[QV];rw[W2 (fun h=>hji h.symm)]
       rwa [this] at hj
     ·cases hq:listed.getD i false with
      | false=>rfl
      | true=>exact absurd ((hl i hi).1 hq) hiD
     ·simp[QV,hsz,hi]
    omega)
   exact ⟨i::l,by simp[h1],.cons hi hiD hdir h2⟩
theorem FR {ops:Array Oper} (hback:∀ i,i<ops.size→∀ e∈V9 ops i,e<i) (t:Nat):C7 (V9 ops) ops.size [] (Region.linearise .any ops t):=by
 obtain ⟨l,h1,h2⟩:=Qb3 hback ops.size t (Array.replicate ops.size false) [] [] (by simp) (by
  intro i hi;simp[QV,hi]) (by
  refine YR (HC _ _) (by simp))
 unfold Region.linearise;rw[h1];simpa using h2
end Go.Proofs.YtgkidpolomhghaaGreatDoor.AM
namespace Go.Proofs.YtgkidpolomhghaaGreatDoor.AM
set_option linter.unusedSectionVars false
variable [Dr]
open Go
set_option linter.unusedVariables false
set_option linter.unusedSimpArgs false
def lastOf (p:Nat→Bool):Nat→Option Nat
 | 0=>none
 | k+1=>if p k then some k else lastOf p k
theorem JN {p q:Nat→Bool}:∀ {n:Nat},(∀ k,k<n→p k=q k)→lastOf p n=lastOf q n
 | 0,_=>rfl
 | n+1,h=>by simp only[lastOf,h n (by omega),JN (n:=n) fun k hk=>h k (by omega)]
theorem F1 {p:Nat→Bool} {j:Nat}:∀ {n:Nat},j≤n→(∀ k,j≤k→k<n→p k=false)→lastOf p n=lastOf p j
 | 0, h, _ => by have:j=0:=by omega
                 subst this;rfl
 | n+1,h,hf=>by
  by_cases hj:j=n+1
  ·subst hj;rfl
  ·simp only[lastOf,hf n (by omega) (by omega),QT,if_false];exact F1 (by omega) fun k h1 h2=>hf k h1 (by omega)
theorem E8 {p:Nat→Bool} {j n:Nat} (hj:j<n) (hp:p j=true) (hf:∀ k,j<k→k<n→p k=false):lastOf p n=some j:=by
 rw[F1 (j:=j+1) (by omega) fun k h1 h2=>hf k (by omega) h2];simp[lastOf,hp]
def VU (f:Nat→Bool) (σ:List AObj):List AObj:=σ.mapIdx fun l o=>if f l then .dead else o
theorem J6 (f:Nat→Bool) (σ:List AObj) (l:Nat):(VU f σ)[l]? = (σ[l]?).map fun o=>if f l then .dead else o:=by
 simp[VU,List.getElem?_mapIdx]
theorem YA (f:Nat→Bool) (σ:List AObj):(VU f σ).length=σ.length:=by simp[VU]
structure Free (P:Program) (fx:Fx) (ops:Array Oper) (is:List Ins) (V:Nat→List AV) (r:Nat→AV) (S:Nat→List AObj) (pd:Nat→List Nat) (ch hd:Nat→Nat→Bool):Prop where
 back:∀ i,i<ops.size→∀ e∈V9 ops i,e<i
 pdlt:∀ j,j<ops.size→∀ k∈pd j,k<j
 pddir:∀ j,j<ops.size→∀ k∈pd j,k∈V9 ops j∨∃ e∈V9 ops j,k∈pd e
 V0:(V 0).length=fx.vars.length
 Vs:∀ j i,is[j]? = some i→V (j+1)=setD i.dst (V j) (r j)
 le:∀ j,j<ops.size→(S j).length≤(S (j+1)).length
 nch:∀ j,j<ops.size→∀ l,ch j l=false→(S (j+1))[l]? = (S j)[l]?
 chl:∀ j,j<ops.size→∀ l,ch j l=true→l<(S (j+1)).length
 un:∀ j k,j<ops.size→k<ops.size→k≠j→k∉pd j→j∉pd k→∀ l,ch k l=true→hd j l=true
 mine:∀ j,j<ops.size→∀ l,ch j l=true→hd j l=false
 made:∀ j,j<ops.size→∀ l o,(S j).length≤l→(S (j+1))[l]? = some o→o.live
 rl:∀ j,j<ops.size→QR (S (j+1)).length (r j)=true
 cl:∀ j,j<ops.size→∀ l o,ch j l=true→(S (j+1))[l]? = some o→Z3 (S (j+1)).length o=true
 rds:∀ j i,is[j]? = some i→∀ k,.t k∈i.args→k∈pd j
 gds:∀ j i k b,is[j]? = some i→i.gd=some (k,b)→k∈pd j
 vrs:∀ j k i i' x,is[j]? = some i→is[k]? = some i'→j≠k→i'.dst=some x→(.v x∈i.args∨i.dst=some x)→k∈pd j∨j∈pd k
 op:∀ j i,is[j]? = some i→match gdOk ((List.range j).map r) i.gd with
  | none=>False
  | some false=>r j=.tup []∧S (j+1)=S j
  | some true=>match i.op,i.args.map (WY (V j) ((List.range j).map r)) with
   | .prim io,αs=>ZQ io αs (VU (hd j) (S j))=some (r j,VU (hd j) (S (j+1)))
   | .call,fv::αs=>X0 P fv αs (VU (hd j) (S j)) fun v σ'=>v=r j∧σ'=VU (hd j) (S (j+1))
   | .call,[]=>False
variable {P:Program} {fx:Fx} {ops:Array Oper} {is:List Ins} {V:Nat→List AV} {r:Nat→AV} {S:Nat→List AObj} {pd:Nat→List Nat} {ch hd:Nat→Nat→Bool}
def dstI (is:List Ins) (k i:Nat):Bool:=((is[k]?).bind (·.dst)) == some i
def vAt (is:List Ins) (r:Nat→AV) (v0:List AV) (n:Nat) (p:Nat→Bool) (i:Nat):AV :=
 match lastOf (fun k=>p k&&dstI is k i) n with
 | some k=>r k
 | none=>v0.getD i .undef
def oAt (S:Nat→List AObj) (ch:Nat→Nat→Bool) (n:Nat) (p:Nat→Bool) (l:Nat):Option AObj :=
 match lastOf (fun k=>p k&&ch k l) n with
 | some k=>(S (k+1))[l]?
 | none=>(S 0)[l]?
def hAt (S:Nat→List AObj) (ch:Nat→Nat→Bool) (n:Nat) (p:Nat→Bool):List AObj :=
 (List.range (S n).length).map fun l=>(oAt S ch n p l).getD .dead
theorem LH {n:Nat} {p:Nat→Bool} {l:Nat} (hl:l<(S n).length):(hAt S ch n p)[l]? = some ((oAt S ch n p l).getD .dead):=by
 simp[hAt,hl]
theorem Free.size (h:Free P fx ops is V r S pd ch hd) (hc:HK P fx.vars (ops.toList.map (·.dst)) ops.toList=some is):is.length=ops.size∧∀ (j:Nat) o,ops[j]? = some o→∃ i,is[j]? = some i∧JP P fx.vars (ops.toList.map (·.dst)) o=some i:=by
 rw[UV] at hc;have key:∀ (l:List Oper) (is:List Ins),l.mapM (JP P fx.vars (ops.toList.map (·.dst)))=some is→is.length=l.length∧∀ (j:Nat) o,l[j]? = some o→∃ i,is[j]? = some i∧JP P fx.vars (ops.toList.map (·.dst)) o=some i:=by
  intro l
  induction l with
  | nil=>intro is h;simp at h;subst h;simp
  | cons x l ih =>
   intro is h;simp only[WV,Option.bind_eq_bind,QB,Option.pure_def,Option.some.injEq] at h;obtain ⟨i,hi,is',his,rfl⟩:=h;obtain ⟨h1,h2⟩:=ih _ his;refine ⟨by simp[h1],fun j o hj=>?_⟩;cases j with
   | zero=>simp at hj;subst hj;exact ⟨i,by simp,hi⟩
   | succ j=>simp at hj;simpa using h2 j o hj
 obtain ⟨h1,h2⟩:=key _ _ hc;exact ⟨by simpa using h1,fun j o hj=>h2 j o (by simpa using hj)⟩
theorem Free.V_at (h:Free P fx ops is V r S pd ch hd) (hlen:is.length=ops.size):∀ j,j≤ops.size→(V j).length=fx.vars.length∧∀ i,i<fx.vars.length→(V j).getD i .undef=vAt is r (V 0) ops.size (fun k=>decide (k<j)) i
 | 0,_=>by
  refine ⟨h.V0,fun i hi=>?_⟩;have:lastOf (fun k=>decide (k<0)&&dstI is k i) ops.size=none:=by rw[F1 (j:=0) (QF _) (by intro k _ _;simp)];rfl
  simp only[vAt,this]
 | j + 1,hj=>by
  obtain ⟨h1,h2⟩:=Free.V_at h hlen j (by omega);have hij:is[j]? = some is[j]:=QI (by omega);rw[h.Vs j _ hij];constructor
  ·unfold setD;split <;> simp[h1]
  ·intro i hi;by_cases hd:is[j].dst=some i
   ·have e1:lastOf (fun k=>decide (k<j+1)&&dstI is k i) ops.size=some j:=by
     refine E8 (by omega) (by simp[dstI,hij,hd]) fun k hk _=>by simp;omega
    simp only[vAt,e1,hd,setD];simp[List.getD,h1,hi]
   ·have e1:lastOf (fun k=>decide (k<j+1)&&dstI is k i) ops.size=lastOf (fun k=>decide (k<j)&&dstI is k i) ops.size:=by
     refine JN fun k hk=>?_
     by_cases hkj:k=j
     ·subst hkj;simp[dstI,hij,hd]
     ·have:decide (k<j+1)=decide (k<j):=by simp;omega
      simp[this]
    have e2:=h2 i hi;simp only[vAt] at e2 ⊢;rw[e1,← e2];unfold setD;split
    ·rename_i x hx;have:x≠i:=by rintro rfl;exact hd hx
     simp only[List.getD];rw[QU this]
    ·rfl
theorem Free.S_at (h:Free P fx ops is V r S pd ch hd):∀ j,j≤ops.size→∀ l,(S j)[l]? = oAt S ch ops.size (fun k=>decide (k<j)) l
 | 0,_,l=>by
  have:lastOf (fun k=>decide (k<0)&&ch k l) ops.size=none:=by rw[F1 (j:=0) (QF _) (by intro k _ _;simp)];rfl
  simp only[oAt,this]
 | j + 1,hj,l=>by
  cases hc:ch j l with
  | true =>
   have e1:lastOf (fun k=>decide (k<j+1)&&ch k l) ops.size=some j :=
    E8 (by omega) (by simp[hc]) fun k hk _=>by simp;omega
   simp[oAt,e1]
  | false =>
   have e1:lastOf (fun k=>decide (k<j+1)&&ch k l) ops.size=lastOf (fun k=>decide (k<j)&&ch k l) ops.size:=by
    refine JN fun k hk=>?_
    by_cases hkj:k=j
    ·subst hkj;simp[hc]
    ·have:decide (k<j+1)=decide (k<j):=by simp;omega
     simp[this]
   have e2:=Free.S_at h j (by omega) l;simp only[oAt] at e2 ⊢;rw[e1,← e2];exact h.nch j (by omega) l hc
theorem Free.le' (h:Free P fx ops is V r S pd ch hd) {a b:Nat} (hab:a≤b) (hb:b≤ops.size):(S a).length≤(S b).length:=by
 induction b with
 | zero => have:a=0:=by omega
           subst this;exact QG _
 | succ b ih =>
  by_cases e:a=b+1
  ·subst e;exact QG _
  ·exact YR (ih (by omega) (by omega)) (h.le b (by omega))
structure Inv (fx:Fx) (ops:Array Oper) (is:List Ins) (V:Nat→List AV) (r:Nat→AV) (S:Nat→List AObj) (pd:Nat→List Nat) (ch:Nat→Nat→Bool) (X:Nat→Prop) (en:En) (D:List Nat) (m:LM) (ac:Act) (w:World):Prop where
 inn:∀ k∈D,k<ops.size
 clos:∀ k∈D,∀ e∈pd k,e∈D
 size:ac.tmps.size=fx.N
 vars:∀ i t,fx.vars[i]? = some t→VRel m X w (vAt is r (V 0) ops.size (fun k=>decide (k∈D)) i) (ac.tmps.getD t Go.undef)
 tmps:∀ k∈D,∀ t,(ops.toList[k]?).bind (·.dst)=some t→t∉fx.vars→VRel m X w (r k) (ac.tmps.getD t Go.undef)
 defs:DRel m X en w ac.defers
 heap:HRel m X (hAt S ch ops.size fun k=>decide (k∈D)) w
 fresh:∀ l,(S 0).length≤l→(∀ k∈D,¬ ((S k).length≤l∧l<(S (k+1)).length))→m l=none
 entry:en.n≤w.heap.size
theorem sameAt {p:Nat→Bool} {D:List Nat} {j n:Nat} {pd:Nat→List Nat} (hn:j<n) (hpdlt:∀ j,j<n→∀ k∈pd j,k<j) (hclos:∀ k∈D,∀ e∈pd k,e∈D) (hjD:j∉D) (hpj:∀ e∈pd j,e∈D)
  (hord:∀ k,k<n→p k=true→k≠j→k∈pd j∨j∈pd k) (hself:p j=true→False∨True) :
  ∀ k,k<n→k≠j→(decide (k∈D)&&p k)=(decide (k<j)&&p k):=by
 intro k hk hkj;cases hp:p k with
 | false=>simp
 | true =>
  simp only[WH];rcases hord k hk hp hkj with h1 | h1
  ·have:=hpdlt j hn k h1;simp[hpj k h1,this]
  ·have h2:=hpdlt k hk j h1;have h3:k∉D:=fun hkD=>hjD (hclos k hkD j h1)
   simp[h3];omega
theorem Free.vEq (h:Free P fx ops is V r S pd ch hd) (hlen:is.length=ops.size) {D:List Nat} {j:Nat} {i0:Ins} {x:Nat} (hj:is[j]? = some i0) (hclos:∀ k∈D,∀ e∈pd k,e∈D) (hjD:j∉D) (hpj:∀ e∈pd j,e∈D)
  (hx:.v x∈i0.args∨i0.dst=some x):vAt is r (V 0) ops.size (fun k=>decide (k∈D)) x=vAt is r (V 0) ops.size (fun k=>decide (k<j)) x:=by
 have hjn:j<ops.size:=by rw[← hlen];exact (QH.1 hj).1
 have:lastOf (fun k=>decide (k∈D)&&dstI is k x) ops.size=lastOf (fun k=>decide (k<j)&&dstI is k x) ops.size:=by
  refine JN fun k hk=>?_
  by_cases hkj:k=j
  ·subst hkj;simp[hjD]
  ·refine sameAt (p:=fun k=>dstI is k x) hjn h.pdlt hclos hjD hpj ?_ (fun _=>.inr trivial) k hk hkj;intro k hk hp hkj;have hik:is[k]? = some is[k]:=QI (by omega);have hd:is[k].dst=some x:=by simpa[dstI,hik] using hp
   exact h.vrs j k i0 _ x hj hik (Ne.symm hkj) hd hx
 simp only[vAt,this]
theorem Free.oEq (h:Free P fx ops is V r S pd ch hd) {D:List Nat} {j l:Nat} (hjn:j<ops.size) (hin:∀ k∈D,k<ops.size) (hclos:∀ k∈D,∀ e∈pd k,e∈D) (hjD:j∉D) (hpj:∀ e∈pd j,e∈D)
  (hl:hd j l=false):oAt S ch ops.size (fun k=>decide (k∈D)) l=oAt S ch ops.size (fun k=>decide (k<j)) l:=by
 have:lastOf (fun k=>decide (k∈D)&&ch k l) ops.size=lastOf (fun k=>decide (k<j)&&ch k l) ops.size:=by
  refine JN fun k hk=>?_
  by_cases hkj:k=j
  ·subst hkj;simp[hjD]
  ·refine sameAt (p:=fun k=>ch k l) hjn h.pdlt hclos hjD hpj ?_ (fun _=>.inr trivial) k hk hkj;intro k hk hp hkj;by_cases h1:k∈pd j
   ·exact .inl h1
   ·by_cases h2:j∈pd k
    ·exact .inr h2
    ·have:=h.un j k hjn hk hkj h1 h2 l hp;rw[hl] at this;cases this
 simp only[oAt,this]
theorem Free.closedAt (h:Free P fx ops is V r S pd ch hd) (h0:∀ (l:Nat) o,(S 0)[l]? = some o→Z3 (S 0).length o=true) (mono:∀ (a b:Nat) o,a≤b→Z3 a o=true→Z3 b o=true):∀ j,j≤ops.size→∀ (l:Nat) o,(S j)[l]? = some o→Z3 (S j).length o=true
 | 0,_,l,o,ho=>h0 l o ho
 | j+1,hj,l,o,ho=>by
  cases hc:ch j l with
  | true=>exact h.cl j (by omega) l o hc ho
  | false =>
   rw[h.nch j (by omega) l hc] at ho;exact mono _ _ o (h.le j (by omega)) (Free.closedAt h h0 mono j (by omega) l o ho)
mutual
theorem Y8 {a b:Nat} (hab:a≤b):∀ v:AV,QR a v=true→QR b v=true
 | .cv _,_=>rfl
 | .ptr l _,h=>by simp only[QR,decide_eq_true_eq] at h ⊢;omega
 | .sl l _ _ _,h=>by simp only[QR,decide_eq_true_eq] at h ⊢;omega
 | .map l,h=>by simp only[QR,decide_eq_true_eq] at h ⊢;omega
 | .fn _ cs,h=>by simp only[QR] at h ⊢;exact XN hab cs h
 | .bm _ cs,h=>by simp only[QR] at h ⊢;exact XN hab cs h
 | .yld l,h=>by simp only[QR,decide_eq_true_eq] at h ⊢;omega
 | .agg cs,h=>by simp only[QR] at h ⊢;exact XN hab cs h
 | .tup cs,h=>by simp only[QR] at h ⊢;exact XN hab cs h
 | .undef,_=>rfl
 | .slc l _ _ _ _,h=>by simp only[QR,decide_eq_true_eq] at h ⊢;omega
theorem XN {a b:Nat} (hab:a≤b):∀ vs:List AV,QO a vs=true→QO b vs=true
 | [],_=>rfl
 | v::vs,h=>by simp only[QO,QD] at h ⊢;exact ⟨Y8 hab v h.1,XN hab vs h.2⟩
end
theorem H1 (a b:Nat) (o:AObj) (hab:a≤b) (h:Z3 a o=true):Z3 b o=true:=by
 cases o with
 | dead=>rfl
 | cells cs=>exact XN hab cs h
 | map es =>
  simp only[Z3,Q1,QD] at h ⊢;exact fun e he=>⟨Y8 hab _ (h e he).1,Y8 hab _ (h e he).2⟩
 | siter _ _=>rfl
 | loop r=>exact XN hab _ h
mutual
theorem VRel.locs {m:LM} {X:Nat→Prop} {w:World} {n:Nat} (hm:∀ l b,m l=some b→l<n):∀ (a:AV) (v:Value),VRel m X w a v→QR n a=true
 | .cv _,_,_=>rfl
 | .ptr l _,v,h=>by simp only[VRel] at h;obtain ⟨b,h1,_⟩:=h;simpa[QR] using hm _ _ h1
 | .sl l _ _ _,v,h=>by simp only[VRel] at h;obtain ⟨b,c,h1,_⟩:=h;simpa[QR] using hm _ _ h1
 | .map l,v,h=>by simp only[VRel] at h;obtain ⟨b,h1,_⟩:=h;simpa[QR] using hm _ _ h1
 | .fn _ cs,v,h=>by simp only[VRel] at h;obtain ⟨vs,_,h2⟩:=h;simp only[QR];exact QK.locs hm cs vs h2
 | .bm _ cs,v,h=>by simp only[VRel] at h;obtain ⟨vs,_,h2⟩:=h;simp only[QR];exact QK.locs hm cs vs h2
 | .yld l,v,h=>by simp only[VRel] at h;obtain ⟨b,h1,_⟩:=h;simpa[QR] using hm _ _ h1
 | .agg cs,v,h=>by simp only[VRel] at h;obtain ⟨vs,_,h2⟩:=h;simp only[QR];exact QK.locs hm cs vs h2
 | .tup cs,v,h=>by simp only[VRel] at h;obtain ⟨vs,_,h2⟩:=h;simp only[QR];exact QK.locs hm cs vs h2
 | .undef,_,_=>rfl
 | .slc l _ _ _ _,v,h=>by simp only[VRel] at h;obtain ⟨b,h1,_⟩:=h;simpa[QR] using hm _ _ h1
theorem QK.locs {m:LM} {X:Nat→Prop} {w:World} {n:Nat} (hm:∀ l b,m l=some b→l<n):∀ (αs:List AV) (vs:List Value),QK m X w αs vs→QO n αs=true
 | [],[],_=>rfl
 | a::αs,v::vs,h=>by simp only[QK] at h;simp only[QO,QD];exact ⟨VRel.locs hm a v h.1,QK.locs hm αs vs h.2⟩
 | [],_::_,h=>by simp[QK] at h
 | _::_,[],h=>by simp[QK] at h
end
theorem CV.rep_less {w:World} {O O':Nat→Prop} (h:∀ b,O' b→O b) (c:CV) (v:Value) (hr:c.rep w O v):c.rep w O' v :=
 CV.rep_mono (fun b hb _=>⟨rfl,fun ho=>hb (h b ho)⟩) c v hr
mutual
theorem VRel.less {m m':LM} {X X':Nat→Prop} {w:World} {k:Nat} (hm:∀ l,l<k→m' l=m l) (ho:∀ b,Own m' X' b→Own m X b):∀ (a:AV) (v:Value),QR k a=true→VRel m X w a v→VRel m' X' w a v
 | .cv c,v,_,h=>by simp only[VRel] at h ⊢;exact CV.rep_less ho c v h
 | .ptr l off,v,hk,h=>by simp only[VRel,QR,decide_eq_true_eq] at h hk ⊢;rw[hm l hk];exact h
 | .sl l off len esz,v,hk,h=>by simp only[VRel,QR,decide_eq_true_eq] at h hk ⊢;rw[hm l hk];exact h
 | .map l,v,hk,h=>by simp only[VRel,QR,decide_eq_true_eq] at h hk ⊢;rw[hm l hk];exact h
 | .fn f cs,v,hk,h=>by simp only[VRel,QR] at h hk ⊢;obtain ⟨vs,h1,h2⟩:=h;exact ⟨vs,h1,QK.less hm ho cs vs hk h2⟩
 | .bm f cs,v,hk,h=>by simp only[VRel,QR] at h hk ⊢;obtain ⟨vs,h1,h2⟩:=h;exact ⟨vs,h1,QK.less hm ho cs vs hk h2⟩
 | .yld l,v,hk,h=>by simp only[VRel,QR,decide_eq_true_eq] at h hk ⊢;rw[hm l hk];exact h
 | .agg cs,v,hk,h=>by simp only[VRel,QR] at h hk ⊢;obtain ⟨vs,h1,h2⟩:=h;exact ⟨vs,h1,QK.less hm ho cs vs hk h2⟩
 | .tup cs,v,hk,h=>by simp only[VRel,QR] at h hk ⊢;obtain ⟨vs,h1,h2⟩:=h;exact ⟨vs,h1,QK.less hm ho cs vs hk h2⟩
 | .undef,v,_,_=>by simp[VRel]
 | .slc l off len cap esz,v,hk,h=>by simp only[VRel,QR,decide_eq_true_eq] at h hk ⊢;rw[hm l hk];exact h
theorem QK.less {m m':LM} {X X':Nat→Prop} {w:World} {k:Nat} (hm:∀ l,l<k→m' l=m l) (ho:∀ b,Own m' X' b→Own m X b):∀ (αs:List AV) (vs:List Value),QO k αs=true→QK m X w αs vs→QK m' X' w αs vs
 | [],[],_,_=>by simp[QK]
 | a::αs,v::vs,hk,h=>by simp only[QK,QO,QD] at h hk ⊢;exact ⟨VRel.less hm ho a v hk.1 h.1,QK.less hm ho αs vs hk.2 h.2⟩
 | [],_::_,_,h=>by simp[QK] at h
 | _::_,[],_,h=>by simp[QK] at h
end
theorem ORel.less {m m':LM} {X X':Nat→Prop} {w:World} {k:Nat} (hm:∀ l,l<k→m' l=m l) (ho:∀ b,Own m' X' b→Own m X b) {b:Option Nat} {o:AObj} (hk:Z3 k o=true) (h:ORel m X w b o):ORel m' X' w b o:=by
 cases b with
 | none=>cases o <;> simp[ORel] at h ⊢
 | some b =>
  cases o with
  | dead=>trivial
  | cells cs =>
   simp only[ORel,Z3] at h hk ⊢;obtain ⟨c,e,h1,h2,h3⟩:=h;exact ⟨c,e,h1,h2,QK.less hm ho _ _ hk h3⟩
  | map es =>
   simp only[ORel,Z3] at h hk ⊢;obtain ⟨ces,clock,h1,h2,h3,h4,h5⟩:=h;refine ⟨ces,clock,h1,h2,h3,h4,fun i kk a hi=>?_⟩;obtain ⟨e,he,g1,g2⟩:=h5 i kk a hi;rw[Q1] at hk;have:=hk _ (QZ hi);simp only[QD] at this;exact ⟨e,he,VRel.less hm ho _ _ this.1 g1,VRel.less hm ho _ _ this.2 g2⟩
  | siter s0 p=>exact h
  | loop r =>
   simp only[ORel,Z3] at h hk ⊢;obtain ⟨tmps,d,fi,h1,h2,h3⟩:=h;exact ⟨tmps,d,fi,h1,fun i t hi=>VRel.less hm ho _ _ (XO hk i) (h2 i t hi),h3⟩
theorem I4 {k:Nat}:∀ {αs:List AV},(∀ i,i<αs.length→QR k (αs.getD i .undef)=true)→QO k αs=true
 | [],_=>rfl
 | a::αs,h=>by simp only[QO,QD];exact ⟨by simpa using h 0 (by simp),I4 fun i hi=>by simpa using h (i+1) (by simpa using hi)⟩
theorem HRel.closed {m:LM} {X:Nat→Prop} {σ:List AObj} {w:World} (h:HRel m X σ w) (l:Nat) (o:AObj) (ho:σ[l]? = some o):Z3 σ.length o=true:=by
 have hm:∀ l b,m l=some b→l<σ.length:=fun l b hl=>(h.dom l b hl).1
 have hr:=h.obj l o ho;cases hb:m l with
 | none=>rw[hb] at hr;cases o <;> simp[ORel] at hr;rfl
 | some b =>
  rw[hb] at hr;cases o with
  | dead=>rfl
  | cells cs=>simp only[ORel] at hr;obtain ⟨c,e,_,_,h3⟩:=hr;exact QK.locs hm _ _ h3
  | map es =>
   simp only[ORel] at hr;obtain ⟨ces,clock,_,_,_,_,h5⟩:=hr;simp only[Z3,Q1,QD];rintro ⟨kk,a⟩ he;obtain ⟨i,hi⟩:=List.getElem?_of_mem he;obtain ⟨e,_,g1,g2⟩:=h5 i kk a hi;exact ⟨VRel.locs hm _ _ g1,VRel.locs hm _ _ g2⟩
  | siter _ _=>rfl
  | loop r =>
   simp only[ORel] at hr;obtain ⟨tmps,d,fi,h1,h2,h3,h4⟩:=hr;exact I4 fun i hi=>VRel.locs hm _ _ (h2 i r.vars[i] (QI (by omega)))
end Go.Proofs.YtgkidpolomhghaaGreatDoor.AM
namespace Go.Proofs.YtgkidpolomhghaaGreatDoor.AM
set_option linter.unusedSectionVars false
variable [Dr]
open Go
set_option linter.unusedVariables false
set_option linter.unusedSimpArgs false
theorem Qdv {vars:List Nat} {u:Nat} (huv:u∉vars):∀ (l:List Oper),((l.filterMap (·.dst)).filter fun t=>!vars.contains t).Nodup→∀ (a b:Nat),(l[a]?).bind (fun o:Oper=>o.dst)=some u→(l[b]?).bind (fun o:Oper=>o.dst)=some u→a=b:=by
 intro l
 induction l with
 | nil=>intro _ a b h;simp at h
 | cons x l ih =>
  intro hn a b h1 h2;have hmem:∀ (q:Nat),(l[q]?).bind (fun o:Oper=>o.dst)=some u→u∈(l.filterMap (·.dst)).filter fun t=>!vars.contains t:=by
   intro q hq;cases hlq:l[q]? with
   | none=>rw[hlq] at hq;simp at hq
   | some y =>
    rw[hlq] at hq;refine YB.2 ⟨X3.2 ⟨y,QZ hlq,by simpa using hq⟩,by simpa using huv⟩
  cases hx:x.dst with
  | none =>
   simp only[List.filterMap_cons,hx] at hn;cases a with
   | zero=>simp[hx] at h1
   | succ a=>cases b with
    | zero=>simp[hx] at h2
    | succ b=>simp at h1 h2;rw[ih hn a b h1 h2]
  | some tx =>
   simp only[List.filterMap_cons,hx] at hn;have hn':((l.filterMap (·.dst)).filter fun t=>!vars.contains t).Nodup:=by
    rw[XK] at hn;split at hn
    ·exact (WQ.1 hn).2
    ·exact hn
   have hno:tx=u→∀ q:Nat,(l[q]?).bind (fun o:Oper=>o.dst)=some u→False:=by rintro rfl q hq;rw[XK,if_pos (by simpa using huv)] at hn;exact (WQ.1 hn).1 (hmem q hq)
   cases a with
   | zero =>
    cases b with
    | zero=>rfl
    | succ b=>simp[hx] at h1;simp at h2;exact (hno h1 b h2).elim
   | succ a =>
    cases b with
    | zero=>simp[hx] at h2;simp at h1;exact (hno h2 a h1).elim
    | succ b=>simp at h1 h2;rw[ih hn' a b h1 h2]
variable {P:Program} {fx:Fx} {ops:Array Oper} {is:List Ins} {V:Nat→List AV} {r:Nat→AV} {S:Nat→List AObj} {pd:Nat→List Nat} {ch hd:Nat→Nat→Bool}
variable {m:LM} {X:Nat→Prop} {en:En} {w:World} {D:List Nat} {ac:Act} {j:Nat}
def mAt (S:Nat→List AObj) (j:Nat) (m:LM):LM:=fun l=>if l<(S j).length then m l else none
def xAt (S:Nat→List AObj) (ch hd:Nat→Nat→Bool) (n:Nat) (D:List Nat) (j:Nat) (m:LM) (X:Nat→Prop):Nat→Prop:=fun b =>
 X b∨∃ l,m l=some b∧((S j).length≤l∨(hd j l=true∧∃ o,(hAt S ch n fun k=>decide (k∈D))[l]? = some o∧o.live))
theorem EJ {l b:Nat} (h:mAt S j m l=some b):l<(S j).length∧m l=some b:=by
 unfold mAt at h;split at h
 ·exact ⟨by assumption,h⟩
 ·cases h
theorem Qa7 {b:Nat} (h:Own (mAt S j m) (xAt S ch hd ops.size D j m X) b):Own m X b:=by
 rcases h with (h | ⟨l,h,_⟩) | ⟨l,h⟩
 ·exact .inl h
 ·exact .inr ⟨l,h⟩
 ·exact .inr ⟨l,(EJ h).2⟩
theorem Inv.restrict (h:Free P fx ops is V r S pd ch hd) (inv:Inv fx ops is V r S pd ch X en D m ac w) (hcl0:∀ (l:Nat) o,(S 0)[l]? = some o→Z3 (S 0).length o=true)
  (hjn:j<ops.size) (hjD:j∉D) (hpj:∀ e∈pd j,e∈D):HRel (mAt S j m) (xAt S ch hd ops.size D j m X) (VU (hd j) (S j)) w:=by
 have hle:=h.le' (show j≤ops.size by omega) (QG _);have obj:∀ (l:Nat) o,(S j)[l]? = some o→hd j l=false→(hAt S ch ops.size fun k=>decide (k∈D))[l]? = some o:=by intro l o hl hh;have hlt:l<(S j).length:=(QH.1 hl).1;rw[LH (by omega),h.oEq hjn inv.inn inv.clos hjD hpj hh,← h.S_at j (by omega),hl];rfl
 refine ⟨?_,?_,?_,?_,?_,inv.heap.gl.less fun b hb=>Qa7 hb⟩
 ·rintro b (hb | ⟨l,hb,_⟩)
  ·exact inv.heap.xb b hb
  ·exact (inv.heap.dom l b hb).2
 ·intro l b hb;obtain ⟨h1,h2⟩:=EJ hb;exact ⟨by rw[YA];exact h1,(inv.heap.dom l b h2).2⟩
 ·intro l b o hb ho hv;obtain ⟨h1,h2⟩:=EJ hb;rw[J6,QA] at ho;obtain ⟨o0,ho0,he⟩:=ho;cases hh:hd j l with
  | true=>rw[hh] at he;simp at he;subst he;exact hv.elim
  | false =>
   rw[hh] at he;simp at he;subst he;have hD:=obj l o0 ho0 hh;rintro (hx | ⟨l',hl',hc⟩)
   ·exact inv.heap.own l b o0 h2 hD hv hx
   ·rcases hc with hc | ⟨hc1,o',hc2,hc3⟩
    ·have:=inv.heap.inj l' l b o0 hl' h2 hD hv;omega
    ·have:=inv.heap.inj2 l l' b o0 o' h2 hl' hD hc2 hv hc3;subst this;rw[hh] at hc1;cases hc1
 ·intro l l' b o' hb hb' ho hv;obtain ⟨h1,h2⟩:=EJ hb;obtain ⟨h3,h4⟩:=EJ hb';rw[J6,QA] at ho;obtain ⟨o0,ho0,he⟩:=ho;cases hh:hd j l' with
  | true=>rw[hh] at he;simp at he;subst he;exact hv.elim
  | false =>
   rw[hh] at he;simp at he;subst he;exact inv.heap.inj l l' b o0 h2 h4 (obj l' o0 ho0 hh) hv
 ·intro l o ho;rw[J6,QA] at ho;obtain ⟨o0,ho0,he⟩:=ho;cases hh:hd j l with
  | true=>rw[hh] at he;simp at he;subst he;simp[ORel]
  | false =>
   rw[hh] at he;simp at he;subst he;have hlt:l<(S j).length:=(QH.1 ho0).1;have hr:=inv.heap.obj l o0 (obj l o0 ho0 hh);have e1:mAt S j m l=m l:=by simp[mAt,hlt]
   rw[e1];exact ORel.less (k:=(S j).length) (fun x hx=>by simp[mAt,hx]) (fun b hb=>Qa7 hb) (h.closedAt hcl0 H1 j (by omega) l o0 ho0) hr
theorem Inv.step (h:Free P fx ops is V r S pd ch hd) (hlen:is.length=ops.size) (hok:GU fx.vars fx.N ops.toList=true) (inv:Inv fx ops is V r S pd ch X en D m ac w) (hn0:fx.n0≤(S 0).length)
  (hjn:j<ops.size) (hjD:j∉D) (hpj:∀ e∈pd j,e∈D) {o:Oper} {i0:Ins} (ho:ops[j]? = some o) (hi0:is[j]? = some i0) (hdst:i0.dst=KA fx.vars o.dst)
  {mj:LM} {w':World} {c:Value} (hh:HRel mj (xAt S ch hd ops.size D j m X) (VU (hd j) (S (j+1))) w') (hst:Step (S j).length (mAt S j m) (xAt S ch hd ops.size D j m X) w mj w')
  (hv:VRel mj (xAt S ch hd ops.size D j m X) w' (r j) c):∃ m',Inv fx ops is V r S pd ch X en (j::D) m' (ac.put o.dst c) w'∧Step fx.n0 m X w m' w':=by
 have hle:=h.le j hjn;have hleN:=h.le' (show j+1≤ops.size by omega) (QG _);have hle0:=h.le' (QF j) (by omega)
 let m':LM:=fun l=>if (S j).length≤l∧l<(S (j+1)).length then mj l else m l
 have m'new:∀ l,(S j).length≤l→l<(S (j+1)).length→m' l=mj l:=fun l h1 h2=>by simp[m',h1,h2]
 have m'old:∀ l,¬ ((S j).length≤l∧l<(S (j+1)).length)→m' l=m l:=fun l h1=>by simp only[m',if_neg h1]
 have keepj:∀ l,l<(S j).length→mj l=m l:=fun l hl=>by rw[hst.keep l hl];simp[mAt,hl]
 have m'lo:∀ l,l<(S (j+1)).length→m' l=mj l:=fun l hl=>by
  by_cases h1:(S j).length≤l
  ·exact m'new l h1 hl
  ·rw[m'old l (by omega),keepj l (by omega)]
 have xsub:∀ b,X b→xAt S ch hd ops.size D j m X b:=fun b hb=>.inl hb
 have xlate:∀ l b,m l=some b→(S j).length≤l→xAt S ch hd ops.size D j m X b:=fun l b h1 h2=>.inr ⟨l,h1,.inl h2⟩
 have fresh:∀ l,(S j).length≤l→l<(S (j+1)).length→m l=none:=fun l h1 h2=>by
  refine inv.fresh l (by omega) fun k hk hc=>?_
  have hkn:=inv.inn k hk;rcases Nat.lt_trichotomy k j with hlt | he | hgt
  ·have:=h.le' (show k+1≤j by omega) (by omega);omega
  ·subst he;exact hjD hk
  ·have:=h.le' (show j+1≤k by omega) (by omega);omega
 have hmj:∀ l b,mAt S j m l=some b→m l=some b:=fun l b hb=>(EJ hb).2
 have hst':Step fx.n0 m X w m' w' :=
  {keep:=fun l hl=>m'old l (by omega)
   new:=fun l b hb=>by
    by_cases hr:(S j).length≤l∧l<(S (j+1)).length
    ·rw[m'new l hr.1 hr.2] at hb;rcases hst.new l b hb with ⟨l',hl'⟩ | hge
     ·exact .inl ⟨l',hmj _ _ hl'⟩
     ·exact .inr hge
    ·rw[m'old l hr] at hb;exact .inl ⟨l,hb⟩
   size:=hst.size
   fr:=fun b hb hno=>hst.fr b hb (hno.imp (xsub b) fun hno l hl=>hno l (hmj _ _ hl))
   shp:=hst.shp,os:=hst.os,tape:=hst.tape,output:=hst.output,drawn:=hst.drawn }
 have MM:Mono m X w m' X w' :=
  {sub:=fun l b hb=>by
    by_cases hr:(S j).length≤l∧l<(S (j+1)).length
    ·rw[fresh l hr.1 hr.2] at hb;cases hb
    ·rw[m'old l hr];exact hb
   cl:=fun b hb hc=>by
    refine ⟨hst.fr b hc.lt (.inr fun l hl=>hb (.inr ⟨l,hmj _ _ hl⟩)),?_⟩;rintro (hx | ⟨l,hl⟩)
    ·exact hb (.inl hx)
    ·rcases hst'.new l b hl with ⟨l',hl'⟩ | hge
     ·exact hb (.inr ⟨l',hl'⟩)
     ·have:=hc.lt;omega
   shp:=hst.shp }
 have hjdom:∀ l b,mj l=some b→l<(S (j+1)).length:=fun l b hb=>by have:=(hh.dom l b hb).1;rwa [YA] at this
 have MJ:Mono mj (xAt S ch hd ops.size D j m X) w' m' X w' :=
  {sub:=fun l b hb=>by rw[m'lo l (hjdom l b hb)];exact hb
   cl:=fun b hb hc=>by
    refine ⟨rfl,?_⟩;rintro (hx | ⟨l,hl⟩)
    ·exact hb (.inl (xsub b hx))
    ·by_cases hlt:l<(S (j+1)).length
     ·rw[m'lo l hlt] at hl;exact hb (.inr ⟨l,hl⟩)
     ·rw[m'old l (by omega)] at hl;exact hb (.inl (xlate l b hl (by omega)))
   shp:=fun b c e hb=>⟨c,hb,rfl⟩ }
 have chNew:∀ l,(S j).length≤l→l<(S (j+1)).length→ch j l=true:=fun l h1 h2=>by
  cases hc:ch j l with
  | true=>rfl
  | false =>
   have:=h.nch j hjn l hc;rw[QN h1,QI h2] at this;cases this
 have oCh:∀ l,ch j l=true→oAt S ch ops.size (fun k=>decide (k∈j::D)) l=(S (j+1))[l]? := fun l hc=>by
  have:lastOf (fun k=>decide (k∈j::D)&&ch k l) ops.size=some j:=by
   refine E8 hjn (by simp[hc]) fun k hk hkn=>?_
   cases hck:ch k l with
   | false=>simp
   | true =>
    simp only[WH,decide_eq_false_iff_not,ZD,not_or];refine ⟨by omega,fun hkD=>?_⟩;by_cases h1:k∈pd j
    ·have:=h.pdlt j hjn k h1;omega
    ·by_cases h2:j∈pd k
     ·exact hjD (inv.clos k hkD j h2)
     ·have:=h.un j k hjn hkn (by omega) h1 h2 l hck;rw[h.mine j hjn l hc] at this;cases this
  simp only[oAt,this]
 have oNc:∀ l,ch j l=false→oAt S ch ops.size (fun k=>decide (k∈j::D)) l=oAt S ch ops.size (fun k=>decide (k∈D)) l:=fun l hc=>by
  have:lastOf (fun k=>decide (k∈j::D)&&ch k l) ops.size=lastOf (fun k=>decide (k∈D)&&ch k l) ops.size:=by
   refine JN fun k hk=>?_
   by_cases hkj:k=j
   ·subst hkj;simp[hc]
   ·simp[hkj]
  simp only[oAt,this]
 have oA:∀ l,l<(S (j+1)).length→hd j l=false→oAt S ch ops.size (fun k=>decide (k∈j::D)) l=(S (j+1))[l]? := fun l hl hdl=>by
  cases hc:ch j l with
  | true=>exact oCh l hc
  | false=>rw[oNc l hc,h.oEq hjn inv.inn inv.clos hjD hpj hdl,← h.S_at j (by omega),h.nch j hjn l hc]
 have getA:∀ l o1,l<(S (j+1)).length→hd j l=false→(hAt S ch ops.size fun k=>decide (k∈j::D))[l]? = some o1→(VU (hd j) (S (j+1)))[l]? = some o1:=fun l o1 hl hdl ho1=>by rw[LH (by omega),oA l hl hdl,QI hl] at ho1;rw[J6,QI hl];simpa[hdl] using ho1
 have getB:∀ l o1,ch j l=false→(hAt S ch ops.size fun k=>decide (k∈j::D))[l]? = some o1→(hAt S ch ops.size fun k=>decide (k∈D))[l]? = some o1:=fun l o1 hc ho1=>by
  have hl:l<(S ops.size).length:=by have:=(QH.1 ho1).1;simpa[hAt] using this
  rw[LH hl,oNc l hc] at ho1;rw[LH hl];exact ho1
 have kinds:∀ l,(l<(S (j+1)).length∧hd j l=false)∨(l<(S j).length∧hd j l=true∧ch j l=false)∨((S (j+1)).length≤l∧ch j l=false):=fun l=>by
  by_cases hl:l<(S (j+1)).length
  ·cases hdl:hd j l with
   | false=>exact .inl ⟨hl,rfl⟩
   | true =>
    have hc:ch j l=false:=by
     cases hc:ch j l with
     | false=>rfl
     | true=>rw[h.mine j hjn l hc] at hdl;cases hdl
    by_cases hl2:l<(S j).length
    ·exact .inr (.inl ⟨hl2,rfl,hc⟩)
    ·rw[chNew l (by omega) hl] at hc;cases hc
  ·refine .inr (.inr ⟨by omega,?_⟩);cases hc:ch j l with
   | false=>rfl
   | true=>have:=h.chl j hjn l hc;omega
 have hheap:HRel m' X (hAt S ch ops.size fun k=>decide (k∈j::D)) w':=by
  refine ⟨fun b hb=>Z6 (inv.heap.xb b hb) hst.size,?_,?_,?_,?_,inv.heap.gl.mono MM⟩
  ·intro l b hb;by_cases hr:(S j).length≤l∧l<(S (j+1)).length
   ·rw[m'new l hr.1 hr.2] at hb;have:=hh.dom l b hb;exact ⟨by simp[hAt];omega,this.2⟩
   ·rw[m'old l hr] at hb;have:=inv.heap.dom l b hb;refine ⟨by simpa[hAt] using this.1,Z6 this.2 hst.size⟩
  ·intro l b o1 hb ho1 hv1;rcases kinds l with ⟨h1,h2⟩ | ⟨h1,h2,h3⟩ | ⟨h1,h3⟩
   ·rw[m'lo l h1] at hb;exact fun hx=>hh.own l b o1 hb (getA l o1 h1 h2 ho1) hv1 (xsub b hx)
   ·rw[m'old l (by omega)] at hb;exact inv.heap.own l b o1 hb (getB l o1 h3 ho1) hv1
   ·rw[m'old l (by omega)] at hb;exact inv.heap.own l b o1 hb (getB l o1 h3 ho1) hv1
  ·intro l l' b o1 hb hb' ho1 hv1;rcases kinds l' with ⟨h1,h2⟩ | ⟨h1,h2,h3⟩ | ⟨h1,h3⟩
   ·rw[m'lo l' h1] at hb';have hg:=getA l' o1 h1 h2 ho1;by_cases hl:l<(S (j+1)).length
    ·rw[m'lo l hl] at hb;exact hh.inj l l' b o1 hb hb' hg hv1
    ·rw[m'old l (by omega)] at hb;exact absurd (xlate l b hb (by omega)) (hh.own l' b o1 hb' hg hv1)
   ·rw[m'old l' (by omega)] at hb';have hg:=getB l' o1 h3 ho1;by_cases hr:(S j).length≤l∧l<(S (j+1)).length
    ·exfalso;rw[m'new l hr.1 hr.2] at hb;have hlo:(S (j+1))[l]? = some (S (j+1))[l]:=QI hr.2;have hlive:=h.made j hjn l _ hr.1 hlo;have hdl:=h.mine j hjn l (chNew l hr.1 hr.2);exact hh.own l b _ hb (by rw[J6,hlo];simp[hdl]) hlive (.inr ⟨l',hb',.inr ⟨h2,o1,hg,hv1⟩⟩)
    ·rw[m'old l hr] at hb;exact inv.heap.inj l l' b o1 hb hb' hg hv1
   ·rw[m'old l' (by omega)] at hb';have hg:=getB l' o1 h3 ho1;by_cases hr:(S j).length≤l∧l<(S (j+1)).length
    ·omega
    ·rw[m'old l hr] at hb;exact inv.heap.inj l l' b o1 hb hb' hg hv1
  ·intro l o1 ho1;rcases kinds l with ⟨h1,h2⟩ | ⟨h1,h2,h3⟩ | ⟨h1,h3⟩
   ·have hr:=hh.obj l o1 (getA l o1 h1 h2 ho1);rw[m'lo l h1];cases hb:mj l with
    | none=>rw[hb] at hr;cases o1 <;> simp[ORel] at hr ⊢
    | some b=>rw[hb] at hr;exact ORel.mono MJ rfl hr
   ·have hg:=getB l o1 h3 ho1;have hr:=inv.heap.obj l o1 hg;rw[m'old l (by omega)];cases hb:m l with
    | none=>rw[hb] at hr;cases o1 <;> simp[ORel] at hr ⊢
    | some b =>
     rw[hb] at hr;by_cases hv1:o1.live
     ·exact ORel.mono MM (hst.fr b (inv.heap.dom l b hb).2 (.inl (.inr ⟨l,hb,.inr ⟨h2,o1,hg,hv1⟩⟩))) hr
     ·cases o1 <;> simp[AObj.live] at hv1
      simp[ORel]
   ·have hg:=getB l o1 h3 ho1;have hr:=inv.heap.obj l o1 hg;rw[m'old l (by omega)];cases hb:m l with
    | none=>rw[hb] at hr;cases o1 <;> simp[ORel] at hr ⊢
    | some b=>rw[hb] at hr;exact ORel.mono MM (hst.fr b (inv.heap.dom l b hb).2 (.inl (xlate l b hb (by omega)))) hr
 have hvr:VRel m' X w' (r j) c:=VRel.mono MJ _ _ hv;have hok':=hok;unfold GU at hok';simp only[QD,decide_eq_true_eq,Q1] at hok';obtain ⟨⟨⟨⟨hnd,hvn⟩,hlt⟩,hvlt⟩,hgs⟩:=hok';have hol:ops.toList[j]? = some o:=by simpa using ho
 have getD_put:∀ u,(ac.put o.dst c).tmps.getD u Go.undef=if o.dst=some u then c else ac.tmps.getD u Go.undef:=by
  intro u;cases hd0:o.dst with
  | none=>simp[Act.put]
  | some t =>
   have htN:t<ac.tmps.size:=by rw[inv.size];have:=hlt t (X3.2 ⟨o,QZ hol,hd0⟩);simpa using this
   simp only[Act.put,QV,Option.some.injEq];by_cases hu:t=u
   ·subst hu;simp[htN]
   ·rw[if_neg hu,W2 hu]
 have hdefs:DRel m' X en w' (ac.put o.dst c).defers:=by have:=inv.defs.step hst';cases hd0:o.dst <;> simpa[Act.put] using this
 refine ⟨m',⟨?_,?_,?_,?_,?_,hdefs,hheap,?_,YR inv.entry hst.size⟩,hst'⟩
 ·intro k hk;rcases ZD.1 hk with rfl | hk
  ·exact hjn
  ·exact inv.inn k hk
 ·intro k hk e he;rcases ZD.1 hk with rfl | hk
  ·exact WU _ (hpj e he)
  ·exact WU _ (inv.clos k hk e he)
 ·cases hd0:o.dst <;> simp[Act.put,inv.size]
 ·intro i t hi;rw[getD_put];by_cases hdi:i0.dst=some i
  ·have hot:o.dst=some t:=by
    rw[hdst] at hdi;cases hd0:o.dst with
    | none=>rw[hd0] at hdi;simp[KA] at hdi
    | some u =>
     rw[hd0] at hdi;simp only[KA] at hdi;have:=Y9 hdi;rw[hi] at this;cases this;rfl
   rw[if_pos hot];have:lastOf (fun k=>decide (k∈j::D)&&dstI is k i) ops.size=some j:=by
    refine E8 hjn (by simp[dstI,hi0,hdi]) fun k hk hkn=>?_
    cases hck:dstI is k i with
    | false=>simp
    | true =>
     simp only[WH,decide_eq_false_iff_not,ZD,not_or];refine ⟨by omega,fun hkD=>?_⟩;have hik:is[k]? = some is[k]:=QI (by omega);have hdk:is[k].dst=some i:=by simpa[dstI,hik] using hck
     rcases h.vrs j k i0 _ i hi0 hik (by omega) hdk (.inr hdi) with h1 | h1
     ·have:=h.pdlt j hjn k h1;omega
     ·exact hjD (inv.clos k hkD j h1)
   simp only[vAt,this];exact hvr
  ·have hot:o.dst≠some t:=by
    intro hot;apply hdi;rw[hdst,hot];simp only[KA];cases hx:fx.vars.idxOf? t with
    | none=>exact absurd (QZ hi) (U3 hx)
    | some i' =>
     have h1:=Y9 hx;have h2:i<fx.vars.length:=(QH.1 hi).1;rw[(List.getElem?_inj h2 hvn).1 (hi.trans h1.symm)]
   rw[if_neg hot];have:lastOf (fun k=>decide (k∈j::D)&&dstI is k i) ops.size=lastOf (fun k=>decide (k∈D)&&dstI is k i) ops.size:=by
    refine JN fun k hk=>?_
    by_cases hkj:k=j
    ·subst hkj;simp[dstI,hi0,hdi]
    ·simp[hkj]
   simp only[vAt,this];exact VRel.mono MM _ _ (inv.vars i t hi)
 ·intro k hk t hkt htv;rw[getD_put];rcases ZD.1 hk with rfl | hkD
  ·have:o.dst=some t:=by rw[hol] at hkt;simpa using hkt
   rw[if_pos this];exact hvr
  ·have:o.dst≠some t:=by
    intro hot;have hkj:=Qdv htv ops.toList hnd k j hkt (by rw[hol];simpa using hot);rw[hkj] at hkD;exact hjD hkD
   rw[if_neg this];exact VRel.mono MM _ _ (inv.tmps k hkD t hkt htv)
 ·intro l hl hno;have h1:¬ ((S j).length≤l∧l<(S (j+1)).length):=hno j (by simp);rw[m'old l h1];exact inv.fresh l hl fun k hk=>hno k (by simp[hk])
theorem Free.V_locs (h:Free P fx ops is V r S pd ch hd) (hlen:is.length=ops.size) (hv0:QO (S 0).length (V 0)=true):∀ j,j≤ops.size→QO (S j).length (V j)=true
 | 0,_=>hv0
 | j + 1,hj=>by
  have ih:=Free.V_locs h hlen hv0 j (by omega);rw[h.Vs j _ (QI (show j<is.length by omega))];have h1:=XN (h.le j (by omega)) _ ih;unfold setD;split
  ·rename_i x _;generalize V j=vs at h1;have h2:=h.rl j (by omega);clear ih;revert x
   induction vs with
   | nil=>intro x _;rfl
   | cons v vs ihv =>
    intro x hx;simp only[QO,QD] at h1;cases x with
    | zero=>simp only[List.set_cons_zero,QO,QD];exact ⟨h2,h1.2⟩
    | succ x =>
     simp only[List.set_cons_succ,QO,QD];refine ⟨h1.1,?_⟩;have:∀ (vs:List AV) (x:Nat),QO (S (j+1)).length vs=true→QO (S (j+1)).length (vs.set x (r j))=true:=by
      intro vs
      induction vs with
      | nil=>intro x _;rfl
      | cons v vs ih2 =>
       intro x hvs;simp only[QO,QD] at hvs;cases x with
       | zero=>simp only[List.set_cons_zero,QO,QD];exact ⟨h2,hvs.2⟩
       | succ x=>simp only[List.set_cons_succ,QO,QD];exact ⟨hvs.1,ih2 x hvs.2⟩
     exact this vs x h1.2
  ·exact h1
theorem RD_go {ro:Option Nat} (h:Free P fx ops is V r S pd ch hd) (hok:GU fx.vars fx.N ops.toList=true) (hc:HK P fx.vars (ops.toList.map (·.dst)) ops.toList=some is)
  (hcl0:∀ (l:Nat) o,(S 0)[l]? = some o→Z3 (S 0).length o=true) (hv0:QO (S 0).length (V 0)=true) (hn0:fx.n0≤(S 0).length) {Qc:Exit→Act→World→Prop} :
  ∀ (l:List Nat) (D:List Nat) (m:LM) (w:World) (ac:Act),C7 (V9 ops) ops.size D l→Inv fx ops is V r S pd ch X en D m ac w →
  (∀ m' ac' w',SRel fx m' X en ⟨V ops.size,S ops.size⟩ ac' w'→Step fx.n0 m X w m' w'→Qc .normal ac' w')→wpOpsIn (wfen ro) 0 P ops Qc l ac w
 | [], D,m,w,ac,hs,inv,hk=>by
  cases hs with
  | nil hall =>
   simp only[wpOpsIn];obtain ⟨hlen,_⟩:=h.size hc;refine hk m ac w ⟨inv.size,?_,inv.defs,?_,YR hn0 (h.le' (QF _) (QG _)),inv.entry⟩ (Step.refl _ _ _ _)
   ·intro i t hi;have hv:=inv.vars i t hi;have hil:i<fx.vars.length:=(QH.1 hi).1;have e1:vAt is r (V 0) ops.size (fun k=>decide (k∈D)) i=vAt is r (V 0) ops.size (fun k=>decide (k<ops.size)) i:=by
     have:lastOf (fun k=>decide (k∈D)&&dstI is k i) ops.size=lastOf (fun k=>decide (k<ops.size)&&dstI is k i) ops.size:=JN fun k hk=>by simp[hk,hall k hk]
     simp only[vAt,this]
    rw[e1,← (h.V_at hlen ops.size (QG _)).2 i hil] at hv;exact hv
   ·have e:(hAt S ch ops.size fun k=>decide (k∈D))=S ops.size:=by
     apply Z1;intro l;by_cases hl:l<(S ops.size).length
     ·rw[LH hl];have:oAt S ch ops.size (fun k=>decide (k∈D)) l=oAt S ch ops.size (fun k=>decide (k<ops.size)) l:=by
       have:lastOf (fun k=>decide (k∈D)&&ch k l) ops.size=lastOf (fun k=>decide (k<ops.size)&&ch k l) ops.size:=JN fun k hk=>by simp[hk,hall k hk]
       simp only[oAt,this]
      rw[this,← h.S_at ops.size (QG _),QI hl];rfl
     ·rw[QN (by simp[hAt];omega),QN (by omega)]
    rw[← e];exact inv.heap
 | j :: l,D,m,w,ac,hs,inv,hk=>by
  cases hs with
  | cons hjn hjD hdir hs' =>
  obtain ⟨hlen,hcomp⟩:=h.size hc;have hoj:ops[j]? = some ops[j]:=Q7 hjn;obtain ⟨i,hij,hi⟩:=hcomp j _ hoj;generalize ops[j]=o at hoj hi;have hpj:∀ e∈pd j,e∈D:=fun e he=>by
   rcases h.pddir j hjn e he with h1 | ⟨x,hx,h1⟩
   ·exact hdir e h1
   ·exact inv.clos x (hdir x hx) e h1
  simp only[wpOpsIn,hoj];obtain ⟨hdst,hgd⟩:=R1 hi;have hol:ops.toList[j]? = some o:=by simpa using hoj
  have hrj:=inv.restrict h hcl0 hjn hjD hpj;have hgdr:∀ b,gdOk ((List.range j).map r) i.gd=some b→Region.wanted o (yielded ops ac.tmps)=b:=by
   intro b hb;unfold Region.wanted;rw[hgd] at hb;cases hg:o.guard with
   | none=>rw[hg] at hb;simp[gdOk] at hb;simp[hb]
   | some kw =>
    obtain ⟨k,want⟩:=kw;have hkp:=h.gds j i k want hij (by rw[hgd];exact hg);have hkD:=hpj k hkp;have hkj:=h.pdlt j hjn k hkp;rw[hg] at hb;simp only[gdOk] at hb;have e1:((List.range j).map r).getD k .undef=r k:=by simp[List.getD,hkj]
    rw[e1] at hb;split at hb
    ·rename_i bb hbb;cases hb;have hok':=hok;unfold GU at hok';simp only[QD,decide_eq_true_eq,Q1] at hok';obtain ⟨⟨⟨⟨_,_⟩,hlt⟩,_⟩,hgs⟩:=hok';have h1:=hgs o (QZ hol);rw[hg] at h1;simp only at h1;split at h1
     ·rename_i t htk;have htv:t∉fx.vars:=by simpa using h1
      have hr:=inv.tmps k hkD t htk htv;rw[hbb] at hr;have hv:=hr.bool;cases hok2:ops.toList[k]? with
      | none=>rw[hok2] at htk;simp at htk
      | some ok =>
       rw[hok2] at htk;simp at htk;have htN:t<ac.tmps.size:=by rw[inv.size];have:=hlt t (X3.2 ⟨ok,QZ hok2,htk⟩);simpa using this
       have e2:ac.tmps[t]? = some (.bool bb):=by rw[QV,Q7 htN] at hv;rw[Q7 htN];simpa using hv
       have e3:ops[k]? = some ok:=by simpa using hok2
       simp only[yielded,e3,Option.bind_some,htk,e2];cases bb <;> cases want <;> rfl
     ·cases h1
    ·rename_i us hbb;cases hb;have hok':=hok;unfold GU at hok';simp only[QD,decide_eq_true_eq,Q1] at hok';obtain ⟨⟨⟨⟨_,_⟩,hlt⟩,_⟩,hgs⟩:=hok';have h1:=hgs o (QZ hol);rw[hg] at h1;simp only at h1;split at h1
     ·rename_i t htk;have htv:t∉fx.vars:=by simpa using h1
      have hr:=inv.tmps k hkD t htk htv;rw[hbb] at hr;simp only[VRel] at hr;obtain ⟨vs,hv,_⟩:=hr;cases hok2:ops.toList[k]? with
      | none=>rw[hok2] at htk;simp at htk
      | some ok =>
       rw[hok2] at htk;simp at htk;have htN:t<ac.tmps.size:=by rw[inv.size];have:=hlt t (X3.2 ⟨ok,QZ hok2,htk⟩);simpa using this
       have e2:ac.tmps[t]? = some (.tuple vs.toArray):=by rw[QV,Q7 htN] at hv;rw[Q7 htN];simpa using hv
       have e3:ops[k]? = some ok:=by simpa using hok2
       simp only[yielded,e3,Option.bind_some,htk,e2];cases want <;> rfl
     ·cases h1
    ·cases hb
  have hargs:∀ (xs:List Operand),(∀ x∈xs.map (XA fx.vars (ops.toList.map (·.dst))),x∈i.args) →
    QK (mAt S j m) (xAt S ch hd ops.size D j m X) w ((xs.map (XA fx.vars (ops.toList.map (·.dst)))).map (WY (V j) ((List.range j).map r))) (xs.map ac.eval):=by
   intro xs
   induction xs with
   | nil=>intro _;simp[QK]
   | cons x xs ih =>
    intro hall;simp only[Q0,QK];refine ⟨?_,ih fun y hy=>hall y (by simp only[Q0];exact WU _ hy)⟩;have hx:=hall (XA fx.vars (ops.toList.map (·.dst)) x) (by simp);have less:∀ a v,QR (S j).length a=true→VRel m X w a v→VRel (mAt S j m) (xAt S ch hd ops.size D j m X) w a v :=
     fun a v=>VRel.less (fun l hl=>by simp[mAt,hl]) (fun b hb=>Qa7 hb) a v
    cases x with
    | tmp t =>
     simp only[XA,Act.eval] at hx ⊢;split at hx
     ·rename_i x hxi;simp only[WY];have h1:=Y9 hxi;have h2:x<fx.vars.length:=(QH.1 h1).1;rw[(h.V_at hlen j (by omega)).2 x h2];refine less _ _ ?_ ?_
      ·rw[← (h.V_at hlen j (by omega)).2 x h2];exact XO (h.V_locs hlen hv0 j (by omega)) x
      ·rw[← h.vEq hlen hij inv.clos hjD hpj (.inl hx)];exact inv.vars x t h1
     ·rename_i hxi;split at hx
      ·rename_i k hki;simp only[WY];have hkp:=h.rds j i hij k hx;have hkj:=h.pdlt j hjn k hkp;have e1:((List.range j).map r).getD k .undef=r k:=by simp[List.getD,hkj]
       rw[e1];refine less _ _ (Y8 (h.le' (show k+1≤j by omega) (by omega)) _ (h.rl k (by omega))) ?_;have:=Y9 hki;simp only[ZR,QA] at this;obtain ⟨ok,hok2,hd2⟩:=this;exact inv.tmps k (hpj k hkp) t (by rw[hok2];simpa using hd2) (U3 hxi)
      ·rename_i hki;simp[WY,VRel]
    | const v=>simp only[XA,WY,Act.eval];exact UZ v
    | global g=>simp only[XA,WY,Act.eval];exact Qat g _ (inv.heap.gl.less fun b hb=>Qa7 hb)
    | func f=>simp only[XA,WY,Act.eval,VRel];exact ⟨[],rfl,by simp[QK]⟩
  have next:∀ (mj:LM) (w':World) (c:Value),HRel mj (xAt S ch hd ops.size D j m X) (VU (hd j) (S (j+1))) w'→Step (S j).length (mAt S j m) (xAt S ch hd ops.size D j m X) w mj w' →
    VRel mj (xAt S ch hd ops.size D j m X) w' (r j) c→wpOpsIn (wfen ro) 0 P ops Qc l (ac.put o.dst c) w':=by
   intro mj w' c hh hst hv;obtain ⟨m',inv',hst'⟩:=inv.step h hlen hok hn0 hjn hjD hpj hoj hij hdst hh hst hv;exact RD_go h hok hc hcl0 hv0 hn0 l (j::D) m' w' _ hs' inv' fun m2 ac2 w2 h1 h2=>hk m2 ac2 w2 h1 (hst'.trans h2)
  have hop:=h.op j i hij;split at hop
  ·exact hop.elim
  ·rename_i hg;rw[hgdr _ hg];simp only[QT,if_false];refine ⟨fun _ _=>trivial,next _ w Go.undef ?_ (Step.refl _ _ _ _) ?_⟩
   ·rw[hop.2];exact hrj
   ·rw[hop.1];simp[VRel,QK,Go.undef]
  ·rename_i hg;rw[hgdr _ hg];simp only[if_true];refine ⟨fun _ _=>trivial,?_⟩;have hHl:(VU (hd j) (S j)).length=(S j).length:=YA _ _;generalize has:i.args.map (WY (V j) ((List.range j).map r))=αs at hop;cases hiop:i.op with
   | prim io =>
    rw[hiop] at hop
    dsimp only at hop
    obtain ⟨os',hco,hia,_,_⟩:=VC hi hiop;have hrel:=hargs os' (fun x hx=>by rw[hia];exact hx);rw[← hia,has] at hrel;obtain ⟨nx,w',mj,hrun,hres,hh,hst⟩:=FV hco hrj hrel hop;rw[hHl] at hst;rw[Oper.semAt_eq _ _ _ (YY hco),hrun];rcases hres with ⟨c,rfl,hv⟩ | ⟨rfl,hr⟩
    ·exact next mj w' c hh hst hv
    ·exact next mj w' Go.undef hh hst (by rw[hr];simp[VRel])
   | call =>
    rw[hiop] at hop;cases αs with
    | nil=>exact hop.elim
    | cons fv αs =>
    dsimp only at hop
    obtain ⟨f,args,at_,hop',hia,_,_⟩:=DR hi hiop;have hrel:=hargs (f::args.toList) (fun x hx=>by rw[hia];exact hx);rw[← hia,has] at hrel;obtain ⟨fc,us,he,hfv,hrest⟩:=hrel.cons;simp only[Q0,List.cons.injEq] at he;obtain ⟨rfl,rfl⟩:=he;have hnd:∀ c,o.op≠.defer c:=by rw[hop'];simp
    rw[Oper.semAt_eq _ _ _ hnd];have hex:execOp ac.eval o=(do let d ← resolve ac.eval { callee:=.value f,args,argTypes:=at_ } o.type;invoke d.target d.args):=by simp only[execOp,hop']
    rw[hex];unfold X0 at hop;split at hop
    ·rename_i g cap;simp only[VRel] at hfv;obtain ⟨vs,hfe,hcap⟩:=hfv;have hrun:(do let d ← resolve ac.eval { callee:=.value f,args,argTypes:=at_ } o.type;invoke d.target d.args:Sem Next).run P w=.ok (.enter g ((args.toList.map ac.eval)++vs).toArray) w:=by
      simp only[resolve,hfe,Deferred.ofValue,Sem.run_bind,Sem.run_pure,Result.andThen_ok,invoke];rw[hop.1];congr 2;apply Array.ext';simp
     rw[hrun];refine ⟨by simp[wfen,Fence.wide],?_⟩;have hcall:=hop.2 _ _ w _ (QK.append hrest hcap) hrj;refine CallsIn.mono (F:=wfen ro) (n:=0) hcall ?_;rintro e w' ⟨c,r',σ',mj,rfl,⟨rfl,rfl⟩,hv,hh,hst,_⟩;rw[hHl] at hst;exact next mj w' c hh hst hv
    ·rename_i g first
     simp only[VRel] at hfv;obtain ⟨vs,hfe,hcap⟩:=hfv;have hrun:(do let d ← resolve ac.eval { callee:=.value f,args,argTypes:=at_ } o.type;invoke d.target d.args:Sem Next).run P w=.ok (.enter g (vs++(args.toList.map ac.eval)).toArray) w:=by simp only[resolve,hfe,Deferred.ofValue,Sem.run_bind,Sem.run_pure,Result.andThen_ok,invoke];rw[hop.1];congr 2;apply Array.ext';simp
     rw[hrun];refine ⟨by simp[wfen,Fence.wide],?_⟩;have hcall:=hop.2 _ _ w _ (QK.append hcap hrest) hrj;refine CallsIn.mono (F:=wfen ro) (n:=0) hcall ?_;rintro e w' ⟨c,r',σ',mj,rfl,⟨rfl,rfl⟩,hv,hh,hst,_⟩;rw[hHl] at hst;exact next mj w' c hh hst hv
    ·rename_i lc;simp only[VRel] at hfv;obtain ⟨b,hb,hfe⟩:=hfv;obtain ⟨L,hL,hsz,hround⟩:=hop _ _ w _ b hb hrest hrj;have hrun:(do let d ← resolve ac.eval { callee:=.value f,args,argTypes:=at_ } o.type;invoke d.target d.args:Sem Next).run P w=.ok (.round b L.fn ((L.params.zip (args.toList.map ac.eval).toArray).foldl (fun tmps (t,a)=>tmps.setIfInBounds t a) L.tmps) L.assign L.body) w:=by
      simp only[resolve,hfe,Deferred.ofValue,Sem.run_bind,Sem.run_pure,Result.andThen_ok,invoke];have e:#[]++args.map ac.eval=(args.toList.map ac.eval).toArray:=by apply Array.ext';simp
      rw[e];exact run_yield hL (by simpa using hsz)
     rw[hrun];refine ⟨by simp[wfen,Fence.wide],?_⟩;refine RoundIn.mono (F:=wfen ro) (n:=0) hround ?_;rintro e w' ⟨c,r',σ',mj,rfl,⟨rfl,rfl⟩,hv,hh,hst,_⟩;rw[hHl] at hst;exact next mj w' c hh hst hv
    ·exact hop.elim
end Go.Proofs.YtgkidpolomhghaaGreatDoor.AM
namespace Go.Proofs.YtgkidpolomhghaaGreatDoor.AM
variable [Dr]
open Go
variable {P:Program} {fx:Fx} {m:LM} {X:Nat→Prop} {en:En} {w:World} {s:St} {Q:Exit→St→Prop}
theorem SRel.drew {ac:Act} (h:SRel fx m X en s ac w):SRel fx m X en s ac w.drew :=
 have hs:Step s.heap.length m X w m w.drew:=Step.of_heap rfl rfl rfl rfl (XE _)
 h.of_heap (h.heap.of_heap rfl) hs (QG _)
theorem SRel.vals_locs {ac:Act} (h:SRel fx m X en s ac w) (hl:s.vals.length≤fx.vars.length):QO s.heap.length s.vals=true:=by
 have key:∀ (vs:List AV) (n:Nat),(∀ i,i<vs.length→QR n (vs.getD i .undef)=true)→QO n vs=true:=by
  intro vs n
  induction vs with
  | nil=>intro _;rfl
  | cons v vs ih =>
   intro hall;simp only[QO,QD];exact ⟨by simpa[List.getD] using hall 0 (by simp),ih fun i hi=>by simpa[List.getD] using hall (i+1) (by simp;omega)⟩
 refine key _ _ fun i hi=>?_
 have hlt:i<fx.vars.length:=by omega
 exact VRel.locs (fun l b hb=>(h.heap.dom l b hb).1) _ _ (h.vars i fx.vars[i] (QI hlt))
theorem PG {id:Nat} {ops:Array Oper} {is:List Ins} {V:Nat→List AV} {r:Nat→AV} {S:Nat→List AObj} {pd:Nat→List Nat} {ch hd:Nat→Nat→Bool} (hmix:P.follows .mixedOrders=true)
  (hc:VY P fx.vars fx.N ops=some is) (hF:Free P fx ops is V r S pd ch hd) (hV:V 0=s.vals) (hS:S 0=s.heap) (hQ:Q .normal ⟨V ops.size,S ops.size⟩):W P fx (.region id ops true) s Q:=by
 intro m X en ac w hs hr;unfold VY at hc;split at hc
 ·rename_i hok;refine wpIn_region_draw fun t=>?_
  have hsch:Region.schedule (P.follows .mixedOrders) ops t=Region.linearise .any ops t:=by simp[Region.schedule,hmix]
  rw[hsch];have hs':SRel fx m X en s ac w.drew:=hs.drew;have hst:Step fx.n0 m X w m w.drew:=Step.of_heap rfl rfl rfl rfl (XE _);have hlen:=(hF.size hc).1;have hvl:s.vals.length≤fx.vars.length:=by rw[← hV,hF.V0];exact QG _
  refine RD_go (X:=X) (en:=en) (ro:=fx.r.bind m) hF hok hc ?_ ?_ ?_ _ [] m w.drew ac (FR hF.back t) ?_ ?_
  ·intro l o ho;rw[hS] at ho ⊢;exact hs.heap.closed l o ho
  ·rw[hS,hV];exact hs.vals_locs hvl
  ·rw[hS];exact hs.base
  ·have hnone:∀ (p:Nat→Bool),(∀ k,p k=false)→lastOf p ops.size=none:=fun p hp=>by
    rw[F1 (j:=0) (QF _) fun k _ _=>hp k];rfl
   refine ⟨by simp,by simp,hs'.size,?_,by simp,hs'.defs,?_,?_,hs'.entry⟩
   ·intro i t hi;have:vAt is r (V 0) ops.size (fun k=>decide (k∈([]:List Nat))) i=(V 0).getD i .undef:=by
     simp only[vAt];rw[hnone _ (by simp)]
    rw[this,hV];exact hs'.vars i t hi
   · -- the heap at the start: what is made later is not there yet
    have hle:=hF.le' (QF _) (QG ops.size);have hget:∀ (l:Nat) (o:AObj),(hAt S ch ops.size fun k=>decide (k∈([]:List Nat)))[l]? = some o→o.live→(S 0)[l]? = some o:=by
     intro l o ho hv;have hl:l<(S ops.size).length:=by have:=(QH.1 ho).1;simpa[hAt] using this
     rw[LH hl] at ho;have:oAt S ch ops.size (fun k=>decide (k∈([]:List Nat))) l=(S 0)[l]? := by simp only[oAt];rw[hnone _ (by simp)]
     rw[this] at ho;cases h0:(S 0)[l]? with
     | none=>rw[h0] at ho;simp at ho;subst ho;exact hv.elim
     | some o'=>rw[h0] at ho;simpa using ho
    have hh:=hs'.heap;rw[hS] at hget hle;refine ⟨hh.xb,fun l b hb=>?_,?_,?_,?_,hh.gl⟩
    ·have:=hh.dom l b hb;exact ⟨by simp[hAt];omega,this.2⟩
    ·intro l b o hb ho hv;exact hh.own l b o hb (hget l o ho hv) hv
    ·intro l l' b o hb hb' ho hv;exact hh.inj l l' b o hb hb' (hget l' o ho hv) hv
    ·intro l o ho;by_cases hv:o.live
     ·exact hh.obj l o (hget l o ho hv)
     ·cases o <;> simp[AObj.live] at hv
      simp[ORel]
   ·intro l hl _;cases hml:m l with
    | none=>rfl
    | some b=>have:=(hs.heap.dom l b hml).1;rw[hS] at hl;omega
  ·intro m' ac' w' h1 h2;exact ⟨_,m',hQ,h1,hst.trans h2⟩
 ·cases hc
def JM (vars:List Nat):List Nat→List AV→List AV→List AV
 | t::ts,a::αs,vals=>JM vars ts αs (setD (vars.idxOf? t) vals a)
 | _,_,vals=>vals
theorem TD {vars:List Nat} (hvn:vars.Nodup):∀ (ts:List Nat) (αs:List AV) (cs:List Value) (vals:List AV) (tmps:Array Value),αs.length=ts.length→QK m X w αs cs→(∀ t∈ts,t<tmps.size)→(∀ t∈ts,t∈vars)→vals.length≤vars.length→ARel m X w vars vals tmps →
  ARel m X w vars (JM vars ts αs vals) ((ts.zip cs).foldl (fun tmps (t,a)=>tmps.setIfInBounds t a) tmps)∧((ts.zip cs).foldl (fun tmps (t,a)=>tmps.setIfInBounds t a) tmps).size=tmps.size∧(JM vars ts αs vals).length=vals.length
 | [],αs,cs,vals,tmps,hl,ha,ht,hv,hlen,har=>by have:αs=[]:=ZT (by simpa using hl);subst this;simpa[JM] using har
 | t::ts,[],cs,vals,tmps,hl,ha,ht,hv,hlen,har=>by simp at hl
 | t :: ts,a::αs,cs,vals,tmps,hl,ha,ht,hv,hlen,har=>by
  obtain ⟨c,cs',rfl,h1,h2⟩:=ha.cons;simp only[JM,List.zip_cons_cons,List.foldl_cons];have htN:=ht t (by simp);have har':ARel m X w vars (setD (vars.idxOf? t) vals a) (tmps.setIfInBounds t c):=by
   intro k u hk;have getD_set:∀ u,(tmps.setIfInBounds t c).getD u Go.undef=if u=t then c else tmps.getD u Go.undef:=by
    intro u;simp only[QV];by_cases hu:u=t
    ·subst hu;simp[htN]
    ·rw[if_neg hu,W2 (fun h=>hu h.symm)]
   rw[getD_set];cases hi:vars.idxOf? t with
   | none=>exact absurd (hv t (by simp)) (U3 hi)
   | some i =>
    have hit:=Y9 hi;simp only[setD];by_cases hki:k=i
    ·subst hki;rw[hit] at hk;cases hk;rw[if_pos rfl];rcases ZB k vals.length with h | h
     ·simp[List.getD,h];exact h1
     ·rw[KE h];simp[List.getD,QN h,VRel]
    ·have hut:u≠t:=by
      rintro rfl;have hkl:k<vars.length:=(QH.1 hk).1;exact hki ((List.getElem?_inj hkl hvn).1 (hk.trans hit.symm))
     rw[if_neg hut];have:(vals.set i a).getD k .undef=vals.getD k .undef:=by simp only[List.getD];rw[QU (fun h=>hki h.symm)]
     rw[this];exact har k u hk
  have hlen':(setD (vars.idxOf? t) vals a).length=vals.length:=by unfold setD;split <;> simp
  obtain ⟨g1,g2,g3⟩:=TD hvn ts αs cs' _ _ (by simpa using hl) h2 (fun u hu=>by simpa using ht u (by simp[hu])) (fun u hu=>hv u (by simp[hu])) (by rw[hlen'];exact hlen) har';exact ⟨g1,by rw[g2];simp,by rw[g3,hlen']⟩
def setLoop (σ:List AObj) (l:Nat) (r:XC) (st:LoopState) (p:Option Code):List AObj:=σ.set l (.loop { r with state:=st,pending:=p })
def GQ:Exit→Option Code
 | .ret=>some .ret
 | .exit i=>some (.exit i)
 | .goto t=>some (.goto t)
 | _=>none
theorem HRel.loop (h:HRel m X s.heap w) {l b:Nat} {r:XC} (hm:m l=some b) (hl:s.heap[l]? = some (.loop r)):∃ (tmps:Array Value) (d fi:Nat),tmps.size=r.ntmps∧ARel m X w r.vars r.vals tmps ∧
  w.heap[b]? = some (.loop { state:=r.state,pending:=r.pending,fn:=fi,tmps,params:=r.params.toArray,assign:=r.assign,body:=r.body,defers:=d })∧r.vals.length≤r.vars.length∧∀ f,r.fi=some f→fi=f:=by
 have:=h.obj l _ hl;rw[hm] at this;simpa only[ORel] using this
theorem HRel.setLoop {σ:List AObj} (h:HRel m X σ w) {l b:Nat} {r:XC} (hm:m l=some b) (hl:σ[l]? = some (.loop r)) {L:Loop} (hL:w.heap[b]? = some (.loop L)) (st:LoopState) (p:Option Code) :
  HRel m X (setLoop σ l r st p) (w.putObj b (.loop { L with state:=st,pending:=p }))∧Step σ.length m X w m (w.putObj b (.loop { L with state:=st,pending:=p }))∧Mono m X w m X (w.putObj b (.loop { L with state:=st,pending:=p })):=by
 have hr:=h.obj l _ hl;rw[hm] at hr;simp only[ORel] at hr;obtain ⟨tmps,d,fi,h1,h2,h3,h4⟩:=hr;rw[h3] at hL;cases hL;refine h.turn hm hl trivial (YZ.obj w _ h3 (by simp)) fun hmn=>?_
 simp only[ORel];exact ⟨tmps,d,fi,h1,h2.mono hmn,World.putObj_heap_same (lt_of_heap h3),h4⟩
theorem N5 {l:Nat} {σ:List AObj} {r:XC} {args:List AV} {Q:AV→List AObj→Prop} (hl:σ[l]? = some (.loop r)) (hst:r.state=.ready) (hargs:args.length=r.params.length) (hvn:r.vars.Nodup) (hpv:∀ t∈r.params,t∈r.vars) (hpN:∀ t∈r.params,t<r.ntmps)
  (h : W P ⟨r.vars,r.ntmps,some l,σ.length⟩ r.assign ⟨JM r.vars r.params args r.vals,σ⟩ fun e s1=>match e with
   | .normal=>∃ r1,s1.heap[l]? = some (.loop r1)∧r1.state=.ready ∧
     W P ⟨r.vars,r.ntmps,some l,σ.length⟩ r.body ⟨s1.vals,setLoop s1.heap l r1 .busy r1.pending⟩ fun e s2=>match e with
      | .panic _ | .outgrown=>False
      | e=>∃ r2,s2.heap[l]? = some (.loop r2)∧Q (.b (GQ e).isNone) (setLoop s2.heap l r2 (if (GQ e).isNone then .ready else .done) (GQ e))
   | _=>False):YC P l args σ Q:=by
 intro m X w cargs b hb ha hh;have hrl:=hh.obj l _ hl;rw[hb] at hrl;simp only[ORel] at hrl;obtain ⟨tmps,d,fi,h1,h2,h3,h4⟩:=hrl;have hlen:=ha.length;refine ⟨_,h3,by simp;omega,?_⟩;obtain ⟨g1,g2,g3⟩:=TD hvn r.params args cargs r.vals tmps hargs ha (fun t ht=>by rw[h1];exact hpN t ht) hpv h4.1 h2;have hzip:(r.params.toArray.zip cargs.toArray).foldl (fun tmps (x:Nat × Value)=>tmps.setIfInBounds x.1 x.2) tmps=(r.params.zip cargs).foldl (fun tmps (x:Nat × Value)=>tmps.setIfInBounds x.1 x.2) tmps:=by simp
 have hlσ:l<σ.length:=(hh.dom l b hb).1;have hs0:SRel ⟨r.vars,r.ntmps,some l,σ.length⟩ m X ⟨w.heap.size,[]⟩ ⟨JM r.vars r.params args r.vals,σ⟩ { tmps:=(r.params.zip cargs).foldl (fun tmps (x:Nat × Value)=>tmps.setIfInBounds x.1 x.2) tmps,defers:=[] } w :=
  ⟨by rw[g2];exact h1,g1,⟨[],rfl,YU,by simp⟩,hh,QG _,QG _⟩
 have hrok:rok ⟨r.vars,r.ntmps,some l,σ.length⟩ m:=by intro x hx;cases hx;exact ⟨hlσ,b,hb⟩
 have hfen:fen m (some l)=Fence.wide.inRound b:=by simp[fen,Fence.inRound,hb]
 refine roundIn_of_wpIn (F:=Fence.wide) (n:=0) trivial ?_
 dsimp only
 rw[hzip];have key:=h m X ⟨w.heap.size,[]⟩ _ w hs0 hrok;rw[show fen m (Fx.r ⟨r.vars,r.ntmps,some l,σ.length⟩)=Fence.wide.inRound b from hfen] at key;refine wpIn_mono key ?_;rintro e a1 w1 ⟨s1,m1,hq,hs1,hst1⟩;cases e with
 | normal =>
  obtain ⟨r1,hl1,hr1,hbody⟩:=hq;have hb1:m1 l=some b:=by rw[hst1.keep l hlσ];exact hb
  obtain ⟨tm1,d1,fi1,k1,k2,k3,k4⟩:=hs1.heap.loop hb1 hl1;rw[hr1] at k3;refine ⟨_,run_beginRound k3 rfl,?_⟩;obtain ⟨u1,u2,u3⟩:=hs1.heap.setLoop hb1 hl1 (by rw[← hr1] at k3;exact k3) .busy r1.pending;have hs1':=hs1.of_heap u1 u2 (by simp[AM.setLoop]);have e1:({ ({ state:=r1.state,pending:=r1.pending,fn:=fi1,tmps:=tm1,params:=r1.params.toArray,assign:=r1.assign,body:=r1.body,defers:=d1 }:Loop) with state:=.busy,pending:=r1.pending }:Loop) = { ({ state:=.ready,pending:=r1.pending,fn:=fi1,tmps:=tm1,params:=r1.params.toArray,assign:=r1.assign,body:=r1.body,defers:=d1 }:Loop) with state:=.busy }:=rfl;rw[e1] at hs1' u1 u2 u3;have hst1':=hst1.trans (u2.less hs1.base);have key2:=W.later hbody hrok hs1' hst1';rw[show fen m (Fx.r ⟨r.vars,r.ntmps,some l,σ.length⟩)=Fence.wide.inRound b from hfen] at key2;refine wpIn_mono key2 ?_;rintro e a2 w2 ⟨s2,m2,hq2,hs2,hst2⟩;have fin:∀ (jmp:Option Code),(∃ r2,s2.heap[l]? = some (.loop r2)∧Q (.b jmp.isNone) (AM.setLoop s2.heap l r2 (if jmp.isNone then .ready else .done) jmp))→∃ v w',(Instr.endRound b jmp).run P w2=.ok v w'∧OT m X w σ Q (.returned v) w':=by
   rintro jmp ⟨r2,hl2,hQ⟩;have hb2:m2 l=some b:=by rw[hst2.keep l hlσ];exact hb
   obtain ⟨tm2,d2,fi2,v1,v2,v3,v4⟩:=hs2.heap.loop hb2 hl2;obtain ⟨x1,x2,x3⟩:=hs2.heap.setLoop hb2 hl2 v3 (if jmp.isNone then .ready else .done) jmp;refine ⟨.bool jmp.isNone,_,run_endRound jmp v3,_,_,_,m2,rfl,hQ,?_,x1,hst2.trans (x2.less hs2.base),?_⟩
   ·exact VRel.mk_bool _
   ·simp only[AM.setLoop,WE];exact hs2.base
  cases e with
  | normal=>exact fin none hq2
  | ret=>exact fin (some .ret) hq2
  | exit i=>exact fin (some (.exit i)) hq2
  | goto t=>exact fin (some (.goto t)) hq2
  | panic c=>exact hq2.elim
  | outgrown=>exact hq2.elim
 | ret=>exact hq.elim
 | exit i=>exact hq.elim
 | goto t=>exact hq.elim
 | panic c=>exact hq.elim
 | outgrown=>exact hq.elim
theorem HRel.alloc0 {σ:List AObj} (h:HRel m X σ w) (o:Obj):HRel m X σ (w.alloc o)∧Step σ.length m X w m (w.alloc o)∧Mono m X w m X (w.alloc o):=by
 have hs:Step σ.length m X w m (w.alloc o) :=
  ⟨fun _ _=>rfl,fun l b hb=>.inl ⟨l,hb⟩,by simp,fun b hb _=>heap_alloc_old w o hb,fun b c e hb=>⟨c,by rw[heap_alloc_old w o (lt_of_heap hb)];exact hb,rfl⟩,rfl,rfl,rfl,fun _=>QG _⟩
 have hm:=h.mono_of_step hs (QG _);refine ⟨⟨fun b hb=>?_,fun l b hb=>?_,h.own,h.inj,fun l o1 ho=>?_,h.gl.mono hm⟩,hs,hm⟩
 ·have:=h.xb b hb;simp;omega
 ·have:=h.dom l b hb;exact ⟨this.1,by simp;omega⟩
 ·have:=h.obj l o1 ho;cases hml:m l with
  | none=>rw[hml] at this;cases o1 <;> simp[ORel] at this ⊢
  | some b=>rw[hml] at this;exact ORel.mono hm (heap_alloc_old w o (h.dom l b hml).2) this
def VJ (fx:Fx) (vals:List AV) (ps:Array Nat) (assign body:Code):XC :=
 {state:=.ready,pending:=none,vars:=fx.vars,ntmps:=fx.N,vals,params:=ps.toList,assign,body }
def U9 (P:Program) (fx:Fx) (vals:List AV) (l:Nat) (Q:Exit→St→Prop) (σ':List AObj):Prop :=
 ∃ r2,σ'[l]? = some (.loop r2)∧r2.state≠.busy∧match r2.pending with
  | none=>Q .normal ⟨vals,setLoop σ' l r2 .exhausted none⟩
  | some c=>W P fx c ⟨vals,setLoop σ' l r2 .exhausted (some c)⟩ Q
theorem N6 {g:Operand} {ps:Array Nat} {assign body:Code} {gf:FuncId} {cap:List AV} {opd:Opd} (hgo:XA fx.vars [] g=opd) (hg:WY s.vals [] opd=.fn (.func gf) cap) (hvl:s.vals.length≤fx.vars.length)
  (hr0:∀ l0,fx.r=some l0→∃ r0,s.heap[l0]? = some (.loop r0))
  (h:AC P gf (.yld s.heap.length::cap) (s.heap++[.loop (VJ fx s.vals ps assign body)]) fun _ σ'=>U9 P fx s.vals s.heap.length Q σ') :
  W P fx (.rangeFunc g ps assign body) s Q:=by
 intro m X en ac w hs hr;have hgv:VRel m X w (.fn (.func gf) cap) (ac.eval g):=by have:=U7 (ops:=[]) (ρ:=[]) (ds:=ac.defers) (tmps:=ac.tmps) hs.heap.gl hs.vars (fun j t hj _=>by simp at hj) g;simp only[WS] at this;rw[hgo,hg] at this;exact this
 simp only[VRel] at hgv;obtain ⟨vs,hge,hcap⟩:=hgv;refine wpIn_rangeFunc ?_;intro fn hfn;have rest:∀ (w1:World) (mark:List Deferred) (d:Nat),HRel m X s.heap w1→Step s.heap.length m X w m w1→Mono m X w m X w1→DRel m X en w1 (mark++ac.defers) →
   ∀ w2,w2=w1.alloc (.loop { state:=.ready,pending:=none,fn,tmps:=ac.tmps,params:=ps,assign,body,defers:=d }) →
   ∃ (dd:Deferred) (w₁':World) (f:FuncId) (args:Array Value) (w₂:World),
   (resolve ac.eval (rangeCall g w1.heap.size) 0).run P w2=.ok dd w₁'∧(∀ f',Target.leads P w₁' dd.target dd.args=some f'→(fen m fx.r).fn f')∧(invoke dd.target dd.args).run P w₁'=.ok (.enter f args) w₂ ∧
   ((fen m fx.r).depth.isSome=true→1≤0)∧CallsIn (fen m fx.r) (0-1) P f args w₂ (rangePost (fen m fx.r) 0 P w1.heap.size (Lift fx m X en w Q) { ac with defers:=mark++ac.defers }):=by
  intro w1 mark d hh1 hst1 hm1 hd1 w2 hw2;obtain ⟨k1,k2,k3⟩:=hh1.alloc (.loop { state:=.ready,pending:=none,fn,tmps:=ac.tmps,params:=ps,assign,body,defers:=d }) (.loop (VJ fx s.vals ps assign body)) (fun hm=>by simp only[ORel,VJ];exact ⟨ac.tmps,d,fn,hs.size,(hs.vars.mono hm1).mono hm,by rw[heap_alloc_new],hvl,fun f h=>by cases h⟩)
  rw[← hw2] at k1 k2 k3;have hst2:=hst1.trans k2;refine ⟨{ target:=.fn (.func gf) vs.toArray,args:=#[.func (.yield w1.heap.size) #[] #[]] },w2,gf,(Value.func (.yield w1.heap.size) #[] #[]::vs).toArray,w2,?_,fun _ _=>trivial,?_,by simp[fen,Fence.wide],?_⟩
  ·have:Act.eval ac (.const (.func (.yield w1.heap.size) #[] #[]))=.func (.yield w1.heap.size) #[] #[]:=rfl;simp[resolve,rangeCall,hge,Deferred.ofValue,this]
  ·simp only[invoke];rw[h.1];simp
  ·have hcall:=h.2 _ X w2 (Value.func (.yield w1.heap.size) #[] #[]::vs) (by
    simp only[QK,VRel];exact ⟨⟨w1.heap.size,LM.put_same _ _ _,rfl⟩,(hcap.mono hm1).mono k3⟩) k1
   refine CallsIn.mono (F:=fen m fx.r) (n:=0) hcall ?_;rintro e w3 ⟨c,rv,σ',m',rfl,⟨r2,hl2,hnb,hq⟩,hv,hh3,hst3,hle⟩;simp only[rangePost];have hlt:s.heap.length<(s.heap++[AObj.loop (VJ fx s.vals ps assign body)]).length:=by simp
   have hb3:m' s.heap.length=some w1.heap.size:=by rw[hst3.keep _ hlt];exact LM.put_same _ _ _
   have hmono3:=k1.mono_of_step hst3 (QG _);obtain ⟨tm2,d2,fi2,v1,v2,v3,v4⟩:∃ (tmps:Array Value) (d fi:Nat),tmps.size=r2.ntmps∧ARel m' X w3 r2.vars r2.vals tmps∧w3.heap[w1.heap.size]? = some (.loop { state:=r2.state,pending:=r2.pending,fn:=fi,tmps,params:=r2.params.toArray,assign:=r2.assign,body:=r2.body,defers:=d })∧r2.vals.length≤r2.vars.length∧∀ f,r2.fi=some f→fi=f:=by have:=hh3.obj _ _ hl2;rw[hb3] at this;simpa only[ORel] using this
   refine ⟨r2.pending,_,run_endLoop v3 hnb,?_⟩;obtain ⟨x1,x2,x3⟩:=hh3.setLoop hb3 hl2 v3 .exhausted r2.pending;have hst4:Step fx.n0 m X w m' (w3.putObj w1.heap.size (.loop { ({ state:=r2.state,pending:=r2.pending,fn:=fi2,tmps:=tm2,params:=r2.params.toArray,assign:=r2.assign,body:=r2.body,defers:=d2 }:Loop) with state:=.exhausted })):=by have hb:=hs.base;have a1:=hst2.less hb;have a2:=hst3.less (show fx.n0≤(s.heap++[AObj.loop (VJ fx s.vals ps assign body)]).length by simp;omega);have a3:=x2.less (show fx.n0≤σ'.length by simp at hle;omega);exact (a1.trans a2).trans a3
   have hs4:SRel fx m' X en ⟨s.vals,AM.setLoop σ' s.heap.length r2 .exhausted r2.pending⟩ { ac with defers:=mark++ac.defers } (w3.putObj w1.heap.size (.loop { ({ state:=r2.state,pending:=r2.pending,fn:=fi2,tmps:=tm2,params:=r2.params.toArray,assign:=r2.assign,body:=r2.body,defers:=d2 }:Loop) with state:=.exhausted })):=by
    refine ⟨hs.size,((((hs.vars.mono hm1).mono k3).mono hmono3).mono x3),?_,x1,?_,?_⟩
    ·exact ((hd1.step k2).step hst3).step x2
    ·have:=hs.base;simp[AM.setLoop] at hle ⊢;omega
    ·have:=hs.entry;have h1:=hst1.size;have h2:=k2.size;have h3:=hst3.size;simp;omega
   cases hp:r2.pending with
   | none =>
    rw[hp] at hq hs4 hst4
    dsimp only
    exact ⟨_,m',hq,hs4,hst4⟩
   | some cj =>
    rw[hp] at hq hs4 hst4
    dsimp only at hq ⊢
    exact W.later hq hr hs4 hst4
 cases hfr:fx.r with
 | none =>
  obtain ⟨a1,a2,a3⟩:=hs.heap.alloc0 (.deferred (some []));have hd1:DRel m X en (w.alloc (.deferred (some []))) ([{ target:=.collected w.heap.size,args:=#[] }]++ac.defers):=by
   obtain ⟨bs,g1,g2,g3⟩:=hs.defs.step a2;refine ⟨w.heap.size::bs,by simp[g1],?_,?_⟩
   ·refine WQ.2 ⟨fun hmem=>?_,g2⟩;obtain ⟨bs0,q1,q2,q3⟩:=hs.defs;have:bs0=bs:=by
     have e:=q1.symm.trans g1;have inj:∀ (x y:List Nat),x.map (fun b=>({ target:=.collected b,args:=#[] }:Deferred))=y.map (fun b=>{ target:=.collected b,args:=#[] })→x=y:=by
      intro x
      induction x with
      | nil=>intro y hy;cases y with
       | nil=>rfl
       | cons=>simp at hy
      | cons a x ih=>intro y hy;cases y with
       | nil=>simp at hy
       | cons b y=>simp at hy;rw[hy.1,ih y (by simpa using hy.2)]
     exact inj _ _ (List.append_cancel_right e)
    subst this;have:=(q3 _ hmem).2.1;omega
   ·intro b hb;rcases ZD.1 hb with rfl | hb
    ·refine ⟨hs.entry,by simp,heap_alloc_new _ _,?_⟩;rintro (hx | ⟨l,hl⟩)
     ·have:=hs.heap.xb _ hx;omega
     ·have:=(hs.heap.dom l _ hl).2;omega
    ·exact g3 b hb
  obtain ⟨dd,w₁',f,args,w₂,r1,r2,r3,r4,r5⟩:=rest (w.alloc (.deferred (some []))) [{ target:=.collected w.heap.size,args:=#[] }] w.heap.size a1 a2 a3 hd1 _ rfl;have hsz:(w.alloc (.deferred (some []))).heap.size=w.heap.size+1:=by simp
  rw[hsz] at r1 r5;rw[hfr] at r2 r4 r5;have hro:(fen m none).round=none:=rfl;refine ⟨w.heap.size+1,[{ target:=.collected w.heap.size,args:=#[] }],_,dd,w₁',f,args,w₂,?_,r1,r2,r3,r4,r5⟩;rw[hro];exact run_enterLoop_outer fn ac.tmps ps assign body
 | some l0 =>
  obtain ⟨r0,hl0⟩:=hr0 l0 hfr;obtain ⟨hl0n,b0,hb0⟩:=hr l0 hfr;obtain ⟨tm0,d0,fi0,v1,v2,v3,v4⟩:=hs.heap.loop hb0 hl0;have hro:(fen m (some l0)).round=some b0:=by simp[fen,hb0]
  obtain ⟨dd,w₁',f,args,w₂,r1,r2,r3,r4,r5⟩:=rest w [] d0 hs.heap (Step.refl _ _ _ _) (Mono.refl _ _ _) (by simpa using hs.defs) _ rfl;rw[hfr] at r2 r4 r5;refine ⟨w.heap.size,[],_,dd,w₁',f,args,w₂,?_,r1,r2,r3,r4,r5⟩;rw[hro];exact run_enterLoop_inner v3 fn ac.tmps ps assign body
abbrev nom:LM:=fun _=>none
abbrev noX:Nat→Prop:=fun _=>False
end Go.Proofs.YtgkidpolomhghaaGreatDoor.AM
namespace Go.Proofs.YtgkidpolomhghaaGreatDoor.AM
variable [Dr]
open Go
def kindOf:IOp→Nat
 | .mv | .pick | .not | .bin _ _ | .conv _ | .build _ _ | .nilck | .mkfn _ | .mkbm _ | .eqS _ _ | .slS _ _ _ | .slStr _ _ | .fadd _ | .fld _ _ _ | .iaA _ _ | .iaS _ | .ixA _ _ _ _ | .ixStr | .extract _ | .len _ | .min2 | .max2 | .slS3 | .cap=>0
 | .load1 | .loadN _ | .slA _ _ _ _ | .lookup _ _ _ | .maplen=>1
 | _=>2
theorem KF {io:IOp} {as_:List AV} {σ σ':List AObj} {r:AV} (hk:kindOf io=0) (h:ZQ io as_ σ=some (r,σ')):σ'=σ∧∀ τ,ZQ io as_ τ=some (r,τ):=by
 cases io <;> (try (cases hk;done)) <;> simp only[ZQ] at h ⊢
 case mv=>unfold f_mv at h ⊢;split at h <;> cases h;exact ⟨rfl,fun _=>rfl⟩
 case pick=>unfold P4 at h ⊢;split at h <;> cases h;exact ⟨rfl,fun _=>rfl⟩
 case not=>unfold CN at h ⊢;split at h <;> cases h;exact ⟨rfl,fun _=>rfl⟩
 case bin=>unfold OJ at h ⊢;split at h <;> simp only[QA,reduceCtorEq] at h <;> (obtain ⟨v,hv,he⟩:=h;cases he;exact ⟨rfl,fun _=>by simp[hv]⟩)
 case conv=>unfold P5 at h ⊢;split at h <;> cases h;exact ⟨rfl,fun _=>rfl⟩
 case build=>unfold DL at h ⊢;simp only[QA] at h ⊢;obtain ⟨v,hv,he⟩:=h;cases he;exact ⟨rfl,fun _=>⟨v,hv,rfl⟩⟩
 case nilck=>unfold G4 at h ⊢;split at h <;> cases h <;> exact ⟨rfl,fun _=>rfl⟩
 case mkfn=>unfold NI at h ⊢;cases h;exact ⟨rfl,fun _=>rfl⟩
 case mkbm=>unfold NJ at h ⊢;cases h;exact ⟨rfl,fun _=>rfl⟩
 case slS =>
  unfold VG at h ⊢;split at h <;> simp only[QB,reduceCtorEq] at h
  all_goals
   obtain ⟨⟨a,b⟩,hb,h⟩:=h;simp only at h;split at h <;> try (cases h;done)
  ·rename_i hc;split at h
   ·rename_i h2;cases h;exact ⟨rfl,fun _=>by simp only[hb,Option.bind_some];rw[if_pos hc,if_pos h2]⟩
   ·rename_i h2;cases h;exact ⟨rfl,fun _=>by simp only[hb,Option.bind_some];rw[if_pos hc,if_neg h2]⟩
  ·rename_i hc;cases h;exact ⟨rfl,fun _=>by simp only[hb,Option.bind_some];rw[if_pos hc]⟩
  ·rename_i hc;cases h;exact ⟨rfl,fun _=>by simp only[hb,Option.bind_some];rw[if_pos hc]⟩
  ·rename_i hc;split at h
   ·rename_i h2;cases h;exact ⟨rfl,fun _=>by simp only[hb,Option.bind_some];rw[if_pos hc,if_pos h2]⟩
   ·rename_i h2;cases h;exact ⟨rfl,fun _=>by simp only[hb,Option.bind_some];rw[if_pos hc,if_neg h2]⟩
 case slStr =>
  unfold LN at h ⊢;split at h <;> simp only[QB,reduceCtorEq] at h
  obtain ⟨⟨a,b⟩,hb,h⟩:=h;simp only at h;split at h <;> try (cases h;done)
  rename_i hc;cases h;exact ⟨rfl,fun _=>by simp only[hb,Option.bind_some];rw[if_pos hc]⟩
 case fadd=>unfold DK at h ⊢;split at h <;> cases h <;> exact ⟨rfl,fun _=>rfl⟩
 case fld =>
  unfold OH at h ⊢;split at h <;> try (cases h;done)
  ·split at h <;> cases h;rename_i hc;exact ⟨rfl,fun _=>by rw[if_pos hc]⟩
  ·simp only[QA] at h;obtain ⟨v,hv,he⟩:=h;cases he;exact ⟨rfl,fun _=>by simp[hv]⟩
 case iaA=>unfold PD at h ⊢;split at h <;> (try (cases h;done)) <;> (split at h <;> cases h;rename_i hc;exact ⟨rfl,fun _=>by rw[if_pos hc]⟩)
 case iaS=>unfold VP at h ⊢;split at h <;> (try (cases h;done)) <;> (split at h <;> cases h;rename_i hc;exact ⟨rfl,fun _=>by rw[if_pos hc]⟩)
 case ixA =>
  unfold A7 at h ⊢;split at h <;> try (cases h;done)
  ·split at h <;> cases h;rename_i hc;exact ⟨rfl,fun _=>by rw[if_pos hc]⟩
  ·split at h <;> (try (cases h;done));rename_i hc;simp only[QA] at h;obtain ⟨v,hv,he⟩:=h;cases he;exact ⟨rfl,fun _=>by rw[if_pos hc];simp[hv]⟩
 case ixStr=>unfold G5 at h ⊢;split at h <;> (try (cases h;done));split at h <;> (try (cases h;done));rename_i hc;simp only[QA] at h;obtain ⟨v,hv,he⟩:=h;cases he;exact ⟨rfl,fun _=>by rw[if_pos hc];simp[hv]⟩
 case extract=>unfold U6 at h ⊢;split at h <;> (try (cases h;done));simp only[QA] at h;obtain ⟨v,hv,he⟩:=h;cases he;exact ⟨rfl,fun _=>by simp[hv]⟩
 case len=>unfold RZ at h ⊢;split at h <;> cases h <;> exact ⟨rfl,fun _=>rfl⟩
 case min2=>unfold DJ at h ⊢;split at h <;> (try (cases h;done));split at h <;> cases h;rename_i hc;exact ⟨rfl,fun _=>by rw[if_pos hc]⟩
 case max2=>unfold GT at h ⊢;split at h <;> (try (cases h;done)) <;> (split at h <;> cases h;rename_i hc;exact ⟨rfl,fun _=>by rw[if_pos hc]⟩)
 case eqS=>unfold OI at h ⊢;split at h <;> (try (cases h;done));simp only[QA] at h ⊢;obtain ⟨v,hv,he⟩:=h;cases he;exact ⟨rfl,fun _=>⟨v,hv,rfl⟩⟩
 case slS3 =>
  unfold TR at h ⊢;split at h <;> (try (cases h;done)) <;> (
   simp only[QB] at h;obtain ⟨a,ha,b,hb,c,hc,h⟩:=h;split at h <;> (try (cases h;done))
   rename_i hcc;cases h;exact ⟨rfl,fun _=>by simp only[ha,hb,hc,Option.bind_some];rw[if_pos hcc]⟩)
 case cap=>unfold NZ at h ⊢;split at h <;> cases h;exact ⟨rfl,fun _=>rfl⟩
theorem GB {io:IOp} {as_:List AV} {σ σ':List AObj} {r:AV} (hk:kindOf io=1) (h:ZQ io as_ σ=some (r,σ')):σ'=σ:=by
 cases io <;> (try (cases hk;done)) <;> simp only[ZQ] at h
 case load1 =>
  unfold KZ at h;split at h <;> (try (cases h;done))
  ·simp only[QB,QA] at h;obtain ⟨_,_,_,_,he⟩:=h;cases he;rfl
  ·simp only[QA] at h;obtain ⟨_,_,he⟩:=h;cases he;rfl
 case loadN =>
  unfold YF at h;split at h <;> (try (cases h;done))
  ·simp only[QB] at h;obtain ⟨_,_,h⟩:=h;split at h <;> cases h;rfl
  ·split at h <;> cases h;rfl
 case slA=>unfold OG at h;split at h <;> (try (cases h;done));simp only[QB] at h;obtain ⟨_,_,_,_,h⟩:=h;split at h <;> cases h;rfl
 case lookup=>unfold KL at h;split at h <;> (try (cases h;done));simp only[QB] at h;obtain ⟨_,_,h⟩:=h;split at h <;> (try (cases h;done));simp only[QA] at h;obtain ⟨_,_,he⟩:=h;cases he;rfl
 case maplen=>unfold TS at h;split at h <;> (try (cases h;done));simp only[QA] at h;obtain ⟨_,_,he⟩:=h;cases he;rfl
theorem Z8 {k:Nat}:∀ {vs:List AV},QO k vs=true↔∀ v∈vs,QR k v=true
 | []=>by simp[QO]
 | v::vs=>by simp[QO,Z8 (vs:=vs)]
theorem XM {k n:Nat} {vs:List AV} (h:QO k vs=true):QO k (vs.take n)=true :=
 Z8.2 fun v hv=>Z8.1 h v (List.mem_of_mem_take hv)
theorem JV {k n:Nat} {vs:List AV} (h:QO k vs=true):QO k (vs.drop n)=true :=
 Z8.2 fun v hv=>Z8.1 h v (List.mem_of_mem_drop hv)
theorem VN {k:Nat} {vs us:List AV} (h:QO k vs=true) (h':QO k us=true):QO k (vs++us)=true :=
 Z8.2 fun v hv=>(YV.1 hv).elim (Z8.1 h v) (Z8.1 h' v)
theorem I5 {k:Nat} (cs:List CV):QO k (cs.map .cv)=true :=
 Z8.2 fun v hv=>by obtain ⟨c,_,rfl⟩:=ZP.1 hv;rfl
theorem R9 {k i:Nat} {vs:List AV} {v:AV} (h:QO k vs=true) (hv:QR k v=true):QO k (vs.set i v)=true :=
 Z8.2 fun u hu=>by
  rcases List.mem_or_eq_of_mem_set hu with h1 | rfl
  ·exact Z8.1 h u h1
  ·exact hv
theorem X5 {k:Nat}:∀ {us vs:List AV} {off:Nat},QO k vs=true→QO k us=true→QO k (setRange vs off us)=true
 | [],vs,off,h,_=>by simpa[setRange] using h
 | u::us,vs,off,h,h'=>by simp only[QO,QD] at h';simp only[setRange];exact X5 (R9 h h'.1) h'.2
theorem HI {k:Nat} {v:AV} (h:QR k v=true):QO k (cellsOf v)=true:=by
 cases v <;> simp_all [cellsOf,QR,QO]
theorem H6 {k i:Nat} {vs:List AV} {v:AV} (h:QO k vs=true) (hv:vs[i]? = some v):QR k v=true:=Z8.1 h v (QZ hv)
theorem KU {k n:Nat} {zs:List AV} (h:QO k zs=true):QO k (YW n zs)=true:=by
 unfold YW;split
 ·rename_i z;exact Z8.2 fun v hv=>by rw[(List.mem_replicate.1 hv).2];simpa[QO] using h
 ·exact Z8.2 fun v hv=>by obtain ⟨i,_,rfl⟩:=ZP.1 hv;exact XO h _
theorem FZ {k:Nat}:∀ {ps:List (Nat × Nat)} {vs zs cs:List AV},HW zs ps vs=some cs→QO k zs=true→QO k vs=true→QO k cs=true
 | [],[],zs,cs,h,hz,_=>by simp[HW] at h;subst h;exact hz
 | (off,n)::ps,v::vs,zs,cs,h,hz,hv=>by
  simp only[QO,QD] at hv;simp only[HW] at h;split at h
  ·exact FZ h (X5 hz (HI hv.1)) hv.2
  ·cases h
 | [],_::_,_,_,h,_,_=>by simp[HW] at h
 | _::_,[],_,_,h,_,_=>by simp[HW] at h
theorem Qdb {a b:Nat} (hab:a≤b) {v:AV} (h:QR a v=true):QR b v=true:=Y8 hab v h
theorem YL {a b:Nat} (hab:a≤b) {v:List AV} (h:QO a v=true):QO b v=true:=XN hab v h
def ioCl:IOp→Bool
 | .alloc zs | .clear zs | .build zs _ | .bslice _ _ zs _ | .mkslice _ _ zs | .mksliceC _ _ zs | .appendz _ _ zs=>QO 0 zs
 | .lookup _ z _=>QR 0 z
 | _=>true
def Cl (σ:List AObj):Prop:=∀ (l:Nat) o,σ[l]? = some o→Z3 σ.length o=true
theorem Cl.row {σ:List AObj} (h:Cl σ) {l:Nat} {cs:List AV} (hr:rowOf σ l=some cs):QO σ.length cs=true∧l<σ.length:=by
 unfold rowOf at hr;split at hr
 ·rename_i cs' ho;cases hr;exact ⟨h l _ ho,(QH.1 ho).1⟩
 ·cases hr
theorem Cl.mapOf {σ:List AObj} (h:Cl σ) {l:Nat} {es:List (AV × AV)} (hr:mapOf σ l=some es):(∀ e∈es,QR σ.length e.1=true∧QR σ.length e.2=true)∧l<σ.length:=by
 unfold AM.mapOf at hr;split at hr
 ·rename_i cs' ho;cases hr;have:=h l _ ho;simp only[Z3,Q1,QD] at this;exact ⟨this,(QH.1 ho).1⟩
 ·cases hr
theorem Cl.set {σ:List AObj} (h:Cl σ) (l:Nat) {o:AObj} (ho:Z3 σ.length o=true):Cl (σ.set l o):=by
 intro x o' hx;rw[ZO] at hx;rw[WE];split at hx
 ·split at hx
  ·cases hx;exact ho
  ·cases hx
 ·exact h x o' hx
theorem Cl.push {σ:List AObj} (h:Cl σ) {o:AObj} (ho:Z3 (σ.length+1) o=true):Cl (σ++[o]):=by
 intro x o' hx;rw[QM,List.length_singleton];rcases ZB x σ.length with hlt | hge
 ·rw[QE hlt] at hx;exact H1 _ _ o' (XE _) (h x o' hx)
 ·rw[QS hge] at hx;have:x-σ.length=0:=by
   have:=(QH.1 hx).1;simp at this;omega
  rw[this] at hx;simp at hx;subst hx;exact ho
theorem D7 {σ:List AObj} (h:Cl σ) {esz:Nat} {x:AV} {new:List AV} (hs:Z9 σ esz x=some new):QO σ.length new=true:=by
 unfold Z9 at hs;split at hs
 ·cases hs;rfl
 ·split at hs <;> cases hs;exact I5 _
 ·split at hs
  ·simp only[QB] at hs;obtain ⟨cs,hcs,hs⟩:=hs;split at hs <;> cases hs
   exact XM (JV (h.row hcs).1)
  ·cases hs
 ·split at hs <;> cases hs
  exact Z8.2 fun v hv=>by obtain ⟨c,_,rfl⟩:=ZP.1 hv;rfl
 ·split at hs
  ·simp only[QB] at hs;obtain ⟨cs,hcs,hs⟩:=hs;split at hs <;> cases hs
   exact XM (JV (h.row hcs).1)
  ·cases hs
 ·cases hs
theorem A6 {k:Nat} {ks:Bool × List KK} {key:AV}:∀ {es:List (AV × AV)} {i:Nat} {r:Option (Nat × AV)},(∀ e∈es,QR k e.1=true∧QR k e.2=true)→findKey ks key es i=some r→∀ p,r=some p→QR k p.2=true
 | [],i,r,_,h,p,hp=>by simp[findKey] at h;subst h;cases hp
 | (k',v)::es,i,r,he,h,p,hp=>by
  simp only[findKey] at h;split at h
  ·cases h;cases hp;exact (he (k',v) (by simp)).2
  ·exact A6 (fun e hh=>he e (by simp[hh])) h p hp
  ·cases h
theorem BM {io:IOp} {as_:List AV} {σ σ':List AObj} {r:AV} (hcl:ioCl io=true) (ha:QO σ.length as_=true) (hσ:Cl σ) (h:ZQ io as_ σ=some (r,σ')):QR σ'.length r=true∧Cl σ':=by
 cases io <;> simp only[ZQ] at h
 case mv=>unfold f_mv at h;split at h <;> cases h;simp only[QO,WH] at ha;exact ⟨ha,hσ⟩
 case pick=>unfold P4 at h;split at h <;> cases h;simp only[QO,WH,QD] at ha;exact ⟨by split;exact ha.2.1;exact ha.2.2,hσ⟩
 case not=>unfold CN at h;split at h <;> cases h;exact ⟨rfl,hσ⟩
 case bin op tk =>
  unfold OJ at h;split at h
  rotate_left
  ·simp only[QA] at h;obtain ⟨v,hv,he⟩:=h;cases he;refine ⟨?_,hσ⟩;unfold binI at hv;split at hv <;> first | (cases hv;rfl;done) | (split at hv <;> cases hv;rfl) | cases hv
  ·cases h
  simp only[QA] at h;obtain ⟨v,hv,he⟩:=h;cases he;refine ⟨?_,hσ⟩;unfold binF at hv;split at hv
  ·split at hv
   ·unfold VK at hv;split at hv <;> (try (cases hv;done));split at hv <;> cases hv <;> rfl
   ·split at hv <;> (try (cases hv;done));unfold binI at hv;split at hv <;> first | (cases hv;rfl;done) | (split at hv <;> cases hv;rfl) | cases hv
  all_goals first | (unfold K8 at hv;split at hv <;> cases hv <;> rfl;done) | (unfold binS at hv;split at hv <;> first | (cases hv;rfl;done) | (split at hv <;> cases hv;rfl) | cases hv) | cases hv
 case conv=>unfold P5 at h;split at h <;> cases h;exact ⟨rfl,hσ⟩
 case alloc zs=>unfold UO at h;split at h <;> cases h;exact ⟨by simp[QR],hσ.push (YL (QF _) hcl)⟩
 case box =>
  unfold WI at h;split at h <;> (try (cases h;done));split at h <;> cases h
  simp only[QO,WH] at ha;exact ⟨by simp[QR],hσ.push (YL (XE _) (HI ha))⟩
 case build zs ps =>
  unfold DL at h;simp only[QA] at h;obtain ⟨v,hv,he⟩:=h;cases he;exact ⟨FZ hv (YL (QF _) hcl) ha,hσ⟩
 case bslice esz len zs ps =>
  unfold V4 at h;simp only[QA] at h;obtain ⟨v,hv,he⟩:=h;cases he;exact ⟨by simp[QR],hσ.push (YL (XE _) (FZ hv (YL (QF _) hcl) ha))⟩
 case load1 =>
  unfold KZ at h;split at h <;> (try (cases h;done))
  ·simp only[QB,QA] at h;obtain ⟨cs,hcs,v,hv,he⟩:=h;cases he;exact ⟨H6 (hσ.row hcs).1 hv,hσ⟩
  ·simp only[QA] at h;obtain ⟨_,_,he⟩:=h;cases he;exact ⟨rfl,hσ⟩
 case loadN n =>
  unfold YF at h;split at h <;> (try (cases h;done))
  ·simp only[QB] at h;obtain ⟨cs,hcs,h⟩:=h;split at h <;> cases h;exact ⟨XM (JV (hσ.row hcs).1),hσ⟩
  ·split at h <;> cases h
   refine ⟨?_,hσ⟩;simp only[QR];exact I5 _
 case store n =>
  unfold UM at h;split at h <;> (try (cases h;done));simp only[QB] at h;obtain ⟨cs,hcs,h⟩:=h;split at h <;> cases h
  simp only[QO,WH,QD] at ha;exact ⟨rfl,hσ.set _ (X5 (hσ.row hcs).1 (HI ha.2))⟩
 case nilck=>unfold G4 at h;split at h <;> cases h <;> (simp only[QO,WH] at ha;exact ⟨ha,hσ⟩)
 case mkfn=>unfold NI at h;cases h;exact ⟨ha,hσ⟩
 case mkbm=>unfold NJ at h;cases h;exact ⟨ha,hσ⟩
 case mkmap=>unfold KY at h;split at h <;> cases h;exact ⟨by simp[QR],hσ.push rfl⟩
 case mkslice esz bytes zs=>unfold XB at h;split at h <;> (try (cases h;done));split at h <;> cases h;exact ⟨by simp[QR],hσ.push (KU (YL (QF _) hcl))⟩
 case slA n esz lo hi =>
  unfold OG at h;split at h <;> (try (cases h;done));simp only[QB] at h;obtain ⟨cs,hcs,p,hp,h⟩:=h;split at h <;> cases h
  exact ⟨by simp[QR,(hσ.row hcs).2],hσ⟩
 case slS esz lo hi =>
  unfold VG at h;split at h <;> (try (cases h;done)) <;> simp only[QB] at h <;> obtain ⟨p,hp,h⟩:=h <;> (try simp only at h) <;> split at h <;> (try (cases h;done))
  ·simp only[QO,QD,QR] at ha;split at h <;> cases h
   ·exact ⟨rfl,hσ⟩
   ·exact ⟨by simpa[QR] using ha.1,hσ⟩
  ·cases h;exact ⟨rfl,hσ⟩
  ·cases h;exact ⟨rfl,hσ⟩
  ·simp only[QO,QD,QR] at ha;split at h <;> cases h
   ·exact ⟨rfl,hσ⟩
   ·exact ⟨by simpa[QR] using ha.1,hσ⟩
 case slStr lo hi =>
  unfold LN at h;split at h <;> (try (cases h;done));simp only[QB] at h;obtain ⟨p,hp,h⟩:=h;(try simp only at h);split at h <;> cases h;exact ⟨rfl,hσ⟩
 case fadd off=>unfold DK at h;split at h <;> cases h <;> (simp only[QO,WH,QR] at ha;first | exact ⟨rfl,hσ⟩ | exact ⟨by simpa[QR] using ha,hσ⟩)
 case fld off n agg =>
  unfold OH at h;split at h <;> (try (cases h;done)) <;> simp only[QO,WH,QR] at ha
  ·split at h <;> cases h;exact ⟨XM (JV ha),hσ⟩
  ·simp only[QA] at h;obtain ⟨v,hv,he⟩:=h;cases he;exact ⟨H6 ha hv,hσ⟩
 case iaA len esz=>unfold PD at h;split at h <;> (try (cases h;done)) <;> simp only[QO,WH,QR] at ha <;> split at h <;> cases h <;> first | exact ⟨rfl,hσ⟩ | exact ⟨by simpa[QR] using ha,hσ⟩
 case iaS esz=>unfold VP at h;split at h <;> (try (cases h;done)) <;> simp only[QO,WH,QR] at ha <;> split at h <;> cases h <;> first | exact ⟨rfl,hσ⟩ | exact ⟨by simpa[QR] using ha,hσ⟩
 case ixA len esz n agg =>
  unfold A7 at h;split at h <;> (try (cases h;done)) <;> simp only[QO,WH,QR] at ha
  ·split at h <;> cases h;exact ⟨XM (JV ha),hσ⟩
  ·split at h <;> (try (cases h;done));simp only[QA] at h;obtain ⟨v,hv,he⟩:=h;cases he;exact ⟨H6 ha hv,hσ⟩
 case ixStr=>unfold G5 at h;split at h <;> (try (cases h;done));split at h <;> (try (cases h;done));simp only[QA] at h;obtain ⟨v,hv,he⟩:=h;cases he;exact ⟨rfl,hσ⟩
 case extract i=>unfold U6 at h;split at h <;> (try (cases h;done));simp only[QA] at h;obtain ⟨v,hv,he⟩:=h;cases he;simp only[QO,WH,QR] at ha;exact ⟨H6 ha hv,hσ⟩
 case len=>unfold RZ at h;split at h <;> cases h <;> exact ⟨rfl,hσ⟩
 case min2=>unfold DJ at h;split at h <;> (try (cases h;done));split at h <;> cases h;exact ⟨rfl,hσ⟩
 case max2=>unfold GT at h;split at h <;> (try (cases h;done)) <;> (split at h <;> cases h;exact ⟨rfl,hσ⟩)
 case append esz bytes =>
  unfold ZX at h;split at h <;> (try (cases h;done))
  ·simp only[QB] at h;obtain ⟨new,hnew,n,hn,h⟩:=h;split at h
   ·cases h;exact ⟨rfl,hσ⟩
   ·split at h <;> cases h;exact ⟨by simp[QR],hσ.push (YL (XE _) (D7 hσ hnew))⟩
  ·simp only[QB] at h;obtain ⟨cs,hcs,new,hnew,n,hn,h⟩:=h;split at h <;> cases h
   refine ⟨by simp[QR],(hσ.set _ rfl).push ?_⟩;rw[WE];exact YL (XE _) (VN (XM (hσ.row hcs).1) (D7 hσ hnew))
  ·simp only[QB] at h;obtain ⟨cs,hcs,new,hnew,n,hn,h⟩:=h;simp only[QO,QD,QR] at ha;split at h
   ·split at h <;> cases h
    exact ⟨by simpa[QR] using ha.1,hσ.set _ (X5 (hσ.row hcs).1 (D7 hσ hnew))⟩
   ·split at h <;> cases h
    exact ⟨by simp[QR],hσ.push (YL (XE _) (VN (XM (JV (hσ.row hcs).1)) (D7 hσ hnew)))⟩
 case clear zs =>
  unfold UN at h;split at h <;> (try (cases h;done)) <;> (
   simp only[QB] at h;obtain ⟨cs,hcs,h⟩:=h;split at h <;> cases h
   exact ⟨rfl,hσ.set _ (X5 (hσ.row hcs).1 (KU (YL (QF _) hcl)))⟩)
 case copy esz =>
  unfold UE at h;split at h <;> (try (cases h;done));simp only[QB] at h;obtain ⟨cs,hcs,new,hnew,n,hn,h⟩:=h;split at h <;> cases h
  exact ⟨rfl,hσ.set _ (X5 (hσ.row hcs).1 (XM (D7 hσ hnew)))⟩
 case lookup ks z ok =>
  unfold KL at h;split at h <;> (try (cases h;done));simp only[QB] at h;obtain ⟨es,hes,h⟩:=h;split at h <;> (try (cases h;done));simp only[QA] at h;obtain ⟨res,hres,he⟩:=h;cases he
  have hg:QR σ.length ((res.map (·.2)).getD z)=true:=by
   cases res with
   | none=>exact Qdb (QF _) hcl
   | some p=>exact A6 (hσ.mapOf hes).1 hres p rfl
  refine ⟨?_,hσ⟩;split
  ·simp only[QR,QO,hg,WH,XI]
  ·exact hg
 case mapset ks =>
  unfold JZ at h;split at h <;> (try (cases h;done));simp only[QB] at h;obtain ⟨es,hes,h⟩:=h;split at h <;> (try (cases h;done));simp only[QA] at h;obtain ⟨res,hres,he⟩:=h;cases he
  simp only[QO,WH,QD] at ha;refine ⟨rfl,hσ.set _ ?_⟩;simp only[Z3,Q1,QD];intro e he;cases res with
  | none =>
   simp only[XU,YV,WZ] at he;rcases he with he | rfl
   ·exact (hσ.mapOf hes).1 e he
   ·exact ⟨ha.2.1,ha.2.2⟩
  | some p =>
   simp only[XU] at he;rcases List.mem_or_eq_of_mem_set he with h1 | rfl
   ·exact (hσ.mapOf hes).1 e h1
   ·exact ⟨ha.2.1,ha.2.2⟩
 case mapdel ks =>
  unfold J0 at h;split at h <;> (try (cases h;done));simp only[QB] at h;obtain ⟨es,hes,h⟩:=h;split at h <;> (try (cases h;done));simp only[QA] at h;obtain ⟨res,hres,he⟩:=h;cases he
  refine ⟨rfl,hσ.set _ ?_⟩;simp only[Z3,Q1,QD];intro e he;cases res with
  | none=>exact (hσ.mapOf hes).1 e he
  | some p=>exact (hσ.mapOf hes).1 e (List.mem_of_mem_eraseIdx he)
 case maplen=>unfold TS at h;split at h <;> (try (cases h;done));simp only[QA] at h;obtain ⟨_,_,he⟩:=h;cases he;exact ⟨rfl,hσ⟩
 case eqS neg ks=>unfold OI at h;split at h <;> (try (cases h;done));simp only[QA] at h;obtain ⟨v,hv,he⟩:=h;cases he;exact ⟨rfl,hσ⟩
 case mksliceC esz bytes zs=>unfold XR at h;split at h <;> (try (cases h;done));split at h <;> cases h;exact ⟨by simp[QR],hσ.push (KU (YL (QF _) hcl))⟩
 case slS3=>unfold TR at h;split at h <;> (try (cases h;done)) <;> (simp only[QB] at h;obtain ⟨_,_,_,_,_,_,h⟩:=h;split at h <;> cases h;exact ⟨rfl,hσ⟩)
 case cap=>unfold NZ at h;split at h <;> cases h;exact ⟨rfl,hσ⟩
 case appendz esz bytes zs =>
  unfold VQ at h;split at h <;> (try (cases h;done));simp only[QB] at h;obtain ⟨cs,hcs,h⟩:=h;split at h <;> cases h
  exact ⟨by simp[QR],hσ.push (YL (XE _) (VN (XM (JV (hσ.row hcs).1)) (KU (YL (QF _) hcl))))⟩
 case stuck=>cases h
 case mapent=>cases h
 case entst=>cases h
 case rstr=>unfold F6 at h;split at h <;> cases h;exact ⟨by simp[QR],hσ.push rfl⟩
 case snext =>
  unfold KX at h;split at h <;> (try (cases h;done));simp only[QA] at h;obtain ⟨_,_,h⟩:=h;split at h <;> cases h
  ·exact ⟨rfl,hσ.set _ rfl⟩
  ·exact ⟨rfl,hσ⟩
end Go.Proofs.YtgkidpolomhghaaGreatDoor.AM
namespace Go.Proofs.YtgkidpolomhghaaGreatDoor.AM
set_option linter.unusedSectionVars false
variable [Dr]
open Go
set_option linter.unusedVariables false
set_option linter.unusedSimpArgs false
theorem AP (io:IOp):kindOf io≤2:=by
 unfold kindOf;split <;> omega
theorem BL {io:IOp} {as_:List AV} {σ σ':List AObj} {r:AV} (h:ZQ io as_ σ=some (r,σ')):∀ (l:Nat) o,σ.length≤l→σ'[l]? = some o→o.live:=by
 have same:σ'=σ→∀ (l:Nat) o,σ.length≤l→σ'[l]? = some o→o.live:=by rintro rfl l o hl ho;rw[QN hl] at ho;cases ho
 have push:∀ (τ:List AObj) (x:AObj),σ'=τ++[x]→τ.length=σ.length→x.live→∀ (l:Nat) o,σ.length≤l→σ'[l]? = some o→o.live:=by
  rintro τ x rfl ht hx l o hl ho;rw[QS (by omega)] at ho;have:l-τ.length=0:=by have:=(QH.1 ho).1;simp at this;omega
  rw[this] at ho;simp at ho;subst ho;exact hx
 have set:∀ (x:Nat) (y:AObj),σ'=σ.set x y→∀ (l:Nat) o,σ.length≤l→σ'[l]? = some o→o.live:=by rintro x y rfl l o hl ho;rw[QN (by simp;omega)] at ho;cases ho
 by_cases h0:kindOf io=0
 ·exact same (KF h0 h).1
 by_cases h1:kindOf io=1
 ·exact same (GB h1 h)
 cases io <;> (try (exact absurd rfl h0)) <;> (try (exact absurd rfl h1)) <;> simp only[ZQ] at h
 case alloc zs=>unfold UO at h;split at h <;> cases h;exact push _ _ rfl rfl trivial
 case box=>unfold WI at h;split at h <;> (try (cases h;done));split at h <;> cases h;exact push _ _ rfl rfl trivial
 case bslice esz len zs ps=>unfold V4 at h;simp only[QA] at h;obtain ⟨v,hv,he⟩:=h;cases he;exact push _ _ rfl rfl trivial
 case store n=>unfold UM at h;split at h <;> (try (cases h;done));simp only[QB] at h;obtain ⟨cs,hcs,h⟩:=h;split at h <;> cases h;exact set _ _ rfl
 case mkmap=>unfold KY at h;split at h <;> cases h;exact push _ _ rfl rfl trivial
 case mkslice esz bytes zs=>unfold XB at h;split at h <;> (try (cases h;done));split at h <;> cases h;exact push _ _ rfl rfl trivial
 case mksliceC esz bytes zs=>unfold XR at h;split at h <;> (try (cases h;done));split at h <;> cases h;exact push _ _ rfl rfl trivial
 case append esz bytes =>
  unfold ZX at h;split at h <;> (try (cases h;done))
  ·simp only[QB] at h;obtain ⟨new,hnew,n,hn,h⟩:=h;split at h
   ·cases h;exact same rfl
   ·split at h <;> cases h;exact push _ _ rfl rfl trivial
  ·simp only[QB] at h;obtain ⟨cs,hcs,new,hnew,n,hn,h⟩:=h;split at h <;> cases h
   exact push _ _ rfl (by simp) trivial
  ·simp only[QB] at h;obtain ⟨cs,hcs,new,hnew,n,hn,h⟩:=h;split at h
   ·split at h <;> cases h;exact set _ _ rfl
   ·split at h <;> cases h;exact push _ _ rfl rfl trivial
 case clear zs=>unfold UN at h;split at h <;> (try (cases h;done)) <;> (simp only[QB] at h;obtain ⟨cs,hcs,h⟩:=h;split at h <;> cases h;exact set _ _ rfl)
 case copy esz=>unfold UE at h;split at h <;> (try (cases h;done));simp only[QB] at h;obtain ⟨cs,hcs,new,hnew,n,hn,h⟩:=h;split at h <;> cases h;exact set _ _ rfl
 case mapset ks=>unfold JZ at h;split at h <;> (try (cases h;done));simp only[QB] at h;obtain ⟨es,hes,h⟩:=h;split at h <;> (try (cases h;done));simp only[QA] at h;obtain ⟨res,hres,he⟩:=h;cases he;exact set _ _ rfl
 case mapdel ks=>unfold J0 at h;split at h <;> (try (cases h;done));simp only[QB] at h;obtain ⟨es,hes,h⟩:=h;split at h <;> (try (cases h;done));simp only[QA] at h;obtain ⟨res,hres,he⟩:=h;cases he;exact set _ _ rfl
 case stuck=>cases h
 case mapent=>cases h
 case entst=>cases h
 case appendz esz bytes zs=>unfold VQ at h;split at h <;> (try (cases h;done));simp only[QB] at h;obtain ⟨cs,hcs,h⟩:=h;split at h <;> cases h;exact push _ _ rfl rfl trivial
 case rstr=>unfold F6 at h;split at h <;> cases h;exact push _ _ rfl rfl trivial
 case snext =>
  unfold KX at h;split at h <;> (try (cases h;done));simp only[QA] at h;obtain ⟨_,_,h⟩:=h;split at h <;> cases h
  ·exact set _ _ rfl
  ·exact same rfl
def JA (kp:List Nat) (j:Nat) (i:Ins):Nat :=
 match i.op with
 | .prim io=>kindOf io
 | .call=>if kp.contains j then 1 else 2
def AU (i:Ins):Bool :=
 (match i.op with | .prim io=>ioCl io | .call=>true)&&i.args.all fun | .c a=>QR 0 a | _=>true
def pdAt (pds:List (List Nat)) (j:Nat):List Nat:=pds.getD j []
def IU (x:Nat) (i:Ins):Bool:=(i.args.any fun | .v y=>x == y | _=>false)||i.dst == some x
def HM (σ:List AObj) (v:AV) (τ:List AObj):Prop :=
 QR τ.length v=true∧σ.length≤τ.length∧∀ (l:Nat) o,τ[l]? = some o→σ[l]?≠some o→Z3 τ.length o=true∧(σ.length≤l→o.live)
def RP (P:Program) (kp:List Nat):Nat→List Ins→List AV→List AV→List AObj→(List AV→List AV→List AObj→Prop)→Prop
 | _,[],vals,ρ,σ,K=>K vals ρ σ
 | j,i::is,vals,ρ,σ,K =>
  match gdOk ρ i.gd with
  | none=>False
  | some false=>RP P kp (j+1) is (setD i.dst vals (.tup [])) (ρ++[.tup []]) σ K
  | some true =>
   match i.op,i.args.map (WY vals ρ) with
   | .prim io,as_ =>
    match ZQ io as_ σ with
    | some (v,σ')=>RP P kp (j+1) is (setD i.dst vals v) (ρ++[v]) σ' K
    | none=>False
   | .call,fv::as_=>if kp.contains j then ∃ v,X0 P fv as_ σ (fun v' τ'=>v'=v∧τ'=σ)∧QR σ.length v=true∧RP P kp (j+1) is (setD i.dst vals v) (ρ++[v]) σ K
     else ∃ v τ,X0 P fv as_ σ (fun v' τ'=>v'=v∧τ'=τ)∧HM σ v τ∧RP P kp (j+1) is (setD i.dst vals v) (ρ++[v]) τ K
   | .call,[]=>False
def VS (P:Program) (kp:List Nat) (j:Nat) (i:Ins) (vals ρ:List AV) (σ:List AObj) (v:AV) (τ:List AObj):Prop :=
 match gdOk ρ i.gd with
 | none=>False
 | some false=>v=.tup []∧τ=σ
 | some true =>
  match i.op,i.args.map (WY vals ρ) with
  | .prim io,as_=>ZQ io as_ σ=some (v,τ)
  | .call,fv::as_=>X0 P fv as_ σ (fun v' τ'=>v'=v∧τ'=τ)∧HM σ v τ∧(kp.contains j=true→τ=σ)
  | .call,[]=>False
variable {P:Program} {fx:Fx} {Q:Exit→St→Prop} {s:St}
theorem HM.refl {σ:List AObj} {v:AV} (h:QR σ.length v=true):HM σ v σ:=⟨h,QG _,fun l o h1 h2=>absurd h1 h2⟩
theorem KJ (σ:List AObj) (f:Nat→Bool) (hf:∀ l,f l=false):VU f σ=σ:=by
 apply Z1;intro l;rw[J6,hf];cases σ[l]? <;> simp
theorem CO {n:Nat} {vals ρ:List AV} {x:Opd} (hv:QO n vals=true) (hr:QO n ρ=true) (hc:(match x with | .c a=>QR 0 a | _=>true)=true):QR n (WY vals ρ x)=true:=by
 cases x with
 | v i=>exact XO hv i
 | t j=>exact XO hr j
 | c a=>exact Qdb (QF _) hc
end Go.Proofs.YtgkidpolomhghaaGreatDoor.AM
namespace Go.Proofs.YtgkidpolomhghaaGreatDoor.AM
set_option linter.unusedSectionVars false
variable [Dr]
open Go
set_option linter.unusedVariables false
set_option linter.unusedSimpArgs false
theorem RE {P:Program} {f:FuncId} {fn:Func} {c:Code} (hf:P.funcs[f]? = some fn) (hn:(fn.name == "runtime.NumGoroutine")=false) (hb:fn.body=some c):PI P f:=by
 intro args w;unfold callFunc;simp only[Sem.run_bind,show (program).run P w=.ok P w from rfl,Result.andThen_ok,hf,hn,hb,Option.isNone,QT,if_false,Sem.run_pure]
mutual
def ren (g:Nat→Nat):AV→AV
 | .cv c=>.cv c
 | .ptr l o=>.ptr (g l) o
 | .sl l o n e=>.sl (g l) o n e
 | .map l=>.map (g l)
 | .fn f cs=>.fn f (rens g cs)
 | .bm f cs=>.bm f (rens g cs)
 | .yld l=>.yld (g l)
 | .agg cs=>.agg (rens g cs)
 | .tup cs=>.tup (rens g cs)
 | .undef=>.undef
 | .slc l o n c e=>.slc (g l) o n c e
def rens (g:Nat→Nat):List AV→List AV
 | []=>[]
 | a::as_=>ren g a::rens g as_
end
def renO (g:Nat→Nat):AObj→AObj
 | .dead=>.dead
 | .cells cs=>.cells (rens g cs)
 | .map es=>.map (es.map fun e=>(ren g e.1,ren g e.2))
 | .siter s p=>.siter s p
 | .loop r=>.loop { r with vals:=rens g r.vals }
theorem UY (g:Nat→Nat):∀ vs:List AV,(rens g vs).length=vs.length
 | []=>rfl
 | v::vs=>by simp[rens,UY g vs]
theorem O3 (g:Nat→Nat):∀ (vs:List AV) (i:Nat),(rens g vs).getD i .undef=ren g (vs.getD i .undef)
 | [],i=>by simp[rens,ren]
 | v::vs,0=>by simp[rens]
 | v::vs,i+1=>by simpa[rens] using O3 g vs i
mutual
theorem PU {g:Nat→Nat} {k:Nat} (hg:∀ l,l<k→g l=l):∀ a:AV,QR k a=true→ren g a=a
 | .cv _,_=>rfl
 | .ptr l _,h=>by simp only[QR,decide_eq_true_eq] at h;simp[ren,hg l h]
 | .sl l _ _ _,h=>by simp only[QR,decide_eq_true_eq] at h;simp[ren,hg l h]
 | .map l,h=>by simp only[QR,decide_eq_true_eq] at h;simp[ren,hg l h]
 | .fn _ cs,h=>by simp only[QR] at h;simp[ren,E0 hg cs h]
 | .bm _ cs,h=>by simp only[QR] at h;simp[ren,E0 hg cs h]
 | .yld l,h=>by simp only[QR,decide_eq_true_eq] at h;simp[ren,hg l h]
 | .agg cs,h=>by simp only[QR] at h;simp[ren,E0 hg cs h]
 | .tup cs,h=>by simp only[QR] at h;simp[ren,E0 hg cs h]
 | .undef,_=>rfl
 | .slc l _ _ _ _,h=>by simp only[QR,decide_eq_true_eq] at h;simp[ren,hg l h]
theorem E0 {g:Nat→Nat} {k:Nat} (hg:∀ l,l<k→g l=l):∀ vs:List AV,QO k vs=true→rens g vs=vs
 | [],_=>rfl
 | v::vs,h=>by simp only[QO,QD] at h;simp[rens,PU hg v h.1,E0 hg vs h.2]
end
theorem E1 {g:Nat→Nat} {k:Nat} (hg:∀ l,l<k→g l=l) {o:AObj} (h:Z3 k o=true):renO g o=o:=by
 cases o with
 | dead=>rfl
 | cells cs=>simp[renO,E0 hg cs h]
 | map es =>
  simp only[Z3,Q1,QD] at h;simp only[renO,AObj.map.injEq]
  conv=>rhs;rw[← List.map_id es]
  apply JI;intro e he;simp[PU hg _ (h e he).1,PU hg _ (h e he).2]
 | siter _ _=>rfl
 | loop r=>simp only[Z3] at h;simp[renO,E0 hg _ h]
section
variable {m m2:LM} {X:Nat→Prop} {w:World} {g:Nat→Nat} {k:Nat}
mutual
theorem VRel.ren (hm:∀ l,l<k→m2 l=m (g l)) (ho:∀ b,Own m2 X b→Own m X b):∀ (a:AV) (v:Value),QR k a=true→VRel m X w (AM.ren g a) v→VRel m2 X w a v
 | .cv c,v,_,h=>by simp only[AM.ren,VRel] at h ⊢;exact CV.rep_less ho c v h
 | .ptr l off,v,hk,h=>by simp only[AM.ren,VRel,QR,decide_eq_true_eq] at h hk ⊢;rw[hm l hk];exact h
 | .sl l off len esz,v,hk,h=>by simp only[AM.ren,VRel,QR,decide_eq_true_eq] at h hk ⊢;rw[hm l hk];exact h
 | .map l,v,hk,h=>by simp only[AM.ren,VRel,QR,decide_eq_true_eq] at h hk ⊢;rw[hm l hk];exact h
 | .fn f cs,v,hk,h=>by simp only[AM.ren,VRel,QR] at h hk ⊢;obtain ⟨vs,h1,h2⟩:=h;exact ⟨vs,h1,QK.ren hm ho cs vs hk h2⟩
 | .bm f cs,v,hk,h=>by simp only[AM.ren,VRel,QR] at h hk ⊢;obtain ⟨vs,h1,h2⟩:=h;exact ⟨vs,h1,QK.ren hm ho cs vs hk h2⟩
 | .yld l,v,hk,h=>by simp only[AM.ren,VRel,QR,decide_eq_true_eq] at h hk ⊢;rw[hm l hk];exact h
 | .agg cs,v,hk,h=>by simp only[AM.ren,VRel,QR] at h hk ⊢;obtain ⟨vs,h1,h2⟩:=h;exact ⟨vs,h1,QK.ren hm ho cs vs hk h2⟩
 | .tup cs,v,hk,h=>by simp only[AM.ren,VRel,QR] at h hk ⊢;obtain ⟨vs,h1,h2⟩:=h;exact ⟨vs,h1,QK.ren hm ho cs vs hk h2⟩
 | .undef,v,_,_=>by simp[VRel]
 | .slc l off len cap esz,v,hk,h=>by simp only[AM.ren,VRel,QR,decide_eq_true_eq] at h hk ⊢;rw[hm l hk];exact h
theorem QK.ren (hm:∀ l,l<k→m2 l=m (g l)) (ho:∀ b,Own m2 X b→Own m X b):∀ (as_:List AV) (vs:List Value),QO k as_=true→QK m X w (AM.rens g as_) vs→QK m2 X w as_ vs
 | [],[],_,_=>by simp[QK]
 | a::as_,v::vs,hk,h=>by simp only[AM.rens,QK,QO,QD] at h hk ⊢;exact ⟨VRel.ren hm ho a v hk.1 h.1,QK.ren hm ho as_ vs hk.2 h.2⟩
 | [],_::_,_,h=>by simp[AM.rens,QK] at h
 | _::_,[],_,h=>by simp[AM.rens,QK] at h
end
theorem ORel.ren (hm:∀ l,l<k→m2 l=m (g l)) (ho:∀ b,Own m2 X b→Own m X b) {b:Option Nat} {o:AObj} (hk:Z3 k o=true) (h:ORel m X w b (renO g o)):ORel m2 X w b o:=by
 cases b with
 | none=>cases o <;> simp[ORel,renO] at h ⊢
 | some b =>
  cases o with
  | dead=>trivial
  | cells cs =>
   simp only[ORel,renO,Z3,UY] at h hk ⊢;obtain ⟨c,e,h1,h2,h3⟩:=h;exact ⟨c,e,h1,h2,QK.ren hm ho _ _ hk h3⟩
  | map es =>
   simp only[ORel,renO,Z3,ZK] at h hk ⊢;obtain ⟨ces,clock,h1,h2,h3,h4,h5⟩:=h;refine ⟨ces,clock,h1,h2,h3,h4,fun i kk a hi=>?_⟩;obtain ⟨e,he,g1,g2⟩:=h5 i (AM.ren g kk) (AM.ren g a) (by rw[ZR,hi];rfl);rw[Q1] at hk;have:=hk _ (QZ hi);simp only[QD] at this;exact ⟨e,he,VRel.ren hm ho _ _ this.1 g1,VRel.ren hm ho _ _ this.2 g2⟩
  | siter s0 p=>exact h
  | loop r =>
   simp only[ORel,renO,Z3,UY] at h hk ⊢;obtain ⟨tmps,d,fi,h1,h2,h3⟩:=h;refine ⟨tmps,d,fi,h1,fun i t hi=>?_,h3⟩;have:=h2 i t hi;simp only[O3] at this;exact VRel.ren hm ho _ _ (XO hk i) this
end
theorem EI {g:Nat→Nat} {o:AObj} (h:o.live):(renO g o).live:=by cases o <;> simp_all [renO,AObj.live]
variable {P:Program}
structure Tidy (n0:Nat) (σ:List AObj) (r:AV) (σ':List AObj) (g:Nat→Nat) (r2:AV) (σ2:List AObj):Prop where
 low:∀ l,l<n0→g l=l
 rise:∀ a b,a<b→b<σ2.length→g a<g b
 le:n0≤σ2.length
 res:r=ren g r2
 rin:QR σ2.length r2=true
 obj:∀ (l:Nat) o,σ2[l]? = some o→(l<n0∧σ[l]? = some o∧σ'[l]? = some o)∨(Z3 σ2.length o=true∧σ'[g l]? = some (renO g o))
theorem AC.tidy {f:FuncId} {args:List AV} {σ:List AObj} {Q Q':AV→List AObj→Prop} (h:AC P f args σ Q) (hq:∀ r σ',Q r σ'→∃ g r2 σ2,Tidy σ.length σ r σ' g r2 σ2∧Q' r2 σ2):AC P f args σ Q':=by
 refine ⟨h.1,fun m X w cargs ha hh=>(h.2 m X w cargs ha hh).mono ?_⟩;rintro e w' ⟨c,r,σ',m',rfl,hQ,hr,hh',hst,hle⟩;obtain ⟨g,r2,σ2,ht,hQ'⟩:=hq r σ' hQ
 let m2:LM:=fun l=>if l<σ2.length then m' (g l) else none
 have hm2:∀ l,l<σ2.length→m2 l=m' (g l):=fun l hl=>by simp only[m2];rw[if_pos hl]
 have hm2s:∀ l b,m2 l=some b→l<σ2.length∧m' (g l)=some b:=fun l b hl=>by
  simp only[m2] at hl;split at hl
  ·rename_i h;exact ⟨h,hl⟩
  ·cases hl
 have how:∀ b,Own m2 X b→Own m' X b:=by
  rintro b (hx | ⟨l,hl⟩)
  ·exact .inl hx
  ·exact .inr ⟨g l,(hm2s l b hl).2⟩
 have hobj:∀ (l:Nat) o,σ2[l]? = some o→Z3 σ2.length o=true∧σ'[g l]? = some (renO g o):=by
  intro l o ho;rcases ht.obj l o ho with ⟨h1,h2,h3⟩ | h1
  ·have hin:=hh.closed l o h2;refine ⟨H1 _ _ o ht.le hin,?_⟩;rw[ht.low l h1,E1 ht.low hin];exact h3
  ·exact h1
 refine ⟨c,r2,σ2,m2,rfl,hQ',?_,⟨hh'.xb,?_,?_,?_,?_,hh'.gl.less how⟩,⟨?_,?_,hst.size,hst.fr,hst.shp,hst.os,hst.tape,hst.output,hst.drawn⟩,ht.le⟩
 ·exact VRel.ren hm2 how r2 c ht.rin (by rw[← ht.res];exact hr)
 ·intro l b hl;obtain ⟨h1,h2⟩:=hm2s l b hl;exact ⟨h1,(hh'.dom _ b h2).2⟩
 ·intro l b o hl ho hv;obtain ⟨h1,h2⟩:=hm2s l b hl;exact hh'.own (g l) b _ h2 (hobj l o ho).2 (EI hv)
 ·intro l l' b o' hl hl' ho' hv;obtain ⟨h1,h2⟩:=hm2s l b hl;obtain ⟨h1',h2'⟩:=hm2s l' b hl';have:=hh'.inj (g l) (g l') b _ h2 h2' (hobj l' o' ho').2 (EI hv);rcases ZB l' l with hlt | hge
  ·have:=ht.rise l' l hlt h1;omega
  ·exact hge
 ·intro l o ho;obtain ⟨h1,h2⟩:=hobj l o ho;have hl:l<σ2.length:=(QH.1 ho).1;rw[hm2 l hl];exact ORel.ren hm2 how h1 (hh'.obj _ _ h2)
 ·intro l hl;rw[hm2 l (by have:=ht.le;omega),ht.low l hl];exact hst.keep l hl
 ·intro l b hl;exact hst.new _ b (hm2s l b hl).2
end Go.Proofs.YtgkidpolomhghaaGreatDoor.AM
namespace Go.Proofs.YtgkidpolomhghaaGreatDoor.AM
set_option linter.unusedSectionVars false
variable [Dr]
open Go
set_option linter.unusedVariables false
set_option linter.unusedSimpArgs false
section
variable {P:Program} {b:Frame} {a:Act} {k:List Item} {cs:List Frame} {w:World}
theorem UX {c:Code}:step P (lone (b.atR a (.code (.scope c)::k)) cs w)=.next (lone (b.atR a (.code c :: .inScope c::k)) cs w) :=
 step_lone_go (by simp[stepG,stepG.exec,Frame.atR])
theorem SG {c:Code}:step P (lone (b.atR a (.inScope c::k)) cs w)=.next (lone (b.atR a k) cs w) :=
 step_lone_go (by simp[stepG,stepG.exec,Frame.atR])
theorem LS {F:Fence} {n:Nat} {Q:Exit→Act→World→Prop} {c:Code} (h:c.wpIn F n P (fun e a w=>match e with | .goto _=>False | e=>Q e a w) a w):(Code.scope c).wpIn F n P Q a w:=by
 intro b k cs hro hb hr;have h0:(lone (b.atR a (.code (.scope c)::k)) cs w).fenced P F:=fenced_calm hb hr rfl;obtain ⟨e,a₁,w₁,hq,harr⟩:=h b (.inScope c::k) cs hro hb hr;cases e with
 | normal=>exact ⟨.normal,a₁,w₁,hq,.head h0 UX (StepsIn.trans harr (.one (fenced_calm hb hr rfl) SG))⟩
 | exit id' =>
  have hx:exitTo id' (.inScope c::k)=exitTo id' k:=by simp[exitTo]
  exact ⟨.exit id',a₁,w₁,hq,fun k' hk=>.head h0 UX (harr.1 k' (by rw[hx];exact hk)),
   fun hr' hk=>let ⟨k₁,h1,h2⟩:=harr.2 hr' (by rw[hx];exact hk);⟨k₁,h1,.head h0 UX h2⟩⟩
 | goto l=>exact hq.elim
 | ret=>exact ⟨_,a₁,w₁,hq,.of_steps (.one h0 UX) harr⟩
 | panic ch=>exact ⟨_,a₁,w₁,hq,.of_steps (.one h0 UX) harr⟩
 | outgrown=>exact ⟨_,a₁,w₁,hq,.of_steps (.one h0 UX) harr⟩
end
theorem QeI {P:Program} {fx:Fx} {s:St} {Q:Exit→St→Prop} {c:Code} (h:W P fx c s fun e s'=>match e with | .goto _=>False | e=>Q e s'):W P fx (.scope c) s Q:=by
 intro m X en ac w hs hr;refine LS (wpIn_mono (h m X en ac w hs hr) ?_);rintro e ac' w' ⟨s',m',hq,hs',hst⟩;cases e with
 | goto l=>exact hq.elim
 | _=>exact ⟨s',m',hq,hs',hst⟩
theorem XD {P:Program} {fx:Fx} {s:St} {Q:Exit→St→Prop} {b:Bool} {x y:Code} (h:W P fx (if b then x else y) s Q):W P fx (.cond (.const (.bool b)) x y) s Q :=
 fun m X en ac w hs hr=>wpIn_cond (t:=b) rfl (h m X en ac w hs hr)
inductive IC where
 | scope (a:IC)
 | skip
 | label (l:Nat)
 | exit (i:Nat)
 | ret
 | seq (a b:IC)
 | block (i:Nat) (a:IC)
 | cond (i:Nat) (a b:IC)
 | loop (a:IC)
 | region (is:List Ins)
 | draw (dirs:List (List Nat)) (is:List Ins) (pds:List (List Nat))
 | rangef (g:Opd) (ps:Array Nat) (assign body:Code) (ia ib:IC)
def Qbd:List (List Nat)→List (List Nat)→List (List Nat)
 | [],pds=>pds
 | d::ds,pds=>Qbd ds (pds++[(d++d.flatMap fun e=>pds.getD e []).eraseDups])
def UU (ops:Array Oper):List (List Nat):=(List.range ops.size).map (V9 ops)
def IC.dr (dirs:List (List Nat)) (is:List Ins):IC:=.draw dirs is (Qbd dirs [])
def QL (P:Program) (vars:List Nat) (N:Nat):Code→Option IC
 | .skip=>some .skip
 | .label l=>some (.label l)
 | .exit i=>some (.exit i)
 | .ret=>some .ret
 | .seq a b=>(QL P vars N a).bind fun x=>(QL P vars N b).map fun y=>.seq x y
 | .block i a=>(QL P vars N a).map fun x=>.block i x
 | .loop a=>(QL P vars N a).map fun x=>.loop x
 | .scope a=>(QL P vars N a).map fun x=>.scope x
 | .cond (.const (.bool b)) x y=>if b then QL P vars N x else QL P vars N y
 | .cond (.tmp t) a b=>(vars.idxOf? t).bind fun i=>(QL P vars N a).bind fun x=>(QL P vars N b).map fun y=>.cond i x y
 | .region _ ops false=>(VY P vars N ops).map .region
 | .region _ ops true=>(VY P vars N ops).map fun is=>.draw (UU ops) is (Qbd (UU ops) [])
 | .rangeFunc g ps assign body=>(QL P vars N assign).bind fun ia=>(QL P vars N body).map fun ib=>.rangef (XA vars [] g) ps assign body ia ib
 | _=>none
variable {P:Program} {fx:Fx} {s:St} {Q:Exit→St→Prop}
def DW (P:Program) (fx:Fx) (dirs:List (List Nat)) (is:List Ins) (s:St) (Q:Exit→St→Prop):Prop :=
 ∀ id ops,UU ops=dirs→VY P fx.vars fx.N ops=some is→W P fx (.region id ops true) s Q
def IL (P:Program) (fx:Fx) (a:IC) (s:St) (Q:Exit→St→Prop):Prop :=
 ∀ c,QL P fx.vars fx.N c=some a→WL P fx c s Q
def RW (P:Program) (fx:Fx) (g:Opd) (ps:Array Nat) (assign body:Code) (s:St) (Q:Exit→St→Prop):Prop :=
 ∃ gf cap,WY s.vals [] g=.fn (.func gf) cap∧s.vals.length≤fx.vars.length∧(∀ l0,fx.r=some l0→∃ r0,s.heap[l0]? = some (.loop r0)) ∧
  AC P gf (.yld s.heap.length::cap) (s.heap++[.loop (VJ fx s.vals ps assign body)]) fun _ σ'=>U9 P fx s.vals s.heap.length Q σ'
def IW (P:Program) (fx:Fx):IC→St→(Exit→St→Prop)→Prop
 | .skip,s,Q=>Q .normal s
 | .label _,s,Q=>Q .normal s
 | .exit i,s,Q=>Q (.exit i) s
 | .ret,s,Q=>Q .ret s
 | .seq a b,s,Q=>IW P fx a s fun e s'=>match e with | .normal=>IW P fx b s' Q | e=>Q e s'
 | .block i a,s,Q=>IW P fx a s fun e s'=>match e with | .exit i'=>if i'=i then Q .normal s' else Q (.exit i') s' | e=>Q e s'
 | .cond i a b,s,Q=>∃ t,s.vals.getD i .undef=.b t∧(if t then IW P fx a s Q else IW P fx b s Q)
 | .loop a,s,Q=>IL P fx a s Q
 | .scope a,s,Q=>IW P fx a s fun e s'=>match e with | .goto _=>False | e=>Q e s'
 | .region is,s,Q=>RG P is s.vals [] s.heap fun vals _ σ=>Q .normal ⟨vals,σ⟩
 | .draw dirs is _,s,Q=>DW P fx dirs is s Q
 | .rangef g ps assign body _ _,s,Q=>RW P fx g ps assign body s Q
theorem Y6:∀ (c:Code) (ic:IC) (s:St) (Q:Exit→St→Prop),QL P fx.vars fx.N c=some ic→IW P fx ic s Q→W P fx c s Q
 | .skip,ic,s,Q,hc,h=>by simp only[QL,Option.some.injEq] at hc;subst hc;exact W_skip h
 | .label l,ic,s,Q,hc,h=>by simp only[QL,Option.some.injEq] at hc;subst hc;exact QeJ h
 | .exit i,ic,s,Q,hc,h=>by simp only[QL,Option.some.injEq] at hc;subst hc;exact QbM h
 | .ret,ic,s,Q,hc,h=>by simp only[QL,Option.some.injEq] at hc;subst hc;exact QcP h
 | .seq a b,ic,s,Q,hc,h=>by
  simp only[QL,QB,QA] at hc;obtain ⟨x,hx,y,hy,rfl⟩:=hc;refine QcO ((Y6 a x s _ hx h).mono ?_);intro e s' hq;cases e with
  | normal=>exact Y6 b y s' Q hy hq
  | _=>exact hq
 | .block i a,ic,s,Q,hc,h=>by simp only[QL,QA] at hc;obtain ⟨x,hx,rfl⟩:=hc;exact QbO (Y6 a x s _ hx h)
 | .loop a,ic,s,Q,hc,h=>by simp only[QL,QA] at hc;obtain ⟨x,hx,rfl⟩:=hc;exact W_loop (h a hx)
 | .scope a,ic,s,Q,hc,h=>by simp only[QL,QA] at hc;obtain ⟨x,hx,rfl⟩:=hc;exact QeI (Y6 a x s _ hx h)
 | .cond (.const v) a b,ic,s,Q,hc,h=>by
  cases v <;> simp only[QL,reduceCtorEq] at hc
  rename_i t;cases t with
  | true=>simp only[if_true] at hc;exact XD (Y6 a ic s Q hc h)
  | false=>simp only[QT,if_false] at hc;exact XD (Y6 b ic s Q hc h)
 | .cond (.tmp t) a b,ic,s,Q,hc,h=>by
  simp only[QL,QB,QA] at hc;obtain ⟨i,hi,x,hx,y,hy,rfl⟩:=hc;obtain ⟨b',hb,h⟩:=h;refine QbN (Y9 hi) hb ?_;cases b' with
  | true=>exact Y6 a x s Q hx h
  | false=>exact Y6 b y s Q hy h
 | .region id ops false,ic,s,Q,hc,h=>by simp only[QL,QA] at hc;obtain ⟨is,his,rfl⟩:=hc;exact C5 his h
 | .region id ops true,ic,s,Q,hc,h=>by simp only[QL,QA] at hc;obtain ⟨is,his,rfl⟩:=hc;exact h id ops rfl his
 | .rangeFunc g ps assign body,ic,s,Q,hc,h=>by simp only[QL,QB,QA] at hc;obtain ⟨ia,h1,ib,h2,rfl⟩:=hc;obtain ⟨gf,cap,g1,g2,g3,g4⟩:=h;exact N6 rfl g1 g2 g3 g4
 | .cond (.global _) _ _,_,_,_,hc,_=>by simp[QL] at hc
 | .cond (.func _) _ _,_,_,_,hc,_=>by simp[QL] at hc
 | .goto _,_,_,_,hc,_=>by simp[QL] at hc
 | .refuse _,_,_,_,hc,_=>by simp[QL] at hc
theorem QfI {a:IC} (h:IW P fx a s fun e s'=>match e with | .normal=>IL P fx a s' Q | e=>Q e s'):IL P fx a s Q :=
 fun c hc=>FG ((Y6 c a s _ hc h).mono fun e s' hq=>by
  cases e with
  | normal=>exact hq c hc
  | _=>exact hq)
theorem IL.weak {a:IC} {s':St} (hw:Weak fx s s') (h:IL P fx a s' Q):IL P fx a s Q:=fun c hc=>(h c hc).weak hw
theorem AC_IW {f:FuncId} {fn:Func} {c:Code} {ic:IC} {args:List AV} {σ:List AObj} {Q:AV→List AObj→Prop} (vars:List Nat) (hf:P.funcs[f]? = some fn) (hb:fn.body=some c) (hn:(fn.name == "runtime.NumGoroutine")=false) (hargs:args.length≤fn.ntmps)
  (hc:QL P vars fn.ntmps c=some ic)
  (h:IW P ⟨vars,fn.ntmps,none,σ.length⟩ ic ⟨Y5 vars args,σ⟩ fun e s'=>match e with
   | .normal | .ret=>∃ r,UB P vars s'.vals s'.heap fn.results.toList=some r∧Q r s'.heap
   | _=>False):AC P f args σ Q :=
 IB hf hb (RE hf hn hb) hargs (Y6 (fx:=⟨vars,fn.ntmps,none,σ.length⟩) c ic _ _ hc h)
def bts (l:List Nat):ByteArray:=⟨(l.map UInt8.ofNat).toArray⟩
def nav:List Nat→Code→Code
 | [],c=>c
 | 0::p,.seq a _=>nav p a
 | 1::p,.seq _ b=>nav p b
 | 0::p,.cond _ a _=>nav p a
 | 1::p,.cond _ _ b=>nav p b
 | 0::p,.block _ a=>nav p a
 | 0::p,.loop a=>nav p a
 | 0::p,.scope a=>nav p a
 | 2::p,.rangeFunc _ _ a _=>nav p a
 | 3::p,.rangeFunc _ _ _ b=>nav p b
 | _,_=>.skip
end Go.Proofs.YtgkidpolomhghaaGreatDoor.AM
namespace Go.Proofs.YtgkidpolomhghaaGreatDoor.AM
variable [Dr]
open Go
def JJ:AV→List Nat
 | .ptr l _=>[l]
 | .sl l _ _ _=>[l]
 | .map l=>[l]
 | .slc l _ _ _ _=>[l]
 | _=>[]
inductive PlT where
 | no
 | at (io:IOp) (as_:List AV) (n:Nat)
 deriving Inhabited
def O4 (k n:Nat):List Nat:=match k with | 2=>[n] | _=>[]
def YX:PlT→List Nat
 | .no=>[]
 | .at io as_ n=>as_.flatMap JJ++O4 (kindOf io) n
def plOf (i:Ins) (as_:List AV) (σ:List AObj):PlT :=
 match i.op with
 | .prim io=>.at io as_ σ.length
 | .call=>.no
theorem JX {f:Nat→Bool} {σ:List AObj} {x:AObj} (h:f σ.length=false):VU f (σ++[x])=VU f σ++[x]:=by
 simp[VU,List.mapIdx_append,h]
theorem KV {f:Nat→Bool} {σ:List AObj} {l:Nat} {x:AObj} (h:f l=false):VU f (σ.set l x)=(VU f σ).set l x:=by
 apply Z1;intro k;rw[J6];by_cases hk:l=k
 ·subst hk;by_cases hl:l<σ.length
  ·rw[Z2 hl,Z2 (by rw[YA];exact hl)];simp[h]
  ·rw[QN (by simp;omega),QN (by simp[YA];omega)];rfl
 ·rw[QU hk,QU hk,J6]
theorem JG {f:Nat→Bool} {σ:List AObj} {l:Nat} (h:f l=false):rowOf (VU f σ) l=rowOf σ l:=by
 unfold rowOf;rw[J6];cases σ[l]? with
 | none=>rfl
 | some o=>simp[h]
theorem E6 {f:Nat→Bool} {σ:List AObj} {l:Nat} (h:f l=false):mapOf (VU f σ) l=mapOf σ l:=by
 unfold mapOf;rw[J6];cases σ[l]? with
 | none=>rfl
 | some o=>simp[h]
theorem QaZ {f:Nat→Bool} {σ:List AObj} {l:Nat} (h:f l=false):RH (VU f σ) l=RH σ l:=by
 unfold RH;rw[J6];cases σ[l]? with
 | none=>rfl
 | some o=>simp[h]
theorem IG {f:Nat→Bool} {σ:List AObj} {e:Nat} {x:AV} (h:∀ l∈JJ x,f l=false):Z9 (VU f σ) e x=Z9 σ e x:=by
 cases x with
 | sl l off len esz =>
  simp only[Z9];rw[JG (h l (by simp[JJ]))]
 | slc l off len cap esz =>
  simp only[Z9];rw[JG (h l (by simp[JJ]))]
 | cv c=>cases c <;> rfl
 | _=>rfl
theorem Qc3 {io:IOp} {as_:List AV} {σ σ':List AObj} {r:AV} {f:Nat→Bool} (h:ZQ io as_ σ=some (r,σ')) (hf:∀ l∈YX (.at io as_ σ.length),f l=false):ZQ io as_ (VU f σ)=some (r,VU f σ'):=by
 by_cases h0:kindOf io=0
 ·obtain ⟨e1,e2⟩:=KF h0 h;rw[e1];exact e2 _
 have hn:kindOf io=2→f σ.length=false:=fun hk=>hf _ (by simp[YX,hk,O4])
 cases io <;> (try exact absurd rfl h0) <;> simp only[ZQ] at h ⊢
 case alloc zs =>
  unfold UO at h ⊢;split at h <;> (try (cases h;done))
  cases h;rw[JX (hn rfl),YA]
 case box =>
  unfold WI at h ⊢;split at h <;> (try (cases h;done))
  split at h <;> (try (cases h;done))
  rename_i hc;cases h;rw[if_neg hc,JX (hn rfl),YA]
 case bslice e n zs ps =>
  unfold V4 at h ⊢;simp only[QA] at h ⊢;obtain ⟨cs,h1,h2⟩:=h;cases h2;exact ⟨cs,h1,by rw[JX (hn rfl),YA]⟩
 case load1 =>
  unfold KZ at h ⊢;split at h <;> (try (cases h;done))
  ·rename_i l off;rw[JG (hf l (by simp[YX,JJ]))];simp only[QB,QA] at h ⊢;obtain ⟨cs,h1,v,h2,he⟩:=h;cases he;exact ⟨cs,h1,_,h2,rfl⟩
  ·simp only[QA] at h ⊢;obtain ⟨v,h1,he⟩:=h;cases he;exact ⟨v,h1,rfl⟩
 case loadN n =>
  unfold YF at h ⊢;split at h <;> (try (cases h;done))
  ·rename_i l off;rw[JG (hf l (by simp[YX,JJ]))];simp only[QB] at h ⊢;obtain ⟨cs,h1,h⟩:=h;split at h <;> (try (cases h;done))
   rename_i hc;cases h;exact ⟨cs,h1,by rw[if_pos hc]⟩
  ·split at h <;> (try (cases h;done))
   rename_i hc;cases h;rw[if_pos hc]
 case store n =>
  unfold UM at h ⊢;split at h <;> (try (cases h;done))
  rename_i l off v;have hl:=hf l (by simp[YX,JJ]);rw[JG hl];simp only[QB] at h ⊢;obtain ⟨cs,h1,h⟩:=h;split at h <;> (try (cases h;done))
  rename_i hc;cases h;exact ⟨cs,h1,by rw[if_pos hc,KV hl]⟩
 case mkmap =>
  unfold KY at h ⊢;split at h <;> (try (cases h;done))
  cases h;rw[JX (hn rfl),YA]
 case mkslice e b zs =>
  unfold XB at h ⊢;split at h <;> (try (cases h;done))
  split at h <;> (try (cases h;done))
  rename_i hc;cases h;rw[if_pos hc,JX (hn rfl),YA]
 case mksliceC e b zs =>
  unfold XR at h ⊢;split at h <;> (try (cases h;done))
  split at h <;> (try (cases h;done))
  rename_i hc;cases h;rw[if_pos hc,JX (hn rfl),YA]
 case slA n e lo hi =>
  unfold OG at h ⊢;split at h <;> (try (cases h;done))
  rename_i l off bs;rw[JG (hf l (by simp[YX,JJ]))];simp only[QB] at h ⊢;obtain ⟨cs,h1,p,h2,h⟩:=h;split at h <;> (try (cases h;done))
  rename_i hc;cases h;exact ⟨cs,h1,p,h2,by rw[if_pos hc]⟩
 case append e b =>
  unfold ZX at h ⊢;split at h <;> (try (cases h;done))
  ·rename_i x;rw[IG (fun l hl=>hf l (by simp[YX,hl]))];simp only[QB] at h ⊢;obtain ⟨new,h1,n,h2,h⟩:=h;refine ⟨new,h1,n,h2,?_⟩;split at h
   ·rename_i hc;cases h;rw[if_pos hc]
   ·rename_i hc;rw[if_neg hc];split at h <;> (try (cases h;done))
    rename_i hc2;cases h;rw[if_pos hc2,JX (hn rfl),YA]
  ·rename_i l len e' x;have hl:=hf l (by simp[YX,JJ]);rw[IG (fun l hl=>hf l (by simp[YX,hl])),JG hl];simp only[QB] at h ⊢;obtain ⟨cs,h0,new,h1,n,h2,h⟩:=h;refine ⟨cs,h0,new,h1,n,h2,?_⟩;split at h <;> (try (cases h;done))
   rename_i hc2;cases h;rw[if_pos hc2,JX (by rw[WE];exact hn rfl),KV hl,YA]
  ·rename_i l off len cap e' x;have hl:=hf l (by simp[YX,JJ]);rw[IG (fun l hl=>hf l (by simp[YX,hl])),JG hl];simp only[QB] at h ⊢;obtain ⟨cs,h0,new,h1,n,h2,h⟩:=h;refine ⟨cs,h0,new,h1,n,h2,?_⟩;split at h
   ·rename_i hcc;rw[if_pos hcc];split at h <;> (try (cases h;done))
    rename_i hc2;cases h;rw[if_pos hc2,KV hl]
   ·rename_i hcc;rw[if_neg hcc];split at h <;> (try (cases h;done))
    rename_i hc2;cases h;rw[if_pos hc2,JX (hn rfl),YA]
 case clear zs =>
  unfold UN at h ⊢;split at h <;> (try (cases h;done))
  ·rename_i l off len e';have hl:=hf l (by simp[YX,JJ]);rw[JG hl];simp only[QB] at h ⊢;obtain ⟨cs,h0,h⟩:=h;refine ⟨cs,h0,?_⟩;split at h <;> (try (cases h;done))
   rename_i hc2;cases h;rw[if_pos hc2,KV hl]
  ·rename_i l off len cap e';have hl:=hf l (by simp[YX,JJ]);rw[JG hl];simp only[QB] at h ⊢;obtain ⟨cs,h0,h⟩:=h;refine ⟨cs,h0,?_⟩;split at h <;> (try (cases h;done))
   rename_i hc2;cases h;rw[if_pos hc2,KV hl]
 case copy e =>
  unfold UE at h ⊢;split at h <;> (try (cases h;done))
  rename_i l off len e' x;have hl:=hf l (by simp[YX,JJ]);rw[IG (fun l hl=>hf l (by simp[YX,hl])),JG hl];simp only[QB] at h ⊢;obtain ⟨cs,h0,new,h1,n,h2,h⟩:=h;refine ⟨cs,h0,new,h1,n,h2,?_⟩;split at h <;> (try (cases h;done))
  rename_i hc2;cases h;rw[if_pos hc2,KV hl]
 case lookup ks z ok =>
  unfold KL at h ⊢;split at h <;> (try (cases h;done))
  rename_i l k;rw[E6 (hf l (by simp[YX,JJ]))];simp only[QB] at h ⊢;obtain ⟨es,h1,h⟩:=h;refine ⟨es,h1,?_⟩;split at h <;> (try (cases h;done))
  rename_i hc;rw[if_neg hc];simp only[QA] at h ⊢;obtain ⟨v,h2,he⟩:=h;cases he;exact ⟨v,h2,rfl⟩
 case mapset ks =>
  unfold JZ at h ⊢;split at h <;> (try (cases h;done))
  rename_i l k v;have hl:=hf l (by simp[YX,JJ]);rw[E6 hl];simp only[QB] at h ⊢;obtain ⟨es,h1,h⟩:=h;refine ⟨es,h1,?_⟩;split at h <;> (try (cases h;done))
  rename_i hc;rw[if_neg hc];simp only[QA] at h ⊢;obtain ⟨v,h2,he⟩:=h;cases he;exact ⟨v,h2,by rw[KV hl]⟩
 case mapdel ks =>
  unfold J0 at h ⊢;split at h <;> (try (cases h;done))
  rename_i l k;have hl:=hf l (by simp[YX,JJ]);rw[E6 hl];simp only[QB] at h ⊢;obtain ⟨es,h1,h⟩:=h;refine ⟨es,h1,?_⟩;split at h <;> (try (cases h;done))
  rename_i hc;rw[if_neg hc];simp only[QA] at h ⊢;obtain ⟨v,h2,he⟩:=h;cases he;exact ⟨v,h2,by rw[KV hl]⟩
 case maplen =>
  unfold TS at h ⊢;split at h <;> (try (cases h;done))
  rename_i l;rw[E6 (hf l (by simp[YX,JJ]))];simp only[QA] at h ⊢;obtain ⟨v,h2,he⟩:=h;cases he;exact ⟨v,h2,rfl⟩
 case appendz e b zs =>
  unfold VQ at h ⊢;split at h <;> (try (cases h;done))
  rename_i l off len cap e' k nn;have hl:=hf l (by simp[YX,JJ]);rw[JG hl];simp only[QB] at h ⊢;obtain ⟨cs,h0,h⟩:=h;refine ⟨cs,h0,?_⟩;split at h <;> (try (cases h;done))
  rename_i hc2;cases h;rw[if_pos hc2,JX (hn rfl),YA]
 case stuck=>cases h
 case mapent=>cases h
 case entst=>cases h
 case rstr =>
  unfold F6 at h ⊢;split at h <;> (try (cases h;done))
  cases h;rw[JX (hn rfl),YA]
 case snext =>
  unfold KX at h ⊢;split at h <;> (try (cases h;done))
  rename_i l;have hl:=hf l (by simp[YX,JJ]);rw[QaZ hl];simp only[QA] at h ⊢;obtain ⟨sp,h2,h⟩:=h;refine ⟨sp,h2,?_⟩;split at h
  ·rename_i hc;cases h;rw[if_pos hc,KV hl]
  ·rename_i hc;cases h;rw[if_neg hc]
theorem QeA {σ:List AObj} {x:AObj} {l:Nat} (h:(σ++[x])[l]?≠σ[l]?):l=σ.length:=by
 rcases Nat.lt_trichotomy l σ.length with h1 | h1 | h1
 ·rw[QE h1] at h;exact absurd rfl h
 ·exact h1
 ·rw[QN (by simp;omega),QN (by omega)] at h;exact absurd rfl h
theorem ch_set {σ:List AObj} {x:AObj} {l l0:Nat} (h:(σ.set l0 x)[l]?≠σ[l]?):l=l0:=by
 by_cases h1:l0=l
 ·exact h1.symm
 ·rw[QU h1] at h;exact absurd rfl h
theorem stepF_ch {io:IOp} {as_:List AV} {σ σ':List AObj} {r:AV} (h:ZQ io as_ σ=some (r,σ')) {l:Nat} (hl:σ'[l]?≠σ[l]?):l∈YX (.at io as_ σ.length):=by
 by_cases h0:kindOf io=0
 ·rw[(KF h0 h).1] at hl;exact absurd rfl hl
 by_cases h1:kindOf io=1
 ·rw[GB h1 h] at hl;exact absurd rfl hl
 have hnew:kindOf io=2→∀ x,σ'=σ++[x]→l∈YX (.at io as_ σ.length):=fun hk x he=>by rw[he] at hl;rw[QeA hl];simp[YX,hk,O4]
 have hset:∀ l0 x,l0∈as_.flatMap JJ→σ'=σ.set l0 x→l∈YX (.at io as_ σ.length):=fun l0 x hm he=>by rw[he] at hl;rw[ch_set hl];simp only[YX,YV];exact .inl hm
 cases io <;> (try exact absurd rfl h0) <;> (try exact absurd rfl h1) <;> simp only[ZQ] at h
 case alloc zs =>
  unfold UO at h;split at h <;> (try (cases h;done))
  cases h;exact hnew rfl _ rfl
 case box =>
  unfold WI at h;split at h <;> (try (cases h;done))
  split at h <;> (try (cases h;done))
  cases h;exact hnew rfl _ rfl
 case bslice e n zs ps =>
  unfold V4 at h;simp only[QA] at h;obtain ⟨cs,h1,h2⟩:=h;cases h2;exact hnew rfl _ rfl
 case store n =>
  unfold UM at h;split at h <;> (try (cases h;done))
  simp only[QB] at h;obtain ⟨cs,h1,h⟩:=h;split at h <;> (try (cases h;done))
  cases h;exact hset _ _ (by simp[JJ]) rfl
 case mkmap =>
  unfold KY at h;split at h <;> (try (cases h;done))
  cases h;exact hnew rfl _ rfl
 case mkslice e b zs =>
  unfold XB at h;split at h <;> (try (cases h;done))
  split at h <;> (try (cases h;done))
  cases h;exact hnew rfl _ rfl
 case mksliceC e b zs =>
  unfold XR at h;split at h <;> (try (cases h;done))
  split at h <;> (try (cases h;done))
  cases h;exact hnew rfl _ rfl
 case append e b =>
  unfold ZX at h;split at h <;> (try (cases h;done))
  ·simp only[QB] at h;obtain ⟨new,h1,n,h2,h⟩:=h;split at h
   ·cases h;exact absurd rfl hl
   ·split at h <;> (try (cases h;done))
    cases h;exact hnew rfl _ rfl
  ·rename_i l0 len e' x;simp only[QB] at h;obtain ⟨cs,h0,new,h1,n,h2,h⟩:=h;split at h <;> (try (cases h;done))
   cases h;by_cases he:l=l0
   ·subst he;simp[YX,JJ]
   ·have:(σ.set l0 AObj.dead)[l]? = σ[l]? := QU (fun h=>he h.symm);rw[← this] at hl;have:=QeA hl;rw[WE] at this;rw[this];simp[YX,kindOf,O4]
  ·simp only[QB] at h;obtain ⟨cs,h0,new,h1,n,h2,h⟩:=h;split at h
   ·split at h <;> (try (cases h;done))
    cases h;exact hset _ _ (by simp[JJ]) rfl
   ·split at h <;> (try (cases h;done))
    cases h;exact hnew rfl _ rfl
 case clear zs =>
  unfold UN at h;split at h <;> (try (cases h;done)) <;> (
   simp only[QB] at h;obtain ⟨cs,h0,h⟩:=h;split at h <;> (try (cases h;done))
   cases h;exact hset _ _ (by simp[JJ]) rfl)
 case copy e =>
  unfold UE at h;split at h <;> (try (cases h;done))
  simp only[QB] at h;obtain ⟨cs,h0,new,h1,n,h2,h⟩:=h;split at h <;> (try (cases h;done))
  cases h;exact hset _ _ (by simp[JJ]) rfl
 case mapset ks =>
  unfold JZ at h;split at h <;> (try (cases h;done))
  simp only[QB] at h;obtain ⟨es,h1,h⟩:=h;split at h <;> (try (cases h;done))
  simp only[QA] at h;obtain ⟨v,h2,he⟩:=h;cases he;exact hset _ _ (by simp[JJ]) rfl
 case mapdel ks =>
  unfold J0 at h;split at h <;> (try (cases h;done))
  simp only[QB] at h;obtain ⟨es,h1,h⟩:=h;split at h <;> (try (cases h;done))
  simp only[QA] at h;obtain ⟨v,h2,he⟩:=h;cases he;exact hset _ _ (by simp[JJ]) rfl
 case appendz e b zs =>
  unfold VQ at h;split at h <;> (try (cases h;done))
  simp only[QB] at h;obtain ⟨cs,h0,h⟩:=h;split at h <;> (try (cases h;done))
  cases h;exact hnew rfl _ rfl
 case stuck=>cases h
 case mapent=>cases h
 case entst=>cases h
 case rstr =>
  unfold F6 at h;split at h <;> (try (cases h;done))
  cases h;exact hnew rfl _ rfl
 case snext =>
  unfold KX at h;split at h <;> (try (cases h;done))
  simp only[QA] at h;obtain ⟨_,_,h⟩:=h;split at h <;> cases h
  ·exact hset _ _ (by simp[JJ]) rfl
  ·exact absurd rfl hl
end Go.Proofs.YtgkidpolomhghaaGreatDoor.AM
namespace Go.Proofs.YtgkidpolomhghaaGreatDoor.AM
set_option linter.unusedSectionVars false
variable [Dr]
open Go
set_option linter.unusedVariables false
set_option linter.unusedSimpArgs false
def Qaq (i:Ins):Bool:=match i.op with | .prim _=>true | .call=>false
def Qap:IOp→Bool
 | .alloc _ | .box | .bslice _ _ _ _ | .mkslice _ _ _ | .mkmap | .rstr | .mksliceC _ _ _ | .appendz _ _ _=>true
 | _=>false
def MW (i:Ins):Bool:=match i.op with | .prim io=>Qap io | .call=>false
theorem Qc1 {io:IOp} {as_:List AV} {σ σ':List AObj} {r:AV} (hp:Qap io=true) (h:ZQ io as_ σ=some (r,σ')):∃ o,σ'=σ++[o]:=by
 cases io <;> (try (cases hp;done)) <;> simp only[ZQ] at h
 case alloc zs=>unfold UO at h;split at h <;> cases h;exact ⟨_,rfl⟩
 case box=>unfold WI at h;split at h <;> (try (cases h;done));split at h <;> cases h;exact ⟨_,rfl⟩
 case bslice esz len zs ps=>unfold V4 at h;simp only[QA] at h;obtain ⟨v,hv,he⟩:=h;cases he;exact ⟨_,rfl⟩
 case mkslice esz bytes zs=>unfold XB at h;split at h <;> (try (cases h;done));split at h <;> cases h;exact ⟨_,rfl⟩
 case mkmap=>unfold KY at h;split at h <;> cases h;exact ⟨_,rfl⟩
 case appendz esz bytes zs=>unfold VQ at h;split at h <;> (try (cases h;done));simp only[QB] at h;obtain ⟨cs,hcs,h⟩:=h;split at h <;> cases h;exact ⟨_,rfl⟩
 case mksliceC esz bytes zs=>unfold XR at h;split at h <;> (try (cases h;done));split at h <;> cases h;exact ⟨_,rfl⟩
 case rstr=>unfold F6 at h;split at h <;> cases h;exact ⟨_,rfl⟩
theorem CG {σ:List AObj} {f:Nat→Bool} (h:∀ l,l<σ.length→f l=false):VU f σ=σ:=by
 apply Z1;intro l;rw[J6];by_cases hl:l<σ.length
 ·simp[h l hl,hl]
 ·simp[hl]
def Qa8 (ops:Array Oper) (is:List Ins) (pds:List (List Nat)) (kp:List Nat) (xs:List (Nat × Nat)):Bool :=
 (xs.all fun p=>decide (p.2<is.length)&&match is[p.1]? with | some i=>Qaq i||(decide (p.1<p.2)&&(match is[p.2]? with | some i'=>MW i' | none=>false)) | none=>false) &&
 (List.range ops.size).all fun j =>
  (V9 ops j).all (fun e=>decide (e<j)) &&
  (pdAt pds j).all (fun k=>decide (k<j)&&((V9 ops j).contains k||(V9 ops j).any fun e=>(pdAt pds e).contains k)) &&
  match is[j]? with
  | none=>true
  | some i=>AU i&&i.args.all (fun | .t k=>(pdAt pds j).contains k | _=>true)&&(match i.gd with | some (k,_)=>(pdAt pds j).contains k | none=>true) &&
   (List.range ops.size).all fun k =>
    match is[k]? with
    | none=>true
    | some i'=>decide (j=k)||(pdAt pds j).contains k||(pdAt pds k).contains j ||
      ((match i'.dst with | some x=>!IU x i | none=>true)&&(!(decide (JA kp k i'=2)&&decide (JA kp j i≠0))||xs.contains (j,k)))
def RQ (dirs:List (List Nat)) (is:List Ins) (pds:List (List Nat)) (kp:List Nat) (xs:List (Nat × Nat)):Bool :=
 (xs.all fun p=>decide (p.2<is.length)&&match is[p.1]? with | some i=>Qaq i||(decide (p.1<p.2)&&(match is[p.2]? with | some i'=>MW i' | none=>false)) | none=>false) &&
 (List.range dirs.length).all fun j =>
  (dirs.getD j []).all (fun e=>decide (e<j)) &&
  (pdAt pds j).all (fun k=>decide (k<j)&&((dirs.getD j []).contains k||(dirs.getD j []).any fun e=>(pdAt pds e).contains k)) &&
  match is[j]? with
  | none=>true
  | some i=>AU i&&i.args.all (fun | .t k=>(pdAt pds j).contains k | _=>true)&&(match i.gd with | some (k,_)=>(pdAt pds j).contains k | none=>true) &&
   (List.range dirs.length).all fun k =>
    match is[k]? with
    | none=>true
    | some i'=>decide (j=k)||(pdAt pds j).contains k||(pdAt pds k).contains j ||
      ((match i'.dst with | some x=>!IU x i | none=>true)&&(!(decide (JA kp k i'=2)&&decide (JA kp j i≠0))||xs.contains (j,k)))
theorem AA {ops:Array Oper} {is:List Ins} {pds:List (List Nat)} {kp:List Nat} {xs:List (Nat × Nat)} (h:RQ (UU ops) is pds kp xs=true):Qa8 ops is pds kp xs=true:=by
 have hl:(UU ops).length=ops.size:=by simp[UU]
 have hg:∀ j,j<ops.size→(UU ops).getD j []=V9 ops j:=fun j hj=>by simp[UU,List.getD,hj]
 unfold RQ at h;unfold Qa8;rw[hl,QD] at h;rw[QD];refine ⟨h.1,?_⟩;have h:=h.2;rw[Q1] at h ⊢;intro j hj;have hj':j<ops.size:=by simpa using hj
 have:=h j hj;rw[hg j hj'] at this;exact this
def xOne:List Nat→List AObj→List AObj→Prop
 | [],_,_=>True
 | l::ls,a,b=>a[l]? = b[l]?∧xOne ls a b
theorem QbS:∀ {ls:List Nat} {a b:List AObj},xOne ls a b→∀ l∈ls,a[l]? = b[l]?
 | [],_,_,_,l,hl=>by simp at hl
 | l0::ls,a,b,h,l,hl=>by
  rcases ZD.1 hl with rfl | hl
  ·exact h.1
  ·exact QbS h.2 l hl
def xAll:List (Nat × Nat)→List PlT→List (List AObj)→Prop
 | [],_,_=>True
 | p::xs,pl,hs=>xOne (YX (pl.getD p.1 .no)) (hs.getD (p.2+1) []) (hs.getD p.2 [])∧xAll xs pl hs
theorem QbT:∀ {xs:List (Nat × Nat)} {pl:List PlT} {hs:List (List AObj)},xAll xs pl hs→∀ a k,(a,k)∈xs→∀ l∈YX (pl.getD a .no),(hs.getD (k+1) [])[l]? = (hs.getD k [])[l]?
 | [],pl,hs,_,a,k,hm,l,hl=>by simp at hm
 | p::xs,pl,hs,h,a,k,hm,l,hl=>by
  simp only[xAll] at h;rcases ZD.1 hm with rfl | hm
  ·exact QbS h.1 l hl
  ·exact QbT h.2 a k hm l hl
def RPx (P:Program) (kp:List Nat) (xs:List (Nat × Nat)):Nat→List Ins→List PlT→List (List AObj)→List AV→List AV→List AObj→(List AV→List AV→List AObj→Prop)→Prop
 | _,[],pl,hs,vals,ρ,σ,K=>xAll xs pl (hs++[σ])∧K vals ρ σ
 | j,i::is,pl,hs,vals,ρ,σ,K =>
  match gdOk ρ i.gd with
  | none=>False
  | some false=>RPx P kp xs (j+1) is (pl++[.no]) (hs++[σ]) (setD i.dst vals (.tup [])) (ρ++[.tup []]) σ K
  | some true =>
   match i.op,i.args.map (WY vals ρ) with
   | .prim io,as_ =>
    match ZQ io as_ σ with
    | some (v,σ')=>RPx P kp xs (j+1) is (pl++[plOf i as_ σ]) (hs++[σ]) (setD i.dst vals v) (ρ++[v]) σ' K
    | none=>False
   | .call,fv::as_=>if kp.contains j then ∃ v,X0 P fv as_ σ (fun v' τ'=>v'=v∧τ'=σ)∧QR σ.length v=true∧RPx P kp xs (j+1) is (pl++[.no]) (hs++[σ]) (setD i.dst vals v) (ρ++[v]) σ K
     else ∃ v τ,X0 P fv as_ σ (fun v' τ'=>v'=v∧τ'=τ)∧HM σ v τ∧RPx P kp xs (j+1) is (pl++[.no]) (hs++[σ]) (setD i.dst vals v) (ρ++[v]) τ K
   | .call,[]=>False
variable {P:Program} {fx:Fx} {Q:Exit→St→Prop} {s:St}
def plAt (is:List Ins) (V:Nat→List AV) (pre:List AV) (r:Nat→AV) (S:Nat→List AObj) (q:Nat):PlT :=
 match is[q]? with
 | some i=>match gdOk (pre++(List.range q).map r) i.gd with
  | some true=>plOf i (i.args.map (WY (V q) (pre++(List.range q).map r))) (S q)
  | _=>.no
 | none=>.no
theorem QaN {kp:List Nat} {xs:List (Nat × Nat)} {K:List AV→List AV→List AObj→Prop}:∀ (is:List Ins) (j:Nat) (pl:List PlT) (hs:List (List AObj)) (vals ρ:List AV) (σ:List AObj),RPx P kp xs j is pl hs vals ρ σ K →
  ∃ (V:Nat→List AV) (r:Nat→AV) (S:Nat→List AObj),V 0=vals∧S 0=σ ∧
   (∀ (q:Nat) i,is[q]? = some i→V (q+1)=setD i.dst (V q) (r q)∧VS P kp (j+q) i (V q) (ρ++(List.range q).map r) (S q) (r q) (S (q+1))) ∧
   xAll xs (pl++(List.range is.length).map (plAt is V ρ r S)) (hs++(List.range (is.length+1)).map S) ∧
   K (V is.length) (ρ++(List.range is.length).map r) (S is.length)
 | [],j,pl,hs,vals,ρ,σ,h=>⟨fun _=>vals,fun _=>.undef,fun _=>σ,rfl,rfl,by simp,by simpa[RPx] using h.1,by simpa[RPx] using h.2⟩
 | i :: is,j,pl,hs,vals,ρ,σ,h=>by
  have main:∀ v τ p,p=(match gdOk ρ i.gd with | some true=>plOf i (i.args.map (WY vals ρ)) σ | _=>.no)→VS P kp j i vals ρ σ v τ→RPx P kp xs (j+1) is (pl++[p]) (hs++[σ]) (setD i.dst vals v) (ρ++[v]) τ K →
    ∃ (V:Nat→List AV) (r:Nat→AV) (S:Nat→List AObj),V 0=vals∧S 0=σ ∧
    (∀ (q:Nat) i',(i::is)[q]? = some i'→V (q+1)=setD i'.dst (V q) (r q)∧VS P kp (j+q) i' (V q) (ρ++(List.range q).map r) (S q) (r q) (S (q+1))) ∧
    xAll xs (pl++(List.range (i::is).length).map (plAt (i::is) V ρ r S)) (hs++(List.range ((i::is).length+1)).map S) ∧
    K (V (i::is).length) (ρ++(List.range (i::is).length).map r) (S (i::is).length):=by
   intro v τ p hp hs' hr;obtain ⟨V,r,S,h1,h2,h3,hx3,h4⟩:=QaN is (j+1) (pl++[p]) (hs++[σ]) _ _ _ hr;have hrg:∀ q,(List.range (q+1)).map (fun q=>match q with | 0=>v | q+1=>r q)=v::(List.range q).map r:=by intro q;rw[UR];simp[Function.comp_def]
   have hrgS:∀ q,(List.range (q+1)).map (fun q=>match q with | 0=>σ | q+1=>S q)=σ::(List.range q).map S:=by intro q;rw[UR];simp[Function.comp_def]
   refine ⟨fun q=>match q with | 0=>vals | q+1=>V q,fun q=>match q with | 0=>v | q+1=>r q,fun q=>match q with | 0=>σ | q+1=>S q,rfl,rfl,?_,?_,?_⟩
   ·intro q i' hq;cases q with
    | zero =>
     simp at hq;subst hq;refine ⟨by simp[h1],?_⟩;simpa[h2] using hs'
    | succ q =>
     simp at hq;obtain ⟨g1,g2⟩:=h3 q i' hq;refine ⟨g1,?_⟩;rw[hrg,show j+(q+1)=j+1+q by omega];simpa using g2
   ·have e:∀ q,(List.range (q+1)).map (plAt (i::is) (fun q=>match q with | 0=>vals | q+1=>V q) ρ (fun q=>match q with | 0=>v | q+1=>r q) (fun q=>match q with | 0=>σ | q+1=>S q))=p::(List.range q).map (plAt is V (ρ++[v]) r S):=by
     intro q;rw[UR];simp only[Q0,XW,List.cons.injEq];refine ⟨?_,JI fun k _=>?_⟩
     ·rw[hp];simp[plAt]
     ·simp only[Function.comp,plAt,List.getElem?_cons_succ];rw[hrg];simp
    simp only[List.length_cons];rw[e,hrgS];simpa using hx3
   ·simp only[List.length_cons];rw[hrg];simpa using h4
  simp only[RPx] at h;cases hg:gdOk ρ i.gd with
  | none=>rw[hg] at h;exact h.elim
  | some b =>
   rw[hg] at h;cases b with
   | false=>exact main (.tup []) σ .no (by rw[hg]) (by simp[VS,hg]) h
   | true =>
    simp only at h;cases hop:i.op with
    | prim io =>
     simp only[hop] at h;cases hst:ZQ io (i.args.map (WY vals ρ)) σ with
     | none=>rw[hst] at h;exact h.elim
     | some p=>rw[hst] at h;exact main p.1 p.2 _ (by rw[hg]) (by simp[VS,hg,hop,hst]) h
    | call =>
     have hpl:∀ as_,plOf i as_ σ=.no:=fun as_=>by simp[plOf,hop]
     simp only[hop] at h;cases hargs:i.args.map (WY vals ρ) with
     | nil=>rw[hargs] at h;exact h.elim
     | cons fv as_ =>
      rw[hargs] at h;simp only at h;split at h
      ·rename_i hk;obtain ⟨v,h1,h2,h3⟩:=h;exact main v σ .no (by rw[hg,hpl]) (by simp only[VS,hg,hop,hargs];exact ⟨h1,.refl h2,fun _=>trivial⟩) h3
      ·rename_i hk;obtain ⟨v,τ,h1,h2,h3⟩:=h;exact main v τ .no (by rw[hg,hpl]) (by simp only[VS,hg,hop,hargs];exact ⟨h1,h2,fun h=>absurd h hk⟩) h3
theorem PE {id:Nat} {ops:Array Oper} {is:List Ins} (pds:List (List Nat)) (kp:List Nat) (xs:List (Nat × Nat)) (hmix:P.follows .mixedOrders=true) (hc:VY P fx.vars fx.N ops=some is) (hord:Qa8 ops is pds kp xs=true)
  (hvl:s.vals.length=fx.vars.length) (h:RPx P kp xs 0 is [] [] s.vals [] s.heap fun vals _ σ=>Q .normal ⟨vals,σ⟩):W P fx (.region id ops true) s Q:=by
 intro m X en ac w hs hr;obtain ⟨V,r,S,hV0,hS0,htr,hx0,hK⟩:=QaN is 0 [] [] _ _ _ h;simp only[List.nil_append,ZV] at htr hK hx0;have hlen:is.length=ops.size:=by
  unfold VY at hc;split at hc
  ·rw[UV] at hc;have key:∀ (l:List Oper) (js:List Ins),l.mapM (JP P fx.vars (ops.toList.map (·.dst)))=some js→js.length=l.length:=by
    intro l
    induction l with
    | nil=>intro js h;simp at h;subst h;rfl
    | cons x l ih =>
     intro js h;simp only[WV,Option.bind_eq_bind,QB,Option.pure_def,Option.some.injEq] at h;obtain ⟨i,_,js',h2,rfl⟩:=h;simp[ih _ h2]
   simpa using key _ _ hc
  ·cases hc
 simp only[Qa8,QD] at hord;obtain ⟨hxs,hord⟩:=hord;rw[Q1] at hxs;simp only[Q1,ZI,QD,decide_eq_true_eq] at hord;have hi:∀ j,j<ops.size→∃ i,is[j]? = some i:=fun j hj=>⟨is[j],QI (by omega)⟩
 have hlt:∀ (j:Nat) i,is[j]? = some i→j<ops.size:=fun j i h=>by have:=(QH.1 h).1;omega
 have st:=fun (j:Nat) (i:Ins) (h:is[j]? = some i)=>by have:=(hord j (hlt j i h)).2;rw[h] at this;simpa only[QD,Q1,ZI] using this
 have hpair:∀ (j k:Nat) i i',is[j]? = some i→is[k]? = some i'→j≠k→k∉pdAt pds j→j∉pdAt pds k→(∀ x,i'.dst=some x→IU x i=false)∧(JA kp k i'=2→JA kp j i=0∨(j,k)∈xs):=by
  intro j k i i' hj hk hne h1 h2;have:=(st j i hj).2 k (hlt k i' hk);rw[hk] at this;simp only[WR,decide_eq_true_eq,XS,hne,h1,h2,false_or,QD,Z0,Bool.and_eq_false_iff,decide_eq_false_iff_not,ne_eq,JE] at this;refine ⟨fun x hx=>?_,fun h2=>?_⟩
  ·have:=this.1;rw[hx] at this;simpa using this
  ·rcases this.2 with (h | h) | h
   ·exact absurd h2 h
   ·exact .inl h
   ·exact .inr h
 have hxl:∀ (j k:Nat),(j,k)∈xs→k<is.length∧∃ i,is[j]? = some i∧((∃ io,i.op=.prim io)∨(i.op=.call∧j<k∧∃ i' io,is[k]? = some i'∧i'.op=.prim io∧Qap io=true)):=by
  intro j k hm;have:=hxs _ hm;simp only[QD,decide_eq_true_eq] at this;obtain ⟨h1,h2⟩:=this;refine ⟨h1,?_⟩;cases hij:is[j]? with
  | none=>rw[hij] at h2;simp at h2
  | some i =>
   rw[hij] at h2;refine ⟨i,rfl,?_⟩;cases hop:i.op with
   | prim io=>exact .inl ⟨io,rfl⟩
   | call =>
    simp only[Qaq,hop,Y3,QD,decide_eq_true_eq] at h2;obtain ⟨h4,h5⟩:=h2;refine .inr ⟨rfl,h4,?_⟩;cases hik:is[k]? with
    | none=>rw[hik] at h5;cases h5
    | some i' =>
     rw[hik] at h5;simp only[MW] at h5;split at h5
     ·rename_i io ho;exact ⟨i',io,rfl,ho,h5⟩
     ·cases h5
 have hx:∀ (j k:Nat) (i:Ins),(j,k)∈xs→is[j]? = some i→gdOk ((List.range j).map r) i.gd=some true→∀ l∈YX (plOf i (i.args.map (WY (V j) ((List.range j).map r))) (S j)),(S (k+1))[l]? = (S k)[l]? := by intro j k i hm hij hg l hl;obtain ⟨hk,_⟩:=hxl j k hm;have hjl:j<is.length:=(QH.1 hij).1;have:=QbT hx0 j k hm l (by simpa[List.getD,ZR,List.getElem?_range hjl,plAt,hij,hg] using hl);simpa[List.getD,ZR,List.getElem?_range (show k+1<is.length+1 by omega),List.getElem?_range (show k<is.length+1 by omega)] using this
 have stepcases:∀ (j:Nat) i,is[j]? = some i→(S j).length≤(S (j+1)).length∧(JA kp j i≠2→S (j+1)=S j)∧(∀ (l:Nat) o,(S j).length≤l→(S (j+1))[l]? = some o→o.live) ∧
   (Cl (S j)→QO (S j).length (V j)=true→QO (S j).length ((List.range j).map r)=true→Cl (S (j+1))∧QR (S (j+1)).length (r j)=true):=by
  intro j i hj;have hso:=(htr j i hj).2;unfold VS at hso;have same:r j=.tup []→S (j+1)=S j→_:=fun (e1:r j=.tup []) (e2:S (j+1)=S j)=>show (S j).length≤(S (j+1)).length∧(JA kp j i≠2→S (j+1)=S j)∧(∀ (l:Nat) o,(S j).length≤l→(S (j+1))[l]? = some o→o.live) ∧
   (Cl (S j)→QO (S j).length (V j)=true→QO (S j).length ((List.range j).map r)=true→Cl (S (j+1))∧QR (S (j+1)).length (r j)=true) from by rw[e2,e1];refine ⟨QG _,fun _=>rfl,fun l o hl ho=>?_,fun h _ _=>⟨h,rfl⟩⟩;rw[QN hl] at ho;cases ho
  split at hso
  ·exact hso.elim
  ·exact same hso.1 hso.2
  ·cases hop:i.op with
   | prim io =>
    simp only[hop] at hso;have hk:JA kp j i=kindOf io:=by simp[JA,hop]
    refine ⟨ED hso,fun hk2=>?_,BL hso,fun h1 h2 h3=>?_⟩
    ·rw[hk] at hk2;by_cases h0:kindOf io=0
     ·exact (KF h0 hso).1
     ·by_cases h1:kindOf io=1
      ·exact GB h1 hso
      ·have:=AP io;omega
    ·have hcl:=(st j i hj).1.1.1;unfold AU at hcl;rw[hop] at hcl;simp only[QD,Q1] at hcl;have:=BM hcl.1 (Z8.2 fun v hv=>by
      obtain ⟨x,hx,rfl⟩:=ZP.1 hv;exact CO h2 h3 (hcl.2 x hx)) h1 hso
     exact ⟨this.2,this.1⟩
   | call =>
    have hso':∃ σ0,HM σ0 (r j) (S (j+1))∧σ0=S j∧(kp.contains j=true→S (j+1)=S j):=by
     cases has:i.args.map (WY (V j) ((List.range j).map r)) with
     | nil=>simp only[hop,has] at hso
     | cons fv as_=>simp only[hop,has] at hso;exact ⟨S j,hso.2.1,rfl,hso.2.2⟩
    obtain ⟨_,⟨g1,g2,g3⟩,rfl,g4⟩:=hso';refine ⟨g2,fun hk2=>?_,fun l o hl ho=>(g3 l o ho (by rw[QN hl];simp)).2 hl,fun h1 _ _=>⟨fun l o ho=>?_,g1⟩⟩
    ·simp only[JA,hop] at hk2;by_cases hkp:kp.contains j=true
     ·exact g4 hkp
     ·rw[if_neg hkp] at hk2;exact absurd rfl hk2
    ·by_cases he:(S j)[l]? = some o
     ·exact H1 _ _ o g2 (h1 l o he)
     ·exact (g3 l o ho he).1
 have inv:∀ j,j≤ops.size→Cl (S j)∧QO (S j).length (V j)=true∧QO (S j).length ((List.range j).map r)=true:=by
  intro j
  induction j with
  | zero =>
   intro _;rw[hS0,hV0];exact ⟨fun l o ho=>hs.heap.closed l o ho,hs.vals_locs (Nat.le_of_eq hvl),rfl⟩
  | succ j ih =>
   intro hj;obtain ⟨i,hij⟩:=hi j (by omega);obtain ⟨h1,h2,h3⟩:=ih (by omega);obtain ⟨g1,_,_,g4⟩:=stepcases j i hij;obtain ⟨g5,g6⟩:=g4 h1 h2 h3;refine ⟨g5,?_,?_⟩
   ·rw[(htr j i hij).1];unfold setD;split
    ·exact R9 (YL g1 h2) g6
    ·exact YL g1 h2
   ·rw[WM,ZS];exact VN (YL g1 h3) (by simp[QO,g6])
 have hmono:∀ j d,j+d≤ops.size→(S j).length≤(S (j+d)).length:=by
  intro j d
  induction d with
  | zero=>intro _;exact QG _
  | succ d ih =>
   intro hd;obtain ⟨i3,hi3⟩:=hi (j+d) (by omega);exact YR (ih (by omega)) (stepcases (j+d) i3 hi3).1
 have hpush:∀ (j k:Nat) (i':Ins) (io:IOp),j<k→is[k]? = some i'→i'.op=.prim io→Qap io=true→∀ l,(S (k+1))[l]?≠(S k)[l]?→(S (j+1)).length≤l:=by
  intro j k i' io hjk hik e4 e5 l hch2;have hle:=hmono (j+1) (k-(j+1)) (by have:=hlt k i' hik;omega);rw[show j+1+(k-(j+1))=k by omega] at hle;have hso2:=(htr k i' hik).2;unfold VS at hso2;split at hso2
  ·exact hso2.elim
  ·exact absurd (by rw[hso2.2]) hch2
  ·simp only[e4] at hso2;obtain ⟨o,ho⟩:=Qc1 e5 hso2;refine Nat.le_of_not_lt fun hl=>hch2 ?_
   rw[ho,QE (by omega)]
 let kd:Nat→Nat:=fun j=>match is[j]? with | some i=>JA kp j i | none=>0
 have hkd:∀ (j:Nat) i,is[j]? = some i→kd j=JA kp j i:=fun j i h=>by simp only[kd,h]
 let ch:Nat→Nat→Bool:=fun k l=>Classical.propDecidable (kd k=2∧(S (k+1))[l]?≠(S k)[l]?) |>.decide
 let hd:Nat→Nat→Bool:=fun j l=>Classical.propDecidable ((kd j=0∨∃ k',(j,k')∈xs)∧∃ k,k<ops.size∧k≠j∧k∉pdAt pds j∧j∉pdAt pds k∧ch k l=true) |>.decide
 have hch:∀ k l,ch k l=true↔(kd k=2∧(S (k+1))[l]?≠(S k)[l]?):=fun k l=>by simp only[ch,decide_eq_true_eq]
 have hhd:∀ j l,hd j l=true↔((kd j=0∨∃ k',(j,k')∈xs)∧∃ k,k<ops.size∧k≠j∧k∉pdAt pds j∧j∉pdAt pds k∧ch k l=true):=fun j l=>by simp only[hd,decide_eq_true_eq]
 have hF : Free P fx ops is V r S (pdAt pds) ch hd:=by
  refine ⟨?_,?_,?_,by rw[hV0];exact hvl,fun j i hj=>(htr j i hj).1,?_,?_,?_,?_,?_,?_,?_,?_,?_,?_,?_,?_⟩
  ·intro j hj e he;exact (hord j hj).1.1 e he
  ·intro j hj k hk;exact ((hord j hj).1.2 k hk).1
  ·intro j hj k hk;have:=((hord j hj).1.2 k hk).2;simp only[WR,XS,ZZ] at this;exact this
  ·intro j hj;obtain ⟨i,hij⟩:=hi j hj;exact (stepcases j i hij).1
  ·intro j hj l hcl;obtain ⟨i,hij⟩:=hi j hj;by_cases hk:JA kp j i=2
   ·by_cases he:(S (j+1))[l]? = (S j)[l]?
    ·exact he
    ·have:=(hch j l).2 ⟨by rw[hkd j i hij];exact hk,he⟩;rw[this] at hcl;cases hcl
   ·rw[(stepcases j i hij).2.1 hk]
  ·intro j hj l hcl;obtain ⟨i,hij⟩:=hi j hj;obtain ⟨_,hne⟩:=(hch j l).1 hcl;rcases ZB l (S (j+1)).length with h | h
   ·exact h
   ·have:=(stepcases j i hij).1;rw[QN h,QN (by omega)] at hne;exact absurd rfl hne
  ·intro j k hj hk hne h1 h2 l hcl;obtain ⟨i,hij⟩:=hi j hj;obtain ⟨i',hik⟩:=hi k hk;obtain ⟨hk2,_⟩:=(hch k l).1 hcl;rw[hkd k i' hik] at hk2;have h0:=(hpair j k i i' hij hik (Ne.symm hne) h1 h2).2 hk2;exact (hhd j l).2 ⟨h0.imp (fun h=>by rw[hkd j i hij];exact h) (fun h=>⟨k,h⟩),k,hk,hne,h1,h2,hcl⟩
  ·intro j hj l hcl;obtain ⟨hk2,hcj⟩:=(hch j l).1 hcl;cases hb:hd j l with
   | false=>rfl
   | true =>
    obtain ⟨h,k,hk,hne,h1,h2,hclk⟩:=(hhd j l).1 hb;rcases h with h | ⟨k',h⟩
    ·omega
    ·obtain ⟨_,i,e1,hpc⟩:=hxl j k' h;rcases hpc with ⟨io,e2⟩ | ⟨e2,_⟩
     rotate_left
     ·obtain ⟨i',hik⟩:=hi k hk;obtain ⟨hkk2,hch2⟩:=(hch k l).1 hclk;rw[hkd k i' hik] at hkk2;rw[hkd j i e1] at hk2;rcases (hpair j k i i' e1 hik (Ne.symm hne) h1 h2).2 hkk2 with h3 | h3
      ·omega
      obtain ⟨_,i0,f1,hpc⟩:=hxl j k h3;rw[e1] at f1;cases f1;rcases hpc with ⟨io,e3⟩ | ⟨_,hjk,i2,io,e3,e4,e5⟩
      ·rw[e2] at e3;cases e3
      rw[hik] at e3;cases e3;have hge:=hpush j k i' io hjk hik e4 e5 l hch2;have hge2:=(stepcases j i e1).1;rw[QN hge,QN (by omega)] at hcj;exact absurd rfl hcj
     obtain ⟨i',hik⟩:=hi k hk;obtain ⟨hkk2,hch2⟩:=(hch k l).1 hclk;rw[hkd k i' hik] at hkk2;rw[hkd j i e1] at hk2;have hso:=(htr j i e1).2;unfold VS at hso;split at hso
     ·exact hso.elim
     ·exact absurd (by rw[hso.2]) hcj
     ·rename_i hg;simp only[e2] at hso;have hmem:=stepF_ch hso hcj;rcases (hpair j k i i' e1 hik (Ne.symm hne) h1 h2).2 hkk2 with h3 | h3
      ·omega
      ·exact absurd (hx j k i h3 e1 hg l (by simp only[plOf,e2];exact hmem)) hch2
  ·intro j hj l o hl ho;obtain ⟨i,hij⟩:=hi j hj;exact (stepcases j i hij).2.2.1 l o hl ho
  ·intro j hj;obtain ⟨i,hij⟩:=hi j hj;obtain ⟨h1,h2,h3⟩:=inv j (by omega);exact ((stepcases j i hij).2.2.2 h1 h2 h3).2
  ·intro j hj l o _ ho;exact (inv (j+1) (by omega)).1 l o ho
  ·intro j i hj k hk;have:=(st j i hj).1.1.2 _ hk;simpa using this
  ·intro j i k b hj hg;have:=(st j i hj).1.2;rw[hg] at this;simpa using this
  ·intro j k i i' x hj hk hne hx hor;by_cases h1:k∈pdAt pds j
   ·exact .inl h1
   by_cases h2:j∈pdAt pds k
   ·exact .inr h2
   have:=(hpair j k i i' hj hk hne h1 h2).1 x hx;simp only[IU,X8,W6] at this;rcases hor with hor | hor
   ·have h3:=this.1 _ hor;simp at h3
   ·have h3:=this.2;rw[hor] at h3;simp at h3
  ·intro j i hj;have hso:=(htr j i hj).2;unfold VS at hso;split at hso
   ·rename_i hg;exact hso.elim
   ·rename_i hg;(try rw[hg]);exact hso
   ·rename_i hg;(try rw[hg]);(try simp only);have heapy:kd j≠0→(∀ k',(j,k')∉xs)→∀ l,hd j l=false:=fun hne hnx l=>by
     cases hb:hd j l with
     | false=>rfl
     | true =>
      rcases ((hhd j l).1 hb).1 with h | ⟨k',h⟩
      ·exact absurd h hne
      ·exact absurd h (hnx k')
    cases hop:i.op with
    | prim io =>
     simp only[hop] at hso;have hk:kd j=kindOf io:=by rw[hkd j i hj];simp[JA,hop]
     by_cases h0:kindOf io=0
     ·obtain ⟨e1,e2⟩:=KF h0 hso;rw[e1];exact e2 _
     by_cases hxj:∃ k',(j,k')∈xs
     ·refine Qc3 hso fun l hl=>?_
      cases hb:hd j l with
      | false=>rfl
      | true =>
       obtain ⟨_,k,hk',hne,h1,h2,hcl⟩:=(hhd j l).1 hb;obtain ⟨i',hik⟩:=hi k hk';obtain ⟨hk2,hch2⟩:=(hch k l).1 hcl;rw[hkd k i' hik] at hk2;rcases (hpair j k i i' hj hik (Ne.symm hne) h1 h2).2 hk2 with h | h
       ·rw[← hkd j i hj] at h;omega
       ·exact absurd (hx j k i h hj hg l (by simp only[plOf,hop];exact hl)) hch2
     ·have hnx:∀ k',(j,k')∉xs:=fun k' h=>hxj ⟨k',h⟩
      rw[KJ _ _ (heapy (by omega) hnx),KJ _ _ (heapy (by omega) hnx)];exact hso
    | call =>
     have hk:kd j≠0:=by rw[hkd j i hj];simp only[JA,hop];split <;> omega
     have hhigh:∀ l,l<(S (j+1)).length→hd j l=false:=fun l hl=>by
      cases hb:hd j l with
      | false=>rfl
      | true =>
       obtain ⟨hor,k,hk',hne,h1,h2,hcl⟩:=(hhd j l).1 hb;obtain ⟨i',hik⟩:=hi k hk';obtain ⟨hk2,hch2⟩:=(hch k l).1 hcl;rw[hkd k i' hik] at hk2;rcases (hpair j k i i' hj hik (Ne.symm hne) h1 h2).2 hk2 with h | h
       ·rw[← hkd j i hj] at h;exact absurd h hk
       ·obtain ⟨_,i0,e1,hpc⟩:=hxl j k h;rw[hj] at e1;cases e1;rcases hpc with ⟨io,e2⟩ | ⟨_,hjk,i2,io,e3,e4,e5⟩
        ·rw[hop] at e2;cases e2
        ·rw[hik] at e3;cases e3;have:=hpush j k i' io hjk hik e4 e5 l hch2;omega
     by_cases hxj:∃ k',(j,k')∈xs
     ·cases has:i.args.map (WY (V j) ((List.range j).map r)) with
      | nil=>simp only[hop,has] at hso
      | cons fv as_ =>
       simp only[hop,has] at hso ⊢;have g:=hso.1;have hge2:=(stepcases j i hj).1;rw[CG hhigh,CG fun l hl=>hhigh l (by omega)];exact g
     have hnx:∀ k',(j,k')∉xs:=fun k' h=>hxj ⟨k',h⟩
     rw[KJ _ _ (heapy hk hnx),KJ _ _ (heapy hk hnx)];cases has:i.args.map (WY (V j) ((List.range j).map r)) with
     | nil=>simp only[hop,has] at hso
     | cons fv as_=>simp only[hop,has] at hso ⊢;exact hso.1
 exact PG hmix hc hF hV0 hS0 (by rw[hlen] at hK;exact hK) m X en ac w hs hr
theorem DW_ordx {dirs:List (List Nat)} {is:List Ins} (kp:List Nat) (xs:List (Nat × Nat)) (hmix:P.follows .mixedOrders=true) (hord:RQ dirs is (Qbd dirs []) kp xs=true) (hvl:s.vals.length=fx.vars.length)
  (h:RPx P kp xs 0 is [] [] s.vals [] s.heap fun vals _ σ=>Q .normal ⟨vals,σ⟩):DW P fx dirs is s Q:=by
 rintro id ops rfl hc;exact PE _ kp xs hmix hc (AA hord) hvl h
end Go.Proofs.YtgkidpolomhghaaGreatDoor.AM
namespace Go.Proofs.YtgkidpolomhghaaGreatDoor.AM
variable [Dr]
open Go
mutual
inductive FrzC (p:CV→Prop) (σ:List AObj):AV→CV→Prop
 | c (c:CV):p c→FrzC p σ (.cv c) c
 | nl:FrzC p σ (.cv .nils) (.rsl [] 0)
 | sl (l off len esz:Nat) (cs:List AV) (ds:List CV):rowOf σ l=some cs→off+len*esz≤cs.length→HL p σ ((cs.drop off).take (len*esz)) ds→FrzC p σ (.sl l off len esz) (.rsl ds len)
 | ptr (l off:Nat) (cs:List AV) (ds:List CV):rowOf σ l=some cs→HL p σ cs ds→FrzC p σ (.ptr l off) (.rp ds off)
 | slc (l off len cap esz:Nat) (cs:List AV) (ds:List CV):rowOf σ l=some cs→off+len*esz≤cs.length→HL p σ ((cs.drop off).take (len*esz)) ds→FrzC p σ (.slc l off len cap esz) (.rsl ds len)
inductive HL (p:CV→Prop) (σ:List AObj):List AV→List CV→Prop
 | nil:HL p σ [] []
 | cons {a:AV} {c:CV} {as_:List AV} {cs:List CV}:FrzC p σ a c→HL p σ as_ cs→HL p σ (a::as_) (c::cs)
end
mutual
inductive FrzV (p:CV→Prop) (σ:List AObj):AV→AV→Prop
 | c {a:AV} {c:CV}:FrzC p σ a c→FrzV p σ a (.cv c)
 | agg {as_ bs:List AV}:KS p σ as_ bs→FrzV p σ (.agg as_) (.agg bs)
 | tup {as_ bs:List AV}:KS p σ as_ bs→FrzV p σ (.tup as_) (.tup bs)
 | fn {f:Fn} {as_ bs:List AV}:KS p σ as_ bs→FrzV p σ (.fn f as_) (.fn f bs)
 | bm {f:FuncId} {as_ bs:List AV}:KS p σ as_ bs→FrzV p σ (.bm f as_) (.bm f bs)
 | un (a:AV):FrzV p σ a .undef
inductive KS (p:CV→Prop) (σ:List AObj):List AV→List AV→Prop
 | nil:KS p σ [] []
 | cons {a b:AV} {as_ bs:List AV}:FrzV p σ a b→KS p σ as_ bs→KS p σ (a::as_) (b::bs)
end
abbrev anyC:CV→Prop:=fun _=>True
def scl:CV→Prop
 | .rsl _ _ | .rp _ _=>False
 | _=>True
section
variable {m m':LM} {X X':Nat→Prop} {w:World} {σ:List AObj} {p:CV→Prop}
theorem WO {l:Nat} {cs:List AV} (h:rowOf σ l=some cs):σ[l]? = some (.cells cs):=by
 unfold rowOf at h;split at h
 ·cases h;assumption
 ·cases h
theorem H5 {O:Nat→Prop} {a:Addr} (hO:¬ O a.block):∀ (ds:List CV) (i:Nat) (vs:List Value),ds.length=vs.length→(∀ (j:Nat) (d:CV) (v:Value),ds[j]? = some d→vs[j]? = some v→w.cell? (a.add (i+j))=some v∧d.rep w O v)→CV.reps w O ds a i
 | [],_,_,_,_=>by simp[CV.reps]
 | d::ds,i,[],hl,_=>by simp at hl
 | d::ds,i,v::vs,hl,h=>by
  simp only[CV.reps];have h0:=h 0 d v rfl rfl;refine ⟨hO,⟨v,by simpa using h0.1,h0.2⟩,H5 hO ds (i+1) vs (by simpa using hl) fun j d' v' h1 h2=>?_⟩;have:=h (j+1) d' v' (by simpa using h1) (by simpa using h2)
  rwa [show i+(j+1)=i+1+j by omega] at this
theorem frz_rep (hh:HRel m X σ w) (hb:∀ (c:CV) v,p c→c.rep w (Own m X) v→c.rep w (Own m' X') v) (hn:∀ (l b:Nat) (o:AObj),m l=some b→σ[l]? = some o→o.live→¬ Own m' X' b) {a:AV} {c:CV} (h:FrzC p σ a c):∀ v,VRel m X w a v→c.rep w (Own m' X') v:=by
 refine FrzC.rec (motive_1:=fun a c _=>∀ v,VRel m X w a v→c.rep w (Own m' X') v) (motive_2:=fun as_ cs _=>∀ vs,QK m X w as_ vs→cs.length=vs.length∧∀ (j:Nat) (d:CV) (v:Value),cs[j]? = some d→vs[j]? = some v→d.rep w (Own m' X') v) ?_ ?_ ?_ ?_ ?_ ?_ ?_ h
 ·intro c hp v hv;simp only[VRel] at hv;exact hb c v hp hv
 ·intro v hv;simp only[VRel,CV.rep] at hv ⊢;refine .inl ⟨hv,?_⟩;simp
 ·intro l off len esz cs ds hrow hle _ ih v hv;simp only[VRel] at hv;obtain ⟨b,cap,hb,rfl,hlc,_⟩:=hv;have hrow:=WO hrow;have hor:=hh.obj l _ hrow;rw[hb] at hor;simp only[ORel] at hor;obtain ⟨c,e,hc,hsz,hvs⟩:=hor;have h2:=ih _ (QK.take (len*esz) (QK.drop off hvs));simp only[CV.rep];refine .inr ⟨_,cap,rfl,hlc,H5 (hn l b _ hb hrow trivial) ds 0 _ h2.1 fun j d v hd hv=>⟨?_,h2.2 j d v hd hv⟩⟩;have hj:j<len*esz:=by have:=(QH.1 hv).1;simp at this;omega
  rw[Z7,if_pos hj,X4,Z7] at hv;rw[if_pos (by omega)] at hv;have hadd:(Addr.mk b off none).add (0+j)=⟨b,off+j,none⟩:=by unfold Addr.add;by_cases h0:j=0 <;> simp[h0]
  rw[hadd,F7 hc];simpa using hv
 ·intro l off cs ds hrow _ ih v hv;simp only[VRel] at hv;obtain ⟨b,hb,rfl⟩:=hv;have hrow:=WO hrow;have hor:=hh.obj l _ hrow;rw[hb] at hor;simp only[ORel] at hor;obtain ⟨c,e,hc,hsz,hvs⟩:=hor;have h2:=ih _ hvs;simp only[CV.rep];refine ⟨⟨b,0,none⟩,by unfold Addr.add;by_cases h0:off=0 <;> simp[h0],H5 (hn l b _ hb hrow trivial) ds 0 _ h2.1 fun j d v hd hv=>⟨?_,h2.2 j d v hd hv⟩⟩;have hj:j<cs.length:=by have:=(QH.1 hv).1;simp at this;omega
  rw[Z7,if_pos hj] at hv;have hadd:(Addr.mk b 0 none).add (0+j)=⟨b,j,none⟩:=by unfold Addr.add;by_cases h0:j=0 <;> simp[h0]
  rw[hadd,F7 hc];simpa using hv
 ·intro l off len cap esz cs ds hrow hle _ ih v hv;simp only[VRel] at hv;obtain ⟨b,hb,rfl,hlc,_⟩:=hv;have hrow:=WO hrow;have hor:=hh.obj l _ hrow;rw[hb] at hor;simp only[ORel] at hor;obtain ⟨c,e,hc,hsz,hvs⟩:=hor;have h2:=ih _ (QK.take (len*esz) (QK.drop off hvs));simp only[CV.rep];refine .inr ⟨_,cap,rfl,hlc,H5 (hn l b _ hb hrow trivial) ds 0 _ h2.1 fun j d v hd hv=>⟨?_,h2.2 j d v hd hv⟩⟩;have hj:j<len*esz:=by have:=(QH.1 hv).1;simp at this;omega
  rw[Z7,if_pos hj,X4,Z7] at hv;rw[if_pos (by omega)] at hv;have hadd:(Addr.mk b off none).add (0+j)=⟨b,off+j,none⟩:=by unfold Addr.add;by_cases h0:j=0 <;> simp[h0]
  rw[hadd,F7 hc];simpa using hv
 ·intro vs hv;rw[QK.nil' hv];exact ⟨rfl,fun j d v h=>by simp at h⟩
 ·intro a c as_ cs _ _ ih1 ih2 vs hv;obtain ⟨v,us,rfl,h1,h2⟩:=hv.cons;have h2:=ih2 us h2;refine ⟨by simp[h2.1],fun j d v' hd hv'=>?_⟩;cases j with
  | zero=>simp at hd hv';subst hd hv';exact ih1 _ h1
  | succ j=>exact h2.2 j d v' (by simpa using hd) (by simpa using hv')
theorem RX (hh:HRel m X σ w) (hb:∀ (c:CV) v,p c→c.rep w (Own m X) v→c.rep w (Own m' X') v) (hn:∀ (l b:Nat) (o:AObj),m l=some b→σ[l]? = some o→o.live→¬ Own m' X' b) {a a':AV} (h:FrzV p σ a a'):∀ v,VRel m X w a v→VRel m' X' w a' v:=by
 refine FrzV.rec (motive_1:=fun a a' _=>∀ v,VRel m X w a v→VRel m' X' w a' v) (motive_2:=fun as_ bs _=>∀ vs,QK m X w as_ vs→QK m' X' w bs vs) ?_ ?_ ?_ ?_ ?_ ?_ ?_ ?_ h
 ·intro a c hc v hv;simp only[VRel];exact frz_rep hh hb hn hc v hv
 ·intro as_ bs _ ih v hv;simp only[VRel] at hv ⊢;obtain ⟨vs,h1,h2⟩:=hv;exact ⟨vs,h1,ih vs h2⟩
 ·intro as_ bs _ ih v hv;simp only[VRel] at hv ⊢;obtain ⟨vs,h1,h2⟩:=hv;exact ⟨vs,h1,ih vs h2⟩
 ·intro f as_ bs _ ih v hv;simp only[VRel] at hv ⊢;obtain ⟨vs,h1,h2⟩:=hv;exact ⟨vs,h1,ih vs h2⟩
 ·intro f as_ bs _ ih v hv;simp only[VRel] at hv ⊢;obtain ⟨vs,h1,h2⟩:=hv;exact ⟨vs,h1,ih vs h2⟩
 ·intro a v _;simp[VRel]
 ·intro vs hv;rw[QK.nil' hv];simp[QK]
 ·intro a b as_ bs _ _ ih1 ih2 vs hv;obtain ⟨v,us,rfl,h1,h2⟩:=hv.cons;exact ⟨ih1 v h1,ih2 us h2⟩
theorem Qbq (hh:HRel m X σ w) (hb:∀ (c:CV) v,p c→c.rep w (Own m X) v→c.rep w (Own m' X') v) (hn:∀ (l b:Nat) (o:AObj),m l=some b→σ[l]? = some o→o.live→¬ Own m' X' b):∀ {as_ bs:List AV},KS p σ as_ bs→∀ vs,QK m X w as_ vs→QK m' X' w bs vs
 | _,_,.nil,vs,hv=>by rw[QK.nil' hv];simp[QK]
 | _,_,.cons h1 h2,vs,hv=>by obtain ⟨v,us,rfl,g1,g2⟩:=hv.cons;exact ⟨RX hh hb hn h1 v g1,Qbq hh hb hn h2 us g2⟩
theorem Qa2 {O O':Nat→Prop} (c:CV) (v:Value) (hp:scl c) (h:c.rep w O v):c.rep w O' v:=by
 cases c <;> simp only[scl] at hp <;> simpa only[CV.rep] using h
theorem HRel.below {σ:List AObj} {w':World} (hh:HRel m X σ w) (hsz:w.heap.size≤w'.heap.size) (h:∀ b,b<w.heap.size→w'.heap[b]? = w.heap[b]?):HRel m X σ w':=by
 have hm:Mono m X w m X w':=by refine ⟨fun _ _ h=>h,fun b hb hc=>⟨h b hc.lt,hb⟩,fun b c e hb=>⟨c,?_,rfl⟩⟩;rw[h b ((Q3.1 hb).1),hb]
 refine ⟨fun b hb=>Z6 (hh.xb b hb) hsz,fun l b hl=>⟨(hh.dom l b hl).1,Z6 (hh.dom l b hl).2 hsz⟩,hh.own,hh.inj,fun l o ho=>?_,hh.gl.mono hm⟩;have:=hh.obj l o ho;cases hml:m l with
 | none=>rw[hml] at this;cases o <;> simp[ORel] at this ⊢
 | some b=>rw[hml] at this;exact ORel.mono hm (h b (hh.dom l b hml).2) this
end
theorem AC.pure {P:Program} {f:FuncId} {args:List AV} {Q:AV→List AObj→Prop} {R:AV→Prop} (hcl:QO 0 args=true) (h:AC P f args [] Q)
  (hq:∀ r σ',Q r σ'→∃ v,FrzV anyC σ' r v∧R v) (σ:List AObj):AC P f args σ fun r σ'=>R r∧σ'=σ:=by
 refine ⟨h.1,fun m X w cargs ha hh=>?_⟩;have hown:∀ b,Own nom (Own m X) b↔Own m X b:=fun b=>⟨fun h=>h.elim id (fun ⟨l,hl⟩=>by cases hl),.inl⟩
 have ha0:QK nom (Own m X) w args cargs:=QK.less (k:=0) (fun l hl=>absurd hl (W5 _)) (fun b hb=>(hown b).1 hb) args cargs hcl ha;have hh0:HRel nom (Own m X) [] w:=by
  refine ⟨fun b hb=>?_,fun l b hl=>(by cases hl),fun l b o hl=>(by cases hl),fun l l' b o hl=>(by cases hl),fun l o ho=>(by simp at ho),hh.gl.less fun b hb=>(hown b).1 hb⟩;rcases hb with hb | ⟨l,hl⟩
  ·exact hh.xb b hb
  ·exact (hh.dom l b hl).2
 refine (h.2 nom (Own m X) w cargs ha0 hh0).mono ?_;rintro e w' ⟨c,r,σ',m',rfl,hQ,hv,hh',hst,_⟩;obtain ⟨v,hf,hR⟩:=hq r σ' hQ;have hsame:∀ b,b<w.heap.size→w'.heap[b]? = w.heap[b]? := fun b hb=>hst.fr b hb (.inr fun l hl=>by cases hl)
 refine ⟨c,v,σ,m,rfl,⟨hR,rfl⟩,?_,hh.below hst.size hsame,?_,QG _⟩
 ·refine RX hh' (fun c v _ h=>CV.rep_less (fun b hb=>.inl hb) c v h) ?_ hf c hv;intro l b o hl ho hlive hb;exact hh'.own l b o hl ho hlive hb
 ·exact ⟨fun _ _=>rfl,fun l b hl=>.inl ⟨l,hl⟩,hst.size,fun b hb _=>hsame b hb,hst.shp,hst.os,hst.tape,hst.output,hst.drawn⟩
theorem AC.pureN {P:Program} {f:FuncId} {args args':List AV} {Q:AV→List AObj→Prop} {R:AV→Prop} (h:AC P f args [] Q) (hq:∀ r σ',Q r σ'→∃ v,FrzV scl σ' r v∧R v) {σ:List AObj} (hf:KS anyC σ args' args):AC P f args' σ fun r σ'=>R r∧σ'=σ:=by
 refine ⟨h.1,fun m X w cargs ha hh=>?_⟩;have hown:∀ b,Own nom X b→X b:=fun b h=>h.elim id (fun ⟨l,hl⟩=>by cases hl)
 have ha0:QK nom X w args cargs:=by refine Qbq hh (fun c v _ h=>CV.rep_less (fun b hb=>.inl (hown b hb)) c v h) ?_ hf cargs ha;intro l b o hl ho hlive hb;exact hh.own l b o hl ho hlive (hown b hb)
 have hh0:HRel nom X [] w:=⟨hh.xb,fun l b hl=>(by cases hl),fun l b o hl=>(by cases hl),fun l l' b o hl=>(by cases hl),fun l o ho=>(by simp at ho),hh.gl.less fun b hb=>.inl (hown b hb)⟩;refine (h.2 nom X w cargs ha0 hh0).mono ?_;rintro e w' ⟨c,r,σ',m',rfl,hQ,hv,hh',hst,_⟩;obtain ⟨v,hf,hR⟩:=hq r σ' hQ;have hsame:∀ b,b<w.heap.size→w'.heap[b]? = w.heap[b]? := fun b hb=>hst.fr b hb (.inr fun l hl=>by cases hl)
 refine ⟨c,v,σ,m,rfl,⟨hR,rfl⟩,?_,hh.below hst.size hsame,?_,QG _⟩
 ·refine RX hh' (fun c v hp h=>Qa2 c v hp h) ?_ hf c hv;intro l b o hl ho hlive hb;have hbs:b<w.heap.size:=by
   rcases hb with hb | ⟨l',hl'⟩
   ·exact hh.xb b hb
   ·exact (hh.dom l' b hl').2
  rcases hst.new l b hl with ⟨l',hl'⟩ | hge
  ·cases hl'
  ·omega
 ·exact ⟨fun _ _=>rfl,fun l b hl=>.inl ⟨l,hl⟩,hst.size,fun b hb _=>hsame b hb,hst.shp,hst.os,hst.tape,hst.output,hst.drawn⟩
structure PC (P:Program) (f:FuncId) (args:List AV) (v:AV):Prop where
 ac:AC P f args [] fun r τ=>FrzV scl τ r v
 cl:QR 0 v=true
theorem PC.call {P:Program} {f:FuncId} {args args':List AV} {v:AV} {σ:List AObj} {K:AV→List AObj→Prop} (h:PC P f args v) (hf:KS anyC σ args' args) (hk:K v σ):AC P f args' σ K :=
 (AC.pureN (R:=fun r=>r=v) h.ac (fun r τ hr=>⟨v,hr,rfl⟩) hf).mono fun r τ ⟨h1,h2⟩=>by rw[h1,h2];exact hk
mutual
theorem GE {σ:List AObj} {k:Nat}:∀ (a:AV),QR 0 a=true→FrzV anyC σ a a
 | .cv c,_=>.c (.c c trivial)
 | .ptr l o,h=>by simp[QR] at h
 | .sl l o n e,h=>by simp[QR] at h
 | .map l,h=>by simp[QR] at h
 | .fn f cs,h=>.fn (KW (k:=k) cs (by simpa[QR] using h))
 | .bm f cs,h=>.bm (KW (k:=k) cs (by simpa[QR] using h))
 | .yld l,h=>by simp[QR] at h
 | .agg cs,h=>.agg (KW (k:=k) cs (by simpa[QR] using h))
 | .tup cs,h=>.tup (KW (k:=k) cs (by simpa[QR] using h))
 | .undef,_=>.un _
 | .slc l o n c e,h=>by simp[QR] at h
theorem KW {σ:List AObj} {k:Nat}:∀ (as_:List AV),QO 0 as_=true→KS anyC σ as_ as_
 | [],_=>.nil
 | a::as_,h=>by simp only[QO,QD] at h;exact .cons (GE (k:=k) a h.1) (KW (k:=k) as_ h.2)
end
structure PA (P:Program) (f:FuncId) (args:List AV) (v:AV):Prop where
 ac:AC P f args [] fun r τ=>FrzV anyC τ r v
 cl:QR 0 v=true
 al:QO 0 args=true
theorem PA.call {P:Program} {f:FuncId} {args:List AV} {v:AV} {σ:List AObj} {K:AV→List AObj→Prop} (h:PA P f args v) (hk:K v σ):AC P f args σ K :=
 (AC.pure (R:=fun r=>r=v) h.al h.ac (fun r τ hr=>⟨v,hr,rfl⟩) σ).mono fun r τ ⟨h1,h2⟩=>by rw[h1,h2];exact hk
def mapO {α β:Type} (f:α→Option β):List α→Option (List β)
 | []=>some []
 | a::as_=>match f a with
  | none=>none
  | some b=>match mapO f as_ with
   | none=>none
   | some bs=>some (b::bs)
def frzF (σ:List AObj):Nat→AV→Option CV
 | _,.cv c=>some c
 | n+1,.sl l off len esz =>
  match rowOf σ l with
  | some cs=>if off+len*esz≤cs.length then (mapO (frzF σ n) ((cs.drop off).take (len*esz))).map (.rsl · len) else none
  | none=>none
 | n+1,.ptr l off =>
  match rowOf σ l with
  | some cs=>(mapO (frzF σ n) cs).map (.rp · off)
  | none=>none
 | n+1,.slc l off len _ esz =>
  match rowOf σ l with
  | some cs=>if off+len*esz≤cs.length then (mapO (frzF σ n) ((cs.drop off).take (len*esz))).map (.rsl · len) else none
  | none=>none
 | _,_=>none
def L8 (σ:List AObj):Nat→AV→Option AV
 | _,.cv c=>some (.cv c)
 | n+1,.agg as_=>(mapO (L8 σ n) as_).map .agg
 | n+1,.tup as_=>(mapO (L8 σ n) as_).map .tup
 | n+1,.fn f as_=>(mapO (L8 σ n) as_).map (.fn f)
 | n+1,.bm f as_=>(mapO (L8 σ n) as_).map (.bm f)
 | _,.undef=>some .undef
 | n+1,a=>(frzF σ n a).map .cv
 | _,_=>none
theorem Qcu {σ:List AObj}:∀ (n:Nat) (a:AV) (c:CV),frzF σ n a=some c→FrzC anyC σ a c:=by
 have hm:∀ (n:Nat),(∀ (a:AV) (c:CV),frzF σ n a=some c→FrzC anyC σ a c)→∀ (as_:List AV) (cs:List CV),mapO (frzF σ n) as_=some cs→HL anyC σ as_ cs:=by
  intro n ih as_
  induction as_ with
  | nil=>intro cs h;simp only[mapO,Option.some.injEq] at h;subst h;exact .nil
  | cons a as_ ihl =>
   intro cs h;simp only[mapO] at h;split at h
   ·cases h
   ·rename_i b hb;split at h
    ·cases h
    ·rename_i bs hbs;cases h;exact .cons (ih a b hb) (ihl bs hbs)
 intro n
 induction n with
 | zero=>intro a c h;cases a <;> simp[frzF] at h;subst h;exact .c _ trivial
 | succ n ih =>
  intro a c h;cases a <;> simp only[frzF,reduceCtorEq] at h
  ·cases h;exact .c _ trivial
  ·split at h
   ·rename_i cs hcs;simp only[QA] at h;obtain ⟨ds,hds,rfl⟩:=h;exact .ptr _ _ cs ds hcs (hm n ih _ _ hds)
   ·cases h
  ·split at h
   ·rename_i cs hcs;split at h
    ·rename_i hle;simp only[QA] at h;obtain ⟨ds,hds,rfl⟩:=h;exact .sl _ _ _ _ cs ds hcs hle (hm n ih _ _ hds)
    ·cases h
   ·cases h
  ·split at h
   ·rename_i cs hcs;split at h
    ·rename_i hle;simp only[QA] at h;obtain ⟨ds,hds,rfl⟩:=h;exact .slc _ _ _ _ _ cs ds hcs hle (hm n ih _ _ hds)
    ·cases h
   ·cases h
theorem Qbr {σ:List AObj}:∀ (n:Nat) (a:AV) (c:AV),L8 σ n a=some c→FrzV anyC σ a c:=by
 have hm:∀ (n:Nat),(∀ (a:AV) (c:AV),L8 σ n a=some c→FrzV anyC σ a c)→∀ (as_:List AV) (cs:List AV),mapO (L8 σ n) as_=some cs→KS anyC σ as_ cs:=by
  intro n ih as_
  induction as_ with
  | nil=>intro cs h;simp only[mapO,Option.some.injEq] at h;subst h;exact .nil
  | cons a as_ ihl =>
   intro cs h;simp only[mapO] at h;split at h
   ·cases h
   ·rename_i b hb;split at h
    ·cases h
    ·rename_i bs hbs;cases h;exact .cons (ih a b hb) (ihl bs hbs)
 intro n
 induction n with
 | zero =>
  intro a c h;cases a <;> simp only[L8,reduceCtorEq,Option.some.injEq] at h
  ·subst h;exact .c (.c _ trivial)
  ·subst h;exact .un _
 | succ n ih =>
  intro a c h;cases a <;> simp only[L8,reduceCtorEq,Option.some.injEq] at h
  case cv=>subst h;exact .c (.c _ trivial)
  case undef=>subst h;exact .un _
  case agg=>simp only[QA] at h;obtain ⟨ds,hds,rfl⟩:=h;exact .agg (hm n ih _ _ hds)
  case tup=>simp only[QA] at h;obtain ⟨ds,hds,rfl⟩:=h;exact .tup (hm n ih _ _ hds)
  case fn=>simp only[QA] at h;obtain ⟨ds,hds,rfl⟩:=h;exact .fn (hm n ih _ _ hds)
  case bm=>simp only[QA] at h;obtain ⟨ds,hds,rfl⟩:=h;exact .bm (hm n ih _ _ hds)
  all_goals
   simp only[QA] at h;obtain ⟨d,hd,rfl⟩:=h;exact .c (Qcu n _ _ hd)
def F9 (r r':XC):Prop:=r'.vars=r.vars∧r'.ntmps=r.ntmps∧r'.params=r.params∧r'.assign=r.assign∧r'.body=r.body
def WT (σ σ':List AObj):Prop:=∀ (l:Nat) (r:XC),σ[l]? = some (AObj.loop r)→∃ r',σ'[l]? = some (AObj.loop r')∧F9 r r'
theorem F9.refl (r:XC):F9 r r:=⟨rfl,rfl,rfl,rfl,rfl⟩
theorem F9.trans {a b c:XC} (h:F9 a b) (k:F9 b c):F9 a c :=
 ⟨k.1.trans h.1,k.2.1.trans h.2.1,k.2.2.1.trans h.2.2.1,k.2.2.2.1.trans h.2.2.2.1,k.2.2.2.2.trans h.2.2.2.2⟩
theorem WT.refl (σ:List AObj):WT σ σ:=fun l r h=>⟨r,h,.refl r⟩
theorem WT.trans {a b c:List AObj} (h:WT a b) (k:WT b c):WT a c:=fun l r hr =>
 let ⟨r1,h1,h2⟩:=h l r hr
 let ⟨r2,h3,h4⟩:=k l r1 h1
 ⟨r2,h3,h2.trans h4⟩
theorem Qc2 {io:IOp} {as_:List AV} {σ σ':List AObj} {v:AV} (h:ZQ io as_ σ=some (v,σ')) {l:Nat} {r:XC} (hl:σ[l]? = some (.loop r)):σ'[l]? = some (.loop r):=by
 have push:∀ (τ:List AObj) (x:AObj),σ'=τ++[x]→τ[l]? = some (.loop r)→σ'[l]? = some (.loop r):=by rintro τ x rfl ht;rw[QE (QH.1 ht).1];exact ht
 have row:∀ (x:Nat) (cs:List AV) (y:AObj),rowOf σ x=some cs→(σ.set x y)[l]? = some (.loop r):=by intro x cs y hx;have hx:=WO hx;rw[QU];exact hl;rintro rfl;rw[hl] at hx;cases hx
 have mp:∀ (x:Nat) (es:List (AV × AV)) (y:AObj),mapOf σ x=some es→(σ.set x y)[l]? = some (.loop r):=by intro x es y hx;rw[QU];exact hl;rintro rfl;unfold mapOf at hx;rw[hl] at hx;cases hx
 by_cases h0:kindOf io=0
 ·rw[(KF h0 h).1];exact hl
 by_cases h1:kindOf io=1
 ·rw[GB h1 h];exact hl
 cases io <;> (try (exact absurd rfl h0)) <;> (try (exact absurd rfl h1)) <;> simp only[ZQ] at h
 case alloc zs=>unfold UO at h;split at h <;> cases h;exact push _ _ rfl hl
 case box=>unfold WI at h;split at h <;> (try (cases h;done));split at h <;> cases h;exact push _ _ rfl hl
 case bslice esz len zs ps=>unfold V4 at h;simp only[QA] at h;obtain ⟨v,hv,he⟩:=h;cases he;exact push _ _ rfl hl
 case store n=>unfold UM at h;split at h <;> (try (cases h;done));simp only[QB] at h;obtain ⟨cs,hcs,h⟩:=h;split at h <;> cases h;exact row _ _ _ hcs
 case mkmap=>unfold KY at h;split at h <;> cases h;exact push _ _ rfl hl
 case mkslice esz bytes zs=>unfold XB at h;split at h <;> (try (cases h;done));split at h <;> cases h;exact push _ _ rfl hl
 case mksliceC esz bytes zs=>unfold XR at h;split at h <;> (try (cases h;done));split at h <;> cases h;exact push _ _ rfl hl
 case append esz bytes =>
  unfold ZX at h;split at h <;> (try (cases h;done))
  ·simp only[QB] at h;obtain ⟨new,hnew,n,hn,h⟩:=h;split at h
   ·cases h;exact hl
   ·split at h <;> cases h;exact push _ _ rfl hl
  ·simp only[QB] at h;obtain ⟨cs,hcs,new,hnew,n,hn,h⟩:=h;split at h <;> cases h
   exact push _ _ rfl (row _ _ _ hcs)
  ·simp only[QB] at h;obtain ⟨cs,hcs,new,hnew,n,hn,h⟩:=h;split at h
   ·split at h <;> cases h;exact row _ _ _ hcs
   ·split at h <;> cases h;exact push _ _ rfl hl
 case clear zs=>unfold UN at h;split at h <;> (try (cases h;done)) <;> (simp only[QB] at h;obtain ⟨cs,hcs,h⟩:=h;split at h <;> cases h;exact row _ _ _ hcs)
 case copy esz=>unfold UE at h;split at h <;> (try (cases h;done));simp only[QB] at h;obtain ⟨cs,hcs,new,hnew,n,hn,h⟩:=h;split at h <;> cases h;exact row _ _ _ hcs
 case mapset ks=>unfold JZ at h;split at h <;> (try (cases h;done));simp only[QB] at h;obtain ⟨es,hes,h⟩:=h;split at h <;> (try (cases h;done));simp only[QA] at h;obtain ⟨res,hres,he⟩:=h;cases he;exact mp _ _ _ hes
 case mapdel ks=>unfold J0 at h;split at h <;> (try (cases h;done));simp only[QB] at h;obtain ⟨es,hes,h⟩:=h;split at h <;> (try (cases h;done));simp only[QA] at h;obtain ⟨res,hres,he⟩:=h;cases he;exact mp _ _ _ hes
 case stuck=>cases h
 case mapent=>cases h
 case entst=>cases h
 case appendz esz bytes zs=>unfold VQ at h;split at h <;> (try (cases h;done));simp only[QB] at h;obtain ⟨cs,hcs,h⟩:=h;split at h <;> cases h;exact push _ _ rfl hl
 case rstr=>unfold F6 at h;split at h <;> cases h;exact push _ _ rfl hl
 case snext =>
  unfold KX at h;split at h <;> (try (cases h;done));simp only[QA] at h;obtain ⟨⟨s,p⟩,hsp,h⟩:=h;split at h <;> cases h
  ·have:=II hsp;rw[QU];exact hl;rintro rfl;rw[hl] at this;cases this
  ·exact hl
inductive RC where
 | v (i:Nat)
 | l1 (i:Nat)
 | lN (i n:Nat)
def R0 (P:Program) (vars:List Nat):ResultVar→Option RC
 | .tmp t=>(vars.idxOf? t).map .v
 | .cell a t=>(vars.idxOf? a).bind fun i=>(UD P t).bind fun g=>if g then (P.info? t).map fun ti=>.lN i ti.size else some (.l1 i)
def resE (vals:List AV) (σ:List AObj):RC→Option AV
 | .v i=>some (vals.getD i .undef)
 | .l1 i=>(KZ [vals.getD i .undef] σ).map (·.1)
 | .lN i n=>(YF n [vals.getD i .undef] σ).map (·.1)
def RL (vals:List AV) (σ:List AObj):List RC→Option AV
 | [r]=>resE vals σ r
 | rs=>(mapO (resE vals σ) rs).map .tup
theorem Qd9 {α β:Type} (f:α→Option β):∀ l,mapO f l=l.mapM f
 | []=>rfl
 | a::l=>by
  simp only[mapO,Qd9 f l,WV,Option.bind_eq_bind,Option.pure_def];cases f a <;> simp
  cases List.mapM f l <;> rfl
theorem Qd0 {P:Program} {vars:List Nat} {vals:List AV} {σ:List AObj} {rv:ResultVar} {rc:RC} (h:R0 P vars rv=some rc):resF vars vals σ P rv=resE vals σ rc:=by
 cases rv with
 | tmp t=>simp only[R0,QA] at h;obtain ⟨i,hi,rfl⟩:=h;simp[resF,resE,hi]
 | cell a t =>
  simp only[R0,QB] at h;obtain ⟨i,hi,g,hg,h⟩:=h;simp only[resF,hi,hg,Option.bind_some];cases g with
  | true=>simp only[if_true,QA] at h ⊢;obtain ⟨ti,ht,rfl⟩:=h;simp[ht,resE]
  | false=>simp only[QT,if_false,Option.some.injEq] at h ⊢;subst h;rfl
theorem BY {P:Program} {vars:List Nat} {vals:List AV} {σ:List AObj} {rvs:List ResultVar} {rcs:List RC} (h:mapO (R0 P vars) rvs=some rcs):UB P vars vals σ rvs=RL vals σ rcs:=by
 have key:∀ (rvs:List ResultVar) (rcs:List RC),mapO (R0 P vars) rvs=some rcs→rvs.length=rcs.length∧mapO (resF vars vals σ P) rvs=mapO (resE vals σ) rcs:=by
  intro rvs
  induction rvs with
  | nil=>intro rcs h;simp only[mapO,Option.some.injEq] at h;subst h;exact ⟨rfl,rfl⟩
  | cons a rvs ih =>
   intro rcs h;simp only[mapO] at h;split at h
   ·cases h
   ·rename_i b hb;split at h
    ·cases h
    ·rename_i bs hbs;cases h;obtain ⟨h1,h2⟩:=ih bs hbs;refine ⟨by simp[h1],?_⟩;simp only[mapO,Qd0 hb,h2]
 obtain ⟨h1,h2⟩:=key rvs rcs h;unfold UB RL
 match rvs,rcs,h1 with
 | [],[],_=>simp[mapO]
 | [a],[b],_ =>
  simp only[mapO] at h;split at h
  ·cases h
  ·rename_i c hc;cases h;exact Qd0 hc
 | a::b::rvs,c::d::rcs,_=>simp only[← Qd9,h2]
structure FE where
 ic:IC
 vars:List Nat
 N:Nat
 res:List RC
 pure:Bool
structure FnOk (P:Program) (f:FuncId) (fe:FE):Prop where
 ok:∃ fn c,P.funcs[f]? = some fn∧fn.body=some c∧(fn.name == "runtime.NumGoroutine")=false∧fn.ntmps=fe.N∧QL P fe.vars fn.ntmps c=some fe.ic∧mapO (R0 P fe.vars) fn.results.toList=some fe.res
structure LE where
 vars:List Nat
 N:Nat
 ps:List Nat
 ia:IC
 ib:IC
abbrev Env:=List (Nat × LE)
def P6:Env→Nat→Option LE
 | [],_=>none
 | (k,e)::es,l=>if Nat.beq k l then some e else P6 es l
def RD (P:Program) (E:Env) (σ:List AObj):Prop :=
 ∀ (l:Nat) (le:LE),P6 E l=some le→∃ r,σ[l]? = some (AObj.loop r)∧r.vars=le.vars∧r.ntmps=le.N∧r.params=le.ps∧QL P le.vars le.N r.assign=some le.ia∧QL P le.vars le.N r.body=some le.ib ∧
  le.vars.Nodup∧(∀ t∈le.ps,t∈le.vars)∧∀ t∈le.ps,t<le.N
theorem RD.keep {P:Program} {E:Env} {σ σ':List AObj} (h:RD P E σ) (k:WT σ σ'):RD P E σ':=by
 intro l le hl;obtain ⟨r,h1,h2,h3,h4,h5,h6,h7⟩:=h l le hl;obtain ⟨r',k1,k2,k3,k4,k5,k6⟩:=k l r h1;exact ⟨r',k1,k2.trans h2,k3.trans h3,k4.trans h4,by rw[k5];exact h5,by rw[k6];exact h6,h7⟩
def Qcw {α:Type} (n:Int) (k:α):α :=
 match n with
 | .ofNat m=>if Nat.beq m 0 then k else k
 | .negSucc m=>if Nat.beq m 0 then k else k
theorem Qet {α:Type} (n:Int) (k:α):Qcw n k=k:=by cases n <;> simp[Qcw]
def NC {α:Type} (v:AV) (k:α):α :=
 match v with
 | .cv (.int _ n)=>Qcw n k
 | .cv (.bool true)=>k
 | _=>k
theorem LI {α:Type} (v:AV) (k:α):NC v k=k:=by unfold NC;split <;> simp[Qet]
def CI {α β:Type}:List α→(List α→β)→β
 | [],k=>k []
 | a::as_,k=>CI as_ fun bs=>k (a::bs)
theorem A0 {α β:Type}:∀ (l:List α) (k:List α→β),CI l k=k l
 | [],k=>rfl
 | a::l,k=>by simp[CI,A0 l]
def Qcq:AObj→Bool | .dead=>false | _=>true
def QdD (σ:List AObj) (v:AV) (τ:List AObj):Bool :=
 QR τ.length v&&decide (σ.length≤τ.length)&&τ.all (Z3 τ.length)&&(τ.drop σ.length).all Qcq
def Qaj (b k:Bool) (σ:List AObj) (v:AV) (τ:List AObj):Bool :=
 match b with
 | true=>k
 | false=>QdD σ v τ
abbrev CallE:=AV→List AV→List AObj→Option (Bool × AV × List AObj)
def avEq:AV→AV→Bool
 | .cv (.int k a),.cv (.int k' b)=>decide (k=k')&&decide (a=b)
 | .cv (.bool a),.cv (.bool b)=>a == b
 | .cv .nilp,.cv .nilp=>true
 | .cv .nils,.cv .nils=>true
 | .ptr a b,.ptr c d=>Nat.beq a c&&Nat.beq b d
 | .map a,.map b=>Nat.beq a b
 | .sl a b c d,.sl a' b' c' d'=>(Nat.beq a a'&&Nat.beq b b')&&(Nat.beq c c'&&Nat.beq d d')
 | .slc a b c d e,.slc a' b' c' d' e'=>(Nat.beq a a'&&Nat.beq b b')&&((Nat.beq c c'&&Nat.beq d d')&&Nat.beq e e')
 | _,_=>false
def QaL:List AV→List AV→Bool
 | [],[]=>true
 | a::as_,b::bs=>avEq a b&&QaL as_ bs
 | _,_=>false
def objEq:Option AObj→Option AObj→Bool
 | some (.cells a),some (.cells b)=>QaL a b
 | none,none=>true
 | some .dead,some .dead=>true
 | _,_=>false
def QdN:List Nat→List AObj→List AObj→Bool
 | [],_,_=>true
 | l::ls,a,b=>objEq a[l]? b[l]? && QdN ls a b
def QdO:List (Nat × Nat)→List PlT→List (List AObj)→Bool
 | [],_,_=>true
 | p::xs,pl,hs=>QdN (YX (pl.getD p.1 .no)) (hs.getD (p.2+1) []) (hs.getD p.2 [])&&QdO xs pl hs
abbrev RegR:=Option (List AV × List AV × List AObj)
abbrev RegK:=List AV→List AV→List AObj→RegR
def rPrim (i:Ins) (k:RegK) (vals ρ:List AV):Option (AV × List AObj)→RegR
 | some (v,σ')=>NC v (k (setD i.dst vals v) (ρ++[v]) σ')
 | none=>none
def rCall (i:Ins) (k:RegK) (vals ρ:List AV):Option (Bool × AV × List AObj)→RegR
 | some (_,v,σ')=>NC v (k (setD i.dst vals v) (ρ++[v]) σ')
 | none=>none
def rCall1 (call:CallE) (i:Ins) (k:RegK) (vals ρ:List AV) (σ:List AObj):List AV→RegR
 | fv::as_=>rCall i k vals ρ (call fv as_ σ)
 | []=>none
def rOp (call:CallE) (i:Ins) (k:RegK) (vals ρ:List AV) (σ:List AObj):IK→RegR
 | .prim io=>rPrim i k vals ρ (ZQ io (i.args.map (WY vals ρ)) σ)
 | .call=>rCall1 call i k vals ρ σ (i.args.map (WY vals ρ))
def rIns (call:CallE) (i:Ins) (k:RegK) (vals ρ:List AV) (σ:List AObj):Option Bool→RegR
 | none=>none
 | some false=>k (setD i.dst vals (.tup [])) (ρ++[.tup []]) σ
 | some true=>rOp call i k vals ρ σ i.op
def runR (call:CallE):List Ins→List AV→List AV→List AObj→Option (List AV × List AV × List AObj)
 | [],vals,ρ,σ=>some (vals,ρ,σ)
 | i::is,vals,ρ,σ=>rIns call i (runR call is) vals ρ σ (gdOk ρ i.gd)
abbrev RegX:=List PlT→List (List AObj)→List AV→List AV→List AObj→RegR
def xPrim (i:Ins) (as_:List AV) (k:RegX) (pl:List PlT) (hs:List (List AObj)) (vals ρ:List AV) (σ:List AObj):Option (AV × List AObj)→RegR
 | some (v,σ')=>NC v (k (pl++[plOf i as_ σ]) (hs++[σ]) (setD i.dst vals v) (ρ++[v]) σ')
 | none=>none
def xCall (b:Bool) (i:Ins) (k:RegX) (pl:List PlT) (hs:List (List AObj)) (vals ρ:List AV) (σ:List AObj):Option (Bool × AV × List AObj)→RegR
 | some (kk,v,σ')=>if Qaj b kk σ v σ' then NC v (k (pl++[.no]) (hs++[σ]) (setD i.dst vals v) (ρ++[v]) σ') else none
 | none=>none
def xCall1 (call:CallE) (b:Bool) (i:Ins) (k:RegX) (pl:List PlT) (hs:List (List AObj)) (vals ρ:List AV) (σ:List AObj):List AV→RegR
 | fv::as_=>xCall b i k pl hs vals ρ σ (call fv as_ σ)
 | []=>none
def xOp (call:CallE) (b:Bool) (i:Ins) (k:RegX) (pl:List PlT) (hs:List (List AObj)) (vals ρ:List AV) (σ:List AObj):IK→RegR
 | .prim io=>xPrim i (i.args.map (WY vals ρ)) k pl hs vals ρ σ (ZQ io (i.args.map (WY vals ρ)) σ)
 | .call=>xCall1 call b i k pl hs vals ρ σ (i.args.map (WY vals ρ))
def xIns (call:CallE) (b:Bool) (i:Ins) (k:RegX) (pl:List PlT) (hs:List (List AObj)) (vals ρ:List AV) (σ:List AObj):Option Bool→RegR
 | none=>none
 | some false=>k (pl++[.no]) (hs++[σ]) (setD i.dst vals (.tup [])) (ρ++[.tup []]) σ
 | some true=>xOp call b i k pl hs vals ρ σ i.op
def runX (call:CallE) (kp:List Nat) (xs:List (Nat × Nat)):Nat→List Ins→List PlT→List (List AObj)→List AV→List AV→List AObj→Option (List AV × List AV × List AObj)
 | _,[],pl,hs,vals,ρ,σ=>if QdO xs pl (hs++[σ]) then some (vals,ρ,σ) else none
 | j,i::is,pl,hs,vals,ρ,σ=>xIns call (kp.contains j) i (runX call kp xs (j+1) is) pl hs vals ρ σ (gdOk ρ i.gd)
def isCall (i:Ins):Bool:=match i.op with | .call=>true | _=>false
def callsOf (is:List Ins):List Nat:=(List.range is.length).filter fun j=>match is[j]? with | some i=>isCall i | none=>false
def xsOf (is:List Ins) (pds:List (List Nat)) (kp:List Nat):List (Nat × Nat) :=
 (List.range is.length).flatMap fun k=>match is[k]? with
  | some i=>if Nat.beq (JA kp k i) 2 then ((List.range is.length).filter fun j=>(match is[j]? with | some i'=>((Qaq i' && !Nat.beq (JA kp j i') 0)||(Nat.blt j k&&MW i)) && !Nat.beq j k | none=>false) && !(pdAt pds k).contains j && !(pdAt pds j).contains k).map fun j=>(j,k) else []
  | none=>[]
def kpSel (dirs:List (List Nat)) (is:List Ins) (pds:List (List Nat)):Option (List Nat × List (Nat × Nat)) :=
 let cs:=callsOf is
 let ks:=([]:List Nat)::cs::(cs.map fun c=>[c])++cs.map fun c=>cs.filter (· != c)
 if RQ dirs is pds [] [] then some ([],[]) else
 (ks.find? fun kp=>RQ dirs is pds kp (xsOf is pds kp)).map fun kp=>(kp,xsOf is pds kp)
def Qbj (body:St→Option (Exit × St)):Nat→St→Option (Exit × St)
 | 0,_=>none
 | n+1,s =>
  match body s with
  | some (.normal,s')=>CI s'.vals fun vals=>CI s'.heap fun heap=>Qbj body n ⟨vals,heap⟩
  | r=>r
def TI (σ:List AObj) (l:Nat):Option XC :=
 match σ[l]? with
 | some (.loop r)=>some r
 | _=>none
def Qbh {α:Type}:Option α→Bool | none=>true | _=>false
def rfChk (fx:Fx) (s:St) (ps:Array Nat):Bool :=
 Nat.ble s.vals.length fx.vars.length&&(match fx.r with | none=>true | some l0=>(TI s.heap l0).isSome)&&(decide fx.vars.Nodup&&ps.toList.all (fun t=>fx.vars.contains t&&Nat.blt t fx.N))
abbrev RI:=Option (Exit × St)
abbrev RunI:=Env→Fx→St→RI
def rThen (rb:RunI) (E:Env) (fx:Fx):RI→RI
 | some (.normal,s')=>rb E fx s'
 | r=>r
def rBlock (i:Nat):RI→RI
 | some (.exit i',s')=>some (if Nat.beq i' i then .normal else .exit i',s')
 | r=>r
def rScope:RI→RI
 | some (.goto _,_)=>none
 | r=>r
def rCond (ra rb:RunI) (E:Env) (fx:Fx) (s:St):AV→RI
 | .cv (.bool true)=>ra E fx s
 | .cv (.bool false)=>rb E fx s
 | _=>none
def rReg:RegR→RI
 | some (vals,_,σ)=>some (.normal,⟨vals,σ⟩)
 | none=>none
def rDraw (call:CallE) (fx:Fx) (is:List Ins) (s:St):Option (List Nat × List (Nat × Nat))→RI
 | none=>none
 | some (kp,xs)=>if Nat.beq s.vals.length fx.vars.length then rReg (runX call kp xs 0 is [] [] s.vals [] s.heap) else none
def rfPend (s:St) (r2:XC) (σ':List AObj):Option Code→RI
 | none=>some (.normal,⟨s.vals,setLoop σ' s.heap.length r2 .exhausted none⟩)
 | some .ret=>some (.ret,⟨s.vals,setLoop σ' s.heap.length r2 .exhausted (some .ret)⟩)
 | some (.exit i)=>some (.exit i,⟨s.vals,setLoop σ' s.heap.length r2 .exhausted (some (.exit i))⟩)
 | _=>none
def isBusy:LoopState→Bool | .busy=>true | _=>false
def MU:LoopState→Bool | .ready=>true | _=>false
def rfLoop (s:St) (σ':List AObj):Option XC→RI
 | some r2=>if isBusy r2.state then none else rfPend s r2 σ' r2.pending
 | none=>none
def rfRes (s:St):Option (Bool × AV × List AObj)→RI
 | some (_,_,σ')=>rfLoop s σ' (TI σ' s.heap.length)
 | none=>none
def rfGo (call:Env→CallE) (E:Env) (fx:Fx) (ps:Array Nat) (assign body:Code) (ia ib:IC) (s:St):AV→RI
 | .fn (.func gf) cap =>
  if rfChk fx s ps then rfRes s (call ((s.heap.length,⟨fx.vars,fx.N,ps.toList,ia,ib⟩)::E) (.fn (.func gf) cap) [.yld s.heap.length] (s.heap++[.loop (VJ fx s.vals ps assign body)]))
  else none
 | _=>none
def runI (call:Env→CallE) (lf:Nat):IC→RunI
 | .skip=>fun _ _ s=>some (.normal,s)
 | .label _=>fun _ _ s=>some (.normal,s)
 | .exit i=>fun _ _ s=>some (.exit i,s)
 | .ret=>fun _ _ s=>some (.ret,s)
 | .seq a b=>fun E fx s=>rThen (runI call lf b) E fx (runI call lf a E fx s)
 | .block i a=>fun E fx s=>rBlock i (runI call lf a E fx s)
 | .cond i a b=>fun E fx s=>rCond (runI call lf a) (runI call lf b) E fx s (s.vals.getD i .undef)
 | .loop a=>fun E fx s=>Qbj (runI call lf a E fx) lf s
 | .scope a=>fun E fx s=>rScope (runI call lf a E fx s)
 | .region is=>fun E fx s=>rReg (runR (call E) is s.vals [] s.heap)
 | .draw dirs is pds=>fun E fx s=>rDraw (call E) fx is s (kpSel dirs is pds)
 | .rangef g ps assign body ia ib=>fun E fx s=>rfGo call E fx ps assign body ia ib s (WY s.vals [] g)
def rRes (σ:List AObj):Option AV→Option (AV × List AObj)
 | some r=>some (r,σ)
 | none=>none
def rFn (res:List RC):RI→Option (AV × List AObj)
 | some (.normal,s)=>rRes s.heap (RL s.vals s.heap res)
 | some (.ret,s)=>rRes s.heap (RL s.vals s.heap res)
 | _=>none
def runF (call:Env→CallE) (lf:Nat) (E:Env) (fe:FE) (args:List AV) (σ:List AObj):Option (AV × List AObj) :=
 if Nat.ble args.length fe.N then rFn fe.res (runI call lf fe.ic E ⟨fe.vars,fe.N,none,σ.length⟩ ⟨Y5 fe.vars args,σ⟩)
 else none
def cutF (n0:Nat) (r:AV) (σ:List AObj):List AObj :=
 if Nat.ble (n0+24) σ.length&&(QR n0 r&&(σ.take n0).all (Z3 n0)) then σ.take n0 else σ
def rFrz2 (σ:List AObj):Option AV→Option (Bool × AV × List AObj)
 | some v=>if QR 0 v then some (true,v,σ) else none
 | none=>none
def rFrz (σ:List AObj):Option (AV × List AObj)→Option (Bool × AV × List AObj)
 | some (r,σ')=>rFrz2 σ (L8 σ' 8 r)
 | none=>none
def rCut (σ:List AObj):Option (AV × List AObj)→Option (Bool × AV × List AObj)
 | some (r,σ')=>some (false,r,cutF σ.length r σ')
 | none=>none
def rFe (call:Env→CallE) (lf:Nat) (E:Env) (args:List AV) (σ:List AObj):Option FE→Option (Bool × AV × List AObj)
 | none=>none
 | some fe=>if fe.pure&&QO 0 args then rFrz σ (runF call lf [] fe args []) else rCut σ (runF call lf E fe args σ)
mutual
def cvEq:CV→CV→Bool
 | .int k a,.int k' b=>decide (k=k')&&decide (a=b)
 | .bool a,.bool b=>a == b
 | .str a,.str b=>decide (a=b)
 | .nilp,.nilp | .nilm,.nilm | .nilf,.nilf | .nili,.nili | .nils,.nils=>true
 | .rsl as_ n,.rsl bs m=>Nat.beq n m&&Qbz as_ bs
 | .rp as_ n,.rp bs m=>Nat.beq n m&&Qbz as_ bs
 | _,_=>false
def Qbz:List CV→List CV→Bool
 | [],[]=>true
 | a::as_,b::bs=>cvEq a b&&Qbz as_ bs
 | _,_=>false
end
mutual
def aEq:AV→AV→Bool
 | .cv a,.cv b=>cvEq a b
 | .agg as_,.agg bs=>asEq as_ bs
 | _,_=>false
def asEq:List AV→List AV→Bool
 | [],[]=>true
 | a::as_,b::bs=>aEq a b&&asEq as_ bs
 | _,_=>false
end
abbrev Kn:=List (Nat × List AV × AV)
def Qbm:Kn→Nat→List AV→Option AV
 | [],_,_=>none
 | (f,as_,v)::ks,g,bs=>if Nat.beq f g&&asEq as_ bs then some v else Qbm ks g bs
structure Tb where
 T:Nat→Option FE
 K:Kn
def rKn (call:Env→CallE) (lf:Nat) (E:Env) (args:List AV) (σ:List AObj) (fe:Option FE):Option AV→Option (Bool × AV × List AObj)
 | some v=>some (true,v,σ)
 | none=>rFe call lf E args σ fe
def JL (T:Tb) (call:Env→CallE) (lf:Nat) (E:Env) (f:FuncId) (args:List AV) (σ:List AObj):Option (Bool × AV × List AObj) :=
 rKn call lf E args σ (T.T f) (Qbm T.K f args)
def yEnd (σ:List AObj) (l:Nat) (e:Exit):Option XC→Option (Bool × AV × List AObj)
 | some r2=>some (false,.b (Qbh (GQ e)),setLoop σ l r2 (if Qbh (GQ e) then .ready else .done) (GQ e))
 | none=>none
def yRes (l:Nat):RI→Option (Bool × AV × List AObj)
 | none=>none
 | some (.panic _,_)=>none
 | some (.outgrown,_)=>none
 | some (e,s2)=>yEnd s2.heap l e (TI s2.heap l)
def yBody (rb:RunI) (E:Env) (fx:Fx) (l:Nat) (s1:St):Option XC→Option (Bool × AV × List AObj)
 | some r1=>if MU r1.state then yRes l (rb E fx ⟨s1.vals,setLoop s1.heap l r1 .busy r1.pending⟩) else none
 | none=>none
def yAss (rb:RunI) (E:Env) (fx:Fx) (l:Nat):RI→Option (Bool × AV × List AObj)
 | some (.normal,s1)=>yBody rb E fx l s1 (TI s1.heap l)
 | _=>none
def yGo (call:Env→CallE) (lf:Nat) (E:Env) (l:Nat) (args:List AV) (σ:List AObj):Option LE→Option XC→Option (Bool × AV × List AObj)
 | some le,some r =>
  if MU r.state&&Nat.beq args.length le.ps.length then
   yAss (runI call lf le.ib) E ⟨le.vars,le.N,some l,σ.length⟩ l (runI call lf le.ia E ⟨le.vars,le.N,some l,σ.length⟩ ⟨JM le.vars le.ps args r.vals,σ⟩)
  else none
 | _,_=>none
def runY (call:Env→CallE) (lf:Nat) (E:Env) (l:Nat) (args:List AV) (σ:List AObj):Option (Bool × AV × List AObj) :=
 yGo call lf E l args σ (P6 E l) (TI σ l)
def UI (T:Tb) (lf:Nat):Nat→Env→CallE
 | 0,_,_,_,_=>none
 | d+1,E,fv,as_,σ =>
  match fv with
  | .fn (.func f) cap=>JL T (UI T lf d) lf E f (as_++cap) σ
  | .bm f first=>JL T (UI T lf d) lf E f (first++as_) σ
  | .yld l=>runY (UI T lf d) lf E l as_ σ
  | _=>none
end Go.Proofs.YtgkidpolomhghaaGreatDoor.AM

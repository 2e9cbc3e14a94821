/- Parts of the proof, joined: AmMr to AmCx. -/
import Derived.Maps.RangeRun
import Derived.Test.YtogjcmnopidfpaaGreatZ18
set_option linter.unusedVariables false
set_option linter.unusedSimpArgs false
set_option linter.unusedSectionVars false
namespace Go.Proofs.YtogjcmnopidfpaaGreat.AM
variable [Dr]
open Go
variable {P:Program} {fx:Fx} {m m':LM} {X X':Nat→Prop} {en:En} {w w':World} {s:St} {ac:Act}
theorem SRel.put_other {t:Nat} {v:Value} (ht:t∉fx.vars) (hs:SRel fx m X en s ac w):SRel fx m X en s (ac.put (some t) v) w:=by
 refine ⟨by simpa[Act.put] using hs.size,fun i u hi=>?_,hs.defs,hs.heap,hs.base,hs.entry⟩
 have hne:u≠t:=by rintro rfl;exact ht (QZ hi)
 have:=hs.vars i u hi
 simp only[Act.put,QV] at this ⊢
 rw[W2 (fun h=>hne h.symm)];exact this
structure MIt (m:LM) (X:Nat→Prop) (w:World) (lit l:Nat) (es:List (AV × AV)) (dn:List Nat) (r bm:Nat) (ces:Array MapEntry) (clock:Nat):Prop where
 mi:m lit=some r
 ml:m l=some bm
 xr:X r
 xm:X bm
 it:∃ c0,c0=clock∧w.heap[r]? = some (.mapIter (some bm) clock ((dn.map fun i=>(ces[i]?.map (·.born)).getD 0).toArray) c0)
 mp:w.heap[bm]? = some (.map ces clock)
 born:∀ e∈ces,e.born<clock
 nd:(ces.toList.map (·.born)).Nodup
 sz:ces.size=es.length
 rel:∀ (i:Nat) (k a:AV),es[i]? = some (k,a)→∃ e:MapEntry,ces[i]? = some e∧(∀ m X w,VRel m X w k e.key)∧∀ m X w,VRel m X w a e.val
 dd:dn.Nodup
 dl:∀ i∈dn,i<es.length
structure GM (l bm:Nat) (es:List (AV × AV)) (ces:Array MapEntry) (clock:Nat) (m:LM) (X:Nat→Prop) (w:World):Prop where
 ml:m l=some bm
 xm:X bm
 mp:w.heap[bm]? = some (.map ces clock)
 born:∀ e∈ces,e.born<clock
 nd:(ces.toList.map (·.born)).Nodup
 sz:ces.size=es.length
 rel:∀ (i:Nat) (k a:AV),es[i]? = some (k,a)→∃ e:MapEntry,ces[i]? = some e∧(∀ m X w,VRel m X w k e.key)∧∀ m X w,VRel m X w a e.val
theorem SRel.put_dst {dst:Option Nat} {v:Value} (hd:KA fx.vars dst=none) (hs:SRel fx m X en s ac w):SRel fx m X en s (ac.put dst v) w:=by
 cases dst with
 | none=>exact hs
 | some t=>exact hs.put_other (U3 hd)
end Go.Proofs.YtogjcmnopidfpaaGreat.AM
namespace Go.Proofs.YtogjcmnopidfpaaGreat.AM
variable [Dr]
open Go
section
variable {P:Program} {fx:Fx} {ops:Array Oper} {is:List Ins} {V:Nat→List AV} {r:Nat→AV} {S:Nat→List AObj} {pd:Nat→List Nat} {ch hd:Nat→Nat→Bool}
variable {m:LM} {X:Nat→Prop} {en:En} {w:World} {D:List Nat} {ac:Act} {j:Nat}
theorem comp_size (hc:HK P fx.vars (ops.toList.map (·.dst)) ops.toList=some is):is.length=ops.size∧∀ (j:Nat) o,ops[j]? = some o→∃ i,is[j]? = some i∧JP P fx.vars (ops.toList.map (·.dst)) o=some i:=by
 rw[UV] at hc
 have key:∀ (l:List Oper) (is:List Ins),l.mapM (JP P fx.vars (ops.toList.map (·.dst)))=some is→is.length=l.length∧∀ (j:Nat) o,l[j]? = some o→∃ i,is[j]? = some i∧JP P fx.vars (ops.toList.map (·.dst)) o=some i:=by
  intro l
  induction l with
  | nil=>intro is h;simp at h;subst h;simp
  | cons x l ih =>
   intro is h
   simp only[WV,Option.bind_eq_bind,QB,Option.pure_def,Option.some.injEq] at h
   obtain ⟨i,hi,is',his,rfl⟩:=h
   obtain ⟨h1,h2⟩:=ih _ his
   refine ⟨by simp[h1],fun j o hj=>?_⟩
   cases j with
   | zero=>simp at hj;subst hj;exact ⟨i,by simp,hi⟩
   | succ j=>simp at hj;simpa using h2 j o hj
 obtain ⟨h1,h2⟩:=key _ _ hc
 exact ⟨by simpa using h1,fun j o hj=>h2 j o (by simpa using hj)⟩
theorem RD_goP {ro:Option Nat} {js:List Ins} {lst:Nat} (hlst:lst+1=ops.size) (hlen:js.length=ops.size) (hjs:∀ (j:Nat),j≠lst→js[j]? = is[j]?) (hall:∀ k,k<lst→k∈pd lst) (h:Free P fx ops js V r S pd ch hd) (hlS:S (lst+1)=S lst) (hok:GU fx.vars fx.N ops.toList=true) (hc:HK P fx.vars (ops.toList.map (·.dst)) ops.toList=some is)
  (hcl0:∀ (l:Nat) o,(S 0)[l]? = some o→Z3 (S 0).length o=true) (hv0:QO (S 0).length (V 0)=true) (hn0:fx.n0≤(S 0).length) {Qc:Exit→Act→World→Prop} :
  ∀ (l:List Nat) (D:List Nat) (m:LM) (w:World) (ac:Act),C7 (V9 ops) ops.size D l→Inv fx ops js V r S pd ch X en D m ac w →
  lst∉D→(∀ m' ac' w',SRel fx m' X en ⟨V lst,S lst⟩ ac' w'→(∀ (j t:Nat),j<lst→(ops.toList[j]?).bind (·.dst)=some t→t∉fx.vars→VRel m' X w' (r j) (ac'.tmps.getD t Go.undef))→Step fx.n0 m X w m' w'→wpOpsIn (wfen ro) 0 P ops Qc [lst] ac' w')→wpOpsIn (wfen ro) 0 P ops Qc l ac w
 | [],D,m,w,ac,hs,inv,hD,hk=>by
  cases hs with
  | nil hall'=>exact absurd (hall' lst (by omega)) hD
 | j :: l,D,m,w,ac,hs,inv,hD,hk=>by
  cases hs with
  | cons hjn hjD hdir hs' =>
  have hcomp:=(comp_size hc).2
  by_cases hjl:j=lst
  ·have hpj:∀ e∈pd j,e∈D:=fun e he=>by
    rcases h.pddir j hjn e he with h1 | ⟨x,hx,h1⟩
    ·exact hdir e h1
    ·exact inv.clos x (hdir x hx) e h1
   subst hjl
   have hin:∀ k,k<ops.size→(decide (k∈D)=decide (k<j)):=fun k hk=>by
    by_cases e:k<j
    ·rw[decide_eq_true e,decide_eq_true (hpj k (hall k e))]
    ·have:k=j:=by omega
     subst this
     rw[decide_eq_false e,decide_eq_false hjD]
   have hl0:l=[]:=by
    cases l with
    | nil=>rfl
    | cons k l =>
     cases hs' with
     | cons h1 h2 h3 h4 =>
      exfalso
      apply h2
      by_cases e:k<j
      ·exact WU _ (hpj k (hall k e))
      ·have:k=j:=by omega
       subst this;exact List.mem_cons_self ..
   rw[hl0]
   refine hk m ac w ⟨inv.size,?_,inv.defs,?_,YR hn0 (h.le' (QF _) (by omega)),inv.entry⟩ (fun k t hkj hkt htv=>?_) (Step.refl _ _ _ _)
   ·intro i t hi
    have hv:=inv.vars i t hi
    have hil:i<fx.vars.length:=(QH.1 hi).1
    have e1:vAt js r (V 0) ops.size (fun k=>decide (k∈D)) i=vAt js r (V 0) ops.size (fun k=>decide (k<j)) i:=by
     have:lastOf (fun k=>decide (k∈D)&&dstI js k i) ops.size=lastOf (fun k=>decide (k<j)&&dstI js k i) ops.size:=JN fun k hk=>by rw[hin k hk]
     simp only[vAt,this]
    rw[e1,← (h.V_at hlen j (by omega)).2 i hil] at hv
    exact hv
   ·have hSn:(S ops.size).length=(S j).length:=by rw[← hlst,hlS]
    have e:(hAt S ch ops.size fun k=>decide (k∈D))=S j:=by
     apply Z1
     intro l
     by_cases hl:l<(S ops.size).length
     ·rw[LH hl]
      have:oAt S ch ops.size (fun k=>decide (k∈D)) l=oAt S ch ops.size (fun k=>decide (k<j)) l:=by
       have:lastOf (fun k=>decide (k∈D)&&ch k l) ops.size=lastOf (fun k=>decide (k<j)&&ch k l) ops.size:=JN fun k hk=>by rw[hin k hk]
       simp only[oAt,this]
      rw[this,← h.S_at j (by omega),QI (by omega)];rfl
     ·rw[QN (by simp[hAt];omega),QN (by omega)]
    rw[← e];exact inv.heap
   ·exact inv.tmps k (hpj k (hall k hkj)) t hkt htv
  have hoj:ops[j]? = some ops[j]:=Q7 hjn
  obtain ⟨i,hij,hi⟩:=hcomp j _ hoj
  rw[← hjs j hjl] at hij
  generalize ops[j]=o at hoj hi
  have hpj:∀ e∈pd j,e∈D:=fun e he=>by
   rcases h.pddir j hjn e he with h1 | ⟨x,hx,h1⟩
   ·exact hdir e h1
   ·exact inv.clos x (hdir x hx) e h1
  simp only[wpOpsIn,hoj]
  obtain ⟨hdst,hgd⟩:=R1 hi
  have hol:ops.toList[j]? = some o:=by simpa using hoj
  have hrj:=inv.restrict h hcl0 hjn hjD hpj
  have hgdr:∀ b,gdOk ((List.range j).map r) i.gd=some b→Region.wanted o (yielded ops ac.tmps)=b:=by
   intro b hb
   unfold Region.wanted
   rw[hgd] at hb
   cases hg:o.guard with
   | none=>rw[hg] at hb;simp[gdOk] at hb;simp[hb]
   | some kw =>
    obtain ⟨k,want⟩:=kw
    have hkp:=h.gds j i k want hij (by rw[hgd];exact hg)
    have hkD:=hpj k hkp
    have hkj:=h.pdlt j hjn k hkp
    rw[hg] at hb
    simp only[gdOk] at hb
    have e1:((List.range j).map r).getD k .undef=r k:=by simp[List.getD,hkj]
    rw[e1] at hb
    split at hb
    ·rename_i bb hbb
     cases hb
     have hok':=hok
     unfold GU at hok'
     simp only[QD,decide_eq_true_eq,Q1] at hok'
     obtain ⟨⟨⟨⟨_,_⟩,hlt⟩,_⟩,hgs⟩:=hok'
     have h1:=hgs o (QZ hol)
     rw[hg] at h1
     simp only at h1
     split at h1
     ·rename_i t htk
      have htv:t∉fx.vars:=by simpa using h1
      have hr:=inv.tmps k hkD t htk htv
      rw[hbb] at hr
      have hv:=hr.bool
      cases hok2:ops.toList[k]? with
      | none=>rw[hok2] at htk;simp at htk
      | some ok =>
       rw[hok2] at htk;simp at htk
       have htN:t<ac.tmps.size:=by
        rw[inv.size];have:=hlt t (X3.2 ⟨ok,QZ hok2,htk⟩);simpa using this
       have e2:ac.tmps[t]? = some (.bool bb):=by
        rw[QV,Q7 htN] at hv
        rw[Q7 htN];simpa using hv
       have e3:ops[k]? = some ok:=by simpa using hok2
       simp only[yielded,e3,Option.bind_some,htk,e2]
       cases bb <;> cases want <;> rfl
     ·cases h1
    ·rename_i us hbb
     cases hb
     have hok':=hok
     unfold GU at hok'
     simp only[QD,decide_eq_true_eq,Q1] at hok'
     obtain ⟨⟨⟨⟨_,_⟩,hlt⟩,_⟩,hgs⟩:=hok'
     have h1:=hgs o (QZ hol)
     rw[hg] at h1
     simp only at h1
     split at h1
     ·rename_i t htk
      have htv:t∉fx.vars:=by simpa using h1
      have hr:=inv.tmps k hkD t htk htv
      rw[hbb] at hr
      simp only[VRel] at hr
      obtain ⟨vs,hv,_⟩:=hr
      cases hok2:ops.toList[k]? with
      | none=>rw[hok2] at htk;simp at htk
      | some ok =>
       rw[hok2] at htk;simp at htk
       have htN:t<ac.tmps.size:=by
        rw[inv.size];have:=hlt t (X3.2 ⟨ok,QZ hok2,htk⟩);simpa using this
       have e2:ac.tmps[t]? = some (.tuple vs.toArray):=by
        rw[QV,Q7 htN] at hv
        rw[Q7 htN];simpa using hv
       have e3:ops[k]? = some ok:=by simpa using hok2
       simp only[yielded,e3,Option.bind_some,htk,e2]
       cases want <;> rfl
     ·cases h1
    ·cases hb
  have hargs:∀ (xs:List Operand),(∀ x∈xs.map (XA fx.vars (ops.toList.map (·.dst))),x∈i.args) →
    QK (mAt S j m) (xAt S ch hd ops.size D j m X) w ((xs.map (XA fx.vars (ops.toList.map (·.dst)))).map (WY (V j) ((List.range j).map r))) (xs.map ac.eval):=by
   intro xs
   induction xs with
   | nil=>intro _;simp[QK]
   | cons x xs ih =>
    intro hall
    simp only[Q0,QK]
    refine ⟨?_,ih fun y hy=>hall y (by simp only[Q0];exact WU _ hy)⟩
    have hx:=hall (XA fx.vars (ops.toList.map (·.dst)) x) (by simp)
    have less:∀ a v,QR (S j).length a=true→VRel m X w a v→VRel (mAt S j m) (xAt S ch hd ops.size D j m X) w a v :=
     fun a v=>VRel.less (fun l hl=>by simp[mAt,hl]) (fun b hb=>Qa7 hb) a v
    cases x with
    | tmp t =>
     simp only[XA,Act.eval] at hx ⊢
     split at hx
     ·rename_i x hxi
      simp only[WY]
      have h1:=Y9 hxi
      have h2:x<fx.vars.length:=(QH.1 h1).1
      rw[(h.V_at hlen j (by omega)).2 x h2]
      refine less _ _ ?_ ?_
      ·rw[← (h.V_at hlen j (by omega)).2 x h2]
       exact XO (h.V_locs hlen hv0 j (by omega)) x
      ·rw[← h.vEq hlen hij inv.clos hjD hpj (.inl hx)];exact inv.vars x t h1
     ·rename_i hxi
      split at hx
      ·rename_i k hki
       simp only[WY]
       have hkp:=h.rds j i hij k hx
       have hkj:=h.pdlt j hjn k hkp
       have e1:((List.range j).map r).getD k .undef=r k:=by simp[List.getD,hkj]
       rw[e1]
       refine less _ _ (Y8 (h.le' (show k+1≤j by omega) (by omega)) _ (h.rl k (by omega))) ?_
       have:=Y9 hki
       simp only[ZR,QA] at this
       obtain ⟨ok,hok2,hd2⟩:=this
       exact inv.tmps k (hpj k hkp) t (by rw[hok2];simpa using hd2) (U3 hxi)
      ·rename_i hki
       simp[WY,VRel]
    | const v=>simp only[XA,WY,Act.eval];exact UZ v
    | global g=>simp only[XA,WY,Act.eval];exact Qat g _ (inv.heap.gl.less fun b hb=>Qa7 hb)
    | func f=>simp only[XA,WY,Act.eval,VRel];exact ⟨[],rfl,by simp[QK]⟩
  have next:∀ (mj:LM) (w':World) (c:Value),HRel mj (xAt S ch hd ops.size D j m X) (VU (hd j) (S (j+1))) w'→Step (S j).length (mAt S j m) (xAt S ch hd ops.size D j m X) w mj w' →
    VRel mj (xAt S ch hd ops.size D j m X) w' (r j) c→wpOpsIn (wfen ro) 0 P ops Qc l (ac.put o.dst c) w':=by
   intro mj w' c hh hst hv
   obtain ⟨m',inv',hst'⟩:=inv.step h hlen hok hn0 hjn hjD hpj hoj hij hdst hh hst hv
   exact RD_goP hlst hlen hjs hall h hlS hok hc hcl0 hv0 hn0 l (j::D) m' w' _ hs' inv' (fun hm=>(ZD.1 hm).elim (fun e=>hjl e.symm) hD) fun m2 ac2 w2 h1 h3 h2=>hk m2 ac2 w2 h1 h3 (hst'.trans h2)
  have hop:=h.op j i hij
  split at hop
  ·exact hop.elim
  ·rename_i hg
   rw[hgdr _ hg]
   simp only[QT,if_false]
   refine ⟨fun _ _=>trivial,next _ w Go.undef ?_ (Step.refl _ _ _ _) ?_⟩
   ·rw[hop.2];exact hrj
   ·rw[hop.1];simp[VRel,QK,Go.undef]
  ·rename_i hg
   rw[hgdr _ hg]
   simp only[if_true]
   refine ⟨fun _ _=>trivial,?_⟩
   have hHl:(VU (hd j) (S j)).length=(S j).length:=YA _ _
   generalize has:i.args.map (WY (V j) ((List.range j).map r))=αs at hop
   cases hiop:i.op with
   | prim io =>
    rw[hiop] at hop
    dsimp only at hop
    obtain ⟨os',hco,hia,_,_⟩:=VC hi hiop
    have hrel:=hargs os' (fun x hx=>by rw[hia];exact hx)
    rw[← hia,has] at hrel
    obtain ⟨nx,w',mj,hrun,hres,hh,hst⟩:=FV hco hrj hrel hop
    rw[hHl] at hst
    rw[Oper.semAt_eq _ _ _ (YY hco),hrun]
    rcases hres with ⟨c,rfl,hv⟩ | ⟨rfl,hr⟩
    ·exact next mj w' c hh hst hv
    ·exact next mj w' Go.undef hh hst (by rw[hr];simp[VRel])
   | call =>
    rw[hiop] at hop
    cases αs with
    | nil=>exact hop.elim
    | cons fv αs =>
    dsimp only at hop
    obtain ⟨f,args,at_,hop',hia,_,_⟩:=DR hi hiop
    have hrel:=hargs (f::args.toList) (fun x hx=>by rw[hia];exact hx)
    rw[← hia,has] at hrel
    obtain ⟨fc,us,he,hfv,hrest⟩:=hrel.cons
    simp only[Q0,List.cons.injEq] at he
    obtain ⟨rfl,rfl⟩:=he
    have hnd:∀ c,o.op≠.defer c:=by rw[hop'];simp
    rw[Oper.semAt_eq _ _ _ hnd]
    have hex:execOp ac.eval o=(do let d ← resolve ac.eval { callee:=.value f,args,argTypes:=at_ } o.type;invoke d.target d.args):=by
     simp only[execOp,hop']
    rw[hex]
    unfold X0 at hop
    split at hop
    ·rename_i g cap
     simp only[VRel] at hfv
     obtain ⟨vs,hfe,hcap⟩:=hfv
     have hrun:(do let d ← resolve ac.eval { callee:=.value f,args,argTypes:=at_ } o.type;invoke d.target d.args:Sem Next).run P w=.ok (.enter g ((args.toList.map ac.eval)++vs).toArray) w:=by
      simp only[resolve,hfe,Deferred.ofValue,Sem.run_bind,Sem.run_pure,Result.andThen_ok,invoke]
      rw[hop.1]
      congr 2
      apply Array.ext';simp
     rw[hrun]
     refine ⟨by simp[wfen,Fence.wide],?_⟩
     have hcall:=hop.2 _ _ w _ (QK.append hrest hcap) hrj
     refine CallsIn.mono (F:=wfen ro) (n:=0) hcall ?_
     rintro e w' ⟨c,r',σ',mj,rfl,⟨rfl,rfl⟩,hv,hh,hst,_⟩
     rw[hHl] at hst
     exact next mj w' c hh hst hv
    ·rename_i g first
     simp only[VRel] at hfv
     obtain ⟨vs,hfe,hcap⟩:=hfv
     have hrun:(do let d ← resolve ac.eval { callee:=.value f,args,argTypes:=at_ } o.type;invoke d.target d.args:Sem Next).run P w=.ok (.enter g (vs++(args.toList.map ac.eval)).toArray) w:=by
      simp only[resolve,hfe,Deferred.ofValue,Sem.run_bind,Sem.run_pure,Result.andThen_ok,invoke]
      rw[hop.1]
      congr 2
      apply Array.ext';simp
     rw[hrun]
     refine ⟨by simp[wfen,Fence.wide],?_⟩
     have hcall:=hop.2 _ _ w _ (QK.append hcap hrest) hrj
     refine CallsIn.mono (F:=wfen ro) (n:=0) hcall ?_
     rintro e w' ⟨c,r',σ',mj,rfl,⟨rfl,rfl⟩,hv,hh,hst,_⟩
     rw[hHl] at hst
     exact next mj w' c hh hst hv
    ·rename_i lc
     simp only[VRel] at hfv
     obtain ⟨b,hb,hfe⟩:=hfv
     obtain ⟨L,hL,hsz,hround⟩:=hop _ _ w _ b hb hrest hrj
     have hrun:(do let d ← resolve ac.eval { callee:=.value f,args,argTypes:=at_ } o.type;invoke d.target d.args:Sem Next).run P w=.ok (.round b L.fn ((L.params.zip (args.toList.map ac.eval).toArray).foldl (fun tmps (t,a)=>tmps.setIfInBounds t a) L.tmps) L.assign L.body) w:=by
      simp only[resolve,hfe,Deferred.ofValue,Sem.run_bind,Sem.run_pure,Result.andThen_ok,invoke]
      have e:#[]++args.map ac.eval=(args.toList.map ac.eval).toArray:=by apply Array.ext';simp
      rw[e]
      exact run_yield hL (by simpa using hsz)
     rw[hrun]
     refine ⟨by simp[wfen,Fence.wide],?_⟩
     refine RoundIn.mono (F:=wfen ro) (n:=0) hround ?_
     rintro e w' ⟨c,r',σ',mj,rfl,⟨rfl,rfl⟩,hv,hh,hst,_⟩
     rw[hHl] at hst
     exact next mj w' c hh hst hv
    ·exact hop.elim
end
section
variable {P:Program} {fx:Fx} {Q:Exit→St→Prop} {s:St}
theorem free_ordx {ops:Array Oper} {is:List Ins} {K:List AV→List AV→List AObj→Prop} (pds:List (List Nat)) (kp:List Nat) (xs:List (Nat × Nat)) (hlen:is.length=ops.size) (hord:Qa8 ops is pds kp xs=true)
  (hvl:s.vals.length=fx.vars.length) (hcl:Cl s.heap) (hvlc:QO s.heap.length s.vals=true) (h:RPx P kp xs 0 is [] [] s.vals [] s.heap K) :
  ∃ (V:Nat→List AV) (r:Nat→AV) (S:Nat→List AObj) (ch hd:Nat→Nat→Bool),Free P fx ops is V r S (pdAt pds) ch hd∧V 0=s.vals∧S 0=s.heap∧K (V is.length) ((List.range is.length).map r) (S is.length) ∧
   ∀ (q:Nat) i,is[q]? = some i→V (q+1)=setD i.dst (V q) (r q)∧VS P kp q i (V q) ((List.range q).map r) (S q) (r q) (S (q+1)):=by
 obtain ⟨V,r,S,hV0,hS0,htr,hx0,hK⟩:=QaN is 0 [] [] _ _ _ h
 simp only[List.nil_append,ZV] at htr hK hx0
 simp only[Qa8,QD] at hord
 obtain ⟨hxs,hord⟩:=hord
 rw[Q1] at hxs
 simp only[Q1,ZI,QD,decide_eq_true_eq] at hord
 have hi:∀ j,j<ops.size→∃ i,is[j]? = some i:=fun j hj=>⟨is[j],QI (by omega)⟩
 have hlt:∀ (j:Nat) i,is[j]? = some i→j<ops.size:=fun j i h=>by have:=(QH.1 h).1;omega
 have st:=fun (j:Nat) (i:Ins) (h:is[j]? = some i)=>by
  have:=(hord j (hlt j i h)).2
  rw[h] at this
  simpa only[QD,Q1,ZI] using this
 have hpair:∀ (j k:Nat) i i',is[j]? = some i→is[k]? = some i'→j≠k→k∉pdAt pds j→j∉pdAt pds k→(∀ x,i'.dst=some x→IU x i=false)∧(JA kp k i'=2→JA kp j i=0∨(j,k)∈xs):=by
  intro j k i i' hj hk hne h1 h2
  have:=(st j i hj).2 k (hlt k i' hk)
  rw[hk] at this
  simp only[WR,decide_eq_true_eq,XS,hne,h1,h2,false_or,QD,Z0,Bool.and_eq_false_iff,decide_eq_false_iff_not,ne_eq,JE] at this
  refine ⟨fun x hx=>?_,fun h2=>?_⟩
  ·have:=this.1;rw[hx] at this;simpa using this
  ·rcases this.2 with (h | h) | h
   ·exact absurd h2 h
   ·exact .inl h
   ·exact .inr h
 have hxl:∀ (j k:Nat),(j,k)∈xs→k<is.length∧∃ i,is[j]? = some i∧((∃ io,i.op=.prim io)∨(i.op=.call∧j<k∧∃ i' io,is[k]? = some i'∧i'.op=.prim io∧Qap io=true)):=by
  intro j k hm
  have:=hxs _ hm
  simp only[QD,decide_eq_true_eq] at this
  obtain ⟨h1,h2⟩:=this
  refine ⟨h1,?_⟩
  cases hij:is[j]? with
  | none=>rw[hij] at h2;simp at h2
  | some i =>
   rw[hij] at h2
   refine ⟨i,rfl,?_⟩
   cases hop:i.op with
   | prim io=>exact .inl ⟨io,rfl⟩
   | call =>
    simp only[Qaq,hop,Y3,QD,decide_eq_true_eq] at h2
    obtain ⟨h4,h5⟩:=h2
    refine .inr ⟨rfl,h4,?_⟩
    cases hik:is[k]? with
    | none=>rw[hik] at h5;cases h5
    | some i' =>
     rw[hik] at h5
     simp only[MW] at h5
     split at h5
     ·rename_i io ho;exact ⟨i',io,rfl,ho,h5⟩
     ·cases h5
 have hx:∀ (j k:Nat) (i:Ins),(j,k)∈xs→is[j]? = some i→gdOk ((List.range j).map r) i.gd=some true→∀ l∈YX (plOf i (i.args.map (WY (V j) ((List.range j).map r))) (S j)),(S (k+1))[l]? = (S k)[l]? := by
  intro j k i hm hij hg l hl
  obtain ⟨hk,_⟩:=hxl j k hm
  have hjl:j<is.length:=(QH.1 hij).1
  have:=QbT hx0 j k hm l (by simpa[List.getD,ZR,List.getElem?_range hjl,plAt,hij,hg] using hl)
  simpa[List.getD,ZR,List.getElem?_range (show k+1<is.length+1 by omega),List.getElem?_range (show k<is.length+1 by omega)] using this
 have stepcases:∀ (j:Nat) i,is[j]? = some i→(S j).length≤(S (j+1)).length∧(JA kp j i≠2→S (j+1)=S j)∧(∀ (l:Nat) o,(S j).length≤l→(S (j+1))[l]? = some o→o.live) ∧
   (Cl (S j)→QO (S j).length (V j)=true→QO (S j).length ((List.range j).map r)=true→Cl (S (j+1))∧QR (S (j+1)).length (r j)=true):=by
  intro j i hj
  have hso:=(htr j i hj).2
  unfold VS at hso
  have same:r j=.tup []→S (j+1)=S j→_:=fun (e1:r j=.tup []) (e2:S (j+1)=S j)=>show (S j).length≤(S (j+1)).length∧(JA kp j i≠2→S (j+1)=S j)∧(∀ (l:Nat) o,(S j).length≤l→(S (j+1))[l]? = some o→o.live) ∧
   (Cl (S j)→QO (S j).length (V j)=true→QO (S j).length ((List.range j).map r)=true→Cl (S (j+1))∧QR (S (j+1)).length (r j)=true) from by
    rw[e2,e1]
    refine ⟨QG _,fun _=>rfl,fun l o hl ho=>?_,fun h _ _=>⟨h,rfl⟩⟩
    rw[QN hl] at ho;cases ho
  split at hso
  ·exact hso.elim
  ·exact same hso.1 hso.2
  ·cases hop:i.op with
   | prim io =>
    simp only[hop] at hso
    have hk:JA kp j i=kindOf io:=by simp[JA,hop]
    refine ⟨ED hso,fun hk2=>?_,BL hso,fun h1 h2 h3=>?_⟩
    ·rw[hk] at hk2
     by_cases h0:kindOf io=0
     ·exact (KF h0 hso).1
     ·by_cases h1:kindOf io=1
      ·exact GB h1 hso
      ·have:=AP io
       omega
    ·have hcl:=(st j i hj).1.1.1
     unfold AU at hcl
     rw[hop] at hcl
     simp only[QD,Q1] at hcl
     have:=BM hcl.1 (Z8.2 fun v hv=>by
      obtain ⟨x,hx,rfl⟩:=ZP.1 hv
      exact CO h2 h3 (hcl.2 x hx)) h1 hso
     exact ⟨this.2,this.1⟩
   | call =>
    have hso':∃ σ0,HM σ0 (r j) (S (j+1))∧σ0=S j∧(kp.contains j=true→S (j+1)=S j):=by
     cases has:i.args.map (WY (V j) ((List.range j).map r)) with
     | nil=>simp only[hop,has] at hso
     | cons fv as_=>simp only[hop,has] at hso;exact ⟨S j,hso.2.1,rfl,hso.2.2⟩
    obtain ⟨_,⟨g1,g2,g3⟩,rfl,g4⟩:=hso'
    refine ⟨g2,fun hk2=>?_,fun l o hl ho=>(g3 l o ho (by rw[QN hl];simp)).2 hl,fun h1 _ _=>⟨fun l o ho=>?_,g1⟩⟩
    ·simp only[JA,hop] at hk2
     by_cases hkp:kp.contains j=true
     ·exact g4 hkp
     ·rw[if_neg hkp] at hk2;exact absurd rfl hk2
    ·by_cases he:(S j)[l]? = some o
     ·exact H1 _ _ o g2 (h1 l o he)
     ·exact (g3 l o ho he).1
 have inv:∀ j,j≤ops.size→Cl (S j)∧QO (S j).length (V j)=true∧QO (S j).length ((List.range j).map r)=true:=by
  intro j
  induction j with
  | zero =>
   intro _
   rw[hS0,hV0]
   exact ⟨hcl,hvlc,rfl⟩
  | succ j ih =>
   intro hj
   obtain ⟨i,hij⟩:=hi j (by omega)
   obtain ⟨h1,h2,h3⟩:=ih (by omega)
   obtain ⟨g1,_,_,g4⟩:=stepcases j i hij
   obtain ⟨g5,g6⟩:=g4 h1 h2 h3
   refine ⟨g5,?_,?_⟩
   ·rw[(htr j i hij).1]
    unfold setD;split
    ·exact R9 (YL g1 h2) g6
    ·exact YL g1 h2
   ·rw[WM,ZS]
    exact VN (YL g1 h3) (by simp[QO,g6])
 have hmono:∀ j d,j+d≤ops.size→(S j).length≤(S (j+d)).length:=by
  intro j d
  induction d with
  | zero=>intro _;exact QG _
  | succ d ih =>
   intro hd
   obtain ⟨i3,hi3⟩:=hi (j+d) (by omega)
   exact YR (ih (by omega)) (stepcases (j+d) i3 hi3).1
 have hpush:∀ (j k:Nat) (i':Ins) (io:IOp),j<k→is[k]? = some i'→i'.op=.prim io→Qap io=true→∀ l,(S (k+1))[l]?≠(S k)[l]?→(S (j+1)).length≤l:=by
  intro j k i' io hjk hik e4 e5 l hch2
  have hle:=hmono (j+1) (k-(j+1)) (by have:=hlt k i' hik;omega)
  rw[show j+1+(k-(j+1))=k by omega] at hle
  have hso2:=(htr k i' hik).2
  unfold VS at hso2
  split at hso2
  ·exact hso2.elim
  ·exact absurd (by rw[hso2.2]) hch2
  ·simp only[e4] at hso2
   obtain ⟨o,ho⟩:=Qc1 e5 hso2
   refine Nat.le_of_not_lt fun hl=>hch2 ?_
   rw[ho,QE (by omega)]
 let kd:Nat→Nat:=fun j=>match is[j]? with | some i=>JA kp j i | none=>0
 have hkd:∀ (j:Nat) i,is[j]? = some i→kd j=JA kp j i:=fun j i h=>by simp only[kd,h]
 let ch:Nat→Nat→Bool:=fun k l=>Classical.propDecidable (kd k=2∧(S (k+1))[l]?≠(S k)[l]?) |>.decide
 let hd:Nat→Nat→Bool:=fun j l=>Classical.propDecidable ((kd j=0∨∃ k',(j,k')∈xs)∧∃ k,k<ops.size∧k≠j∧k∉pdAt pds j∧j∉pdAt pds k∧ch k l=true) |>.decide
 have hch:∀ k l,ch k l=true↔(kd k=2∧(S (k+1))[l]?≠(S k)[l]?):=fun k l=>by simp only[ch,decide_eq_true_eq]
 have hhd:∀ j l,hd j l=true↔((kd j=0∨∃ k',(j,k')∈xs)∧∃ k,k<ops.size∧k≠j∧k∉pdAt pds j∧j∉pdAt pds k∧ch k l=true):=fun j l=>by simp only[hd,decide_eq_true_eq]
 have hF : Free P fx ops is V r S (pdAt pds) ch hd:=by
  refine ⟨?_,?_,?_,by rw[hV0];exact hvl,fun j i hj=>(htr j i hj).1,?_,?_,?_,?_,?_,?_,?_,?_,?_,?_,?_,?_⟩
  ·intro j hj e he;exact (hord j hj).1.1 e he
  ·intro j hj k hk;exact ((hord j hj).1.2 k hk).1
  ·intro j hj k hk
   have:=((hord j hj).1.2 k hk).2
   simp only[WR,XS,ZZ] at this
   exact this
  ·intro j hj;obtain ⟨i,hij⟩:=hi j hj;exact (stepcases j i hij).1
  ·intro j hj l hcl
   obtain ⟨i,hij⟩:=hi j hj
   by_cases hk:JA kp j i=2
   ·by_cases he:(S (j+1))[l]? = (S j)[l]?
    ·exact he
    ·have:=(hch j l).2 ⟨by rw[hkd j i hij];exact hk,he⟩
     rw[this] at hcl;cases hcl
   ·rw[(stepcases j i hij).2.1 hk]
  ·intro j hj l hcl
   obtain ⟨i,hij⟩:=hi j hj
   obtain ⟨_,hne⟩:=(hch j l).1 hcl
   rcases ZB l (S (j+1)).length with h | h
   ·exact h
   ·have:=(stepcases j i hij).1
    rw[QN h,QN (by omega)] at hne
    exact absurd rfl hne
  ·intro j k hj hk hne h1 h2 l hcl
   obtain ⟨i,hij⟩:=hi j hj
   obtain ⟨i',hik⟩:=hi k hk
   obtain ⟨hk2,_⟩:=(hch k l).1 hcl
   rw[hkd k i' hik] at hk2
   have h0:=(hpair j k i i' hij hik (Ne.symm hne) h1 h2).2 hk2
   exact (hhd j l).2 ⟨h0.imp (fun h=>by rw[hkd j i hij];exact h) (fun h=>⟨k,h⟩),k,hk,hne,h1,h2,hcl⟩
  ·intro j hj l hcl
   obtain ⟨hk2,hcj⟩:=(hch j l).1 hcl
   cases hb:hd j l with
   | false=>rfl
   | true =>
    obtain ⟨h,k,hk,hne,h1,h2,hclk⟩:=(hhd j l).1 hb
    rcases h with h | ⟨k',h⟩
    ·omega
    ·obtain ⟨_,i,e1,hpc⟩:=hxl j k' h
     rcases hpc with ⟨io,e2⟩ | ⟨e2,_⟩
     rotate_left
     ·obtain ⟨i',hik⟩:=hi k hk
      obtain ⟨hkk2,hch2⟩:=(hch k l).1 hclk
      rw[hkd k i' hik] at hkk2
      rw[hkd j i e1] at hk2
      rcases (hpair j k i i' e1 hik (Ne.symm hne) h1 h2).2 hkk2 with h3 | h3
      ·omega
      obtain ⟨_,i0,f1,hpc⟩:=hxl j k h3
      rw[e1] at f1;cases f1
      rcases hpc with ⟨io,e3⟩ | ⟨_,hjk,i2,io,e3,e4,e5⟩
      ·rw[e2] at e3;cases e3
      rw[hik] at e3;cases e3
      have hge:=hpush j k i' io hjk hik e4 e5 l hch2
      have hge2:=(stepcases j i e1).1
      rw[QN hge,QN (by omega)] at hcj
      exact absurd rfl hcj
     obtain ⟨i',hik⟩:=hi k hk
     obtain ⟨hkk2,hch2⟩:=(hch k l).1 hclk
     rw[hkd k i' hik] at hkk2
     rw[hkd j i e1] at hk2
     have hso:=(htr j i e1).2
     unfold VS at hso
     split at hso
     ·exact hso.elim
     ·exact absurd (by rw[hso.2]) hcj
     ·rename_i hg
      simp only[e2] at hso
      have hmem:=stepF_ch hso hcj
      rcases (hpair j k i i' e1 hik (Ne.symm hne) h1 h2).2 hkk2 with h3 | h3
      ·omega
      ·exact absurd (hx j k i h3 e1 hg l (by simp only[plOf,e2];exact hmem)) hch2
  ·intro j hj l o hl ho;obtain ⟨i,hij⟩:=hi j hj;exact (stepcases j i hij).2.2.1 l o hl ho
  ·intro j hj;obtain ⟨i,hij⟩:=hi j hj;obtain ⟨h1,h2,h3⟩:=inv j (by omega);exact ((stepcases j i hij).2.2.2 h1 h2 h3).2
  ·intro j hj l o _ ho;exact (inv (j+1) (by omega)).1 l o ho
  ·intro j i hj k hk
   have:=(st j i hj).1.1.2 _ hk
   simpa using this
  ·intro j i k b hj hg
   have:=(st j i hj).1.2
   rw[hg] at this
   simpa using this
  ·intro j k i i' x hj hk hne hx hor
   by_cases h1:k∈pdAt pds j
   ·exact .inl h1
   by_cases h2:j∈pdAt pds k
   ·exact .inr h2
   have:=(hpair j k i i' hj hk hne h1 h2).1 x hx
   simp only[IU,X8,W6] at this
   rcases hor with hor | hor
   ·have h3:=this.1 _ hor;simp at h3
   ·have h3:=this.2;rw[hor] at h3;simp at h3
  ·intro j i hj
   have hso:=(htr j i hj).2
   unfold VS at hso
   split at hso
   ·rename_i hg;exact hso.elim
   ·rename_i hg;rw[hg];exact hso
   ·rename_i hg;rw[hg]
    simp only
    have heapy:kd j≠0→(∀ k',(j,k')∉xs)→∀ l,hd j l=false:=fun hne hnx l=>by
     cases hb:hd j l with
     | false=>rfl
     | true =>
      rcases ((hhd j l).1 hb).1 with h | ⟨k',h⟩
      ·exact absurd h hne
      ·exact absurd h (hnx k')
    cases hop:i.op with
    | prim io =>
     simp only[hop] at hso
     have hk:kd j=kindOf io:=by rw[hkd j i hj];simp[JA,hop]
     by_cases h0:kindOf io=0
     ·obtain ⟨e1,e2⟩:=KF h0 hso
      rw[e1];exact e2 _
     by_cases hxj:∃ k',(j,k')∈xs
     ·refine Qc3 hso fun l hl=>?_
      cases hb:hd j l with
      | false=>rfl
      | true =>
       obtain ⟨_,k,hk',hne,h1,h2,hcl⟩:=(hhd j l).1 hb
       obtain ⟨i',hik⟩:=hi k hk'
       obtain ⟨hk2,hch2⟩:=(hch k l).1 hcl
       rw[hkd k i' hik] at hk2
       rcases (hpair j k i i' hj hik (Ne.symm hne) h1 h2).2 hk2 with h | h
       ·rw[← hkd j i hj] at h;omega
       ·exact absurd (hx j k i h hj hg l (by simp only[plOf,hop];exact hl)) hch2
     ·have hnx:∀ k',(j,k')∉xs:=fun k' h=>hxj ⟨k',h⟩
      rw[KJ _ _ (heapy (by omega) hnx),KJ _ _ (heapy (by omega) hnx)]
      exact hso
    | call =>
     have hk:kd j≠0:=by rw[hkd j i hj];simp only[JA,hop];split <;> omega
     have hhigh:∀ l,l<(S (j+1)).length→hd j l=false:=fun l hl=>by
      cases hb:hd j l with
      | false=>rfl
      | true =>
       obtain ⟨hor,k,hk',hne,h1,h2,hcl⟩:=(hhd j l).1 hb
       obtain ⟨i',hik⟩:=hi k hk'
       obtain ⟨hk2,hch2⟩:=(hch k l).1 hcl
       rw[hkd k i' hik] at hk2
       rcases (hpair j k i i' hj hik (Ne.symm hne) h1 h2).2 hk2 with h | h
       ·rw[← hkd j i hj] at h;exact absurd h hk
       ·obtain ⟨_,i0,e1,hpc⟩:=hxl j k h
        rw[hj] at e1;cases e1
        rcases hpc with ⟨io,e2⟩ | ⟨_,hjk,i2,io,e3,e4,e5⟩
        ·rw[hop] at e2;cases e2
        ·rw[hik] at e3;cases e3
         have:=hpush j k i' io hjk hik e4 e5 l hch2
         omega
     by_cases hxj:∃ k',(j,k')∈xs
     ·cases has:i.args.map (WY (V j) ((List.range j).map r)) with
      | nil=>simp only[hop,has] at hso
      | cons fv as_ =>
       simp only[hop,has] at hso ⊢
       have g:=hso.1
       have hge2:=(stepcases j i hj).1
       rw[CG hhigh,CG fun l hl=>hhigh l (by omega)]
       exact g
     have hnx:∀ k',(j,k')∉xs:=fun k' h=>hxj ⟨k',h⟩
     rw[KJ _ _ (heapy hk hnx),KJ _ _ (heapy hk hnx)]
     cases has:i.args.map (WY (V j) ((List.range j).map r)) with
     | nil=>simp only[hop,has] at hso
     | cons fv as_=>simp only[hop,has] at hso ⊢;exact hso.1
 exact ⟨V,r,S,ch,hd,hF,hV0,hS0,hK,htr⟩
def mvI:Ins:=⟨none,none,.prim .mv,[.c (.cv (.bool true))]⟩
theorem W_region_drawP {id:Nat} {ops:Array Oper} {is:List Ins} {i0:Ins} {cp:List PanicEntry} (pds:List (List Nat)) (kp:List Nat) (xs:List (Nat × Nat)) (hmix:P.follows .mixedOrders=true) (hc:VY P fx.vars fx.N ops=some is)
  {lst:Nat} (hlst:lst+1=ops.size) (hlast:is[lst]? = some i0) (hcl:i0.op=.call) (hgn:i0.gd=none) (hord:Qa8 ops (is.dropLast++[mvI]) pds kp xs=true) (hall:∀ k,k<lst→k∈pdAt pds lst)
  (hvl:s.vals.length=fx.vars.length) (h:RPx P kp xs 0 (is.dropLast++[mvI]) [] [] s.vals [] s.heap fun vals ρ σ=>match i0.args.map (WY vals ρ.dropLast) with | fv::as_=>CallVp P fv as_ σ cp (fun σ'=>Q (.panic cp) ⟨vals,σ'⟩) | []=>False):W P fx (.region id ops true) s Q:=by
 intro m0 X en ac0 w0 hs0 hr
 unfold VY at hc
 split at hc
 rotate_left
 ·cases hc
 rename_i hok
 obtain ⟨hlen0,hcomp⟩:=comp_size hc
 have hdl:is.dropLast.length=lst:=by rw[List.length_dropLast];omega
 have hlen:(is.dropLast++[mvI]).length=ops.size:=by rw[QM,hdl];exact hlst
 have hjs:∀ (j:Nat),j≠lst→(is.dropLast++[mvI])[j]? = is[j]? := fun j hj=>by
  by_cases hlt:j<lst
  ·rw[QE (by omega),List.getElem?_dropLast,if_pos (by omega)]
  ·rw[QN (by omega),QN (by omega)]
 have hjl:(is.dropLast++[mvI])[lst]? = some mvI:=by
  rw[QS (by omega),hdl,Nat.sub_self];rfl
 obtain ⟨V,r,S,ch,hd,hF,hV0,hS0,hK,htr⟩:=free_ordx pds kp xs hlen hord hvl (fun l o ho=>hs0.heap.closed l o ho) (hs0.vals_locs (Nat.le_of_eq hvl)) h
 obtain ⟨hVl,hSl⟩:=htr lst _ hjl
 have hSl:S (lst+1)=S lst:=by
  have hm:ZQ .mv [AV.cv (.bool true)] (S lst)=some (AV.cv (.bool true),S lst):=rfl
  have h2:ZQ .mv [AV.cv (.bool true)] (S lst)=some (r lst,S (lst+1)):=hSl
  rw[hm] at h2
  injection h2 with h2
  injection h2 with _ h2
  exact h2.symm
 rw[hlen,← hlst,hSl,show V (lst+1)=V lst from hVl] at hK
 have hrd:((List.range (lst+1)).map r).dropLast=(List.range lst).map r:=by
  rw[WM,ZS,List.map_singleton,List.dropLast_concat]
 rw[hrd] at hK
 refine wpIn_region_draw fun t=>?_
 have hsch:Region.schedule (P.follows .mixedOrders) ops t=Region.linearise .any ops t:=by simp[Region.schedule,hmix]
 rw[hsch]
 have hs':SRel fx m0 X en s ac0 w0.drew:=hs0.drew
 have hst0:Step fx.n0 m0 X w0 m0 w0.drew:=Step.of_heap rfl rfl rfl rfl (XE _)
 refine RD_goP (X:=X) (en:=en) (ro:=fx.r.bind m0) hlst hlen hjs hall hF hSl hok hc ?_ ?_ ?_ _ [] m0 w0.drew ac0 (FR hF.back t) ?_ (by simp) ?_
 ·intro l o ho;rw[hS0] at ho ⊢;exact hs0.heap.closed l o ho
 ·rw[hS0,hV0];exact hs0.vals_locs (Nat.le_of_eq hvl)
 ·rw[hS0];exact hs0.base
 ·have hnone:∀ (p:Nat→Bool),(∀ k,p k=false)→lastOf p ops.size=none:=fun p hp=>by
   rw[F1 (j:=0) (QF _) fun k _ _=>hp k];rfl
  refine ⟨by simp,by simp,hs'.size,?_,by simp,hs'.defs,?_,?_,hs'.entry⟩
  ·intro i t hi
   have:vAt (is.dropLast++[mvI]) r (V 0) ops.size (fun k=>decide (k∈([]:List Nat))) i=(V 0).getD i .undef:=by
    simp only[vAt];rw[hnone _ (by simp)]
   rw[this,hV0];exact hs'.vars i t hi
  ·have hle:=hF.le' (QF _) (QG ops.size)
   have hget:∀ (l:Nat) (o:AObj),(hAt S ch ops.size fun k=>decide (k∈([]:List Nat)))[l]? = some o→o.live→(S 0)[l]? = some o:=by
    intro l o ho hv
    have hl:l<(S ops.size).length:=by have:=(QH.1 ho).1;simpa[hAt] using this
    rw[LH hl] at ho
    have:oAt S ch ops.size (fun k=>decide (k∈([]:List Nat))) l=(S 0)[l]? := by
     simp only[oAt];rw[hnone _ (by simp)]
    rw[this] at ho
    cases h0:(S 0)[l]? with
    | none=>rw[h0] at ho;simp at ho;subst ho;exact hv.elim
    | some o'=>rw[h0] at ho;simpa using ho
   have hh:=hs'.heap
   rw[hS0] at hget hle
   refine ⟨hh.xb,fun l b hb=>?_,?_,?_,?_,hh.gl⟩
   ·have:=hh.dom l b hb;exact ⟨by simp[hAt];omega,this.2⟩
   ·intro l b o hb ho hv;exact hh.own l b o hb (hget l o ho hv) hv
   ·intro l l' b o hb hb' ho hv;exact hh.inj l l' b o hb hb' (hget l' o ho hv) hv
   ·intro l o ho
    by_cases hv:o.live
    ·exact hh.obj l o (hget l o ho hv)
    ·cases o <;> simp[AObj.live] at hv
     simp[ORel]
  ·intro l hl _
   cases hml:m0 l with
   | none=>rfl
   | some b=>have:=(hs0.heap.dom l b hml).1;rw[hS0] at hl;omega
 ·intro m ac w hs htm hst1
  have ht:TRel m X w fx.vars ops.toList ((List.range lst).map r) ac.tmps:=by
   intro j t hj htv
   by_cases hjl':j<lst
   ·have e1:((List.range lst).map r).getD j .undef=r j:=by simp[List.getD,hjl']
    rw[e1];exact htm j t hjl' hj htv
   ·have e1:((List.range lst).map r).getD j .undef=.undef:=by simp[List.getD,QN (show ((List.range lst).map r).length≤j by simp;omega)]
    rw[e1];simp[VRel]
  obtain ⟨o,hol⟩:∃ o,ops[lst]? = some o:=⟨ops[lst]'(by omega),Q7 (by omega)⟩
  obtain ⟨i,hij,hi⟩:=hcomp lst o hol
  rw[hlast] at hij;cases hij
  obtain ⟨hdst,hgd⟩:=R1 hi
  have hw:Region.wanted o (yielded ops ac.tmps)=true:=by
   unfold Region.wanted
   rw[← hgd,hgn]
  simp only[wpOpsIn,hol,hw,if_true]
  refine ⟨fun _ _=>trivial,?_⟩
  have fall:∀ (m':LM) (w':World) (σ':List AObj),HRel m' X σ' w'→Step (S lst).length m X w m' w'→(S lst).length≤σ'.length→Q (.panic cp) ⟨V lst,σ'⟩→Lift fx m0 X en w0 Q (.panic cp) ac w':=by
   intro m' w' σ' hh hst hle hQ
   exact ⟨⟨V lst,σ'⟩,m',hQ,hs.of_heap hh hst hle,hst0.trans (hst1.trans (hst.less hs.base))⟩
  have hop:=hcl
  have hrg:=hK
  generalize has:i0.args.map (WY (V lst) ((List.range lst).map r))=as_ at hrg
  cases as_ with
  | nil=>exact hrg.elim
  | cons fv as_ =>
  dsimp only at hrg
  obtain ⟨f,args,at_,hop',hargs,_,_⟩:=DR hi hop
  rw[hargs] at has
  have hrel:=UT hs.heap.gl hs.vars ht (f::args.toList)
  rw[has] at hrel
  obtain ⟨fc,us,he,hfv,hrest⟩:=hrel.cons
  simp only[Q0,List.cons.injEq] at he
  obtain ⟨rfl,rfl⟩:=he
  have hnd:∀ c,o.op≠.defer c:=by rw[hop'];simp
  rw[Oper.semAt_eq _ _ _ hnd]
  have hex:execOp ac.eval o=(do let d ← resolve ac.eval { callee:=.value f,args,argTypes:=at_ } o.type;invoke d.target d.args):=by
   simp only[execOp,hop']
  rw[hex]
  unfold CallVp at hrg
  split at hrg
  ·rename_i g cap
   simp only[VRel] at hfv
   obtain ⟨vs,hfe,hcap⟩:=hfv
   have hrun:(do let d ← resolve ac.eval { callee:=.value f,args,argTypes:=at_ } o.type;invoke d.target d.args:Sem Next).run P w=.ok (.enter g ((args.toList.map ac.eval)++vs).toArray) w:=by
    simp only[resolve,hfe,Deferred.ofValue,Sem.run_bind,Sem.run_pure,Result.andThen_ok,invoke]
    rw[hrg.1]
    congr 2
    apply Array.ext';simp
   rw[hrun]
   refine ⟨by simp[wfen,Fence.wide],?_⟩
   have hcall:=hrg.2 m X w _ (QK.append hrest hcap) hs.heap
   refine CallsIn.mono (F:=wfen (fx.r.bind m0)) (n:=0) hcall ?_
   rintro e w' ⟨σ',m',rfl,hq,hh,hst,hle⟩
   exact fall m' w' σ' hh hst hle hq
  ·rename_i g first
   simp only[VRel] at hfv
   obtain ⟨vs,hfe,hcap⟩:=hfv
   have hrun:(do let d ← resolve ac.eval { callee:=.value f,args,argTypes:=at_ } o.type;invoke d.target d.args:Sem Next).run P w=.ok (.enter g (vs++(args.toList.map ac.eval)).toArray) w:=by
    simp only[resolve,hfe,Deferred.ofValue,Sem.run_bind,Sem.run_pure,Result.andThen_ok,invoke]
    rw[hrg.1]
    congr 2
    apply Array.ext';simp
   rw[hrun]
   refine ⟨by simp[wfen,Fence.wide],?_⟩
   have hcall:=hrg.2 m X w _ (QK.append hcap hrest) hs.heap
   refine CallsIn.mono (F:=wfen (fx.r.bind m0)) (n:=0) hcall ?_
   rintro e w' ⟨σ',m',rfl,hq,hh,hst,hle⟩
   exact fall m' w' σ' hh hst hle hq
  ·rename_i l
   simp only[VRel] at hfv
   obtain ⟨b,hb,hfe⟩:=hfv
   obtain ⟨L,hL,hsz,hround⟩:=hrg m X w _ b hb hrest hs.heap
   have hrun:(do let d ← resolve ac.eval { callee:=.value f,args,argTypes:=at_ } o.type;invoke d.target d.args:Sem Next).run P w=.ok (.round b L.fn ((L.params.zip (args.toList.map ac.eval).toArray).foldl (fun tmps (t,a)=>tmps.setIfInBounds t a) L.tmps) L.assign L.body) w:=by
    simp only[resolve,hfe,Deferred.ofValue,Sem.run_bind,Sem.run_pure,Result.andThen_ok,invoke]
    have e:#[]++args.map ac.eval=(args.toList.map ac.eval).toArray:=by apply Array.ext';simp
    rw[e]
    exact run_yield hL (by simpa using hsz)
   rw[hrun]
   refine ⟨by simp[wfen,Fence.wide],?_⟩
   refine RoundIn.mono (F:=wfen (fx.r.bind m0)) (n:=0) hround ?_
   rintro e w' ⟨σ',m',rfl,hq,hh,hst,hle⟩
   exact fall m' w' σ' hh hst hle hq
  ·exact hrg.elim
theorem W_region_drawL {id:Nat} {ops:Array Oper} {is:List Ins} {i0:Ins} (pds:List (List Nat)) (kp:List Nat) (xs:List (Nat × Nat)) (hmix:P.follows .mixedOrders=true) (hc:VY P fx.vars fx.N ops=some is)
  {lst:Nat} (hlst:lst+1=ops.size) (hlast:is[lst]? = some i0) (hcl:i0.op=.call) (hgn:i0.gd=none) (hdn:i0.dst=none) (hord:Qa8 ops (is.dropLast++[mvI]) pds kp xs=true) (hall:∀ k,k<lst→k∈pdAt pds lst)
  (hvl:s.vals.length=fx.vars.length) (h:RPx P kp xs 0 (is.dropLast++[mvI]) [] [] s.vals [] s.heap fun vals ρ σ=>match i0.args.map (WY vals ρ.dropLast) with | fv::as_=>X0 P fv as_ σ (fun _ σ'=>Q .normal ⟨vals,σ'⟩) | []=>False):W P fx (.region id ops true) s Q:=by
 intro m0 X en ac0 w0 hs0 hr
 unfold VY at hc
 split at hc
 rotate_left
 ·cases hc
 rename_i hok
 obtain ⟨hlen0,hcomp⟩:=comp_size hc
 have hdl:is.dropLast.length=lst:=by rw[List.length_dropLast];omega
 have hlen:(is.dropLast++[mvI]).length=ops.size:=by rw[QM,hdl];exact hlst
 have hjs:∀ (j:Nat),j≠lst→(is.dropLast++[mvI])[j]? = is[j]? := fun j hj=>by
  by_cases hlt:j<lst
  ·rw[QE (by omega),List.getElem?_dropLast,if_pos (by omega)]
  ·rw[QN (by omega),QN (by omega)]
 have hjl:(is.dropLast++[mvI])[lst]? = some mvI:=by
  rw[QS (by omega),hdl,Nat.sub_self];rfl
 obtain ⟨V,r,S,ch,hd,hF,hV0,hS0,hK,htr⟩:=free_ordx pds kp xs hlen hord hvl (fun l o ho=>hs0.heap.closed l o ho) (hs0.vals_locs (Nat.le_of_eq hvl)) h
 obtain ⟨hVl,hSl⟩:=htr lst _ hjl
 have hSl:S (lst+1)=S lst:=by
  have hm:ZQ .mv [AV.cv (.bool true)] (S lst)=some (AV.cv (.bool true),S lst):=rfl
  have h2:ZQ .mv [AV.cv (.bool true)] (S lst)=some (r lst,S (lst+1)):=hSl
  rw[hm] at h2
  injection h2 with h2
  injection h2 with _ h2
  exact h2.symm
 rw[hlen,← hlst,hSl,show V (lst+1)=V lst from hVl] at hK
 have hrd:((List.range (lst+1)).map r).dropLast=(List.range lst).map r:=by
  rw[WM,ZS,List.map_singleton,List.dropLast_concat]
 rw[hrd] at hK
 refine wpIn_region_draw fun t=>?_
 have hsch:Region.schedule (P.follows .mixedOrders) ops t=Region.linearise .any ops t:=by simp[Region.schedule,hmix]
 rw[hsch]
 have hs':SRel fx m0 X en s ac0 w0.drew:=hs0.drew
 have hst0:Step fx.n0 m0 X w0 m0 w0.drew:=Step.of_heap rfl rfl rfl rfl (XE _)
 refine RD_goP (X:=X) (en:=en) (ro:=fx.r.bind m0) hlst hlen hjs hall hF hSl hok hc ?_ ?_ ?_ _ [] m0 w0.drew ac0 (FR hF.back t) ?_ (by simp) ?_
 ·intro l o ho;rw[hS0] at ho ⊢;exact hs0.heap.closed l o ho
 ·rw[hS0,hV0];exact hs0.vals_locs (Nat.le_of_eq hvl)
 ·rw[hS0];exact hs0.base
 ·have hnone:∀ (p:Nat→Bool),(∀ k,p k=false)→lastOf p ops.size=none:=fun p hp=>by
   rw[F1 (j:=0) (QF _) fun k _ _=>hp k];rfl
  refine ⟨by simp,by simp,hs'.size,?_,by simp,hs'.defs,?_,?_,hs'.entry⟩
  ·intro i t hi
   have:vAt (is.dropLast++[mvI]) r (V 0) ops.size (fun k=>decide (k∈([]:List Nat))) i=(V 0).getD i .undef:=by
    simp only[vAt];rw[hnone _ (by simp)]
   rw[this,hV0];exact hs'.vars i t hi
  ·have hle:=hF.le' (QF _) (QG ops.size)
   have hget:∀ (l:Nat) (o:AObj),(hAt S ch ops.size fun k=>decide (k∈([]:List Nat)))[l]? = some o→o.live→(S 0)[l]? = some o:=by
    intro l o ho hv
    have hl:l<(S ops.size).length:=by have:=(QH.1 ho).1;simpa[hAt] using this
    rw[LH hl] at ho
    have:oAt S ch ops.size (fun k=>decide (k∈([]:List Nat))) l=(S 0)[l]? := by
     simp only[oAt];rw[hnone _ (by simp)]
    rw[this] at ho
    cases h0:(S 0)[l]? with
    | none=>rw[h0] at ho;simp at ho;subst ho;exact hv.elim
    | some o'=>rw[h0] at ho;simpa using ho
   have hh:=hs'.heap
   rw[hS0] at hget hle
   refine ⟨hh.xb,fun l b hb=>?_,?_,?_,?_,hh.gl⟩
   ·have:=hh.dom l b hb;exact ⟨by simp[hAt];omega,this.2⟩
   ·intro l b o hb ho hv;exact hh.own l b o hb (hget l o ho hv) hv
   ·intro l l' b o hb hb' ho hv;exact hh.inj l l' b o hb hb' (hget l' o ho hv) hv
   ·intro l o ho
    by_cases hv:o.live
    ·exact hh.obj l o (hget l o ho hv)
    ·cases o <;> simp[AObj.live] at hv
     simp[ORel]
  ·intro l hl _
   cases hml:m0 l with
   | none=>rfl
   | some b=>have:=(hs0.heap.dom l b hml).1;rw[hS0] at hl;omega
 ·intro m ac w hs htm hst1
  have ht:TRel m X w fx.vars ops.toList ((List.range lst).map r) ac.tmps:=by
   intro j t hj htv
   by_cases hjl':j<lst
   ·have e1:((List.range lst).map r).getD j .undef=r j:=by simp[List.getD,hjl']
    rw[e1];exact htm j t hjl' hj htv
   ·have e1:((List.range lst).map r).getD j .undef=.undef:=by simp[List.getD,QN (show ((List.range lst).map r).length≤j by simp;omega)]
    rw[e1];simp[VRel]
  obtain ⟨o,hol⟩:∃ o,ops[lst]? = some o:=⟨ops[lst]'(by omega),Q7 (by omega)⟩
  obtain ⟨i,hij,hi⟩:=hcomp lst o hol
  rw[hlast] at hij;cases hij
  obtain ⟨hdst,hgd⟩:=R1 hi
  have hw:Region.wanted o (yielded ops ac.tmps)=true:=by
   unfold Region.wanted
   rw[← hgd,hgn]
  simp only[wpOpsIn,hol,hw,if_true]
  refine ⟨fun _ _=>trivial,?_⟩
  have next:∀ (m':LM) (w':World) (σ':List AObj) (c:Value),HRel m' X σ' w'→Step (S lst).length m X w m' w'→(S lst).length≤σ'.length→Q .normal ⟨V lst,σ'⟩→Lift fx m0 X en w0 Q .normal (ac.put o.dst c) w':=by
   intro m' w' σ' c hh hst hle hQ
   have hdo:KA fx.vars o.dst=none:=by rw[← hdst];exact hdn
   exact ⟨⟨V lst,σ'⟩,m',hQ,SRel.put_dst hdo (hs.of_heap hh hst hle),hst0.trans (hst1.trans (hst.less hs.base))⟩
  have hop:=hcl
  have hrg:=hK
  generalize has:i0.args.map (WY (V lst) ((List.range lst).map r))=as_ at hrg
  cases as_ with
  | nil=>exact hrg.elim
  | cons fv as_ =>
  dsimp only at hrg
  obtain ⟨f,args,at_,hop',hargs,_,_⟩:=DR hi hop
  rw[hargs] at has
  have hrel:=UT hs.heap.gl hs.vars ht (f::args.toList)
  rw[has] at hrel
  obtain ⟨fc,us,he,hfv,hrest⟩:=hrel.cons
  simp only[Q0,List.cons.injEq] at he
  obtain ⟨rfl,rfl⟩:=he
  have hnd:∀ c,o.op≠.defer c:=by rw[hop'];simp
  rw[Oper.semAt_eq _ _ _ hnd]
  have hex:execOp ac.eval o=(do let d ← resolve ac.eval { callee:=.value f,args,argTypes:=at_ } o.type;invoke d.target d.args):=by
   simp only[execOp,hop']
  rw[hex]
  unfold X0 at hrg
  split at hrg
  ·rename_i g cap
   simp only[VRel] at hfv
   obtain ⟨vs,hfe,hcap⟩:=hfv
   have hrun:(do let d ← resolve ac.eval { callee:=.value f,args,argTypes:=at_ } o.type;invoke d.target d.args:Sem Next).run P w=.ok (.enter g ((args.toList.map ac.eval)++vs).toArray) w:=by
    simp only[resolve,hfe,Deferred.ofValue,Sem.run_bind,Sem.run_pure,Result.andThen_ok,invoke]
    rw[hrg.1]
    congr 2
    apply Array.ext';simp
   rw[hrun]
   refine ⟨by simp[wfen,Fence.wide],?_⟩
   have hcall:=hrg.2 m X w _ (QK.append hrest hcap) hs.heap
   refine CallsIn.mono (F:=wfen (fx.r.bind m0)) (n:=0) hcall ?_
   rintro e w' ⟨c,r,σ',m',rfl,hq,hv,hh,hst,hle⟩
   exact next m' w' σ' c hh hst hle hq
  ·rename_i g first
   simp only[VRel] at hfv
   obtain ⟨vs,hfe,hcap⟩:=hfv
   have hrun:(do let d ← resolve ac.eval { callee:=.value f,args,argTypes:=at_ } o.type;invoke d.target d.args:Sem Next).run P w=.ok (.enter g (vs++(args.toList.map ac.eval)).toArray) w:=by
    simp only[resolve,hfe,Deferred.ofValue,Sem.run_bind,Sem.run_pure,Result.andThen_ok,invoke]
    rw[hrg.1]
    congr 2
    apply Array.ext';simp
   rw[hrun]
   refine ⟨by simp[wfen,Fence.wide],?_⟩
   have hcall:=hrg.2 m X w _ (QK.append hcap hrest) hs.heap
   refine CallsIn.mono (F:=wfen (fx.r.bind m0)) (n:=0) hcall ?_
   rintro e w' ⟨c,r,σ',m',rfl,hq,hv,hh,hst,hle⟩
   exact next m' w' σ' c hh hst hle hq
  ·rename_i l
   simp only[VRel] at hfv
   obtain ⟨b,hb,hfe⟩:=hfv
   obtain ⟨L,hL,hsz,hround⟩:=hrg m X w _ b hb hrest hs.heap
   have hrun:(do let d ← resolve ac.eval { callee:=.value f,args,argTypes:=at_ } o.type;invoke d.target d.args:Sem Next).run P w=.ok (.round b L.fn ((L.params.zip (args.toList.map ac.eval).toArray).foldl (fun tmps (t,a)=>tmps.setIfInBounds t a) L.tmps) L.assign L.body) w:=by
    simp only[resolve,hfe,Deferred.ofValue,Sem.run_bind,Sem.run_pure,Result.andThen_ok,invoke]
    have e:#[]++args.map ac.eval=(args.toList.map ac.eval).toArray:=by apply Array.ext';simp
    rw[e]
    exact run_yield hL (by simpa using hsz)
   rw[hrun]
   refine ⟨by simp[wfen,Fence.wide],?_⟩
   refine RoundIn.mono (F:=wfen (fx.r.bind m0)) (n:=0) hround ?_
   rintro e w' ⟨c,r,σ',m',rfl,hq,hv,hh,hst,hle⟩
   exact next m' w' σ' c hh hst hle hq
  ·exact hrg.elim
end
end Go.Proofs.YtogjcmnopidfpaaGreat.AM
namespace Go.Proofs.YtogjcmnopidfpaaGreat.AM
variable [Dr]
open Go
variable {P:Program} {fx:Fx} {m:LM} {X:Nat→Prop} {w:World} {en:En}
theorem VRels_undef (vs:List Value):QK m X w (List.replicate vs.length .undef) vs:=by
 induction vs with
 | nil=>trivial
 | cons v vs ih=>exact ⟨trivial,ih⟩
theorem HRel.longer {σ:List AObj} {l b k:Nat} {cs:List AV} {c:Array Value} {e:TypeId} (hh:HRel m X σ w) (hr:rowOf σ l=some cs) (hm:m l=some b) (hb:w.heap[b]? = some (.cells c e (0,0))) (hk:cs.length+k=c.size) :
  HRel m X (σ.set l (.cells (cs++List.replicate k .undef))) w:=by
 have ho:σ[l]? = some (.cells cs):=WO hr
 have hlt:l<σ.length:=(QH.1 ho).1
 have hobj:=hh.obj l _ ho
 rw[hm] at hobj
 obtain ⟨c',e',h1,h2,h3⟩:=hobj
 rw[hb] at h1
 cases h1
 have get:∀ (q:Nat) (o:AObj),(σ.set l (.cells (cs++List.replicate k .undef)))[q]? = some o→(q≠l∧σ[q]? = some o)∨(q=l∧o=.cells (cs++List.replicate k .undef)):=by
  intro q o h
  by_cases hq:l=q
  ·subst hq
   rw[Z2 hlt] at h
   cases h;exact .inr ⟨rfl,rfl⟩
  ·rw[QU hq] at h
   exact .inl ⟨Ne.symm hq,h⟩
 refine ⟨hh.xb,fun q b' h=>by rw[WE];exact hh.dom q b' h,?_,?_,?_,hh.gl⟩
 ·intro q b' o h h' hl'
  rcases get q o h' with ⟨_,h''⟩ | ⟨rfl,rfl⟩
  ·exact hh.own q b' o h h'' hl'
  ·exact hh.own q b' _ h ho trivial
 ·intro q q' b' o h1 h2 h' hl'
  rcases get q' o h' with ⟨_,h''⟩ | ⟨rfl,rfl⟩
  ·exact hh.inj q q' b' o h1 h2 h'' hl'
  ·exact hh.inj q q' b' _ h1 h2 ho trivial
 ·intro q o h'
  rcases get q o h' with ⟨_,h''⟩ | ⟨rfl,rfl⟩
  ·exact hh.obj q o h''
  ·rw[hm]
   refine ⟨c,e,hb,by simp;omega,?_⟩
   have e1:(cs++List.replicate k AV.undef).length=c.toList.length:=by simp;omega
   rw[e1,X7]
   have e2:c.toList=c.toList.take cs.length++c.toList.drop cs.length:=(List.take_append_drop _ _).symm
   rw[e2]
   refine QK.append h3 ?_
   have e3:k=(c.toList.drop cs.length).length:=by simp;omega
   rw[e3];exact VRels_undef _
theorem QK.capsX {l off len esz:Nat}:∀ (pre:List AV) {post:List AV} {vs:List Value},QK m X w (pre ++ .sl l off len esz::post) vs→∃ cap b c e,len≤cap∧m l=some b∧w.heap[b]? = some (.cells c e (0,0))∧off+cap*esz≤c.size∧QK m X w (pre ++ .slc l off len cap esz::post) vs
 | [],post,[],h=>by simp[QK] at h
 | [],post,v::vs,h=>by
  simp only[List.nil_append,QK,VRel] at h ⊢
  obtain ⟨⟨b,cap,h1,h2,h3,c,e,h4,h6⟩,h5⟩:=h
  exact ⟨cap,b,c,e,h3,h1,h4,h6,⟨b,h1,h2,h3,c,e,h4,h6⟩,h5⟩
 | a::pre,post,[],h=>by simp[QK] at h
 | a::pre,post,v::vs,h=>by
  simp only[List.cons_append,QK] at h ⊢
  obtain ⟨cap,b,c,e,h1,h2,h3,h4,h5⟩:=QK.capsX pre h.2
  exact ⟨cap,b,c,e,h1,h2,h3,h4,h.1,h5⟩
theorem AC.capsX {f:FuncId} {l off len esz:Nat} {post cs:List AV} {σ:List AObj} {K:AV→List AObj→Prop} (pre:List AV) (hr:rowOf σ l=some cs)
  (h:∀ cap k,len≤cap→off+cap*esz≤cs.length+k→AC P f (pre ++ .slc l off len cap esz::post) (σ.set l (.cells (cs++List.replicate k .undef))) K) (he:PI P f):AC P f (pre ++ .sl l off len esz::post) σ K:=by
 refine ⟨he,fun m X w cargs ha hh=>?_⟩
 obtain ⟨cap,b,c,e,h1,h2,h3,h4,h5⟩:=QK.capsX pre ha
 have hobj:=hh.obj l _ (WO hr)
 rw[h2] at hobj
 obtain ⟨c',e',g1,g2,g3⟩:=hobj
 rw[h3] at g1
 cases g1
 have hk:cs.length+(c.size-cs.length)=c.size:=by omega
 have:=(h cap (c.size-cs.length) h1 (by omega)).2 m X w cargs h5 (hh.longer hr h2 h3 hk)
 refine this.mono ?_
 rintro e w' ⟨r,v,σ',m',q1,q2,q3,q4,q5,q6⟩
 rw[WE] at q5 q6
 exact ⟨r,v,σ',m',q1,q2,q3,q4,q5,q6⟩
def All (fx:Fx) (s:St) (T:St→Prop):Prop:=∀ m X en ac w,SRel fx m X en s ac w→∃ s' m',T s'∧SRel fx m' X en s' ac w∧Step fx.n0 m X w m' w
theorem WL.all {c:Code} {s:St} {T:St→Prop} {Q:Exit→St→Prop} (hw:All fx s T) (h:∀ s',T s'→WL P fx c s' Q):WL P fx c s Q:=by
 intro m X en ac w hs hr
 obtain ⟨s',m',hT,hs',hst⟩:=hw m X en ac w hs
 exact WL.later (h s' hT) hr hs' hst
theorem IL_forA {a:IC} {Q:Exit→St→Prop} (n:Nat) (S T:Nat→St→Prop) (hA:∀ i s,i≤n→S i s→All fx s (T i))
  (h:∀ i s,i≤n→T i s→IS P fx a s (kFor fx (i<n) (S (i+1)) Q) .mk .mk) (i:Nat) (hi:i≤n) {s:St} (hs:S i s):IL P fx a s Q:=by
 intro c hc
 have key:∀ (k i:Nat) (s:St),n-i=k→i≤n→S i s→WL P fx c s Q:=by
  intro k
  induction k with
  | zero =>
   intro i s hk hi hs
   refine WL.all (hA i s hi hs) fun s' hT=>?_
   refine FG ((Y6 c a s' _ hc (VT _ _ _ _ _ (h i s' hi hT))).mono ?_)
   intro e s' hq
   cases e with
   | normal=>exact absurd hq.1 (by omega)
   | _=>exact hq
  | succ k ih =>
   intro i s hk hi hs
   refine WL.all (hA i s hi hs) fun s' hT=>?_
   refine FG ((Y6 c a s' _ hc (VT _ _ _ _ _ (h i s' hi hT))).mono ?_)
   intro e s' hq
   cases e with
   | normal =>
    obtain ⟨h1,s'',h2,h3⟩:=hq
    exact (ih (i+1) s'' (by omega) h1 h3).weak h2
   | _=>exact hq
 exact key (n-i) i s rfl hi hs
theorem All.caps {s:St} {i l off len esz:Nat} {cs:List AV} (hti:∃ t,fx.vars[i]? = some t) (hv:s.vals[i]? = some (.sl l off len esz)) (hr:rowOf s.heap l=some cs) :
  All fx s fun s'=>∃ cap k,len≤cap∧off+cap*esz≤cs.length+k∧s'=⟨s.vals.set i (.slc l off len cap esz),s.heap.set l (.cells (cs++List.replicate k .undef))⟩:=by
 intro m X en ac w hs
 have hlt:i<s.vals.length:=(QH.1 hv).1
 have hgi:s.vals.getD i .undef=.sl l off len esz:=by simp[List.getD,hv]
 obtain ⟨t,ht⟩:=hti
 have hvr:=hs.vars i t ht
 rw[hgi] at hvr
 obtain ⟨b,cap,h1,h2,h3,c,e,h4,h5⟩:=hvr
 have hobj:=hs.heap.obj l _ (WO hr)
 rw[h1] at hobj
 obtain ⟨c',e',g1,g2,g3⟩:=hobj
 rw[h4] at g1
 cases g1
 refine ⟨_,m,⟨cap,c.size-cs.length,h3,by omega,rfl⟩,⟨hs.size,?_,hs.defs,hs.heap.longer hr h1 h4 (by omega),by rw[WE];exact hs.base,hs.entry⟩,Step.refl _ _ _ _⟩
 intro j u hu
 by_cases hj:i=j
 ·subst hj
  rw[ht] at hu;cases hu
  have:(s.vals.set i (.slc l off len cap esz)).getD i .undef=.slc l off len cap esz:=by simp[List.getD,hlt]
  rw[this]
  exact ⟨b,h1,h2,h3,c,e,h4,h5⟩
 ·have:(s.vals.set i (.slc l off len cap esz)).getD j .undef=s.vals.getD j .undef:=by simp[List.getD,QU hj]
  rw[this];exact hs.vars j u hu
theorem Weak.openS {vals vals':List AV} {H:List AObj} (hv:∀ i,vals'.getD i .undef=vals.getD i .undef∨∃ l o n c e,vals.getD i .undef=.slc l o n c e∧vals'.getD i .undef=.sl l o n e):Weak fx ⟨vals,H⟩ ⟨vals',H⟩:=by
 intro m X en ac w hs
 refine ⟨m,⟨hs.size,fun i t ht=>?_,hs.defs,hs.heap,hs.base,hs.entry⟩,Step.refl _ _ _ _⟩
 have h:=hs.vars i t ht
 rcases hv i with h1 | ⟨l,o,n,c,e,h1,h2⟩
 ·simp only at h ⊢;rw[h1];exact h
 ·simp only at h ⊢
  rw[h1] at h
  rw[h2]
  obtain ⟨b,g1,g2,g3,g4⟩:=h
  exact ⟨b,c,g1,g2,g3,g4⟩
def kLast (P:Program) (i0:Ins) (Q:Exit→St→Prop):List AV→List AV→List AObj→Prop :=
 fun vals ρ σ=>match i0.args.map (WY vals ρ.dropLast) with | fv::as_=>X0 P fv as_ σ (fun _ σ'=>Q .normal ⟨vals,σ'⟩) | []=>False
theorem DW_sL {dirs:List (List Nat)} {is:List Ins} {i0:Ins} {s:St} {Q:Exit→St→Prop} (kp:List Nat) (xs:List (Nat × Nat)) (hmix:P.follows .mixedOrders=true) {lst:Nat} (hlst:lst+1=dirs.length) (hlast:is[lst]? = some i0) (hcl:i0.op=.call) (hgn:i0.gd=none) (hdn:i0.dst=none)
  (hord:RQ dirs (is.dropLast++[mvI]) (Qbd dirs []) kp xs=true) (hall:(List.range lst).all (fun k=>(pdAt (Qbd dirs []) lst).contains k)=true) (hvl:s.vals.length=fx.vars.length)
  (h:RSx P kp xs 0 (is.dropLast++[mvI]) [] [] s.vals [] s.heap (kLast P i0 Q) .mk .mk):DW P fx dirs is s Q:=by
 rintro id ops rfl hc
 have hl:(UU ops).length=ops.size:=by simp[UU]
 exact W_region_drawL _ kp xs hmix hc (by rw[← hl];exact hlst) hlast hcl hgn hdn (AA hord) (fun k hk=>by
  have:=Q1.1 hall k (by simpa using hk)
  simpa using this) hvl (EV _ _ _ _ _ _ _ _ _ _ h)
end Go.Proofs.YtogjcmnopidfpaaGreat.AM

/- Parts of the proof of TopSeated. -/
import Derived.RangeFuncNested
import Derived.Test.YtpmokaefmcffaaaGreatProg
import Derived.Lib.Strings
import Derived.Test.YtpmokaefmcffaaaGreatChecked
import Derived.Maps.RangeRun
import GoSem.Op.String
import Derived.Test.YtpmokaefmcffaaaGreatRows
import Derived.WalkKit
import Derived.ProofKit
import Derived.OpenShut
import Derived.Carry
import Derived.Test.YtpmokaefmcffaaaGreatZ8
set_option linter.unusedVariables false
set_option linter.unusedSimpArgs false
set_option linter.unusedSectionVars false
set_option linter.defProp false
namespace Go.Proofs.YtpmokaefmcffaaaGreat.AM
variable [Dr]
open Go
theorem GlOk.step {n0:Nat} {m m':LM} {X:Nat→Prop} {w w':World} (h:GlOk m X w) (hs:Step n0 m X w m' w'):GlOk m' X w':=fun p hp=>CV.reps_mono (fun b hb hc=>by
 have hlt:=hc.lt
 refine ⟨hs.fr b hlt (.inr fun l hl=>hb (.inr ⟨l,hl⟩)),?_⟩
 rintro (hX | ⟨l,hl⟩)
 ·exact hb (.inl hX)
 ·rcases hs.new l b hl with ⟨l',hl'⟩ | hge
  ·exact hb (.inr ⟨l',hl'⟩)
  ·omega) _ _ _ (h p hp)
end Go.Proofs.YtpmokaefmcffaaaGreat.AM
namespace Go.Proofs.YtpmokaefmcffaaaGreat.AM
variable [Dr]
open Go
variable {P:Program} {fx:Fx} {m:LM} {X:Nat→Prop} {en:En} {w:World} {s:St} {Q:Exit→St→Prop}
theorem W.mono {c:Code} {Q':Exit→St→Prop} (h:W P fx c s Q) (hq:∀ e s',Q e s'→Q' e s'):W P fx c s Q' :=
 fun m X en ac w hs hr=>wpIn_mono (h m X en ac w hs hr) fun e ac' w' ⟨s',m',h1,h2⟩=>⟨s',m',hq _ _ h1,h2⟩
theorem Weak.refl (fx:Fx) (s:St):Weak fx s s:=fun m X en ac w h=>⟨m,h,Step.refl _ _ _ _⟩
theorem W.weak {c:Code} {s':St} (hw:Weak fx s s') (h:W P fx c s' Q):W P fx c s Q:=by
 intro m X en ac w hs hr
 obtain ⟨m',hs',hst⟩:=hw m X en ac w hs
 exact W.later h hr hs' hst
theorem WL.weak {c:Code} {s':St} (hw:Weak fx s s') (h:WL P fx c s' Q):WL P fx c s Q:=by
 intro m X en ac w hs hr
 obtain ⟨m',hs',hst⟩:=hw m X en ac w hs
 exact WL.later h hr hs' hst
theorem WL.mono {c:Code} {Q':Exit→St→Prop} (h:WL P fx c s Q) (hq:∀ e s',Q e s'→Q' e s'):WL P fx c s Q' :=
 fun m X en ac w hs hr=>RA.mono (h m X en ac w hs hr) fun e ac' w' ⟨s',m',h1,h2⟩=>⟨s',m',hq _ _ h1,h2⟩
abbrev noX:Nat→Prop:=fun _=>False
end Go.Proofs.YtpmokaefmcffaaaGreat.AM
namespace Go.Proofs.YtpmokaefmcffaaaGreat.AM
set_option linter.unusedSectionVars false
variable [Dr]
open Go
set_option linter.unusedVariables false
set_option linter.unusedSimpArgs false
section
variable {P:Program} {b:Frame} {a:Act} {k:List Item} {cs:List Frame} {w:World}
end
variable {P:Program} {fx:Fx} {s:St} {Q:Exit→St→Prop}
def DW (P:Program) (fx:Fx) (dirs:List (List Nat)) (is:List Ins) (s:St) (Q:Exit→St→Prop):Prop :=
 ∀ id ops,UU ops=dirs→VY P fx.vars fx.N ops=some is→W P fx (.region id ops true) s Q
def IL (P:Program) (fx:Fx) (a:IC) (s:St) (Q:Exit→St→Prop):Prop :=
 ∀ c,QL P fx.vars fx.N c=some a→WL P fx c s Q
def RW (P:Program) (fx:Fx) (g:Opd) (ps:Array Nat) (assign body:Code) (s:St) (Q:Exit→St→Prop):Prop :=
 ∃ gf cap,WY s.vals [] g=.fn (.func gf) cap∧s.vals.length≤fx.vars.length∧(∀ l0,fx.r=some l0→∃ r0,s.heap[l0]? = some (.loop r0)) ∧
  AC P gf (.yld s.heap.length::cap) (s.heap++[.loop (VJ fx s.vals ps assign body)]) fun _ σ'=>U9 P fx s.vals s.heap.length Q σ'
def IW (P:Program) (fx:Fx):IC→St→(Exit→St→Prop)→Prop
 | .skip,s,Q=>Q .normal s
 | .label _,s,Q=>Q .normal s
 | .exit i,s,Q=>Q (.exit i) s
 | .ret,s,Q=>Q .ret s
 | .seq a b,s,Q=>IW P fx a s fun e s'=>match e with | .normal=>IW P fx b s' Q | e=>Q e s'
 | .block i a,s,Q=>IW P fx a s fun e s'=>match e with | .exit i'=>if i'=i then Q .normal s' else Q (.exit i') s' | e=>Q e s'
 | .cond i a b,s,Q=>∃ t,s.vals.getD i .undef=.b t∧(if t then IW P fx a s Q else IW P fx b s Q)
 | .loop a,s,Q=>IL P fx a s Q
 | .scope a,s,Q=>IW P fx a s fun e s'=>match e with | .goto _=>False | e=>Q e s'
 | .region is,s,Q=>RG P is s.vals [] s.heap fun vals _ σ=>Q .normal ⟨vals,σ⟩
 | .draw dirs is _,s,Q=>DW P fx dirs is s Q
 | .rangef g ps assign body _ _,s,Q=>RW P fx g ps assign body s Q
theorem Y6:∀ (c:Code) (ic:IC) (s:St) (Q:Exit→St→Prop),QL P fx.vars fx.N c=some ic→IW P fx ic s Q→W P fx c s Q
 | .skip,ic,s,Q,hc,h=>by simp only[QL,Option.some.injEq] at hc;subst hc;exact W_skip h
 | .label l,ic,s,Q,hc,h=>by simp only[QL,Option.some.injEq] at hc;subst hc;exact QeJ h
 | .exit i,ic,s,Q,hc,h=>by simp only[QL,Option.some.injEq] at hc;subst hc;exact QbM h
 | .ret,ic,s,Q,hc,h=>by simp only[QL,Option.some.injEq] at hc;subst hc;exact QcP h
 | .seq a b,ic,s,Q,hc,h=>by
  simp only[QL,QB,QA] at hc
  obtain ⟨x,hx,y,hy,rfl⟩:=hc
  refine QcO ((Y6 a x s _ hx h).mono ?_)
  intro e s' hq
  cases e with
  | normal=>exact Y6 b y s' Q hy hq
  | _=>exact hq
 | .block i a,ic,s,Q,hc,h=>by
  simp only[QL,QA] at hc
  obtain ⟨x,hx,rfl⟩:=hc
  exact QbO (Y6 a x s _ hx h)
 | .loop a,ic,s,Q,hc,h=>by
  simp only[QL,QA] at hc
  obtain ⟨x,hx,rfl⟩:=hc
  exact W_loop (h a hx)
 | .scope a,ic,s,Q,hc,h=>by
  simp only[QL,QA] at hc
  obtain ⟨x,hx,rfl⟩:=hc
  exact QeI (Y6 a x s _ hx h)
 | .cond (.const v) a b,ic,s,Q,hc,h=>by
  cases v <;> simp only[QL,reduceCtorEq] at hc
  rename_i t
  cases t with
  | true=>simp only[if_true] at hc;exact XD (Y6 a ic s Q hc h)
  | false=>simp only[QT,if_false] at hc;exact XD (Y6 b ic s Q hc h)
 | .cond (.tmp t) a b,ic,s,Q,hc,h=>by
  simp only[QL,QB,QA] at hc
  obtain ⟨i,hi,x,hx,y,hy,rfl⟩:=hc
  obtain ⟨b',hb,h⟩:=h
  refine QbN (Y9 hi) hb ?_
  cases b' with
  | true=>exact Y6 a x s Q hx h
  | false=>exact Y6 b y s Q hy h
 | .region id ops false,ic,s,Q,hc,h=>by
  simp only[QL,QA] at hc
  obtain ⟨is,his,rfl⟩:=hc
  exact C5 his h
 | .region id ops true,ic,s,Q,hc,h=>by
  simp only[QL,QA] at hc
  obtain ⟨is,his,rfl⟩:=hc
  exact h id ops rfl his
 | .rangeFunc g ps assign body,ic,s,Q,hc,h=>by
  simp only[QL,QB,QA] at hc
  obtain ⟨ia,h1,ib,h2,rfl⟩:=hc
  obtain ⟨gf,cap,g1,g2,g3,g4⟩:=h
  exact N6 rfl g1 g2 g3 g4
 | .cond (.global _) _ _,_,_,_,hc,_=>by simp[QL] at hc
 | .cond (.func _) _ _,_,_,_,hc,_=>by simp[QL] at hc
 | .goto _,_,_,_,hc,_=>by simp[QL] at hc
 | .refuse _,_,_,_,hc,_=>by simp[QL] at hc
theorem AC_IW {f:FuncId} {fn:Func} {c:Code} {ic:IC} {args:List AV} {σ:List AObj} {Q:AV→List AObj→Prop} (vars:List Nat) (hf:P.funcs[f]? = some fn) (hb:fn.body=some c) (hn:(fn.name == "runtime.NumGoroutine")=false) (hargs:args.length≤fn.ntmps)
  (hc:QL P vars fn.ntmps c=some ic)
  (h:IW P ⟨vars,fn.ntmps,none,σ.length⟩ ic ⟨Y5 vars args,σ⟩ fun e s'=>match e with
   | .normal | .ret=>∃ r,UB P vars s'.vals s'.heap fn.results.toList=some r∧Q r s'.heap
   | _=>False):AC P f args σ Q :=
 IB hf hb (RE hf hn hb) hargs (Y6 (fx:=⟨vars,fn.ntmps,none,σ.length⟩) c ic _ _ hc h)
end Go.Proofs.YtpmokaefmcffaaaGreat.AM
namespace Go.Proofs.YtpmokaefmcffaaaGreat.AM
variable [Dr]
open Go
variable {P:Program} {fx:Fx} {Q:Exit→St→Prop} {s:St}
theorem DW_ordx {dirs:List (List Nat)} {is:List Ins} (kp:List Nat) (xs:List (Nat × Nat)) (hmix:P.follows .mixedOrders=true) (hord:RQ dirs is (Qbd dirs []) kp xs=true) (hvl:s.vals.length=fx.vars.length)
  (h:RPx P kp xs 0 is [] [] s.vals [] s.heap fun vals _ σ=>Q .normal ⟨vals,σ⟩):DW P fx dirs is s Q:=by
 rintro id ops rfl hc
 exact PE _ kp xs hmix hc (AA hord) hvl h
end Go.Proofs.YtpmokaefmcffaaaGreat.AM
namespace Go.Proofs.YtpmokaefmcffaaaGreat.AM
variable [Dr]
open Go
section
variable {m m':LM} {X X':Nat→Prop} {w:World} {σ:List AObj} {p:CV→Prop}
theorem Qbq (hh:HRel m X σ w) (hb:∀ (c:CV) v,p c→c.rep w (Own m X) v→c.rep w (Own m' X') v) (hn:∀ (l b:Nat) (o:AObj),m l=some b→σ[l]? = some o→o.live→¬ Own m' X' b):∀ {as_ bs:List AV},KS p σ as_ bs→∀ vs,QK m X w as_ vs→QK m' X' w bs vs
 | _,_,.nil,vs,hv=>by rw[QK.nil' hv];simp[QK]
 | _,_,.cons h1 h2,vs,hv=>by
  obtain ⟨v,us,rfl,g1,g2⟩:=hv.cons
  exact ⟨RX hh hb hn h1 v g1,Qbq hh hb hn h2 us g2⟩
theorem Qa2 {O O':Nat→Prop} (c:CV) (v:Value) (hp:scl c) (h:c.rep w O v):c.rep w O' v:=by
 cases c <;> simp only[scl] at hp <;> simpa only[CV.rep] using h
end
theorem AC.pureN {P:Program} {f:FuncId} {args args':List AV} {Q:AV→List AObj→Prop} {R:AV→Prop} (h:AC P f args [] Q) (hq:∀ r σ',Q r σ'→∃ v,FrzV scl σ' r v∧R v) {σ:List AObj} (hf:KS anyC σ args' args):AC P f args' σ fun r σ'=>R r∧σ'=σ:=by
 refine ⟨h.1,fun m X w cargs ha hh=>?_⟩
 have hown:∀ b,Own nom X b→X b:=fun b h=>h.elim id (fun ⟨l,hl⟩=>by cases hl)
 have ha0:QK nom X w args cargs:=by
  refine Qbq hh (fun c v _ h=>CV.rep_less (fun b hb=>.inl (hown b hb)) c v h) ?_ hf cargs ha
  intro l b o hl ho hlive hb
  exact hh.own l b o hl ho hlive (hown b hb)
 have hh0:HRel nom X [] w:=⟨hh.xb,fun l b hl=>(by cases hl),fun l b o hl=>(by cases hl),fun l l' b o hl=>(by cases hl),fun l o ho=>(by simp at ho),hh.gl.less fun b hb=>.inl (hown b hb)⟩
 refine (h.2 nom X w cargs ha0 hh0).mono ?_
 rintro e w' ⟨c,r,σ',m',rfl,hQ,hv,hh',hst,_⟩
 obtain ⟨v,hf,hR⟩:=hq r σ' hQ
 have hsame:∀ b,b<w.heap.size→w'.heap[b]? = w.heap[b]? := fun b hb=>hst.fr b hb (.inr fun l hl=>by cases hl)
 refine ⟨c,v,σ,m,rfl,⟨hR,rfl⟩,?_,hh.below hst.size hsame,?_,QG _⟩
 ·refine RX hh' (fun c v hp h=>Qa2 c v hp h) ?_ hf c hv
  intro l b o hl ho hlive hb
  have hbs:b<w.heap.size:=by
   rcases hb with hb | ⟨l',hl'⟩
   ·exact hh.xb b hb
   ·exact (hh.dom l' b hl').2
  rcases hst.new l b hl with ⟨l',hl'⟩ | hge
  ·cases hl'
  ·omega
 ·exact ⟨fun _ _=>rfl,fun l b hl=>.inl ⟨l,hl⟩,hst.size,fun b hb _=>hsame b hb,hst.shp,hst.os,hst.tape,hst.output,hst.drawn⟩
theorem PC.call {P:Program} {f:FuncId} {args args':List AV} {v:AV} {σ:List AObj} {K:AV→List AObj→Prop} (h:PC P f args v) (hf:KS anyC σ args' args) (hk:K v σ):AC P f args' σ K :=
 (AC.pureN (R:=fun r=>r=v) h.ac (fun r τ hr=>⟨v,hr,rfl⟩) hf).mono fun r τ ⟨h1,h2⟩=>by rw[h1,h2];exact hk
theorem PA.call {P:Program} {f:FuncId} {args:List AV} {v:AV} {σ:List AObj} {K:AV→List AObj→Prop} (h:PA P f args v) (hk:K v σ):AC P f args σ K :=
 (AC.pure (R:=fun r=>r=v) h.al h.ac (fun r τ hr=>⟨v,hr,rfl⟩) σ).mono fun r τ ⟨h1,h2⟩=>by rw[h1,h2];exact hk
theorem Weak.freeze {fx:Fx} {s:St} {vals':List AV} (h0:fx.n0=0) (hv:∀ i,FrzV anyC s.heap (s.vals.getD i .undef) (vals'.getD i .undef)):Weak fx s ⟨vals',[]⟩:=by
 intro m X en ac w hs
 have ho:∀ b,Own nom X b→Own m X b:=fun b hb=>hb.elim .inl (fun ⟨l,hl⟩=>by cases hl)
 refine ⟨nom,⟨hs.size,?_,?_,?_,by simp[h0],hs.entry⟩,?_⟩
 ·intro i t hi
  refine RX hs.heap (fun c v _ h=>CV.rep_less ho c v h) ?_ (hv i) _ (hs.vars i t hi)
  rintro l b o hl hlo hlive (hb | ⟨l',hl'⟩)
  ·exact hs.heap.own l b o hl hlo hlive hb
  ·cases hl'
 ·obtain ⟨bs,h1,h2,h3⟩:=hs.defs
  exact ⟨bs,h1,h2,fun b hb=>let ⟨g1,g2,g3,g4⟩:=h3 b hb;⟨g1,g2,g3,fun hx=>g4 (ho b hx)⟩⟩
 ·exact ⟨hs.heap.xb,fun l b hl=>(by cases hl),fun l b o hl=>(by cases hl),fun l l' b o hl=>(by cases hl),fun l o ho=>(by simp at ho),hs.heap.gl.less ho⟩
 ·rw[h0]
  exact ⟨fun l hl=>absurd hl (W5 _),fun l b hl=>(by cases hl),QG _,fun _ _ _=>rfl,fun b c e hb=>⟨c,hb,rfl⟩,rfl,rfl,rfl,fun _=>QG _⟩
abbrev vs4:List Nat:=[0,1,2,3,4,5,6,9,10,11,12,13,14,15,16,17,18,19,20,21,22,23,24,25,26,27,28,29,69,110,117,146,159,186,193,228,251,253,266]
def ic4l0:IC:=(.seq (.seq (.region [jv 17,jF 0 5,jl 1,je 2,jw 32 (.bin .lss .int) [.t 0,.t 3]])
 (.cond 32 .skip
 (.exit 2)))
 (.seq (.block 3 (.seq (.region [jv 17,jF 0 5,jl 1,jv 17,ja 1 2 3,jl 4,jk 16 [.t 0,.t 5],jt 6,jx 0 7,jx 1 7,jm 18 8,jm 19 9])
 (.seq (.region [jv 17,jv 9,jv 17,ja 1 1 2,jl 3,jk 16 [.t 0,.t 4],jt 5,jx 0 6,jx 1 6,jm 20 7,jm 21 8])
 (.seq (.seq (.region [jv 19,jq (.bin .neq .int) [.t 0,jn 0],jt 1,jh 2 false 21,jg 2 false (.bin .neq .int) [.t 3,jn 0],jw 33 .pick [.t 2,jB true,.t 4]])
 (.cond 33 (.seq (.region [jw 6 .mv [jB false]])
 .ret)
 .skip))
 (.seq (.region [jv 15,jv 18,jq (.bslice 1 1 [(.cv (.int .i64 0))] [(0,1)]) [.t 1],jq (.append 1 8) [.t 0,.t 2],jm 15 3])
 (.seq (.region [jv 18,jv 20,jw 34 (.bin .neq .int) [.t 0,.t 1]])
 (.cond 34 (.region [jv 16,jv 17,jq (.bslice 1 1 [(.cv (.int .i64 0))] [(0,1)]) [.t 1],jq (.append 1 8) [.t 0,.t 2],jm 16 3])
 .skip)))))))
 (.region [jv 17,jq (.bin .add .int) [.t 0,jn 1],jm 17 1])))
def ic4l1:IC:=(.seq (.seq (.region [jv 14,jv 10,je 1,jw 30 (.bin .lss .int) [.t 0,.t 2]])
 (.cond 30 .skip
 (.exit 0)))
 (.seq (.block 1 (.seq (.seq (.dr [[],[],[0,1],[2],[3],[4],[5],[5],[6,7,5],[8,5],[5],[5],[10,11,5],[12,5],[9,13,5],[5],[5],[15,16,5],[17,5],[5],[19,5],[5],[20,21,5],[22,5],[18,23,5],[14,24,5],[5,25]] [jv 10,jv 14,ja 1 0 1,jl 2,jq (.bin .lss .int) [.t 3,jn 0],jt 4,jh 5 false 10,jh 5 false 14,jg 5 false (.iaS 1) [.t 6,.t 7],ji 5 false 8,jh 5 false 11,jh 5 false 14,jg 5 false (.iaS 1) [.t 10,.t 11],ji 5 false 12,jg 5 false (.bin .eql .int) [.t 9,.t 13],jh 5 false 9,jh 5 false 8,jg 5 false (.iaS 1) [.t 15,.t 16],ji 5 false 17,jg 5 false (.fadd 0) [.v 5],ji 5 false 19,jh 5 false 8,jg 5 false (.iaS 1) [.t 20,.t 21],ji 5 false 22,jg 5 false (.bin .eql .int) [.t 18,.t 23],jg 5 false (.bin .neq .bool) [.t 14,.t 24],jw 31 .pick [.t 5,jB true,.t 25]])
 (.cond 31 (.seq (.region [jw 6 .mv [jB false]])
 .ret)
 .skip))
 (.region [jv 13,jv 14,jv 10,jv 14,ja 1 2 3,jl 4,jq (.bin .rem .int) [.t 5,jn 1000000001],ja 1 0 1,jq (.store 1) [.t 7,.t 6]])))
 (.region [jv 14,jq (.bin .add .int) [.t 0,jn 1],jm 14 1])))
def ic4:IC:=(.seq (.region [jb 3 0,jb 4 1,jb 5 2,jw 6 .mv [jB false]])
 (.seq (.region [jN 4 3,jk 12 [.t 0],jt 1,jx 0 2,jx 1 2,jx 2 2,jt 3,jt 4,jm 7 5])
 (.seq (.seq (.region [jv 7,jq (.bin .neq .int) [.t 0,jn 0],jt 1,jg 2 false (.fadd 0) [.v 4],ji 2 false 3,jg 2 false (.bin .lss .int) [.t 4,jn 1],jq .pick [.t 2,jB true,.t 5],jt 6,jg 7 false (.fadd 0) [.v 4],ji 7 false 8,jg 7 false (.bin .gtr .int) [.t 9,jn 5],jq .pick [.t 7,jB true,.t 10],jt 11,jg 12 false (.fadd 1) [.v 4],ji 12 false 13,jg 12 false (.bin .lss .int) [.t 14,jn 1],jq .pick [.t 12,jB true,.t 15],jt 16,jg 17 false (.fadd 1) [.v 4],ji 17 false 18,jg 17 false (.bin .gtr .int) [.t 19,jn 6],jq .pick [.t 17,jB true,.t 20],jt 21,jg 22 false (.fadd 0) [.v 5],ji 22 false 23,jg 22 false (.len false) [.t 24],jg 22 false (.bin .geq .int) [.t 25,jn 8],jq .pick [.t 22,jB true,.t 26],jt 27,jg 28 false (.fadd 0) [.v 5],ji 28 false 29,jf 28 false 13 [.t 30],jg 28 false (.bin .neq .int) [.t 31,jn 0],jw 28 .pick [.t 28,jB true,.t 32]])
 (.cond 28 (.seq (.region [jk 14 [],jt 0,jf 1 true 6 [],jq .pick [.t 1,.t 2,jB false],jm 6 3])
 .ret)
 .skip))
 (.seq (.region [jF 1 5,jl 0,jq (.conv .i64) [.t 1],jF 0 5,jl 3,je 4,jq (.bin .rem .int) [.t 2,.t 5],jm 8 6])
 (.seq (.region [jq (.bslice 1 0 [] []) [],jF 0 5,jl 1,jq (.append 1 8) [.t 0,.t 2],jm 9 3])
 (.seq (.region [jv 9,jv 8,jF 2 5,jl 2,jq (.conv .i64) [.t 3],jq (.bin .rem .int) [.t 4,jn 1000000001],ja 1 0 1,jq (.store 1) [.t 6,.t 5]])
 (.seq (.region [jN 3 4,jF 0 5,jl 1,jk 15 [.t 0,.t 2],jt 3,jx 0 4,jx 1 4,jm 10 5,jm 7 6])
 (.seq (.region [jN 3 4,jv 9,jk 15 [.t 0,.t 1],jt 2,jx 0 3,jx 1 3,jm 11 4,jm 12 5])
 (.seq (.seq (.region [jv 7,jq (.bin .neq .int) [.t 0,jn 0],jt 1,jh 2 false 12,jg 2 false (.bin .neq .int) [.t 3,jn 0],jw 29 .pick [.t 2,jB true,.t 4]])
 (.cond 29 (.seq (.region [jw 6 .mv [jB false]])
 .ret)
 .skip))
 (.seq (.region [jv 10,je 0,jq (.mkslice 1 8 [(.cv (.int .i64 0))]) [.t 1,.t 1],jm 13 2])
 (.seq (.seq (.region [jz 14 0])
 (.block 0 (.loop ic4l1)))
 (.seq (.region [jw 15 .mv [jS],jw 16 .mv [jS]])
 (.seq (.seq (.region [jz 17 0])
 (.block 2 (.loop ic4l0)))
 (.seq (.region [jv 15,jv 9,jk 17 [.t 0,.t 1],jt 2,jx 0 3,jx 1 3,jm 22 4,jm 23 5])
 (.seq (.seq (.region [jv 23,jq (.bin .neq .int) [.t 0,jn 0],jt 1,jh 2 false 22,jh 2 false 16,jf 2 false 18 [.t 3,.t 4],jg 2 false .not [.t 5],jq .pick [.t 2,jB true,.t 6],jt 7,jh 8 false 16,jg 8 false (.len false) [.t 9],jg 8 false (.bin .gtr .int) [.t 10,jn 1],jq .pick [.t 8,jB true,.t 11],jt 12,jh 13 false 16,jg 13 false (.len false) [.t 14],jg 13 false (.bin .eql .int) [.t 15,jn 1],jg 13 false .mv [.t 16],jh 17 true 16,jg 17 true (.iaS 1) [.t 18,jn 0],ji 17 true 19,jh 17 true 8,jg 17 true (.bin .neq .int) [.t 20,.t 21],jg 13 false .pick [.t 17,.t 22,jB false],jw 35 .pick [.t 13,jB true,.t 23]])
 (.cond 35 (.seq (.region [jw 6 .mv [jB false]])
 .ret)
 .skip))
 (.seq (.region [jN 4 3,jN 3 4,jv 13,jk 19 [.t 0,.t 1,.t 2],jt 3,jx 0 4,jx 1 4,jm 24 5,jm 7 6])
 (.seq (.region [jN 4 3,jN 3 4,jv 13,jk 19 [.t 0,.t 1,.t 2],jt 3,jx 0 4,jx 1 4,jm 25 5,jm 12 6])
 (.seq (.seq (.region [jv 7,jv 12,jq (.bin .neq .int) [.t 0,.t 1],jt 2,jh 3 false 24,jh 3 false 25,jf 3 false 20 [.t 4,.t 5],jg 3 false .not [.t 6],jw 36 .pick [.t 3,jB true,.t 7]])
 (.cond 36 (.seq (.region [jw 6 .mv [jB false]])
 .ret)
 .skip))
 (.seq (.seq (.region [jv 7,jw 37 (.bin .eql .int) [.t 0,jn 0]])
 (.cond 37 (.seq (.region [jN 4 3,jN 3 4,jv 24,jk 21 [.t 0,.t 1,.t 2],jt 3,jx 0 4,jx 1 4,jm 26 5,jm 27 6])
 (.seq (.region [jv 27,jq (.bin .neq .int) [.t 0,jn 0],jt 1,jh 2 false 26,jg 2 false (.bin .neq .int) [.t 3,jn 0],jw 38 .pick [.t 2,jB true,.t 4]])
 (.cond 38 (.seq (.region [jw 6 .mv [jB false]])
 .ret)
 .skip)))
 .skip))
 (.seq (.region [jk 14 [],jt 0,jf 1 true 6 [],jq .pick [.t 1,.t 2,jB false],jm 6 3])
 .ret))))))))))))))))))))
abbrev rs4:List RC:=[(.v 6)]
theorem fok4 (p:Bool):FnOk Tryz.prog 4 ⟨ic4,vs4,271,rs4,p⟩:=.mk2 Tryz.func4 (by kernel_rfl) (by kernel_rfl) (by kernel_rfl) (by kernel_rfl) (by kernel_rfl)
abbrev vs12:List Nat:=[0,1,2,3,4,5,6,7,8,20,32,39,48,63,76,88,101]
def ic12l0:IC:=(.seq (.seq (.region [jv 8,jv 5,je 1,jw 15 (.bin .lss .int) [.t 0,.t 2]])
 (.cond 15 .skip
 (.exit 2)))
 (.seq (.block 3 (.seq (.dr [[],[0],[],[1,2],[3],[],[],[5,6],[7],[4,8],[9]] [jF 1 1,jl 0,jv 8,ja 1 1 2,jl 3,jv 5,jv 8,ja 1 5 6,jl 7,jk 46 [.t 4,jn 1,.t 8],jw 16 .not [.t 9]])
 (.cond 16 (.seq (.region [jv 8,jz 2 3,jm 3 0,jz 4 7])
 .ret)
 .skip)))
 (.region [jv 8,jq (.bin .add .int) [.t 0,jn 1],jm 8 1])))
def ic12l1:IC:=(.seq (.seq (.region [jv 6,jF 0 1,jl 1,je 2,jw 12 (.bin .lss .int) [.t 0,.t 3]])
 (.cond 12 .skip
 (.exit 0)))
 (.seq (.block 1 (.seq (.region [jF 0 1,jl 0,jv 6,ja 3 1 2,jq (.loadN 3) [.t 3],jw 7 (.alloc [(.cv (.int .i64 0)),(.cv (.int .i64 0)),(.cv (.int .i64 0))]) [],jq (.store 3) [.v 7,.t 4]])
 (.seq (.seq (.region [jF 0 7,jl 0,jF 1 1,jl 2,je 3,jq (.bin .sub .int) [.t 4,jn 1],jk 46 [.t 1,jn 0,.t 5],jw 13 .not [.t 6]])
 (.cond 13 (.seq (.region [jv 6,jz 2 2,jm 3 0,jz 4 4])
 .ret)
 .skip))
 (.seq (.seq (.region [jF 1 7,jl 0,jk 46 [.t 1,jn 0,jn 100000],jq .not [.t 2],jt 3,jg 4 false (.fadd 2) [.v 7],ji 4 false 5,jg 4 false (.fadd 1) [.v 7],ji 4 false 7,jf 4 false 46 [.t 6,jn 0,.t 8],jg 4 false .not [.t 9],jw 14 .pick [.t 4,jB true,.t 10]])
 (.cond 14 (.seq (.region [jv 6,jz 2 2,jm 3 0,jz 4 7])
 .ret)
 .skip))
 (.region [jv 5,jF 0 7,jl 1,ja 1 0 2,jl 3,jq (.bin .add .int) [.t 4,jn 1],ja 1 0 2,jq (.store 1) [.t 6,.t 5]])))))
 (.region [jv 6,jq (.bin .add .int) [.t 0,jn 1],jm 6 1])))
def ic12:IC:=(.seq (.region [jb 1 0,jz 2 0,jz 3 0,jz 4 0])
 (.seq (.seq (.region [jF 0 1,jl 0,je 1,jk 46 [.t 2,jn 1,jn 16],jq .not [.t 3],jt 4,jg 5 false (.fadd 1) [.v 1],ji 5 false 6,jg 5 false (.len false) [.t 7],jf 5 false 46 [.t 8,jn 1,jn 4],jg 5 false .not [.t 9],jw 9 .pick [.t 5,jB true,.t 10]])
 (.cond 9 (.seq (.region [jz 2 1,jz 3 0,jz 4 3])
 .ret)
 .skip))
 (.seq (.seq (.region [jF 2 1,jG 0 0,jl 1,jk 46 [.t 2,jn 0,jn 16000],jq .not [.t 3],jt 4,jg 5 false (.fadd 2) [.v 1],jg 5 false (.fadd 1) [.t 6],ji 5 false 7,jf 5 false 46 [.t 8,jn 0,jn 16000],jg 5 false .not [.t 9],jw 10 .pick [.t 5,jB true,.t 10]])
 (.cond 10 (.seq (.region [jz 2 1,jz 3 0,jz 4 7])
 .ret)
 .skip))
 (.seq (.seq (.region [jF 2 1,jG 0 0,jl 1,jF 2 1,jG 1 3,jl 4,jw 11 (.bin .gtr .int) [.t 2,.t 5]])
 (.cond 11 (.seq (.region [jz 2 1,jz 3 0,jz 4 2])
 .ret)
 .skip))
 (.seq (.region [jF 1 1,jl 0,je 1,jq (.mkslice 1 8 [(.cv (.int .i64 0))]) [.t 2,.t 2],jm 5 3])
 (.seq (.seq (.region [jz 6 0])
 (.block 0 (.loop ic12l1)))
 (.seq (.seq (.region [jz 8 0])
 (.block 2 (.loop ic12l0)))
 (.seq (.region [jz 2 0,jz 3 0,jz 4 0])
 .ret))))))))
abbrev rs12:List RC:=[(.v 2),(.v 3),(.v 4)]
theorem fok12 (p:Bool):FnOk Tryz.prog 12 ⟨ic12,vs12,103,rs12,p⟩:=.mk2 Tryz.func12 (by kernel_rfl) (by kernel_rfl) (by kernel_rfl) (by kernel_rfl) (by kernel_rfl)
abbrev vs13:List Nat:=[0,2,3,7,11,19]
def ic13l0:IC:=(.seq (.seq (.region [jv 2,jv 0,je 1,jw 4 (.bin .lss .int) [.t 0,.t 2]])
 (.cond 4 .skip
 (.exit 0)))
 (.seq (.block 1 (.seq (.region [jv 0,jv 2,ja 1 0 1,jl 2,jk 47 [.t 3,jn 0,jn 1000000000],jw 5 .not [.t 4]])
 (.cond 5 (.seq (.region [jz 1 7])
 .ret)
 .skip)))
 (.region [jv 2,jq (.bin .add .int) [.t 0,jn 1],jm 2 1])))
def ic13:IC:=(.seq (.region [jz 1 0])
 (.seq (.seq (.region [jv 0,je 0,jk 47 [.t 1,jn 1,jn 8],jw 3 .not [.t 2]])
 (.cond 3 (.seq (.region [jz 1 3])
 .ret)
 .skip))
 (.seq (.seq (.region [jz 2 0])
 (.block 0 (.loop ic13l0)))
 (.seq (.region [jz 1 0])
 .ret))))
abbrev rs13:List RC:=[(.v 1)]
theorem fok13 (p:Bool):FnOk Tryz.prog 13 ⟨ic13,vs13,20,rs13,p⟩:=.mk2 Tryz.func13 (by kernel_rfl) (by kernel_rfl) (by kernel_rfl) (by kernel_rfl) (by kernel_rfl)
abbrev vs14:List Nat:=[0,1,2,3,4,5,6,7,8,9,10,11,12,13,14,16]
def ic14:IC:=(.seq (.region [jw 0 .mv [jB false]])
 (.seq (.region [jk 49 [],jk 48 [.t 0],jt 1,jx 0 2,jx 1 2,jm 1 3,jm 2 4])
 (.seq (.region [jk 49 [],jk 50 [.t 0],jt 1,jx 0 2,jx 1 2,jm 3 3,jm 4 4])
 (.seq (.region [jk 49 [],jk 51 [.t 0,jn 2],jt 1,jx 0 2,jx 1 2,jm 5 3,jm 6 4])
 (.seq (.region [jk 49 [],jq (.bslice 1 3 [(.cv (.int .i64 0)),(.cv (.int .i64 0)),(.cv (.int .i64 0))] [(0,1),(1,1),(2,1)]) [jn 0,jn 3,jn 4],jk 52 [.t 0,.t 1],jt 2,jx 0 3,jx 1 3,jm 7 4,jm 8 5])
 (.seq (.region [jk 49 [],jk 53 [jn 1],jq (.bslice 1 3 [(.cv (.int .i64 0)),(.cv (.int .i64 0)),(.cv (.int .i64 0))] [(0,1),(1,1),(2,1)]) [jn 0,jn 0,jn 0],jk 19 [.t 0,.t 1,.t 2],jt 3,jx 0 4,jx 1 4,jm 9 5,jm 10 6])
 (.seq (.region [jk 49 [],jk 53 [jn 0],jv 9,jk 21 [.t 0,.t 1,.t 2],jt 3,jx 0 4,jx 1 4,jm 11 5,jm 12 6])
 (.seq (.region [jk 49 [],jk 54 [.t 0,jn 2],jt 1,jx 0 2,jx 1 2,jw 13 (.alloc [(.cv (.int .i64 0)),(.cv (.int .i64 0))]) [],jq (.store 2) [.v 13,.t 3],jm 14 4])
 (.seq (.region [jk 49 [],jk 53 [jn 0],jq (.bslice 1 3 [(.cv (.int .i64 0)),(.cv (.int .i64 0)),(.cv (.int .i64 0))] [(0,1),(1,1),(2,1)]) [jn 0,jn 0,jn 0],jk 19 [.t 0,.t 1,.t 2],jt 3,jx 0 4,jx 1 4,jt 5,jm 15 6])
 (.seq (.region [jv 2,jq (.bin .eql .int) [.t 0,jn 0],jt 1,jh 2 true 4,jg 2 true (.bin .eql .int) [.t 3,jn 0],jq .pick [.t 2,.t 4,jB false],jt 5,jh 6 true 6,jg 6 true (.bin .eql .int) [.t 7,jn 0],jq .pick [.t 6,.t 8,jB false],jt 9,jh 10 true 8,jg 10 true (.bin .eql .int) [.t 11,jn 0],jq .pick [.t 10,.t 12,jB false],jt 13,jh 14 true 10,jg 14 true (.bin .eql .int) [.t 15,jn 0],jq .pick [.t 14,.t 16,jB false],jt 17,jh 18 true 14,jg 18 true (.bin .eql .int) [.t 19,jn 0],jq .pick [.t 18,.t 20,jB false],jt 21,jh 22 true 12,jg 22 true (.bin .eql .int) [.t 23,jn 5],jq .pick [.t 22,.t 24,jB false],jt 25,jh 26 true 11,jg 26 true (.bin .eql .int) [.t 27,jn 1],jq .pick [.t 26,.t 28,jB false],jt 29,jh 30 true 15,jg 30 true (.bin .eql .int) [.t 31,jn 9],jq .pick [.t 30,.t 32,jB false],jt 33,jh 34 true 1,jg 34 true (.bslice 1 5 [(.cv (.int .i64 0)),(.cv (.int .i64 0)),(.cv (.int .i64 0)),(.cv (.int .i64 0)),(.cv (.int .i64 0))] [(0,1),(1,1),(2,1),(3,1),(4,1)]) [jn 200,jn 500,jn 300,jn 600,jn 400],jf 34 true 18 [.t 35,.t 36],jq .pick [.t 34,.t 37,jB false],jt 38,jh 39 true 3,jg 39 true (.bin .eql .int) [.t 40,jn 3],jq .pick [.t 39,.t 41,jB false],jt 42,jh 43 true 5,jg 43 true (.bslice 1 3 [(.cv (.int .i64 0)),(.cv (.int .i64 0)),(.cv (.int .i64 0))] [(0,1),(1,1),(2,1)]) [jn 1,jn 2,jn 4],jf 43 true 18 [.t 44,.t 45],jq .pick [.t 43,.t 46,jB false],jt 47,jh 48 true 7,jg 48 true (.bin .eql .int) [.t 49,jn 1],jq .pick [.t 48,.t 50,jB false],jt 51,jh 52 true 9,jg 52 true (.bslice 1 3 [(.cv (.int .i64 0)),(.cv (.int .i64 0)),(.cv (.int .i64 0))] [(0,1),(1,1),(2,1)]) [jn 0,jn 2,jn 3],jg 52 true (.bslice 1 3 [(.cv (.int .i64 0)),(.cv (.int .i64 0)),(.cv (.int .i64 0))] [(0,1),(1,1),(2,1)]) [jn 1,jn 2,jn 4],jg 52 true (.bslice 1 3 [(.cv (.int .i64 0)),(.cv (.int .i64 0)),(.cv (.int .i64 0))] [(0,1),(1,1),(2,1)]) [jn 0,jn 2,jn 3],jg 52 true (.bslice 1 3 [(.cv .nils),(.cv .nils),(.cv .nils)] [(0,1),(1,1),(2,1)]) [.t 54,.t 55,.t 56],jf 52 true 20 [.t 53,.t 57],jq .pick [.t 52,.t 58,jB false],jt 59,jg 60 true (.loadN 2) [.v 13],jg 60 true (.build [(.cv (.int .i64 0)),(.cv (.int .i64 0))] [(0,1),(1,1)]) [jn 1200,jn 1200],jg 60 true (.eqS false (true,[(.int .i64),(.int .i64)])) [.t 61,.t 62],jq .pick [.t 60,.t 63,jB false],jm 0 64])
 .ret))))))))))
abbrev rs14:List RC:=[(.v 0)]
theorem fok14 (p:Bool):FnOk Tryz.prog 14 ⟨ic14,vs14,129,rs14,p⟩:=.mk2 Tryz.func14 (by kernel_rfl) (by kernel_rfl) (by kernel_rfl) (by kernel_rfl) (by kernel_rfl)
abbrev vs15:List Nat:=[0,1,2,4,5,6,7,8,9,16,30]
def ic15l0:IC:=(.seq (.seq (.region [jv 6,jF 0 2,jl 1,jF 1 2,jl 3,jq (.bin .mul .int) [.t 2,.t 4],jw 9 (.bin .lss .int) [.t 0,.t 5]])
 (.cond 9 .skip
 (.exit 0)))
 (.seq (.block 1 (.seq (.region [jq (.bslice 1 0 [] []) [],jv 1,jq (.append 1 8) [.t 0,.t 1],jv 6,jq (.bslice 1 1 [(.cv (.int .i64 0))] [(0,1)]) [.t 3],jq (.append 1 8) [.t 2,.t 4],jk 25 [.t 5],jt 6,jx 0 7,jx 1 7,jm 7 8,jm 8 9])
 (.seq (.seq (.region [jv 8,jw 10 (.bin .neq .int) [.t 0,jn 0]])
 (.cond 10 (.seq (.region [jv 8,jw 3 .mv [jS],jm 4 0])
 .ret)
 .skip))
 (.region [jv 5,jv 7,jq (.bslice 1 1 [(.cv (.int .i64 0))] [(0,1)]) [.t 1],jq (.append 1 8) [.t 0,.t 2],jm 5 3]))))
 (.region [jv 6,jq (.bin .add .int) [.t 0,jn 1],jm 6 1])))
def ic15:IC:=(.seq (.region [jb 2 0,jw 3 .mv [jS],jz 4 0])
 (.seq (.region [jw 5 .mv [jS]])
 (.seq (.seq (.region [jz 6 0])
 (.block 0 (.loop ic15l0)))
 (.seq (.region [jv 5,jm 3 0,jz 4 0])
 .ret))))
abbrev rs15:List RC:=[(.v 3),(.v 4)]
theorem fok15 (p:Bool):FnOk Tryz.prog 15 ⟨ic15,vs15,37,rs15,p⟩:=.mk2 Tryz.func15 (by kernel_rfl) (by kernel_rfl) (by kernel_rfl) (by kernel_rfl) (by kernel_rfl)
abbrev vs18:List Nat:=[0,1,4,5,10,14,25]
def ic18l0:IC:=(.seq (.seq (.region [jv 3,jv 0,je 1,jw 5 (.bin .lss .int) [.t 0,.t 2]])
 (.cond 5 .skip
 (.exit 0)))
 (.seq (.block 1 (.seq (.dr [[],[],[0,1],[2],[],[],[4,5],[6],[3,7]] [jv 0,jv 3,ja 1 0 1,jl 2,jv 1,jv 3,ja 1 4 5,jl 6,jw 6 (.bin .neq .int) [.t 3,.t 7]])
 (.cond 6 (.seq (.region [jw 2 .mv [jB false]])
 .ret)
 .skip)))
 (.region [jv 3,jq (.bin .add .int) [.t 0,jn 1],jm 3 1])))
def ic18:IC:=(.seq (.region [jw 2 .mv [jB false]])
 (.seq (.seq (.region [jv 0,je 0,jv 1,je 2,jw 4 (.bin .neq .int) [.t 1,.t 3]])
 (.cond 4 (.seq (.region [jw 2 .mv [jB false]])
 .ret)
 .skip))
 (.seq (.seq (.region [jz 3 0])
 (.block 0 (.loop ic18l0)))
 (.seq (.region [jw 2 .mv [jB true]])
 .ret))))
abbrev rs18:List RC:=[(.v 2)]
theorem fok18 (p:Bool):FnOk Tryz.prog 18 ⟨ic18,vs18,26,rs18,p⟩:=.mk2 Tryz.func18 (by kernel_rfl) (by kernel_rfl) (by kernel_rfl) (by kernel_rfl) (by kernel_rfl)
abbrev vs19:List Nat:=[0,1,2,3,4,6,7,8,9,10,11,12,13,22,26,34,35,36,37,38,42,43,44,57]
def ic19l0:IC:=(.seq (.region [jw 22 (.bin .lss .int) [.v 21,.v 20]])
 (.seq (.cond 22 .skip
 (.exit 3))
 (.seq (.block 4 (.seq (.region [jv 21,jm 11 0])
 (.seq (.region [jv 7,jv 10,jv 11,jq (.bin .add .int) [.t 1,.t 2],jv 8,jq (.bin .rem .int) [.t 3,.t 4],jk 60 [.t 0,.t 5],jm 12 6])
 (.seq (.region [jN 3 4,jv 5,jv 9,jv 12,jd 23 61 [.t 0,.t 1,.t 2,.t 3]])
 (.cond 23 (.seq (.region [jv 5,jv 12,jq (.bslice 1 1 [(.cv .nils)] [(0,1)]) [.t 1],jq (.append 1 24) [.t 0,.t 2],jm 5 3])
 (.exit 2))
 .skip)))))
 (.region [jq (.bin .add .int) [.v 21,jn 1],jm 21 0]))))
def ic19l1:IC:=(.seq (.region [jw 19 (.bin .lss .int) [.v 18,.v 17]])
 (.seq (.cond 19 .skip
 (.exit 1))
 (.seq (.block 2 (.seq (.region [jv 18,jq (.iaS 1) [.v 16,.v 18],jl 1,jm 9 0,jm 10 2])
 (.seq (.seq (.region [jw 20 .mv [.v 8],jz 21 0])
 (.block 3 (.loop ic19l0)))
 (.seq (.region [jw 5 .mv [jS],jz 6 9])
 .ret))))
 (.region [jq (.bin .add .int) [.v 18,jn 1],jm 18 0]))))
def ic19:IC:=(.seq (.region [jb 3 0,jb 4 1,jw 5 .mv [jS],jz 6 0])
 (.scope (.seq (.region [jN 4 3,jN 3 4,jv 2,je 2,jk 56 [.t 0,.t 1,.t 3],jt 4,jx 0 5,jx 1 5,jm 7 6,jm 6 7])
 (.seq (.block 0 (.seq (.region [jv 6,jq (.bin .neq .int) [.t 0,jn 0],jm 13 1])
 (.cond 13 (.seq (.region [jv 6,jw 5 .mv [jS],jm 6 0])
 .ret)
 (.seq (.region [jv 2,jk 57 [jn 0,jn 1000000000,.t 0],jm 14 1])
 (.cond 14 (.seq (.region [jw 5 .mv [jS],jz 6 7])
 .ret)
 .skip)))))
 (.seq (.region [jv 7,jv 7,jk 59 [.t 1],jk 58 [.t 0,.t 2],jm 8 3])
 (.seq (.seq (.region [jv 8,jw 15 (.bin .eql .int) [.t 0,jn 0]])
 (.cond 15 (.seq (.region [jw 5 .mv [jS],jz 6 4])
 .ret)
 .skip))
 (.seq (.label 0)
 (.seq (.seq (.region [jw 16 .mv [.v 2],jw 17 (.len false) [.v 16],jz 18 0])
 (.block 1 (.loop ic19l1)))
 (.seq (.region [jv 5,jm 5 0,jz 6 0])
 .ret)))))))))
abbrev rs19:List RC:=[(.v 5),(.v 6)]
theorem fok19 (p:Bool):FnOk Tryz.prog 19 ⟨ic19,vs19,65,rs19,p⟩:=.mk2 Tryz.func19 (by kernel_rfl) (by kernel_rfl) (by kernel_rfl) (by kernel_rfl) (by kernel_rfl)
abbrev vs20:List Nat:=[0,1,4,5,10,14,26]
def ic20l0:IC:=(.seq (.seq (.region [jv 3,jv 0,je 1,jw 5 (.bin .lss .int) [.t 0,.t 2]])
 (.cond 5 .skip
 (.exit 0)))
 (.seq (.block 1 (.seq (.dr [[],[],[0,1],[2],[],[],[4,5],[6],[3,7],[8]] [jv 0,jv 3,ja 1 0 1,jl 2,jv 1,jv 3,ja 1 4 5,jl 6,jk 18 [.t 3,.t 7],jw 6 .not [.t 8]])
 (.cond 6 (.seq (.region [jw 2 .mv [jB false]])
 .ret)
 .skip)))
 (.region [jv 3,jq (.bin .add .int) [.t 0,jn 1],jm 3 1])))
def ic20:IC:=(.seq (.region [jw 2 .mv [jB false]])
 (.seq (.seq (.region [jv 0,je 0,jv 1,je 2,jw 4 (.bin .neq .int) [.t 1,.t 3]])
 (.cond 4 (.seq (.region [jw 2 .mv [jB false]])
 .ret)
 .skip))
 (.seq (.seq (.region [jz 3 0])
 (.block 0 (.loop ic20l0)))
 (.seq (.region [jw 2 .mv [jB true]])
 .ret))))
abbrev rs20:List RC:=[(.v 2)]
theorem fok20 (p:Bool):FnOk Tryz.prog 20 ⟨ic20,vs20,27,rs20,p⟩:=.mk2 Tryz.func20 (by kernel_rfl) (by kernel_rfl) (by kernel_rfl) (by kernel_rfl) (by kernel_rfl)
abbrev vs21:List Nat:=[0,1,2,3,4,6,7,8,9,10,12,22,24,25,26,27,38,45]
def ic21l0:IC:=(.seq (.region [jw 15 (.bin .lss .int) [.v 14,.v 13]])
 (.seq (.cond 15 .skip
 (.exit 0))
 (.seq (.block 1 (.seq (.region [jv 14,jq (.iaS 1) [.v 12,.v 14],jl 1,jm 8 0,jm 9 2])
 (.seq (.seq (.region [jv 7,jv 9,jk 62 [.t 0,.t 1],jt 2,jx 0 3,jx 1 3,jt 4,jm 10 5])
 (.seq (.region [jv 10,jw 16 .not [.t 0]])
 (.cond 16 (.seq (.region [jv 8,jm 5 0,jz 6 6])
 .ret)
 .skip)))
 (.seq (.region [jN 3 4,jv 2,jv 8,jv 9,jk 61 [.t 0,.t 1,.t 2,.t 3],jw 17 .not [.t 4]])
 (.cond 17 (.seq (.region [jv 8,jm 5 0,jz 6 5])
 .ret)
 .skip)))))
 (.region [jq (.bin .add .int) [.v 14,jn 1],jm 14 0]))))
def ic21:IC:=(.seq (.region [jb 3 0,jb 4 1,jz 5 0,jz 6 0])
 (.seq (.region [jN 4 3,jN 3 4,jv 2,je 2,jk 56 [.t 0,.t 1,.t 3],jt 4,jx 0 5,jx 1 5,jm 7 6,jm 6 7])
 (.seq (.seq (.region [jv 6,jw 11 (.bin .neq .int) [.t 0,jn 0]])
 (.cond 11 (.seq (.region [jv 6,jz 5 0,jm 6 0])
 .ret)
 .skip))
 (.seq (.seq (.region [jw 12 .mv [.v 2],jw 13 (.len false) [.v 12],jz 14 0])
 (.block 0 (.loop ic21l0)))
 (.seq (.region [jz 5 0,jz 6 0])
 .ret)))))
abbrev rs21:List RC:=[(.v 5),(.v 6)]
theorem fok21 (p:Bool):FnOk Tryz.prog 21 ⟨ic21,vs21,48,rs21,p⟩:=.mk2 Tryz.func21 (by kernel_rfl) (by kernel_rfl) (by kernel_rfl) (by kernel_rfl) (by kernel_rfl)
abbrev vs46:List Nat:=[0,1,2,6]
def ic46:IC:=(.seq (.region [jw 3 .mv [jB false]])
 (.seq (.region [jv 0,jv 1,jq (.bin .geq .int) [.t 0,.t 1],jt 2,jh 3 true 0,jh 3 true 2,jg 3 true (.bin .leq .int) [.t 4,.t 5],jq .pick [.t 3,.t 6,jB false],jm 3 7])
 .ret))
abbrev rs46:List RC:=[(.v 3)]
theorem fok46 (p:Bool):FnOk Tryz.prog 46 ⟨ic46,vs46,15,rs46,p⟩:=.mk2 Tryz.func46 (by kernel_rfl) (by kernel_rfl) (by kernel_rfl) (by kernel_rfl) (by kernel_rfl)
abbrev vs47:List Nat:=[0,1,2,6]
def ic47:IC:=(.seq (.region [jw 3 .mv [jB false]])
 (.seq (.region [jv 0,jv 1,jq (.bin .geq .int) [.t 0,.t 1],jt 2,jh 3 true 0,jh 3 true 2,jg 3 true (.bin .leq .int) [.t 4,.t 5],jq .pick [.t 3,.t 6,jB false],jm 3 7])
 .ret))
abbrev rs47:List RC:=[(.v 3)]
theorem fok47 (p:Bool):FnOk Tryz.prog 47 ⟨ic47,vs47,15,rs47,p⟩:=.mk2 Tryz.func47 (by kernel_rfl) (by kernel_rfl) (by kernel_rfl) (by kernel_rfl) (by kernel_rfl)
abbrev vs48:List Nat:=[0,1,2,3,4,5,12]
def ic48:IC:=(.seq (.region [jb 1 0,jw 2 .mv [jS],jz 3 0])
 (.seq (.region [jN 4 1,jk 91 [.t 0],jt 1,jx 0 2,jx 1 2,jm 4 3,jm 5 4])
 (.seq (.seq (.region [jv 5,jw 6 (.bin .neq .int) [.t 0,jn 0]])
 (.cond 6 (.seq (.region [jv 5,jw 2 .mv [jS],jm 3 0])
 .ret)
 .skip))
 (.seq (.region [jv 4,jc 0,jG 4 1,jl 2,jm 2 3,jz 3 0])
 .ret))))
abbrev rs48:List RC:=[(.v 2),(.v 3)]
theorem fok48 (p:Bool):FnOk Tryz.prog 48 ⟨ic48,vs48,18,rs48,p⟩:=.mk2 Tryz.func48 (by kernel_rfl) (by kernel_rfl) (by kernel_rfl) (by kernel_rfl) (by kernel_rfl)
abbrev vs49:List Nat:=[0]
def ic49:IC:=(.seq (.region [jw 0 (.alloc [(.cv .nils),(.cv .nils),(.cv (.int .i64 0)),(.cv (.int .i64 0))]) []])
 (.seq (.region [jq (.build [(.cv (.int .i64 0)),(.cv (.int .i64 0)),(.cv (.int .i64 0))] [(1,1),(2,1)]) [jn 10,jn 2],jq (.build [(.cv (.int .i64 0)),(.cv (.int .i64 0)),(.cv (.int .i64 0))] []) [],jq (.build [(.cv (.int .i64 0)),(.cv (.int .i64 0)),(.cv (.int .i64 0))] [(0,1),(1,1),(2,1)]) [jn 1,jn 10,jn 3],jq (.build [(.cv (.int .i64 0)),(.cv (.int .i64 0)),(.cv (.int .i64 0))] [(0,1),(1,1),(2,1)]) [jn 1,jn 5,jn 3],jq (.build [(.cv (.int .i64 0)),(.cv (.int .i64 0)),(.cv (.int .i64 0))] [(0,1),(1,1),(2,1)]) [jn 1,jn 5,jn 2],jq (.bslice 3 5 [(.cv (.int .i64 0)),(.cv (.int .i64 0)),(.cv (.int .i64 0)),(.cv (.int .i64 0)),(.cv (.int .i64 0)),(.cv (.int .i64 0)),(.cv (.int .i64 0)),(.cv (.int .i64 0)),(.cv (.int .i64 0)),(.cv (.int .i64 0)),(.cv (.int .i64 0)),(.cv (.int .i64 0)),(.cv (.int .i64 0)),(.cv (.int .i64 0)),(.cv (.int .i64 0))] [(0,3),(3,3),(6,3),(9,3),(12,3)]) [.t 0,.t 1,.t 2,.t 3,.t 4],jq (.bslice 1 2 [(.cv (.int .i64 0)),(.cv (.int .i64 0))] [(0,1),(1,1)]) [jn 1,jn 2],jq (.build [(.cv (.int .i64 0)),(.cv (.int .i64 0))] [(0,1),(1,1)]) [jn 1000,jn 1300],jq (.build [(.cv .nils),(.cv .nils),(.cv (.int .i64 0)),(.cv (.int .i64 0))] [(0,1),(1,1),(2,2)]) [.t 5,.t 6,.t 7],jq (.store 4) [.v 0,.t 8]])
 .ret))
abbrev rs49:List RC:=[(.lN 0 4)]
theorem fok49 (p:Bool):FnOk Tryz.prog 49 ⟨ic49,vs49,10,rs49,p⟩:=.mk2 Tryz.func49 (by kernel_rfl) (by kernel_rfl) (by kernel_rfl) (by kernel_rfl) (by kernel_rfl)
abbrev vs50:List Nat:=[0,1,2,3,4,5,12]
def ic50:IC:=(.seq (.region [jb 1 0,jz 2 0,jz 3 0])
 (.seq (.region [jN 4 1,jk 91 [.t 0],jt 1,jx 0 2,jx 1 2,jm 4 3,jm 5 4])
 (.seq (.seq (.region [jv 5,jw 6 (.bin .neq .int) [.t 0,jn 0]])
 (.cond 6 (.seq (.region [jv 5,jz 2 0,jm 3 0])
 .ret)
 .skip))
 (.seq (.region [jv 4,jv 4,jk 59 [.t 1],jk 58 [.t 0,.t 2],jm 2 3,jz 3 0])
 .ret))))
abbrev rs50:List RC:=[(.v 2),(.v 3)]
theorem fok50 (p:Bool):FnOk Tryz.prog 50 ⟨ic50,vs50,18,rs50,p⟩:=.mk2 Tryz.func50 (by kernel_rfl) (by kernel_rfl) (by kernel_rfl) (by kernel_rfl) (by kernel_rfl)
abbrev vs51:List Nat:=[0,1,2,4,5,6,7,13,17]
def ic51:IC:=(.seq (.region [jb 2 0,jw 3 .mv [jS],jz 4 0])
 (.seq (.region [jN 4 2,jk 91 [.t 0],jt 1,jx 0 2,jx 1 2,jm 5 3,jm 6 4])
 (.seq (.block 0 (.seq (.region [jv 6,jq (.bin .neq .int) [.t 0,jn 0],jm 7 1])
 (.cond 7 (.seq (.region [jv 6,jw 3 .mv [jS],jm 4 0])
 .ret)
 (.seq (.region [jv 5,jv 5,jk 59 [.t 1],jk 58 [.t 0,.t 2],jq (.bin .sub .int) [.t 3,jn 1],jv 1,jq (.bslice 1 1 [(.cv (.int .i64 0))] [(0,1)]) [.t 5],jk 57 [jn 0,.t 4,.t 6],jm 8 7])
 (.cond 8 (.seq (.region [jw 3 .mv [jS],jz 4 4])
 .ret)
 .skip)))))
 (.seq (.region [jv 5,jv 1,jk 60 [.t 0,.t 1],jm 3 2,jz 4 0])
 .ret))))
abbrev rs51:List RC:=[(.v 3),(.v 4)]
theorem fok51 (p:Bool):FnOk Tryz.prog 51 ⟨ic51,vs51,29,rs51,p⟩:=.mk2 Tryz.func51 (by kernel_rfl) (by kernel_rfl) (by kernel_rfl) (by kernel_rfl) (by kernel_rfl)
abbrev vs52:List Nat:=[0,1,2,4,5,6,7,8,9,16,25]
def ic52:IC:=(.seq (.region [jb 2 0,jz 3 0,jz 4 0])
 (.seq (.region [jN 4 2,jk 91 [.t 0],jt 1,jx 0 2,jx 1 2,jm 5 3,jm 6 4])
 (.seq (.seq (.region [jv 6,jw 9 (.bin .neq .int) [.t 0,jn 0]])
 (.cond 9 (.seq (.region [jv 6,jz 3 0,jm 4 0])
 .ret)
 .skip))
 (.seq (.region [jv 5,jv 1,jk 62 [.t 0,.t 1],jt 2,jx 0 3,jx 1 3,jm 7 4,jm 8 5])
 (.seq (.seq (.region [jv 8,jw 10 .not [.t 0]])
 (.cond 10 (.seq (.region [jz 3 0,jz 4 6])
 .ret)
 .skip))
 (.seq (.region [jv 7,jm 3 0,jz 4 0])
 .ret))))))
abbrev rs52:List RC:=[(.v 3),(.v 4)]
theorem fok52 (p:Bool):FnOk Tryz.prog 52 ⟨ic52,vs52,27,rs52,p⟩:=.mk2 Tryz.func52 (by kernel_rfl) (by kernel_rfl) (by kernel_rfl) (by kernel_rfl) (by kernel_rfl)
abbrev vs53:List Nat:=[0,2]
def ic53:IC:=(.seq (.region [jw 1 (.alloc [(.cv (.int .i64 0)),(.cv (.int .i64 0)),(.cv (.int .i64 0))]) []])
 (.seq (.region [jv 0,jq (.build [(.cv (.int .i64 0)),(.cv (.int .i64 0)),(.cv (.int .i64 0))] [(0,1),(1,1),(2,1)]) [jn 1,jn 3,.t 0],jq (.store 3) [.v 1,.t 1]])
 .ret))
abbrev rs53:List RC:=[(.lN 1 3)]
theorem fok53 (p:Bool):FnOk Tryz.prog 53 ⟨ic53,vs53,5,rs53,p⟩:=.mk2 Tryz.func53 (by kernel_rfl) (by kernel_rfl) (by kernel_rfl) (by kernel_rfl) (by kernel_rfl)
abbrev vs54:List Nat:=[0,1,2,4,5,6,7,8,9,10,11,17,22,34,44,45,46,47,74]
def ic54l0:IC:=(.seq (.region [jw 17 (.bin .lss .int) [.v 16,.v 15]])
 (.seq (.cond 17 .skip
 (.exit 1))
 (.seq (.block 2 (.seq (.region [jv 16,jq (.iaS 1) [.v 14,.v 16],jl 1,jm 8 0,jm 9 2])
 (.seq (.region [jv 9,jL 6,jv 8,jv 1,jq (.bin .add .int) [.t 2,.t 3],jq (.bin .sub .int) [.t 4,jn 1],ja 1 1 5,jl 6,jq (.build [(.cv (.int .i64 0)),(.cv (.int .i64 0))] [(0,1),(1,1)]) [.t 0,.t 7],jw 10 (.alloc [(.cv (.int .i64 0)),(.cv (.int .i64 0))]) [],jq (.store 2) [.v 10,.t 8]])
 (.seq (.region [jv 8,jq (.bin .eql .int) [.t 0,jn 0],jt 1,jg 2 false (.fadd 1) [.v 10],ji 2 false 3,jg 2 false (.fadd 0) [.v 10],ji 2 false 5,jg 2 false (.bin .sub .int) [.t 4,.t 6],jg 2 false (.fadd 1) [.v 3],ji 2 false 8,jg 2 false (.fadd 0) [.v 3],ji 2 false 10,jg 2 false (.bin .sub .int) [.t 9,.t 11],jg 2 false (.bin .lss .int) [.t 7,.t 12],jw 18 .pick [.t 2,jB true,.t 13]])
 (.cond 18 (.region [jN 2 10,jq (.store 2) [.v 3,.t 0]])
 .skip)))))
 (.region [jq (.bin .add .int) [.v 16,jn 1],jm 16 0]))))
def ic54:IC:=(.seq (.region [jb 2 0,jw 3 (.alloc [(.cv (.int .i64 0)),(.cv (.int .i64 0))]) [],jz 4 0])
 (.seq (.region [jN 4 2,jk 91 [.t 0],jt 1,jx 0 2,jx 1 2,jw 5 (.alloc [(.cv .nilp)]) [],jq (.store 1) [.v 5,.t 3],jm 4 4])
 (.seq (.block 0 (.seq (.region [jv 4,jq (.bin .neq .int) [.t 0,jn 0],jm 11 1])
 (.cond 11 (.seq (.region [jN 2 3,jv 4,jq (.store 2) [.v 3,.t 0],jm 4 1])
 .ret)
 (.seq (.region [jv 1,jq (.bin .lss .int) [.t 0,jn 1],jm 12 1])
 (.cond 12 (.seq (.region [jN 2 3,jq (.store 2) [.v 3,.t 0],jz 4 7])
 .ret)
 .skip)))))
 (.seq (.region [jw 6 (.alloc [(.cv .nils)]) []])
 (.seq (.region [jw 7 (.alloc [(.cv .nilf)]) []])
 (.seq (.region [jq (.mkfn (.func 92)) [.v 5,.v 6,.v 7],jq (.store 1) [.v 7,.t 0]])
 (.seq (.dr [[],[],[1],[0,2,2]] [jL 7,jL 5,jk 59 [.t 1],⟨none,none,.call,[(.t 0),(.t 2)]⟩])
 (.seq (.seq (.region [jL 6,je 0,jv 1,jw 13 (.bin .lss .int) [.t 1,.t 2]])
 (.cond 13 (.seq (.region [jN 2 3,jq (.store 2) [.v 3,.t 0],jz 4 9])
 .ret)
 .skip))
 (.seq (.region [jL 6,jk 94 [.t 0]])
 (.seq (.seq (.region [jL 6,jL 6,je 1,jv 1,jq (.bin .sub .int) [.t 2,.t 3],jq (.bin .add .int) [.t 4,jn 1],jw 14 (.slS 1 false true) [.t 0,.t 5],jw 15 (.len false) [.v 14],jz 16 0])
 (.block 1 (.loop ic54l0)))
 (.seq (.region [jN 2 3,jq (.store 2) [.v 3,.t 0],jz 4 0])
 .ret)))))))))))
abbrev rs54:List RC:=[(.lN 3 2),(.v 4)]
theorem fok54 (p:Bool):FnOk Tryz.prog 54 ⟨ic54,vs54,78,rs54,p⟩:=.mk2 Tryz.func54 (by kernel_rfl) (by kernel_rfl) (by kernel_rfl) (by kernel_rfl) (by kernel_rfl)
abbrev vs56:List Nat:=[0,1,2,3,4,6,7,8,9,15,19,36]
def ic56:IC:=(.seq (.region [jb 3 0,jb 4 1,jw 5 .mv [.c (.cv .nilp)],jz 6 0])
 (.seq (.region [jN 4 3,jk 91 [.t 0],jt 1,jx 0 2,jx 1 2,jm 7 3,jm 8 4])
 (.seq (.block 0 (.seq (.region [jv 8,jq (.bin .neq .int) [.t 0,jn 0],jm 9 1])
 (.cond 9 (.seq (.region [jv 8,jw 5 .mv [.c (.cv .nilp)],jm 6 0])
 .ret)
 (.seq (.region [jF 0 4,jl 0,jq (.bslice 1 1 [(.cv (.int .i64 0))] [(0,1)]) [.t 1],jk 57 [jn 1,jn 5,.t 2],jt 3,jg 4 false (.fadd 1) [.v 4],ji 4 false 5,jg 4 false (.bslice 1 1 [(.cv (.int .i64 0))] [(0,1)]) [.t 6],jf 4 false 57 [jn 1,jn 6,.t 7],jq .pick [.t 4,jB true,.t 8],jt 9,jg 10 false (.fadd 2) [.v 4],ji 10 false 11,jg 10 false (.bslice 1 1 [(.cv (.int .i64 0))] [(0,1)]) [.t 12],jf 10 false 57 [jn 0,jn 16,.t 13],jq .pick [.t 10,jB true,.t 14],jm 10 15])
 (.cond 10 (.seq (.region [jw 5 .mv [.c (.cv .nilp)],jz 6 7])
 .ret)
 (.seq (.region [jv 2,jF 0 4,jl 1,jF 1 4,jl 3,jq (.bin .mul .int) [.t 2,.t 4],jq (.bin .neq .int) [.t 0,.t 5],jm 11 6])
 (.cond 11 (.seq (.region [jw 5 .mv [.c (.cv .nilp)],jz 6 3])
 .ret)
 .skip)))))))
 (.seq (.region [jv 7,jm 5 0,jz 6 0])
 .ret))))
abbrev rs56:List RC:=[(.v 5),(.v 6)]
theorem fok56 (p:Bool):FnOk Tryz.prog 56 ⟨ic56,vs56,45,rs56,p⟩:=.mk2 Tryz.func56 (by kernel_rfl) (by kernel_rfl) (by kernel_rfl) (by kernel_rfl) (by kernel_rfl)
abbrev vs57:List Nat:=[0,1,2,3,4,6]
def ic57:IC:=(.seq (.region [jb 3 0,jb 4 1,jw 5 .mv [jB false]])
 (.seq (.region [jv 2,jq (.mkfn (.func 95)) [.v 3,.v 4],jk 83 [.t 0,.t 1],jm 5 2])
 .ret))
abbrev rs57:List RC:=[(.v 5)]
theorem fok57 (p:Bool):FnOk Tryz.prog 57 ⟨ic57,vs57,10,rs57,p⟩:=.mk2 Tryz.func57 (by kernel_rfl) (by kernel_rfl) (by kernel_rfl) (by kernel_rfl) (by kernel_rfl)
abbrev vs58:List Nat:=[0,1,3,4,5,6,7,8,12,28,38,49,59]
def ic58l0:IC:=(.seq (.seq (.region [jv 5,jv 0,jc 1,jG 0 2,jG 0 3,jl 4,je 5,jw 11 (.bin .lss .int) [.t 0,.t 6]])
 (.cond 11 .skip
 (.exit 0)))
 (.seq (.block 1 (.seq (.region [jv 0,jN 6 2,jv 5,jk 93 [.t 0,.t 1,.t 2],jt 3,jx 0 4,jx 1 4,jw 6 (.alloc [(.cv (.int .i64 0)),(.cv (.int .i64 0)),(.cv (.int .i64 0)),(.cv (.int .i64 0)),(.cv (.int .i64 0)),(.cv (.int .i64 0))]) [],jq (.store 6) [.v 6,.t 5],jm 7 6])
 (.seq (.region [jw 12 .mv [.v 7]])
 (.cond 12 (.region [jv 3,jv 0,jN 6 6,jk 58 [.t 1,.t 2],jq (.bin .add .int) [.t 0,.t 3],jm 3 4])
 .skip))))
 (.region [jv 5,jq (.bin .add .int) [.t 0,jn 1],jm 5 1])))
def ic58:IC:=(.seq (.region [jb 2 1,jz 3 0])
 (.seq (.seq (.region [jF 2 2,jq (.loadN 4) [.t 0],jq (.build [(.cv (.int .i64 0)),(.cv (.int .i64 0)),(.cv (.int .i64 0)),(.cv (.int .i64 0))] []) [],jw 8 (.eqS false (true,[(.int .i64),(.int .i64),(.int .i64),(.int .i64)])) [.t 1,.t 2]])
 (.cond 8 (.seq (.seq (.dr [[],[0],[1],[2],[3],[4],[],[6],[7],[8],[9],[10],[],[12],[13],[5,11,14]] [jv 0,jc 0,jG 0 1,jG 2 2,jG 0 3,jl 4,jv 0,jc 6,jG 0 7,jG 2 8,jG 1 9,jl 10,jF 1 2,jl 12,jq (.bslice 1 1 [(.cv (.int .i64 0))] [(0,1)]) [.t 13],jd 9 57 [.t 5,.t 11,.t 14]])
 (.cond 9 (.seq (.region [jz 3 0])
 .ret)
 .skip))
 (.seq (.region [jz 3 1])
 .ret))
 .skip))
 (.seq (.dr [[],[0],[1],[2],[],[3,4],[5],[6],[6],[7,0,1,2,3,4,5,6,7],[8,9,0,1,2,3,4,5,6,7,8,9]] [jv 0,jc 0,jG 5 1,jl 2,jN 6 2,jq (.lookup (true,[(.int .i64),(.int .i64),(.int .i64),(.int .i64),(.int .i64),(.int .i64)]) (.cv (.int .i64 0)) true) [.t 3,.t 4],jt 5,jx 0 6,jx 1 6,jm 3 7,jm 4 8])
 (.seq (.seq (.region [jw 10 .mv [.v 4]])
 (.cond 10 (.seq (.region [jv 3,jm 3 0])
 .ret)
 .skip))
 (.seq (.region [jz 3 0])
 (.seq (.seq (.region [jF 0 2,jl 0,jm 5 1])
 (.block 0 (.loop ic58l0)))
 (.seq (.dr [[],[0],[1],[2],[],[],[3,4,5,0,1,2,3,4,5]] [jv 0,jc 0,jG 5 1,jl 2,jN 6 2,jv 3,jq (.mapset (true,[(.int .i64),(.int .i64),(.int .i64),(.int .i64),(.int .i64),(.int .i64)])) [.t 3,.t 4,.t 5]])
 (.seq (.region [jv 3,jm 3 0])
 .ret))))))))
abbrev rs58:List RC:=[(.v 3)]
theorem fok58 (p:Bool):FnOk Tryz.prog 58 ⟨ic58,vs58,72,rs58,p⟩:=.mk2 Tryz.func58 (by kernel_rfl) (by kernel_rfl) (by kernel_rfl) (by kernel_rfl) (by kernel_rfl)
abbrev vs59:List Nat:=[0,2]
def ic59:IC:=(.seq (.region [jw 1 (.alloc [(.cv (.int .i64 0)),(.cv (.int .i64 0)),(.cv (.int .i64 0)),(.cv (.int .i64 0)),(.cv (.int .i64 0)),(.cv (.int .i64 0))]) []])
 (.seq (.dr [[],[0],[],[2],[3],[4],[5],[1,6]] [jF 2 1,jq (.slA 4 1 false false) [.t 0],jv 0,jc 2,jG 0 3,jG 1 4,jl 5,jq (.copy 1) [.t 1,.t 6]])
 (.seq (.region [jN 6 1,jq (.store 6) [.v 1,.t 0]])
 .ret)))
abbrev rs59:List RC:=[(.lN 1 6)]
theorem fok59 (p:Bool):FnOk Tryz.prog 59 ⟨ic59,vs59,12,rs59,p⟩:=.mk2 Tryz.func59 (by kernel_rfl) (by kernel_rfl) (by kernel_rfl) (by kernel_rfl) (by kernel_rfl)
abbrev vs60:List Nat:=[0,1,4,5,6,7,8,9,15,25,36,42,51]
def ic60l0:IC:=(.seq (.seq (.region [jv 4,jv 0,jc 1,jG 0 2,jG 0 3,jl 4,je 5,jw 9 (.bin .lss .int) [.t 0,.t 6]])
 (.cond 9 .skip
 (.exit 2)))
 (.seq (.block 3 (.seq (.region [jv 0,jN 6 3,jv 4,jk 93 [.t 0,.t 1,.t 2],jt 3,jx 0 4,jx 1 4,jw 5 (.alloc [(.cv (.int .i64 0)),(.cv (.int .i64 0)),(.cv (.int .i64 0)),(.cv (.int .i64 0)),(.cv (.int .i64 0)),(.cv (.int .i64 0))]) [],jq (.store 6) [.v 5,.t 5],jm 6 6])
 (.seq (.seq (.region [jv 6,jw 10 .not [.t 0]])
 (.cond 10 (.exit 3)
 .skip))
 (.seq (.region [jv 0,jN 6 5,jk 58 [.t 0,.t 1],jm 7 2])
 (.seq (.seq (.region [jv 1,jv 7,jw 11 (.bin .lss .int) [.t 0,.t 1]])
 (.cond 11 (.seq (.dr [[],[],[1],[0,2],[],[3,3,0,1,2,3],[4,5,0,1,2,3,4,5]] [jv 2,jv 4,jq (.bslice 1 1 [(.cv (.int .i64 0))] [(0,1)]) [.t 1],jq (.append 1 8) [.t 0,.t 2],jN 6 5,jm 2 3,jq (.store 6) [.v 3,.t 4]])
 (.exit 2))
 .skip))
 (.region [jv 1,jv 7,jq (.bin .sub .int) [.t 0,.t 1],jm 1 2]))))))
 (.region [jv 4,jq (.bin .add .int) [.t 0,jn 1],jm 4 1])))
def ic60l1:IC:=(.seq (.seq (.region [jF 2 3,jq (.loadN 4) [.t 0],jq (.build [(.cv (.int .i64 0)),(.cv (.int .i64 0)),(.cv (.int .i64 0)),(.cv (.int .i64 0))] []) [],jw 8 (.eqS true (true,[(.int .i64),(.int .i64),(.int .i64),(.int .i64)])) [.t 1,.t 2]])
 (.cond 8 .skip
 (.exit 0)))
 (.seq (.block 1 (.seq (.region [jF 0 3,jl 0,jm 4 1])
 (.block 2 (.loop ic60l0))))
 (.seq (.region [jw 12 (.loadN 6) [.v 3]])
 (.region [jw 3 (.alloc [(.cv (.int .i64 0)),(.cv (.int .i64 0)),(.cv (.int .i64 0)),(.cv (.int .i64 0)),(.cv (.int .i64 0)),(.cv (.int .i64 0))]) [],jq (.store 6) [.v 3,.v 12]]))))
def ic60:IC:=(.seq (.region [jw 2 .mv [jS]])
 (.seq (.seq (.region [jv 0,jk 59 [.t 0],jw 3 (.alloc [(.cv (.int .i64 0)),(.cv (.int .i64 0)),(.cv (.int .i64 0)),(.cv (.int .i64 0)),(.cv (.int .i64 0)),(.cv (.int .i64 0))]) [],jq (.store 6) [.v 3,.t 1]])
 (.block 0 (.loop ic60l1)))
 (.seq (.region [jv 2,jm 2 0])
 .ret)))
abbrev rs60:List RC:=[(.v 2)]
theorem fok60 (p:Bool):FnOk Tryz.prog 60 ⟨ic60,vs60,53,rs60,p⟩:=.mk2 Tryz.func60 (by kernel_rfl) (by kernel_rfl) (by kernel_rfl) (by kernel_rfl) (by kernel_rfl)
theorem hb61:Tryz.f61.body=some (Tryz.f61.body.getD .skip):=by kernel_rfl
abbrev vs61:List Nat:=[0,1,2,3,4,5,7,8,9,12,13,22]
def ic61 (b61:Code):IC:=(.seq (.region [jb 4 0,jb 5 1,jb 6 3,jw 7 (.alloc [(.cv (.bool false))]) []])
 (.seq (.seq (.region [jN 3 4,jv 2,jd 9 96 [.t 0,.t 1]])
 (.block 0 (.rangef (.v 9) #[13] (nav [1,0,1,0,2] b61) (nav [1,0,1,0,3] b61) (.region [jw 8 .mv [.v 10]])
 (.block 1 (.seq (.dr [[],[],[0,1],[2],[],[3,4],[],[6],[5,7]] [jL 5,jv 8,ja 1 0 1,jl 2,jL 6,jk 97 [.t 3,.t 4],jF 2 4,jl 6,jw 11 (.bin .gtr .int) [.t 5,.t 7]])
 (.cond 11 (.seq (.region [jq (.store 1) [.v 7,jB false]])
 .ret)
 .skip))))))
 (.seq (.region [jq (.store 1) [.v 7,jB true]])
 .ret)))
theorem cc61:QL Tryz.prog vs61 Tryz.f61.ntmps (Tryz.f61.body.getD .skip)=some (ic61 (Tryz.f61.body.getD .skip)):=by kernel_rfl
abbrev rs61:List RC:=[(.l1 7)]
theorem fok61 (p:Bool):FnOk Tryz.prog 61 ⟨ic61 (Tryz.f61.body.getD .skip),vs61,23,rs61,p⟩:=FnOk.mk' Tryz.func61 hb61 (by kernel_rfl) cc61 (by kernel_rfl) (by kernel_rfl)
abbrev vs62:List Nat:=[0,1,4,5,6,8,9,10,11,12,13,16,17,18,19,33,38,48,62]
def ic62l0:IC:=(.seq (.seq (.region [jv 6,jv 5,jw 16 (.bin .lss .int) [.t 0,.t 1]])
 (.cond 16 .skip
 (.exit 2)))
 (.seq (.block 3 (.seq (.region [jv 0,jN 6 4,jv 6,jk 93 [.t 0,.t 1,.t 2],jt 3,jx 0 4,jx 1 4,jw 7 (.alloc [(.cv (.int .i64 0)),(.cv (.int .i64 0)),(.cv (.int .i64 0)),(.cv (.int .i64 0)),(.cv (.int .i64 0)),(.cv (.int .i64 0))]) [],jq (.store 6) [.v 7,.t 5],jm 8 6])
 (.seq (.region [jw 17 .mv [.v 8]])
 (.cond 17 (.region [jv 2,jv 0,jN 6 7,jk 58 [.t 1,.t 2],jq (.bin .add .int) [.t 0,.t 3],jm 2 4])
 .skip))))
 (.region [jv 6,jq (.bin .add .int) [.t 0,jn 1],jm 6 1])))
def ic62l1:IC:=(.seq (.region [jw 14 (.bin .lss .int) [.v 13,.v 12]])
 (.seq (.cond 14 .skip
 (.exit 0))
 (.seq (.block 1 (.seq (.region [jq (.iaS 1) [.v 11,.v 13],jl 0,jm 5 1])
 (.seq (.seq (.dr [[],[0],[],[2],[3],[4],[5],[6],[7],[],[9],[1,8,10]] [jF 0 4,jl 0,jv 0,jc 2,jG 0 3,jG 0 4,jl 5,je 6,jq (.bin .sub .int) [.t 7,jn 1],jv 5,jq (.bslice 1 1 [(.cv (.int .i64 0))] [(0,1)]) [.t 9],jd 15 57 [.t 1,.t 8,.t 10]])
 (.cond 15 (.seq (.region [jz 2 0,jw 3 .mv [jB false]])
 .ret)
 .skip))
 (.seq (.seq (.region [jF 0 4,jl 0,jm 6 1])
 (.block 2 (.loop ic62l0)))
 (.seq (.region [jv 0,jN 6 4,jv 5,jk 93 [.t 0,.t 1,.t 2],jt 3,jx 0 4,jx 1 4,jw 9 (.alloc [(.cv (.int .i64 0)),(.cv (.int .i64 0)),(.cv (.int .i64 0)),(.cv (.int .i64 0)),(.cv (.int .i64 0)),(.cv (.int .i64 0))]) [],jq (.store 6) [.v 9,.t 5],jm 10 6])
 (.seq (.seq (.region [jv 10,jw 18 .not [.t 0]])
 (.cond 18 (.seq (.region [jz 2 0,jw 3 .mv [jB false]])
 .ret)
 .skip))
 (.region [jN 6 9,jq (.store 6) [.v 4,.t 0]])))))))
 (.region [jq (.bin .add .int) [.v 13,jn 1],jm 13 0]))))
def ic62:IC:=(.seq (.region [jz 2 0,jw 3 .mv [jB false]])
 (.seq (.region [jv 0,jk 59 [.t 0],jw 4 (.alloc [(.cv (.int .i64 0)),(.cv (.int .i64 0)),(.cv (.int .i64 0)),(.cv (.int .i64 0)),(.cv (.int .i64 0)),(.cv (.int .i64 0))]) [],jq (.store 6) [.v 4,.t 1]])
 (.seq (.seq (.region [jw 11 .mv [.v 1],jw 12 (.len false) [.v 11],jz 13 0])
 (.block 0 (.loop ic62l1)))
 (.seq (.region [jv 2,jF 2 4,jq (.loadN 4) [.t 1],jq (.build [(.cv (.int .i64 0)),(.cv (.int .i64 0)),(.cv (.int .i64 0)),(.cv (.int .i64 0))] []) [],jq (.eqS false (true,[(.int .i64),(.int .i64),(.int .i64),(.int .i64)])) [.t 2,.t 3],jt 4,jh 5 true 0,jg 5 true (.loadN 6) [.v 4],jf 5 true 58 [.t 6,.t 7],jg 5 true (.bin .eql .int) [.t 8,jn 1],jq .pick [.t 5,.t 9,jB false],jm 2 0,jm 3 10])
 .ret))))
abbrev rs62:List RC:=[(.v 2),(.v 3)]
theorem fok62 (p:Bool):FnOk Tryz.prog 62 ⟨ic62,vs62,76,rs62,p⟩:=.mk2 Tryz.func62 (by kernel_rfl) (by kernel_rfl) (by kernel_rfl) (by kernel_rfl) (by kernel_rfl)
abbrev vs91:List Nat:=[0,1,2,3,6,7,9,10,18,25,26,27,28,33]
def ic91l0:IC:=(.seq (.region [jw 12 (.bin .lss .int) [.v 11,.v 10]])
 (.seq (.cond 12 .skip
 (.exit 0))
 (.seq (.block 1 (.seq (.region [jq (.iaS 3) [.v 9,.v 11],jq (.loadN 3) [.t 0],jw 6 (.alloc [(.cv (.int .i64 0)),(.cv (.int .i64 0)),(.cv (.int .i64 0))]) [],jq (.store 3) [.v 6,.t 1]])
 (.seq (.region [jz 7 500])
 (.seq (.seq (.region [jF 1 6,jl 0,jw 13 (.bin .gtr .int) [.t 1,jn 0]])
 (.cond 13 (.region [jF 2 6,jl 0,jq (.bin .mul .int) [.t 1,jn 1000],jF 1 6,jl 3,jq (.bin .quo .int) [.t 2,.t 4],jm 7 5])
 .skip))
 (.region [jv 5,jv 5,jc 1,jG 4 2,jl 3,jv 7,jq (.bslice 1 1 [(.cv (.int .i64 0))] [(0,1)]) [.t 5],jq (.append 1 8) [.t 4,.t 6],jc 0,jG 4 8,jq (.store 1) [.t 9,.t 7]])))))
 (.region [jq (.bin .add .int) [.v 11,jn 1],jm 11 0]))))
def ic91:IC:=(.seq (.region [jb 1 0,jw 2 .mv [.c (.cv .nilp)],jz 3 0])
 (.seq (.seq (.region [jN 4 1,jk 115 [.t 0],jt 1,jx 0 2,jx 1 2,jx 2 2,jt 3,jt 4,jm 4 5])
 (.seq (.region [jv 4,jw 8 (.bin .neq .int) [.t 0,jn 0]])
 (.cond 8 (.seq (.region [jv 4,jw 2 .mv [.c (.cv .nilp)],jm 3 0])
 .ret)
 .skip)))
 (.seq (.region [jN 4 1,jq .mkmap [],jq (.build [(.cv .nils),(.cv .nils),(.cv (.int .i64 0)),(.cv (.int .i64 0)),(.cv .nils),(.cv .nilm)] [(0,4),(5,1)]) [.t 0,.t 1],jq .box [.t 2],jm 5 3])
 (.seq (.seq (.region [jF 0 1,jw 9 .load1 [.t 0],jw 10 (.len false) [.v 9],jz 11 0])
 (.block 0 (.loop ic91l0)))
 (.seq (.region [jv 5,jm 2 0,jz 3 0])
 .ret)))))
abbrev rs91:List RC:=[(.v 2),(.v 3)]
theorem fok91 (p:Bool):FnOk Tryz.prog 91 ⟨ic91,vs91,52,rs91,p⟩:=.mk2 Tryz.func91 (by kernel_rfl) (by kernel_rfl) (by kernel_rfl) (by kernel_rfl) (by kernel_rfl)
abbrev vs92:List Nat:=[0,1,2,3,4,5,6,7,11,15,30,40]
def ic92l0:IC:=(.seq (.seq (.region [jv 5,jL 1,jc 1,jG 0 2,jG 0 3,jl 4,je 5,jw 10 (.bin .lss .int) [.t 0,.t 6]])
 (.cond 10 .skip
 (.exit 0)))
 (.seq (.block 1 (.seq (.region [jL 1,jN 6 4,jv 5,jk 93 [.t 0,.t 1,.t 2],jt 3,jx 0 4,jx 1 4,jw 6 (.alloc [(.cv (.int .i64 0)),(.cv (.int .i64 0)),(.cv (.int .i64 0)),(.cv (.int .i64 0)),(.cv (.int .i64 0)),(.cv (.int .i64 0))]) [],jq (.store 6) [.v 6,.t 5],jm 7 6])
 (.seq (.region [jw 11 .mv [.v 7]])
 (.cond 11 (.region [jL 3,jN 6 6,⟨none,none,.call,[(.t 0),(.t 1)]⟩])
 .skip))))
 (.region [jv 5,jq (.bin .add .int) [.t 0,jn 1],jm 5 1])))
def ic92:IC:=(.seq (.region [jb 4 0])
 (.seq (.seq (.region [jL 1,jN 6 4,jk 58 [.t 0,.t 1],jw 8 (.bin .eql .int) [.t 2,jn 0]])
 (.cond 8 .ret
 .skip))
 (.seq (.seq (.region [jF 2 4,jq (.loadN 4) [.t 0],jq (.build [(.cv (.int .i64 0)),(.cv (.int .i64 0)),(.cv (.int .i64 0)),(.cv (.int .i64 0))] []) [],jw 9 (.eqS false (true,[(.int .i64),(.int .i64),(.int .i64),(.int .i64)])) [.t 1,.t 2]])
 (.cond 9 (.seq (.region [jL 2,jF 1 4,jl 1,jq (.bslice 1 1 [(.cv (.int .i64 0))] [(0,1)]) [.t 2],jq (.append 1 8) [.t 0,.t 3],jq (.store 1) [.v 2,.t 4]])
 .ret)
 .skip))
 (.seq (.region [jF 0 4,jl 0,jm 5 1])
 (.block 0 (.loop ic92l0))))))
abbrev rs92:List RC:=[]
theorem fok92 (p:Bool):FnOk Tryz.prog 92 ⟨ic92,vs92,44,rs92,p⟩:=.mk2 Tryz.func92 (by kernel_rfl) (by kernel_rfl) (by kernel_rfl) (by kernel_rfl) (by kernel_rfl)
abbrev vs93:List Nat:=[0,1,2,4,6,7,8]
def ic93:IC:=(.seq (.region [jb 3 1,jw 4 (.alloc [(.cv (.int .i64 0)),(.cv (.int .i64 0)),(.cv (.int .i64 0)),(.cv (.int .i64 0)),(.cv (.int .i64 0)),(.cv (.int .i64 0))]) [],jw 5 .mv [jB false]])
 (.seq (.region [jv 0,jc 0,jG 0 1,jG 0 2,jl 3,jv 2,ja 3 4 5,jG 0 6,jl 7,jm 6 8])
 (.seq (.region [jv 6,jF 2 3,jq (.iaA 4 1) [.t 1,.t 0],jl 2,jq (.bin .sub .int) [.t 3,jn 1],jF 2 3,jq (.iaA 4 1) [.t 5,.t 0],jq (.store 1) [.t 6,.t 4]])
 (.seq (.dr [[],[0],[],[2],[],[4],[5],[6],[],[7,8],[9],[3,10],[0,1,2,3],[12,1,0,1,2,3],[0,1,2,3,4,5,6,7,8,9,10,11,12,13],[14,11,13,0,1,2,3,4,5,6,7,8,9,10,11,12,13]] [jv 2,jq (.bin .add .int) [.t 0,jn 1],jF 1 3,jl 2,jv 0,jc 4,jG 4 5,jl 6,jv 2,ja 1 7 8,jl 9,jq (.bin .add .int) [.t 3,.t 10],jF 0 3,jq (.store 1) [.t 12,.t 1],jF 1 3,jq (.store 1) [.t 14,.t 11]])
 (.seq (.dr [[],[],[],[2,1],[3],[4],[0,0],[5,6,0,1,2,3,4,5,6]] [jN 6 3,jv 6,jF 2 3,jq (.iaA 4 1) [.t 2,.t 1],jl 3,jq (.bin .geq .int) [.t 4,jn 0],jq (.store 6) [.v 4,.t 0],jm 5 5])
 .ret)))))
abbrev rs93:List RC:=[(.lN 4 6),(.v 5)]
theorem fok93 (p:Bool):FnOk Tryz.prog 93 ⟨ic93,vs93,45,rs93,p⟩:=.mk2 Tryz.func93 (by kernel_rfl) (by kernel_rfl) (by kernel_rfl) (by kernel_rfl) (by kernel_rfl)
abbrev vs94:List Nat:=[0,2]
def ic94:IC:=(.seq (.region [jv 0,je 0,jm 1 1])
 (.region [jv 0,jv 1,jv 1,jq (.conv .u64) [.t 2],jk 87 [.t 3],jk 116 [.t 0,jn 0,.t 1,.t 4]]))
abbrev rs94:List RC:=[]
theorem fok94 (p:Bool):FnOk Tryz.prog 94 ⟨ic94,vs94,11,rs94,p⟩:=.mk2 Tryz.func94 (by kernel_rfl) (by kernel_rfl) (by kernel_rfl) (by kernel_rfl) (by kernel_rfl)
abbrev vs95:List Nat:=[0,1,2,4]
def ic95:IC:=(.seq (.region [jw 3 .mv [jB false]])
 (.seq (.region [jv 0,jL 1,jq (.bin .lss .int) [.t 0,.t 1],jt 2,jh 3 false 0,jg 3 false .load1 [.v 2],jg 3 false (.bin .gtr .int) [.t 4,.t 5],jq .pick [.t 3,jB true,.t 6],jm 3 7])
 .ret))
abbrev rs95:List RC:=[(.v 3)]
theorem fok95 (p:Bool):FnOk Tryz.prog 95 ⟨ic95,vs95,13,rs95,p⟩:=.mk2 Tryz.func95 (by kernel_rfl) (by kernel_rfl) (by kernel_rfl) (by kernel_rfl) (by kernel_rfl)
abbrev vs96:List Nat:=[0,1,2,3,4]
def ic96:IC:=(.seq (.region [jb 2 0,jb 3 1,jw 4 .mv [.c (.cv .nilf)]])
 (.seq (.region [jq (.mkfn (.func 117)) [.v 3,.v 2],jm 4 0])
 .ret))
abbrev rs96:List RC:=[(.v 4)]
theorem fok96 (p:Bool):FnOk Tryz.prog 96 ⟨ic96,vs96,6,rs96,p⟩:=.mk2 Tryz.func96 (by kernel_rfl) (by kernel_rfl) (by kernel_rfl) (by kernel_rfl) (by kernel_rfl)
abbrev vs97:List Nat:=[0,1,4,6,7,8,9,10,15]
def ic97l0:IC:=(.seq (.region [jw 7 (.bin .lss .int) [.v 6,.v 5]])
 (.seq (.cond 7 .skip
 (.exit 0))
 (.seq (.block 1 (.seq (.region [jq (.iaS 1) [.v 4,.v 6],jl 0,jm 3 1])
 (.seq (.region [jv 1,jv 3,jd 8 118 [.t 0,.t 1]])
 (.cond 8 (.region [jv 2,jq (.bin .add .int) [.t 0,jn 1],jm 2 1])
 .skip))))
 (.region [jq (.bin .add .int) [.v 6,jn 1],jm 6 0]))))
def ic97:IC:=(.seq (.region [jz 2 0])
 (.seq (.seq (.region [jw 4 .mv [.v 0],jw 5 (.len false) [.v 4],jz 6 0])
 (.block 0 (.loop ic97l0)))
 (.seq (.region [jv 2,jm 2 0])
 .ret)))
abbrev rs97:List RC:=[(.v 2)]
theorem fok97 (p:Bool):FnOk Tryz.prog 97 ⟨ic97,vs97,20,rs97,p⟩:=.mk2 Tryz.func97 (by kernel_rfl) (by kernel_rfl) (by kernel_rfl) (by kernel_rfl) (by kernel_rfl)
abbrev vs115:List Nat:=[0,1,2,3,4,5,6,7,8,9,10,14,25,34,43,44,45,46,50,58,80,81,82,83,92]
def ic115l0:IC:=(.seq (.region [jw 23 (.bin .lss .int) [.v 22,.v 21]])
 (.seq (.cond 23 .skip
 (.exit 4))
 (.seq (.block 5 (.seq (.region [jv 22,jq (.iaS 1) [.v 20,.v 22],jl 1,jm 9 0,jm 10 2])
 (.seq (.region [jv 9,jq (.iaA 4 1) [.v 6,.t 0],jl 1,jv 10,jq (.bslice 1 1 [(.cv (.int .i64 0))] [(0,1)]) [.t 3],jd 24 57 [jn 1,.t 2,.t 4]])
 (.cond 24 (.seq (.region [jv 9,jz 2 3,jm 3 0,jz 4 7])
 .ret)
 .skip))))
 (.region [jq (.bin .add .int) [.v 22,jn 1],jm 22 0]))))
def ic115l1:IC:=(.seq (.region [jw 17 (.bin .lss .int) [.v 16,.v 15]])
 (.seq (.cond 17 .skip
 (.exit 1))
 (.seq (.block 2 (.seq (.region [jv 16,jq (.iaS 3) [.v 14,.v 16],jq (.loadN 3) [.t 1],jw 8 (.alloc [(.cv (.int .i64 0)),(.cv (.int .i64 0)),(.cv (.int .i64 0))]) [],jm 7 0,jq (.store 3) [.v 8,.t 2]])
 (.seq (.block 3 (.seq (.region [jv 5,jq (.bin .sub .int) [.t 0,jn 1],jF 0 8,jl 2,jq (.bslice 1 1 [(.cv (.int .i64 0))] [(0,1)]) [.t 3],jk 57 [jn 0,.t 1,.t 4],jm 18 5])
 (.cond 18 (.seq (.region [jv 7,jz 2 2,jm 3 0,jz 4 4])
 .ret)
 (.seq (.region [jF 1 8,jl 0,jq (.bslice 1 1 [(.cv (.int .i64 0))] [(0,1)]) [.t 1],jk 57 [jn 0,jn 100000,.t 2],jt 3,jg 4 false (.fadd 1) [.v 8],ji 4 false 5,jg 4 false (.fadd 2) [.v 8],ji 4 false 7,jg 4 false (.bslice 1 1 [(.cv (.int .i64 0))] [(0,1)]) [.t 8],jf 4 false 57 [jn 0,.t 6,.t 9],jq .pick [.t 4,jB true,.t 10],jm 19 11])
 (.cond 19 (.seq (.region [jv 7,jz 2 2,jm 3 0,jz 4 7])
 .ret)
 .skip)))))
 (.region [jF 0 8,jl 0,jq (.iaA 4 1) [.v 6,.t 1],jl 2,jq (.bin .add .int) [.t 3,jn 1],jq (.iaA 4 1) [.v 6,.t 1],jq (.store 1) [.t 5,.t 4]]))))
 (.region [jq (.bin .add .int) [.v 16,jn 1],jm 16 0]))))
def ic115:IC:=(.seq (.region [jb 1 0,jz 2 0,jz 3 0,jz 4 0])
 (.seq (.region [jF 1 1,jl 0,je 1,jm 5 2])
 (.seq (.block 0 (.seq (.region [jF 0 1,jl 0,je 1,jq (.bslice 1 1 [(.cv (.int .i64 0))] [(0,1)]) [.t 2],jk 57 [jn 1,jn 16,.t 3],jt 4,jh 5 false 5,jg 5 false (.bslice 1 1 [(.cv (.int .i64 0))] [(0,1)]) [.t 6],jf 5 false 57 [jn 1,jn 4,.t 7],jq .pick [.t 5,jB true,.t 8],jm 11 9])
 (.cond 11 (.seq (.region [jz 2 1,jz 3 0,jz 4 3])
 .ret)
 (.seq (.region [jF 2 1,jG 0 0,jl 1,jF 2 1,jG 1 3,jl 4,jq (.bslice 1 2 [(.cv (.int .i64 0)),(.cv (.int .i64 0))] [(0,1),(1,1)]) [.t 2,.t 5],jk 57 [jn 0,jn 16000,.t 6],jm 12 7])
 (.cond 12 (.seq (.region [jz 2 1,jz 3 0,jz 4 7])
 .ret)
 (.seq (.region [jF 2 1,jG 0 0,jl 1,jF 2 1,jG 1 3,jl 4,jq (.bin .gtr .int) [.t 2,.t 5],jm 13 6])
 (.cond 13 (.seq (.region [jz 2 1,jz 3 0,jz 4 2])
 .ret)
 .skip)))))))
 (.seq (.region [jw 6 (.alloc [(.cv (.int .i64 0)),(.cv (.int .i64 0)),(.cv (.int .i64 0)),(.cv (.int .i64 0))]) []])
 (.seq (.seq (.region [jF 0 1,jw 14 .load1 [.t 0],jw 15 (.len false) [.v 14],jz 16 0])
 (.block 1 (.loop ic115l1)))
 (.seq (.seq (.region [jF 1 1,jw 20 .load1 [.t 0],jw 21 (.len false) [.v 20],jz 22 0])
 (.block 4 (.loop ic115l0)))
 (.seq (.region [jz 2 0,jz 3 0,jz 4 0])
 .ret)))))))
abbrev rs115:List RC:=[(.v 2),(.v 3),(.v 4)]
theorem fok115 (p:Bool):FnOk Tryz.prog 115 ⟨ic115,vs115,95,rs115,p⟩:=.mk2 Tryz.func115 (by kernel_rfl) (by kernel_rfl) (by kernel_rfl) (by kernel_rfl) (by kernel_rfl)
abbrev vs116:List Nat:=[0,1,2,3,8,9,10,11,12,13,14,15,16,17,18,23,29,35,50,68,72,87,113]
def ic116l0:IC:=(.block 1 (.seq (.region [jv 2,jv 1,jq (.bin .sub .int) [.t 0,.t 1],jm 6 2])
 (.seq (.seq (.region [jv 6,jw 15 (.bin .leq .int) [.t 0,jn 12]])
 (.cond 15 (.seq (.region [jv 0,jv 1,jv 2,jk 139 [.t 0,.t 1,.t 2]])
 .ret)
 .skip))
 (.seq (.seq (.region [jv 3,jw 16 (.bin .eql .int) [.t 0,jn 0]])
 (.cond 16 (.seq (.region [jv 0,jv 1,jv 2,jk 140 [.t 0,.t 1,.t 2]])
 .ret)
 .skip))
 (.seq (.seq (.region [jv 4,jw 17 .not [.t 0]])
 (.cond 17 (.seq (.region [jv 0,jv 1,jv 2,jk 141 [.t 0,.t 1,.t 2]])
 (.region [jv 3,jq (.bin .sub .int) [.t 0,jn 1],jm 3 1]))
 .skip))
 (.seq (.region [jv 0,jv 1,jv 2,jk 142 [.t 0,.t 1,.t 2],jt 3,jx 0 4,jx 1 4,jm 7 5,jm 8 6])
 (.seq (.seq (.region [jv 8,jw 18 (.bin .eql .int) [.t 0,jn 2]])
 (.cond 18 (.seq (.region [jv 0,jv 1,jv 2,jk 143 [.t 0,.t 1,.t 2]])
 (.seq (.region [jv 2,jq (.bin .sub .int) [.t 0,jn 1],jv 7,jv 1,jq (.bin .sub .int) [.t 2,.t 3],jq (.bin .sub .int) [.t 1,.t 4],jm 7 5])
 (.region [jz 8 1])))
 .skip))
 (.seq (.seq (.region [jv 4,jt 0,jh 1 true 5,jq .pick [.t 1,.t 2,jB false],jt 3,jh 4 true 8,jg 4 true (.bin .eql .int) [.t 5,jn 1],jw 19 .pick [.t 4,.t 6,jB false]])
 (.cond 19 (.seq (.region [jv 0,jv 1,jv 2,jd 20 144 [.t 0,.t 1,.t 2]])
 (.cond 20 .ret
 .skip))
 .skip))
 (.seq (.seq (.dr [[],[0],[1],[2],[2],[4,2],[3,5,2],[6,2],[2],[2],[8,9,2],[10,2],[7,11,2,2],[12,2],[2,13]] [jv 1,jq (.bin .gtr .int) [.t 0,jn 0],jt 1,jh 2 true 0,jh 2 true 1,jg 2 true (.bin .sub .int) [.t 4,jn 1],jg 2 true (.iaS 1) [.t 3,.t 5],ji 2 true 6,jh 2 true 0,jh 2 true 7,jg 2 true (.iaS 1) [.t 8,.t 9],ji 2 true 10,jf 2 true 145 [.t 7,.t 11],jg 2 true .not [.t 12],jw 21 .pick [.t 2,.t 13,jB false]])
 (.cond 21 (.seq (.region [jv 0,jv 1,jv 2,jv 7,jk 146 [.t 0,.t 1,.t 2,.t 3],jm 9 4])
 (.seq (.region [jv 9,jm 1 0])
 (.exit 1)))
 .skip))
 (.seq (.region [jv 0,jv 1,jv 2,jv 7,jk 147 [.t 0,.t 1,.t 2,.t 3],jt 4,jx 0 5,jx 1 5,jm 10 6,jm 11 7])
 (.seq (.region [jv 11,jm 5 0])
 (.seq (.region [jv 10,jv 1,jq (.bin .sub .int) [.t 0,.t 1],jv 2,jv 10,jq (.bin .sub .int) [.t 3,.t 4],jm 12 2,jm 13 5])
 (.seq (.region [jv 6,jq (.bin .quo .int) [.t 0,jn 8],jm 14 1])
 (.seq (.region [jv 12,jv 13,jw 22 (.bin .lss .int) [.t 0,.t 1]])
 (.cond 22 (.seq (.region [jv 12,jv 14,jq (.bin .geq .int) [.t 0,.t 1],jm 4 2])
 (.seq (.region [jv 0,jv 1,jv 10,jv 3,jk 116 [.t 0,.t 1,.t 2,.t 3]])
 (.region [jv 10,jq (.bin .add .int) [.t 0,jn 1],jm 1 1])))
 (.seq (.region [jv 13,jv 14,jq (.bin .geq .int) [.t 0,.t 1],jm 4 2])
 (.seq (.region [jv 0,jv 10,jq (.bin .add .int) [.t 1,jn 1],jv 2,jv 3,jk 116 [.t 0,.t 2,.t 3,.t 4]])
 (.region [jv 10,jm 2 0]))))))))))))))))))
def ic116:IC:=(.seq (.region [jw 4 .mv [jB true]])
 (.seq (.region [jw 5 .mv [jB true]])
 (.block 0 (.loop ic116l0))))
abbrev rs116:List RC:=[]
theorem fok116 (p:Bool):FnOk Tryz.prog 116 ⟨ic116,vs116,134,rs116,p⟩:=.mk2 Tryz.func116 (by kernel_rfl) (by kernel_rfl) (by kernel_rfl) (by kernel_rfl) (by kernel_rfl)
abbrev vs117:List Nat:=[0,1,2,16,21]
def ic117:IC:=(.seq (.seq (.region [jL 1,jF 1 2,jl 1,jq (.bin .geq .int) [.t 0,.t 2],jt 3,jh 4 true 0,jg 4 true .load1 [.v 1],jg 4 true (.fadd 1) [.v 2],ji 4 true 7,jg 4 true (.bin .sub .int) [.t 6,.t 8],⟨none,(.some (4,true)),.call,[(.t 5),(.t 9)]⟩,jg 4 true .not [.t 10],jw 3 .pick [.t 4,.t 11,jB false]])
 (.cond 3 .ret
 .skip))
 (.seq (.region [jL 1,jF 1 2,jl 1,jq (.bin .rem .int) [.t 0,.t 2],jw 4 (.bin .gtr .int) [.t 3,jn 0]])
 (.cond 4 (.region [jv 0,jL 1,jq (.bin .sub .int) [.t 1,jn 1],⟨none,none,.call,[(.t 0),(.t 2)]⟩])
 .skip)))
abbrev rs117:List RC:=[]
theorem fok117 (p:Bool):FnOk Tryz.prog 117 ⟨ic117,vs117,26,rs117,p⟩:=.mk2 Tryz.func117 (by kernel_rfl) (by kernel_rfl) (by kernel_rfl) (by kernel_rfl) (by kernel_rfl)
abbrev vs118:List Nat:=[0,1,4]
def ic118:IC:=(.seq (.region [jw 2 .mv [jB false]])
 (.seq (.region [jv 0,jv 1,jk 148 [.t 0,.t 1],jq (.bin .geq .int) [.t 2,jn 0],jm 2 3])
 .ret))
abbrev rs118:List RC:=[(.v 2)]
theorem fok118 (p:Bool):FnOk Tryz.prog 118 ⟨ic118,vs118,9,rs118,p⟩:=.mk2 Tryz.func118 (by kernel_rfl) (by kernel_rfl) (by kernel_rfl) (by kernel_rfl) (by kernel_rfl)
abbrev vs139:List Nat:=[0,1,2,6,7,12,30]
def ic139l0:IC:=(.seq (.seq (.dr [[],[],[0,1],[2],[3],[3],[4,5,3],[6,3],[3],[3],[9,3],[8,10,3],[11,3],[7,12,3,3],[3,13]] [jv 4,jv 1,jq (.bin .gtr .int) [.t 0,.t 1],jt 2,jh 3 true 0,jh 3 true 4,jg 3 true (.iaS 1) [.t 4,.t 5],ji 3 true 6,jh 3 true 0,jh 3 true 4,jg 3 true (.bin .sub .int) [.t 9,jn 1],jg 3 true (.iaS 1) [.t 8,.t 10],ji 3 true 11,jf 3 true 145 [.t 7,.t 12],jw 6 .pick [.t 3,.t 13,jB false]])
 (.cond 6 .skip
 (.exit 2)))
 (.seq (.block 3 (.dr [[],[],[],[],[3],[],[],[6],[5,7],[8],[],[],[10,11],[12],[0,1,0,1,5,6,7,8,9,13],[14,9,0,1,5,6,7,8,9,13],[2,4,0,1,2,3,4,5,6,7,8,9,10,11,12,13,14,15],[16,13,15,0,1,2,3,4,5,6,7,8,9,10,11,12,13,14,15]] [jv 0,jv 4,jv 0,jv 4,jq (.bin .sub .int) [.t 3,jn 1],jv 0,jv 4,jq (.bin .sub .int) [.t 6,jn 1],ja 1 5 7,jl 8,jv 0,jv 4,ja 1 10 11,jl 12,ja 1 0 1,jq (.store 1) [.t 14,.t 9],ja 1 2 4,jq (.store 1) [.t 16,.t 13]]))
 (.region [jv 4,jq (.bin .sub .int) [.t 0,jn 1],jm 4 1])))
def ic139l1:IC:=(.seq (.seq (.region [jv 3,jv 2,jw 5 (.bin .lss .int) [.t 0,.t 1]])
 (.cond 5 .skip
 (.exit 0)))
 (.seq (.block 1 (.seq (.region [jv 3,jm 4 0])
 (.block 2 (.loop ic139l0))))
 (.region [jv 3,jq (.bin .add .int) [.t 0,jn 1],jm 3 1])))
def ic139:IC:=(.seq (.region [jv 1,jq (.bin .add .int) [.t 0,jn 1],jm 3 1])
 (.block 0 (.loop ic139l1)))
abbrev rs139:List RC:=[]
theorem fok139 (p:Bool):FnOk Tryz.prog 139 ⟨ic139,vs139,49,rs139,p⟩:=.mk2 Tryz.func139 (by kernel_rfl) (by kernel_rfl) (by kernel_rfl) (by kernel_rfl) (by kernel_rfl)
abbrev vs140:List Nat:=[0,1,2,6,7,8,9,10,19,30]
def ic140l0:IC:=(.seq (.seq (.region [jv 7,jw 9 (.bin .geq .int) [.t 0,jn 0]])
 (.cond 9 .skip
 (.exit 2)))
 (.seq (.block 3 (.seq (.dr [[],[],[],[],[],[3,4],[],[],[],[7,8],[6,9],[10],[],[],[12,13],[14],[0,1,0,1,6,7,8,9,10,11,15],[16,11,0,1,6,7,8,9,10,11,15],[2,5,0,1,2,3,4,5,6,7,8,9,10,11,12,13,14,15,16,17],[18,15,17,0,1,2,3,4,5,6,7,8,9,10,11,12,13,14,15,16,17]] [jv 0,jv 3,jv 0,jv 3,jv 7,jq (.bin .add .int) [.t 3,.t 4],jv 0,jv 3,jv 7,jq (.bin .add .int) [.t 7,.t 8],ja 1 6 9,jl 10,jv 0,jv 3,ja 1 12 13,jl 14,ja 1 0 1,jq (.store 1) [.t 16,.t 11],ja 1 2 5,jq (.store 1) [.t 18,.t 15]])
 (.region [jv 0,jv 4,jv 7,jv 3,jk 161 [.t 0,.t 1,.t 2,.t 3]])))
 (.region [jv 7,jq (.bin .sub .int) [.t 0,jn 1],jm 7 1])))
def ic140l1:IC:=(.seq (.seq (.region [jv 6,jw 8 (.bin .geq .int) [.t 0,jn 0]])
 (.cond 8 .skip
 (.exit 0)))
 (.seq (.block 1 (.region [jv 0,jv 6,jv 5,jv 3,jk 161 [.t 0,.t 1,.t 2,.t 3]]))
 (.region [jv 6,jq (.bin .sub .int) [.t 0,jn 1],jm 6 1])))
def ic140:IC:=(.seq (.region [jv 1,jm 3 0])
 (.seq (.region [jz 4 0])
 (.seq (.region [jv 2,jv 1,jq (.bin .sub .int) [.t 0,.t 1],jm 5 2])
 (.seq (.seq (.region [jv 5,jq (.bin .sub .int) [.t 0,jn 1],jq (.bin .quo .int) [.t 1,jn 2],jm 6 2])
 (.block 0 (.loop ic140l1)))
 (.seq (.region [jv 5,jq (.bin .sub .int) [.t 0,jn 1],jm 7 1])
 (.block 2 (.loop ic140l0)))))))
abbrev rs140:List RC:=[]
theorem fok140 (p:Bool):FnOk Tryz.prog 140 ⟨ic140,vs140,56,rs140,p⟩:=.mk2 Tryz.func140 (by kernel_rfl) (by kernel_rfl) (by kernel_rfl) (by kernel_rfl) (by kernel_rfl)
abbrev vs141:List Nat:=[0,1,2,6,7,8,9,10,15,33,43]
def ic141l0:IC:=(.seq (.seq (.region [jv 6,jv 1,jv 3,jq (.bin .quo .int) [.t 2,jn 4],jq (.bin .mul .int) [.t 3,jn 2],jq (.bin .add .int) [.t 1,.t 4],jq (.bin .add .int) [.t 5,jn 1],jw 9 (.bin .leq .int) [.t 0,.t 6]])
 (.cond 9 .skip
 (.exit 0)))
 (.seq (.block 1 (.seq (.region [jk 136 [.v 4],jv 5,jq (.bin .sub .int) [.t 1,.c (.cv (.int .u64 1))],jq (.bin .and .int) [.t 0,.t 2],jq (.conv .i64) [.t 3],jm 7 4])
 (.seq (.seq (.region [jv 7,jv 3,jw 10 (.bin .geq .int) [.t 0,.t 1]])
 (.cond 10 (.region [jv 7,jv 3,jq (.bin .sub .int) [.t 0,.t 1],jm 7 2])
 .skip))
 (.dr [[],[],[],[],[],[3,4],[],[],[],[7,8],[6,9],[10],[],[],[12,13],[14],[0,1,0,1,6,7,8,9,10,11,15],[16,11,0,1,6,7,8,9,10,11,15],[2,5,0,1,2,3,4,5,6,7,8,9,10,11,12,13,14,15,16,17],[18,15,17,0,1,2,3,4,5,6,7,8,9,10,11,12,13,14,15,16,17]] [jv 0,jv 6,jv 0,jv 1,jv 7,jq (.bin .add .int) [.t 3,.t 4],jv 0,jv 1,jv 7,jq (.bin .add .int) [.t 7,.t 8],ja 1 6 9,jl 10,jv 0,jv 6,ja 1 12 13,jl 14,ja 1 0 1,jq (.store 1) [.t 16,.t 11],ja 1 2 5,jq (.store 1) [.t 18,.t 15]]))))
 (.region [jv 6,jq (.bin .add .int) [.t 0,jn 1],jm 6 1])))
def ic141:IC:=(.seq (.region [jv 2,jv 1,jq (.bin .sub .int) [.t 0,.t 1],jm 3 2])
 (.seq (.region [jv 3,jw 8 (.bin .geq .int) [.t 0,jn 8]])
 (.cond 8 (.seq (.region [jv 3,jq (.conv .u64) [.t 0],jw 4 (.alloc [(.cv (.int .u64 0))]) [],jq (.store 1) [.v 4,.t 1]])
 (.seq (.region [jv 3,jk 135 [.t 0],jm 5 1])
 (.seq (.region [jv 1,jv 3,jq (.bin .quo .int) [.t 1,jn 4],jq (.bin .mul .int) [.t 2,jn 2],jq (.bin .add .int) [.t 0,.t 3],jq (.bin .sub .int) [.t 4,jn 1],jm 6 5])
 (.block 0 (.loop ic141l0)))))
 .skip)))
abbrev rs141:List RC:=[]
theorem fok141 (p:Bool):FnOk Tryz.prog 141 ⟨ic141,vs141,65,rs141,p⟩:=.mk2 Tryz.func141 (by kernel_rfl) (by kernel_rfl) (by kernel_rfl) (by kernel_rfl) (by kernel_rfl)
abbrev vs142:List Nat:=[0,1,2,6,7,8,9,10,11,12,32,34,49,51,54]
def ic142:IC:=(.seq (.region [jz 3 0,jz 4 0])
 (.seq (.region [jv 2,jv 1,jq (.bin .sub .int) [.t 0,.t 1],jm 5 2])
 (.seq (.region [jw 6 (.alloc [(.cv (.int .i64 0))]) []])
 (.seq (.region [jv 1,jv 5,jq (.bin .quo .int) [.t 1,jn 4],jq (.bin .mul .int) [.t 2,jn 1],jq (.bin .add .int) [.t 0,.t 3],jm 7 4])
 (.seq (.region [jv 1,jv 5,jq (.bin .quo .int) [.t 1,jn 4],jq (.bin .mul .int) [.t 2,jn 2],jq (.bin .add .int) [.t 0,.t 3],jm 8 4])
 (.seq (.region [jv 1,jv 5,jq (.bin .quo .int) [.t 1,jn 4],jq (.bin .mul .int) [.t 2,jn 3],jq (.bin .add .int) [.t 0,.t 3],jm 9 4])
 (.seq (.seq (.region [jv 5,jw 10 (.bin .geq .int) [.t 0,jn 8]])
 (.cond 10 (.seq (.seq (.region [jv 5,jw 11 (.bin .geq .int) [.t 0,jn 50]])
 (.cond 11 (.seq (.region [jv 0,jv 7,jk 162 [.t 0,.t 1,.v 6],jm 7 2])
 (.seq (.region [jv 0,jv 8,jk 162 [.t 0,.t 1,.v 6],jm 8 2])
 (.region [jv 0,jv 9,jk 162 [.t 0,.t 1,.v 6],jm 9 2])))
 .skip))
 (.region [jv 0,jv 7,jv 8,jv 9,jk 163 [.t 0,.t 1,.t 2,.t 3,.v 6],jm 8 4]))
 .skip))
 (.seq (.region [jw 12 .load1 [.v 6]])
 (.block 0 (.seq (.region [jq (.bin .eql .int) [.v 12,jn 0],jm 13 0])
 (.cond 13 (.seq (.region [jv 8,jm 3 0,jz 4 1])
 .ret)
 (.seq (.region [jq (.bin .eql .int) [.v 12,jn 12],jm 14 0])
 (.cond 14 (.seq (.region [jv 8,jm 3 0,jz 4 2])
 .ret)
 (.seq (.region [jv 8,jm 3 0,jz 4 0])
 .ret))))))))))))))
abbrev rs142:List RC:=[(.v 3),(.v 4)]
theorem fok142 (p:Bool):FnOk Tryz.prog 142 ⟨ic142,vs142,57,rs142,p⟩:=.mk2 Tryz.func142 (by kernel_rfl) (by kernel_rfl) (by kernel_rfl) (by kernel_rfl) (by kernel_rfl)
abbrev vs143:List Nat:=[0,1,2,6,7,13]
def ic143l0:IC:=(.seq (.seq (.region [jv 3,jv 4,jw 5 (.bin .lss .int) [.t 0,.t 1]])
 (.cond 5 .skip
 (.exit 0)))
 (.block 1 (.seq (.dr [[],[],[],[],[],[],[4,5],[6],[],[],[8,9],[10],[0,1,0,1,4,5,6,7,11],[12,7,0,1,4,5,6,7,11],[2,3,0,1,2,3,4,5,6,7,8,9,10,11,12,13],[14,11,13,0,1,2,3,4,5,6,7,8,9,10,11,12,13]] [jv 0,jv 3,jv 0,jv 4,jv 0,jv 4,ja 1 4 5,jl 6,jv 0,jv 3,ja 1 8 9,jl 10,ja 1 0 1,jq (.store 1) [.t 12,.t 7],ja 1 2 3,jq (.store 1) [.t 14,.t 11]])
 (.seq (.region [jv 3,jq (.bin .add .int) [.t 0,jn 1],jm 3 1])
 (.region [jv 4,jq (.bin .sub .int) [.t 0,jn 1],jm 4 1])))))
def ic143:IC:=(.seq (.region [jv 1,jm 3 0])
 (.seq (.region [jv 2,jq (.bin .sub .int) [.t 0,jn 1],jm 4 1])
 (.block 0 (.loop ic143l0))))
abbrev rs143:List RC:=[]
theorem fok143 (p:Bool):FnOk Tryz.prog 143 ⟨ic143,vs143,32,rs143,p⟩:=.mk2 Tryz.func143 (by kernel_rfl) (by kernel_rfl) (by kernel_rfl) (by kernel_rfl) (by kernel_rfl)
abbrev vs144:List Nat:=[0,1,2,6,7,8,9,10,14,32,37,41,61,65,78,98,103,116]
def ic144l0:IC:=(.seq (.seq (.region [jv 7,jv 2,jw 16 (.bin .lss .int) [.t 0,.t 1]])
 (.cond 16 .skip
 (.exit 6)))
 (.seq (.block 7 (.seq (.seq (.dr [[],[],[0,1],[2],[],[],[5],[4,6],[7],[3,8],[9]] [jv 0,jv 7,ja 1 0 1,jl 2,jv 0,jv 7,jq (.bin .sub .int) [.t 5,jn 1],ja 1 4 6,jl 7,jk 145 [.t 3,.t 8],jw 17 .not [.t 9]])
 (.cond 17 (.exit 6)
 .skip))
 (.dr [[],[],[],[],[3],[],[],[6],[5,7],[8],[],[],[10,11],[12],[0,1,0,1,5,6,7,8,9,13],[14,9,0,1,5,6,7,8,9,13],[2,4,0,1,2,3,4,5,6,7,8,9,10,11,12,13,14,15],[16,13,15,0,1,2,3,4,5,6,7,8,9,10,11,12,13,14,15]] [jv 0,jv 7,jv 0,jv 7,jq (.bin .sub .int) [.t 3,jn 1],jv 0,jv 7,jq (.bin .sub .int) [.t 6,jn 1],ja 1 5 7,jl 8,jv 0,jv 7,ja 1 10 11,jl 12,ja 1 0 1,jq (.store 1) [.t 14,.t 9],ja 1 2 4,jq (.store 1) [.t 16,.t 13]])))
 (.region [jv 7,jq (.bin .add .int) [.t 0,jn 1],jm 7 1])))
def ic144l1:IC:=(.seq (.seq (.region [jv 6,jw 13 (.bin .geq .int) [.t 0,jn 1]])
 (.cond 13 .skip
 (.exit 4)))
 (.seq (.block 5 (.seq (.seq (.dr [[],[],[0,1],[2],[],[],[5],[4,6],[7],[3,8],[9]] [jv 0,jv 6,ja 1 0 1,jl 2,jv 0,jv 6,jq (.bin .sub .int) [.t 5,jn 1],ja 1 4 6,jl 7,jk 145 [.t 3,.t 8],jw 14 .not [.t 9]])
 (.cond 14 (.exit 4)
 .skip))
 (.dr [[],[],[],[],[3],[],[],[6],[5,7],[8],[],[],[10,11],[12],[0,1,0,1,5,6,7,8,9,13],[14,9,0,1,5,6,7,8,9,13],[2,4,0,1,2,3,4,5,6,7,8,9,10,11,12,13,14,15],[16,13,15,0,1,2,3,4,5,6,7,8,9,10,11,12,13,14,15]] [jv 0,jv 6,jv 0,jv 6,jq (.bin .sub .int) [.t 3,jn 1],jv 0,jv 6,jq (.bin .sub .int) [.t 6,jn 1],ja 1 5 7,jl 8,jv 0,jv 6,ja 1 10 11,jl 12,ja 1 0 1,jq (.store 1) [.t 14,.t 9],ja 1 2 4,jq (.store 1) [.t 16,.t 13]])))
 (.region [jv 6,jq (.bin .sub .int) [.t 0,jn 1],jm 6 1])))
def ic144l2:IC:=(.seq (.seq (.dr [[],[],[0,1],[2],[3],[3],[4,5,3],[6,3],[3],[3],[9,3],[8,10,3],[11,3],[7,12,3,3],[13,3],[3,14]] [jv 4,jv 2,jq (.bin .lss .int) [.t 0,.t 1],jt 2,jh 3 true 0,jh 3 true 4,jg 3 true (.iaS 1) [.t 4,.t 5],ji 3 true 6,jh 3 true 0,jh 3 true 4,jg 3 true (.bin .sub .int) [.t 9,jn 1],jg 3 true (.iaS 1) [.t 8,.t 10],ji 3 true 11,jf 3 true 145 [.t 7,.t 12],jg 3 true .not [.t 13],jw 9 .pick [.t 3,.t 14,jB false]])
 (.cond 9 .skip
 (.exit 2)))
 (.block 3 (.region [jv 4,jq (.bin .add .int) [.t 0,jn 1],jm 4 1])))
def ic144l3:IC:=(.seq (.seq (.region [jv 5,jw 8 (.bin .lss .int) [.t 0,jn 5]])
 (.cond 8 .skip
 (.exit 0)))
 (.seq (.block 1 (.seq (.block 2 (.loop ic144l2))
 (.seq (.seq (.region [jv 4,jv 2,jw 10 (.bin .eql .int) [.t 0,.t 1]])
 (.cond 10 (.seq (.region [jw 3 .mv [jB true]])
 .ret)
 .skip))
 (.seq (.seq (.region [jv 2,jv 1,jq (.bin .sub .int) [.t 0,.t 1],jw 11 (.bin .lss .int) [.t 2,jn 50]])
 (.cond 11 (.seq (.region [jw 3 .mv [jB false]])
 .ret)
 .skip))
 (.seq (.dr [[],[],[],[],[3],[],[],[6],[5,7],[8],[],[],[10,11],[12],[0,1,0,1,5,6,7,8,9,13],[14,9,0,1,5,6,7,8,9,13],[2,4,0,1,2,3,4,5,6,7,8,9,10,11,12,13,14,15],[16,13,15,0,1,2,3,4,5,6,7,8,9,10,11,12,13,14,15]] [jv 0,jv 4,jv 0,jv 4,jq (.bin .sub .int) [.t 3,jn 1],jv 0,jv 4,jq (.bin .sub .int) [.t 6,jn 1],ja 1 5 7,jl 8,jv 0,jv 4,ja 1 10 11,jl 12,ja 1 0 1,jq (.store 1) [.t 14,.t 9],ja 1 2 4,jq (.store 1) [.t 16,.t 13]])
 (.seq (.seq (.region [jv 4,jv 1,jq (.bin .sub .int) [.t 0,.t 1],jw 12 (.bin .geq .int) [.t 2,jn 2]])
 (.cond 12 (.seq (.region [jv 4,jq (.bin .sub .int) [.t 0,jn 1],jm 6 1])
 (.block 4 (.loop ic144l1)))
 .skip))
 (.seq (.region [jv 2,jv 4,jq (.bin .sub .int) [.t 0,.t 1],jw 15 (.bin .geq .int) [.t 2,jn 2]])
 (.cond 15 (.seq (.region [jv 4,jq (.bin .add .int) [.t 0,jn 1],jm 7 1])
 (.block 6 (.loop ic144l0)))
 .skip))))))))
 (.region [jv 5,jq (.bin .add .int) [.t 0,jn 1],jm 5 1])))
def ic144:IC:=(.seq (.region [jw 3 .mv [jB false]])
 (.seq (.region [jv 1,jq (.bin .add .int) [.t 0,jn 1],jm 4 1])
 (.seq (.seq (.region [jz 5 0])
 (.block 0 (.loop ic144l3)))
 (.seq (.region [jw 3 .mv [jB false]])
 .ret))))
abbrev rs144:List RC:=[(.v 3)]
theorem fok144 (p:Bool):FnOk Tryz.prog 144 ⟨ic144,vs144,133,rs144,p⟩:=.mk2 Tryz.func144 (by kernel_rfl) (by kernel_rfl) (by kernel_rfl) (by kernel_rfl) (by kernel_rfl)
abbrev vs145:List Nat:=[0,1,4]
def ic145:IC:=(.seq (.region [jw 2 .mv [jB false]])
 (.seq (.region [jv 0,jk 88 [.t 0],jt 1,jh 2 true 1,jf 2 true 88 [.t 3],jg 2 true .not [.t 4],jq .pick [.t 2,.t 5,jB false],jt 6,jh 7 false 0,jh 7 false 1,jg 7 false (.bin .lss .int) [.t 8,.t 9],jq .pick [.t 7,jB true,.t 10],jm 2 11])
 .ret))
abbrev rs145:List RC:=[(.v 2)]
theorem fok145 (p:Bool):FnOk Tryz.prog 145 ⟨ic145,vs145,17,rs145,p⟩:=.mk2 Tryz.func145 (by kernel_rfl) (by kernel_rfl) (by kernel_rfl) (by kernel_rfl) (by kernel_rfl)
abbrev vs146:List Nat:=[0,1,2,3,8,9,10,43,59,64]
def ic146l0:IC:=(.seq (.seq (.dr [[],[],[0,1],[2],[3],[3],[4,5,3],[6,3],[3],[3],[8,9,3],[10,3],[7,11,3,3],[3,12]] [jv 5,jv 6,jq (.bin .leq .int) [.t 0,.t 1],jt 2,jh 3 true 0,jh 3 true 1,jg 3 true (.iaS 1) [.t 4,.t 5],ji 3 true 6,jh 3 true 0,jh 3 true 6,jg 3 true (.iaS 1) [.t 8,.t 9],ji 3 true 10,jf 3 true 145 [.t 7,.t 11],jw 8 .pick [.t 3,.t 12,jB false]])
 (.cond 8 .skip
 (.exit 4)))
 (.block 5 (.region [jv 6,jq (.bin .sub .int) [.t 0,jn 1],jm 6 1])))
def ic146l1:IC:=(.seq (.seq (.dr [[],[],[0,1],[2],[3],[3],[4,5,3],[6,3],[3],[3],[8,9,3],[10,3],[7,11,3,3],[12,3],[3,13]] [jv 5,jv 6,jq (.bin .leq .int) [.t 0,.t 1],jt 2,jh 3 true 0,jh 3 true 1,jg 3 true (.iaS 1) [.t 4,.t 5],ji 3 true 6,jh 3 true 0,jh 3 true 5,jg 3 true (.iaS 1) [.t 8,.t 9],ji 3 true 10,jf 3 true 145 [.t 7,.t 11],jg 3 true .not [.t 12],jw 7 .pick [.t 3,.t 13,jB false]])
 (.cond 7 .skip
 (.exit 2)))
 (.block 3 (.region [jv 5,jq (.bin .add .int) [.t 0,jn 1],jm 5 1])))
def ic146l2:IC:=(.block 1 (.seq (.block 2 (.loop ic146l1))
 (.seq (.block 4 (.loop ic146l0))
 (.seq (.seq (.region [jv 5,jv 6,jw 9 (.bin .gtr .int) [.t 0,.t 1]])
 (.cond 9 (.exit 0)
 .skip))
 (.seq (.dr [[],[],[],[],[],[],[4,5],[6],[],[],[8,9],[10],[0,1,0,1,4,5,6,7,11],[12,7,0,1,4,5,6,7,11],[2,3,0,1,2,3,4,5,6,7,8,9,10,11,12,13],[14,11,13,0,1,2,3,4,5,6,7,8,9,10,11,12,13]] [jv 0,jv 5,jv 0,jv 6,jv 0,jv 6,ja 1 4 5,jl 6,jv 0,jv 5,ja 1 8 9,jl 10,ja 1 0 1,jq (.store 1) [.t 12,.t 7],ja 1 2 3,jq (.store 1) [.t 14,.t 11]])
 (.seq (.region [jv 5,jq (.bin .add .int) [.t 0,jn 1],jm 5 1])
 (.region [jv 6,jq (.bin .sub .int) [.t 0,jn 1],jm 6 1])))))))
def ic146:IC:=(.seq (.region [jz 4 0])
 (.seq (.dr [[],[],[],[],[],[],[4,5],[6],[],[],[8,9],[10],[0,1,0,1,4,5,6,7,11],[12,7,0,1,4,5,6,7,11],[2,3,0,1,2,3,4,5,6,7,8,9,10,11,12,13],[14,11,13,0,1,2,3,4,5,6,7,8,9,10,11,12,13]] [jv 0,jv 1,jv 0,jv 3,jv 0,jv 3,ja 1 4 5,jl 6,jv 0,jv 1,ja 1 8 9,jl 10,ja 1 0 1,jq (.store 1) [.t 12,.t 7],ja 1 2 3,jq (.store 1) [.t 14,.t 11]])
 (.seq (.region [jv 1,jq (.bin .add .int) [.t 0,jn 1],jv 2,jq (.bin .sub .int) [.t 2,jn 1],jm 5 1,jm 6 3])
 (.seq (.block 0 (.loop ic146l2))
 (.seq (.region [jv 5,jm 4 0])
 .ret)))))
abbrev rs146:List RC:=[(.v 4)]
theorem fok146 (p:Bool):FnOk Tryz.prog 146 ⟨ic146,vs146,84,rs146,p⟩:=.mk2 Tryz.func146 (by kernel_rfl) (by kernel_rfl) (by kernel_rfl) (by kernel_rfl) (by kernel_rfl)
abbrev vs147:List Nat:=[0,1,2,3,8,9,10,11,43,60,65,112,129,134]
def ic147l0:IC:=(.seq (.seq (.dr [[],[],[0,1],[2],[3],[3],[4,5,3],[6,3],[3],[3],[8,9,3],[10,3],[7,11,3,3],[12,3],[3,13]] [jv 6,jv 7,jq (.bin .leq .int) [.t 0,.t 1],jt 2,jh 3 true 0,jh 3 true 7,jg 3 true (.iaS 1) [.t 4,.t 5],ji 3 true 6,jh 3 true 0,jh 3 true 1,jg 3 true (.iaS 1) [.t 8,.t 9],ji 3 true 10,jf 3 true 145 [.t 7,.t 11],jg 3 true .not [.t 12],jw 12 .pick [.t 3,.t 13,jB false]])
 (.cond 12 .skip
 (.exit 8)))
 (.block 9 (.region [jv 7,jq (.bin .sub .int) [.t 0,jn 1],jm 7 1])))
def ic147l1:IC:=(.seq (.seq (.dr [[],[],[0,1],[2],[3],[3],[4,5,3],[6,3],[3],[3],[8,9,3],[10,3],[7,11,3,3],[3,12]] [jv 6,jv 7,jq (.bin .leq .int) [.t 0,.t 1],jt 2,jh 3 true 0,jh 3 true 6,jg 3 true (.iaS 1) [.t 4,.t 5],ji 3 true 6,jh 3 true 0,jh 3 true 1,jg 3 true (.iaS 1) [.t 8,.t 9],ji 3 true 10,jf 3 true 145 [.t 7,.t 11],jw 11 .pick [.t 3,.t 12,jB false]])
 (.cond 11 .skip
 (.exit 6)))
 (.block 7 (.region [jv 6,jq (.bin .add .int) [.t 0,jn 1],jm 6 1])))
def ic147l2:IC:=(.block 5 (.seq (.block 6 (.loop ic147l1))
 (.seq (.block 8 (.loop ic147l0))
 (.seq (.seq (.region [jv 6,jv 7,jw 13 (.bin .gtr .int) [.t 0,.t 1]])
 (.cond 13 (.exit 4)
 .skip))
 (.seq (.dr [[],[],[],[],[],[],[4,5],[6],[],[],[8,9],[10],[0,1,0,1,4,5,6,7,11],[12,7,0,1,4,5,6,7,11],[2,3,0,1,2,3,4,5,6,7,8,9,10,11,12,13],[14,11,13,0,1,2,3,4,5,6,7,8,9,10,11,12,13]] [jv 0,jv 6,jv 0,jv 7,jv 0,jv 7,ja 1 4 5,jl 6,jv 0,jv 6,ja 1 8 9,jl 10,ja 1 0 1,jq (.store 1) [.t 12,.t 7],ja 1 2 3,jq (.store 1) [.t 14,.t 11]])
 (.seq (.region [jv 6,jq (.bin .add .int) [.t 0,jn 1],jm 6 1])
 (.region [jv 7,jq (.bin .sub .int) [.t 0,jn 1],jm 7 1])))))))
def ic147l3:IC:=(.seq (.seq (.dr [[],[],[0,1],[2],[3],[3],[4,5,3],[6,3],[3],[3],[8,9,3],[10,3],[7,11,3,3],[12,3],[3,13]] [jv 6,jv 7,jq (.bin .leq .int) [.t 0,.t 1],jt 2,jh 3 true 0,jh 3 true 7,jg 3 true (.iaS 1) [.t 4,.t 5],ji 3 true 6,jh 3 true 0,jh 3 true 1,jg 3 true (.iaS 1) [.t 8,.t 9],ji 3 true 10,jf 3 true 145 [.t 7,.t 11],jg 3 true .not [.t 12],jw 9 .pick [.t 3,.t 13,jB false]])
 (.cond 9 .skip
 (.exit 2)))
 (.block 3 (.region [jv 7,jq (.bin .sub .int) [.t 0,jn 1],jm 7 1])))
def ic147l4:IC:=(.seq (.seq (.dr [[],[],[0,1],[2],[3],[3],[4,5,3],[6,3],[3],[3],[8,9,3],[10,3],[7,11,3,3],[3,12]] [jv 6,jv 7,jq (.bin .leq .int) [.t 0,.t 1],jt 2,jh 3 true 0,jh 3 true 6,jg 3 true (.iaS 1) [.t 4,.t 5],ji 3 true 6,jh 3 true 0,jh 3 true 1,jg 3 true (.iaS 1) [.t 8,.t 9],ji 3 true 10,jf 3 true 145 [.t 7,.t 11],jw 8 .pick [.t 3,.t 12,jB false]])
 (.cond 8 .skip
 (.exit 0)))
 (.block 1 (.region [jv 6,jq (.bin .add .int) [.t 0,jn 1],jm 6 1])))
def ic147:IC:=(.seq (.region [jz 4 0,jw 5 .mv [jB false]])
 (.seq (.dr [[],[],[],[],[],[],[4,5],[6],[],[],[8,9],[10],[0,1,0,1,4,5,6,7,11],[12,7,0,1,4,5,6,7,11],[2,3,0,1,2,3,4,5,6,7,8,9,10,11,12,13],[14,11,13,0,1,2,3,4,5,6,7,8,9,10,11,12,13]] [jv 0,jv 1,jv 0,jv 3,jv 0,jv 3,ja 1 4 5,jl 6,jv 0,jv 1,ja 1 8 9,jl 10,ja 1 0 1,jq (.store 1) [.t 12,.t 7],ja 1 2 3,jq (.store 1) [.t 14,.t 11]])
 (.seq (.region [jv 1,jq (.bin .add .int) [.t 0,jn 1],jv 2,jq (.bin .sub .int) [.t 2,jn 1],jm 6 1,jm 7 3])
 (.seq (.block 0 (.loop ic147l4))
 (.seq (.block 2 (.loop ic147l3))
 (.seq (.seq (.region [jv 6,jv 7,jw 10 (.bin .gtr .int) [.t 0,.t 1]])
 (.cond 10 (.seq (.dr [[],[],[],[],[],[],[4,5],[6],[],[],[8,9],[10],[0,1,0,1,4,5,6,7,11],[12,7,0,1,4,5,6,7,11],[2,3,0,1,2,3,4,5,6,7,8,9,10,11,12,13],[14,11,13,0,1,2,3,4,5,6,7,8,9,10,11,12,13]] [jv 0,jv 7,jv 0,jv 1,jv 0,jv 1,ja 1 4 5,jl 6,jv 0,jv 7,ja 1 8 9,jl 10,ja 1 0 1,jq (.store 1) [.t 12,.t 7],ja 1 2 3,jq (.store 1) [.t 14,.t 11]])
 (.seq (.region [jv 7,jm 4 0,jw 5 .mv [jB true]])
 .ret))
 .skip))
 (.seq (.dr [[],[],[],[],[],[],[4,5],[6],[],[],[8,9],[10],[0,1,0,1,4,5,6,7,11],[12,7,0,1,4,5,6,7,11],[2,3,0,1,2,3,4,5,6,7,8,9,10,11,12,13],[14,11,13,0,1,2,3,4,5,6,7,8,9,10,11,12,13]] [jv 0,jv 6,jv 0,jv 7,jv 0,jv 7,ja 1 4 5,jl 6,jv 0,jv 6,ja 1 8 9,jl 10,ja 1 0 1,jq (.store 1) [.t 12,.t 7],ja 1 2 3,jq (.store 1) [.t 14,.t 11]])
 (.seq (.region [jv 6,jq (.bin .add .int) [.t 0,jn 1],jm 6 1])
 (.seq (.region [jv 7,jq (.bin .sub .int) [.t 0,jn 1],jm 7 1])
 (.seq (.block 4 (.loop ic147l2))
 (.seq (.dr [[],[],[],[],[],[],[4,5],[6],[],[],[8,9],[10],[0,1,0,1,4,5,6,7,11],[12,7,0,1,4,5,6,7,11],[2,3,0,1,2,3,4,5,6,7,8,9,10,11,12,13],[14,11,13,0,1,2,3,4,5,6,7,8,9,10,11,12,13]] [jv 0,jv 7,jv 0,jv 1,jv 0,jv 1,ja 1 4 5,jl 6,jv 0,jv 7,ja 1 8 9,jl 10,ja 1 0 1,jq (.store 1) [.t 12,.t 7],ja 1 2 3,jq (.store 1) [.t 14,.t 11]])
 (.seq (.region [jv 7,jm 4 0,jw 5 .mv [jB false]])
 .ret))))))))))))
abbrev rs147:List RC:=[(.v 4),(.v 5)]
theorem fok147 (p:Bool):FnOk Tryz.prog 147 ⟨ic147,vs147,168,rs147,p⟩:=.mk2 Tryz.func147 (by kernel_rfl) (by kernel_rfl) (by kernel_rfl) (by kernel_rfl) (by kernel_rfl)
abbrev vs148:List Nat:=[0,1,4,5,7,8,9,16]
def ic148l0:IC:=(.seq (.region [jw 6 (.bin .lss .int) [.v 5,.v 4]])
 (.seq (.cond 6 .skip
 (.exit 0))
 (.seq (.block 1 (.seq (.region [jv 5,jm 3 0])
 (.seq (.region [jv 1,jv 0,jv 3,ja 1 1 2,jl 3,jw 7 (.bin .eql .int) [.t 0,.t 4]])
 (.cond 7 (.seq (.region [jv 3,jm 2 0])
 .ret)
 .skip))))
 (.region [jq (.bin .add .int) [.v 5,jn 1],jm 5 0]))))
def ic148:IC:=(.seq (.region [jz 2 0])
 (.seq (.seq (.region [jv 0,jw 4 (.len false) [.t 0],jz 5 0])
 (.block 0 (.loop ic148l0)))
 (.seq (.region [jz 2 (-1)])
 .ret)))
abbrev rs148:List RC:=[(.v 2)]
theorem fok148 (p:Bool):FnOk Tryz.prog 148 ⟨ic148,vs148,19,rs148,p⟩:=.mk2 Tryz.func148 (by kernel_rfl) (by kernel_rfl) (by kernel_rfl) (by kernel_rfl) (by kernel_rfl)
abbrev vs161:List Nat:=[0,1,2,3,8,9,16,36,52]
def ic161l0:IC:=(.block 1 (.seq (.region [jv 4,jq (.bin .mul .int) [jn 2,.t 0],jq (.bin .add .int) [.t 1,jn 1],jm 5 2])
 (.seq (.seq (.region [jv 5,jv 2,jw 6 (.bin .geq .int) [.t 0,.t 1]])
 (.cond 6 (.exit 0)
 .skip))
 (.seq (.seq (.dr [[],[0],[],[1,2],[3],[4],[4],[4],[6,7,4],[5,8,4],[9,4],[4],[4],[4],[12,13,4],[14,4],[11,15,4],[16,4],[10,17,4,4],[4,18]] [jv 5,jq (.bin .add .int) [.t 0,jn 1],jv 2,jq (.bin .lss .int) [.t 1,.t 2],jt 3,jh 4 true 0,jh 4 true 3,jh 4 true 5,jg 4 true (.bin .add .int) [.t 6,.t 7],jg 4 true (.iaS 1) [.t 5,.t 8],ji 4 true 9,jh 4 true 0,jh 4 true 3,jh 4 true 5,jg 4 true (.bin .add .int) [.t 12,.t 13],jg 4 true (.bin .add .int) [.t 14,jn 1],jg 4 true (.iaS 1) [.t 11,.t 15],ji 4 true 16,jf 4 true 145 [.t 10,.t 17],jw 7 .pick [.t 4,.t 18,jB false]])
 (.cond 7 (.region [jv 5,jq (.bin .add .int) [.t 0,jn 1],jm 5 1])
 .skip))
 (.seq (.seq (.dr [[],[],[],[1,2],[0,3],[4],[],[],[],[7,8],[6,9],[10],[5,11],[12]] [jv 0,jv 3,jv 4,jq (.bin .add .int) [.t 1,.t 2],ja 1 0 3,jl 4,jv 0,jv 3,jv 5,jq (.bin .add .int) [.t 7,.t 8],ja 1 6 9,jl 10,jk 145 [.t 5,.t 11],jw 8 .not [.t 12]])
 (.cond 8 .ret
 .skip))
 (.seq (.dr [[],[],[],[1,2],[],[],[],[5,6],[],[],[],[9,10],[8,11],[12],[],[],[],[15,16],[14,17],[18],[0,3,0,1,2,3,8,9,10,11,12,13,19],[20,13,0,1,2,3,8,9,10,11,12,13,19],[4,7,0,1,2,3,4,5,6,7,8,9,10,11,12,13,14,15,16,17,18,19,20,21],[22,19,21,0,1,2,3,4,5,6,7,8,9,10,11,12,13,14,15,16,17,18,19,20,21]] [jv 0,jv 3,jv 4,jq (.bin .add .int) [.t 1,.t 2],jv 0,jv 3,jv 5,jq (.bin .add .int) [.t 5,.t 6],jv 0,jv 3,jv 5,jq (.bin .add .int) [.t 9,.t 10],ja 1 8 11,jl 12,jv 0,jv 3,jv 4,jq (.bin .add .int) [.t 15,.t 16],ja 1 14 17,jl 18,ja 1 0 3,jq (.store 1) [.t 20,.t 13],ja 1 4 7,jq (.store 1) [.t 22,.t 19]])
 (.region [jv 5,jm 4 0])))))))
def ic161:IC:=(.seq (.region [jv 1,jm 4 0])
 (.block 0 (.loop ic161l0)))
abbrev rs161:List RC:=[]
theorem fok161 (p:Bool):FnOk Tryz.prog 161 ⟨ic161,vs161,76,rs161,p⟩:=.mk2 Tryz.func161 (by kernel_rfl) (by kernel_rfl) (by kernel_rfl) (by kernel_rfl) (by kernel_rfl)
abbrev vs162:List Nat:=[0,1,2,6]
def ic162:IC:=(.seq (.region [jz 3 0])
 (.seq (.region [jv 0,jv 1,jq (.bin .sub .int) [.t 1,jn 1],jv 1,jv 1,jq (.bin .add .int) [.t 4,jn 1],jv 2,jk 163 [.t 0,.t 2,.t 3,.t 5,.t 6],jm 3 7])
 .ret))
abbrev rs162:List RC:=[(.v 3)]
theorem fok162 (p:Bool):FnOk Tryz.prog 162 ⟨ic162,vs162,15,rs162,p⟩:=.mk2 Tryz.func162 (by kernel_rfl) (by kernel_rfl) (by kernel_rfl) (by kernel_rfl) (by kernel_rfl)
abbrev vs163:List Nat:=[0,1,2,3,4,10]
def ic163:IC:=(.seq (.region [jz 5 0])
 (.seq (.region [jv 0,jv 1,jv 2,jv 4,jk 173 [.t 0,.t 1,.t 2,.t 3],jt 4,jx 0 5,jx 1 5,jm 1 6,jm 2 7])
 (.seq (.region [jv 0,jv 2,jv 3,jv 4,jk 173 [.t 0,.t 1,.t 2,.t 3],jt 4,jx 0 5,jx 1 5,jm 2 6,jm 3 7])
 (.seq (.region [jv 0,jv 1,jv 2,jv 4,jk 173 [.t 0,.t 1,.t 2,.t 3],jt 4,jx 0 5,jx 1 5,jm 1 6,jm 2 7])
 (.seq (.region [jv 2,jm 5 0])
 .ret)))))
abbrev rs163:List RC:=[(.v 5)]
theorem fok163 (p:Bool):FnOk Tryz.prog 163 ⟨ic163,vs163,36,rs163,p⟩:=.mk2 Tryz.func163 (by kernel_rfl) (by kernel_rfl) (by kernel_rfl) (by kernel_rfl) (by kernel_rfl)
abbrev vs173:List Nat:=[0,1,2,3,8,9,18]
def ic173:IC:=(.seq (.region [jz 4 0,jz 5 0])
 (.seq (.seq (.dr [[],[],[0,1],[2],[],[],[4,5],[6],[3,7]] [jv 0,jv 2,ja 1 0 1,jl 2,jv 0,jv 1,ja 1 4 5,jl 6,jd 6 145 [.t 3,.t 7]])
 (.cond 6 (.seq (.region [jv 3,jc 0,jl 1,jq (.bin .add .int) [.t 2,jn 1],jc 0,jq (.store 1) [.t 4,.t 3]])
 (.seq (.region [jv 2,jv 1,jm 4 0,jm 5 1])
 .ret))
 .skip))
 (.seq (.region [jv 1,jv 2,jm 4 0,jm 5 1])
 .ret)))
abbrev rs173:List RC:=[(.v 4),(.v 5)]
theorem fok173 (p:Bool):FnOk Tryz.prog 173 ⟨ic173,vs173,28,rs173,p⟩:=.mk2 Tryz.func173 (by kernel_rfl) (by kernel_rfl) (by kernel_rfl) (by kernel_rfl) (by kernel_rfl)
inductive D {α:Sort 1} (a:α):Type where
 | mk
inductive D1 {α:Type} (a:α):Type where
 | mk
def gK (o:Option Bool) (x y:Prop) (_:D x) (_:D y):Prop:=match o with | none=>False | some false=>x | some true=>y
def pK (o:Option (AV × List AObj)) (K:AV→List AObj→Prop) (_:D1 K):Prop:=match o with | none=>False | some (v,σ)=>K v σ
def cK (o:AV) (x y:Prop) (_:D x) (_:D y):Prop:=match o with | .cv (.bool true)=>x | .cv (.bool false)=>y | _=>False
def ACk (P:Program) (f:FuncId) (args:List AV) (σ:List AObj) (K:AV→List AObj→Prop) (_:D1 K):Prop:=AC P f args σ K
def YCk (P:Program) (l:Nat) (args:List AV) (σ:List AObj) (K:AV→List AObj→Prop) (_:D1 K):Prop:=YC P l args σ K
def SA (P:Program) (fv:AV) (args:List AV) (σ:List AObj) (K:AV→List AObj→Prop) (_:D1 K):Prop:=X0 P fv args σ K
def QeE (P:Program) (as_:List AV) (σ:List AObj) (K:AV→List AObj→Prop) (d:D1 K):Prop:=match as_ with | fv::as_=>SA P fv as_ σ K d | []=>False
def oK (P:Program) (op:IK) (as_:List AV) (σ:List AObj) (K:AV→List AObj→Prop) (d:D1 K):Prop:=match op with | .prim io=>pK (ZQ io as_ σ) K d | .call=>QeE P as_ σ K d
def rK (o:Option AV) (K:AV→Prop) (_:D1 K):Prop:=match o with | none=>False | some v=>K v
def ILk (P:Program) (fx:Fx) (a:IC) (s:St) (Q:Exit→St→Prop) (_:D1 a) (_:D1 Q):Prop:=IL P fx a s Q
def DWk (P:Program) (fx:Fx) (dirs:List (List Nat)) (is:List Ins) (s:St) (Q:Exit→St→Prop) (_:D1 is) (_:D1 Q):Prop:=DW P fx dirs is s Q
def RWk (P:Program) (fx:Fx) (g:Opd) (ps:Array Nat) (assign body:Code) (s:St) (Q:Exit→St→Prop) (_:D1 assign) (_:D1 body) (_:D1 Q):Prop:=RW P fx g ps assign body s Q
theorem gK_t {x y:Prop} {d:D x} {e:D y}:gK (some true) x y d e=y:=Eq.trans rfl rfl
theorem gK_f {x y:Prop} {d:D x} {e:D y}:gK (some false) x y d e=x:=Eq.trans rfl rfl
theorem pK_s {v:AV} {σ:List AObj} {K:AV→List AObj→Prop} {d:D1 K}:pK (some (v,σ)) K d=K v σ:=Eq.trans rfl rfl
theorem cK_t {x y:Prop} {d:D x} {e:D y}:cK (.cv (.bool true)) x y d e=x:=Eq.trans rfl rfl
theorem cK_f {x y:Prop} {d:D x} {e:D y}:cK (.cv (.bool false)) x y d e=y:=Eq.trans rfl rfl
theorem callK_c {P:Program} {fv:AV} {as_:List AV} {σ:List AObj} {K:AV→List AObj→Prop} {d:D1 K}:QeE P (fv::as_) σ K d=SA P fv as_ σ K d:=Eq.trans rfl rfl
theorem oK_p {P:Program} {io:IOp} {as_:List AV} {σ:List AObj} {K:AV→List AObj→Prop} {d:D1 K}:oK P (.prim io) as_ σ K d=pK (ZQ io as_ σ) K d:=Eq.trans rfl rfl
theorem oK_c {P:Program} {as_:List AV} {σ:List AObj} {K:AV→List AObj→Prop} {d:D1 K}:oK P .call as_ σ K d=QeE P as_ σ K d:=Eq.trans rfl rfl
theorem rK_s {v:AV} {K:AV→Prop} {d:D1 K}:rK (some v) K d=K v:=Eq.trans rfl rfl
theorem CallV_fn {P:Program} {f:FuncId} {cap args:List AV} {σ:List AObj} {Q:AV→List AObj→Prop} {d:D1 Q}:SA P (.fn (.func f) cap) args σ Q d=ACk P f (args++cap) σ Q d:=Eq.trans rfl rfl
theorem CallV_bm {P:Program} {f:FuncId} {first args:List AV} {σ:List AObj} {Q:AV→List AObj→Prop} {d:D1 Q}:SA P (.bm f first) args σ Q d=ACk P f (first++args) σ Q d:=Eq.trans rfl rfl
theorem QfJ {P:Program} {l:Nat} {args:List AV} {σ:List AObj} {Q:AV→List AObj→Prop} {d:D1 Q}:SA P (.yld l) args σ Q d=YCk P l args σ Q d:=Eq.trans rfl rfl
def RS (P:Program):(is:List Ins)→List AV→List AV→List AObj→(K:List AV→List AV→List AObj→Prop)→D1 is→D1 K→Prop
 | [],vals,ρ,σ,K,_,_=>K vals ρ σ
 | i::is,vals,ρ,σ,K,_,_=>gK (gdOk ρ i.gd) (RS P is (setD i.dst vals (.tup [])) (ρ++[.tup []]) σ K .mk .mk) (oK P i.op (i.args.map (WY vals ρ)) σ (fun v σ'=>RS P is (setD i.dst vals v) (ρ++[v]) σ' K .mk .mk) .mk) .mk .mk
theorem RS_n {P:Program} {vals ρ:List AV} {σ:List AObj} {K:List AV→List AV→List AObj→Prop} {d:D1 ([]:List Ins)} {e:D1 K}:RS P [] vals ρ σ K d e=K vals ρ σ:=Eq.trans rfl rfl
theorem RS_c {P:Program} {i:Ins} {is:List Ins} {vals ρ:List AV} {σ:List AObj} {K:List AV→List AV→List AObj→Prop} {d:D1 (i::is)} {e:D1 K}:RS P (i::is) vals ρ σ K d e =
  gK (gdOk ρ i.gd) (RS P is (setD i.dst vals (.tup [])) (ρ++[.tup []]) σ K .mk .mk) (oK P i.op (i.args.map (WY vals ρ)) σ (fun v σ'=>RS P is (setD i.dst vals v) (ρ++[v]) σ' K .mk .mk) .mk) .mk .mk:=Eq.trans rfl rfl
theorem T2 {P:Program}:∀ (is:List Ins) (vals ρ:List AV) (σ:List AObj) (K:List AV→List AV→List AObj→Prop) (d:D1 is) (e:D1 K),RS P is vals ρ σ K d e→RG P is vals ρ σ K
 | [],_,_,_,_,_,_,h=>h
 | i :: is,vals,ρ,σ,K,_,_,h=>by
  simp only[RS] at h
  simp only[RG]
  unfold gK at h
  split at h
  ·exact h.elim
  ·rename_i hg;simp only[hg];exact T2 is _ _ _ _ _ _ h
  ·rename_i hg
   simp only[hg]
   unfold oK at h
   split at h
   ·rename_i io hop
    unfold pK at h
    split at h
    ·exact h.elim
    ·rename_i v σ' hs;simp only[hop,hs];exact T2 is _ _ _ _ _ _ h
   ·rename_i hop
    unfold QeE at h
    split at h
    ·rename_i fv as_ ha
     simp only[hop,ha]
     exact X0.mono h fun r τ hr=>T2 is _ _ _ _ _ _ hr
    ·exact h.elim
def kK (P:Program) (kp:Bool) (as_:List AV) (σ:List AObj) (K:AV→List AObj→Prop) (_:D1 K):Prop :=
 match kp,as_ with
 | true,fv::as_=>∃ v,X0 P fv as_ σ (fun v' τ'=>v'=v∧τ'=σ)∧QR σ.length v=true∧K v σ
 | false,fv::as_=>∃ v τ,X0 P fv as_ σ (fun v' τ'=>v'=v∧τ'=τ)∧HM σ v τ∧K v τ
 | _,[]=>False
def oX (P:Program) (kp:Bool) (op:IK) (as_:List AV) (σ:List AObj) (K:AV→List AObj→Prop) (d:D1 K):Prop:=match op with | .prim io=>pK (ZQ io as_ σ) K d | .call=>kK P kp as_ σ K d
theorem oX_p {P:Program} {kp:Bool} {io:IOp} {as_:List AV} {σ:List AObj} {K:AV→List AObj→Prop} {d:D1 K}:oX P kp (.prim io) as_ σ K d=pK (ZQ io as_ σ) K d:=Eq.trans rfl rfl
theorem oX_c {P:Program} {kp:Bool} {as_:List AV} {σ:List AObj} {K:AV→List AObj→Prop} {d:D1 K}:oX P kp .call as_ σ K d=kK P kp as_ σ K d:=Eq.trans rfl rfl
theorem YE {P:Program} {fv v:AV} {as_:List AV} {σ:List AObj} {K:AV→List AObj→Prop} {d:D1 K} (h:X0 P fv as_ σ fun v' τ'=>v'=v∧τ'=σ) (hl:QR 0 v=true) (hk:K v σ):kK P true (fv::as_) σ K d:=⟨v,h,Y8 (QF _) v hl,hk⟩
theorem MS {P:Program} {fv v:AV} {as_:List AV} {σ τ:List AObj} {K:AV→List AObj→Prop} {d:D1 K} (h:X0 P fv as_ σ fun v' τ'=>v'=v∧τ'=τ) (hl:HM σ v τ) (hk:K v τ):kK P false (fv::as_) σ K d:=⟨v,τ,h,hl,hk⟩
def RSx (P:Program) (kp:List Nat) (xs:List (Nat × Nat)):Nat→(is:List Ins)→List PlT→List (List AObj)→List AV→List AV→List AObj→(K:List AV→List AV→List AObj→Prop)→D1 is→D1 K→Prop
 | _,[],pl,hs,vals,ρ,σ,K,_,_=>xAll xs pl (hs++[σ])∧K vals ρ σ
 | j,i::is,pl,hs,vals,ρ,σ,K,_,_ =>
  gK (gdOk ρ i.gd) (RSx P kp xs (j+1) is (pl++[.no]) (hs++[σ]) (setD i.dst vals (.tup [])) (ρ++[.tup []]) σ K .mk .mk)
   (oX P (kp.contains j) i.op (i.args.map (WY vals ρ)) σ (fun v σ'=>RSx P kp xs (j+1) is (pl++[plOf i (i.args.map (WY vals ρ)) σ]) (hs++[σ]) (setD i.dst vals v) (ρ++[v]) σ' K .mk .mk) .mk) .mk .mk
theorem RSx_n {P:Program} {kp:List Nat} {xs:List (Nat × Nat)} {j:Nat} {pl:List PlT} {hs:List (List AObj)} {vals ρ:List AV} {σ:List AObj} {K:List AV→List AV→List AObj→Prop} {d:D1 ([]:List Ins)} {e:D1 K}:RSx P kp xs j [] pl hs vals ρ σ K d e=(xAll xs pl (hs++[σ])∧K vals ρ σ):=Eq.trans rfl rfl
theorem RSx_c {P:Program} {kp:List Nat} {xs:List (Nat × Nat)} {j:Nat} {pl:List PlT} {hs:List (List AObj)} {i:Ins} {is:List Ins} {vals ρ:List AV} {σ:List AObj} {K:List AV→List AV→List AObj→Prop} {d:D1 (i::is)} {e:D1 K}:RSx P kp xs j (i::is) pl hs vals ρ σ K d e =
  gK (gdOk ρ i.gd) (RSx P kp xs (j+1) is (pl++[.no]) (hs++[σ]) (setD i.dst vals (.tup [])) (ρ++[.tup []]) σ K .mk .mk)
   (oX P (kp.contains j) i.op (i.args.map (WY vals ρ)) σ (fun v σ'=>RSx P kp xs (j+1) is (pl++[plOf i (i.args.map (WY vals ρ)) σ]) (hs++[σ]) (setD i.dst vals v) (ρ++[v]) σ' K .mk .mk) .mk) .mk .mk:=Eq.trans rfl rfl
theorem EV {P:Program} {kp:List Nat} {xs:List (Nat × Nat)}:∀ (is:List Ins) (j:Nat) (pl:List PlT) (hs:List (List AObj)) (vals ρ:List AV) (σ:List AObj) (K:List AV→List AV→List AObj→Prop) (d:D1 is) (e:D1 K),RSx P kp xs j is pl hs vals ρ σ K d e→RPx P kp xs j is pl hs vals ρ σ K
 | [],_,_,_,_,_,_,_,_,_,h=>h
 | i :: is,j,pl,hs,vals,ρ,σ,K,_,_,h=>by
  simp only[RSx] at h
  simp only[RPx]
  unfold gK at h
  split at h
  ·exact h.elim
  ·rename_i hg;try simp only[hg]
   exact EV is _ _ _ _ _ _ _ _ _ h
  ·rename_i hg
   try simp only[hg]
   unfold oX at h
   split at h
   ·rename_i io hop
    unfold pK at h
    split at h
    ·exact h.elim
    ·rename_i v σ' hs';simp only[hop,hs'];exact EV is _ _ _ _ _ _ _ _ _ h
   ·rename_i hop
    have hpl:∀ as_,plOf i as_ σ=.no:=fun as_=>by simp[plOf,hop]
    unfold kK at h
    split at h
    ·rename_i fv as_ hkp ha
     simp only[hop,ha,hkp,if_true]
     obtain ⟨v,g1,g2,g3⟩:=h
     refine ⟨v,g1,g2,?_⟩
     have g3:=EV is _ _ _ _ _ _ _ _ _ g3
     rwa [hpl] at g3
    ·rename_i fv as_ hkp ha
     simp only[hop,ha,hkp,if_false,QT]
     obtain ⟨v,τ,g1,g2,g3⟩:=h
     refine ⟨v,τ,g1,g2,?_⟩
     have g3:=EV is _ _ _ _ _ _ _ _ _ g3
     rwa [hpl] at g3
    ·exact h.elim
def IS (P:Program) (fx:Fx):(ic:IC)→St→(Q:Exit→St→Prop)→D1 ic→D1 Q→Prop
 | .skip,s,Q,_,_=>Q .normal s
 | .label _,s,Q,_,_=>Q .normal s
 | .exit i,s,Q,_,_=>Q (.exit i) s
 | .ret,s,Q,_,_=>Q .ret s
 | .seq a b,s,Q,_,_=>IS P fx a s (fun e s'=>match e with | .normal=>IS P fx b s' Q .mk .mk | e=>Q e s') .mk .mk
 | .block i a,s,Q,_,_=>IS P fx a s (fun e s'=>match e with | .exit i'=>if i'=i then Q .normal s' else Q (.exit i') s' | e=>Q e s') .mk .mk
 | .cond i a b,s,Q,_,_=>cK (s.vals.getD i .undef) (IS P fx a s Q .mk .mk) (IS P fx b s Q .mk .mk) .mk .mk
 | .loop a,s,Q,_,_=>ILk P fx a s Q .mk .mk
 | .scope a,s,Q,_,_=>IS P fx a s (fun e s'=>match e with | .goto _=>False | e=>Q e s') .mk .mk
 | .region is,s,Q,_,_=>RS P is s.vals [] s.heap (fun vals _ σ=>Q .normal ⟨vals,σ⟩) .mk .mk
 | .draw dirs is _,s,Q,_,_=>DWk P fx dirs is s Q .mk .mk
 | .rangef g ps assign body _ _,s,Q,_,_=>RWk P fx g ps assign body s Q .mk .mk .mk
section
variable {P:Program} {fx:Fx} {s:St} {Q:Exit→St→Prop} {e:D1 Q}
theorem IS_skip {d:D1 IC.skip}:IS P fx .skip s Q d e=Q .normal s:=Eq.trans rfl rfl
theorem IS_label {l:Nat} {d:D1 (IC.label l)}:IS P fx (.label l) s Q d e=Q .normal s:=Eq.trans rfl rfl
theorem IS_exit {i:Nat} {d:D1 (IC.exit i)}:IS P fx (.exit i) s Q d e=Q (.exit i) s:=Eq.trans rfl rfl
theorem IS_ret {d:D1 IC.ret}:IS P fx .ret s Q d e=Q .ret s:=Eq.trans rfl rfl
def kSeq (P:Program) (fx:Fx) (b:IC) (Q:Exit→St→Prop):Exit→St→Prop:=fun e s'=>match e with | .normal=>IS P fx b s' Q .mk .mk | e=>Q e s'
def Qal (i:Nat) (Q:Exit→St→Prop):Exit→St→Prop:=fun e s'=>match e with | .exit i'=>if i'=i then Q .normal s' else Q (.exit i') s' | e=>Q e s'
def Qak (Q:Exit→St→Prop):Exit→St→Prop:=fun e s'=>match e with | .goto _=>False | e=>Q e s'
def kReg (Q:Exit→St→Prop):List AV→List AV→List AObj→Prop:=fun vals _ σ=>Q .normal ⟨vals,σ⟩
theorem kSeq_n {b:IC}:kSeq P fx b Q .normal s=IS P fx b s Q .mk .mk:=Eq.trans rfl rfl
theorem kSeq_x {b:IC} {i:Nat}:kSeq P fx b Q (.exit i) s=Q (.exit i) s:=Eq.trans rfl rfl
theorem kSeq_r {b:IC}:kSeq P fx b Q .ret s=Q .ret s:=Eq.trans rfl rfl
theorem kBlock_n {i:Nat}:Qal i Q .normal s=Q .normal s:=Eq.trans rfl rfl
theorem kBlock_x {i i':Nat}:Qal i Q (.exit i') s=if i'=i then Q .normal s else Q (.exit i') s:=Eq.trans rfl rfl
theorem kBlock_r {i:Nat}:Qal i Q .ret s=Q .ret s:=Eq.trans rfl rfl
theorem kScope_n:Qak Q .normal s=Q .normal s:=Eq.trans rfl rfl
theorem kScope_x {i':Nat}:Qak Q (.exit i') s=Q (.exit i') s:=Eq.trans rfl rfl
theorem kScope_r:Qak Q .ret s=Q .ret s:=Eq.trans rfl rfl
theorem kReg_n {vals ρ:List AV} {σ:List AObj}:kReg Q vals ρ σ=Q .normal ⟨vals,σ⟩:=Eq.trans rfl rfl
theorem IS_seq {a b:IC} {d:D1 (IC.seq a b)}:IS P fx (.seq a b) s Q d e=IS P fx a s (kSeq P fx b Q) .mk .mk:=Eq.trans rfl rfl
theorem IS_block {i:Nat} {a:IC} {d:D1 (IC.block i a)}:IS P fx (.block i a) s Q d e=IS P fx a s (Qal i Q) .mk .mk:=Eq.trans rfl rfl
theorem IS_cond {i:Nat} {a b:IC} {d:D1 (IC.cond i a b)}:IS P fx (.cond i a b) s Q d e=cK (s.vals.getD i .undef) (IS P fx a s Q .mk .mk) (IS P fx b s Q .mk .mk) .mk .mk:=Eq.trans rfl rfl
theorem IS_loop {a:IC} {d:D1 (IC.loop a)}:IS P fx (.loop a) s Q d e=ILk P fx a s Q .mk .mk:=Eq.trans rfl rfl
theorem IS_scope {a:IC} {d:D1 (IC.scope a)}:IS P fx (.scope a) s Q d e=IS P fx a s (Qak Q) .mk .mk:=Eq.trans rfl rfl
theorem QfG {is:List Ins} {d:D1 (IC.region is)}:IS P fx (.region is) s Q d e=RS P is s.vals [] s.heap (kReg Q) .mk .mk:=Eq.trans rfl rfl
theorem IS_draw {dirs:List (List Nat)} {is:List Ins} {pds:List (List Nat)} {d:D1 (IC.draw dirs is pds)}:IS P fx (.draw dirs is pds) s Q d e=DWk P fx dirs is s Q .mk .mk:=Eq.trans rfl rfl
theorem IS_dr {dirs:List (List Nat)} {is:List Ins} {d:D1 (IC.dr dirs is)}:IS P fx (.dr dirs is) s Q d e=DWk P fx dirs is s Q .mk .mk:=Eq.trans rfl rfl
theorem QfH {g:Opd} {ps:Array Nat} {assign body:Code} {ia ib:IC} {d:D1 (IC.rangef g ps assign body ia ib)}:IS P fx (.rangef g ps assign body ia ib) s Q d e=RWk P fx g ps assign body s Q .mk .mk .mk:=Eq.trans rfl rfl
end
theorem BC {P:Program} {fx:Fx}:∀ (ic:IC) (s:St) (Q Q':Exit→St→Prop),(∀ e s,Q e s→Q' e s)→IW P fx ic s Q→IW P fx ic s Q':=by
 intro ic
 induction ic with
 | skip=>intro s Q Q' hq h;exact hq _ _ h
 | label _=>intro s Q Q' hq h;exact hq _ _ h
 | exit _=>intro s Q Q' hq h;exact hq _ _ h
 | ret=>intro s Q Q' hq h;exact hq _ _ h
 | seq a b iha ihb =>
  intro s Q Q' hq h
  refine iha s _ _ ?_ h
  intro e s' h'
  cases e with
  | normal=>exact ihb s' Q Q' hq h'
  | _=>exact hq _ _ h'
 | block i a iha =>
  intro s Q Q' hq h
  refine iha s _ _ ?_ h
  intro e s' h'
  cases e with
  | exit i' =>
   simp only at h' ⊢
   by_cases hi:i'=i
   ·rw[if_pos hi] at h' ⊢;exact hq _ _ h'
   ·rw[if_neg hi] at h' ⊢;exact hq _ _ h'
  | _=>exact hq _ _ h'
 | cond i a b iha ihb =>
  intro s Q Q' hq h
  obtain ⟨t,h1,h2⟩:=h
  refine ⟨t,h1,?_⟩
  cases t with
  | true=>exact iha s Q Q' hq h2
  | false=>exact ihb s Q Q' hq h2
 | loop a _=>intro s Q Q' hq h;exact fun c hc=>(h c hc).mono hq
 | scope a iha =>
  intro s Q Q' hq h
  refine iha s _ _ ?_ h
  intro e s' h'
  cases e with
  | goto l=>exact h'
  | _=>exact hq _ _ h'
 | region is =>
  intro s Q Q' hq h
  have key:∀ (is:List Ins) (vals ρ:List AV) (σ:List AObj) (K K':List AV→List AV→List AObj→Prop),(∀ a b c,K a b c→K' a b c)→RG P is vals ρ σ K→RG P is vals ρ σ K':=by
   intro is
   induction is with
   | nil=>intro vals ρ σ K K' hk h;exact hk _ _ _ h
   | cons i is ih =>
    intro vals ρ σ K K' hk h
    simp only[RG] at h ⊢
    split at h
    ·exact h
    ·rename_i hg;exact ih _ _ _ _ _ hk h
    ·rename_i hg
     split at h
     ·rename_i hop
      split at h
      ·rename_i hs;exact ih _ _ _ _ _ hk h
      ·exact h
     ·rename_i hop ha;exact h.mono fun r τ hr=>ih _ _ _ _ _ hk hr
     ·exact h
  exact key is _ _ _ _ _ (fun a b c h=>hq _ _ h) h
 | draw dirs is pds=>intro s Q Q' hq h;exact fun id ops h1 h2=>(h id ops h1 h2).mono hq
 | rangef g ps assign body ia ib _ _ =>
  intro s Q Q' hq h
  obtain ⟨gf,cap,h1,h2,h3,h4⟩:=h
  refine ⟨gf,cap,h1,h2,h3,h4.mono ?_⟩
  rintro r σ' ⟨r2,g1,g2,g3⟩
  refine ⟨r2,g1,g2,?_⟩
  cases hp:r2.pending with
  | none=>rw[hp] at g3;exact hq _ _ g3
  | some c=>rw[hp] at g3;exact W.mono g3 hq
theorem VT {P:Program} {fx:Fx}:∀ (ic:IC) (s:St) (Q:Exit→St→Prop) (d:D1 ic) (e:D1 Q),IS P fx ic s Q d e→IW P fx ic s Q:=by
 intro ic
 induction ic with
 | skip=>intro s Q _ _ h;exact h
 | label _=>intro s Q _ _ h;exact h
 | exit _=>intro s Q _ _ h;exact h
 | ret=>intro s Q _ _ h;exact h
 | seq a b iha ihb =>
  intro s Q _ _ h
  refine BC a s _ _ ?_ (iha s _ _ _ h)
  intro e s' h'
  cases e with
  | normal=>exact ihb s' Q _ _ h'
  | _=>exact h'
 | block i a iha=>intro s Q _ _ h;exact iha s _ _ _ h
 | cond i a b iha ihb =>
  intro s Q _ _ h
  simp only[IS] at h
  unfold cK at h
  split at h
  ·rename_i hv;exact ⟨true,hv,iha s Q _ _ h⟩
  ·rename_i hv;exact ⟨false,hv,ihb s Q _ _ h⟩
  ·exact h.elim
 | loop a _=>intro s Q _ _ h;exact h
 | scope a iha=>intro s Q _ _ h;exact iha s _ _ _ h
 | region is=>intro s Q _ _ h;exact T2 is _ _ _ _ _ _ h
 | draw dirs is pds=>intro s Q _ _ h;exact h
 | rangef g ps assign body ia ib _ _=>intro s Q _ _ h;exact h
def kEnd (res:List RC) (Q:AV→List AObj→Prop):Exit→St→Prop:=fun e s'=>match e with
 | .normal | .ret=>rK (RL s'.vals s'.heap res) (fun r=>Q r s'.heap) .mk
 | _=>False
theorem kEnd_n {res:List RC} {Q:AV→List AObj→Prop} {s:St}:kEnd res Q .normal s=rK (RL s.vals s.heap res) (fun r=>Q r s.heap) .mk:=Eq.trans rfl rfl
theorem kEnd_r {res:List RC} {Q:AV→List AObj→Prop} {s:St}:kEnd res Q .ret s=rK (RL s.vals s.heap res) (fun r=>Q r s.heap) .mk:=Eq.trans rfl rfl
theorem ZF {P:Program} {f:FuncId} {ic:IC} {vars:List Nat} {N:Nat} {res:List RC} {p:Bool} {args:List AV} {σ:List AObj} {Q:AV→List AObj→Prop} (hf:FnOk P f ⟨ic,vars,N,res,p⟩) (hargs:args.length≤N)
  (h:IS P ⟨vars,N,none,σ.length⟩ ic ⟨Y5 vars args,σ⟩ (kEnd res Q) .mk .mk):AC P f args σ Q:=by
 obtain ⟨fn,c,h1,h2,h3,h4,h5,h6⟩:=hf.ok
 dsimp only at h4 h5 h6
 subst h4
 have hr:∀ vals heap,UB P vars vals heap fn.results.toList=RL vals heap res:=fun vals heap=>BY h6
 refine AC_IW vars h1 h2 h3 hargs h5 (BC ic _ _ _ ?_ (VT ic _ _ _ _ h))
 intro e s' h'
 have key:rK (RL s'.vals s'.heap res) (fun r=>Q r s'.heap) .mk→∃ r,UB P vars s'.vals s'.heap fn.results.toList=some r∧Q r s'.heap:=by
  intro h'
  unfold rK at h'
  split at h'
  ·exact h'.elim
  ·rename_i v hv;exact ⟨v,by rw[hr];exact hv,h'⟩
 cases e with
 | normal=>exact key h'
 | ret=>exact key h'
 | _=>exact h'
theorem DW_s {P:Program} {fx:Fx} {s:St} {Q:Exit→St→Prop} {dirs:List (List Nat)} {is:List Ins} (kp:List Nat) (xs:List (Nat × Nat)) (hmix:P.follows .mixedOrders=true) (hord:RQ dirs is (Qbd dirs []) kp xs=true) (hvl:s.vals.length=fx.vars.length)
  (h:RSx P kp xs 0 is [] [] s.vals [] s.heap (kReg Q) .mk .mk):DW P fx dirs is s Q:=DW_ordx kp xs hmix hord hvl (EV _ _ _ _ _ _ _ _ _ _ h)
def kUn (P:Program) (fx:Fx) (a:IC) (Q:Exit→St→Prop):Exit→St→Prop:=fun e s'=>match e with | .normal=>IL P fx a s' Q | e=>Q e s'
theorem kUn_n {P:Program} {fx:Fx} {a:IC} {Q:Exit→St→Prop} {s:St}:kUn P fx a Q .normal s=ILk P fx a s Q .mk .mk:=Eq.trans rfl rfl
theorem kUn_x {P:Program} {fx:Fx} {a:IC} {Q:Exit→St→Prop} {s:St} {i:Nat}:kUn P fx a Q (.exit i) s=Q (.exit i) s:=Eq.trans rfl rfl
theorem kUn_r {P:Program} {fx:Fx} {a:IC} {Q:Exit→St→Prop} {s:St}:kUn P fx a Q .ret s=Q .ret s:=Eq.trans rfl rfl
def kFor (fx:Fx) (c:Prop) (S:St→Prop) (Q:Exit→St→Prop):Exit→St→Prop:=fun e s'=>match e with | .normal=>c∧∃ s'',Weak fx s' s''∧S s'' | e=>Q e s'
theorem kFor_x {fx:Fx} {c:Prop} {S:St→Prop} {Q:Exit→St→Prop} {i:Nat} {s:St}:kFor fx c S Q (.exit i) s=Q (.exit i) s:=Eq.trans rfl rfl
theorem kFor_r {fx:Fx} {c:Prop} {S:St→Prop} {Q:Exit→St→Prop} {s:St}:kFor fx c S Q .ret s=Q .ret s:=Eq.trans rfl rfl
theorem ZL {fx:Fx} {c:Prop} {S:St→Prop} {Q:Exit→St→Prop} {s:St} (hc:c) (h:S s):kFor fx c S Q .normal s:=⟨hc,s,Weak.refl _ _,h⟩
theorem AS {fx:Fx} {c:Prop} {S:St→Prop} {Q:Exit→St→Prop} {s s':St} (hc:c) (hw:Weak fx s s') (h:S s'):kFor fx c S Q .normal s:=⟨hc,s',hw,h⟩
theorem ZW {P:Program} {fx:Fx} {a:IC} {Q:Exit→St→Prop} (n:Nat) (S:Nat→St→Prop)
  (h:∀ i s,i≤n→S i s→IS P fx a s (kFor fx (i<n) (S (i+1)) Q) .mk .mk) (i:Nat) (hi:i≤n) {s:St} (hs:S i s):IL P fx a s Q:=by
 intro c hc
 have key:∀ (k i:Nat) (s:St),n-i=k→i≤n→S i s→WL P fx c s Q:=by
  intro k
  induction k with
  | zero =>
   intro i s hk hi hs
   refine FG ((Y6 c a s _ hc (VT _ _ _ _ _ (h i s hi hs))).mono ?_)
   intro e s' hq
   cases e with
   | normal=>exact absurd hq.1 (by omega)
   | _=>exact hq
  | succ k ih =>
   intro i s hk hi hs
   refine FG ((Y6 c a s _ hc (VT _ _ _ _ _ (h i s hi hs))).mono ?_)
   intro e s' hq
   cases e with
   | normal =>
    obtain ⟨h1,s'',h2,h3⟩:=hq
    exact (ih (i+1) s'' (by omega) h1 h3).weak h2
   | _=>exact hq
 exact key (n-i) i s rfl hi hs
abbrev ints (zs:List Int):AV:=.cv (.rsl (zs.map (.int .i64)) zs.length)
theorem J5 {kd:IntKind} {zs:List Int} {n:Nat} {k:Nat} (h:k<n) (σ:List AObj):VP 1 [.cv (.rsl (zs.map (.int kd)) n),.cv (.int .i64 k)] σ=some (.cv (.rp (zs.map (.int kd)) k),σ):=by
 simp[VP,h]
theorem J4 {kd:IntKind} {zs:List Int} {k:Nat} (h:k<zs.length):(zs.map (CV.int kd))[k]? = some (.int kd (zs.getD k 0)):=by
 simp[List.getD,h]
theorem ZC {n:Int} (h:-9223372036854775808≤n∧n≤9223372036854775807):IntKind.i64.wrap n=n:=by
 simp[IntKind.wrap,IntKind.bits,IntKind.signed,Int.bmod]
 omega
theorem AC.run {P:Program} {f:FuncId} {args:List AV} {v:AV} {σ τ:List AObj} {K:AV→List AObj→Prop} (h:AC P f args σ fun r τ'=>r=v∧τ'=τ) (hk:K v τ):AC P f args σ K:=h.mono fun r τ ⟨h1,h2⟩=>by rw[h1,h2];exact hk
theorem X0.run {P:Program} {fv:AV} {args:List AV} {v:AV} {σ τ:List AObj} {K:AV→List AObj→Prop} (h:X0 P fv args σ fun r τ'=>r=v∧τ'=τ) (hk:K v τ):X0 P fv args σ K:=h.mono fun r τ ⟨h1,h2⟩=>by rw[h1,h2];exact hk
theorem P2 {p:CV→Prop} {σ:List AObj} (hp:∀ z,p (.int .i64 z)):∀ zs:List Int,HL p σ (zs.map AV.i) (zs.map (.int .i64))
 | []=>.nil
 | z::zs=>.cons (.c _ (hp z)) (P2 hp zs)
theorem TN {p:CV→Prop} (hp:∀ z,p (.int .i64 z)) {σ:List AObj} {zs:List Int} {l:Nat} (hr:rowOf σ l=some (zs.map AV.i)):FrzV p σ (.sl l 0 zs.length 1) (ints zs):=by
 refine .c (.sl l 0 zs.length 1 _ _ hr (by simp) ?_)
 have:((zs.map AV.i).drop 0).take (zs.length*1)=zs.map AV.i:=by rw[YO];exact Q5 (by simp)
 rw[this]
 exact P2 hp zs
theorem U4 {p:CV→Prop} (hp:∀ z,p (.int .i64 z)) {σ:List AObj} {zs:List Int} {l n:Nat} (hn:n=zs.length) (hr:rowOf σ l=some (zs.map AV.i)):FrzV p σ (.sl l 0 n 1) (ints zs):=by subst hn;exact TN hp hr
theorem frz_one {p:CV→Prop} (hp:∀ z,p (.int .i64 z)) {σ:List AObj} {z:Int} {l:Nat} (hr:rowOf σ l=some [AV.i z]):FrzV p σ (.sl l 0 1 1) (ints [z]):=TN hp (zs:=[z]) hr
theorem W9 {l off n k:Nat} (h:k<n) (σ:List AObj):VP 1 [.sl l off n 1,.cv (.int .i64 k)] σ=some (.ptr l (off+k),σ):=by
 simp[VP,h]
theorem slc_addr {l off n c k:Nat} (h:k<n) (σ:List AObj):VP 1 [.slc l off n c 1,.cv (.int .i64 k)] σ=some (.ptr l (off+k),σ):=by
 simp[VP,h]
theorem V1 {zs:List Int} {k:Nat} (h:k<zs.length):(zs.map AV.i)[k]? = some (.i (zs[k]?.getD 0)):=by simp[h]
theorem GC {zs:List Int} {k:Nat} {o:Int}:(zs.map AV.i).set k (.cv (.int .i64 o))=(zs.set k o).map AV.i:=List.map_set.symm
theorem RY {p:CV→Prop} {σ:List AObj}:FrzV p σ (.cv .nils) (ints []):=.c .nl
theorem HE {cs:List AV} {σ:List AObj}:rowOf (AObj.cells cs::σ) 0=some cs:=rfl
theorem MK {o:AObj} {σ:List AObj} {n:Nat}:rowOf (o::σ) (n+1)=rowOf σ n:=rfl
theorem Qc8 {cs:List AV} {n:Nat}:setRange cs n []=cs:=rfl
theorem BQ {cs:List AV} {n:Nat} {v:AV} {vs:List AV}:setRange cs n (v::vs)=setRange (cs.set n v) (n+1) vs:=rfl
def SB (σ:List AObj) (v:AV) (zs:List Int):Prop:=(v=.cv .nils∧zs=[])∨∃ l,v=.sl l 0 zs.length 1∧rowOf σ l=some (zs.map AV.i)
theorem FU {σ:List AObj} {l:Nat} {cs:List AV} (h:rowOf σ l=some cs) (x:AObj):rowOf (σ++[x]) l=some cs:=by
 have h:=WO h
 unfold rowOf;rw[QE (QH.1 h).1,h]
theorem XH (σ:List AObj) (cs:List AV):rowOf (σ++[.cells cs]) σ.length=some cs:=by simp[rowOf]
theorem SB.nil (σ:List AObj):SB σ (.cv .nils) []:=.inl ⟨rfl,rfl⟩
theorem QdK {σ:List AObj} {v:AV} {zs:List Int} (z:Int) (h:SB σ v zs) (hl:zs.length<2 ^ 40) :
  ∃ (v':AV) (σ':List AObj),ZX 1 8 [v,.sl σ.length 0 1 1] (σ++[AObj.cells [.i z]])=some (v',σ')∧SB σ' v' (zs++[z]):=by
 have hsrc:Z9 (σ++[AObj.cells [.i z]]) 1 (.sl σ.length 0 1 1)=some [.i z]:=by simp[Z9,rowOf]
 rcases h with ⟨rfl,rfl⟩ | ⟨l,rfl,hr⟩
 ·refine ⟨.sl (σ++[AObj.cells [.i z]]).length 0 1 1,(σ++[AObj.cells [.i z]])++[AObj.cells [.i z]],?_,.inr ⟨_,rfl,?_⟩⟩
  ·simp only[ZX,hsrc,lenF,Option.bind_some]
   rfl
  ·rw[XH];rfl
 ·have hr':=FU hr (AObj.cells [.i z])
  refine ⟨.sl (σ++[AObj.cells [.i z]]).length 0 (zs.length+1) 1,(σ++[AObj.cells [.i z]]).set l AObj.dead++[AObj.cells (zs.map AV.i++[.i z])],?_,.inr ⟨(σ++[AObj.cells [.i z]]).length,by simp,?_⟩⟩
  ·simp only[ZX,hr',hsrc,lenF,Option.bind_some]
   have hp:(2:Nat) ^ 40=1099511627776:=by decide
   have hp2:(2:Nat) ^ 44=17592186044416:=by decide
   have hc:(True∧zs.length*1≤(zs.map AV.i).length∧1*1=[AV.i z].length∧(zs.length+1)*8≤2 ^ 44∧zs.length+1≤2 ^ 44∧[AV.i z].all AV.isSc=true):=by
    refine ⟨trivial,by simp,rfl,by omega,by omega,rfl⟩
   rw[if_pos hc,W3,Q5 (by simp)]
  ·have:(σ++[AObj.cells [.i z]]).length=((σ++[AObj.cells [.i z]]).set l AObj.dead).length:=by simp
   rw[this,XH];simp
def G9 (b:Nat) (σ:List AObj) (v:AV) (zs:List Int):Prop:=b≤σ.length∧((v=.cv .nils∧zs=[])∨∃ l,b≤l∧v=.sl l 0 zs.length 1∧rowOf σ l=some (zs.map AV.i))
theorem G9.acc {b:Nat} {σ:List AObj} {v:AV} {zs:List Int} (h:G9 b σ v zs):SB σ v zs:=h.2.imp id fun ⟨l,_,h1,h2⟩=>⟨l,h1,h2⟩
theorem G9.nil {b:Nat} {σ:List AObj} (h:b≤σ.length):G9 b σ (.cv .nils) []:=⟨h,.inl ⟨rfl,rfl⟩⟩
theorem QX {σ:List AObj} {l l':Nat} (h:l≠l') (x:AObj):rowOf (σ.set l x) l'=rowOf σ l':=by unfold rowOf;rw[QU h]
theorem W0 {σ:List AObj} {l:Nat} {cs cs':List AV} (h:rowOf σ l=some cs):rowOf (σ.set l (AObj.cells cs')) l=some cs':=by
 have h:=(QH.1 (WO h)).1
 unfold rowOf;rw[Z2 h]
theorem acc_frz {p:CV→Prop} (hp:∀ z,p (.int .i64 z)) {σ:List AObj} {v:AV} {zs:List Int} (h:SB σ v zs):FrzV p σ v (ints zs):=by
 rcases h with ⟨rfl,rfl⟩ | ⟨l,rfl,hr⟩
 ·exact RY
 ·exact TN hp hr
theorem bTF:(true == false)=false:=rfl
theorem bFT:(false == true)=false:=rfl
theorem bTT:(true == true)=true:=rfl
theorem bFF:(false == false)=true:=rfl
def frzA:=And.intro (And.intro (And.intro (@W3) (@Nat.one_mul)) (And.intro (@YO.{0}) (@List.take_succ_cons.{0}))) (And.intro (And.intro (@List.take_zero.{0}) (And.intro (@Q0.{0,0}) (@WS.{0,0}))) (And.intro (@List.cons_append.{0}) (And.intro (@List.nil_append.{0}) (@ZU.{0}))))
def ev0:=And.intro (And.intro (And.intro (And.intro (@IS_skip) (And.intro (@IS_label) (@IS_exit))) (And.intro (@IS_ret) (And.intro (@IS_seq) (@IS_block)))) (And.intro (And.intro (@IS_cond) (And.intro (@IS_loop) (@IS_scope))) (And.intro (@QfG) (And.intro (And.intro (@IS_draw) (@IS_dr)) (@QfH))))) (And.intro (And.intro (And.intro (@kSeq_n) (And.intro (@kSeq_x) (@kSeq_r))) (And.intro (@kBlock_n) (And.intro (@kBlock_x) (@kBlock_r)))) (And.intro (And.intro (@kScope_n) (And.intro (@kScope_x) (@kScope_r))) (And.intro (@kReg_n) (And.intro (@kEnd_n) (@kEnd_r)))))
def ev1:=And.intro (And.intro (And.intro (And.intro (@kUn_n) (And.intro (@kUn_x) (@kUn_r))) (And.intro (@kFor_x) (And.intro (@kFor_r) (@RS_n)))) (And.intro (And.intro (@RS_c) (And.intro (@RSx_n) (@RSx_c))) (And.intro (@gdOk.eq_1) (And.intro (@gdOk.eq_2) (@gK_t))))) (And.intro (And.intro (And.intro (@gK_f) (And.intro (@pK_s) (@cK_t))) (And.intro (@cK_f) (And.intro (@callK_c) (@oK_p)))) (And.intro (And.intro (@oK_c) (And.intro (@oX_p) (@oX_c))) (And.intro (@rK_s) (And.intro (@QfJ) (@plOf.eq_1)))))
def ev2:=And.intro (And.intro (And.intro (And.intro (@YX.eq_1) (And.intro (@YX.eq_2) (@xOne.eq_1))) (And.intro (@xOne.eq_2) (And.intro (@O4.eq_1) (@O4.eq_2)))) (And.intro (And.intro (@kindOf.eq_1) (And.intro (@kindOf.eq_2) (@kindOf.eq_3))) (And.intro (@kindOf.eq_4) (And.intro (@kindOf.eq_5) (@kindOf.eq_6))))) (And.intro (And.intro (And.intro (@kindOf.eq_7) (And.intro (@kindOf.eq_8) (@kindOf.eq_9))) (And.intro (@kindOf.eq_10) (And.intro (@kindOf.eq_11) (@kindOf.eq_12)))) (And.intro (And.intro (@kindOf.eq_13) (And.intro (@kindOf.eq_14) (@kindOf.eq_15))) (And.intro (@kindOf.eq_16) (And.intro (@kindOf.eq_17) (@kindOf.eq_18)))))
def ev3:=And.intro (And.intro (And.intro (And.intro (@kindOf.eq_19) (And.intro (@kindOf.eq_20) (@kindOf.eq_21))) (And.intro (@kindOf.eq_22) (And.intro (@kindOf.eq_23) (@kindOf.eq_24)))) (And.intro (And.intro (@kindOf.eq_25) (And.intro (@kindOf.eq_26) (@kindOf.eq_27))) (And.intro (@JJ.eq_1) (And.intro (@JJ.eq_2) (@JJ.eq_3))))) (And.intro (And.intro (And.intro (@JJ.eq_4) (And.intro (@YH.{0,0}) (@List.flatMap_nil.{0,0}))) (And.intro (@Q0.{0,0}) (And.intro (@WS.{0,0}) (@WY.eq_1)))) (And.intro (And.intro (@WY.eq_2) (And.intro (@WY.eq_3) (@ZQ.eq_1))) (And.intro (@ZQ.eq_2) (And.intro (@ZQ.eq_3) (@ZQ.eq_4)))))
def ev4:=And.intro (And.intro (And.intro (And.intro (@ZQ.eq_5) (And.intro (@ZQ.eq_6) (@ZQ.eq_7))) (And.intro (@ZQ.eq_8) (And.intro (@ZQ.eq_9) (@ZQ.eq_10)))) (And.intro (And.intro (@ZQ.eq_11) (And.intro (@ZQ.eq_12) (@ZQ.eq_13))) (And.intro (@ZQ.eq_14) (And.intro (@ZQ.eq_15) (@ZQ.eq_16))))) (And.intro (And.intro (And.intro (@ZQ.eq_17) (And.intro (@ZQ.eq_18) (@ZQ.eq_19))) (And.intro (@ZQ.eq_20) (And.intro (@ZQ.eq_21) (@ZQ.eq_22)))) (And.intro (And.intro (@ZQ.eq_23) (And.intro (@ZQ.eq_24) (@ZQ.eq_25))) (And.intro (@ZQ.eq_26) (And.intro (@ZQ.eq_27) (@ZQ.eq_28)))))
def ev5:=And.intro (And.intro (And.intro (And.intro (@ZQ.eq_29) (And.intro (@ZQ.eq_30) (@ZQ.eq_31))) (And.intro (@ZQ.eq_32) (And.intro (@ZQ.eq_33) (@ZQ.eq_34)))) (And.intro (And.intro (@ZQ.eq_35) (And.intro (@ZQ.eq_36) (@f_mv.eq_1))) (And.intro (@f_mv.eq_2) (And.intro (@P4.eq_1) (@P4.eq_2))))) (And.intro (And.intro (And.intro (@CN.eq_1) (And.intro (@CN.eq_2) (@OJ.eq_1))) (And.intro (And.intro (@OJ.eq_2) (@OJ.eq_3)) (And.intro (@P5.eq_1) (@P5.eq_2)))) (And.intro (And.intro (@UO.eq_1) (And.intro (@UO.eq_2) (@WI.eq_1))) (And.intro (@WI.eq_2) (And.intro (@DL.eq_1) (@V4.eq_1)))))
def ev6:=And.intro (And.intro (And.intro (And.intro (@KZ.eq_1) (And.intro (@KZ.eq_2) (@KZ.eq_3))) (And.intro (@YF.eq_1) (And.intro (@YF.eq_2) (@YF.eq_3)))) (And.intro (And.intro (@UM.eq_1) (And.intro (@UM.eq_2) (@G4.eq_1))) (And.intro (@G4.eq_2) (And.intro (@G4.eq_3) (@G4.eq_4))))) (And.intro (And.intro (And.intro (@NI.eq_1) (And.intro (@NJ.eq_1) (@RZ.eq_1))) (And.intro (@RZ.eq_2) (And.intro (@RZ.eq_3) (@RZ.eq_4)))) (And.intro (And.intro (@RZ.eq_5) (And.intro (@DK.eq_1) (@DK.eq_2))) (And.intro (@DK.eq_3) (And.intro (@OH.eq_1) (@OH.eq_2)))))
def ev7:=And.intro (And.intro (And.intro (And.intro (@OH.eq_3) (And.intro (@U6.eq_1) (@U6.eq_2))) (And.intro (@DJ.eq_1) (And.intro (@DJ.eq_2) (@GT.eq_1)))) (And.intro (And.intro (And.intro (@GT.eq_2) (@GT.eq_3)) (And.intro (@binF.eq_1) (@binF.eq_2))) (And.intro (@binF.eq_3) (And.intro (@binF.eq_4) (@binF.eq_5))))) (And.intro (And.intro (And.intro (@binF.eq_6) (And.intro (@binF.eq_7) (@binF.eq_8))) (And.intro (@binF.eq_9) (And.intro (@binF.eq_10) (@RV.eq_1)))) (And.intro (And.intro (@RV.eq_2) (And.intro (@RV.eq_3) (@binI.eq_1))) (And.intro (@binI.eq_2) (And.intro (@binI.eq_3) (@binI.eq_4)))))
def ev8:=And.intro (And.intro (And.intro (And.intro (@binI.eq_5) (And.intro (@binI.eq_6) (@binI.eq_7))) (And.intro (@binI.eq_8) (And.intro (@binI.eq_9) (@binI.eq_10)))) (And.intro (And.intro (@binI.eq_11) (And.intro (@binI.eq_12) (@binI.eq_13))) (And.intro (@binI.eq_14) (And.intro (@binI.eq_15) (@binI.eq_16))))) (And.intro (And.intro (And.intro (@K8.eq_1) (And.intro (@K8.eq_2) (@K8.eq_3))) (And.intro (@setD.eq_1) (And.intro (@setD.eq_2) (@Y5.eq_1)))) (And.intro (And.intro (@cellsOf.eq_1) (And.intro (@cellsOf.eq_2) (@HW.eq_1))) (And.intro (@HW.eq_2) (And.intro (@HW.eq_3) (@Qc8)))))
def ev9:=And.intro (And.intro (And.intro (And.intro (@BQ) (And.intro (@HE) (@MK))) (And.intro (@AV.isUndef.eq_1) (And.intro (@AV.isUndef.eq_2) (@AV.isSc.eq_1)))) (And.intro (And.intro (@AV.isSc.eq_2) (And.intro (@AV.isSc.eq_3) (@AV.isSc.eq_4))) (And.intro (@CallV_fn) (And.intro (@CallV_bm) (@RL.eq_1))))) (And.intro (And.intro (And.intro (@RL.eq_2) (And.intro (@resE.eq_1) (@resE.eq_2))) (And.intro (@resE.eq_3) (And.intro (@mapO.eq_1) (@mapO.eq_2)))) (And.intro (And.intro (@WA.{0}) (And.intro (@List.set_cons_zero.{0}) (@List.set_cons_succ.{0}))) (And.intro (@List.getElem?_cons_zero.{0}) (And.intro (@List.getElem?_cons_succ.{0}) (@List.nil_append.{0})))))
def ev10:=And.intro (And.intro (And.intro (And.intro (@List.cons_append.{0}) (And.intro (@ZU.{0}) (@Option.getD_some.{0}))) (And.intro (@List.getElem?_nil.{0}) (And.intro (@Option.getD_none.{0}) (@Option.map_some.{0,0})))) (And.intro (And.intro (@Option.bind_some.{0,0}) (And.intro (@QT) (@List.length_cons.{0}))) (And.intro (@List.length_nil.{0}) (And.intro (@List.take_succ_cons.{0}) (@List.take_zero.{0}))))) (And.intro (And.intro (And.intro (@YO.{0}) (And.intro (@List.drop_succ_cons.{0}) (@XI))) (And.intro (@WH) (And.intro (@Bool.false_and) (@UA)))) (And.intro (And.intro (@US) (And.intro (@Bool.or_true) (@Y3))) (And.intro (@Bool.or_false) (And.intro (@Y2) (@ZY)))))
def ev11:=And.intro (And.intro (And.intro (And.intro (@Bool.not_not) (And.intro (@beq_self_eq_true.{0}) (@List.all_cons.{0}))) (And.intro (@List.all_nil.{0}) (And.intro (@ZV) (@Nat.add_zero)))) (And.intro (And.intro (@AV.cv.injEq) (And.intro (@CV.bool.injEq) (@CV.int.injEq))) (And.intro (@exists_eq_left'.{1}) (And.intro (@exists_eq_left.{1}) (@decide_true))))) (And.intro (And.intro (And.intro (@decide_false) (And.intro (@true_and) (@and_true))) (And.intro (@and_self) (And.intro (@Int.toNat_natCast) (@Go.Exit.exit.injEq)))) (And.intro (And.intro (@J5) (And.intro (@J4) (@W9))) (And.intro (@V1) (And.intro (@GC) (@ZK.{0,0})))))
def ev12:=And.intro (And.intro (And.intro (@WE.{0}) (And.intro (@W3) (@beq_true))) (And.intro (And.intro (@Option.some.injEq.{0}) (@bne_self_eq_false.{0})) (And.intro (@List.contains_cons.{0}) (@List.contains_nil.{0})))) (And.intro (And.intro (@xAll.eq_1) (And.intro (@xAll.eq_2) (@ZC))) (And.intro (And.intro (@bTF) (@bFT)) (And.intro (@bTT) (@bFF))))
def ev13:=And.intro (And.intro (And.intro (@ZQ.eq_37) (@ZQ.eq_38)) (And.intro (@ZQ.eq_39) (@ZQ.eq_41))) (And.intro (And.intro (@kindOf.eq_28) (@F6.eq_1)) (And.intro (@OI.eq_1) (@kindOf.eq_27)))
def ev14:=And.intro (And.intro (And.intro (@ZQ.eq_42) (@ZQ.eq_43)) (And.intro (And.intro (@ZQ.eq_44) (@ZQ.eq_45)) (@kindOf.eq_29))) (And.intro (And.intro (@kindOf.eq_30) (And.intro (@RZ.eq_6) (@slc_addr))) (And.intro (@NZ.eq_1) (And.intro (@JJ.eq_5) (And.intro (@binF.eq_11) (@binF.eq_12)))))
def evj:=And.intro (And.intro (And.intro (And.intro (@jS.eq_1) (And.intro (@jB.eq_1) (@jn.eq_1))) (And.intro (@jq.eq_1) (And.intro (@jw.eq_1) (@jg.eq_1)))) (And.intro (And.intro (@jk.eq_1) (And.intro (@jd.eq_1) (@jf.eq_1))) (And.intro (@jv.eq_1) (And.intro (@jt.eq_1) (@jl.eq_1))))) (And.intro (And.intro (And.intro (@jL.eq_1) (And.intro (@je.eq_1) (@jc.eq_1))) (And.intro (@ja.eq_1) (And.intro (@jF.eq_1) (@jG.eq_1)))) (And.intro (And.intro (@jx.eq_1) (And.intro (@jN.eq_1) (@jm.eq_1))) (And.intro (And.intro (@jz.eq_1) (@jb.eq_1)) (And.intro (@jh.eq_1) (@ji.eq_1)))))
def evA:=And.intro (And.intro (And.intro (And.intro ev14 evj) (ev13)) (And.intro (And.intro (And.intro (ev0) (And.intro (ev1) (ev2))) (And.intro (ev3) (And.intro (ev4) (ev5)))) (And.intro (And.intro (ev6) (And.intro (ev7) (ev8))) (And.intro (And.intro (ev9) (ev10)) (And.intro (ev11) (ev12)))))) (And.intro @if_true.{1} (And.intro @if_false.{1} @QaK))
theorem frz {P:Prop} (h:P:=by (try dsimp only);repeat (first | exact trivial | rfl | exact RY | (apply TN (fun _=>trivial);first | rfl | (simp[rowOf];done)) | constructor | simp only[frzA])):P:=h
def inB (n lo hi:Int):Bool:=decide (n≥lo)&&decide (n≤hi)
theorem VB {n lo hi:Int}:inB n lo hi=true↔lo≤n∧n≤hi:=by simp[inB]
def outF (lo hi:Int) (zs:List Int):Bool:=zs.any fun z=>decide (z<lo)||decide (z>hi)
theorem FW (lo hi z:Int):outF lo hi [z] = !inB z lo hi:=by
 simp only[outF,inB,List.any_cons,List.any_nil,Bool.or_false]
 by_cases h1:z<lo <;> by_cases h2:z>hi <;> simp[h1,h2] <;> omega
theorem PW {lo hi:Int} {zs:List Int}:outF lo hi zs=false↔∀ j,j<zs.length→inB (zs[j]?.getD 0) lo hi=true:=by
 simp only[outF,W6,inB,QD,decide_eq_true_eq,WR,not_or]
 constructor
 ·intro h j hj
  have:=h zs[j] (Q2 hj)
  simp[hj];omega
 ·intro h x hx
  obtain ⟨j,hj,rfl⟩:=WN.1 hx
  have:=h j hj
  simp[hj] at this;omega
theorem Qeg {lo hi:Int} {zs:List Int} {j:Nat} (hj:j<zs.length) (h:inB (zs[j]?.getD 0) lo hi=false):outF lo hi zs=true:=by
 cases ho:outF lo hi zs with
 | true=>rfl
 | false=>rw[PW.1 ho j hj] at h;cases h
def anyN (p:Nat→Bool) (n:Nat):Bool:=(List.range n).any p
section
variable {α:Type} [Inhabited α] {f:α→List CV} {e:Nat}
theorem UG (hf:∀ x,(f x).length=e):∀ xs:List α,(xs.flatMap f).length=xs.length*e
 | []=>by simp
 | x::xs=>by simp[UG hf xs,hf,XJ];omega
theorem A3 (hf:∀ x,(f x).length=e):∀ (xs:List α) (k:Nat),(xs.flatMap f).take (k*e)=(xs.take k).flatMap f
 | [],k=>by simp
 | x::xs,0=>by simp
 | x::xs,k+1=>by
  have h:=A3 hf xs k
  rw[YH,List.take_succ_cons,YH,XJ,List.take_append,hf,Nat.add_sub_cancel,h]
  rw[Q5 (by rw[hf];omega)]
theorem A5 (hf:∀ x,(f x).length=e):∀ (xs:List α) (k:Nat),(xs.flatMap f).drop (k*e)=(xs.drop k).flatMap f
 | [],k=>by simp
 | x::xs,0=>by simp
 | x::xs,k+1=>by
  have h:=A5 hf xs k
  rw[YH,List.drop_succ_cons,XJ,List.drop_append,hf,Nat.add_sub_cancel,h]
  rw[List.drop_of_length_le (by rw[hf];omega),List.nil_append]
theorem G3 (hf:∀ x,(f x).length=e) {xs:List α} {k:Nat} (hk:k<xs.length):((xs.flatMap f).drop (k*e)).take e=f xs[k]! := by
 rw[A5 hf]
 have:xs.drop k=xs[k]! :: xs.drop (k+1):=by rw[List.drop_eq_getElem_cons hk];simp[hk]
 rw[this,YH,List.take_append,hf,Nat.sub_self,List.take_zero,ZU,Q5 (by rw[hf];omega)]
theorem flat_get (hf:∀ x,(f x).length=e) {xs:List α} {k:Nat} (hk:k<xs.length) {j:Nat} (hj:j<e):(xs.flatMap f)[k*e+j]? = (f xs[k]!)[j]? := by
 rw[← G3 hf hk,Z7,if_pos hj,X4]
end
theorem XP {e n k:Nat} {cs:List CV} (h:k<n) (σ:List AObj):VP e [.cv (.rsl cs n),.cv (.int .i64 k)] σ=some (.cv (.rp cs (k*e)),σ):=by
 simp[VP,h]
theorem MP {n:Nat} (h:n<2 ^ 40) (σ:List AObj):XB 1 8 [.i 0] [.i n,.i n] σ=some (.sl σ.length 0 n 1,σ++[.cells ((List.replicate n (0:Int)).map AV.i)]):=by
 have e:(2:Int) ^ 46=70368744177664:=by decide
 have e2:(2:Nat) ^ 40=1099511627776:=by decide
 have h1:0≤(n:Int)∧True∧(n:Int)*(8:Nat)≤2 ^ 46∧(n:Int)≤2 ^ 46∧[AV.i 0].length=1:=by
  refine ⟨by omega,trivial,by omega,by omega,rfl⟩
 simp only[XB]
 rw[if_pos h1]
 simp[YW]
theorem WW (σ J:List AObj):rowOf (σ++J) σ.length=rowOf J 0:=by
 unfold rowOf;rw[QS (QG _),Nat.sub_self]
theorem X9 (σ J:List AObj) (k:Nat):rowOf (σ++J) (σ.length+k)=rowOf J k:=by
 unfold rowOf;rw[QS (by omega),X6]
theorem VW (σ J:List AObj) (v:AObj):(σ++J).set σ.length v=σ++J.set 0 v:=by
 rw[List.set_append_right _ _ (QG _),Nat.sub_self]
theorem EZ (σ J:List AObj) (k:Nat) (v:AObj):(σ++J).set (σ.length+k) v=σ++J.set k v:=by
 rw[List.set_append_right _ _ (by omega),X6]
theorem ZH {σ:List AObj} {l:Nat} {cs:List AV} (h:rowOf σ l=some cs) (J:List AObj):rowOf (σ++J) l=some cs:=by
 have h:=WO h
 unfold rowOf;rw[QE (QH.1 h).1,h]
theorem Q6 {n:Nat} (h:n+1<2 ^ 63):IntKind.i64.wrap ((n:Int)+1)=((n+1:Nat):Int):=by rw[ZC (by omega)];rfl
theorem c73 (z lo hi:Int) (σ:List AObj):AC Tryz.prog 84 [.i z,.cv (.rp [.int .i64 lo] 0),.cv (.rp [.int .i64 hi] 0)] σ fun r τ=>r=.b (decide (z<lo)||decide (z>hi))∧τ=σ:=by
 refine ZF (fok84 true) (QC rfl) ?_
 by_cases h:z<lo <;> simp only[ic84,h,evA,simprocAttr]
def idxF_l (p:Int→Bool) (zs:List Int):Int:=match zs.findIdx? p with | some i=>i | none=>-1
theorem idxF_some_l {p:Int→Bool} {zs:List Int} {i:Nat} (h:i<zs.length) (hall:∀ j,j<i→p (zs[j]?.getD 0)=false) (hp:p (zs[i]?.getD 0)=true):idxF_l p zs=i:=by
 have:zs.findIdx? p=some i:=by
  rw[List.findIdx?_eq_some_iff_getElem]
  refine ⟨h,by simpa[h] using hp,fun j hj=>?_⟩
  have:=hall j hj
  simpa[show j<zs.length by omega] using this
 simp[idxF_l,this]
theorem idxF_none_l {p:Int→Bool} {zs:List Int} (hall:∀ j,j<zs.length→p (zs[j]?.getD 0)=false):idxF_l p zs = -1:=by
 have:zs.findIdx? p=none:=by
  rw[List.findIdx?_eq_none_iff]
  intro x hx
  obtain ⟨j,hj,rfl⟩:=WN.1 hx
  have:=hall j hj
  simpa[hj] using this
 simp[idxF_l,this]
theorem idxF_ge_l (p:Int→Bool) (zs:List Int):decide (idxF_l p zs≥0)=zs.any p:=by
 unfold idxF_l
 cases h:zs.findIdx? p with
 | none =>
  rw[List.findIdx?_eq_none_iff] at h
  simpa using h
 | some i =>
  rw[List.findIdx?_eq_some_iff_getElem] at h
  obtain ⟨hi,hp,_⟩:=h
  have:zs.any p=true:=ZZ.2 ⟨zs[i],Q2 hi,hp⟩
  rw[this];simp
theorem c81_l (zs:List Int) (fv:AV) (p:Int→Bool) (hz:zs.length<2 ^ 63) (hf:∀ z σ,X0 Tryz.prog fv [.i z] σ fun r τ=>r=.b (p z)∧τ=σ) (σ:List AObj) :
  AC Tryz.prog 104 [ints zs,fv] σ fun r τ=>r=.i (idxF_l p zs)∧τ=σ:=by
 refine ZF (fok104 true) (QC rfl) ?_
 simp only[ic104,evA,simprocAttr]
 refine ZW zs.length (fun i s=>(∀ j,j<i→p (zs[j]?.getD 0)=false)∧∃ v3 v6 v7,s=⟨[ints zs,fv,.i 0,v3,.i zs.length,.i i,v6,v7],σ⟩) ?_ 0 (QF _) ⟨by omega,_,_,_,rfl⟩
 rintro i s hi ⟨hall,v3,v6,v7,rfl⟩
 by_cases h:i<zs.length
 ·simp only[ic104l0,QJ,h,evA,simprocAttr]
  refine (hf _ _).run ?_
  cases hp:p (zs[i]?.getD 0)
  ·simp only[evA,simprocAttr]
   refine ZL (by first | trivial | omega) ⟨fun j hj=>?_,_,_,_,by rw[ZC (by omega)];rfl⟩
   rcases QQ.1 hj with hj | rfl
   ·exact hall j hj
   ·exact hp
  ·simp only[evA,simprocAttr]
   exact (idxF_some_l h hall hp).symm
 ·simp only[ic104l0,QJ,h,evA,simprocAttr]
  have:i=zs.length:=by omega
  subst this
  exact (idxF_none_l hall).symm
theorem c72_l (zs:List Int) (fv:AV) (p:Int→Bool) (hz:zs.length<2 ^ 63) (hf:∀ z σ,X0 Tryz.prog fv [.i z] σ fun r τ=>r=.b (p z)∧τ=σ):PC Tryz.prog 83 [ints zs,fv] (.b (zs.any p)):=by
 refine ⟨ZF (fok83 true) (QC rfl) ?_,rfl⟩
 simp only[ic83,evA,simprocAttr]
 refine (c81_l zs fv p hz hf _).run ?_
 simp only[evA,simprocAttr,idxF_ge_l]
 exact frz
theorem c47 (lo hi:Int) (zs:List Int) (hz:zs.length<2 ^ 63):PC Tryz.prog 34 [.i lo,.i hi,ints zs] (.b (outF lo hi zs)):=by
 refine ⟨ZF (fok34 true) (QC rfl) ?_,rfl⟩
 simp only[ic34,evA,simprocAttr]
 refine (c72_l zs (.fn (.func 84) [.cv (.rp [.int .i64 lo] 0),.cv (.rp [.int .i64 hi] 0)]) (fun z=>decide (z<lo)||decide (z>hi)) hz (fun z σ=>c73 z lo hi σ)).call frz ?_
 exact frz
theorem c48_l (n lo hi:Int):PC Tryz.prog 47 [.i n,.i lo,.i hi] (.b (decide (n≥lo)&&decide (n≤hi))):=by
 refine ⟨ZF (fok47 true) (QC rfl) ?_,rfl⟩
 by_cases h:n≥lo <;> simp only[ic47,h,evA,simprocAttr] <;> exact frz
def mixF (x:Int):Int:=(x*x+12345) % 2147483647
def promiseF (party number:Int):Int:=mixF (mixF ((number+1+7*party) % 2147483647))
theorem mixF_bounds (x:Int):0≤mixF x∧mixF x<2147483647:=by unfold mixF;omega
theorem promiseF_bounds (x y:Int):0≤promiseF x y∧promiseF x y<2147483647:=mixF_bounds _
theorem mixF_wrap {x:Int} (h:0≤x∧x<2147483647):(IntKind.i64.wrap (IntKind.i64.wrap (x*x)+12345)).tmod 2147483647=mixF x:=by
 have h1:0≤x*x:=Int.mul_nonneg h.1 h.1
 have h2:x*x≤2147483647*2147483647:=Int.mul_le_mul (by omega) (by omega) h.1 (by omega)
 rw[ZC (n:=x*x) (by omega),ZC (by omega),Int.tmod_eq_emod_of_nonneg (by omega)]
 rfl
section
variable {m m2:LM} {X X2:Nat→Prop} {w:World} {g:Nat→Nat}
mutual
theorem VRel.shift (hm:∀ l b,m l=some b→m2 (g l)=some b) (ho:∀ b,Own m2 X2 b→Own m X b):∀ (a:AV) (v:Value),VRel m X w a v→VRel m2 X2 w (AM.ren g a) v
 | .cv c,v,h=>by simp only[AM.ren,VRel] at h ⊢;exact CV.rep_less ho c v h
 | .ptr l off,v,h=>by simp only[AM.ren,VRel] at h ⊢;obtain ⟨b,h1,h2⟩:=h;exact ⟨b,hm l b h1,h2⟩
 | .sl l off len esz,v,h=>by simp only[AM.ren,VRel] at h ⊢;obtain ⟨b,cap,h1,h2⟩:=h;exact ⟨b,cap,hm l b h1,h2⟩
 | .map l,v,h=>by simp only[AM.ren,VRel] at h ⊢;obtain ⟨b,h1,h2⟩:=h;exact ⟨b,hm l b h1,h2⟩
 | .fn f cs,v,h=>by simp only[AM.ren,VRel] at h ⊢;obtain ⟨vs,h1,h2⟩:=h;exact ⟨vs,h1,QK.shift hm ho cs vs h2⟩
 | .bm f cs,v,h=>by simp only[AM.ren,VRel] at h ⊢;obtain ⟨vs,h1,h2⟩:=h;exact ⟨vs,h1,QK.shift hm ho cs vs h2⟩
 | .yld l,v,h=>by simp only[AM.ren,VRel] at h ⊢;obtain ⟨b,h1,h2⟩:=h;exact ⟨b,hm l b h1,h2⟩
 | .agg cs,v,h=>by simp only[AM.ren,VRel] at h ⊢;obtain ⟨vs,h1,h2⟩:=h;exact ⟨vs,h1,QK.shift hm ho cs vs h2⟩
 | .tup cs,v,h=>by simp only[AM.ren,VRel] at h ⊢;obtain ⟨vs,h1,h2⟩:=h;exact ⟨vs,h1,QK.shift hm ho cs vs h2⟩
 | .undef,v,_=>by simp[AM.ren,VRel]
 | .slc l off len cap esz,v,h=>by simp only[AM.ren,VRel] at h ⊢;obtain ⟨b,h1,h2⟩:=h;exact ⟨b,hm l b h1,h2⟩
theorem QK.shift (hm:∀ l b,m l=some b→m2 (g l)=some b) (ho:∀ b,Own m2 X2 b→Own m X b):∀ (as_:List AV) (vs:List Value),QK m X w as_ vs→QK m2 X2 w (AM.rens g as_) vs
 | [],[],_=>by simp[AM.rens,QK]
 | a::as_,v::vs,h=>by simp only[AM.rens,QK] at h ⊢;exact ⟨VRel.shift hm ho a v h.1,QK.shift hm ho as_ vs h.2⟩
 | [],_::_,h=>by simp[QK] at h
 | _::_,[],h=>by simp[QK] at h
end
theorem ORel.shift (hm:∀ l b,m l=some b→m2 (g l)=some b) (ho:∀ b,Own m2 X2 b→Own m X b) {b:Nat} {o:AObj} (h:ORel m X w (some b) o):ORel m2 X2 w (some b) (renO g o):=by
 cases o with
 | dead=>trivial
 | cells cs =>
  simp only[ORel,renO] at h ⊢
  obtain ⟨c,e,h1,h2,h3⟩:=h
  exact ⟨c,e,h1,by rw[UY];exact h2,by rw[UY];exact QK.shift hm ho _ _ h3⟩
 | map es =>
  simp only[ORel,renO] at h ⊢
  obtain ⟨ces,clock,h1,h2,h3,h4,h5⟩:=h
  refine ⟨ces,clock,h1,h2,h3,by simpa using h4,fun i k a hi=>?_⟩
  rw[ZR,QA] at hi
  obtain ⟨⟨k0,a0⟩,hi,he⟩:=hi
  simp only[Prod.mk.injEq] at he
  obtain ⟨rfl,rfl⟩:=he
  obtain ⟨e,g1,g2,g3⟩:=h5 i k0 a0 hi
  exact ⟨e,g1,VRel.shift hm ho _ _ g2,VRel.shift hm ho _ _ g3⟩
 | siter s p=>simpa only[ORel,renO] using h
 | loop r =>
  simp only[ORel,renO] at h ⊢
  obtain ⟨tmps,d,fi,h1,h2,h3,h4⟩:=h
  refine ⟨tmps,d,fi,h1,fun i t hi=>?_,h3,by rw[UY];exact h4⟩
  have:=VRel.shift hm ho _ _ (h2 i t hi)
  rwa [← O3] at this
end
abbrev sh (n:Nat):Nat→Nat:=fun l=>l+n
theorem AC.frame {P:Program} {f:FuncId} {args:List AV} {Q:AV→List AObj→Prop} (hcl:QO 0 args=true) (h:AC P f args [] Q) (σ:List AObj) :
  AC P f args σ fun r τ=>∃ r0 τ0,Q r0 τ0∧r=ren (sh σ.length) r0∧τ=σ++τ0.map (renO (sh σ.length)):=by
 refine ⟨h.1,fun m X w cargs ha hh=>?_⟩
 have hown:∀ b,Own nom (Own m X) b↔Own m X b:=fun b=>⟨fun h=>h.elim id (fun ⟨l,hl⟩=>by cases hl),.inl⟩
 have ha0:QK nom (Own m X) w args cargs:=QK.less (k:=0) (fun l hl=>absurd hl (W5 _)) (fun b hb=>(hown b).1 hb) args cargs hcl ha
 have hlt:∀ b,Own m X b→b<w.heap.size:=fun b hb=>by
  rcases hb with hb | ⟨l,hl⟩
  ·exact hh.xb b hb
  ·exact (hh.dom l b hl).2
 have hh0:HRel nom (Own m X) [] w:=⟨hlt,fun l b hl=>(by cases hl),fun l b o hl=>(by cases hl),fun l l' b o hl=>(by cases hl),fun l o ho=>(by simp at ho),hh.gl.less fun b hb=>(hown b).1 hb⟩
 refine (h.2 nom (Own m X) w cargs ha0 hh0).mono ?_
 rintro e w' ⟨c,r,τ0,m',rfl,hQ,hv,hh',hst,_⟩
 have hnew:∀ l b,m' l=some b→w.heap.size≤b:=fun l b hl=>by
  rcases hst.new l b hl with ⟨l',hl'⟩ | hge
  ·cases hl'
  ·exact hge
 have hsame:∀ b,b<w.heap.size→w'.heap[b]? = w.heap[b]? := fun b hb=>hst.fr b hb (.inr fun l hl=>by cases hl)
 let n:=σ.length
 let m2:LM:=fun l=>if l<n then m l else m' (l-n)
 have m2lo:∀ l,l<n→m2 l=m l:=fun l hl=>by simp only[m2];rw[if_pos hl]
 have m2hi:∀ l,m2 (l+n)=m' l:=fun l=>by simp only[m2];rw[if_neg (by omega),Nat.add_sub_cancel]
 have m2s:∀ l b,m2 l=some b→(l<n∧m l=some b)∨(n≤l∧m' (l-n)=some b):=fun l b hl=>by
  rcases ZB l n with h | h
  ·exact .inl ⟨h,by rw[← m2lo l h];exact hl⟩
  ·exact .inr ⟨h,by rw[← m2hi,Nat.sub_add_cancel h];exact hl⟩
 have how:∀ b,Own m2 X b→Own m' (Own m X) b:=by
  rintro b (hx | ⟨l,hl⟩)
  ·exact .inl (.inl hx)
  ·rcases m2s l b hl with ⟨_,h⟩ | ⟨_,h⟩
   ·exact .inl (.inr ⟨l,h⟩)
   ·exact .inr ⟨_,h⟩
 have hmap:∀ l b,m' l=some b→m2 (sh n l)=some b:=fun l b hl=>by rw[← hl];exact m2hi l
 have hlo:∀ (l:Nat) (o:AObj),l<n→(σ++τ0.map (renO (sh n)))[l]? = some o→σ[l]? = some o:=fun l o hl ho=>by rwa [QE hl] at ho
 have hhi:∀ (l:Nat) (o:AObj),n≤l→(σ++τ0.map (renO (sh n)))[l]? = some o→∃ o0,τ0[l-n]? = some o0∧o=renO (sh n) o0:=fun l o hl ho=>by
  rw[QS hl,ZR,QA] at ho
  obtain ⟨o0,h1,h2⟩:=ho
  exact ⟨o0,h1,h2.symm⟩
 have live0:∀ o:AObj,(renO (sh n) o).live→o.live:=fun o h=>by cases o <;> simp_all [renO,AObj.live]
 refine ⟨c,ren (sh n) r,σ++τ0.map (renO (sh n)),m2,rfl,⟨r,τ0,hQ,rfl,rfl⟩,VRel.shift hmap how r c hv,⟨?_,?_,?_,?_,?_,hh'.gl.less how⟩,?_,by simp⟩
 ·exact fun b hb=>hh'.xb b (.inl hb)
 ·intro l b hl
  rcases m2s l b hl with ⟨h1,h2⟩ | ⟨h1,h2⟩
  ·have:=hh.dom l b h2
   exact ⟨by simp;omega,Z6 this.2 hst.size⟩
  ·have:=hh'.dom _ b h2
   exact ⟨by simp;omega,this.2⟩
 ·intro l b o hl ho hv hx
  rcases m2s l b hl with ⟨h1,h2⟩ | ⟨h1,h2⟩
  ·exact hh.own l b o h2 (hlo l o h1 ho) hv hx
  ·obtain ⟨o0,g1,rfl⟩:=hhi l o h1 ho
   exact hh'.own _ b o0 h2 g1 (live0 o0 hv) (.inl hx)
 ·intro l l' b o' hl hl' ho' hv
  rcases m2s l b hl with ⟨h1,h2⟩ | ⟨h1,h2⟩ <;> rcases m2s l' b hl' with ⟨h3,h4⟩ | ⟨h3,h4⟩
  ·exact hh.inj l l' b o' h2 h4 (hlo l' o' h3 ho') hv
  ·omega
  ·have:=hnew _ b h2
   have:=(hh.dom l' b h4).2
   omega
  ·obtain ⟨o0,g1,rfl⟩:=hhi l' o' h3 ho'
   have:=hh'.inj _ _ b o0 h2 h4 g1 (live0 o0 hv)
   omega
 ·intro l o ho
  rcases ZB l n with h1 | h1
  ·have ho:=hlo l o h1 ho
   rw[m2lo l h1]
   have hor:=hh.obj l o ho
   cases hml:m l with
   | none=>rw[hml] at hor;cases o <;> simp[ORel] at hor ⊢
   | some b =>
    rw[hml] at hor
    have hm:Mono m X w m2 X w':=by
     refine ⟨fun l b hl=>?_,fun b hb hc=>⟨hsame b hc.lt,?_⟩,fun b c e hb=>⟨c,?_,rfl⟩⟩
     ·rw[m2lo l (hh.dom l b hl).1];exact hl
     ·rintro (hx | ⟨l,hl⟩)
      ·exact hb (.inl hx)
      ·rcases m2s l b hl with ⟨_,h⟩ | ⟨_,h⟩
       ·exact hb (.inr ⟨l,h⟩)
       ·have:=hnew _ b h;have:=hc.lt;omega
     ·rw[hsame b ((Q3.1 hb).1),hb]
    exact ORel.mono hm (hsame b (hh.dom l b hml).2) hor
  ·obtain ⟨o0,g1,rfl⟩:=hhi l o h1 ho
   have hor:=hh'.obj _ o0 g1
   have e:m2 l=m' (l-n):=by rw[← m2hi,Nat.sub_add_cancel h1]
   rw[e]
   cases hml:m' (l-n) with
   | none=>rw[hml] at hor;cases o0 <;> simp[ORel,renO] at hor ⊢
   | some b=>rw[hml] at hor;exact ORel.shift hmap how hor
 ·refine ⟨fun l hl=>m2lo l hl,fun l b hl=>?_,hst.size,fun b hb _=>hsame b hb,hst.shp,hst.os,hst.tape,hst.output,hst.drawn⟩
  rcases m2s l b hl with ⟨_,h⟩ | ⟨_,h⟩
  ·exact .inl ⟨l,h⟩
  ·exact .inr (hnew _ b h)
theorem AC.cut {P:Program} {f:FuncId} {args:List AV} {σ σ2:List AObj} {v:AV} (h:AC P f args σ fun r τ=>r=v∧∃ junk,τ=σ2++junk) (hl:σ2.length=σ.length) (hv:QR σ.length v=true)
  (ho:∀ (l:Nat) (o:AObj),σ2[l]? = some o→σ[l]? = some o∨Z3 σ.length o=true):AC P f args σ fun r τ=>r=v∧τ=σ2:=by
 refine h.tidy ?_
 rintro r τ ⟨rfl,junk,rfl⟩
 refine ⟨id,r,σ2,⟨fun _ _=>rfl,fun _ _ h _=>h,by omega,(PU (g:=id) (k:=σ.length) (fun _ _=>rfl) r hv).symm,by rw[hl];exact hv,fun l o hlo=>?_⟩,rfl,rfl⟩
 have hlt:l<σ2.length:=(QH.1 hlo).1
 have hin:(σ2++junk)[l]? = some o:=by rw[QE hlt];exact hlo
 rcases ho l o hlo with h1 | h1
 ·exact .inl ⟨by omega,h1,hin⟩
 ·refine .inr ⟨by rw[hl];exact h1,?_⟩
  rw[E1 (g:=id) (k:=σ.length) (fun _ _=>rfl) h1];exact hin
def atF (gl:List Nat) (N:Nat) (l:Nat):Nat:=if l<gl.length then gl.getD l 0 else N+(l-gl.length)
def putL (σ:List AObj):List Nat→List AObj→List AObj
 | l::ls,o::os=>putL (σ.set l o) ls os
 | [],os=>σ++os
 | _::_,[]=>σ
def AtOk (σ:List AObj) (g:Nat→Nat) (n:Nat):List Nat→List AObj→Prop
 | l::ls,o::os=>(o.live∧Z3 n o=true∧σ[l]? = some (renO g o))∧AtOk σ g n ls os
 | [],[]=>True
 | _,_=>False
theorem AtOk.get {σ:List AObj} {g:Nat→Nat} {n:Nat}:∀ {ls:List Nat} {os:List AObj},AtOk σ g n ls os→ls.length=os.length∧∀ (k:Nat) (o:AObj),os[k]? = some o→o.live∧Z3 n o=true∧σ[ls.getD k 0]? = some (renO g o)
 | [],[],_=>⟨rfl,fun k o h=>by simp at h⟩
 | l::ls,o::os,h=>by
  obtain ⟨h1,h2⟩:=h
  obtain ⟨h3,h4⟩:=h2.get
  refine ⟨by simp[h3],fun k o' hk=>?_⟩
  cases k with
  | zero=>simp at hk;subst hk;simpa using h1
  | succ k=>simpa using h4 k o' (by simpa using hk)
 | [],_::_,h=>h.elim
 | _::_,[],h=>h.elim
theorem Qbb:∀ (gl:List Nat) (os σ:List AObj),gl.Nodup→(∀ l∈gl,l<σ.length)→gl.length≤os.length →
  (putL σ gl os).length=σ.length+(os.length-gl.length)∧(∀ (k l:Nat),gl[k]? = some l→(putL σ gl os)[l]? = os[k]?)∧(∀ (l:Nat),l<σ.length→l∉gl→(putL σ gl os)[l]? = σ[l]?)∧∀ (j:Nat),(putL σ gl os)[σ.length+j]? = os[gl.length+j]?
 | [],os,σ,_,_,_=>by
  refine ⟨by simp[putL],fun k l h=>by simp at h,fun l hl _=>?_,fun j=>?_⟩
  ·simp only[putL];rw[QE hl]
  ·simp only[putL];rw[QS (by omega)];simp
 | g::gl,[],σ,_,_,h=>by simp at h
 | g::gl,o::os,σ,hnd,hlt,hle=>by
  have hn:=WQ.1 hnd
  obtain ⟨h1,h2,h3,h4⟩:=Qbb gl os (σ.set g o) hn.2 (fun l hl=>by simpa using hlt l (by simp[hl])) (by simpa using hle)
  simp only[putL]
  simp only[WE] at h1 h3 h4
  have hg:=hlt g (by simp)
  refine ⟨by rw[h1];simp,fun k l hk=>?_,fun l hl hm=>?_,fun j=>?_⟩
  ·cases k with
   | zero =>
    simp at hk;subst hk
    rw[h3 g hg hn.1,Z2 hg];rfl
   | succ k=>rw[h2 k l (by simpa using hk)];rfl
  ·simp only[ZD,not_or] at hm
   rw[h3 l hl hm.2,QU (fun h=>hm.1 h.symm)]
  ·rw[h4 j,show (g::gl).length+j=(gl.length+j)+1 by simp;omega];rfl
theorem E7 {g:Nat→Nat} {o:AObj} (h:(renO g o).live):o.live:=by cases o <;> simp_all [renO,AObj.live]
theorem AC.at {P:Program} {f:FuncId} {args:List AV} {σ0 σ:List AObj} {Q:AV→List AObj→Prop} (gl:List Nat) (h:AC P f args σ0 Q) (hnd:gl.Nodup) (hcl:QO σ0.length args=true)
  (hobj:AtOk σ (atF gl σ.length) σ0.length gl σ0) :
  AC P f (rens (atF gl σ.length) args) σ fun r τ=>∃ r0 τ0,Q r0 τ0∧σ0.length≤τ0.length∧r=ren (atF gl σ.length) r0∧τ=putL σ gl (τ0.map (renO (atF gl σ.length))):=by
 refine ⟨h.1,fun m X w cargs ha hh=>?_⟩
 obtain ⟨hlen,hget⟩:=hobj.get
 generalize hn0:σ0.length=n0 at *
 let N:=σ.length
 obtain ⟨g,hg⟩:∃ g,g=atF gl N:=⟨_,rfl⟩
 rw[← hg] at ha hget ⊢
 have glo:∀ l,l<n0→g l=gl.getD l 0:=fun l hl=>by rw[hg];unfold atF;rw[if_pos (by omega)]
 have ghi:∀ j,g (n0+j)=N+j:=fun j=>by rw[hg];unfold atF;rw[if_neg (by omega)];omega
 have gmem:∀ l,l<n0→gl[l]? = some (g l):=fun l hl=>by rw[glo l hl];simp[List.getD,show l<gl.length by omega]
 have hsome:∀ l,l<n0→∃ o,σ0[l]? = some o:=fun l hl=>⟨σ0[l],by simp⟩
 have glt:∀ l,l<n0→g l<N:=fun l hl=>by
  obtain ⟨o,ho⟩:=hsome l hl
  have:=(hget l o ho).2.2
  rw[← glo l hl] at this
  exact (QH.1 this).1
 have gobj:∀ (l:Nat) o,σ0[l]? = some o→l<n0∧o.live∧Z3 n0 o=true∧σ[g l]? = some (renO g o):=fun l o ho=>by
  have hl:l<n0:=by rw[← hn0];exact (QH.1 ho).1
  have:=hget l o ho
  rw[← glo l hl] at this
  exact ⟨hl,this⟩
 have glive:∀ l,l<n0→∃ o,σ[g l]? = some o∧o.live:=fun l hl=>by
  obtain ⟨o,ho⟩:=hsome l hl
  have:=gobj l o ho
  exact ⟨_,this.2.2.2,EI this.2.1⟩
 have ginj:∀ a b,a<n0→b<n0→g a=g b→a=b:=fun a b ha hb he=>by
  have h1:=gmem a ha
  have h2:=gmem b hb
  rw[← he] at h2
  exact (List.getElem?_inj (by omega) hnd).1 (h1.trans h2.symm)
 have hone:∀ l l' b o o',m l=some b→m l'=some b→σ[l]? = some o→σ[l']? = some o'→o.live→o'.live→l=l':=fun l l' b o o' h1 h2 h3 h4 h5 h6=>by
  have:=hh.inj l l' b o' h1 h2 h4 h6
  have:=hh.inj l' l b o h2 h1 h3 h5
  omega
 let m0:LM:=fun l=>if l<n0 then m (g l) else none
 have m0lo:∀ l,l<n0→m0 l=m (g l):=fun l hl=>by simp only[m0];rw[if_pos hl]
 have m0s:∀ l b,m0 l=some b→l<n0∧m (g l)=some b:=fun l b hl=>by
  simp only[m0] at hl
  split at hl
  ·rename_i h;exact ⟨h,hl⟩
  ·cases hl
 let X':Nat→Prop:=fun b=>Own m X b∧∀ l,l<n0→m (g l)≠some b
 have hown:∀ b,Own m X b→Own m0 X' b:=fun b hb=>by
  by_cases hx:∃ l,l<n0∧m (g l)=some b
  ·obtain ⟨l,h1,h2⟩:=hx
   exact .inr ⟨l,by rw[m0lo l h1];exact h2⟩
  ·exact .inl ⟨hb,fun l h1 h2=>hx ⟨l,h1,h2⟩⟩
 have hown':∀ b,Own m0 X' b→Own m0 (Own m X) b:=fun b hb=>hb.elim (fun h=>.inl h.1) .inr
 have hown2:∀ b,Own m0 (Own m X) b→Own m (Own m X) b:=fun b hb=>hb.elim .inl (fun ⟨l,hl⟩=>.inr ⟨_,(m0s l b hl).2⟩)
 have hown3:∀ b,Own m (Own m X) b→Own m X b:=fun b hb=>hb.elim id .inr
 have hlt:∀ b,Own m X b→b<w.heap.size:=fun b hb=>by
  rcases hb with hb | ⟨l,hl⟩
  ·exact hh.xb b hb
  ·exact (hh.dom l b hl).2
 have ha0:QK m0 X' w args cargs:=by
  have hk:=QK.locs (n:=N) (fun l b hl=>(hh.dom l b hl).1) _ _ ha
  have h1:QK m (Own m X) w (rens g args) cargs:=QK.less (k:=N) (fun _ _=>rfl) (fun b hb=>hown3 b hb) _ _ hk ha
  have h2:QK m0 (Own m X) w args cargs:=QK.ren (k:=n0) (g:=g) (fun l hl=>m0lo l hl) (fun b hb=>hown2 b hb) _ _ hcl h1
  exact QK.less (k:=n0) (fun _ _=>rfl) hown' _ _ hcl h2
 have hh0:HRel m0 X' σ0 w:=by
  refine ⟨fun b hb=>hlt b hb.1,fun l b hl=>?_,fun l b o hl ho hv hx=>?_,fun l l' b o' hl hl' ho' hv=>?_,fun l o ho=>?_,hh.gl.less fun b hb=>hown3 b (hown2 b (hown' b hb))⟩
  ·obtain ⟨h1,h2⟩:=m0s l b hl
   exact ⟨by rw[hn0];exact h1,(hh.dom _ b h2).2⟩
  ·obtain ⟨h1,h2⟩:=m0s l b hl
   exact hx.2 l h1 h2
  ·obtain ⟨h1,h2⟩:=m0s l b hl
   obtain ⟨h1',h2'⟩:=m0s l' b hl'
   obtain ⟨o1,e1,e2⟩:=glive l h1
   obtain ⟨o2,e3,e4⟩:=glive l' h1'
   have:=ginj l l' h1 h1' (hone _ _ b o1 o2 h2 h2' e1 e3 e2 e4)
   omega
  ·obtain ⟨h1,h2,h3,h4⟩:=gobj l o ho
   rw[m0lo l h1]
   have hor:=hh.obj _ _ h4
   cases hml:m (g l) with
   | none=>rw[hml] at hor;cases o <;> simp[ORel,renO] at hor ⊢
   | some b =>
    rw[hml] at hor
    have hk:Z3 N (renO g o)=true:=hh.closed _ _ h4
    have h1:ORel m (Own m X) w (some b) (renO g o):=ORel.less (k:=N) (fun _ _=>rfl) (fun b hb=>hown3 b hb) hk hor
    have h2:ORel m0 (Own m X) w (some b) o:=ORel.ren (k:=n0) (g:=g) (fun l hl=>m0lo l hl) (fun b hb=>hown2 b hb) h3 h1
    exact ORel.less (k:=n0) (fun _ _=>rfl) hown' h3 h2
 refine (h.2 m0 X' w cargs ha0 hh0).mono ?_
 rintro e w' ⟨c,r0,τ0,m',rfl,hQ,hv,hh',hst,hle⟩
 rw[hn0] at hst hle
 let m2:LM:=fun l=>if l<N then m l else m' (n0+(l-N))
 have m2lo:∀ l,l<N→m2 l=m l:=fun l hl=>by simp only[m2];rw[if_pos hl]
 have m2hi:∀ j,m2 (N+j)=m' (n0+j):=fun j=>by simp only[m2];rw[if_neg (by omega),X6]
 have mk:∀ l,l<n0→m' l=m (g l):=fun l hl=>by rw[hst.keep l hl,m0lo l hl]
 have m2s:∀ l b,m2 l=some b→(l<N∧m l=some b)∨(∃ j,l=N+j∧m' (n0+j)=some b):=fun l b hl=>by
  rcases ZB l N with h | h
  ·exact .inl ⟨h,by rw[← m2lo l h];exact hl⟩
  ·refine .inr ⟨l-N,by omega,?_⟩
   rw[← m2hi,show N+(l-N)=l by omega];exact hl
 have hnew:∀ l b,m' l=some b→(∃ l0,l0<n0∧m (g l0)=some b)∨w.heap.size≤b:=fun l b hl=>by
  rcases hst.new l b hl with ⟨l',hl'⟩ | hge
  ·exact .inl ⟨l',m0s l' b hl'⟩
  ·exact .inr hge
 have hsame:∀ b,b<w.heap.size→(∀ l,l<n0→m (g l)≠some b)→w'.heap[b]? = w.heap[b]? := fun b hb hno=>hst.fr b hb (.inr fun l hl=>by
  obtain ⟨h1,h2⟩:=m0s l b hl
  exact hno l h1 h2)
 have hmap:∀ l b,m' l=some b→m2 (g l)=some b:=fun l b hl=>by
  rcases ZB l n0 with h | h
  ·rw[m2lo _ (glt l h),← mk l h];exact hl
  ·obtain ⟨j,rfl⟩:∃ j,l=n0+j:=⟨l-n0,by omega⟩
   rw[ghi,m2hi];exact hl
 have hX':∀ b,Own m X b→Own m' X' b:=fun b hb=>by
  rcases hown b hb with h | ⟨l,hl⟩
  ·exact .inl h
  ·obtain ⟨h1,h2⟩:=m0s l b hl
   exact .inr ⟨l,by rw[mk l h1];exact h2⟩
 have how:∀ b,Own m2 X b→Own m' X' b:=by
  rintro b (hx | ⟨l,hl⟩)
  ·exact hX' b (.inl hx)
  ·rcases m2s l b hl with ⟨_,h⟩ | ⟨j,_,h⟩
   ·exact hX' b (.inr ⟨l,h⟩)
   ·exact .inr ⟨_,h⟩
 have hXg:∀ b,X b→∀ l,l<n0→m (g l)≠some b:=fun b hx l hl he=>by
  obtain ⟨o,h1,h2⟩:=glive l hl
  exact hh.own _ b o he h1 h2 hx
 obtain ⟨pl,p1,p2,p3⟩:=Qbb gl (τ0.map (renO g)) σ hnd (fun l hl=>by
  obtain ⟨k,hk,rfl⟩:=WN.1 hl
  have h1:=glt k (by omega)
  rw[glo k (by omega)] at h1
  simpa[List.getD,hk] using h1) (by rw[ZK];omega)
 generalize hτ:putL σ gl (τ0.map (renO g))=τ at *
 have τlen:τ.length=N+(τ0.length-n0):=by rw[pl,ZK,hlen]
 have τim:∀ l,l<n0→τ[g l]? = (τ0[l]?).map (renO g):=fun l hl=>by rw[p1 l _ (gmem l hl),ZR]
 have τhi:∀ j,τ[N+j]? = (τ0[n0+j]?).map (renO g):=fun j=>by rw[p3 j,ZR,hlen]
 have cls:∀ (l:Nat) o,τ[l]? = some o→(l<N∧(∀ k,k<n0→g k≠l)∧σ[l]? = some o)∨(∃ k o0,k<n0∧l=g k∧τ0[k]? = some o0∧o=renO g o0)∨(∃ j o0,l=N+j∧τ0[n0+j]? = some o0∧o=renO g o0):=fun l o ho=>by
  rcases ZB l N with h | h
  ·by_cases hk:∃ k,k<n0∧l=g k
   ·obtain ⟨k,h1,rfl⟩:=hk
    rw[τim k h1,QA] at ho
    obtain ⟨o0,h2,h3⟩:=ho
    exact .inr (.inl ⟨k,o0,h1,rfl,h2,h3.symm⟩)
   ·have hno:∀ k,k<n0→g k≠l:=fun k h1 h2=>hk ⟨k,h1,h2.symm⟩
    refine .inl ⟨h,hno,?_⟩
    rw[← p2 l h (fun hm=>?_)]
    ·exact ho
    ·obtain ⟨k,hk1,hk2⟩:=WN.1 hm
     refine hno k (by omega) ?_
     rw[glo k (by omega)];simp[List.getD,hk1,hk2]
  ·obtain ⟨j,rfl⟩:∃ j,l=N+j:=⟨l-N,by omega⟩
   rw[τhi j,QA] at ho
   obtain ⟨o0,h2,h3⟩:=ho
   exact .inr (.inr ⟨j,o0,rfl,h2,h3.symm⟩)
 refine ⟨c,ren g r0,τ,m2,rfl,⟨r0,τ0,hQ,hle,rfl,hτ.symm⟩,VRel.shift hmap how r0 c hv,⟨?_,?_,?_,?_,?_,hh'.gl.less how⟩,?_,by rw[τlen];exact Nat.le_add_right _ _⟩
 ·exact fun b hb=>Z6 (hh.xb b hb) hst.size
 ·intro l b hl
  rcases m2s l b hl with ⟨h1,h2⟩ | ⟨j,rfl,h2⟩
  ·exact ⟨by rw[τlen];omega,Z6 (hh.dom l b h2).2 hst.size⟩
  ·have:=hh'.dom _ b h2
   exact ⟨by rw[τlen];omega,this.2⟩
 ·intro l b o hl ho hv hx
  rcases cls l o ho with ⟨h1,_,h2⟩ | ⟨k,o0,h1,rfl,h2,h3⟩ | ⟨j,o0,rfl,h2,rfl⟩
  ·rw[m2lo l h1] at hl
   exact hh.own l b o hl h2 hv hx
  ·rw[m2lo _ (glt k h1)] at hl
   exact hXg b hx k h1 hl
  ·rw[m2hi] at hl
   exact hh'.own _ b o0 hl h2 (E7 hv) ⟨.inl hx,hXg b hx⟩
 ·intro l l' b o' hl hl' ho' hv
  rcases cls l' o' ho' with ⟨h1,h1n,h2⟩ | ⟨k,o0,h1,rfl,h2,h3⟩ | ⟨j,o0,rfl,h2,rfl⟩
  ·rw[m2lo l' h1] at hl'
   rcases m2s l b hl with ⟨g1,g2⟩ | ⟨j,rfl,g2⟩
   ·exact hh.inj l l' b o' g2 hl' h2 hv
   ·exfalso
    rcases hnew _ b g2 with ⟨l0,q1,q2⟩ | hge
    ·obtain ⟨o1,e1,e2⟩:=glive l0 q1
     exact h1n l0 q1 (hone _ _ b o1 o' q2 hl' e1 h2 e2 hv)
    ·have:=(hh.dom l' b hl').2;omega
  ·rw[m2lo _ (glt k h1)] at hl'
   obtain ⟨o1,e1,e2⟩:=glive k h1
   rcases m2s l b hl with ⟨g1,g2⟩ | ⟨j,rfl,g2⟩
   ·exact hh.inj l (g k) b o1 g2 hl' e1 e2
   ·exfalso
    have hk:m' k=some b:=by rw[mk k h1];exact hl'
    have:=hh'.inj (n0+j) k b o0 g2 hk h2 (E7 (by rw[← h3];exact hv))
    omega
  ·rw[m2hi] at hl'
   rcases m2s l b hl with ⟨g1,g2⟩ | ⟨j',rfl,g2⟩
   ·omega
   ·have:=hh'.inj (n0+j') (n0+j) b o0 g2 hl' h2 (E7 hv)
    omega
 ·intro l o ho
  rcases cls l o ho with ⟨h1,h1n,h2⟩ | ⟨k,o0,h1,rfl,h2,rfl⟩ | ⟨j,o0,rfl,h2,rfl⟩
  ·rw [m2lo l h1]
   have hor:=hh.obj l o h2
   by_cases hlv:o.live
   ·cases hml:m l with
    | none=>rw[hml] at hor;cases o <;> simp[ORel] at hor ⊢
    | some b =>
     rw[hml] at hor
     have hbs:=(hh.dom l b hml).2
     have hno:∀ l0,l0<n0→m (g l0)≠some b:=fun l0 q1 q2=>by
      obtain ⟨o1,e1,e2⟩:=glive l0 q1
      exact h1n l0 q1 (hone _ _ b o1 o q2 hml e1 h2 e2 hlv)
     have hm:Mono m X w m2 X w':=by
      refine ⟨fun l b hl=>?_,fun b hb hc=>⟨hsame b hc.lt (fun l0 _ q2=>hb (.inr ⟨_,q2⟩)),?_⟩,hst.shp⟩
      ·rw[m2lo l (hh.dom l b hl).1];exact hl
      ·rintro (hx | ⟨l,hl⟩)
       ·exact hb (.inl hx)
       ·rcases m2s l b hl with ⟨_,h⟩ | ⟨j,_,h⟩
        ·exact hb (.inr ⟨l,h⟩)
        ·rcases hnew _ b h with ⟨l0,q1,q2⟩ | hge
         ·exact hb (.inr ⟨_,q2⟩)
         ·have:=hc.lt;omega
     exact ORel.mono hm (hsame b hbs hno) hor
   ·cases o <;> simp[AObj.live,ORel] at hlv ⊢
  ·have hor:=hh'.obj k o0 h2
   rw[m2lo _ (glt k h1),← mk k h1]
   cases hml:m' k with
   | none=>rw[hml] at hor;cases o0 <;> simp[ORel,renO] at hor ⊢
   | some b=>rw[hml] at hor;exact ORel.shift hmap how hor
  ·have hor:=hh'.obj _ o0 h2
   rw[m2hi]
   cases hml:m' (n0+j) with
   | none=>rw[hml] at hor;cases o0 <;> simp[ORel,renO] at hor ⊢
   | some b=>rw[hml] at hor;exact ORel.shift hmap how hor
 ·refine ⟨fun l hl=>m2lo l hl,fun l b hl=>?_,hst.size,fun b hb hx=>hsame b hb fun l0 q1 q2=>?_,hst.shp,hst.os,hst.tape,hst.output,hst.drawn⟩
  ·rcases m2s l b hl with ⟨_,h⟩ | ⟨j,_,h⟩
   ·exact .inl ⟨l,h⟩
   ·rcases hnew _ b h with ⟨l0,q1,q2⟩ | hge
    ·exact .inl ⟨_,q2⟩
    ·exact .inr hge
  ·rcases hx with hx | hx
   ·exact hXg b hx l0 q1 q2
   ·exact hx _ q2
section
variable {P:Program}
theorem tidy_cut {σ σ2:List AObj} {v r:AV} {τ:List AObj} (hl:σ2.length=σ.length) (hv:QR σ.length v=true) (ho:∀ (l:Nat) (o:AObj),σ2[l]? = some o→σ[l]? = some o∨Z3 σ.length o=true)
  (h:r=v∧∃ junk,τ=σ2++junk):∃ g r2 σ3,Tidy σ.length σ r τ g r2 σ3∧(r2=v∧σ3=σ2):=by
 obtain ⟨rfl,junk,rfl⟩:=h
 refine ⟨id,r,σ2,⟨fun _ _=>rfl,fun _ _ h _=>h,by omega,(PU (g:=id) (k:=σ.length) (fun _ _=>rfl) r hv).symm,by rw[hl];exact hv,fun l o hlo=>?_⟩,rfl,rfl⟩
 have hlt:l<σ2.length:=(QH.1 hlo).1
 have hin:(σ2++junk)[l]? = some o:=by rw[QE hlt];exact hlo
 rcases ho l o hlo with h1 | h1
 ·exact .inl ⟨by omega,h1,hin⟩
 ·refine .inr ⟨by rw[hl];exact h1,?_⟩
  rw[E1 (g:=id) (k:=σ.length) (fun _ _=>rfl) h1];exact hin
def kRnd (l:Nat) (Q:AV→List AObj→Prop):Exit→St→Prop:=fun e s2=>match e with
 | .panic _ | .outgrown=>False
 | e=>∃ r2,s2.heap[l]? = some (.loop r2)∧Q (.b (GQ e).isNone) (setLoop s2.heap l r2 (if (GQ e).isNone then .ready else .done) (GQ e))
theorem P0 {l:Nat} {Q:AV→List AObj→Prop} {s:St}:kRnd l Q .normal s = ∃ r2,s.heap[l]? = some (.loop r2)∧Q (.b true) (setLoop s.heap l r2 .ready none):=Eq.trans rfl rfl
theorem kRnd_r {l:Nat} {Q:AV→List AObj→Prop} {s:St}:kRnd l Q .ret s = ∃ r2,s.heap[l]? = some (.loop r2)∧Q (.b false) (setLoop s.heap l r2 .done (some .ret)):=Eq.trans rfl rfl
def kAsg (P:Program) (fx:Fx) (l:Nat) (ib:IC) (Q:AV→List AObj→Prop):Exit→St→Prop:=fun e s1=>match e with
 | .normal=>∃ r1,s1.heap[l]? = some (.loop r1)∧r1.state=.ready∧IS P fx ib ⟨s1.vals,setLoop s1.heap l r1 .busy r1.pending⟩ (kRnd l Q) .mk .mk
 | _=>False
theorem Qam {fx:Fx} {l:Nat} {ib:IC} {Q:AV→List AObj→Prop} {s:St}:kAsg P fx l ib Q .normal s = ∃ r1,s.heap[l]? = some (.loop r1)∧r1.state=.ready∧IS P fx ib ⟨s.vals,setLoop s.heap l r1 .busy r1.pending⟩ (kRnd l Q) .mk .mk:=Eq.trans rfl rfl
theorem QeH {l:Nat} {σ:List AObj} {r:XC} {args:List AV} {Q:AV→List AObj→Prop} (ia ib:IC) (hl:σ[l]? = some (.loop r)) (hst:r.state=.ready) (hargs:args.length=r.params.length)
  (hvp:(decide r.vars.Nodup&&r.params.all fun t=>r.vars.contains t&&decide (t<r.ntmps))=true)
  (hca:QL P r.vars r.ntmps r.assign=some ia) (hcb:QL P r.vars r.ntmps r.body=some ib)
  (h:IS P ⟨r.vars,r.ntmps,some l,σ.length⟩ ia ⟨JM r.vars r.params args r.vals,σ⟩ (kAsg P ⟨r.vars,r.ntmps,some l,σ.length⟩ l ib Q) .mk .mk):YC P l args σ Q:=by
 simp only[QD,decide_eq_true_eq,Q1,XS] at hvp
 refine N5 hl hst hargs hvp.1 (fun t ht=>(hvp.2 t ht).1) (fun t ht=>(hvp.2 t ht).2) ?_
 refine Y6 _ ia _ _ hca (BC ia _ _ _ ?_ (VT _ _ _ _ _ h))
 intro e s1 h1
 cases e with
 | normal =>
  obtain ⟨r1,g1,g2,g3⟩:=h1
  refine ⟨r1,g1,g2,?_⟩
  refine Y6 _ ib _ _ hcb (BC ib _ _ _ ?_ (VT _ _ _ _ _ g3))
  intro e s2 h2
  cases e <;> exact h2
 | _=>exact h1
theorem RW_s {fx:Fx} {s:St} {Q:Exit→St→Prop} {g:Opd} {ps:Array Nat} {assign body:Code} {gf:FuncId} {cap:List AV} (hg:WY s.vals [] g=.fn (.func gf) cap) (hvl:s.vals.length≤fx.vars.length) (hr0:∀ l0,fx.r=some l0→∃ r0,s.heap[l0]? = some (.loop r0))
  (h:AC P gf (.yld s.heap.length::cap) (s.heap++[.loop (VJ fx s.vals ps assign body)]) fun _ σ'=>U9 P fx s.vals s.heap.length Q σ'):RW P fx g ps assign body s Q:=⟨gf,cap,hg,hvl,hr0,h⟩
end
section
variable {P:Program}
theorem AC.cut0 {f:FuncId} {args:List AV} {σ:List AObj} {v:AV} (h:AC P f args σ fun r τ=>r=v∧∃ junk,τ=σ++junk) (hv:QR σ.length v=true):AC P f args σ fun r τ=>r=v∧τ=σ :=
 h.cut rfl hv fun l o h=>.inl h
theorem AC.cutF {f:FuncId} {args:List AV} {σ:List AObj} {v:AV} (h:AC P f args σ fun r τ=>r=v∧∃ junk,τ=σ++junk) (hv:QR 0 v=true):AC P f args σ fun r τ=>r=v∧τ=σ :=
 h.cut0 (Y8 (QF _) v hv)
end
theorem HRel.forget {m:LM} {X:Nat→Prop} {σ J:List AObj} {w:World} (h:HRel m X (σ++J) w):HRel m X (List.replicate σ.length .dead++J) w:=by
 have hl:(List.replicate σ.length AObj.dead++J).length=(σ++J).length:=by simp
 have hg:∀ (l:Nat) o,(List.replicate σ.length AObj.dead++J)[l]? = some o→o=.dead∨(σ++J)[l]? = some o:=fun l o ho=>by
  by_cases hlt:l<σ.length
  ·rw[QE (by simpa using hlt)] at ho
   have:=QZ ho
   rw[List.mem_replicate] at this
   exact .inl this.2
  ·rw[QS (by simp;omega)] at ho
   rw[QS (by omega)]
   exact .inr (by simpa using ho)
 have hlv:∀ (l:Nat) o,(List.replicate σ.length AObj.dead++J)[l]? = some o→o.live→(σ++J)[l]? = some o:=fun l o ho hv=>by
  rcases hg l o ho with rfl | h
  ·exact hv.elim
  ·exact h
 refine ⟨h.xb,fun l b hb=>by rw[hl];exact h.dom l b hb,fun l b o hb ho hv=>h.own l b o hb (hlv l o ho hv) hv,fun l l' b o' hb hb' ho' hv=>h.inj l l' b o' hb hb' (hlv l' o' ho' hv) hv,fun l o ho=>?_,h.gl⟩
 rcases hg l o ho with rfl | h2
 ·cases m l <;> simp[ORel]
 ·exact h.obj l o h2
theorem S2 (cs:List CV):(cs.map AV.cv).all AV.isSc=true:=by simp[AV.isSc]
def AccS (e:Nat) (σ:List AObj) (v:AV) (n:Nat) (cs:List CV):Prop:=(v=.cv .nils∧n=0∧cs=[])∨∃ l,v=.sl l 0 n e∧cs.length=n*e∧rowOf σ l=some (cs.map .cv)
theorem AccS.nil (e:Nat) (σ:List AObj):AccS e σ (.cv .nils) 0 []:=.inl ⟨rfl,rfl,rfl⟩
theorem TP {p:CV→Prop} {σ:List AObj}:∀ {cs:List CV},(∀ c∈cs,p c)→HL p σ (cs.map .cv) cs
 | [],_=>.nil
 | c::cs,h=>.cons (.c _ (h c (by simp))) (TP fun c' hc=>h c' (by simp[hc]))
end Go.Proofs.YtpmokaefmcffaaaGreat.AM
namespace Go.Proofs.YtpmokaefmcffaaaGreat.Pl
def setT (o:List Bool) (z:Nat):List Bool:=o.set z true
def GP (g:Nat→List Nat) (o:List Bool) (i:Nat):List Bool:=if o[i]?.getD false then (g i).foldl setT o else o
def GO (g:Nat→List Nat) (o:List Bool) (n:Nat):List Bool:=(List.range n).foldl (GP g) o
def covN (g:Nat→List Nat) (n c:Nat):Nat→List Bool
 | 0=>(List.replicate n false).set c true
 | t+1=>GO g (covN g n c t) n
def covG (g:Nat→List Nat) (n c:Nat):List Bool:=covN g n c n
inductive Rch (g:Nat→List Nat) (c:Nat):Nat→Prop
 | refl:Rch g c c
 | step {a z:Nat}:Rch g c a→z∈g a→Rch g c z
def T (o:List Bool) (k:Nat):Prop:=o[k]?.getD false=true
section
variable {g:Nat→List Nat} {n c:Nat}
structure Dfs (g:Nat→List Nat) (c:Nat) (M M':List Bool):Prop where
 len:M'.length=M.length
 mono:∀ k,T M k→T M' k
 has:T M' c
 new:∀ k,T M' k→T M k∨Rch g c k
 clo:∀ a z,T M' a→¬ T M a→z∈g a→T M' z
end
def cnt:Nat→(Nat→Bool)→Nat
 | 0,_=>0
 | n+1,P=>cnt n P+(if P n then 1 else 0)
theorem cnt_mono {n:Nat} {P Q:Nat→Bool} (h:∀ i,i<n→P i=true→Q i=true):cnt n P≤cnt n Q:=by
 induction n with
 | zero=>exact QG _
 | succ n ih =>
  have h1:=ih (fun i hi=>h i (by omega))
  have h2:=h n (by omega)
  simp only[cnt]
  by_cases hp:P n=true
  ·simp only[hp,h2 hp,if_true];omega
  ·rw[if_neg hp];split <;> omega
theorem K1 {n:Nat} {P Q:Nat→Bool} (h:∀ i,i<n→P i=Q i):cnt n P=cnt n Q :=
 Nat.le_antisymm (cnt_mono fun i hi e=>by rw[← h i hi];exact e) (cnt_mono fun i hi e=>by rw[h i hi];exact e)
theorem cnt_lt {n:Nat} {P Q:Nat→Bool} (h:∀ i,i<n→P i=true→Q i=true) {k:Nat} (hk:k<n) (h1:P k=false) (h2:Q k=true):cnt n P+1≤cnt n Q:=by
 induction n with
 | zero=>omega
 | succ n ih =>
  simp only[cnt]
  by_cases hkn:k=n
  ·subst hkn
   have:=cnt_mono (n:=k) (fun i hi=>h i (by omega))
   simp only[h1,h2,if_true];simp;omega
  ·have h3:=ih (fun i hi=>h i (by omega)) (by omega)
   by_cases hp:P n=true
   ·simp only[hp,h n (by omega) hp,if_true];omega
   ·rw[if_neg hp];split <;> omega
theorem M5 {n:Nat} {P:Nat→Bool} (h:0<cnt n P):∃ k,k<n∧P k=true:=by
 induction n with
 | zero=>simp[cnt] at h
 | succ n ih =>
  by_cases hp:P n=true
  ·exact ⟨n,by omega,hp⟩
  ·simp only[cnt,hp] at h
   obtain ⟨k,hk,h1⟩:=ih (by simpa using h)
   exact ⟨k,by omega,h1⟩
theorem KN {n:Nat} {P:Nat→Bool} (h:∀ i,i<n→P i=false):cnt n P=0:=by
 by_cases h0:0<cnt n P
 ·obtain ⟨k,hk,h1⟩:=M5 h0
  rw[h k hk] at h1;exact absurd h1 (by decide)
 ·omega
theorem cnt_one {n:Nat} {P Q:Nat→Bool} (h:∀ i k,i<n→k<n→P i=false→Q i=true→P k=false→Q k=true→i=k):cnt n Q≤cnt n P+1:=by
 induction n with
 | zero=>simp[cnt]
 | succ n ih =>
  simp only[cnt]
  by_cases hq:Q n=true
  ·by_cases hp:P n=true
   ·have:=ih (fun i k hi hk=>h i k (by omega) (by omega))
    simp only[hq,hp,if_true];omega
   ·have hp:P n=false:=by simpa using hp
    have:cnt n Q≤cnt n P:=by
     apply cnt_mono
     intro i hi hqi
     cases hpi:P i with
     | true=>rfl
     | false=>exact absurd (h i n (by omega) (by omega) hpi hqi hp hq) (by omega)
    simp only[hq,hp,if_true];simp;omega
  ·have:=ih (fun i k hi hk=>h i k (by omega) (by omega))
   rw[if_neg hq];split <;> omega
def sumTo:Nat→(Nat→Nat)→Nat
 | 0,_=>0
 | m+1,f=>sumTo m f+f m
theorem Qc0 {m:Nat} {f g:Nat→Nat} (h:∀ c,c<m→f c≤g c):sumTo m f≤sumTo m g:=by
 induction m with
 | zero=>exact QG _
 | succ m ih=>have:=ih (fun c hc=>h c (by omega));have:=h m (by omega);simp only[sumTo];omega
theorem sum_add {m:Nat} {f g:Nat→Nat}:sumTo m (fun c=>f c+g c)=sumTo m f+sumTo m g:=by
 induction m with
 | zero=>rfl
 | succ m ih=>simp only[sumTo,ih];omega
theorem JU {n:Nat} {P Q:Nat→Bool} {x:Nat} (hx:x<n) (h1:P x=false) (h2:Q x=true) (h:∀ i,i<n→i≠x→P i=Q i):cnt n Q=cnt n P+1:=by
 have a:=cnt_lt (P:=P) (Q:=Q) (n:=n) (fun i hi hp=>by
  by_cases e:i=x
  ·subst e;exact h2
  ·rw[← h i hi e];exact hp) hx h1 h2
 have b:=cnt_one (P:=P) (Q:=Q) (n:=n) (fun i k hi hk p1 q1 p2 q2=>by
  have e1:i=x:=by
   by_cases e:i=x
   ·exact e
   ·rw[h i hi e,q1] at p1;exact absurd p1 (by decide)
  have e2:k=x:=by
   by_cases e:k=x
   ·exact e
   ·rw[h k hk e,q2] at p2;exact absurd p2 (by decide)
  rw[e1,e2])
 omega
section
variable (can:Nat→Nat→Bool) (n:Nat)
structure Mat (i:Nat) (B:Nat→Bool) (g:Nat→Option Nat):Prop where
 ok:∀ l k,i≤l→l<n→g l=some k→k<n∧can l k=true∧B k=false
 inj:∀ l l' k,i≤l→l<n→i≤l'→l'<n→g l=some k→g l'=some k→l=l'
variable {can n}
end
structure Ku where
 seen:List Bool
 bef:List Int
abbrev gI (l:List Int) (k:Nat):Int:=l[k]?.getD 0
abbrev gB (l:List Bool) (k:Nat):Bool:=l[k]?.getD false
inductive Aug (E:Nat→Nat→Prop) (b:List Int):Nat→List Int→Prop
 | last {i k:Nat}:k<b.length→E i k→gI b k<0→Aug E b i (b.set k i)
 | step {i k l:Nat} {b1:List Int}:k<b.length→E i k→gI b k=(l:Int)→Aug E b l b1→gI b1 k=(l:Int)→Aug E b i (b1.set k i)
theorem Aug.len {E:Nat→Nat→Prop} {b b':List Int} {i:Nat} (h:Aug E b i b'):b'.length=b.length:=by
 induction h with
 | last=>simp
 | step _ _ _ _ _ ih=>simpa using ih
section
variable (can:Nat→Nat→Bool) (told:List Int) (n:Nat)
def Ed (l k:Nat):Prop:=can l k=true∧gI told k<0
structure KuSp (i k0:Nat) (s:Ku) (r:Bool × Ku):Prop where
 ls:r.2.seen.length=n
 lb:r.2.bef.length=n
 mono:∀ k,gB s.seen k=true→gB r.2.seen k=true
 keep:∀ k,gB s.seen k=true→gI r.2.bef k=gI s.bef k
 yes:r.1=true→Aug (Ed can told) s.bef i r.2.bef
 no:r.1=false→r.2.bef=s.bef∧(∀ k,k0≤k→k<n→Ed can told i k→gB r.2.seen k=true) ∧
  ∀ k,k<n→gB r.2.seen k=true→gB s.seen k=true∨(gI told k<0∧0≤gI s.bef k∧∀ k',k'<n→Ed can told (gI s.bef k).toNat k'→gB r.2.seen k'=true)
variable {can told n}
structure C9 (can:Nat→Nat→Bool) (told:List Int) (n f p0 i:Nat) (s:List Int × Nat):Prop where
 len:s.1.length=n
 val:∀ k,k<n→gI told k<0→gI s.1 k<0∨∃ l:Nat,f≤l∧l<i∧gI s.1 k=(l:Int)∧can l k=true
 one:∀ l:Nat,f≤l→cnt n (fun k=>decide (gI told k<0)&&(gI s.1 k == (l:Int)))≤1
 num:s.2=p0+cnt n (fun k=>decide (gI told k<0)&&decide (0≤gI s.1 k))
 shut:∃ F T:Nat→Bool,(∀ l k,F l=true→k<n→Ed can told l k→T k=true)∧(∀ k,k<n→T k=true→gI told k<0∧∃ l:Nat,gI s.1 k=(l:Int)∧F l=true) ∧
  ∀ l,f≤l→l<i→F l=false→∃ k,k<n∧gI told k<0∧gI s.1 k=(l:Int)
end
section
variable (can:Nat→Nat→Bool) (n:Nat)
variable {can n}
structure NxOk (can:Nat→Nat→Bool) (n i:Nat) (B:Nat→Bool) (l:List Int) (p:Nat):Prop where
 ok:∀ j,j<l.length→gI l j = -1∨∃ k:Nat,gI l j=(k:Int)∧k<n∧can (i+j) k=true∧B k=false
 inj:∀ j j',j<l.length→j'<l.length→gI l j=gI l j'→0≤gI l j→j=j'
 num:cnt l.length (fun j=>decide (0≤gI l j))=p
end
section
variable (nx:List Int)
structure NxW (can:Nat→Nat→Bool) (rk:Nat→Int) (n:Nat) (nx:List Int):Prop where
 len:nx.length=n
 ok:∀ j,j<n→gI nx j = -1∨∃ k:Nat,gI nx j=(k:Int)∧k<n∧can j k=true
 inj:∀ j j',j<n→j'<n→gI nx j=gI nx j'→0≤gI nx j→j=j'
 up:∀ i k,i<n→k<n→can i k=true→rk i<rk k
variable {nx} {can:Nat→Nat→Bool} {rk:Nat→Int} {n:Nat}
end
section
variable (can:Nat→Nat→Bool) (n:Nat)
structure QeK (can:Nat→Nat→Bool) (n:Nat) (done last:List Nat) (g:Nat→Option Nat):Prop where
 mat:∀ l k,g l=some k→l∈done∧k∈done∧can l k=true
 inj:∀ l l' k,g l=some k→g l'=some k→l=l'
 nd:last.Nodup
 sub:∀ x∈last,x∈done∧g x=none
 num:cnt n (fun l=>(g l).isSome)+last.length=done.length
variable {can n}
end
end Go.Proofs.YtpmokaefmcffaaaGreat.Pl
namespace Go.Proofs.YtpmokaefmcffaaaGreat.AM
variable [Dr]
open Go Pl
structure Les where
 le:Int
 te:Int
 ca:Int
 b:Int
 e:Int
 f:Int
 o:Int
deriving Inhabited
abbrev lesC (l:Les):List CV:=[.int .i64 l.le,.int .i64 l.te,.int .i64 l.ca,.int .i64 l.b,.int .i64 l.e,.int .i64 l.f,.int .i64 l.o]
structure Dy where
 mi:List (List Int)
 ls:List Les
deriving Inhabited
abbrev rowC (zs:List Int):CV:=.rsl (zs.map (.int .i64)) zs.length
abbrev minR (m:List (List Int)):CV:=.rsl (m.map rowC) m.length
def F0 (l:List Les):List CV:=l.flatMap lesC
abbrev lesR (l:List Les):CV:=.rsl (F0 l) l.length
section
variable {l:List Les} {k:Nat}
end
theorem B7 {m:List (List Int)} {k:Nat} (h:k<m.length):(m.map rowC)[k]? = some (rowC m[k]!):=by simp[h]
def fndE (g:Nat→Int):Nat→Nat→Int × Int
 | _,0=>(0,0)
 | i,k+1=>if g i=0 then fndE g (i+1) k else (i,g i)
theorem J7 {g:Nat→Int}:∀ (k i:Nat),(∀ j,i≤j→j<i+k→g j=0)→fndE g i k=(0,0)
 | 0,_,_=>rfl
 | k+1,i,h=>by
  rw[fndE,if_pos (h i (QG _) (by omega))]
  exact J7 k (i+1) fun j h1 h2=>h j (by omega) (by omega)
theorem VO {g:Nat→Int}:∀ (k i m:Nat),i≤m→m<i+k→(∀ j,i≤j→j<m→g j=0)→g m≠0→fndE g i k=((m:Int),g m)
 | 0,i,m,h1,h2,_,_=>by omega
 | k+1,i,m,h1,h2,h3,h4=>by
  rcases ZB i m with h | h
  ·rw[fndE,if_pos (h3 i (QG _) h)]
   exact VO k (i+1) m h (by omega) (fun j a b=>h3 j (by omega) b) h4
  ·have:i=m:=by omega
   subst this
   rw[fndE,if_neg h4]
theorem LJ {g:Nat→Int}:∀ (k i:Nat),(fndE g i k).2=0→∀ j,i≤j→j<i+k→g j=0
 | 0,_,_,j,h1,h2=>by omega
 | k+1,i,h,j,h1,h2=>by
  rw[fndE] at h
  by_cases h0:g i=0
  ·rw[if_pos h0] at h
   rcases Nat.eq_or_lt_of_le h1 with rfl | h3
   ·exact h0
   ·exact LJ k (i+1) h j h3 (by omega)
  ·rw[if_neg h0] at h;exact absurd h h0
def rowE (d:Dy) (i:Nat):Int :=
 if (d.mi[i]!).length≠d.mi.length then 3 else if outF 0 120 d.mi[i]! = true then 7 else if gI d.mi[i]! i≠0 then 2 else 0
def lesE (d:Dy) (l:Les):Int :=
 if (outF 0 1440 [l.b,l.e]||outF 0 7 [l.le,l.te,l.ca])=true then 7 else if l.b≥l.e then 2 else if outF 0 ((d.mi.length:Int)-1) [l.f,l.o]=true then 4 else 0
def dyE (d:Dy):Int × Int × Int :=
 if (outF 1 16 [(d.mi.length:Int)]||decide ((d.ls.length:Int)>12))=true then (1,0,3)
 else if (fndE (rowE d) 0 d.mi.length).2≠0 then (2,fndE (rowE d) 0 d.mi.length)
 else if (fndE (fun i=>lesE d d.ls[i]!) 0 d.ls.length).2≠0 then (3,fndE (fun i=>lesE d d.ls[i]!) 0 d.ls.length)
 else (0,0,0)
structure LesOk (n:Nat) (l:Les):Prop where
 b0:0≤l.b
 be:l.b<l.e
 e1:l.e≤1440
 le:0≤l.le∧l.le≤7
 te:0≤l.te∧l.te≤7
 ca:0≤l.ca∧l.ca≤7
 f:0≤l.f∧l.f<n
 o:0≤l.o∧l.o<n
structure DyOk (d:Dy):Prop where
 n1:1≤d.mi.length
 n2:d.mi.length≤16
 l12:d.ls.length≤12
 row:∀ i,i<d.mi.length→(d.mi[i]!).length=d.mi.length
 rng:∀ i k,i<d.mi.length→k<d.mi.length→0≤gI d.mi[i]! k∧gI d.mi[i]! k≤120
 diag:∀ i,i<d.mi.length→gI d.mi[i]! i=0
 les:∀ i,i<d.ls.length→LesOk d.mi.length d.ls[i]!
theorem VL {lo hi:Int} {zs:List Int}:outF lo hi zs=false↔∀ z∈zs,lo≤z∧z≤hi:=by
 unfold outF
 rw[W6]
 constructor
 ·intro h z hz
  have:=h z hz
  simp at this
  omega
 ·intro h z hz
  have:=h z hz
  simp;omega
structure DSz (d:Dy):Prop where
 mi:d.mi.length<2 ^ 63
 ls:d.ls.length<2 ^ 63
 row:∀ i,i<d.mi.length→(d.mi[i]!).length<2 ^ 63
end Go.Proofs.YtpmokaefmcffaaaGreat.AM
namespace Go.Proofs.YtpmokaefmcffaaaGreat.Pl
abbrev Pat:=Int × Int
section
variable (ps:List Pat)
variable {ps}
end
end Go.Proofs.YtpmokaefmcffaaaGreat.Pl
namespace Go.Proofs.YtpmokaefmcffaaaGreat.AM
variable [Dr]
open Go Pl
section
variable {l:List Pat} {k:Nat}
end
structure PsOk (ps:List Pat) (l:List Int):Prop where
 p1:1≤ps.length
 p12:ps.length≤12
 l1:1≤l.length
 l6:l.length≤6
 need:∀ i,i<l.length→0≤gI l i∧gI l i≤3
 pat:∀ k,k<ps.length→(0≤(ps[k]!).1∧(ps[k]!).1<2 ^ l.length)∧0≤(ps[k]!).2∧(ps[k]!).2≤100000
end Go.Proofs.YtpmokaefmcffaaaGreat.AM
namespace Go.Proofs.YtpmokaefmcffaaaGreat.AM
variable [Dr]
open Go
def AK (y:Int):Bool:=(y.tmod 400 == 0)||((y.tmod 4 == 0)&&(y.tmod 100 != 0))
def XY (y m:Int):Int:=if m=4∨m=6∨m=9∨m=11 then 30 else if m≠2 then 31 else if AK y then 29 else 28
theorem hmix:Tryz.prog.follows .mixedOrders=true:=Checked.mixed Tryz.checked
def begF:Nat→Int
 | 0=>0
 | k+1=>begF k+337+XY (2000+(k:Int)) 2
theorem U0 (y m:Int):28≤XY y m∧XY y m≤31:=by
 unfold XY
 split
 ·omega
 ·split
  ·omega
  ·split <;> omega
def sumL (y:Int):Nat→Int
 | 0=>0
 | k+1=>sumL y k+XY y ((k:Int)+1)
theorem BJ (y:Int):∀ k,0≤sumL y k∧sumL y k≤31*(k:Int)
 | 0=>by simp[sumL]
 | k+1=>by
  have:=BJ y k
  have:=U0 y ((k:Int)+1)
  unfold sumL;omega
structure UW (D:Int) (j k:Nat):Prop where
 k12:k<12
 lo:begF j+sumL (2000+(j:Int)) k≤D
 hi:D<begF j+sumL (2000+(j:Int)) (k+1)
 top:D≤40000
theorem sumL_12 (y:Int):sumL y 12=337+XY y 2:=by
 simp[sumL,XY];omega
theorem OQ (j:Nat):begF (j+1)=begF j+sumL (2000+(j:Int)) 12:=by rw[sumL_12,begF];omega
theorem SX (y:Int):∀ {a b:Nat},a≤b→sumL y a≤sumL y b:=by
 intro a b h
 induction h with
 | refl=>exact Int.le_refl _
 | step h ih=>have:=U0 y (((‹Nat› : Nat):Int)+1);simp only[sumL];omega
theorem QbH:∀ j:Nat,365*(j:Int)≤begF j∧begF j≤366*(j:Int)
 | 0=>by simp[begF]
 | j+1=>by
  have:=QbH j
  have h2:28≤XY (2000+(j:Int)) 2∧XY (2000+(j:Int)) 2≤29:=by
   simp only[XY];simp;split <;> omega
  unfold begF;omega
theorem NM {a b:Nat} (h:a≤b):begF a≤begF b:=by
 induction h with
 | refl=>exact Int.le_refl _
 | step h ih=>have:=U0 (2000+((‹Nat› : Nat):Int)) 2;simp only[begF];omega
theorem UW.year {D:Int} {j k:Nat} (h:UW D j k):begF j≤D∧D<begF (j+1)∧j≤110:=by
 have h1:=BJ (2000+(j:Int)) k
 have h2:=SX (2000+(j:Int)) (show k+1≤12 from h.k12)
 have h3:=OQ j
 have h4:=QbH j
 have:=h.lo;have:=h.hi;have:=h.top
 omega
abbrev dOf (D:Int) (j k:Nat):Int:=D-begF j-sumL (2000+(j:Int)) k+1
theorem UW.dd {D:Int} {j k:Nat} (h:UW D j k):1≤dOf D j k∧dOf D j k≤XY (2000+(j:Int)) ((k:Int)+1):=by
 have h1:=h.lo;have h2:=h.hi
 rw[sumL] at h2
 unfold dOf;omega
theorem UW.le {D E:Int} {j k j2 k2:Nat} (h:UW D j k) (h2:UW E j2 k2) (hle:D≤E):j≤j2:=by
 have:=h.year;have:=h2.year
 rcases ZB j2 j with hl | hg
 ·have:=NM (show j2+1≤j from hl);omega
 ·exact hg
end Go.Proofs.YtpmokaefmcffaaaGreat.AM
namespace Go.Proofs.YtpmokaefmcffaaaGreat.AM
variable [Dr]
open Go
variable {P:Program} {fx:Fx}
def SW (P:Program) (fx:Fx) (ic:IC) (s:St) (Q:Exit→St→Prop):Prop:=∀ c,QL P fx.vars fx.N c=some ic→W P fx c s Q
theorem SW_of {ic:IC} {s:St} {Q:Exit→St→Prop} (h:IS P fx ic s Q .mk .mk):SW P fx ic s Q:=fun c hc=>Y6 c ic s Q hc (VT ic s Q _ _ h)
theorem SW.weak {ic:IC} {s s':St} {Q:Exit→St→Prop} (hw:Weak fx s s') (h:SW P fx ic s' Q):SW P fx ic s Q:=fun c hc=>(h c hc).weak hw
def kSW (P:Program) (fx:Fx) (b:IC) (Q:Exit→St→Prop):Exit→St→Prop:=fun e s'=>match e with | .normal=>SW P fx b s' Q | e=>Q e s'
theorem kSW_n {b:IC} {Q:Exit→St→Prop} {s:St}:kSW P fx b Q .normal s=SW P fx b s Q:=Eq.trans rfl rfl
theorem kSW_r {b:IC} {Q:Exit→St→Prop} {s:St}:kSW P fx b Q .ret s=Q .ret s:=Eq.trans rfl rfl
theorem SW_seq {a b:IC} {s:St} {Q:Exit→St→Prop} (h:IS P fx a s (kSW P fx b Q) .mk .mk):SW P fx (.seq a b) s Q:=by
 have h:=VT a s _ _ _ h
 intro c
 induction c with
 | seq x y _ _ =>
  intro hc
  simp only[QL,QB,QA] at hc
  obtain ⟨x',hx,y',hy,he⟩:=hc
  cases he
  refine QcO ((Y6 x a s _ hx h).mono ?_)
  intro e s' hq
  cases e with
  | normal=>exact hq y hy
  | _=>exact hq
 | cond o x y ihx ihy =>
  intro hc
  cases o with
  | const v =>
   cases v <;> simp only[QL,reduceCtorEq] at hc
   rename_i t
   cases t with
   | true=>simp only[if_true] at hc;exact XD (ihx hc)
   | false=>simp only[QT,if_false] at hc;exact XD (ihy hc)
  | tmp t =>
   simp only[QL,QB,QA] at hc
   obtain ⟨_,_,_,_,_,_,he⟩:=hc
   cases he
  | global g=>simp[QL] at hc
  | func f=>simp[QL] at hc
 | region id ops dr =>
  intro hc
  cases dr <;> simp[QL] at hc
 | rangeFunc g ps assign body _ _ =>
  intro hc
  simp only[QL,QB,QA] at hc
  obtain ⟨_,_,_,_,he⟩:=hc
  cases he
 | skip=>intro hc;simp[QL] at hc
 | label l=>intro hc;simp[QL] at hc
 | exit i=>intro hc;simp[QL] at hc
 | ret=>intro hc;simp[QL] at hc
 | block i a _=>intro hc;simp[QL] at hc
 | loop a _=>intro hc;simp[QL] at hc
 | scope a _=>intro hc;simp[QL] at hc
 | goto l=>intro hc;simp[QL] at hc
 | refuse r=>intro hc;simp[QL] at hc
theorem AC_SW {f:FuncId} {ic:IC} {vars:List Nat} {N:Nat} {res:List RC} {p:Bool} {args:List AV} {σ:List AObj} {Q:AV→List AObj→Prop} (hf:FnOk P f ⟨ic,vars,N,res,p⟩) (hargs:args.length≤N)
  (h:SW P ⟨vars,N,none,σ.length⟩ ic ⟨Y5 vars args,σ⟩ (kEnd res Q)):AC P f args σ Q:=by
 obtain ⟨fn,c,h1,h2,h3,h4,h5,h6⟩:=hf.ok
 dsimp only at h4 h5 h6
 subst h4
 have hr:∀ vals heap,UB P vars vals heap fn.results.toList=RL vals heap res:=fun vals heap=>BY h6
 refine IB h1 h2 (RE h1 h3 h2) hargs ((h c h5).mono ?_)
 intro e s' h'
 have key:rK (RL s'.vals s'.heap res) (fun r=>Q r s'.heap) .mk→∃ r,UB P vars s'.vals s'.heap fn.results.toList=some r∧Q r s'.heap:=by
  intro h'
  unfold rK at h'
  split at h'
  ·exact h'.elim
  ·rename_i v hv;exact ⟨v,by rw[hr];exact hv,h'⟩
 cases e with
 | normal=>exact key h'
 | ret=>exact key h'
 | _=>exact h'.elim
end Go.Proofs.YtpmokaefmcffaaaGreat.AM
namespace Go.Proofs.YtpmokaefmcffaaaGreat.AM
variable [Dr]
open Go
def Turn1 (k:Nat) (σ:List AObj) (a b:AV):Prop:=(a=b∧QR k b=true)∨FrzV anyC σ a b
inductive D2 (k:Nat) (σ:List AObj):List AV→List AV→Prop
 | nil:D2 k σ [] []
 | cons {a b:AV} {as_ bs:List AV}:Turn1 k σ a b→D2 k σ as_ bs→D2 k σ (a::as_) (b::bs)
theorem D2.len {k:Nat} {σ:List AObj} {as_ bs:List AV} (h:D2 k σ as_ bs):as_.length=bs.length:=by
 induction h with
 | nil=>rfl
 | cons _ _ ih=>simp[ih]
theorem D2.get {k:Nat} {σ:List AObj} {as_ bs:List AV} (h:D2 k σ as_ bs):∀ i,Turn1 k σ (as_.getD i .undef) (bs.getD i .undef):=by
 induction h with
 | nil=>intro i;exact .inl ⟨by simp[List.getD],by simp[List.getD,QR]⟩
 | cons h _ ih =>
  intro i
  cases i with
  | zero=>simpa[List.getD] using h
  | succ i=>simpa[List.getD] using ih i
theorem Weak.turn {fx:Fx} {vals vals2:List AV} {τ τ2 J:List AObj} (h0:fx.n0=0) (hlen:τ2.length=τ.length)
  (hv:D2 τ.length (List.replicate τ.length .dead++J) vals vals2)
  (ho:∀ (l:Nat) (o2:AObj),τ2[l]? = some o2→∃ o,τ[l]? = some o∧o.live∧((o2=o∧Z3 τ.length o=true)∨∃ as_ bs,o=.cells as_∧o2=.cells bs∧D2 τ.length (List.replicate τ.length .dead++J) as_ bs)) :
  Weak fx ⟨vals,τ++J⟩ ⟨vals2,τ2⟩:=by
 intro m X en ac w hs
 have hh:=hs.heap
 let m2:LM:=fun l=>if l<τ.length then m l else none
 have hm2:∀ l,l<τ.length→m2 l=m l:=fun l hl=>by simp only[m2];rw[if_pos hl]
 have hm2s:∀ l b,m2 l=some b→l<τ.length∧m l=some b:=fun l b hl=>by
  simp only[m2] at hl
  split at hl
  ·rename_i h;exact ⟨h,hl⟩
  ·cases hl
 have how:∀ b,Own m2 X b→Own m X b:=by
  rintro b (hx | ⟨l,hl⟩)
  ·exact .inl hx
  ·exact .inr ⟨l,(hm2s l b hl).2⟩
 have hin:∀ (l:Nat) o,τ[l]? = some o→(τ++J)[l]? = some o:=fun l o hlo=>by rw[QE (QH.1 hlo).1];exact hlo
 have hlv:∀ l,l<τ.length→∃ o,(τ++J)[l]? = some o∧o.live:=fun l hl=>by
  obtain ⟨o,h1,h2,_⟩:=ho l _ (QI (by omega))
  exact ⟨o,hin l o h1,h2⟩
 have hnot:∀ (l b:Nat) (o:AObj),m l=some b→(List.replicate τ.length AObj.dead++J)[l]? = some o→o.live→¬ Own m2 X b:=by
  intro l b o hb hlo hlive hown
  have hge:τ.length≤l:=by
   rcases ZB l τ.length with hlt | hge
   ·rw[QE (by simpa using hlt)] at hlo
    have:=QZ hlo
    rw[List.mem_replicate] at this
    rw[this.2] at hlive;exact hlive.elim
   ·exact hge
  have hlo':(τ++J)[l]? = some o:=by
   rw[QS (by simpa using hge)] at hlo
   rw[QS hge]
   simpa using hlo
  rcases hown with hx | ⟨l2,h2⟩
  ·exact hh.own l b o hb hlo' hlive hx
  ·obtain ⟨h3,h4⟩:=hm2s l2 b h2
   obtain ⟨o2,h6,h7⟩:=hlv l2 h3
   have:=hh.inj l l2 b _ hb h4 h6 h7
   omega
 have one:∀ {a b:AV},Turn1 τ.length (List.replicate τ.length .dead++J) a b→∀ v,VRel m X w a v→VRel m2 X w b v:=by
  rintro a b (⟨rfl,h⟩ | h) v hv
  ·exact VRel.less hm2 how a v h hv
  ·exact RX (HRel.forget hh) (fun c v _ h=>CV.rep_less how c v h) hnot h v hv
 have many:∀ {as_ bs:List AV},D2 τ.length (List.replicate τ.length .dead++J) as_ bs→∀ vs,QK m X w as_ vs→QK m2 X w bs vs:=by
  intro as_ bs h
  induction h with
  | nil=>intro vs hv;rw[QK.nil' hv];simp[QK]
  | cons h1 _ ih =>
   intro vs hv
   obtain ⟨v,us,rfl,g1,g2⟩:=hv.cons
   exact ⟨one h1 v g1,ih us g2⟩
 refine ⟨m2,⟨hs.size,?_,?_,⟨hh.xb,?_,?_,?_,?_,hh.gl.less how⟩,by rw[h0];exact QF _,hs.entry⟩,?_⟩
 ·intro i t hi
  exact one (hv.get i) _ (hs.vars i t hi)
 ·obtain ⟨bs,h1,h2,h3⟩:=hs.defs
  exact ⟨bs,h1,h2,fun b hb=>let ⟨g1,g2,g3,g4⟩:=h3 b hb;⟨g1,g2,g3,fun hx=>g4 (how b hx)⟩⟩
 ·intro l b hl
  obtain ⟨h1,h2⟩:=hm2s l b hl
  exact ⟨by show l<τ2.length;omega,(hh.dom l b h2).2⟩
 ·intro l b o hl hlo hv
  obtain ⟨h1,h2⟩:=hm2s l b hl
  obtain ⟨o',h3,h4⟩:=hlv l h1
  exact hh.own l b o' h2 h3 h4
 ·intro l l' b o' hl hl' hlo hv
  obtain ⟨h1,h2⟩:=hm2s l b hl
  obtain ⟨h1',h2'⟩:=hm2s l' b hl'
  obtain ⟨o2,h3,h4⟩:=hlv l' h1'
  exact hh.inj l l' b o2 h2 h2' h3 h4
 ·intro l o2 hlo
  obtain ⟨o,h1,h2,h3⟩:=ho l o2 hlo
  have hlt:l<τ.length:=(QH.1 h1).1
  have hob:=hh.obj l o (hin l o h1)
  rw[hm2 l hlt]
  rcases h3 with ⟨rfl,hc⟩ | ⟨as_,bs,rfl,rfl,ht⟩
  ·refine ORel.ren (g:=id) hm2 how hc ?_
   rw[E1 (g:=id) (k:=τ.length) (fun _ _=>rfl) hc]
   exact hob
  ·cases hm:m l with
   | none=>rw[hm] at hob;exact hob.elim
   | some b =>
    rw[hm] at hob
    obtain ⟨c,e,g1,g2,g3⟩:=hob
    refine ⟨c,e,g1,by rw[← ht.len];exact g2,?_⟩
    rw[← ht.len]
    exact many ht _ g3
 ·rw[h0]
  exact ⟨fun l hl=>absurd hl (W5 _),fun l b hl=>.inl ⟨l,(hm2s l b hl).2⟩,QG _,fun _ _ _=>rfl,fun b c e hb=>⟨c,hb,rfl⟩,rfl,rfl,rfl,fun _=>QG _⟩
theorem kFor_turn {fx:Fx} {c:Prop} {S:St→Prop} {Q:Exit→St→Prop} {vals vals2:List AV} {heap:List AObj} (τ τ2 J:List AObj) (hh:heap=τ++J) (hc:c) (h0:fx.n0=0) (hlen:τ2.length=τ.length)
  (hv:D2 τ.length (List.replicate τ.length .dead++J) vals vals2)
  (ho:∀ (l:Nat) (o2:AObj),τ2[l]? = some o2→∃ o,τ[l]? = some o∧o.live∧((o2=o∧Z3 τ.length o=true)∨∃ as_ bs,o=.cells as_∧o2=.cells bs∧D2 τ.length (List.replicate τ.length .dead++J) as_ bs))
  (h:S ⟨vals2,τ2⟩):kFor fx c S Q .normal ⟨vals,heap⟩:=by
 subst hh
 exact AS hc (Weak.turn h0 hlen hv ho) h
end Go.Proofs.YtpmokaefmcffaaaGreat.AM
namespace Go.Proofs.YtpmokaefmcffaaaGreat.AM
variable [Dr]
open Go Pl
abbrev Rt:=Int × Int
def rgC (r:Rt):List CV:=[.int .i64 r.1,.int .i64 r.2]
end Go.Proofs.YtpmokaefmcffaaaGreat.AM
namespace Go.Proofs.YtpmokaefmcffaaaGreat.AM
variable [Dr]
open Go
def Move1 (g:Nat→Nat) (k:Nat) (σ:List AObj) (a b:AV):Prop:=(a=ren g b∧QR k b=true)∨FrzV anyC σ a b
inductive PH (g:Nat→Nat) (k:Nat) (σ:List AObj):List AV→List AV→Prop
 | nil:PH g k σ [] []
 | cons {a b:AV} {as_ bs:List AV}:Move1 g k σ a b→PH g k σ as_ bs→PH g k σ (a::as_) (b::bs)
theorem PH.len {g:Nat→Nat} {k:Nat} {σ:List AObj} {as_ bs:List AV} (h:PH g k σ as_ bs):as_.length=bs.length:=by
 induction h with
 | nil=>rfl
 | cons _ _ ih=>simp[ih]
end Go.Proofs.YtpmokaefmcffaaaGreat.AM
namespace Go.Proofs.YtpmokaefmcffaaaGreat.AM
variable [Dr]
open Go
variable {P:Program} {fx:Fx} {m m':LM} {X X':Nat→Prop} {en:En} {w w':World} {s:St} {ac:Act}
structure MIt (m:LM) (X:Nat→Prop) (w:World) (lit l:Nat) (es:List (AV × AV)) (dn:List Nat) (r bm:Nat) (ces:Array MapEntry) (clock:Nat):Prop where
 mi:m lit=some r
 ml:m l=some bm
 xr:X r
 xm:X bm
 it:∃ c0,c0=clock∧w.heap[r]? = some (.mapIter (some bm) clock ((dn.map fun i=>(ces[i]?.map (·.born)).getD 0).toArray) c0)
 mp:w.heap[bm]? = some (.map ces clock)
 born:∀ e∈ces,e.born<clock
 nd:(ces.toList.map (·.born)).Nodup
 sz:ces.size=es.length
 rel:∀ (i:Nat) (k a:AV),es[i]? = some (k,a)→∃ e:MapEntry,ces[i]? = some e∧(∀ m X w,VRel m X w k e.key)∧∀ m X w,VRel m X w a e.val
 dd:dn.Nodup
 dl:∀ i∈dn,i<es.length
structure GM (l bm:Nat) (es:List (AV × AV)) (ces:Array MapEntry) (clock:Nat) (m:LM) (X:Nat→Prop) (w:World):Prop where
 ml:m l=some bm
 xm:X bm
 mp:w.heap[bm]? = some (.map ces clock)
 born:∀ e∈ces,e.born<clock
 nd:(ces.toList.map (·.born)).Nodup
 sz:ces.size=es.length
 rel:∀ (i:Nat) (k a:AV),es[i]? = some (k,a)→∃ e:MapEntry,ces[i]? = some e∧(∀ m X w,VRel m X w k e.key)∧∀ m X w,VRel m X w a e.val
end Go.Proofs.YtpmokaefmcffaaaGreat.AM
namespace Go.Proofs.YtpmokaefmcffaaaGreat.AM
variable [Dr]
open Go Pl
theorem QfD {p:CV→Prop} {e n:Nat} {σ:List AObj} {v:AV} {cs:List CV} (h:AccS e σ v n cs) (hp:∀ c∈cs,p c):FrzC p σ v (.rsl cs n):=by
 rcases h with ⟨rfl,rfl,rfl⟩ | ⟨l,rfl,hl,hr⟩
 ·exact .nl
 ·refine .sl l 0 n e _ _ hr (by simp[hl]) ?_
  rw[YO,Q5 (by simp[hl])]
  exact TP hp
structure Cls where
 nm:ByteArray
 inc:List Int
 need:Int
 age:Int
 term:Int
deriving Inhabited
structure Sys where
 cl:List Cls
 co:List ByteArray
deriving Inhabited
abbrev clsC (c:Cls):List CV:=[.str c.nm,.rsl (c.inc.map (.int .i64)) c.inc.length,.int .i64 c.need,.int .i64 c.age,.int .i64 c.term]
def DZ (cs:List Cls):List CV:=cs.flatMap clsC
abbrev clsR (cs:List Cls):CV:=.rsl (DZ cs) cs.length
abbrev strR (co:List ByteArray):CV:=.rsl (co.map .str) co.length
section
variable {cs:List Cls} {k:Nat}
end
structure SSz (s:Sys):Prop where
 cl:s.cl.length<2 ^ 63
 co:s.co.length<2 ^ 63
 nm:∀ i,i<s.cl.length→(s.cl[i]!).nm.size<2 ^ 63
 inc:∀ i,i<s.cl.length→(s.cl[i]!).inc.length<2 ^ 63
 cm:∀ i,i<s.co.length→(s.co[i]!).size<2 ^ 63
def XZ (g:Nat→Int):Nat→Nat→Int × Int
 | _,0=>(0,0)
 | i,k+1=>if g i=0 then XZ g (i+1) k else (i,g i)
end Go.Proofs.YtpmokaefmcffaaaGreat.AM
namespace Go.Proofs.YtpmokaefmcffaaaGreat.AM
variable [Dr]
open Go
def lowB (x:UInt8):Bool:=decide (97≤x.toNat∧x.toNat≤122)
def digB (x:UInt8):Bool:=decide (48≤x.toNat∧x.toNat≤57)
def JH (s:ByteArray):Bool:=decide (1≤s.size∧s.size≤16)&&(match s.data.toList with | []=>false | x::_=>lowB x)&&s.data.toList.all fun x=>lowB x||digB x
end Go.Proofs.YtpmokaefmcffaaaGreat.AM
namespace Go.Proofs.YtpmokaefmcffaaaGreat.AM
variable [Dr]
open Go Pl
def VR (s:Sys) (i:Nat):Int :=
 if JH (s.cl[i]!).nm=false then 6
 else if anyN (fun k=>decide ((s.cl[k]!).nm=(s.cl[i]!).nm)) i=true then 5
 else if ((s.cl[i]!).inc.length:Int)>s.cl.length then 3
 else if (outF 0 ((s.cl.length:Int)-1) (s.cl[i]!).inc || !inB (s.cl[i]!).need (-1) ((s.cl.length:Int)-1))=true then 4
 else if ((s.cl[i]!).need == (i:Int))=true then 2
 else if outF 0 100 [(s.cl[i]!).age,(s.cl[i]!).term]=true then 7
 else 0
def KM (s:Sys) (i:Nat):Int :=
 if JH s.co[i]! = false then 6
 else if anyN (fun k=>decide (s.co[k]! = s.co[i]!)) i=true then 5
 else 0
abbrev XT (o:List Bool):List AV:=o.map AV.b
def nx (s:Sys) (i:Nat):List Nat:=(s.cl[i]!).inc.map Int.toNat
abbrev cov (s:Sys) (c:Nat):List Bool:=covG (nx s) s.cl.length c
structure DfsH (s:Sys) (σ:List AObj) (A B D L R:Nat):Prop where
 a:rowOf σ A=some [.sl R 0 s.cl.length 1]
 b:rowOf σ B=some [.ptr L 0]
 d:rowOf σ D=some [.fn (.func 154) [.ptr A 0,.ptr B 0,.ptr D 0]]
 l:∃ v,rowOf σ L=some [.cv (clsR s.cl),.cv (strR s.co),v]
 ra:R≠A
 rb:R≠B
 rd:R≠D
 rl:R≠L
 rr:R<σ.length
def CovV (s:Sys) (b:Nat) (τ:List AObj) (v:AV) (i:Nat):Prop :=
 (v=.cv .nils∧i=0)∨∃ (q:Nat) (a:Nat→Nat),b≤q∧v=.sl q 0 i 1∧rowOf τ q=some ((List.range i).map fun k=>AV.sl (a k) 0 s.cl.length 1)∧∀ k,k<i→b≤a k∧a k≠q∧rowOf τ (a k)=some (XT (cov s k))
structure LookH (s:Sys) (σ:List AObj) (L i:Nat) (τ:List AObj):Prop where
 len:σ.length≤τ.length
 frame:∀ l,l<σ.length→l≠L→τ[l]? = σ[l]?
 sys:∃ v,rowOf τ L=some [.cv (clsR s.cl),.cv (strR s.co),v]∧CovV s (σ.length+1) τ v i
def covB (s:Sys) (c k:Nat):Bool:=(cov s c)[k]?.getD false
def dnB (s:Sys) (i:Nat):Bool:=anyN (fun k=>covB s ((s.cl[i]!).inc[k]?.getD 0).toNat i) (s.cl[i]!).inc.length
def dnE (s:Sys) (i:Nat):Int:=if dnB s i then 9 else 0
def sysE (s:Sys):Int × Int × Int :=
 if (!inB s.cl.length 1 12||decide ((s.co.length:Int)>8))=true then (1,0,3)
 else if (XZ (VR s) 0 s.cl.length).2≠0 then (2,XZ (VR s) 0 s.cl.length)
 else if (XZ (KM s) 0 s.co.length).2≠0 then (3,XZ (KM s) 0 s.co.length)
 else if (XZ (dnE s) 0 s.cl.length).2≠0 then (4,XZ (dnE s) 0 s.cl.length)
 else (0,0,0)
abbrev setN (s:Sys):Int:=2 ^ s.co.length
theorem HF {m:Nat} (h:m≤8):1≤(2:Int) ^ m∧(2:Int) ^ m≤256:=by
 match m,h with
 | 0,_ | 1,_ | 2,_ | 3,_ | 4,_ | 5,_ | 6,_ | 7,_ | 8,_=>decide
def HU (s:Sys) (r:Rt):Int:=if inB r.1 0 ((s.cl.length:Int)-1)=false then 4 else if inB r.2 0 (setN s-1)=false then 7 else 0
def rgsE (s:Sys) (l:List Rt):Int:=if (l.length:Int)>40 then 3 else (XZ (fun i=>HU s l[i]!) 0 l.length).2
def rdE (s:Sys) (e:Int) (ls:List (List Rt)):Int:=ls.foldl (fun e l=>if e=0 then rgsE s l else e) e
def RgOk (s:Sys) (r:Rt):Prop:=(0≤r.1∧r.1<s.cl.length)∧0≤r.2∧r.2<setN s
abbrev RgW (r:Rt):Prop:=(-9223372036854775808≤r.1∧r.1≤9223372036854775807)∧-9223372036854775808≤r.2∧r.2≤9223372036854775807
theorem PR {n:Int} (h:-9223372036854775808≤n∧n≤9223372036854775807):(Lit.int .i64 n).wf=true:=by
 simp only[Lit.wf,QD,decide_eq_true_eq,IntKind.min,IntKind.max,IntKind.bits,IntKind.signed]
 simp;omega
def VH (b e:Nat) (σ:List AObj) (v:AV) (n:Nat) (cs:List CV):Prop:=(v=.cv .nils∧n=0∧cs=[])∨∃ l,b≤l∧v=.sl l 0 n e∧cs.length=n*e∧rowOf σ l=some (cs.map .cv)
theorem VH.acc {b e n:Nat} {σ:List AObj} {v:AV} {cs:List CV} (h:VH b e σ v n cs):AccS e σ v n cs:=h.imp id fun ⟨l,_,h1,h2,h3⟩=>⟨l,h1,h2,h3⟩
theorem VH.nu {b e n:Nat} {σ:List AObj} {v:AV} {cs:List CV} (h:VH b e σ v n cs):v.isUndef=false∧v.isSc=true∧cellsOf v=[v]:=by
 rcases h with ⟨rfl,_⟩ | ⟨l,_,rfl,_⟩ <;> exact ⟨rfl,rfl,rfl⟩
theorem K3 {b e by_ n:Nat} {σ:List AObj} {v:AV} {cs x:List CV} (hb0:b≤σ.length) (h:VH b e σ v n cs) (hx:x.length=e) (hb:(n+1)*by_≤2 ^ 44) (hn:n+1≤2 ^ 44) :
  ∃ (v':AV) (σ':List AObj),ZX e by_ [v,.sl σ.length 0 1 e] (σ++[AObj.cells (x.map .cv)])=some (v',σ')∧VH b e σ' v' (n+1) (cs++x)∧(∀ i,i<b→σ'[i]? = σ[i]?)∧σ.length≤σ'.length:=by
 have hsrc:Z9 (σ++[AObj.cells (x.map .cv)]) e (.sl σ.length 0 1 e)=some (x.map .cv):=by
  have h1:0+1*e≤(x.map AV.cv).length:=by simp[hx]
  simp only[Z9,if_true,XH,Option.bind_some]
  rw[if_pos h1,YO,Q5 (by simp[hx])]
 rcases h with ⟨rfl,rfl,rfl⟩ | ⟨l,hbl,rfl,hl,hr⟩
 ·refine ⟨.sl (σ++[AObj.cells (x.map .cv)]).length 0 1 e,(σ++[AObj.cells (x.map .cv)])++[AObj.cells (x.map .cv)],?_,.inr ⟨_,by simp;omega,rfl,by simp[hx],by rw[XH];simp⟩,fun i hi=>?_,by simp⟩
  ·have h1:1*e=(x.map AV.cv).length∧1*by_≤2 ^ 44∧1≤2 ^ 44∧(x.map AV.cv).all AV.isSc=true:=⟨by simp[hx],by omega,by omega,S2 x⟩
   simp only[ZX,hsrc,lenF,Option.bind_some]
   rw[if_neg (by omega),if_pos h1]
  ·rw[QW,QE (by omega)]
 ·have hr':=FU hr (AObj.cells (x.map .cv))
  refine ⟨.sl (σ++[AObj.cells (x.map .cv)]).length 0 (n+1) e,(σ++[AObj.cells (x.map .cv)]).set l AObj.dead++[AObj.cells (cs.map .cv++x.map .cv)],?_,.inr ⟨(σ++[AObj.cells (x.map .cv)]).length,by simp;omega,rfl,by rw[QM,hl,hx,XJ],?_⟩,fun i hi=>?_,by simp;omega⟩
  ·have h1:True∧n*e≤(cs.map AV.cv).length∧1*e=(x.map AV.cv).length∧(n+1)*by_≤2 ^ 44∧n+1≤2 ^ 44∧(x.map AV.cv).all AV.isSc=true:=⟨trivial,by simp[hl],by simp[hx],hb,hn,S2 x⟩
   simp only[ZX,hr',hsrc,lenF,Option.bind_some]
   rw[if_pos h1,Q5 (by simp[hl])]
  ·have:(σ++[AObj.cells (x.map .cv)]).length=((σ++[AObj.cells (x.map .cv)]).set l AObj.dead).length:=by simp
   rw[this,XH,ZS]
  ·rw[QE (by simp;omega),QU (by omega),QE (by omega)]
theorem RgOk.w {s:Sys} {r:Rt} (h:RgOk s r) (hn:s.cl.length≤12) (hm:s.co.length≤8):RgW r:=by
 have hb:=HF hm
 obtain ⟨⟨h1,h2⟩,h3,h4⟩:=h
 unfold setN at h4
 exact ⟨by omega,by omega⟩
section
variable {p q:CV→Prop} {σ:List AObj}
mutual
theorem FrzC.mono (h:∀ c,p c→q c):∀ {a:AV} {c:CV},FrzC p σ a c→FrzC q σ a c
 | _,_,.c c hc=>.c c (h c hc)
 | _,_,.nl=>.nl
 | _,_,.sl l off len esz cs ds h1 h2 h3=>.sl l off len esz cs ds h1 h2 (HL.mono h h3)
 | _,_,.ptr l off cs ds h1 h2=>.ptr l off cs ds h1 (HL.mono h h2)
 | _,_,.slc l off len cap esz cs ds h1 h2 h3=>.slc l off len cap esz cs ds h1 h2 (HL.mono h h3)
theorem HL.mono (h:∀ c,p c→q c):∀ {as_:List AV} {cs:List CV},HL p σ as_ cs→HL q σ as_ cs
 | _,_,.nil=>.nil
 | _,_,.cons h1 h2=>.cons (FrzC.mono h h1) (HL.mono h h2)
end
mutual
theorem FrzV.mono (h:∀ c,p c→q c):∀ {a b:AV},FrzV p σ a b→FrzV q σ a b
 | _,_,.c h1=>.c (FrzC.mono h h1)
 | _,_,.agg h1=>.agg (KS.mono h h1)
 | _,_,.tup h1=>.tup (KS.mono h h1)
 | _,_,.fn h1=>.fn (KS.mono h h1)
 | _,_,.bm h1=>.bm (KS.mono h h1)
 | _,_,.un a=>.un a
theorem KS.mono (h:∀ c,p c→q c):∀ {as_ bs:List AV},KS p σ as_ bs→KS q σ as_ bs
 | _,_,.nil=>.nil
 | _,_,.cons h1 h2=>.cons (FrzV.mono h h1) (KS.mono h h2)
end
end
theorem PC.pa {P:Program} {f:FuncId} {args:List AV} {v:AV} (h:PC P f args v) (hal:QO 0 args=true):PA P f args v:=⟨h.ac.mono fun r τ h=>h.mono fun _ _=>trivial,h.cl,hal⟩
structure Tch where
 rg:List Rt
 b:Int
 e:Int
deriving Inhabited
structure Car where
 cl:Int
 ft:Int
deriving Inhabited
structure Pln where
 sys:Sys
 le:List Int
 te:List Tch
 ca:List Car
 day:Dy
abbrev rgR (l:List Rt):CV:=.rsl (l.flatMap rgC) l.length
abbrev tchC (t:Tch):List CV:=[rgR t.rg,.int .i64 t.b,.int .i64 t.e]
def SV (l:List Tch):List CV:=l.flatMap tchC
abbrev tchR (l:List Tch):CV:=.rsl (SV l) l.length
abbrev carC (c:Car):List CV:=[.int .i64 c.cl,.int .i64 c.ft]
def QaH (l:List Car):List CV:=l.flatMap carC
abbrev carR (l:List Car):CV:=.rsl (QaH l) l.length
abbrev plnC (p:Pln):List AV:=[.cv (clsR p.sys.cl),.cv (strR p.sys.co),ints p.le,.cv (tchR p.te),.cv (carR p.ca),.cv (minR p.day.mi),.cv (lesR p.day.ls)]
def lstE (s:Sys) (l:List Rt):Int:=rdE s (sysE s).2.2 [l]
def mayE (s:Sys) (l:List Rt) (c f:Int):Int :=
 if lstE s l≠0 then lstE s l else if inB c 0 ((s.cl.length:Int)-1)=false then 4 else if inB f 0 (setN s-1)=false then 7 else 0
def tchE (s:Sys) (t:Tch):Int :=
 if lstE s t.rg≠0 then lstE s t.rg else if outF 0 1440 [t.b,t.e]=true then 7 else if t.b>t.e then 2 else 0
def carE (s:Sys) (c:Car):Int:=mayE s [] c.cl c.ft
structure PSz (p:Pln):Prop where
 sys:SSz p.sys
 le:p.le.length<2 ^ 63
 te:p.te.length<2 ^ 63
 ca:p.ca.length<2 ^ 63
 rg:∀ i,i<p.te.length→(p.te[i]!).rg.length<2 ^ 63
 day:DSz p.day
structure LkOk (p:Pln):Prop where
 sys:(sysE p.sys).2.2=0
 day:DyOk p.day
 dy0:(dyE p.day).2.2=0
 le:p.le.length≤8
 te:p.te.length≤8
 ca:p.ca.length≤8
 cls:∀ z∈p.le,0≤z∧z≤(p.sys.cl.length:Int)-1
 tch:∀ i,i<p.te.length→tchE p.sys p.te[i]! = 0
 car:∀ i,i<p.ca.length→carE p.sys p.ca[i]! = 0
 who:∀ i,i<p.day.ls.length→(p.day.ls[i]!).le<p.le.length∧(p.day.ls[i]!).te<p.te.length∧(p.day.ls[i]!).ca<p.ca.length
theorem Qbf (k:Nat) (zs:List Int):Z3 k (.cells (zs.map AV.i))=true:=by
 simp only[Z3]
 rw[Z8]
 intro v hv
 obtain ⟨z,_,rfl⟩:=ZP.1 hv
 rfl
end Go.Proofs.YtpmokaefmcffaaaGreat.AM
namespace Go.Proofs.YtpmokaefmcffaaaGreat.Pl
abbrev Qu:=Nat × Int
def zer4 (l:List Int):Bool:=decide (l=[0,0,0,0])
def dec4 (l:List Int) (p:Nat):List Int:=l.set p (gI l p-1)
section
variable (lo hi:Int)
def cntP:List Qu→Int→List Int→Nat
 | [],lev,nd=>if zer4 nd=true then (if lo≤lev∧lev≤hi then 1 else 0) else 0
 | (p,w)::qs,lev,nd=>if zer4 nd=true then (if lo≤lev∧lev≤hi then 1 else 0) else
   (if 0≤gI nd p-1 then cntP qs (lev+w) (dec4 nd p) else 0)+cntP qs lev nd
def tkP (p:Nat) (w:Int) (qs:List Qu) (lev:Int) (nd:List Int):Nat:=if 0≤gI nd p-1 then cntP lo hi qs (lev+w) (dec4 nd p) else 0
def nthP:List Qu→Nat→Int→List Int→Nat→List Nat
 | [],_,_,_,_=>[]
 | (p,w)::qs,k,lev,nd,n=>if zer4 nd=true then [] else
   if n<tkP lo hi p w qs lev nd then k::nthP qs (k+1) (lev+w) (dec4 nd p) n else nthP qs (k+1) lev nd (n-tkP lo hi p w qs lev nd)
def folP:List Qu→Nat→Int→List Int→List Nat→Bool
 | [],_,lev,nd,l=>l.isEmpty&&zer4 nd&&decide (lo≤lev∧lev≤hi)
 | (p,w)::qs,k,lev,nd,l=>match l with
  | []=>zer4 nd&&decide (lo≤lev∧lev≤hi)
  | q::l'=>if q=k then decide (0≤gI nd p-1)&&folP qs (k+1) (lev+w) (dec4 nd p) l' else folP qs (k+1) lev nd (q::l')
variable {lo hi}
theorem cntP_zero {qs:List Qu} {lev:Int} {nd:List Int} (h:zer4 nd=true):cntP lo hi qs lev nd=if lo≤lev∧lev≤hi then 1 else 0:=by
 cases qs with
 | nil=>unfold cntP;rw[if_pos h]
 | cons a qs=>obtain ⟨p,w⟩:=a;unfold cntP;rw[if_pos h]
theorem cntP_step {p:Nat} {w:Int} {qs:List Qu} {lev:Int} {nd:List Int} (h:zer4 nd=false):cntP lo hi ((p,w)::qs) lev nd=tkP lo hi p w qs lev nd+cntP lo hi qs lev nd:=by
 rw[cntP,if_neg (by rw[h];decide)];rfl
theorem cntP_end {lev:Int} {nd:List Int} (h:zer4 nd=false):cntP lo hi [] lev nd=0:=by
 rw[cntP,if_neg (by rw[h];decide)]
theorem cntP_le:∀ (qs:List Qu) (lev:Int) (nd:List Int),cntP lo hi qs lev nd≤2 ^ qs.length
 | [],lev,nd=>by unfold cntP;split <;> (try split) <;> simp
 | (p,w)::qs,lev,nd=>by
  have h1:=cntP_le qs (lev+w) (dec4 nd p)
  have h2:=cntP_le qs lev nd
  have h3:0<2 ^ qs.length:=Nat.two_pow_pos _
  rw[cntP,List.length_cons,Nat.pow_succ]
  split <;> split <;> omega
theorem nthP_zero {qs:List Qu} {k:Nat} {lev:Int} {nd:List Int} {n:Nat} (h:zer4 nd=true):nthP lo hi qs k lev nd n=[]:=by
 cases qs with
 | nil=>rfl
 | cons a qs=>obtain ⟨p,w⟩:=a;unfold nthP;rw[if_pos h]
theorem nthP_take {p:Nat} {w:Int} {qs:List Qu} {k:Nat} {lev:Int} {nd:List Int} {n:Nat} (h:zer4 nd=false) (hn:n<tkP lo hi p w qs lev nd) :
  nthP lo hi ((p,w)::qs) k lev nd n=k::nthP lo hi qs (k+1) (lev+w) (dec4 nd p) n:=by
 rw[nthP,if_neg (by rw[h];decide),if_pos hn]
theorem nthP_skip {p:Nat} {w:Int} {qs:List Qu} {k:Nat} {lev:Int} {nd:List Int} {n:Nat} (h:zer4 nd=false) (hn:¬ n<tkP lo hi p w qs lev nd) :
  nthP lo hi ((p,w)::qs) k lev nd n=nthP lo hi qs (k+1) lev nd (n-tkP lo hi p w qs lev nd):=by
 rw[nthP,if_neg (by rw[h];decide),if_neg hn]
theorem nthP_ge:∀ (qs:List Qu) (k:Nat) (lev:Int) (nd:List Int) (n:Nat),∀ q∈nthP lo hi qs k lev nd n,k≤q∧q<k+qs.length
 | [],_,_,_,_,q,hq=>by simp[nthP] at hq
 | (p,w)::qs,k,lev,nd,n,q,hq=>by
  cases hz:zer4 nd with
  | true=>rw[nthP_zero hz] at hq;simp at hq
  | false =>
   by_cases hn:n<tkP lo hi p w qs lev nd
   ·rw[nthP_take hz hn] at hq
    rcases ZD.1 hq with rfl | h
    ·simp
    ·have:=nthP_ge qs _ _ _ _ q h
     simp only[List.length_cons];omega
   ·rw[nthP_skip hz hn] at hq
    have:=nthP_ge qs _ _ _ _ q hq
    simp only[List.length_cons];omega
theorem folP_far:∀ {qs:List Qu} {k:Nat} {lev:Int} {nd:List Int} {p:Nat} {w:Int} {l:List Nat},(∀ q∈l,k+1≤q)→l≠[]→folP lo hi ((p,w)::qs) k lev nd l=folP lo hi qs (k+1) lev nd l
 | qs,k,lev,nd,p,w,[],_,h=>absurd rfl h
 | qs,k,lev,nd,p,w,q::l,h,_=>by
  have:=h q (by simp)
  rw[folP,if_neg (by omega)]
theorem fol_nth:∀ (qs:List Qu) (k:Nat) (lev:Int) (nd:List Int) (n:Nat),n<cntP lo hi qs lev nd→folP lo hi qs k lev nd (nthP lo hi qs k lev nd n)=true
 | [],k,lev,nd,n,h=>by
  cases hz:zer4 nd with
  | true =>
   rw[cntP_zero hz] at h
   split at h
   ·rename_i hr;simp[nthP,folP,hz,hr]
   ·omega
  | false=>rw[cntP_end hz] at h;omega
 | (p,w)::qs,k,lev,nd,n,h=>by
  cases hz:zer4 nd with
  | true =>
   rw[cntP_zero hz] at h
   split at h
   ·rename_i hr;simp[nthP,folP,hz,hr]
   ·omega
  | false =>
   rw[cntP_step hz] at h
   by_cases hn:n<tkP lo hi p w qs lev nd
   ·rw[nthP_take hz hn]
    have hc:0≤gI nd p-1:=by
     unfold tkP at hn
     split at hn
     ·assumption
     ·omega
    have hn':n<cntP lo hi qs (lev+w) (dec4 nd p):=by unfold tkP at hn;rwa [if_pos hc] at hn
    rw[folP,if_pos rfl,fol_nth qs _ _ _ _ hn',decide_eq_true hc];rfl
   ·rw[nthP_skip hz hn]
    have ih:=fol_nth qs (k+1) lev nd (n-tkP lo hi p w qs lev nd) (by omega)
    have hne:nthP lo hi qs (k+1) lev nd (n-tkP lo hi p w qs lev nd)≠[]:=by
     intro he
     rw[he] at ih
     cases qs with
     | nil=>simp[folP,hz] at ih
     | cons a qs=>obtain ⟨p',w'⟩:=a;simp[folP,hz] at ih
    rw[folP_far (fun q hq=>(nthP_ge _ _ _ _ _ q hq).1) hne]
    exact ih
end
abbrev MemP:=List (List Int × Int)
def fndP:MemP→List Int→Nat→Option (Nat × Int)
 | [],_,_=>none
 | (k',v)::M,key,i=>if key=k' then some (i,v) else fndP M key (i+1)
def putP (M:MemP) (key:List Int) (v:Int):MemP:=match fndP M key 0 with
 | some (i,_)=>M.set i (key,v)
 | none=>M++[(key,v)]
theorem fndP_mem:∀ {M:MemP} {key:List Int} {i j:Nat} {v:Int},fndP M key i=some (j,v)→(key,v)∈M
 | [],_,_,_,_,h=>by cases h
 | (k',w)::M,key,i,j,v,h=>by
  unfold fndP at h
  split at h
  ·rename_i he
   cases h
   rw[he]
   exact List.mem_cons_self ..
  ·exact WU _ (fndP_mem h)
def N4₀ (l:List Int):Prop:=l.length=4∧∀ i,i<4→0≤gI l i∧gI l i≤16
def stK (k:Nat) (lev:Int) (nd:List Int):List Int:=(k:Int)::lev::nd
def KeyP (key:List Int):Prop:=key.length=6∧∀ i,i<6→0≤gI key i∧gI key i≤20000
theorem keyP_of {k:Nat} {lev:Int} {nd:List Int} (hk:k≤16) (hl:0≤lev∧lev≤1000*k) (h:N4₀ nd):KeyP (stK k lev nd):=by
 refine ⟨by simp[stK,h.1],fun i hi=>?_⟩
 match i,hi with
 | 0,_=>simp[gI,stK];omega
 | 1,_=>simp[gI,stK];omega
 | i+2,hi =>
  have:=h.2 i (by omega)
  simp only[gI,stK,List.getElem?_cons_succ] at this ⊢
  omega
def MemPOk (lo hi:Int) (qs:List Qu) (M:MemP):Prop:=∀ e∈M,KeyP e.1∧e.2=(cntP lo hi (qs.drop (gI e.1 0).toNat) (gI e.1 1) (e.1.drop 2):Nat)
theorem memP_nil {lo hi:Int} {qs:List Qu}:MemPOk lo hi qs []:=fun e he=>absurd he (by simp)
theorem memP_put {lo hi:Int} {qs:List Qu} {M:MemP} {key:List Int} {v:Int} (h:MemPOk lo hi qs M) (hl:KeyP key) (hv:v=(cntP lo hi (qs.drop (gI key 0).toNat) (gI key 1) (key.drop 2):Nat)):MemPOk lo hi qs (putP M key v):=by
 unfold putP
 split
 ·intro e he
  rcases List.mem_or_eq_of_mem_set he with h2 | h2
  ·exact h e h2
  ·rw[h2];exact ⟨hl,hv⟩
 ·intro e he
  rcases YV.1 he with h2 | h2
  ·exact h e h2
  ·rw[WZ.1 h2];exact ⟨hl,hv⟩
theorem memP_get {lo hi:Int} {qs:List Qu} {M:MemP} (h:MemPOk lo hi qs M) {k:Nat} {lev:Int} {nd:List Int} {j:Nat} {v:Int} (hf:fndP M (stK k lev nd) 0=some (j,v)):v=(cntP lo hi (qs.drop k) lev nd:Nat):=by
 have:=(h _ (fndP_mem hf)).2
 simpa[stK,gI] using this
theorem n4_dec {nd:List Int} (h:N4₀ nd) {p:Nat} (hp:p<4) (hc:0≤gI nd p-1):N4₀ (dec4 nd p):=by
 refine ⟨by simp[dec4,h.1],fun i hi=>?_⟩
 unfold dec4
 have h1:=h.2 i hi
 have h2:=h.2 p hp
 have hl:=h.1
 simp only[gI,ZO] at *
 by_cases e:p=i
 ·rw[if_pos e,if_pos (by omega)]
  simp only[Option.getD_some]
  omega
 ·rw[if_neg e];exact h1
end Go.Proofs.YtpmokaefmcffaaaGreat.Pl
namespace Go.Proofs.YtpmokaefmcffaaaGreat.AM
variable [Dr]
open Go Pl
structure Qn where
 pa:Int
 sk:Int
 wr:Int
deriving Inhabited
abbrev qnC (q:Qn):List CV:=[.int .i64 q.pa,.int .i64 q.sk,.int .i64 q.wr]
def qnCs (l:List Qn):List CV:=l.flatMap qnC
abbrev qnR (l:List Qn):CV:=.rsl (qnCs l) l.length
theorem qnC_len (p:Qn):(qnC p).length=3:=rfl
theorem qnCs_len (l:List Qn):(qnCs l).length=l.length*3:=UG qnC_len l
section
variable {l:List Qn} {k:Nat}
theorem qn_0 (h:k<l.length):(qnCs l)[k*3]? = some (.int .i64 (l[k]!).pa):=flat_get qnC_len h (j:=0) (by omega)
theorem qn_ld (h:k<l.length) (σ:List AObj):YF 3 [.cv (.rp (qnCs l) (k*3))] σ=some (.agg [.i (l[k]!).pa,.i (l[k]!).sk,.i (l[k]!).wr],σ):=by
 have h1:k*3+3≤(qnCs l).length:=by rw[qnCs_len];omega
 have h2:=G3 qnC_len h
 simp only[YF,h1,if_true]
 unfold qnCs;rw[h2];rfl
theorem ia_qn (h:k<l.length) (σ:List AObj):VP 3 [.cv (qnR l),.cv (.int .i64 k)] σ=some (.cv (.rp (qnCs l) (k*3)),σ):=XP h σ
end
structure Bk where
 qs:List Qn
 wt:List Int
 lo:Int
 hi:Int
abbrev bkC (b:Bk):List AV:=[.cv (qnR b.qs),ints b.wt,.i b.lo,.i b.hi]
abbrev bkV (b:Bk):AV:=.agg (bkC b)
structure BkSz (b:Bk):Prop where
 q:b.qs.length<2 ^ 63
 w:b.wt.length<2 ^ 63
theorem tp46 (n lo hi:Int):PC Tryz.prog 46 [.i n,.i lo,.i hi] (.b (inB n lo hi)):=by
 refine ⟨ZF (fok46 true) (QC rfl) ?_,rfl⟩
 by_cases h:n≥lo <;> simp only[ic46,inB,h,evA,simprocAttr] <;> exact frz
theorem tp95 (z lo hi:Int) (σ:List AObj):AC Tryz.prog 95 [.i z,.cv (.rp [.int .i64 lo] 0),.cv (.rp [.int .i64 hi] 0)] σ fun r τ=>r=.b (decide (z<lo)||decide (z>hi))∧τ=σ:=by
 refine ZF (fok95 true) (QC rfl) ?_
 by_cases h:z<lo <;> simp only[ic95,h,evA,simprocAttr]
theorem tp57 (lo hi:Int) (zs:List Int) (hz:zs.length<2 ^ 63):PC Tryz.prog 57 [.i lo,.i hi,ints zs] (.b (outF lo hi zs)):=by
 refine ⟨ZF (fok57 true) (QC rfl) ?_,rfl⟩
 simp only[ic57,evA,simprocAttr]
 refine (c72_l zs (.fn (.func 95) [.cv (.rp [.int .i64 lo] 0),.cv (.rp [.int .i64 hi] 0)]) (fun z=>decide (z<lo)||decide (z>hi)) hz (fun z σ=>tp95 z lo hi σ)).call frz ?_
 exact frz
theorem out1 (lo hi a:Int):PC Tryz.prog 57 [.i lo,.i hi,ints [a]] (.b (!inB a lo hi)):=by
 rw[← FW];exact tp57 lo hi [a] (by simp)
def partE (b:Bk) (q:Qn):Int:=if inB q.pa 0 (b.wt.length-1)=true then (if inB q.sk 0 100000=true∧inB q.wr 0 q.sk=true then 0 else 7) else 4
def mnyC (qs:List Qn):Nat→Nat→Int
 | 0,_=>0
 | k+1,j=>mnyC qs k j+if (qs[k]!).pa=j then 1 else 0
def wtE (b:Bk) (i:Nat):Int:=if inB (gI b.wt i) 1 (mnyC b.qs b.qs.length i)=true then 0 else 7
def bkE (b:Bk):Int × Int × Int :=
 if inB b.qs.length 1 16=true∧inB b.wt.length 1 4=true then
  if inB b.lo 0 16000=true∧inB b.hi 0 16000=true then
   if b.lo>b.hi then (1,0,2) else
   if (fndE (fun i=>partE b b.qs[i]!) 0 b.qs.length).2=0 then
    if (fndE (wtE b) 0 b.wt.length).2=0 then (0,0,0) else (3,(fndE (wtE b) 0 b.wt.length).1,(fndE (wtE b) 0 b.wt.length).2)
   else (2,(fndE (fun i=>partE b b.qs[i]!) 0 b.qs.length).1,(fndE (fun i=>partE b b.qs[i]!) 0 b.qs.length).2)
  else (1,0,7)
 else (1,0,3)
theorem mnyC_bd (qs:List Qn):∀ k j,0≤mnyC qs k j∧mnyC qs k j≤k
 | 0,_=>by simp[mnyC]
 | k+1,j=>by
  have:=mnyC_bd qs k j
  unfold mnyC;split <;> omega
structure BkOk (b:Bk):Prop where
 n1:1≤b.qs.length
 n16:b.qs.length≤16
 m1:1≤b.wt.length
 m4:b.wt.length≤4
 lo0:0≤b.lo
 loh:b.lo≤b.hi
 hi0:b.hi≤16000
 qu:∀ i,i<b.qs.length→(0≤(b.qs[i]!).pa∧(b.qs[i]!).pa<b.wt.length)∧(0≤(b.qs[i]!).sk∧(b.qs[i]!).sk≤100000)∧0≤(b.qs[i]!).wr∧(b.qs[i]!).wr≤(b.qs[i]!).sk
 wa:∀ i,i<b.wt.length→1≤gI b.wt i∧gI b.wt i≤mnyC b.qs b.qs.length i
theorem bkOk_of {b:Bk} (h:(bkE b).2.2=0):BkOk b:=by
 unfold bkE at h
 split at h
 rotate_left
 ·simp at h
 rename_i h1
 split at h
 rotate_left
 ·simp at h
 rename_i h2
 split at h
 ·simp at h
 rename_i h3
 split at h
 rotate_left
 ·rename_i h4;exact absurd h h4
 rename_i h4
 split at h
 rotate_left
 ·rename_i h5;exact absurd h h5
 rename_i h5
 have a1:=VB.1 h1.1
 have a2:=VB.1 h1.2
 have a3:=VB.1 h2.1
 have a4:=VB.1 h2.2
 refine ⟨by omega,by omega,by omega,by omega,by omega,by omega,by omega,fun i hi=>?_,fun i hi=>?_⟩
 ·have:=LJ _ _ h4 i (QF _) (by omega)
  unfold partE at this
  split at this
  ·rename_i g1
   split at this
   ·rename_i g2
    have b1:=VB.1 g1
    have b2:=VB.1 g2.1
    have b3:=VB.1 g2.2
    exact ⟨⟨b1.1,by omega⟩,b2,b3⟩
   ·simp at this
  ·simp at this
 ·have:=LJ _ _ h5 i (QF _) (by omega)
  unfold wtE at this
  split at this
  ·rename_i g1;exact VB.1 g1
  ·simp at this
def mnyR (m:Nat) (qs:List Qn) (k:Nat):List Int:=(List.range m).map fun j=>mnyC qs k j
theorem mnyR_len (m:Nat) (qs:List Qn) (k:Nat):(mnyR m qs k).length=m:=by simp[mnyR]
theorem mnyR_get {m:Nat} {qs:List Qn} {k j:Nat} (h:j<m):(mnyR m qs k)[j]?.getD 0=mnyC qs k j:=by simp[mnyR,h]
theorem mnyR_zero (m:Nat) (qs:List Qn):mnyR m qs 0=List.replicate m 0:=by
 unfold mnyR
 apply Y1 (by simp)
 intro i h1 h2
 simp[mnyC]
theorem mnyR_succ {m:Nat} {qs:List Qn} {k p:Nat} (hp:(qs[k]!).pa=(p:Int)) (h:p<m):(mnyR m qs k).set p (mnyC qs k p+1)=mnyR m qs (k+1):=by
 unfold mnyR
 apply Y1 (by simp)
 intro i h1 h2
 rw[List.getElem_set]
 simp only[List.getElem_map,List.getElem_range,mnyC,hp]
 split
 ·rename_i e;subst e;rw[if_pos rfl]
 ·rename_i e;rw[if_neg (by omega)];omega
abbrev b12 (b:Bk):AV:=let e:=bkE b;.tup [.i e.1,.i e.2.1,.i e.2.2]
theorem tp12 (b:Bk) (hs:BkSz b):PC Tryz.prog 12 [bkV b] (b12 b):=by
 refine ⟨ZF (fok12 true) (QC rfl) ?_,rfl⟩
 unfold b12 bkE
 simp only[ic12,WI,cellsOf,evA,simprocAttr]
 refine (tp46 b.qs.length 1 16).call frz ?_
 cases h1:inB b.qs.length 1 16 with
 | false =>
  rw[if_neg (by simp)]
  simp only[evA,simprocAttr]
  exact frz
 | true =>
 simp only[evA,simprocAttr]
 refine (tp46 b.wt.length 1 4).call frz ?_
 cases h2:inB b.wt.length 1 4 with
 | false =>
  rw[if_neg (by simp)]
  simp only[evA,simprocAttr]
  exact frz
 | true =>
 rw[if_pos ⟨rfl,rfl⟩]
 simp only[evA,simprocAttr]
 refine (tp46 b.lo 0 16000).call frz ?_
 cases h3:inB b.lo 0 16000 with
 | false =>
  rw[if_neg (by simp)]
  simp only[evA,simprocAttr]
  exact frz
 | true =>
 simp only[evA,simprocAttr]
 refine (tp46 b.hi 0 16000).call frz ?_
 cases h4:inB b.hi 0 16000 with
 | false =>
  rw[if_neg (by simp)]
  simp only[evA,simprocAttr]
  exact frz
 | true =>
 rw[if_pos ⟨rfl,rfl⟩]
 by_cases h5:b.lo>b.hi
 ·rw[if_pos h5]
  have hd:decide (b.lo>b.hi)=true:=decide_eq_true h5
  simp only[hd,evA,simprocAttr]
  exact frz
 rw[if_neg h5]
 have hd:decide (b.lo>b.hi)=false:=decide_eq_false h5
 have a1:=VB.1 h1
 have a2:=VB.1 h2
 have hq1:b.qs.length≤16:=by omega
 have hw4:b.wt.length≤4:=by omega
 have hmk:XB 1 8 [.cv (.int .i64 0)] [.i b.wt.length,.i b.wt.length] [AObj.cells (bkC b)]=some (.sl 1 0 b.wt.length 1,[AObj.cells (bkC b),.cells ((mnyR b.wt.length b.qs 0).map AV.i)]):=by
  rw[mnyR_zero];exact MP (by omega) _
 simp only[hd,hmk,evA,simprocAttr]
 refine ZW b.qs.length (fun i s=>∃ v7 v9 v10 v11 v12 v13 v14 H,rowOf H 0=some (bkC b)∧rowOf H 1=some ((mnyR b.wt.length b.qs i).map AV.i)∧(∀ j,j<i→partE b b.qs[j]! = 0) ∧
  s=⟨[bkV b,.ptr 0 0,.i 0,.i 0,.i 0,.sl 1 0 b.wt.length 1,.i i,v7,.undef,v9,v10,v11,v12,v13,v14,.undef,.undef],H⟩) ?_ 0 (QF _) ⟨_,_,_,_,_,_,_,_,rfl,rfl,fun j hj=>absurd hj (by omega),rfl⟩
 rintro i s hi ⟨v7,v9,v10,v11,v12,v13,v14,H,r0,r1,hall,rfl⟩
 by_cases h:i<b.qs.length
 ·have hz:=WW H
  have r0J:=fun J=>ZH r0 J
  have r1J:=fun J=>ZH r1 J
  have hld:=qn_ld h
  have hia:=ia_qn h
  have hlen1:2≤H.length:=(QH.1 (WO r1)).1
  have hpe:∀ e,partE b b.qs[i]! = e→e≠0→fndE (fun i=>partE b b.qs[i]!) 0 b.qs.length=((i:Int),e):=fun e he h0=>by
   rw[VO (g:=fun i=>partE b b.qs[i]!) _ 0 i (QF _) (by omega) (fun j _ hj=>hall j hj) (by show partE b b.qs[i]!≠0;rw[he];exact h0)]
   show ((i:Int),partE b b.qs[i]!)=_
   rw[he]
  have hsucc:=fun p=>mnyR_succ (m:=b.wt.length) (qs:=b.qs) (k:=i) (p:=p)
  have hall2:partE b b.qs[i]! = 0→∀ j,j<i+1→partE b b.qs[j]! = 0:=fun h0 j hj=>by
   by_cases e:j=i
   ·rw[e];exact h0
   ·exact hall j (by omega)
  generalize b.qs[i]! = q at *
  obtain ⟨pa,sk,wr⟩:=q
  simp only at hpe hld hsucc hall2
  have hw1:IntKind.i64.wrap ((b.wt.length:Int)-1)=(b.wt.length:Int)-1:=ZC (by omega)
  simp only[ic12l1,QJ,h,r0,r0J,hia,hld,WW,VW,hw1,evA,simprocAttr]
  refine (tp46 pa 0 (b.wt.length-1)).call frz ?_
  cases g1:inB pa 0 (b.wt.length-1) with
  | false =>
   have he:=hpe 4 (by simp[partE,g1]) (by decide)
   rw[he,if_neg (show ¬ (4:Int)=0 by decide)]
   simp only[evA,simprocAttr]
   exact frz
  | true =>
  have g1':=VB.1 g1
  simp only[WW,evA,simprocAttr]
  refine (tp46 sk 0 100000).call frz ?_
  cases g2:inB sk 0 100000 with
  | false =>
   have he:=hpe 7 (by simp[partE,g1,g2]) (by decide)
   rw[he,if_neg (show ¬ (7:Int)=0 by decide)]
   simp only[WW,evA,simprocAttr]
   exact frz
  | true =>
  simp only[WW,evA,simprocAttr]
  refine (tp46 wr 0 sk).call frz ?_
  cases g3:inB wr 0 sk with
  | false =>
   have he:=hpe 7 (by simp[partE,g1,g2,g3]) (by decide)
   rw[he,if_neg (show ¬ (7:Int)=0 by decide)]
   simp only[WW,evA,simprocAttr]
   exact frz
  | true =>
  obtain ⟨p,rfl⟩:∃ p:Nat,pa=p:=⟨pa.toNat,by omega⟩
  have hp:p<b.wt.length:=by omega
  have hb:=mnyC_bd b.qs i p
  have hwk:=Q6 (show i+1<2 ^ 63 by omega)
  have hwm:IntKind.i64.wrap (mnyC b.qs i p+1)=mnyC b.qs i p+1:=ZC (by omega)
  have hsc:=hsucc p rfl hp
  have hall3:=hall2 (by simp[partE,g1,g2,g3])
  have hl1:p<(mnyR b.wt.length b.qs i).length:=by rw[mnyR_len];exact hp
  have la:=V1 hl1
  rw[mnyR_get hp] at la
  have hle:p+1≤(mnyR b.wt.length b.qs i).length:=hl1
  simp only[WW,r1J,W9 hp,ZV,la,hwm,ZK,hle,GC,hsc,hwk,evA,simprocAttr]
  refine ZL (by first | trivial | omega) ⟨_,_,_,_,_,_,_,_,?_,?_,hall3,rfl⟩
  ·rw[QX (by decide)];exact r0J _
  ·exact W0 (r1J _)
 ·have:i=b.qs.length:=by omega
  subst this
  rw[J7 (g:=fun i=>partE b b.qs[i]!) _ 0 fun j _ hj=>hall j (by omega)]
  simp only[ic12l1,QJ,h,r0,evA,simprocAttr]
  clear hall h
  refine ZW b.wt.length (fun i s=>∃ v15 v16,(∀ j,j<i→wtE b j=0) ∧
   s=⟨[bkV b,.ptr 0 0,.i 0,.i 0,.i 0,.sl 1 0 b.wt.length 1,.i b.qs.length,v7,.i i,v9,v10,v11,.b false,v13,v14,v15,v16],H⟩) ?_ 0 (QF _) ⟨_,_,fun j hj=>absurd hj (by omega),rfl⟩
  rintro i s hi ⟨v15,v16,hall,rfl⟩
  by_cases h:i<b.wt.length
  ·have hpe:wtE b i≠0→fndE (wtE b) 0 b.wt.length=((i:Int),wtE b i):=fun h0=>VO _ 0 i (QF _) (by omega) (fun j _ hj=>hall j hj) h0
   have hall2:wtE b i=0→∀ j,j<i+1→wtE b j=0:=fun h0 j hj=>by
    by_cases e:j=i
    ·rw[e];exact h0
    ·exact hall j (by omega)
   have hwe:wtE b i=if inB (gI b.wt i) 1 (mnyC b.qs b.qs.length i)=true then 0 else 7:=rfl
   have hl1:i<(mnyR b.wt.length b.qs b.qs.length).length:=by rw[mnyR_len];exact h
   have la:=V1 hl1
   rw[mnyR_get h] at la
   have hwk:=Q6 (show i+1<2 ^ 63 by omega)
   have hgi:b.wt[i]?.getD 0=gI b.wt i:=rfl
   simp only[ic12l0,QJ,h,evA,simprocAttr]
   refine DW_s [9] [] hmix (by kernel_rfl) rfl ?_
   simp only[r0,r1,J5 h,J4 h,WA,hgi,W9 h,ZV,la,evA,simprocAttr]
   refine YE ((tp46 (gI b.wt i) 1 (mnyC b.qs b.qs.length i)).call frz ⟨rfl,rfl⟩) rfl ?_
   cases g1:inB (gI b.wt i) 1 (mnyC b.qs b.qs.length i) with
   | false =>
    have h7:wtE b i=7:=by rw[hwe,g1];rfl
    have he:=hpe (by rw[h7];decide)
    rw[he,h7]
    simp only[evA,simprocAttr]
    exact frz
   | true =>
    simp only[hwk,evA,simprocAttr]
    exact ZL (by first | trivial | omega) ⟨_,_,hall2 (by rw[hwe,g1];rfl),rfl⟩
  ·have:i=b.wt.length:=by omega
   subst this
   rw[J7 (g:=wtE b) _ 0 fun j _ hj=>hall j (by omega)]
   simp only[ic12l0,QJ,h,evA,simprocAttr]
   exact frz
theorem ia_arr {n l off k:Nat} (h:k<n) (σ:List AObj):PD n 1 [.ptr l off,.cv (.int .i64 k)] σ=some (.ptr l (off+k),σ):=by
 simp[PD,h]
abbrev K6:Bool × List KK:=(true,[.int .i64,.int .i64,.int .i64,.int .i64,.int .i64,.int .i64])
abbrev K4:Bool × List KK:=(true,[.int .i64,.int .i64,.int .i64,.int .i64])
abbrev kyQ (k:List Int):AV:=.agg (k.map AV.i)
def memE (M:MemP):List (AV × AV):=M.map fun e=>(kyQ e.1,.i e.2)
theorem LF:∀ {n:Nat} {xs:List Int},xs.length=n→(∀ i,i<n→-9223372036854775808≤gI xs i∧gI xs i≤9223372036854775807)→Y4 (List.replicate n (.int .i64)) (xs.map AV.i)=true
 | 0,[],_,_=>rfl
 | n+1,x::xs,hl,h=>by
  have h0:=h 0 (by omega)
  have hx:gI (x::xs) 0=x:=rfl
  rw[hx] at h0
  show (kkOk (.int .i64) (.i x)&&Y4 (List.replicate n (.int .i64)) (xs.map AV.i))=true
  rw[LF (n:=n) (xs:=xs) (by simpa using hl) fun i hi=>by have:=h (i+1) (by omega);simpa[gI] using this]
  simp[kkOk,PR h0]
theorem cellsEq_iP:∀ (xs ys:List Int),VZ (xs.map AV.i) (ys.map AV.i)=decide (xs=ys)
 | [],[]=>rfl
 | [],_::_=>rfl
 | _::_,[]=>rfl
 | x::xs,y::ys=>by
  show (decide (x=y)&&VZ (xs.map AV.i) (ys.map AV.i))=_
  rw[cellsEq_iP xs ys,Q8]
  simp
theorem keyP_ok {k:List Int} (h:KeyP k):Y4 K6.2 (k.map AV.i)=true:=LF (n:=6) h.1 fun i hi=>by have:=h.2 i hi;omega
theorem Qco {k:List Int} (h:KeyP k):F4 K6 (kyQ k)=true:=keyP_ok h
theorem key_eq {a b:List Int} (ha:KeyP a) (hb:KeyP b):JW K6 (kyQ a) (kyQ b)=some (decide (a=b)):=by
 simp only[JW,JK]
 rw[keyP_ok ha,keyP_ok hb,cellsEq_iP]
 rfl
theorem eqk_n {n:Nat} {a b:List Int} (ha:a.length=n) (hb:b.length=n) (wa:∀ i,i<n→-9223372036854775808≤gI a i∧gI a i≤9223372036854775807) (wb:∀ i,i<n→-9223372036854775808≤gI b i∧gI b i≤9223372036854775807) :
  JW (true,List.replicate n (.int .i64)) (.agg (a.map AV.i)) (.agg (b.map AV.i))=some (decide (a=b)):=by
 simp only[JW,JK]
 rw[LF ha wa,LF hb wb,cellsEq_iP]
 rfl
theorem OC {k:List Int} (hk:KeyP k):∀ (M:MemP) (i:Nat),(∀ e∈M,KeyP e.1)→findKey K6 (kyQ k) (memE M) i=some ((fndP M k i).map fun r=>(r.1,.i r.2))
 | [],_,_=>rfl
 | e::M,i,h=>by
  have hq:=key_eq hk (h e (by simp))
  obtain ⟨e1,e2⟩:=e
  simp only[memE,Q0,findKey,fndP]
  simp only at hq
  rw[hq]
  by_cases he:k=e1
  ·rw[decide_eq_true he,if_pos he];rfl
  ·rw[decide_eq_false he,if_neg he]
   exact OC hk M (i+1) fun t ht=>h t (by simp[ht])
theorem mem_get {k:List Int} (hk:KeyP k) {M:MemP} (h:∀ e∈M,KeyP e.1) {σ:List AObj} {l j:Nat} {v:Int} (hm:mapOf σ l=some (memE M)) (hf:fndP M k 0=some (j,v)) :
  KL K6 (.cv (.int .i64 0)) true [.map l,kyQ k] σ=some (.tup [.i v,.b true],σ):=by
 simp only[KL,hm,Option.bind_some,Qco hk,OC hk M 0 h,hf]
 rfl
theorem mem_get0 {k:List Int} (hk:KeyP k) {M:MemP} (h:∀ e∈M,KeyP e.1) {σ:List AObj} {l:Nat} (hm:mapOf σ l=some (memE M)) (hf:fndP M k 0=none) :
  KL K6 (.cv (.int .i64 0)) true [.map l,kyQ k] σ=some (.tup [.i 0,.b false],σ):=by
 simp only[KL,hm,Option.bind_some,Qco hk,OC hk M 0 h,hf]
 rfl
theorem Qac {k:List Int} (hk:KeyP k) {M:MemP} (h:∀ e∈M,KeyP e.1) (v:Int) {σ:List AObj} {l:Nat} (hm:mapOf σ l=some (memE M)) :
  JZ K6 [.map l,kyQ k,.i v] σ=some (.undef,σ.set l (.map (memE (putP M k v)))):=by
 simp only[JZ,hm,Option.bind_some,Qco hk,OC hk M 0 h,putP]
 cases fndP M k 0 with
 | none=>simp[XU,memE]
 | some r=>simp[XU,memE,List.map_set]
def mpH (D:Nat) (σ:List AObj) (M:MemP):List AObj:=σ.set D (.map (memE M))
section
variable {D:Nat} {σ:List AObj}
theorem HH (M:MemP):(mpH D σ M).length=σ.length:=by simp[mpH]
theorem E4 (hd:D<σ.length) (J:List AObj) (M:MemP):mpH D σ M++J=mpH D (σ++J) M:=by
 unfold mpH;rw[YG _ _ hd]
theorem MO (hd:D<σ.length) {X:Nat} {cs:List AV} (h:rowOf σ X=some cs) (h1:X≠D) (M:MemP) (J:List AObj):rowOf (mpH D σ M++J) X=some cs:=by
 rw[E4 hd]
 unfold mpH
 rw[QX (Ne.symm h1)]
 exact ZH h J
theorem mpH_map (hd:D<σ.length) (M:MemP) (J:List AObj):mapOf (mpH D σ M++J) D=some (memE M):=by
 rw[E4 hd]
 unfold mpH mapOf
 rw[Z2 (by simp;omega)]
theorem mpH_set (hd:D<σ.length) (M M':MemP) (J:List AObj):(mpH D σ M++J).set D (.map (memE M'))=mpH D σ M'++J:=by
 rw[YG _ _ (by rw[HH];exact hd)]
 unfold mpH
 rw[List.set_set]
theorem mpH_z (M:MemP) (J:List AObj):rowOf (mpH D σ M++J) σ.length=rowOf J 0:=by
 have:=WW (mpH D σ M) J
 rwa [HH] at this
theorem mpH_s (M:MemP) (J:List AObj) (k:Nat):rowOf (mpH D σ M++J) (σ.length+k)=rowOf J k:=by
 have:=X9 (mpH D σ M) J k
 rwa [HH] at this
theorem mpH_sz (M:MemP) (J:List AObj) (v:AObj):(mpH D σ M++J).set σ.length v=mpH D σ M++J.set 0 v:=by
 have:=VW (mpH D σ M) J v
 rwa [HH] at this
theorem mpH_zs (M:MemP) (J:List AObj) (v:AObj) (k:Nat):(mpH D σ M++J).set (σ.length+k) v=mpH D σ M++J.set k v:=by
 have:=EZ (mpH D σ M) J k v
 rwa [HH] at this
theorem memE_in (n:Nat) (M:MemP):Z3 n (.map (memE M))=true:=by
 simp only[Z3]
 rw[Q1]
 intro e he
 obtain ⟨x,_,rfl⟩:=ZP.1 he
 have h1:QR n (kyQ x.1)=true:=Qbf n x.1
 rw[h1];rfl
theorem Qd7 (M M':MemP) {m l:Nat} {o:AObj} (h:(mpH D σ M')[l]? = some o):(mpH D σ M)[l]? = some o∨Z3 m o=true:=by
 unfold mpH at h ⊢
 rw[ZO] at h ⊢
 split at h
 ·rename_i e
  split at h
  ·cases h;exact .inr (memE_in _ _)
  ·cases h
 ·rename_i e
  rw[if_neg e];exact .inl h
end
theorem AC.cutM {P:Program} {f:FuncId} {args:List AV} {σ:List AObj} {D:Nat} {M:MemP} {v:AV} {p:MemP→Prop} (h:AC P f args (mpH D σ M) fun r τ=>r=v∧∃ M',p M'∧∃ J,τ=mpH D σ M'++J) (hv:QR 0 v=true) :
  AC P f args (mpH D σ M) fun r τ=>r=v∧∃ M',p M'∧τ=mpH D σ M':=by
 refine h.tidy ?_
 rintro r τ ⟨rfl,M',hM',J,rfl⟩
 have hv':QR (mpH D σ M).length r=true:=Y8 (QF _) r hv
 have hl:(mpH D σ M').length=(mpH D σ M).length:=by rw[HH,HH]
 obtain ⟨g,r2,σ3,ht,rfl,rfl⟩:=tidy_cut (σ:=mpH D σ M) (σ2:=mpH D σ M') (v:=r) (r:=r) (τ:=mpH D σ M'++J) hl hv' (fun l o h=>Qd7 M M' h) ⟨rfl,J,rfl⟩
 exact ⟨g,_,_,ht,rfl,M',hM',rfl⟩
theorem out_in {lo hi a:Int} (h:lo≤a∧a≤hi):PC Tryz.prog 57 [.i lo,.i hi,ints [a]] (.b false):=by
 have:=out1 lo hi a
 rwa [VB.2 h] at this
theorem out_in2 {lo hi a b:Int} (h:lo≤a∧a≤hi) (h2:lo≤b∧b≤hi):PC Tryz.prog 57 [.i lo,.i hi,ints [a,b]] (.b false):=by
 have:=tp57 lo hi [a,b] (by simp)
 rwa [VL.2 (by intro z hz;simp at hz;rcases hz with rfl | rfl <;> assumption)] at this
theorem frz_out {σ:List AObj} {lo hi:Int} {l:Nat} {a:Int} (h:rowOf σ l=some [.i a]):KS anyC σ [.i lo,.i hi,.sl l 0 1 1] [.i lo,.i hi,ints [a]] :=
 .cons (.c (.c _ trivial)) (.cons (.c (.c _ trivial)) (.cons (frz_one (fun _=>trivial) h) .nil))
theorem tp115 (b:Bk) (hb:BkOk b):PC Tryz.prog 115 [bkV b] (.tup [.i 0,.i 0,.i 0]):=by
 have h1:=hb.n1
 have h2:=hb.n16
 have h3:=hb.m1
 have h4:=hb.m4
 have h5:=hb.lo0
 have h6:=hb.loh
 have h7:=hb.hi0
 refine ⟨ZF (fok115 true) (QC rfl) ?_,rfl⟩
 simp only[ic115,WI,cellsOf,evA,simprocAttr]
 refine (out_in (lo:=1) (hi:=16) (a:=b.qs.length) (by omega)).call frz ?_
 simp only[evA,simprocAttr]
 refine (out_in (lo:=1) (hi:=4) (a:=b.wt.length) (by omega)).call frz ?_
 simp only[evA,simprocAttr]
 refine (out_in2 (lo:=0) (hi:=16000) (a:=b.lo) (b:=b.hi) (by omega) (by omega)).call frz ?_
 have hd:decide (b.lo>b.hi)=false:=decide_eq_false (by omega)
 simp only[hd,evA,simprocAttr]
 refine ZW b.qs.length (fun i s=>∃ v7 v8 v17 v18 v19 H,rowOf H 0=some (bkC b)∧rowOf H 4=some ((mnyR 4 b.qs i).map AV.i) ∧
  s=⟨[bkV b,.ptr 0 0,.i 0,.i 0,.i 0,.i b.wt.length,.ptr 4 0,v7,v8,.undef,.undef,.b false,.b false,.b false,.cv (qnR b.qs),.i b.qs.length,.i i,v17,v18,v19,.undef,.undef,.undef,.undef,.undef],H⟩) ?_ 0 (QF _) ⟨_,_,_,_,_,_,rfl,rfl,rfl⟩
 rintro i s hi ⟨v7,v8,v17,v18,v19,H,r0,r4,rfl⟩
 by_cases h:i<b.qs.length
 ·have r0J:=fun J=>ZH r0 J
  have r4J:=fun J=>ZH r4 J
  have hld:=qn_ld h
  have hia:=ia_qn h
  have hq:=hb.qu i h
  have hsucc:=fun p=>mnyR_succ (m:=4) (qs:=b.qs) (k:=i) (p:=p)
  generalize b.qs[i]! = q at *
  obtain ⟨pa,sk,wr⟩:=q
  simp only at hld hsucc hq
  have hw1:IntKind.i64.wrap ((b.wt.length:Int)-1)=(b.wt.length:Int)-1:=ZC (by omega)
  obtain ⟨p,rfl⟩:∃ p:Nat,pa=p:=⟨pa.toNat,by omega⟩
  have hp:p<4:=by omega
  have hbm:=mnyC_bd b.qs i p
  have hwk:=Q6 (show i+1<2 ^ 63 by omega)
  have hwm:IntKind.i64.wrap (mnyC b.qs i p+1)=mnyC b.qs i p+1:=ZC (by omega)
  have hsc:=hsucc p rfl hp
  have hl1:p<(mnyR 4 b.qs i).length:=by rw[mnyR_len];exact hp
  have la:=V1 hl1
  rw[mnyR_get hp] at la
  have hle:p+1≤(mnyR 4 b.qs i).length:=hl1
  simp only[ic115l1,QJ,h,hia,hld,WW,X9,VW,EZ,QW,List.cons_append,List.nil_append,QM,hw1,evA,simprocAttr]
  refine (out_in (lo:=0) (hi:=b.wt.length-1) (a:=p) (by omega)).call (frz_out (by simp only[X9];rfl)) ?_
  simp only[WW,X9,VW,EZ,QW,List.cons_append,List.nil_append,QM,evA,simprocAttr]
  refine (out_in (lo:=0) (hi:=100000) (a:=sk) (by omega)).call (frz_out (by simp only[X9];rfl)) ?_
  simp only[WW,X9,VW,EZ,QW,List.cons_append,List.nil_append,QM,evA,simprocAttr]
  refine (out_in (lo:=0) (hi:=sk) (a:=wr) (by omega)).call (frz_out (by simp only[X9];rfl)) ?_
  simp only[WW,X9,VW,EZ,QW,List.cons_append,List.nil_append,QM,r4J,ia_arr hp,ZV,la,hwm,ZK,hle,GC,hsc,hwk,evA,simprocAttr]
  refine ZL (by first | trivial | omega) ⟨_,_,_,_,_,_,?_,?_,rfl⟩
  ·rw[QX (by decide)];exact r0J _
  ·exact W0 (r4J _)
 ·have:i=b.qs.length:=by omega
  subst this
  simp only[ic115l1,QJ,h,r0,evA,simprocAttr]
  refine ZW b.wt.length (fun i s=>∃ v9 v10 v23 v24 H,rowOf H 4=some ((mnyR 4 b.qs b.qs.length).map AV.i) ∧
   s=⟨[bkV b,.ptr 0 0,.i 0,.i 0,.i 0,.i b.wt.length,.ptr 4 0,v7,v8,v9,v10,.b false,.b false,.b false,.cv (qnR b.qs),.i b.qs.length,.i b.qs.length,.b false,v18,v19,ints b.wt,.i b.wt.length,.i i,v23,v24],H⟩) ?_ 0 (QF _) ⟨_,_,_,_,_,r4,rfl⟩
  clear r0 r4 h
  rintro i s hi ⟨v9,v10,v23,v24,H,r4,rfl⟩
  by_cases h:i<b.wt.length
  ·have r4J:=fun J=>ZH r4 J
   have hwa:=hb.wa i h
   have hp:i<4:=by omega
   have hl1:i<(mnyR 4 b.qs b.qs.length).length:=by rw[mnyR_len];exact hp
   have la:=V1 hl1
   rw[mnyR_get hp] at la
   have hgi:b.wt[i]?.getD 0=gI b.wt i:=rfl
   have hwk:=Q6 (show i+1<2 ^ 63 by omega)
   simp only[ic115l0,QJ,h,J5 h,J4 h,WA,hgi,r4,ia_arr hp,ZV,la,evA,simprocAttr]
   refine (out_in (lo:=1) (hi:=mnyC b.qs b.qs.length i) (a:=gI b.wt i) (by omega)).call (frz_out (by simp only[WW];rfl)) ?_
   simp only[hwk,evA,simprocAttr]
   exact ZL (by first | trivial | omega) ⟨_,_,_,_,_,r4J _,rfl⟩
  ·have:i=b.wt.length:=by omega
   subst this
   simp only[ic115l0,QJ,h,evA,simprocAttr]
   exact frz
end Go.Proofs.YtpmokaefmcffaaaGreat.AM
namespace Go.Proofs.YtpmokaefmcffaaaGreat.AM
variable [Dr]
open Go
structure IA (P:Program) (vs:List Nat) (N:Nat) (ps:List Nat) (vals:List AV) (ia ib:IC) (R:XC):Prop where
 vars:R.vars=vs
 ntmps:R.ntmps=N
 params:R.params=ps
 vals:R.vals=vals
 st:R.state=.ready
 pd:R.pending=none
 ca:QL P vs N R.assign=some ia
 cb:QL P vs N R.body=some ib
def KB (R:XC):XC:={ R with state:=.busy,pending:=none }
def Qby (R:XC):XC:={ R with state:=.exhausted,pending:=none }
section
variable {P:Program} {vs:List Nat} {N:Nat} {ps:List Nat} {vals:List AV} {ia ib:IC} {R:XC}
theorem IA.back (h:IA P vs N ps vals ia ib R):({ KB R with state:=.ready,pending:=none }:XC)=R:=by
 have h1:=h.st
 have h2:=h.pd
 unfold KB
 cases R;simp_all
theorem RW_g {fx:Fx} {s:St} {Q:Exit→St→Prop} {g:Opd} {ps:Array Nat} {assign body:Code} {gf:FuncId} {cap:List AV} (ia ib:IC) (hg:WY s.vals [] g=.fn (.func gf) cap) (hvl:s.vals.length≤fx.vars.length) (hr0:∀ l0,fx.r=some l0→∃ r0,s.heap[l0]? = some (.loop r0))
  (hca:QL P fx.vars fx.N assign=some ia) (hcb:QL P fx.vars fx.N body=some ib)
  (h:∀ R,IA P fx.vars fx.N ps.toList s.vals ia ib R→AC P gf (.yld s.heap.length::cap) (s.heap++[.loop R]) fun _ σ'=>U9 P fx s.vals s.heap.length Q σ'):RW P fx g ps assign body s Q :=
 RW_s hg hvl hr0 (h _ ⟨rfl,rfl,rfl,rfl,rfl,rfl,hca,hcb⟩)
theorem YC_g {l:Nat} {σ:List AObj} {args:List AV} {Q:AV→List AObj→Prop} (hR:IA P vs N ps vals ia ib R) (hl:σ[l]? = some (.loop R)) (hargs:args.length=ps.length)
  (hvp:(decide vs.Nodup&&ps.all fun t=>vs.contains t&&decide (t<N))=true)
  (h:IS P ⟨vs,N,some l,σ.length⟩ ia ⟨JM vs ps args vals,σ⟩ (kAsg P ⟨vs,N,some l,σ.length⟩ l ib Q) .mk .mk):YC P l args σ Q:=by
 obtain ⟨e1,e2,e3,e4,e5,e6,e7,e8⟩:=hR
 refine QeH (r:=R) ia ib hl e5 (by rw[e3];exact hargs) (by rw[e1,e2,e3];exact hvp) (by rw[e1,e2];exact e7) (by rw[e1,e2];exact e8) ?_
 rw[e1,e2,e3,e4]
 exact h
theorem Qan {fx:Fx} {l:Nat} {Q:AV→List AObj→Prop} {s:St} (hR:IA P vs N ps vals ia ib R) (hl:s.heap[l]? = some (.loop R)) (h:IS P fx ib ⟨s.vals,s.heap.set l (.loop (KB R))⟩ (kRnd l Q) .mk .mk):kAsg P fx l ib Q .normal s:=by
 rw[Qam]
 refine ⟨R,hl,hR.st,?_⟩
 rw[hR.pd]
 exact h
theorem RU {l:Nat} {Q:AV→List AObj→Prop} {s:St} (hR:IA P vs N ps vals ia ib R) (hl:s.heap[l]? = some (.loop (KB R))) (h:Q (.b true) (s.heap.set l (.loop R))):kRnd l Q .normal s:=by
 rw[P0]
 refine ⟨_,hl,?_⟩
 unfold setLoop
 rw[hR.back]
 exact h
theorem M9 {fx:Fx} {l:Nat} {Q:Exit→St→Prop} {σ':List AObj} {vals2:List AV} (hR:IA P vs N ps vals ia ib R) (hl:σ'[l]? = some (.loop R)) (h:Q .normal ⟨vals2,σ'.set l (.loop (Qby R))⟩):U9 P fx vals2 l Q σ':=by
 refine ⟨R,hl,(by rw[hR.st];intro h;cases h),?_⟩
 rw[hR.pd]
 exact h
def retL (R:XC):XC:={ R with state:=.done,pending:=some .ret }
theorem Qdh {l:Nat} {Q:AV→List AObj→Prop} {s:St} (hl:s.heap[l]? = some (.loop (KB R))) (h:Q (.b false) (s.heap.set l (.loop (retL R)))):kRnd l Q .ret s:=by
 rw[kRnd_r]
 exact ⟨_,hl,h⟩
theorem after_r {fx:Fx} {l:Nat} {Q:Exit→St→Prop} {σ':List AObj} {vals2:List AV} (hl:σ'[l]? = some (.loop (retL R))) (h:W P fx .ret ⟨vals2,σ'.set l (.loop { retL R with state:=.exhausted,pending:=some .ret })⟩ Q):U9 P fx vals2 l Q σ':=by
 refine ⟨_,hl,(by intro h;cases h),?_⟩
 exact h
end
def errP (a n:Int):Bool:=!inB a 0 7 || !inB n 0 1000000000
def promV (a n:Int):AV:=if errP a n then .tup [.i 0,.i 7] else .tup [.i (promiseF a n),.i 0]
theorem locsIn_promV (a n:Int):QR 0 (promV a n)=true:=by unfold promV;split <;> rfl
theorem c16 (a n:Int):PC Tryz.prog 16 [.i a,.i n] (promV a n):=by
 refine ⟨ZF (fok16 true) (QC rfl) ?_,locsIn_promV a n⟩
 simp only[ic16,evA,simprocAttr]
 refine (c47 0 7 [a] (by simp)).call frz ?_
 rw[FW]
 cases h1:inB a 0 7
 ·have hp:promV a n=.tup [.i 0,.i 7]:=by simp[promV,errP,h1]
  simp only[evA,simprocAttr,hp]
  exact frz
 ·simp only[evA,simprocAttr]
  refine (c47 0 1000000000 [n] (by simp)).call frz ?_
  rw[FW]
  cases h2:inB n 0 1000000000
  ·have hp:promV a n=.tup [.i 0,.i 7]:=by simp[promV,errP,h1,h2]
   simp only[evA,simprocAttr,hp]
   exact frz
  ·have hp:promV a n=.tup [.i (promiseF a n),.i 0]:=by simp[promV,errP,h1,h2]
   have h1:=VB.1 h1
   have h2:=VB.1 h2
   have w1:IntKind.i64.wrap (IntKind.i64.wrap (n+1)+IntKind.i64.wrap (7*a))=n+1+7*a:=by
    rw[ZC (n:=n+1) (by omega),ZC (n:=7*a) (by omega),ZC (by omega)]
   simp only[evA,simprocAttr,hp,w1]
   have hpf:promiseF a n=mixF (mixF ((n+1+7*a) % 2147483647)):=rfl
   have hb:0≤n+1+7*a∧n+1+7*a<2147483648000:=by omega
   rw[hpf]
   generalize n+1+7*a=y at hb
   have hm:=mixF_bounds (y % 2147483647)
   have key:∀ y,0≤y∧y<2147483648000→(IntKind.i64.wrap (IntKind.i64.wrap (y.tmod 2147483647*y.tmod 2147483647)+12345)).tmod 2147483647=mixF (y % 2147483647):=by
    intro y hy
    rw[show y.tmod 2147483647=y % 2147483647 from Int.tmod_eq_emod_of_nonneg hy.1]
    exact mixF_wrap (by omega)
   have k0:=key y hb
   have k1:=key _ (show 0≤mixF (y % 2147483647)∧mixF (y % 2147483647)<2147483648000 by omega)
   rw[Int.emod_eq_of_lt hm.1 hm.2] at k1
   clear key hm hpf w1 hp
   generalize mixF (mixF (y % 2147483647))=M2 at k1 ⊢
   generalize mixF (y % 2147483647)=M1 at k0 k1
   refine ZW 2 (fun i s=>∃ z v7,(i=0∧z=y∨i=1∧z=M1∨i=2∧z=M2)∧s=⟨[.i a,.i n,.i 0,.i 0,.i z,.b false,.i i,v7],_⟩) ?_ 0 (by omega) ⟨_,_,.inl ⟨rfl,rfl⟩,rfl⟩
   rintro i s hi ⟨z,v7,hz,rfl⟩
   by_cases h:i<2
   ·have hd:((i:Int)<2):=by omega
    simp only[ic16l0,hd,h,evA,simprocAttr]
    refine ZL (by first | trivial | omega) ⟨(IntKind.i64.wrap (IntKind.i64.wrap (z.tmod 2147483647*z.tmod 2147483647)+12345)).tmod 2147483647,_,?_,by rw[ZC (n:=(i:Int)+1) (by omega)];rfl⟩
    rcases hz with ⟨rfl,rfl⟩ | ⟨rfl,rfl⟩ | ⟨h2,_⟩
    ·exact .inr (.inl ⟨rfl,k0⟩)
    ·exact .inr (.inr ⟨rfl,k1⟩)
    ·omega
   ·have hd:¬ ((i:Int)<2):=by omega
    have hz2:z=M2:=by rcases hz with ⟨h0,_⟩ | ⟨h1,_⟩ | ⟨_,hz⟩ <;> first | omega | exact hz
    subst hz2
    simp only[ic16l0,hd,evA,simprocAttr]
    exact frz
def numErr (zs:List Int):Int:=if inB zs.length 1 8 then (if outF 0 1000000000 zs then 7 else 0) else 3
theorem c50 (zs:List Int) (hz:zs.length<2 ^ 63):PC Tryz.prog 55 [ints zs] (.i (numErr zs)):=by
 refine ⟨ZF (fok55 true) (QC rfl) ?_,rfl⟩
 simp only[ic55,evA,simprocAttr]
 refine (c47 1 8 [zs.length] (by simp)).call frz ?_
 rw[FW]
 cases h1:inB zs.length 1 8
 ·have:numErr zs=3:=by simp[numErr,h1]
  simp only[evA,simprocAttr,this]
  exact frz
 ·simp only[evA,simprocAttr]
  refine (c47 0 1000000000 zs hz).call frz ?_
  cases h2:outF 0 1000000000 zs
  ·have:numErr zs=0:=by simp[numErr,h1,h2]
   simp only[evA,simprocAttr,this]
   exact frz
  ·have:numErr zs=7:=by simp[numErr,h1,h2]
   simp only[evA,simprocAttr,this]
   exact frz
theorem c41 (zs:List Int) (hz:zs.length<2 ^ 63):PC Tryz.prog 13 [ints zs] (.i (numErr zs)):=by
 refine ⟨ZF (fok13 true) (QC rfl) ?_,rfl⟩
 simp only[ic13,evA,simprocAttr]
 refine (c48_l zs.length 1 8).call frz ?_
 rw[← show inB zs.length 1 8=(decide ((zs.length:Int)≥1)&&decide ((zs.length:Int)≤8)) from rfl]
 cases h1:inB zs.length 1 8
 ·have:numErr zs=3:=by simp[numErr,h1]
  simp only[evA,simprocAttr,this]
  exact frz
 ·simp only[evA,simprocAttr]
  refine ZW zs.length (fun i s=>(∀ j,j<i→inB (zs[j]?.getD 0) 0 1000000000=true)∧∃ v4 v5,s=⟨[ints zs,.i 0,.i i,.b false,v4,v5],[]⟩) ?_ 0 (QF _) ⟨by omega,_,_,rfl⟩
  rintro i s hi ⟨hall,v4,v5,rfl⟩
  by_cases h:i<zs.length
  ·simp only[ic13l0,QJ,h,evA,simprocAttr]
   refine (c48_l _ _ _).call frz ?_
   rw[← show inB (zs[i]?.getD 0) 0 1000000000=(decide (zs[i]?.getD 0≥0)&&decide (zs[i]?.getD 0≤1000000000)) from rfl]
   cases h2:inB (zs[i]?.getD 0) 0 1000000000
   ·have:numErr zs=7:=by simp[numErr,h1,Qeg h h2]
    simp only[evA,simprocAttr,this]
    exact frz
   ·simp only[evA,simprocAttr]
    refine ZL (by first | trivial | omega) ⟨fun j hj=>?_,_,_,by rw[ZC (by omega)];rfl⟩
    rcases QQ.1 hj with hj | rfl
    ·exact hall j hj
    ·exact h2
  ·have:i=zs.length:=by omega
   subst this
   have:numErr zs=0:=by simp[numErr,h1,PW.2 hall]
   simp only[ic13l0,QJ,h,this,evA,simprocAttr]
   exact frz
def promErr (ps zs:List Int):Int:=if numErr zs=0 then (if ps.length=zs.length then (if outF 0 2147483646 ps then 7 else 0) else 3) else numErr zs
theorem numErr_cases (zs:List Int):numErr zs=0∨numErr zs=3∨numErr zs=7:=by
 unfold numErr;split <;> (try split) <;> simp
def cheatB (ps zs:List Int) (j:Nat):Bool:=promiseF (j:Int) (zs[j]?.getD 0) != ps[j]?.getD 0
def cheatF (ps zs:List Int):Nat→List Int
 | 0=>[]
 | i+1=>if cheatB ps zs i then cheatF ps zs i++[(i:Int)] else cheatF ps zs i
theorem cheatF_length (ps zs:List Int):∀ i,(cheatF ps zs i).length≤i
 | 0=>by simp[cheatF]
 | i+1=>by
  have:=cheatF_length ps zs i
  simp only[cheatF];split <;> simp <;> omega
structure NumsOk (zs:List Int):Prop where
 len:1≤zs.length∧zs.length≤8
 rng:∀ j,j<zs.length→0≤zs[j]?.getD 0∧zs[j]?.getD 0≤1000000000
theorem numErr_ok {zs:List Int} (h:numErr zs=0):NumsOk zs:=by
 unfold numErr at h
 split at h
 ·rename_i h1
  split at h
  ·cases h
  ·rename_i h2
   have h1:=VB.1 h1
   exact ⟨by omega,fun j hj=>VB.1 (PW.1 (by simpa using h2) j hj)⟩
 ·cases h
def cheatsV (ps zs:List Int):AV:=if promErr ps zs=0 then .tup [ints (cheatF ps zs zs.length),.i 0] else .tup [ints [],.i (promErr ps zs)]
theorem cheatsV_cl (ps zs:List Int):QR 0 (cheatsV ps zs)=true:=by unfold cheatsV;split <;> rfl
theorem c18 (ps zs:List Int) (hp:ps.length<2 ^ 63) (hz:zs.length<2 ^ 63):PC Tryz.prog 17 [ints ps,ints zs] (cheatsV ps zs):=by
 refine ⟨ZF (fok17 true) (QC rfl) ?_,cheatsV_cl ps zs⟩
 simp only[ic17,evA,simprocAttr]
 refine (c50 zs hz).call frz ?_
 rcases numErr_cases zs with h0 | h0 | h0
 ·simp only[h0,evA,simprocAttr]
  by_cases hl:ps.length=zs.length
  ·simp only[hl,evA,simprocAttr]
   refine (c47 0 2147483646 ps hp).call frz ?_
   cases ho:outF 0 2147483646 ps
   ·have hv:cheatsV ps zs=.tup [ints (cheatF ps zs zs.length),.i 0]:=by simp[cheatsV,promErr,h0,hl,ho]
    have hok:=numErr_ok h0
    have h8:=hok.len
    simp only[hv,evA,simprocAttr]
    refine ZW zs.length (fun i s=>∃ σ v v4 v5 v6 v13 v14,SB σ v (cheatF ps zs i)∧s=⟨[ints ps,ints zs,v,.i 0,v4,v5,v6,.b false,.b false,.b false,ints zs,.i zs.length,.i i,v13,v14],σ⟩) ?_ 0 (QF _) ⟨[],_,_,_,_,_,_,.nil _,rfl⟩
    rintro i s hi ⟨σ,v,v4,v5,v6,v13,v14,hacc,rfl⟩
    by_cases h:i<zs.length
    ·have hpl:i<ps.length:=by omega
     have hrng:=hok.rng i h
     simp only[ic17l0,QJ,h,evA,simprocAttr]
     refine (c16 (i:Int) _).call frz ?_
     have hpv:promV (i:Int) (zs[i]?.getD 0)=.tup [.i (promiseF (i:Int) (zs[i]?.getD 0)),.i 0]:=by
      have e1:inB (i:Int) 0 7=true:=VB.2 (by omega)
      have e2:inB (zs[i]?.getD 0) 0 1000000000=true:=VB.2 hrng
      simp[promV,errP,e1,e2]
     rw[hpv]
     have hb:(promiseF (i:Int) (zs[i]?.getD 0) != ps[i]?.getD 0)=cheatB ps zs i:=rfl
     simp only[h,hpl,hb,evA,simprocAttr]
     have hlen:=cheatF_length ps zs i
     cases hc:cheatB ps zs i
     ·simp only[evA,simprocAttr]
      refine ZL (by first | trivial | omega) ⟨_,_,_,_,_,_,_,?_,by rw[ZC (by omega)];rfl⟩
      simpa[cheatF,hc] using hacc
     ·obtain ⟨v',σ',he,hacc'⟩:=QdK (i:Int) hacc (by omega)
      simp only[he,evA,simprocAttr]
      refine ZL (by first | trivial | omega) ⟨_,_,_,_,_,_,_,?_,by rw[ZC (by omega)];rfl⟩
      simpa[cheatF,hc] using hacc'
    ·have:i=zs.length:=by omega
     subst this
     simp only[ic17l0,QJ,h,evA,simprocAttr]
     exact .tup (.cons (acc_frz (fun _=>trivial) hacc) (.cons (.c (.c _ trivial)) .nil))
   ·have hv:cheatsV ps zs=.tup [ints [],.i 7]:=by simp[cheatsV,promErr,h0,hl,ho]
    simp only[hv,evA,simprocAttr]
    exact frz
  ·have hb:((ps.length:Int) != zs.length)=true:=by simp;omega
   have hv:cheatsV ps zs=.tup [ints [],.i 3]:=by simp[cheatsV,promErr,h0,hl]
   simp only[hb,hv,evA,simprocAttr]
   exact frz
 ·have hv:cheatsV ps zs=.tup [ints [],.i 3]:=by simp[cheatsV,promErr,h0]
  simp only[h0,hv,evA,simprocAttr]
  exact frz
 ·have hv:cheatsV ps zs=.tup [ints [],.i 7]:=by simp[cheatsV,promErr,h0]
  simp only[h0,hv,evA,simprocAttr]
  exact frz
def lotF (zs:List Int):Nat→Int
 | 0=>0
 | i+1=>(lotF zs i*1000003+zs[i]?.getD 0+1) % 2147483647
theorem lotF_bounds (zs:List Int):∀ i,0≤lotF zs i∧lotF zs i<2147483647
 | 0=>by simp[lotF]
 | i+1=>by simp only[lotF];omega
theorem lotF_wrap {zs:List Int} {i:Nat} (h:0≤zs[i]?.getD 0∧zs[i]?.getD 0≤1000000000) :
  (IntKind.i64.wrap (IntKind.i64.wrap (IntKind.i64.wrap (lotF zs i*1000003)+zs[i]?.getD 0)+1)).tmod 2147483647=lotF zs (i+1):=by
 have:=lotF_bounds zs i
 rw[ZC (n:=lotF zs i*1000003) (by omega),ZC (n:=lotF zs i*1000003+_) (by omega),ZC (by omega),Int.tmod_eq_emod_of_nonneg (by omega)]
 rfl
def lotV (zs:List Int):AV:=if numErr zs=0 then .tup [.i (lotF zs zs.length),.i 0] else .tup [.i 0,.i (numErr zs)]
theorem lotV_cl (zs:List Int):QR 0 (lotV zs)=true:=by unfold lotV;split <;> rfl
theorem c21_l (zs:List Int) (hz:zs.length<2 ^ 63):PC Tryz.prog 25 [ints zs] (lotV zs):=by
 refine ⟨ZF (fok25 true) (QC rfl) ?_,lotV_cl zs⟩
 simp only[ic25,evA,simprocAttr]
 refine (c50 zs hz).call frz ?_
 rcases numErr_cases zs with h0 | h0 | h0
 ·have hv:lotV zs=.tup [.i (lotF zs zs.length),.i 0]:=by simp[lotV,h0]
  have hok:=numErr_ok h0
  have h8:=hok.len
  simp only[h0,hv,evA,simprocAttr]
  have hinit:lotF zs 0=0:=rfl
  have hstep:=fun i (h:i<zs.length)=>lotF_wrap (hok.rng i h)
  generalize lotF zs=L at hinit hstep ⊢
  refine ZW zs.length (fun i s=>∃ v3 v8,s=⟨[ints zs,.i (L i),.i 0,v3,.b false,ints zs,.i zs.length,.i i,v8],[]⟩) ?_ 0 (QF _) ⟨_,_,by rw[hinit];rfl⟩
  rintro i s hi ⟨v3,v8,rfl⟩
  by_cases h:i<zs.length
  ·simp only[ic25l0,QJ,h,evA,simprocAttr]
   exact ZL (by first | trivial | omega) ⟨_,_,by rw[hstep i h,ZC (n:=(i:Int)+1) (by omega)];rfl⟩
  ·have:i=zs.length:=by omega
   subst this
   simp only[ic25l0,QJ,h,evA,simprocAttr]
   exact frz
 ·have hv:lotV zs=.tup [.i 0,.i 3]:=by simp[lotV,h0]
  simp only[h0,hv,evA,simprocAttr]
  exact frz
 ·have hv:lotV zs=.tup [.i 0,.i 7]:=by simp[lotV,h0]
  simp only[h0,hv,evA,simprocAttr]
  exact frz
def capF (n:Nat):Int:=((2 ^ n:Nat):Int)-1
structure DrawOk (ts ks:List Int):Prop where
 tl:1≤ts.length∧ts.length≤6
 kl:ks.length≤8
 tr:∀ j,j<ts.length→0≤ts[j]?.getD 0∧ts[j]?.getD 0≤4
 kr:∀ j,j<ks.length→0≤ks[j]?.getD 0∧ks[j]?.getD 0≤capF ts.length
def encI (ts:List Int):Nat→Int
 | 0=>0
 | i+1=>encI ts i*5+ts[i]?.getD 0
abbrev encN (ts:List Int):Nat:=(encI ts ts.length).toNat
def canB_l (ks ts:List Int) (t i:Nat):Bool:=decide (ts[i]?.getD 0>0) && !((ks[t]?.getD 0).toNat.testBit i)
structure TabAt (σ:List AObj) (b T size:Nat) (K:List (List Int)):Prop where
 out:rowOf σ b=some ((List.range T).map fun j=>AV.sl (b+1+j) 0 size 1)
 kl:K.length=T
 rows:∀ j,j<T→rowOf σ (b+1+j)=some ((K[j]?.getD []).map AV.i)∧(K[j]?.getD []).length=size
structure MemoB (T size:Nat) (K:List (List Int)):Prop where
 kl:K.length=T
 rl:∀ j,j<T→(K[j]?.getD []).length=size
 le:∀ (j a:Nat),j<T→(K[j]?.getD [])[a]?.getD 0≤(6 ^ (T-j):Nat)
def Dig (n:Nat) (ts:List Int):Prop:=ts.length=n∧∀ j,j<ts.length→0≤ts[j]?.getD 0∧ts[j]?.getD 0≤4
def waysF (ks:List Int):Nat→List Int→Int
 | 0,_=>1
 | r+1,ts=>((List.range ts.length).map fun i=>if canB_l ks ts (ks.length-(r+1)) i then waysF ks r (ts.set i (ts[i]?.getD 0-1)) else 0).sum
def Right (ks:List Int) (n:Nat) (K:List (List Int)):Prop:=∀ r ts,r+1≤ks.length→Dig n ts→(K[ks.length-(r+1)]?.getD [])[encN ts]?.getD 0≥0→(K[ks.length-(r+1)]?.getD [])[encN ts]?.getD 0=waysF ks (r+1) ts
def pad6 (ts:List Int):List Int:=ts++List.replicate (6-ts.length) 0
abbrev keyCs (t:Nat) (ts:List Int):List AV:=.i t::(pad6 ts).map AV.i
abbrev keyV (t:Nat) (ts:List Int):AV:=.agg (keyCs t ts)
abbrev Memo:=List ((Nat × List Int) × Int)
def rendK (K:Memo):List (AV × AV):=K.map fun e=>(keyV e.1.1 e.1.2,.i e.2)
def RightQ (ks:List Int) (n:Nat) (K:Memo):Prop:=∀ e∈K,e.1.1<ks.length∧Dig n e.1.2∧e.2=waysF ks (ks.length-e.1.1) e.1.2
abbrev lessF (us:List Int) (i:Nat):List Int:=us.set i (us[i]?.getD 0-1)
def preF (ks:List Int) (r:Nat) (us:List Int) (i:Nat):Int :=
 ((List.range i).map fun i=>if canB_l ks us (ks.length-(r+1)) i then waysF ks r (us.set i (us[i]?.getD 0-1)) else 0).sum
def pickF (ks:List Int):(r:Nat)→(us:List Int)→(x:Int)→List Int
 | 0,_,_=>[]
 | r+1,us,x=>match (List.range us.length).find? (fun i=>canB_l ks us (ks.length-(r+1)) i&&decide (x<preF ks r us (i+1))) with
  | some i=>(i:Int)::pickF ks r (lessF us i) (x-preF ks r us i)
  | none=>[]
abbrev hp4 (ts0 ks:List Int) (K:Memo):List AObj:=[.cells [.ptr 1 0],.cells [ints ts0,ints ks,.map 2],.map (rendK K),.cells [.fn (.func 85) [.ptr 0 0,.ptr 3 0]]]
theorem Cl.mem {σ:List AObj} (h:Cl σ):∀ o∈σ,Z3 σ.length o=true:=fun o ho=>by
 obtain ⟨j,hj⟩:=List.getElem?_of_mem ho
 exact h j o hj
structure PSt (ts0 ks:List Int) (x:Int) (t:Nat) (σ:List AObj) (K:Memo) (us zs:List Int) (x':Int) (v:AV):Prop where
 o0:σ[0]? = some (.cells [ints ts0,ints ks,.map 1])
 o1:σ[1]? = some (.map (rendK K))
 o2:σ[2]? = some (.cells [.ptr 0 0])
 o3:σ[3]? = some (.cells [.i x'])
 o4:σ[4]? = some (.cells [v])
 o5:σ[5]? = some (.cells (keyCs t us))
 acc:G9 6 σ v zs
 cl:Cl σ
 kr:RightQ ks ts0.length K
 ud:Dig ts0.length us
 xb:0≤x'∧x'<waysF ks (ks.length-t) us
 eq:zs++pickF ks (ks.length-t) us x'=pickF ks ks.length ts0 x
 zl:zs.length=t
structure TabR (ts0 ks:List Int) (σ:List AObj) (b:Nat) (K:List (List Int)):Prop where
 tab:TabAt σ b ks.length (5 ^ ts0.length) K
 mem:MemoB ks.length (5 ^ ts0.length) K
 rgt:Right ks ts0.length K
def AllowA (ks:List Int):Nat→List Int→List Int→Prop
 | 0,_,l=>l=[]
 | r+1,us,l=>∃ (i:Nat) (l':List Int),l=(i:Int)::l'∧i<us.length∧canB_l ks us (ks.length-(r+1)) i=true∧AllowA ks r (lessF us i) l'
theorem AllowA.length {ks:List Int}:∀ {r:Nat} {us l:List Int},AllowA ks r us l→l.length=r
 | 0,us,l,h=>by simp[AllowA] at h;simp[h]
 | r+1,us,l,h=>by
  obtain ⟨i,l',rfl,_,_,h⟩:=h
  simp[h.length]
end Go.Proofs.YtpmokaefmcffaaaGreat.AM

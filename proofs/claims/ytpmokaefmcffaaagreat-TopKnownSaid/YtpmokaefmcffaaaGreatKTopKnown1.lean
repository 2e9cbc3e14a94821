/- Parts of the proof of TopKnown. -/
import Derived.RangeFuncNested
import Derived.Test.YtpmokaefmcffaaaGreatProg
import Derived.Lib.Strings
import Derived.Sort.LotA
import Derived.Test.YtpmokaefmcffaaaGreatChecked
import Derived.Shelf.SlSortCmp.WholeK
import Derived.Shelf.SlGeneric
import Derived.Ground.SlsfProg
import Derived.Maps.RangeRun
import GoSem.Op.String
import Derived.Shelf.SlSortCmp.Whole1
import Derived.Sort.Statements
import Derived.Test.YtpmokaefmcffaaaGreatRows
import Derived.WalkKit
import Derived.ProofKit
import Derived.OpenShut
import Derived.Carry
import Derived.Test.YtpmokaefmcffaaaGreatZ8
set_option linter.unusedVariables false
set_option linter.unusedSimpArgs false
set_option linter.unusedSectionVars false
set_option linter.defProp false
namespace Go.Proofs.YtpmokaefmcffaaaGreat.AM
variable [Dr]
open Go
theorem GlOk.step {n0:Nat} {m m':LM} {X:Nat→Prop} {w w':World} (h:GlOk m X w) (hs:Step n0 m X w m' w'):GlOk m' X w':=fun p hp=>CV.reps_mono (fun b hb hc=>by
 have hlt:=hc.lt
 refine ⟨hs.fr b hlt (.inr fun l hl=>hb (.inr ⟨l,hl⟩)),?_⟩
 rintro (hX | ⟨l,hl⟩)
 ·exact hb (.inl hX)
 ·rcases hs.new l b hl with ⟨l',hl'⟩ | hge
  ·exact hb (.inr ⟨l',hl'⟩)
  ·omega) _ _ _ (h p hp)
end Go.Proofs.YtpmokaefmcffaaaGreat.AM
namespace Go.Proofs.YtpmokaefmcffaaaGreat.AM
variable [Dr]
open Go
variable {P:Program} {fx:Fx} {m:LM} {X:Nat→Prop} {en:En} {w:World} {s:St} {Q:Exit→St→Prop}
theorem fen_eq (m:LM) (r:Option Nat):fen m r=wfen (r.bind m):=rfl
theorem W.mono {c:Code} {Q':Exit→St→Prop} (h:W P fx c s Q) (hq:∀ e s',Q e s'→Q' e s'):W P fx c s Q' :=
 fun m X en ac w hs hr=>wpIn_mono (h m X en ac w hs hr) fun e ac' w' ⟨s',m',h1,h2⟩=>⟨s',m',hq _ _ h1,h2⟩
theorem Weak.refl (fx:Fx) (s:St):Weak fx s s:=fun m X en ac w h=>⟨m,h,Step.refl _ _ _ _⟩
theorem W.weak {c:Code} {s':St} (hw:Weak fx s s') (h:W P fx c s' Q):W P fx c s Q:=by
 intro m X en ac w hs hr
 obtain ⟨m',hs',hst⟩:=hw m X en ac w hs
 exact W.later h hr hs' hst
theorem WL.weak {c:Code} {s':St} (hw:Weak fx s s') (h:WL P fx c s' Q):WL P fx c s Q:=by
 intro m X en ac w hs hr
 obtain ⟨m',hs',hst⟩:=hw m X en ac w hs
 exact WL.later h hr hs' hst
theorem WL.mono {c:Code} {Q':Exit→St→Prop} (h:WL P fx c s Q) (hq:∀ e s',Q e s'→Q' e s'):WL P fx c s Q' :=
 fun m X en ac w hs hr=>RA.mono (h m X en ac w hs hr) fun e ac' w' ⟨s',m',h1,h2⟩=>⟨s',m',hq _ _ h1,h2⟩
abbrev noX:Nat→Prop:=fun _=>False
end Go.Proofs.YtpmokaefmcffaaaGreat.AM
namespace Go.Proofs.YtpmokaefmcffaaaGreat.AM
set_option linter.unusedSectionVars false
variable [Dr]
open Go
set_option linter.unusedVariables false
set_option linter.unusedSimpArgs false
section
variable {P:Program} {b:Frame} {a:Act} {k:List Item} {cs:List Frame} {w:World}
end
variable {P:Program} {fx:Fx} {s:St} {Q:Exit→St→Prop}
def DW (P:Program) (fx:Fx) (dirs:List (List Nat)) (is:List Ins) (s:St) (Q:Exit→St→Prop):Prop :=
 ∀ id ops,UU ops=dirs→VY P fx.vars fx.N ops=some is→W P fx (.region id ops true) s Q
def IL (P:Program) (fx:Fx) (a:IC) (s:St) (Q:Exit→St→Prop):Prop :=
 ∀ c,QL P fx.vars fx.N c=some a→WL P fx c s Q
def RW (P:Program) (fx:Fx) (g:Opd) (ps:Array Nat) (assign body:Code) (s:St) (Q:Exit→St→Prop):Prop :=
 ∃ gf cap,WY s.vals [] g=.fn (.func gf) cap∧s.vals.length≤fx.vars.length∧(∀ l0,fx.r=some l0→∃ r0,s.heap[l0]? = some (.loop r0)) ∧
  AC P gf (.yld s.heap.length::cap) (s.heap++[.loop (VJ fx s.vals ps assign body)]) fun _ σ'=>U9 P fx s.vals s.heap.length Q σ'
def IW (P:Program) (fx:Fx):IC→St→(Exit→St→Prop)→Prop
 | .skip,s,Q=>Q .normal s
 | .label _,s,Q=>Q .normal s
 | .exit i,s,Q=>Q (.exit i) s
 | .ret,s,Q=>Q .ret s
 | .seq a b,s,Q=>IW P fx a s fun e s'=>match e with | .normal=>IW P fx b s' Q | e=>Q e s'
 | .block i a,s,Q=>IW P fx a s fun e s'=>match e with | .exit i'=>if i'=i then Q .normal s' else Q (.exit i') s' | e=>Q e s'
 | .cond i a b,s,Q=>∃ t,s.vals.getD i .undef=.b t∧(if t then IW P fx a s Q else IW P fx b s Q)
 | .loop a,s,Q=>IL P fx a s Q
 | .scope a,s,Q=>IW P fx a s fun e s'=>match e with | .goto _=>False | e=>Q e s'
 | .region is,s,Q=>RG P is s.vals [] s.heap fun vals _ σ=>Q .normal ⟨vals,σ⟩
 | .draw dirs is _,s,Q=>DW P fx dirs is s Q
 | .rangef g ps assign body _ _,s,Q=>RW P fx g ps assign body s Q
theorem Y6:∀ (c:Code) (ic:IC) (s:St) (Q:Exit→St→Prop),QL P fx.vars fx.N c=some ic→IW P fx ic s Q→W P fx c s Q
 | .skip,ic,s,Q,hc,h=>by simp only[QL,Option.some.injEq] at hc;subst hc;exact W_skip h
 | .label l,ic,s,Q,hc,h=>by simp only[QL,Option.some.injEq] at hc;subst hc;exact QeJ h
 | .exit i,ic,s,Q,hc,h=>by simp only[QL,Option.some.injEq] at hc;subst hc;exact QbM h
 | .ret,ic,s,Q,hc,h=>by simp only[QL,Option.some.injEq] at hc;subst hc;exact QcP h
 | .seq a b,ic,s,Q,hc,h=>by
  simp only[QL,QB,QA] at hc
  obtain ⟨x,hx,y,hy,rfl⟩:=hc
  refine QcO ((Y6 a x s _ hx h).mono ?_)
  intro e s' hq
  cases e with
  | normal=>exact Y6 b y s' Q hy hq
  | _=>exact hq
 | .block i a,ic,s,Q,hc,h=>by
  simp only[QL,QA] at hc
  obtain ⟨x,hx,rfl⟩:=hc
  exact QbO (Y6 a x s _ hx h)
 | .loop a,ic,s,Q,hc,h=>by
  simp only[QL,QA] at hc
  obtain ⟨x,hx,rfl⟩:=hc
  exact W_loop (h a hx)
 | .scope a,ic,s,Q,hc,h=>by
  simp only[QL,QA] at hc
  obtain ⟨x,hx,rfl⟩:=hc
  exact QeI (Y6 a x s _ hx h)
 | .cond (.const v) a b,ic,s,Q,hc,h=>by
  cases v <;> simp only[QL,reduceCtorEq] at hc
  rename_i t
  cases t with
  | true=>simp only[if_true] at hc;exact XD (Y6 a ic s Q hc h)
  | false=>simp only[QT,if_false] at hc;exact XD (Y6 b ic s Q hc h)
 | .cond (.tmp t) a b,ic,s,Q,hc,h=>by
  simp only[QL,QB,QA] at hc
  obtain ⟨i,hi,x,hx,y,hy,rfl⟩:=hc
  obtain ⟨b',hb,h⟩:=h
  refine QbN (Y9 hi) hb ?_
  cases b' with
  | true=>exact Y6 a x s Q hx h
  | false=>exact Y6 b y s Q hy h
 | .region id ops false,ic,s,Q,hc,h=>by
  simp only[QL,QA] at hc
  obtain ⟨is,his,rfl⟩:=hc
  exact C5 his h
 | .region id ops true,ic,s,Q,hc,h=>by
  simp only[QL,QA] at hc
  obtain ⟨is,his,rfl⟩:=hc
  exact h id ops rfl his
 | .rangeFunc g ps assign body,ic,s,Q,hc,h=>by
  simp only[QL,QB,QA] at hc
  obtain ⟨ia,h1,ib,h2,rfl⟩:=hc
  obtain ⟨gf,cap,g1,g2,g3,g4⟩:=h
  exact N6 rfl g1 g2 g3 g4
 | .cond (.global _) _ _,_,_,_,hc,_=>by simp[QL] at hc
 | .cond (.func _) _ _,_,_,_,hc,_=>by simp[QL] at hc
 | .goto _,_,_,_,hc,_=>by simp[QL] at hc
 | .refuse _,_,_,_,hc,_=>by simp[QL] at hc
theorem QfI {a:IC} (h:IW P fx a s fun e s'=>match e with | .normal=>IL P fx a s' Q | e=>Q e s'):IL P fx a s Q :=
 fun c hc=>FG ((Y6 c a s _ hc h).mono fun e s' hq=>by
  cases e with
  | normal=>exact hq c hc
  | _=>exact hq)
theorem IL.weak {a:IC} {s':St} (hw:Weak fx s s') (h:IL P fx a s' Q):IL P fx a s Q:=fun c hc=>(h c hc).weak hw
theorem AC_IW {f:FuncId} {fn:Func} {c:Code} {ic:IC} {args:List AV} {σ:List AObj} {Q:AV→List AObj→Prop} (vars:List Nat) (hf:P.funcs[f]? = some fn) (hb:fn.body=some c) (hn:(fn.name == "runtime.NumGoroutine")=false) (hargs:args.length≤fn.ntmps)
  (hc:QL P vars fn.ntmps c=some ic)
  (h:IW P ⟨vars,fn.ntmps,none,σ.length⟩ ic ⟨Y5 vars args,σ⟩ fun e s'=>match e with
   | .normal | .ret=>∃ r,UB P vars s'.vals s'.heap fn.results.toList=some r∧Q r s'.heap
   | _=>False):AC P f args σ Q :=
 IB hf hb (RE hf hn hb) hargs (Y6 (fx:=⟨vars,fn.ntmps,none,σ.length⟩) c ic _ _ hc h)
end Go.Proofs.YtpmokaefmcffaaaGreat.AM
namespace Go.Proofs.YtpmokaefmcffaaaGreat.AM
variable [Dr]
open Go
variable {P:Program} {fx:Fx} {Q:Exit→St→Prop} {s:St}
theorem DW_ordx {dirs:List (List Nat)} {is:List Ins} (kp:List Nat) (xs:List (Nat × Nat)) (hmix:P.follows .mixedOrders=true) (hord:RQ dirs is (Qbd dirs []) kp xs=true) (hvl:s.vals.length=fx.vars.length)
  (h:RPx P kp xs 0 is [] [] s.vals [] s.heap fun vals _ σ=>Q .normal ⟨vals,σ⟩):DW P fx dirs is s Q:=by
 rintro id ops rfl hc
 exact PE _ kp xs hmix hc (AA hord) hvl h
end Go.Proofs.YtpmokaefmcffaaaGreat.AM
namespace Go.Proofs.YtpmokaefmcffaaaGreat.AM
variable [Dr]
open Go
section
variable {m m':LM} {X X':Nat→Prop} {w:World} {σ:List AObj} {p:CV→Prop}
theorem Qbq (hh:HRel m X σ w) (hb:∀ (c:CV) v,p c→c.rep w (Own m X) v→c.rep w (Own m' X') v) (hn:∀ (l b:Nat) (o:AObj),m l=some b→σ[l]? = some o→o.live→¬ Own m' X' b):∀ {as_ bs:List AV},KS p σ as_ bs→∀ vs,QK m X w as_ vs→QK m' X' w bs vs
 | _,_,.nil,vs,hv=>by rw[QK.nil' hv];simp[QK]
 | _,_,.cons h1 h2,vs,hv=>by
  obtain ⟨v,us,rfl,g1,g2⟩:=hv.cons
  exact ⟨RX hh hb hn h1 v g1,Qbq hh hb hn h2 us g2⟩
theorem Qa2 {O O':Nat→Prop} (c:CV) (v:Value) (hp:scl c) (h:c.rep w O v):c.rep w O' v:=by
 cases c <;> simp only[scl] at hp <;> simpa only[CV.rep] using h
end
theorem AC.pureN {P:Program} {f:FuncId} {args args':List AV} {Q:AV→List AObj→Prop} {R:AV→Prop} (h:AC P f args [] Q) (hq:∀ r σ',Q r σ'→∃ v,FrzV scl σ' r v∧R v) {σ:List AObj} (hf:KS anyC σ args' args):AC P f args' σ fun r σ'=>R r∧σ'=σ:=by
 refine ⟨h.1,fun m X w cargs ha hh=>?_⟩
 have hown:∀ b,Own nom X b→X b:=fun b h=>h.elim id (fun ⟨l,hl⟩=>by cases hl)
 have ha0:QK nom X w args cargs:=by
  refine Qbq hh (fun c v _ h=>CV.rep_less (fun b hb=>.inl (hown b hb)) c v h) ?_ hf cargs ha
  intro l b o hl ho hlive hb
  exact hh.own l b o hl ho hlive (hown b hb)
 have hh0:HRel nom X [] w:=⟨hh.xb,fun l b hl=>(by cases hl),fun l b o hl=>(by cases hl),fun l l' b o hl=>(by cases hl),fun l o ho=>(by simp at ho),hh.gl.less fun b hb=>.inl (hown b hb)⟩
 refine (h.2 nom X w cargs ha0 hh0).mono ?_
 rintro e w' ⟨c,r,σ',m',rfl,hQ,hv,hh',hst,_⟩
 obtain ⟨v,hf,hR⟩:=hq r σ' hQ
 have hsame:∀ b,b<w.heap.size→w'.heap[b]? = w.heap[b]? := fun b hb=>hst.fr b hb (.inr fun l hl=>by cases hl)
 refine ⟨c,v,σ,m,rfl,⟨hR,rfl⟩,?_,hh.below hst.size hsame,?_,QG _⟩
 ·refine RX hh' (fun c v hp h=>Qa2 c v hp h) ?_ hf c hv
  intro l b o hl ho hlive hb
  have hbs:b<w.heap.size:=by
   rcases hb with hb | ⟨l',hl'⟩
   ·exact hh.xb b hb
   ·exact (hh.dom l' b hl').2
  rcases hst.new l b hl with ⟨l',hl'⟩ | hge
  ·cases hl'
  ·omega
 ·exact ⟨fun _ _=>rfl,fun l b hl=>.inl ⟨l,hl⟩,hst.size,fun b hb _=>hsame b hb,hst.shp,hst.os,hst.tape,hst.output,hst.drawn⟩
theorem PC.call {P:Program} {f:FuncId} {args args':List AV} {v:AV} {σ:List AObj} {K:AV→List AObj→Prop} (h:PC P f args v) (hf:KS anyC σ args' args) (hk:K v σ):AC P f args' σ K :=
 (AC.pureN (R:=fun r=>r=v) h.ac (fun r τ hr=>⟨v,hr,rfl⟩) hf).mono fun r τ ⟨h1,h2⟩=>by rw[h1,h2];exact hk
theorem PA.call {P:Program} {f:FuncId} {args:List AV} {v:AV} {σ:List AObj} {K:AV→List AObj→Prop} (h:PA P f args v) (hk:K v σ):AC P f args σ K :=
 (AC.pure (R:=fun r=>r=v) h.al h.ac (fun r τ hr=>⟨v,hr,rfl⟩) σ).mono fun r τ ⟨h1,h2⟩=>by rw[h1,h2];exact hk
theorem Weak.freeze {fx:Fx} {s:St} {vals':List AV} (h0:fx.n0=0) (hv:∀ i,FrzV anyC s.heap (s.vals.getD i .undef) (vals'.getD i .undef)):Weak fx s ⟨vals',[]⟩:=by
 intro m X en ac w hs
 have ho:∀ b,Own nom X b→Own m X b:=fun b hb=>hb.elim .inl (fun ⟨l,hl⟩=>by cases hl)
 refine ⟨nom,⟨hs.size,?_,?_,?_,by simp[h0],hs.entry⟩,?_⟩
 ·intro i t hi
  refine RX hs.heap (fun c v _ h=>CV.rep_less ho c v h) ?_ (hv i) _ (hs.vars i t hi)
  rintro l b o hl hlo hlive (hb | ⟨l',hl'⟩)
  ·exact hs.heap.own l b o hl hlo hlive hb
  ·cases hl'
 ·obtain ⟨bs,h1,h2,h3⟩:=hs.defs
  exact ⟨bs,h1,h2,fun b hb=>let ⟨g1,g2,g3,g4⟩:=h3 b hb;⟨g1,g2,g3,fun hx=>g4 (ho b hx)⟩⟩
 ·exact ⟨hs.heap.xb,fun l b hl=>(by cases hl),fun l b o hl=>(by cases hl),fun l l' b o hl=>(by cases hl),fun l o ho=>(by simp at ho),hs.heap.gl.less ho⟩
 ·rw[h0]
  exact ⟨fun l hl=>absurd hl (W5 _),fun l b hl=>(by cases hl),QG _,fun _ _ _=>rfl,fun b c e hb=>⟨c,hb,rfl⟩,rfl,rfl,rfl,fun _=>QG _⟩
abbrev vs3:List Nat:=[0,1,2,3,4,5,6,7,8,9,10,11,12,13,14,15,16,17,18,19,20,21,22,23,32,40,46,68,73,84,95,124,130,172,174,178,211,230,236,252]
def ic3l0:IC:=(.seq (.seq (.region [jv 22,jF 5 2,jG 1 1,jl 2,je 3,jw 38 (.bin .lss .int) [.t 0,.t 4]])
 (.cond 38 .skip
 (.exit 10)))
 (.seq (.block 11 (.seq (.region [jF 5 2,jG 1 0,jl 1,jv 22,ja 7 2 3,jq (.loadN 7) [.t 4],jw 23 (.alloc [(.cv (.int .i64 0)),(.cv (.int .i64 0)),(.cv (.int .i64 0)),(.cv (.int .i64 0)),(.cv (.int .i64 0)),(.cv (.int .i64 0)),(.cv (.int .i64 0))]) [],jq (.store 7) [.v 23,.t 5]])
 (.seq (.dr [[],[],[1],[0,2],[3],[],[5],[4,6]] [jv 16,jF 0 23,jl 1,ja 1 0 2,jl 3,jF 1 23,jl 5,jw 39 (.bin .eql .int) [.t 4,.t 6]])
 (.cond 39 (.seq (.region [jw 4 .mv [jB false]])
 .ret)
 .skip))))
 (.region [jv 22,jq (.bin .add .int) [.t 0,jn 1],jm 22 1])))
def ic3l1:IC:=(.seq (.seq (.region [jv 21,jv 18,je 1,jw 35 (.bin .lss .int) [.t 0,.t 2]])
 (.cond 35 .skip
 (.exit 8)))
 (.seq (.block 9 (.seq (.seq (.dr [[],[],[0,1],[2],[3],[4],[5],[5],[6,7,5],[8,5],[5],[10,5],[11,5],[9,12,5],[5,13],[14,5],[15],[16,15],[17,15,15],[18],[18],[19,20,18],[21,18],[18],[18],[24,18],[23,25,18],[26,18],[22,27,18],[18,28,15],[15,29]] [jv 18,jv 21,ja 1 0 1,jl 2,jq (.bin .lss .int) [.t 3,jn 0],jt 4,jh 5 false 18,jh 5 false 21,jg 5 false (.iaS 1) [.t 6,.t 7],ji 5 false 8,jg 5 false (.fadd 1) [.v 5],ji 5 false 10,jg 5 false (.len false) [.t 11],jg 5 false (.bin .geq .int) [.t 9,.t 12],jq .pick [.t 5,jB true,.t 13],jt 14,jh 15 false 21,jg 15 false (.bin .gtr .int) [.t 16,jn 0],jg 15 false .mv [.t 17],jh 18 true 18,jh 18 true 21,jg 18 true (.iaS 1) [.t 19,.t 20],ji 18 true 21,jh 18 true 18,jh 18 true 21,jg 18 true (.bin .sub .int) [.t 24,jn 1],jg 18 true (.iaS 1) [.t 23,.t 25],ji 18 true 26,jg 18 true (.bin .leq .int) [.t 22,.t 27],jg 15 false .pick [.t 18,.t 28,jB false],jw 36 .pick [.t 15,jB true,.t 29]])
 (.cond 36 (.seq (.region [jw 4 .mv [jB false]])
 .ret)
 .skip))
 (.region [jv 20,jv 18,jv 21,ja 1 1 2,jl 3,jk 8 [.t 4],jq (.bin .add .int) [.t 0,.t 5],jm 20 6])))
 (.region [jv 21,jq (.bin .add .int) [.t 0,jn 1],jm 21 1])))
def ic3l2:IC:=(.seq (.seq (.region [jv 13,jF 5 2,jG 1 1,jl 2,je 3,jw 29 (.bin .lss .int) [.t 0,.t 4]])
 (.cond 29 .skip
 (.exit 6)))
 (.seq (.block 7 (.seq (.region [jF 5 2,jG 1 0,jl 1,jv 13,ja 7 2 3,jG 1 4,jl 5,jv 11,jw 30 (.bin .eql .int) [.t 6,.t 7]])
 (.cond 30 (.dr [[],[0],[1],[],[3],[4],[],[5,6],[7],[8],[2,9],[0,1,2,3,4,5,6,7,8,9,10],[11,0,1,2,3,4,5,6,7,8,9,10],[12,10,10,0,1,2,3,4,5,6,7,8,9,10]] [jF 5 12,jG 1 0,jl 1,jF 5 2,jG 1 3,jl 4,jv 13,ja 7 5 6,jq (.loadN 7) [.t 7],jq (.bslice 7 1 [(.cv (.int .i64 0)),(.cv (.int .i64 0)),(.cv (.int .i64 0)),(.cv (.int .i64 0)),(.cv (.int .i64 0)),(.cv (.int .i64 0)),(.cv (.int .i64 0))] [(0,7)]) [.t 8],jq (.append 7 56) [.t 2,.t 9],jF 5 12,jG 1 11,jq (.store 1) [.t 12,.t 10]])
 .skip)))
 (.region [jv 13,jq (.bin .add .int) [.t 0,jn 1],jm 13 1])))
def ic3l3:IC:=(.seq (.seq (.region [jv 11,jv 6,jw 28 (.bin .lss .int) [.t 0,.t 1]])
 (.cond 28 .skip
 (.exit 4)))
 (.seq (.block 5 (.seq (.region [jN 7 2,jw 12 (.alloc [(.cv .nils),(.cv .nils),(.cv .nils),(.cv .nils),(.cv .nils),(.cv .nils),(.cv .nils)]) [],jq (.store 7) [.v 12,.t 0]])
 (.seq (.region [jF 5 12,jG 1 0,jq (.store 1) [.t 1,jS]])
 (.seq (.seq (.region [jz 13 0])
 (.block 6 (.loop ic3l2)))
 (.seq (.region [jN 7 12,jk 7 [.t 0],jt 1,jx 0 2,jx 1 2,jw 14 (.alloc [(.cv .nils),(.cv .nils),(.cv .nils)]) [],jq (.store 3) [.v 14,.t 3],jm 15 4])
 (.seq (.seq (.region [jv 15,jq (.bin .neq .int) [.t 0,jn 0],jt 1,jg 2 false (.fadd 0) [.v 14],ji 2 false 3,jg 2 false (.len false) [.t 4],jg 2 false (.fadd 2) [.v 2],ji 2 false 6,jg 2 false (.len false) [.t 7],jg 2 false (.bin .neq .int) [.t 5,.t 8],jw 31 .pick [.t 2,jB true,.t 9]])
 (.cond 31 (.seq (.region [jw 4 .mv [jB false]])
 .ret)
 .skip))
 (.seq (.region [jF 0 14,jl 0,jv 9,ja 1 1 2,jl 3,jw 32 (.bin .gtr .int) [.t 4,jn 0]])
 (.cond 32 (.region [jv 10,jv 11,jk 8 [.t 1],jq (.bin .add .int) [.t 0,.t 2],jm 10 3])
 .skip))))))))
 (.region [jv 11,jq (.bin .add .int) [.t 0,jn 1],jm 11 1])))
def ic3l4:IC:=(.seq (.seq (.region [jv 9,jF 2 2,jl 1,je 2,jw 27 (.bin .lss .int) [.t 0,.t 3]])
 (.cond 27 .skip
 (.exit 2)))
 (.seq (.block 3 (.seq (.region [jz 10 0])
 (.seq (.seq (.region [jz 11 0])
 (.block 4 (.loop ic3l3)))
 (.region [jF 1 5,jl 0,jv 10,jq (.bslice 1 1 [(.cv (.int .i64 0))] [(0,1)]) [.t 2],jq (.append 1 8) [.t 1,.t 3],jF 1 5,jq (.store 1) [.t 5,.t 4]]))))
 (.region [jv 9,jq (.bin .add .int) [.t 0,jn 1],jm 9 1])))
def ic3l5:IC:=(.seq (.seq (.region [jv 7,jv 6,jw 25 (.bin .lss .int) [.t 0,.t 1]])
 (.cond 25 .skip
 (.exit 0)))
 (.seq (.block 1 (.seq (.region [jz 8 1])
 (.seq (.seq (.region [jF 0 3,jl 0,je 1,jw 26 (.bin .gtr .int) [.t 2,jn 0]])
 (.cond 26 (.dr [[],[0],[],[],[3],[4],[2,5],[1,6],[7],[8],[9],[10,0,1,2,3,4,5,6,7,8,9,10]] [jF 0 3,jl 0,jv 7,jF 0 3,jl 3,je 4,jq (.bin .rem .int) [.t 2,.t 5],ja 1 1 6,jl 7,jq (.conv .i64) [.t 8],jq (.bin .rem .int) [.t 9,jn 5],jm 8 10])
 .skip))
 (.region [jF 0 5,jl 0,jv 8,jq (.bslice 1 1 [(.cv (.int .i64 0))] [(0,1)]) [.t 2],jq (.append 1 8) [.t 1,.t 3],jF 0 5,jq (.store 1) [.t 5,.t 4]]))))
 (.region [jv 7,jq (.bin .add .int) [.t 0,jn 1],jm 7 1])))
def ic3:IC:=(.seq (.region [jb 2 0,jb 3 1,jw 4 .mv [jB false]])
 (.seq (.seq (.region [jN 7 2,jk 5 [.t 0],jq (.bin .neq .int) [.t 1,jn 0],jt 2,jg 3 false (.fadd 3) [.v 2],ji 3 false 4,jg 3 false (.len false) [.t 5],jg 3 false (.bin .eql .int) [.t 6,jn 0],jw 24 .pick [.t 3,jB true,.t 7]])
 (.cond 24 (.seq (.region [jk 6 [],jm 4 0])
 .ret)
 .skip))
 (.seq (.region [jw 5 (.alloc [(.cv .nils),(.cv .nils)]) []])
 (.seq (.region [jF 3 2,jl 0,je 1,jq .min2 [jn 6,.t 2],jm 6 3])
 (.seq (.seq (.region [jz 7 0])
 (.block 0 (.loop ic3l5)))
 (.seq (.seq (.region [jz 9 0])
 (.block 2 (.loop ic3l4)))
 (.seq (.region [jN 2 5,jF 1 3,jl 1,jq (.conv .i64) [.t 2],jq (.bin .rem .int) [.t 3,jn 2147483647],jk 9 [.t 0,.t 4],jt 5,jx 0 6,jx 1 6,jm 16 7,jm 17 8])
 (.seq (.region [jN 2 5,jk 10 [.t 0],jt 1,jx 0 2,jx 1 2,jm 18 3,jm 19 4])
 (.seq (.seq (.region [jv 19,jq (.bin .neq .int) [.t 0,jn 0],jt 1,jh 2 false 17,jg 2 false (.bin .neq .int) [.t 3,jn 0],jg 2 false .mv [.t 4],jh 5 true 17,jg 5 true (.bin .neq .int) [.t 6,jn 9],jg 2 false .pick [.t 5,.t 7,jB false],jq .pick [.t 2,jB true,.t 8],jt 9,jh 10 false 17,jg 10 false (.bin .eql .int) [.t 11,jn 0],jh 10 false 18,jg 10 false (.len false) [.t 13],jg 10 false (.bin .eql .int) [.t 14,jn 0],jg 10 false (.bin .neq .bool) [.t 12,.t 15],jw 33 .pick [.t 10,jB true,.t 16]])
 (.cond 33 (.seq (.region [jw 4 .mv [jB false]])
 .ret)
 .skip))
 (.seq (.seq (.region [jv 17,jw 34 (.bin .neq .int) [.t 0,jn 0]])
 (.cond 34 (.seq (.region [jz 20 0])
 (.seq (.seq (.region [jz 21 0])
 (.block 8 (.loop ic3l1)))
 (.seq (.region [jN 2 5,jv 20,jk 11 [.t 0,.t 1],jt 2,jf 3 true 6 [],jq .pick [.t 3,.t 4,jB false],jm 4 5])
 .ret)))
 .skip))
 (.seq (.seq (.region [jv 16,je 0,jF 2 2,jl 2,je 3,jw 37 (.bin .neq .int) [.t 1,.t 4]])
 (.cond 37 (.seq (.region [jw 4 .mv [jB false]])
 .ret)
 .skip))
 (.seq (.seq (.region [jz 22 0])
 (.block 10 (.loop ic3l0)))
 (.seq (.region [jk 6 [],jm 4 0])
 .ret)))))))))))))
abbrev rs3:List RC:=[(.v 4)]
theorem fok3 (p:Bool):FnOk Tryz.prog 3 ⟨ic3,vs3,254,rs3,p⟩:=.mk2 Tryz.func3 (by kernel_rfl) (by kernel_rfl) (by kernel_rfl) (by kernel_rfl) (by kernel_rfl)
abbrev vs5:List Nat:=[0,1,2,5,6,7,16,25,37,67]
def ic5l0:IC:=(.seq (.seq (.region [jv 4,jF 5 1,jG 1 1,jl 2,je 3,jq (.bin .lss .int) [.t 0,.t 4],jt 5,jh 6 true 3,jg 6 true (.bin .eql .int) [.t 7,jn 0],jw 8 .pick [.t 6,.t 8,jB false]])
 (.cond 8 .skip
 (.exit 0)))
 (.seq (.block 1 (.seq (.region [jF 5 1,jG 1 0,jl 1,jv 4,ja 7 2 3,jq (.loadN 7) [.t 4],jw 5 (.alloc [(.cv (.int .i64 0)),(.cv (.int .i64 0)),(.cv (.int .i64 0)),(.cv (.int .i64 0)),(.cv (.int .i64 0)),(.cv (.int .i64 0)),(.cv (.int .i64 0))]) [],jq (.store 7) [.v 5,.t 5]])
 (.seq (.region [jF 0 5,jl 0,jF 2 1,jl 2,je 3,jq (.bin .geq .int) [.t 1,.t 4],jt 5,jg 6 false (.fadd 1) [.v 5],ji 6 false 7,jg 6 false (.fadd 3) [.v 1],ji 6 false 9,jg 6 false (.len false) [.t 10],jg 6 false (.bin .geq .int) [.t 8,.t 11],jq .pick [.t 6,jB true,.t 12],jt 13,jg 14 false (.fadd 2) [.v 5],ji 14 false 15,jg 14 false (.fadd 4) [.v 1],ji 14 false 17,jg 14 false (.len false) [.t 18],jg 14 false (.bin .geq .int) [.t 16,.t 19],jw 9 .pick [.t 14,jB true,.t 20]])
 (.cond 9 (.region [jz 3 4])
 .skip))))
 (.region [jv 4,jq (.bin .add .int) [.t 0,jn 1],jm 4 1])))
def ic5:IC:=(.seq (.region [jb 1 0,jz 2 0])
 (.seq (.region [jF 0 1,jq (.loadN 2) [.t 0],jk 22 [.t 1],jt 2,jx 0 3,jx 1 3,jx 2 3,jt 4,jt 5,jm 3 6])
 (.seq (.seq (.region [jv 3,jw 6 (.bin .eql .int) [.t 0,jn 0]])
 (.cond 6 (.region [jF 5 1,jq (.loadN 2) [.t 0],jk 23 [.t 1],jt 2,jx 0 3,jx 1 3,jx 2 3,jm 3 6])
 .skip))
 (.seq (.seq (.region [jv 3,jw 7 (.bin .eql .int) [.t 0,jn 0]])
 (.cond 7 (.region [jN 7 1,jk 24 [.t 0],jm 3 1])
 .skip))
 (.seq (.seq (.region [jz 4 0])
 (.block 0 (.loop ic5l0)))
 (.seq (.region [jv 3,jm 2 0])
 .ret))))))
abbrev rs5:List RC:=[(.v 2)]
theorem fok5 (p:Bool):FnOk Tryz.prog 5 ⟨ic5,vs5,69,rs5,p⟩:=.mk2 Tryz.func5 (by kernel_rfl) (by kernel_rfl) (by kernel_rfl) (by kernel_rfl) (by kernel_rfl)
abbrev vs7:List Nat:=[0,1,2,3,4,6,7,14,36,37,38,39]
def ic7l0:IC:=(.seq (.region [jw 11 (.bin .lss .int) [.v 10,.v 9]])
 (.seq (.cond 11 .skip
 (.exit 0))
 (.seq (.block 1 (.seq (.region [jq (.iaS 7) [.v 8,.v 10],jq (.loadN 7) [.t 0],jw 5 (.alloc [(.cv (.int .i64 0)),(.cv (.int .i64 0)),(.cv (.int .i64 0)),(.cv (.int .i64 0)),(.cv (.int .i64 0)),(.cv (.int .i64 0)),(.cv (.int .i64 0))]) [],jq (.store 7) [.v 5,.t 1]])
 (.seq (.region [jF 4 5,jl 0,jF 3 5,jl 2,jq (.bin .sub .int) [.t 1,.t 3],jm 6 4])
 (.seq (.region [jF 0 2,jl 0,jF 0 5,jl 2,ja 1 1 3,jl 4,jv 6,jq (.bin .add .int) [.t 5,.t 6],ja 1 1 3,jq (.store 1) [.t 8,.t 7]])
 (.seq (.region [jF 1 2,jl 0,jF 1 5,jl 2,ja 1 1 3,jl 4,jv 6,jq (.bin .add .int) [.t 5,.t 6],ja 1 1 3,jq (.store 1) [.t 8,.t 7]])
 (.region [jF 2 2,jl 0,jF 2 5,jl 2,ja 1 1 3,jl 4,jv 6,jq (.bin .add .int) [.t 5,.t 6],ja 1 1 3,jq (.store 1) [.t 8,.t 7]]))))))
 (.region [jq (.bin .add .int) [.v 10,jn 1],jm 10 0]))))
def ic7:IC:=(.seq (.region [jb 1 0,jw 2 (.alloc [(.cv .nils),(.cv .nils),(.cv .nils)]) [],jz 3 0])
 (.seq (.region [jN 7 1,jk 32 [.t 0],jt 1,jx 0 2,jx 1 2,jw 4 (.alloc [(.cv .nils),(.cv .nils),(.cv .nils),(.cv .nils),(.cv .nils),(.cv .nils),(.cv .nils),(.cv .nils),(.cv .nils)]) [],jq (.store 9) [.v 4,.t 3],jm 3 4])
 (.seq (.seq (.region [jv 3,jw 7 (.bin .neq .int) [.t 0,jn 0]])
 (.cond 7 (.seq (.region [jN 3 2,jv 3,jq (.store 3) [.v 2,.t 0],jm 3 1])
 .ret)
 .skip))
 (.seq (.dr [[],[0],[1],[2],[3,3],[],[5],[6],[7],[8,8],[],[10],[11],[12],[13,13],[4,9,14],[15,0,1,2,3,4,5,6,7,8,9,10,11,12,13,14,15]] [jF 0 4,jG 2 0,jl 1,je 2,jq (.mkslice 1 8 [(.cv (.int .i64 0))]) [.t 3,.t 3],jF 0 4,jG 3 5,jl 6,je 7,jq (.mkslice 1 8 [(.cv (.int .i64 0))]) [.t 8,.t 8],jF 0 4,jG 4 10,jl 11,je 12,jq (.mkslice 1 8 [(.cv (.int .i64 0))]) [.t 13,.t 13],jq (.build [(.cv .nils),(.cv .nils),(.cv .nils)] [(0,1),(1,1),(2,1)]) [.t 4,.t 9,.t 14],jq (.store 3) [.v 2,.t 15]])
 (.seq (.seq (.region [jF 7 4,jG 0 0,jG 1 1,jw 8 .load1 [.t 2],jw 9 (.len false) [.v 8],jz 10 0])
 (.block 0 (.loop ic7l0)))
 (.seq (.region [jN 3 2,jq (.store 3) [.v 2,.t 0],jz 3 0])
 .ret))))))
abbrev rs7:List RC:=[(.lN 2 3),(.v 3)]
theorem fok7 (p:Bool):FnOk Tryz.prog 7 ⟨ic7,vs7,76,rs7,p⟩:=.mk2 Tryz.func7 (by kernel_rfl) (by kernel_rfl) (by kernel_rfl) (by kernel_rfl) (by kernel_rfl)
abbrev vs8:List Nat:=[0,2,3,4,7]
def ic8l0:IC:=(.seq (.seq (.region [jv 3,jv 0,jw 4 (.bin .lss .int) [.t 0,.t 1]])
 (.cond 4 .skip
 (.exit 0)))
 (.seq (.block 1 (.region [jv 2,jq (.bin .mul .int) [jn 2,.t 0],jm 2 1]))
 (.region [jv 3,jq (.bin .add .int) [.t 0,jn 1],jm 3 1])))
def ic8:IC:=(.seq (.region [jz 1 0])
 (.seq (.region [jz 2 1])
 (.seq (.seq (.region [jz 3 0])
 (.block 0 (.loop ic8l0)))
 (.seq (.region [jv 2,jm 1 0])
 .ret))))
abbrev rs8:List RC:=[(.v 1)]
theorem fok8 (p:Bool):FnOk Tryz.prog 8 ⟨ic8,vs8,13,rs8,p⟩:=.mk2 Tryz.func8 (by kernel_rfl) (by kernel_rfl) (by kernel_rfl) (by kernel_rfl) (by kernel_rfl)
abbrev vs11:List Nat:=[0,1,2,4,5,6,7,8,9,10,15,20,27,34,53]
def ic11l0:IC:=(.seq (.seq (.region [jv 9,jF 1 2,jl 1,je 2,jw 13 (.bin .lss .int) [.t 0,.t 3]])
 (.cond 13 .skip
 (.exit 4)))
 (.seq (.block 5 (.region [jv 8,jt 0,jh 1 false 1,jh 1 false 9,jf 1 false 45 [.t 2,.t 3],jg 1 false .mv [.t 4],jg 5 true (.fadd 1) [.v 2],ji 5 true 6,jh 5 true 9,jg 5 true (.iaS 1) [.t 7,.t 8],ji 5 true 9,jh 5 true 7,jf 5 true 45 [.t 10,.t 11],jg 5 true .not [.t 12],jg 1 false .pick [.t 5,.t 13,jB false],jq .pick [.t 1,jB true,.t 14],jm 8 15]))
 (.region [jv 9,jq (.bin .add .int) [.t 0,jn 1],jm 9 1])))
def ic11l1:IC:=(.seq (.seq (.region [jv 7,jF 0 2,jl 1,je 2,jw 12 (.bin .lss .int) [.t 0,.t 3]])
 (.cond 12 .skip
 (.exit 2)))
 (.seq (.block 3 (.seq (.region [jw 8 .mv [jB false]])
 (.seq (.seq (.region [jz 9 0])
 (.block 4 (.loop ic11l0)))
 (.seq (.region [jw 14 .mv [.v 8]])
 (.cond 14 (.region [jv 5,jF 0 2,jl 1,jv 7,ja 1 2 3,jl 4,jq (.bin .add .int) [.t 0,.t 5],jm 5 6])
 .skip)))))
 (.region [jv 7,jq (.bin .add .int) [.t 0,jn 1],jm 7 1])))
def ic11l2:IC:=(.seq (.seq (.region [jv 6,jF 1 2,jl 1,je 2,jw 10 (.bin .lss .int) [.t 0,.t 3]])
 (.cond 10 .skip
 (.exit 0)))
 (.seq (.block 1 (.seq (.region [jv 1,jv 6,jd 11 45 [.t 0,.t 1]])
 (.cond 11 (.region [jv 4,jq (.bin .add .int) [.t 0,jn 1],jm 4 1])
 .skip)))
 (.region [jv 6,jq (.bin .add .int) [.t 0,jn 1],jm 6 1])))
def ic11:IC:=(.seq (.region [jb 2 0,jw 3 .mv [jB false]])
 (.seq (.region [jz 4 0,jz 5 0])
 (.seq (.seq (.region [jz 6 0])
 (.block 0 (.loop ic11l2)))
 (.seq (.seq (.region [jz 7 0])
 (.block 2 (.loop ic11l1)))
 (.seq (.region [jv 5,jv 4,jq (.bin .lss .int) [.t 0,.t 1],jm 3 2])
 .ret)))))
abbrev rs11:List RC:=[(.v 3)]
theorem fok11 (p:Bool):FnOk Tryz.prog 11 ⟨ic11,vs11,64,rs11,p⟩:=.mk2 Tryz.func11 (by kernel_rfl) (by kernel_rfl) (by kernel_rfl) (by kernel_rfl) (by kernel_rfl)
abbrev vs22:List Nat:=[0,1,2,3,4,5,6,7,8,9,20,25,32,39,48,60,66,77,93]
def ic22l0:IC:=(.seq (.seq (.region [jv 9,jF 0 1,jl 1,jv 8,ja 5 2 3,jG 1 4,jl 5,je 6,jw 17 (.bin .lss .int) [.t 0,.t 7]])
 (.cond 17 .skip
 (.exit 6)))
 (.seq (.block 7 (.seq (.dr [[],[],[1],[],[2,3],[4],[5],[],[6,7],[8],[0,9],[],[10,11],[12]] [jN 2 1,jF 0 1,jl 1,jv 8,ja 5 2 3,jG 1 4,jl 5,jv 9,ja 1 6 7,jl 8,jk 67 [.t 0,.t 9],jv 8,ja 1 10 11,jw 18 .load1 [.t 12]])
 (.cond 18 (.seq (.region [jv 8,jz 2 4,jm 3 0,jz 4 9])
 .ret)
 .skip)))
 (.region [jv 9,jq (.bin .add .int) [.t 0,jn 1],jm 9 1])))
def ic22l1:IC:=(.seq (.seq (.region [jv 8,jF 0 1,jl 1,je 2,jw 16 (.bin .lss .int) [.t 0,.t 3]])
 (.cond 16 .skip
 (.exit 4)))
 (.seq (.block 5 (.seq (.region [jz 9 0])
 (.block 6 (.loop ic22l0))))
 (.region [jv 8,jq (.bin .add .int) [.t 0,jn 1],jm 8 1])))
def ic22l2:IC:=(.seq (.seq (.region [jv 7,jF 1 1,jl 1,je 2,jw 13 (.bin .lss .int) [.t 0,.t 3]])
 (.cond 13 .skip
 (.exit 2)))
 (.seq (.block 3 (.seq (.seq (.region [jF 1 1,jl 0,jv 7,ja 1 1 2,jl 3,jk 65 [.t 4],jw 14 .not [.t 5]])
 (.cond 14 (.seq (.region [jv 7,jz 2 3,jm 3 0,jz 4 6])
 .ret)
 .skip))
 (.seq (.dr [[],[0],[],[1,2],[],[4],[],[5,6],[7],[3,8],[9]] [jF 1 1,jl 0,jv 7,jq (.slS 1 false true) [.t 1,.t 2],jF 1 1,jl 4,jv 7,ja 1 5 6,jl 7,jk 66 [.t 3,.t 8],jw 15 (.bin .geq .int) [.t 9,jn 0]])
 (.cond 15 (.seq (.region [jv 7,jz 2 3,jm 3 0,jz 4 5])
 .ret)
 .skip))))
 (.region [jv 7,jq (.bin .add .int) [.t 0,jn 1],jm 7 1])))
def ic22l3:IC:=(.seq (.seq (.region [jv 5,jF 0 1,jl 1,je 2,jw 11 (.bin .lss .int) [.t 0,.t 3]])
 (.cond 11 .skip
 (.exit 0)))
 (.seq (.block 1 (.seq (.region [jN 2 1,jv 5,jk 64 [.t 0,.t 1],jm 6 2])
 (.seq (.region [jv 6,jw 12 (.bin .neq .int) [.t 0,jn 0]])
 (.cond 12 (.seq (.region [jv 5,jv 6,jz 2 2,jm 3 0,jm 4 1])
 .ret)
 .skip))))
 (.region [jv 5,jq (.bin .add .int) [.t 0,jn 1],jm 5 1])))
def ic22:IC:=(.seq (.region [jb 1 0,jz 2 0,jz 3 0,jz 4 0])
 (.seq (.seq (.region [jF 0 1,jl 0,je 1,jk 63 [.t 2,jn 1,jn 12],jq .not [.t 3],jt 4,jg 5 false (.fadd 1) [.v 1],ji 5 false 6,jg 5 false (.len false) [.t 7],jg 5 false (.bin .gtr .int) [.t 8,jn 8],jw 10 .pick [.t 5,jB true,.t 9]])
 (.cond 10 (.seq (.region [jz 2 1,jz 3 0,jz 4 3])
 .ret)
 .skip))
 (.seq (.seq (.region [jz 5 0])
 (.block 0 (.loop ic22l3)))
 (.seq (.seq (.region [jz 7 0])
 (.block 2 (.loop ic22l2)))
 (.seq (.seq (.region [jz 8 0])
 (.block 4 (.loop ic22l1)))
 (.seq (.region [jz 2 0,jz 3 0,jz 4 0])
 .ret))))))
abbrev rs22:List RC:=[(.v 2),(.v 3),(.v 4)]
theorem fok22 (p:Bool):FnOk Tryz.prog 22 ⟨ic22,vs22,95,rs22,p⟩:=.mk2 Tryz.func22 (by kernel_rfl) (by kernel_rfl) (by kernel_rfl) (by kernel_rfl) (by kernel_rfl)
abbrev vs23:List Nat:=[0,1,2,3,4,5,6,7,8,19,24,31,38,49]
def ic23l0:IC:=(.seq (.seq (.region [jv 7,jF 1 1,jl 1,je 2,jw 12 (.bin .lss .int) [.t 0,.t 3]])
 (.cond 12 .skip
 (.exit 2)))
 (.seq (.block 3 (.seq (.dr [[],[],[1],[],[2,3],[4],[0,5],[6,6,0,1,2,3,4,5,6]] [jN 2 1,jF 1 1,jl 1,jv 7,ja 7 2 3,jq (.loadN 7) [.t 4],jk 70 [.t 0,.t 5],jm 8 6])
 (.seq (.region [jv 8,jw 13 (.bin .neq .int) [.t 0,jn 0]])
 (.cond 13 (.seq (.region [jv 7,jv 8,jz 2 3,jm 3 0,jm 4 1])
 .ret)
 .skip))))
 (.region [jv 7,jq (.bin .add .int) [.t 0,jn 1],jm 7 1])))
def ic23l1:IC:=(.seq (.seq (.region [jv 5,jF 0 1,jl 1,je 2,jw 10 (.bin .lss .int) [.t 0,.t 3]])
 (.cond 10 .skip
 (.exit 0)))
 (.seq (.block 1 (.seq (.region [jN 2 1,jv 5,jk 69 [.t 0,.t 1],jm 6 2])
 (.seq (.region [jv 6,jw 11 (.bin .neq .int) [.t 0,jn 0]])
 (.cond 11 (.seq (.region [jv 5,jv 6,jz 2 2,jm 3 0,jm 4 1])
 .ret)
 .skip))))
 (.region [jv 5,jq (.bin .add .int) [.t 0,jn 1],jm 5 1])))
def ic23:IC:=(.seq (.region [jb 1 0,jz 2 0,jz 3 0,jz 4 0])
 (.seq (.seq (.region [jF 0 1,jl 0,je 1,jk 68 [.t 2,jn 1,jn 16],jq .not [.t 3],jt 4,jg 5 false (.fadd 1) [.v 1],ji 5 false 6,jg 5 false (.len false) [.t 7],jg 5 false (.bin .gtr .int) [.t 8,jn 12],jw 9 .pick [.t 5,jB true,.t 9]])
 (.cond 9 (.seq (.region [jz 2 1,jz 3 0,jz 4 3])
 .ret)
 .skip))
 (.seq (.seq (.region [jz 5 0])
 (.block 0 (.loop ic23l1)))
 (.seq (.seq (.region [jz 7 0])
 (.block 2 (.loop ic23l0)))
 (.seq (.region [jz 2 0,jz 3 0,jz 4 0])
 .ret)))))
abbrev rs23:List RC:=[(.v 2),(.v 3),(.v 4)]
theorem fok23 (p:Bool):FnOk Tryz.prog 23 ⟨ic23,vs23,52,rs23,p⟩:=.mk2 Tryz.func23 (by kernel_rfl) (by kernel_rfl) (by kernel_rfl) (by kernel_rfl) (by kernel_rfl)
abbrev vs24:List Nat:=[0,1,2,3,4,5,6,7,8,24,34,44,49,63,74,79,84,95,109]
def ic24l0:IC:=(.seq (.seq (.region [jv 8,jF 4 1,jl 1,je 2,jw 16 (.bin .lss .int) [.t 0,.t 3]])
 (.cond 16 .skip
 (.exit 4)))
 (.seq (.block 5 (.seq (.seq (.region [jF 4 1,jl 0,jv 8,ja 2 1 2,jG 0 3,jl 4,jv 3,jk 68 [.t 5,jn 0,.t 6],jw 17 .not [.t 7]])
 (.cond 17 (.seq (.region [jz 2 4])
 .ret)
 .skip))
 (.seq (.dr [[],[0],[],[1,2],[3],[4],[],[6],[7],[8],[9],[10],[5,11,10],[12]] [jF 4 1,jl 0,jv 8,ja 2 1 2,jG 1 3,jl 4,jF 0 1,jG 1 6,jl 7,je 8,jk 72 [.t 9],jq (.bin .sub .int) [.t 10,jn 1],jk 68 [.t 5,jn 0,.t 11],jw 18 .not [.t 12]])
 (.cond 18 (.seq (.region [jz 2 7])
 .ret)
 .skip))))
 (.region [jv 8,jq (.bin .add .int) [.t 0,jn 1],jm 8 1])))
def ic24l1:IC:=(.seq (.seq (.region [jv 5,jF 3 1,jl 1,je 2,jw 12 (.bin .lss .int) [.t 0,.t 3]])
 (.cond 12 .skip
 (.exit 2)))
 (.seq (.block 3 (.seq (.region [jF 3 1,jl 0,jv 5,ja 3 1 2,jq (.loadN 3) [.t 3],jw 6 (.alloc [(.cv .nils),(.cv (.int .i64 0)),(.cv (.int .i64 0))]) [],jq (.store 3) [.v 6,.t 4]])
 (.seq (.region [jF 0 1,jq (.loadN 2) [.t 0],jF 0 6,jl 2,jk 71 [.t 1,.t 3],jm 7 4])
 (.seq (.seq (.region [jv 7,jw 13 (.bin .neq .int) [.t 0,jn 0]])
 (.cond 13 (.seq (.region [jv 7,jm 2 0])
 .ret)
 .skip))
 (.seq (.seq (.region [jF 1 6,jl 0,jk 68 [.t 1,jn 0,jn 1440],jq .not [.t 2],jt 3,jg 4 false (.fadd 2) [.v 6],ji 4 false 5,jf 4 false 68 [.t 6,jn 0,jn 1440],jg 4 false .not [.t 7],jw 14 .pick [.t 4,jB true,.t 8]])
 (.cond 14 (.seq (.region [jz 2 7])
 .ret)
 .skip))
 (.seq (.region [jF 1 6,jl 0,jF 2 6,jl 2,jw 15 (.bin .gtr .int) [.t 1,.t 3]])
 (.cond 15 (.seq (.region [jz 2 2])
 .ret)
 .skip)))))))
 (.region [jv 5,jq (.bin .add .int) [.t 0,jn 1],jm 5 1])))
def ic24l2:IC:=(.seq (.seq (.region [jv 4,jF 2 1,jl 1,je 2,jw 10 (.bin .lss .int) [.t 0,.t 3]])
 (.cond 10 .skip
 (.exit 0)))
 (.seq (.block 1 (.seq (.region [jF 2 1,jl 0,jv 4,ja 1 1 2,jl 3,jv 3,jk 68 [.t 4,jn 0,.t 5],jw 11 .not [.t 6]])
 (.cond 11 (.seq (.region [jz 2 4])
 .ret)
 .skip)))
 (.region [jv 4,jq (.bin .add .int) [.t 0,jn 1],jm 4 1])))
def ic24:IC:=(.seq (.region [jb 1 0,jz 2 0])
 (.seq (.seq (.region [jF 2 1,jl 0,je 1,jq (.bin .gtr .int) [.t 2,jn 8],jt 3,jg 4 false (.fadd 3) [.v 1],ji 4 false 5,jg 4 false (.len false) [.t 6],jg 4 false (.bin .gtr .int) [.t 7,jn 8],jq .pick [.t 4,jB true,.t 8],jt 9,jg 10 false (.fadd 4) [.v 1],ji 10 false 11,jg 10 false (.len false) [.t 12],jg 10 false (.bin .gtr .int) [.t 13,jn 8],jw 9 .pick [.t 10,jB true,.t 14]])
 (.cond 9 (.seq (.region [jz 2 3])
 .ret)
 .skip))
 (.seq (.region [jF 0 1,jG 0 0,jl 1,je 2,jq (.bin .sub .int) [.t 3,jn 1],jm 3 4])
 (.seq (.seq (.region [jz 4 0])
 (.block 0 (.loop ic24l2)))
 (.seq (.seq (.region [jz 5 0])
 (.block 2 (.loop ic24l1)))
 (.seq (.seq (.region [jz 8 0])
 (.block 4 (.loop ic24l0)))
 (.seq (.region [jz 2 0])
 .ret)))))))
abbrev rs24:List RC:=[(.v 2)]
theorem fok24 (p:Bool):FnOk Tryz.prog 24 ⟨ic24,vs24,110,rs24,p⟩:=.mk2 Tryz.func24 (by kernel_rfl) (by kernel_rfl) (by kernel_rfl) (by kernel_rfl) (by kernel_rfl)
abbrev vs32:List Nat:=[0,1,2,3,4,6,15,25,31,47,69,82,88,89,90,91,118]
def ic32l0:IC:=(.seq (.region [jw 15 (.bin .lss .int) [.v 14,.v 13]])
 (.seq (.cond 15 .skip
 (.exit 1))
 (.seq (.block 2 (.seq (.region [jq (.iaS 7) [.v 12,.v 14],jq (.loadN 7) [.t 0],jw 5 (.alloc [(.cv (.int .i64 0)),(.cv (.int .i64 0)),(.cv (.int .i64 0)),(.cv (.int .i64 0)),(.cv (.int .i64 0)),(.cv (.int .i64 0)),(.cv (.int .i64 0))]) [],jq (.store 7) [.v 5,.t 1]])
 (.seq (.region [jF 0 5,jl 0,jF 0 2,jG 2 2,jl 3,je 4,jq (.bin .geq .int) [.t 1,.t 5],jt 6,jg 7 false (.fadd 1) [.v 5],ji 7 false 8,jg 7 false (.fadd 0) [.v 2],jg 7 false (.fadd 3) [.t 10],ji 7 false 11,jg 7 false (.len false) [.t 12],jg 7 false (.bin .geq .int) [.t 9,.t 13],jq .pick [.t 7,jB true,.t 14],jt 15,jg 16 false (.fadd 2) [.v 5],ji 16 false 17,jg 16 false (.fadd 0) [.v 2],jg 16 false (.fadd 4) [.t 19],ji 16 false 20,jg 16 false (.len false) [.t 21],jg 16 false (.bin .geq .int) [.t 18,.t 22],jw 16 .pick [.t 16,jB true,.t 23]])
 (.cond 16 (.seq (.region [jN 9 2,jq (.store 9) [.v 2,.t 0],jz 3 4])
 .ret)
 .skip))))
 (.region [jq (.bin .add .int) [.v 14,jn 1],jm 14 0]))))
def ic32:IC:=(.seq (.region [jb 1 0,jw 2 (.alloc [(.cv .nils),(.cv .nils),(.cv .nils),(.cv .nils),(.cv .nils),(.cv .nils),(.cv .nils),(.cv .nils),(.cv .nils)]) [],jz 3 0])
 (.seq (.seq (.region [jF 0 1,jq (.loadN 2) [.t 0],jk 75 [.t 1],jt 2,jx 0 3,jx 1 3,jx 2 3,jm 3 6])
 (.seq (.region [jv 3,jw 6 (.bin .neq .int) [.t 0,jn 0]])
 (.cond 6 (.seq (.region [jN 9 2,jv 3,jq (.store 9) [.v 2,.t 0],jm 3 1])
 .ret)
 .skip)))
 (.seq (.region [jF 5 1,jq (.loadN 2) [.t 0],jk 76 [.t 1],jt 2,jx 0 3,jx 1 3,jw 4 (.alloc [(.cv .nils),(.cv .nils)]) [],jq (.store 2) [.v 4,.t 4],jm 3 5])
 (.seq (.seq (.region [jv 3,jw 7 (.bin .neq .int) [.t 0,jn 0]])
 (.cond 7 (.seq (.region [jN 9 2,jv 3,jq (.store 9) [.v 2,.t 0],jm 3 1])
 .ret)
 .skip))
 (.seq (.region [jN 7 1,jN 2 4,jq (.build [(.cv .nils),(.cv .nils),(.cv .nils),(.cv .nils),(.cv .nils),(.cv .nils),(.cv .nils),(.cv .nils),(.cv .nils)] [(0,7),(7,2)]) [.t 0,.t 1],jq (.store 9) [.v 2,.t 2]])
 (.seq (.block 0 (.seq (.region [jF 0 2,jG 2 0,jl 1,je 2,jF 0 2,jG 3 4,jl 5,je 6,jF 0 2,jG 4 8,jl 9,je 10,jq .max2 [.t 3,.t 7,.t 11],jq (.bin .gtr .int) [.t 12,jn 8],jm 8 13])
 (.cond 8 (.seq (.region [jN 9 2,jq (.store 9) [.v 2,.t 0],jz 3 3])
 .ret)
 (.seq (.region [jF 0 2,jG 0 0,jG 0 1,jl 2,je 3,jq (.bin .sub .int) [.t 4,jn 1],jF 0 2,jG 2 6,jl 7,jk 77 [jn 0,.t 5,.t 8],jm 9 9])
 (.cond 9 (.seq (.region [jN 9 2,jq (.store 9) [.v 2,.t 0],jz 3 4])
 .ret)
 .skip)))))
 (.seq (.seq (.region [jF 0 2,jG 3 0,jl 1,jN 9 2,jq (.mkbm 79) [.t 3],jk 78 [.t 2,.t 4],jt 5,jx 0 6,jx 1 6,jm 3 8])
 (.seq (.region [jv 3,jw 10 (.bin .neq .int) [.t 0,jn 0]])
 (.cond 10 (.seq (.region [jN 9 2,jv 3,jq (.store 9) [.v 2,.t 0],jm 3 1])
 .ret)
 .skip)))
 (.seq (.seq (.region [jF 0 2,jG 4 0,jl 1,jN 9 2,jq (.mkbm 81) [.t 3],jk 80 [.t 2,.t 4],jt 5,jx 0 6,jx 1 6,jm 3 8])
 (.seq (.region [jv 3,jw 11 (.bin .neq .int) [.t 0,jn 0]])
 (.cond 11 (.seq (.region [jN 9 2,jv 3,jq (.store 9) [.v 2,.t 0],jm 3 1])
 .ret)
 .skip)))
 (.seq (.seq (.region [jF 7 2,jG 0 0,jG 1 1,jw 12 .load1 [.t 2],jw 13 (.len false) [.v 12],jz 14 0])
 (.block 1 (.loop ic32l0)))
 (.seq (.region [jN 9 2,jq (.store 9) [.v 2,.t 0],jz 3 0])
 .ret))))))))))
abbrev rs32:List RC:=[(.lN 2 9),(.v 3)]
theorem fok32 (p:Bool):FnOk Tryz.prog 32 ⟨ic32,vs32,122,rs32,p⟩:=.mk2 Tryz.func32 (by kernel_rfl) (by kernel_rfl) (by kernel_rfl) (by kernel_rfl) (by kernel_rfl)
abbrev vs45:List Nat:=[0,1,4]
def ic45:IC:=(.seq (.region [jw 2 .mv [jB false]])
 (.seq (.region [jv 0,jv 1,jk 8 [.t 1],jq (.bin .quo .int) [.t 0,.t 2],jq (.bin .rem .int) [.t 3,jn 2],jq (.bin .eql .int) [.t 4,jn 1],jm 2 5])
 .ret))
abbrev rs45:List RC:=[(.v 2)]
theorem fok45 (p:Bool):FnOk Tryz.prog 45 ⟨ic45,vs45,11,rs45,p⟩:=.mk2 Tryz.func45 (by kernel_rfl) (by kernel_rfl) (by kernel_rfl) (by kernel_rfl) (by kernel_rfl)
abbrev vs63:List Nat:=[0,1,2,6]
def ic63:IC:=(.seq (.region [jw 3 .mv [jB false]])
 (.seq (.region [jv 0,jv 1,jq (.bin .geq .int) [.t 0,.t 1],jt 2,jh 3 true 0,jh 3 true 2,jg 3 true (.bin .leq .int) [.t 4,.t 5],jq .pick [.t 3,.t 6,jB false],jm 3 7])
 .ret))
abbrev rs63:List RC:=[(.v 3)]
theorem fok63 (p:Bool):FnOk Tryz.prog 63 ⟨ic63,vs63,15,rs63,p⟩:=.mk2 Tryz.func63 (by kernel_rfl) (by kernel_rfl) (by kernel_rfl) (by kernel_rfl) (by kernel_rfl)
abbrev vs64:List Nat:=[0,1,2,4,5,6,7,8,17,20,31,42,47,57,62,66,76]
def ic64l0:IC:=(.seq (.seq (.region [jv 7,jF 1 4,jl 1,je 2,jw 12 (.bin .lss .int) [.t 0,.t 3]])
 (.cond 12 .skip
 (.exit 2)))
 (.seq (.block 3 (.seq (.region [jF 1 4,jl 0,jv 7,ja 1 1 2,jl 3,jv 6,jk 63 [.t 4,jn 0,.t 5],jw 13 .not [.t 6]])
 (.cond 13 (.seq (.region [jz 3 4])
 .ret)
 .skip)))
 (.region [jv 7,jq (.bin .add .int) [.t 0,jn 1],jm 7 1])))
def ic64l1:IC:=(.seq (.seq (.region [jv 5,jv 1,jw 9 (.bin .lss .int) [.t 0,.t 1]])
 (.cond 9 .skip
 (.exit 0)))
 (.seq (.block 1 (.seq (.dr [[],[0],[],[1,2],[3],[4],[],[6],[5,7]] [jF 0 2,jl 0,jv 5,ja 5 1 2,jG 0 3,jl 4,jF 0 4,jl 6,jw 10 (.bin .eql .str) [.t 5,.t 7]])
 (.cond 10 (.seq (.region [jz 3 5])
 .ret)
 .skip)))
 (.region [jv 5,jq (.bin .add .int) [.t 0,jn 1],jm 5 1])))
def ic64:IC:=(.seq (.region [jb 2 0,jz 3 0])
 (.seq (.region [jF 0 2,jl 0,jv 1,ja 5 1 2,jq (.loadN 5) [.t 3],jw 4 (.alloc [(.cv (.str (bts []))),(.cv .nils),(.cv (.int .i64 0)),(.cv (.int .i64 0)),(.cv (.int .i64 0))]) [],jq (.store 5) [.v 4,.t 4]])
 (.seq (.seq (.region [jF 0 4,jl 0,jk 65 [.t 1],jw 8 .not [.t 2]])
 (.cond 8 (.seq (.region [jz 3 6])
 .ret)
 .skip))
 (.seq (.seq (.region [jz 5 0])
 (.block 0 (.loop ic64l1)))
 (.seq (.region [jF 0 2,jl 0,je 1,jq (.bin .sub .int) [.t 2,jn 1],jm 6 3])
 (.seq (.seq (.region [jF 1 4,jl 0,je 1,jF 0 2,jl 3,je 4,jw 11 (.bin .gtr .int) [.t 2,.t 5]])
 (.cond 11 (.seq (.region [jz 3 3])
 .ret)
 .skip))
 (.seq (.seq (.region [jz 7 0])
 (.block 2 (.loop ic64l0)))
 (.seq (.seq (.region [jF 2 4,jl 0,jv 6,jk 63 [.t 1,jn (-1),.t 2],jw 14 .not [.t 3]])
 (.cond 14 (.seq (.region [jz 3 4])
 .ret)
 .skip))
 (.seq (.seq (.region [jF 2 4,jl 0,jv 1,jw 15 (.bin .eql .int) [.t 1,.t 2]])
 (.cond 15 (.seq (.region [jz 3 2])
 .ret)
 .skip))
 (.seq (.seq (.region [jF 3 4,jl 0,jk 63 [.t 1,jn 0,jn 100],jq .not [.t 2],jt 3,jg 4 false (.fadd 4) [.v 4],ji 4 false 5,jf 4 false 63 [.t 6,jn 0,jn 100],jg 4 false .not [.t 7],jw 16 .pick [.t 4,jB true,.t 8]])
 (.cond 16 (.seq (.region [jz 3 7])
 .ret)
 .skip))
 (.seq (.region [jz 3 0])
 .ret)))))))))))
abbrev rs64:List RC:=[(.v 3)]
theorem fok64 (p:Bool):FnOk Tryz.prog 64 ⟨ic64,vs64,77,rs64,p⟩:=.mk2 Tryz.func64 (by kernel_rfl) (by kernel_rfl) (by kernel_rfl) (by kernel_rfl) (by kernel_rfl)
abbrev vs65:List Nat:=[0,2,3,14,18,34]
def ic65l0:IC:=(.seq (.seq (.region [jv 2,jv 0,jq (.len true) [.t 1],jw 4 (.bin .lss .int) [.t 0,.t 2]])
 (.cond 4 .skip
 (.exit 0)))
 (.seq (.block 1 (.seq (.region [jv 0,jv 2,jq .ixStr [.t 0,.t 1],jq (.conv .i64) [.t 2],jk 63 [.t 3,jn 97,jn 122],jq .not [.t 4],jt 5,jh 6 true 0,jh 6 true 2,jg 6 true .ixStr [.t 7,.t 8],jg 6 true (.conv .i64) [.t 9],jf 6 true 63 [.t 10,jn 48,jn 57],jg 6 true .not [.t 11],jw 5 .pick [.t 6,.t 12,jB false]])
 (.cond 5 (.seq (.region [jw 1 .mv [jB false]])
 .ret)
 .skip)))
 (.region [jv 2,jq (.bin .add .int) [.t 0,jn 1],jm 2 1])))
def ic65:IC:=(.seq (.region [jw 1 .mv [jB false]])
 (.seq (.seq (.region [jv 0,jq (.len true) [.t 0],jk 63 [.t 1,jn 1,jn 16],jq .not [.t 2],jt 3,jh 4 false 0,jg 4 false .ixStr [.t 5,jn 0],jg 4 false (.conv .i64) [.t 6],jf 4 false 63 [.t 7,jn 97,jn 122],jg 4 false .not [.t 8],jw 3 .pick [.t 4,jB true,.t 9]])
 (.cond 3 (.seq (.region [jw 1 .mv [jB false]])
 .ret)
 .skip))
 (.seq (.seq (.region [jz 2 0])
 (.block 0 (.loop ic65l0)))
 (.seq (.region [jw 1 .mv [jB true]])
 .ret))))
abbrev rs65:List RC:=[(.v 1)]
theorem fok65 (p:Bool):FnOk Tryz.prog 65 ⟨ic65,vs65,35,rs65,p⟩:=.mk2 Tryz.func65 (by kernel_rfl) (by kernel_rfl) (by kernel_rfl) (by kernel_rfl) (by kernel_rfl)
abbrev vs66:List Nat:=[0,1,4,5,9,17]
def ic66l0:IC:=(.seq (.seq (.region [jv 3,jv 0,je 1,jw 4 (.bin .lss .int) [.t 0,.t 2]])
 (.cond 4 .skip
 (.exit 0)))
 (.seq (.block 1 (.seq (.region [jv 0,jv 3,ja 1 0 1,jl 2,jv 1,jw 5 (.bin .eql .str) [.t 3,.t 4]])
 (.cond 5 (.seq (.region [jv 3,jm 2 0])
 .ret)
 .skip)))
 (.region [jv 3,jq (.bin .add .int) [.t 0,jn 1],jm 3 1])))
def ic66:IC:=(.seq (.region [jz 2 0])
 (.seq (.seq (.region [jz 3 0])
 (.block 0 (.loop ic66l0)))
 (.seq (.region [jz 2 (-1)])
 .ret)))
abbrev rs66:List RC:=[(.v 2)]
theorem fok66 (p:Bool):FnOk Tryz.prog 66 ⟨ic66,vs66,19,rs66,p⟩:=.mk2 Tryz.func66 (by kernel_rfl) (by kernel_rfl) (by kernel_rfl) (by kernel_rfl) (by kernel_rfl)
abbrev vs67:List Nat:=[0,1,2,4,5,6,7,8,20,27,44]
def ic67l0:IC:=(.seq (.seq (.region [jv 7,jF 0 2,jl 1,jv 6,ja 5 2 3,jG 1 4,jl 5,je 6,jq (.bin .lss .int) [.t 0,.t 7],jt 8,jh 9 true 4,jh 9 true 6,jg 9 true (.iaS 1) [.t 10,.t 11],ji 9 true 12,jw 10 .pick [.t 9,.t 13,jB false]])
 (.cond 10 .skip
 (.exit 4)))
 (.seq (.block 5 (.region [jv 4,jF 0 2,jl 1,jv 6,ja 5 2 3,jG 1 4,jl 5,jv 7,ja 1 6 7,jl 8,ja 1 0 9,jq (.store 1) [.t 10,jB true]]))
 (.region [jv 7,jq (.bin .add .int) [.t 0,jn 1],jm 7 1])))
def ic67l1:IC:=(.seq (.seq (.region [jv 6,jF 0 2,jl 1,je 2,jw 9 (.bin .lss .int) [.t 0,.t 3]])
 (.cond 9 .skip
 (.exit 2)))
 (.seq (.block 3 (.seq (.region [jz 7 0])
 (.block 4 (.loop ic67l0))))
 (.region [jv 6,jq (.bin .add .int) [.t 0,jn 1],jm 6 1])))
def ic67l2:IC:=(.seq (.seq (.region [jv 5,jF 0 2,jl 1,je 2,jw 8 (.bin .lss .int) [.t 0,.t 3]])
 (.cond 8 .skip
 (.exit 0)))
 (.seq (.block 1 (.seq (.region [jz 6 0])
 (.block 2 (.loop ic67l1))))
 (.region [jv 5,jq (.bin .add .int) [.t 0,jn 1],jm 5 1])))
def ic67:IC:=(.seq (.region [jb 2 0,jw 3 .mv [jS]])
 (.seq (.region [jF 0 2,jl 0,je 1,jq (.mkslice 1 1 [(.cv (.bool false))]) [.t 2,.t 2],jm 4 3])
 (.seq (.region [jv 4,jv 1,ja 1 0 1,jq (.store 1) [.t 2,jB true]])
 (.seq (.seq (.region [jz 5 0])
 (.block 0 (.loop ic67l2)))
 (.seq (.region [jv 4,jm 3 0])
 .ret)))))
abbrev rs67:List RC:=[(.v 3)]
theorem fok67 (p:Bool):FnOk Tryz.prog 67 ⟨ic67,vs67,59,rs67,p⟩:=.mk2 Tryz.func67 (by kernel_rfl) (by kernel_rfl) (by kernel_rfl) (by kernel_rfl) (by kernel_rfl)
abbrev vs68:List Nat:=[0,1,2,6]
def ic68:IC:=(.seq (.region [jw 3 .mv [jB false]])
 (.seq (.region [jv 0,jv 1,jq (.bin .geq .int) [.t 0,.t 1],jt 2,jh 3 true 0,jh 3 true 2,jg 3 true (.bin .leq .int) [.t 4,.t 5],jq .pick [.t 3,.t 6,jB false],jm 3 7])
 .ret))
abbrev rs68:List RC:=[(.v 3)]
theorem fok68 (p:Bool):FnOk Tryz.prog 68 ⟨ic68,vs68,15,rs68,p⟩:=.mk2 Tryz.func68 (by kernel_rfl) (by kernel_rfl) (by kernel_rfl) (by kernel_rfl) (by kernel_rfl)
abbrev vs69:List Nat:=[0,1,2,4,5,6,17,21,29,34]
def ic69l0:IC:=(.seq (.seq (.region [jv 5,jv 4,je 1,jw 7 (.bin .lss .int) [.t 0,.t 2]])
 (.cond 7 .skip
 (.exit 0)))
 (.seq (.block 1 (.seq (.region [jv 4,jv 5,ja 1 0 1,jl 2,jk 68 [.t 3,jn 0,jn 120],jw 8 .not [.t 4]])
 (.cond 8 (.seq (.region [jz 3 7])
 .ret)
 .skip)))
 (.region [jv 5,jq (.bin .add .int) [.t 0,jn 1],jm 5 1])))
def ic69:IC:=(.seq (.region [jb 2 0,jz 3 0])
 (.seq (.region [jF 0 2,jl 0,jv 1,ja 1 1 2,jl 3,jm 4 4])
 (.seq (.seq (.region [jv 4,je 0,jF 0 2,jl 2,je 3,jw 6 (.bin .neq .int) [.t 1,.t 4]])
 (.cond 6 (.seq (.region [jz 3 3])
 .ret)
 .skip))
 (.seq (.seq (.region [jz 5 0])
 (.block 0 (.loop ic69l0)))
 (.seq (.seq (.region [jv 4,jv 1,ja 1 0 1,jl 2,jw 9 (.bin .neq .int) [.t 3,jn 0]])
 (.cond 9 (.seq (.region [jz 3 2])
 .ret)
 .skip))
 (.seq (.region [jz 3 0])
 .ret))))))
abbrev rs69:List RC:=[(.v 3)]
theorem fok69 (p:Bool):FnOk Tryz.prog 69 ⟨ic69,vs69,35,rs69,p⟩:=.mk2 Tryz.func69 (by kernel_rfl) (by kernel_rfl) (by kernel_rfl) (by kernel_rfl) (by kernel_rfl)
abbrev vs70:List Nat:=[0,1,2,3,4,5,6,23,25,33,38,56]
def ic70l0:IC:=(.seq (.seq (.region [jv 6,jw 8 (.bin .lss .int) [.t 0,jn 3]])
 (.cond 8 .skip
 (.exit 0)))
 (.seq (.block 1 (.seq (.region [jv 5,jv 6,ja 1 0 1,jl 2,jk 68 [.t 3,jn 0,jn 7],jw 9 .not [.t 4]])
 (.cond 9 (.seq (.region [jz 4 7])
 .ret)
 .skip)))
 (.region [jv 6,jq (.bin .add .int) [.t 0,jn 1],jm 6 1])))
def ic70:IC:=(.seq (.region [jb 2 0,jb 3 1,jz 4 0])
 (.seq (.region [jF 0 3,jl 0,jF 1 3,jl 2,jF 2 3,jl 4,jq (.bslice 1 3 [(.cv (.int .i64 0)),(.cv (.int .i64 0)),(.cv (.int .i64 0))] [(0,1),(1,1),(2,1)]) [.t 1,.t 3,.t 5],jm 5 6])
 (.seq (.seq (.region [jF 3 3,jl 0,jk 68 [.t 1,jn 0,jn 1440],jq .not [.t 2],jt 3,jg 4 false (.fadd 4) [.v 3],ji 4 false 5,jf 4 false 68 [.t 6,jn 0,jn 1440],jg 4 false .not [.t 7],jw 7 .pick [.t 4,jB true,.t 8]])
 (.cond 7 (.seq (.region [jz 4 7])
 .ret)
 .skip))
 (.seq (.seq (.region [jz 6 0])
 (.block 0 (.loop ic70l0)))
 (.seq (.seq (.region [jF 3 3,jl 0,jF 4 3,jl 2,jw 10 (.bin .geq .int) [.t 1,.t 3]])
 (.cond 10 (.seq (.region [jz 4 2])
 .ret)
 .skip))
 (.seq (.seq (.region [jF 5 3,jl 0,jF 0 2,jl 2,je 3,jq (.bin .sub .int) [.t 4,jn 1],jk 68 [.t 1,jn 0,.t 5],jq .not [.t 6],jt 7,jg 8 false (.fadd 6) [.v 3],ji 8 false 9,jg 8 false (.fadd 0) [.v 2],ji 8 false 11,jg 8 false (.len false) [.t 12],jg 8 false (.bin .sub .int) [.t 13,jn 1],jf 8 false 68 [.t 10,jn 0,.t 14],jg 8 false .not [.t 15],jw 11 .pick [.t 8,jB true,.t 16]])
 (.cond 11 (.seq (.region [jz 4 4])
 .ret)
 .skip))
 (.seq (.region [jz 4 0])
 .ret)))))))
abbrev rs70:List RC:=[(.v 4)]
theorem fok70 (p:Bool):FnOk Tryz.prog 70 ⟨ic70,vs70,57,rs70,p⟩:=.mk2 Tryz.func70 (by kernel_rfl) (by kernel_rfl) (by kernel_rfl) (by kernel_rfl) (by kernel_rfl)
abbrev vs71:List Nat:=[0,1,2,4,5,8,12,25,37]
def ic71l0:IC:=(.seq (.seq (.region [jv 4,jv 1,je 1,jw 6 (.bin .lss .int) [.t 0,.t 2]])
 (.cond 6 .skip
 (.exit 0)))
 (.seq (.block 1 (.seq (.seq (.dr [[],[],[0,1],[2],[3],[],[5],[6],[7],[4,8],[9]] [jv 1,jv 4,ja 2 0 1,jG 0 2,jl 3,jF 0 2,jl 5,je 6,jq (.bin .sub .int) [.t 7,jn 1],jk 63 [.t 4,jn 0,.t 8],jw 7 .not [.t 9]])
 (.cond 7 (.seq (.region [jz 3 4])
 .ret)
 .skip))
 (.seq (.dr [[],[],[0,1],[2],[3],[],[5],[6],[7],[8],[4,9,8],[10]] [jv 1,jv 4,ja 2 0 1,jG 1 2,jl 3,jF 1 2,jl 5,je 6,jk 72 [.t 7],jq (.bin .sub .int) [.t 8,jn 1],jk 63 [.t 4,jn 0,.t 9],jw 8 .not [.t 10]])
 (.cond 8 (.seq (.region [jz 3 7])
 .ret)
 .skip))))
 (.region [jv 4,jq (.bin .add .int) [.t 0,jn 1],jm 4 1])))
def ic71:IC:=(.seq (.region [jb 2 0,jz 3 0])
 (.seq (.seq (.region [jv 1,je 0,jw 5 (.bin .gtr .int) [.t 1,jn 40]])
 (.cond 5 (.seq (.region [jz 3 3])
 .ret)
 .skip))
 (.seq (.seq (.region [jz 4 0])
 (.block 0 (.loop ic71l0)))
 (.seq (.region [jz 3 0])
 .ret))))
abbrev rs71:List RC:=[(.v 3)]
theorem fok71 (p:Bool):FnOk Tryz.prog 71 ⟨ic71,vs71,38,rs71,p⟩:=.mk2 Tryz.func71 (by kernel_rfl) (by kernel_rfl) (by kernel_rfl) (by kernel_rfl) (by kernel_rfl)
abbrev vs72:List Nat:=[0,2,3,4,7]
def ic72l0:IC:=(.seq (.seq (.region [jv 3,jv 0,jw 4 (.bin .lss .int) [.t 0,.t 1]])
 (.cond 4 .skip
 (.exit 0)))
 (.seq (.block 1 (.region [jv 2,jq (.bin .mul .int) [jn 2,.t 0],jm 2 1]))
 (.region [jv 3,jq (.bin .add .int) [.t 0,jn 1],jm 3 1])))
def ic72:IC:=(.seq (.region [jz 1 0])
 (.seq (.region [jz 2 1])
 (.seq (.seq (.region [jz 3 0])
 (.block 0 (.loop ic72l0)))
 (.seq (.region [jv 2,jm 1 0])
 .ret))))
abbrev rs72:List RC:=[(.v 1)]
theorem fok72 (p:Bool):FnOk Tryz.prog 72 ⟨ic72,vs72,13,rs72,p⟩:=.mk2 Tryz.func72 (by kernel_rfl) (by kernel_rfl) (by kernel_rfl) (by kernel_rfl) (by kernel_rfl)
abbrev vs75:List Nat:=[0,1,2,3,4]
def ic75:IC:=(.seq (.region [jb 1 0,jz 2 0,jz 3 0,jz 4 0])
 (.seq (.region [jN 2 1,jk 99 [.t 0],jt 1,jx 0 2,jx 1 2,jx 2 2,jx 3 2,jm 2 4,jm 3 5,jm 4 6])
 (.seq (.region [jv 2,jv 3,jv 4,jm 2 0,jm 3 1,jm 4 2])
 .ret)))
abbrev rs75:List RC:=[(.v 2),(.v 3),(.v 4)]
theorem fok75 (p:Bool):FnOk Tryz.prog 75 ⟨ic75,vs75,15,rs75,p⟩:=.mk2 Tryz.func75 (by kernel_rfl) (by kernel_rfl) (by kernel_rfl) (by kernel_rfl) (by kernel_rfl)
abbrev vs76:List Nat:=[0,1,2,3,6]
def ic76:IC:=(.seq (.region [jb 1 0,jw 2 (.alloc [(.cv .nils),(.cv .nils)]) [],jz 3 0])
 (.seq (.region [jN 2 1,jk 100 [.t 0],jt 1,jx 0 2,jx 1 2,jx 2 2,jt 3,jt 4,jm 4 5])
 (.seq (.region [jN 2 1,jq (.build [(.cv .nils),(.cv .nils)] [(0,2)]) [.t 0],jv 4,jq (.store 2) [.v 2,.t 1],jm 3 2])
 .ret)))
abbrev rs76:List RC:=[(.lN 2 2),(.v 3)]
theorem fok76 (p:Bool):FnOk Tryz.prog 76 ⟨ic76,vs76,16,rs76,p⟩:=.mk2 Tryz.func76 (by kernel_rfl) (by kernel_rfl) (by kernel_rfl) (by kernel_rfl) (by kernel_rfl)
abbrev vs77:List Nat:=[0,1,2,3,4,6]
def ic77:IC:=(.seq (.region [jb 3 0,jb 4 1,jw 5 .mv [jB false]])
 (.seq (.region [jv 2,jq (.mkfn (.func 101)) [.v 3,.v 4],jk 83 [.t 0,.t 1],jm 5 2])
 .ret))
abbrev rs77:List RC:=[(.v 5)]
theorem fok77 (p:Bool):FnOk Tryz.prog 77 ⟨ic77,vs77,10,rs77,p⟩:=.mk2 Tryz.func77 (by kernel_rfl) (by kernel_rfl) (by kernel_rfl) (by kernel_rfl) (by kernel_rfl)
abbrev vs78:List Nat:=[0,1,4,5,6,7,8,9,10,11,20]
def ic78l0:IC:=(.seq (.region [jw 9 (.bin .lss .int) [.v 8,.v 7]])
 (.seq (.cond 9 .skip
 (.exit 0))
 (.seq (.block 1 (.seq (.region [jv 8,jq (.iaS 3) [.v 6,.v 8],jq (.loadN 3) [.t 1],jw 5 (.alloc [(.cv .nils),(.cv (.int .i64 0)),(.cv (.int .i64 0))]) [],jm 4 0,jq (.store 3) [.v 5,.t 2]])
 (.seq (.region [jv 1,jv 4,jN 3 5,⟨none,none,.call,[(.t 0),(.t 1),(.t 2)]⟩,jm 3 3])
 (.seq (.region [jv 3,jw 10 (.bin .neq .int) [.t 0,jn 0]])
 (.cond 10 (.seq (.region [jv 4,jv 3,jm 2 0,jm 3 1])
 .ret)
 .skip)))))
 (.region [jq (.bin .add .int) [.v 8,jn 1],jm 8 0]))))
def ic78:IC:=(.seq (.region [jz 2 0,jz 3 0])
 (.seq (.seq (.region [jw 6 .mv [.v 0],jw 7 (.len false) [.v 6],jz 8 0])
 (.block 0 (.loop ic78l0)))
 (.seq (.region [jz 2 0,jz 3 0])
 .ret)))
abbrev rs78:List RC:=[(.v 2),(.v 3)]
theorem fok78 (p:Bool):FnOk Tryz.prog 78 ⟨ic78,vs78,24,rs78,p⟩:=.mk2 Tryz.func78 (by kernel_rfl) (by kernel_rfl) (by kernel_rfl) (by kernel_rfl) (by kernel_rfl)
abbrev vs79:List Nat:=[0,1,2,3,5,6,8,19,21,28]
def ic79:IC:=(.seq (.region [jb 3 0,jb 4 2,jz 5 0])
 (.seq (.seq (.region [jF 0 3,jG 0 0,jq (.loadN 2) [.t 1],jF 0 4,jl 3,jk 102 [.t 2,.t 4],jt 5,jx 0 6,jx 1 6,jt 7,jm 6 8])
 (.seq (.region [jv 6,jw 7 (.bin .neq .int) [.t 0,jn 0]])
 (.cond 7 (.seq (.region [jv 6,jm 5 0])
 .ret)
 .skip)))
 (.seq (.block 0 (.seq (.region [jF 1 4,jl 0,jF 2 4,jl 2,jq (.bslice 1 2 [(.cv (.int .i64 0)),(.cv (.int .i64 0))] [(0,1),(1,1)]) [.t 1,.t 3],jk 77 [jn 0,jn 1440,.t 4],jm 8 5])
 (.cond 8 (.seq (.region [jz 5 7])
 .ret)
 (.seq (.region [jF 1 4,jl 0,jF 2 4,jl 2,jq (.bin .gtr .int) [.t 1,.t 3],jm 9 4])
 (.cond 9 (.seq (.region [jz 5 2])
 .ret)
 .skip)))))
 (.seq (.region [jz 5 0])
 .ret))))
abbrev rs79:List RC:=[(.v 5)]
theorem fok79 (p:Bool):FnOk Tryz.prog 79 ⟨ic79,vs79,34,rs79,p⟩:=.mk2 Tryz.func79 (by kernel_rfl) (by kernel_rfl) (by kernel_rfl) (by kernel_rfl) (by kernel_rfl)
abbrev vs80:List Nat:=[0,1,4,5,6,7,8,9,10,11,20]
def ic80l0:IC:=(.seq (.region [jw 9 (.bin .lss .int) [.v 8,.v 7]])
 (.seq (.cond 9 .skip
 (.exit 0))
 (.seq (.block 1 (.seq (.region [jv 8,jq (.iaS 2) [.v 6,.v 8],jq (.loadN 2) [.t 1],jw 5 (.alloc [(.cv (.int .i64 0)),(.cv (.int .i64 0))]) [],jm 4 0,jq (.store 2) [.v 5,.t 2]])
 (.seq (.region [jv 1,jv 4,jN 2 5,⟨none,none,.call,[(.t 0),(.t 1),(.t 2)]⟩,jm 3 3])
 (.seq (.region [jv 3,jw 10 (.bin .neq .int) [.t 0,jn 0]])
 (.cond 10 (.seq (.region [jv 4,jv 3,jm 2 0,jm 3 1])
 .ret)
 .skip)))))
 (.region [jq (.bin .add .int) [.v 8,jn 1],jm 8 0]))))
def ic80:IC:=(.seq (.region [jz 2 0,jz 3 0])
 (.seq (.seq (.region [jw 6 .mv [.v 0],jw 7 (.len false) [.v 6],jz 8 0])
 (.block 0 (.loop ic80l0)))
 (.seq (.region [jz 2 0,jz 3 0])
 .ret)))
abbrev rs80:List RC:=[(.v 2),(.v 3)]
theorem fok80 (p:Bool):FnOk Tryz.prog 80 ⟨ic80,vs80,24,rs80,p⟩:=.mk2 Tryz.func80 (by kernel_rfl) (by kernel_rfl) (by kernel_rfl) (by kernel_rfl) (by kernel_rfl)
abbrev vs81:List Nat:=[0,1,2,3,5,6,8]
def ic81:IC:=(.seq (.region [jb 3 0,jb 4 2,jz 5 0])
 (.seq (.region [jF 0 3,jG 0 0,jq (.loadN 2) [.t 1],jF 0 4,jl 3,jF 1 4,jl 5,jk 103 [.t 2,jS,.t 4,.t 6],jt 7,jx 0 8,jx 1 8,jt 9,jm 6 10])
 (.seq (.region [jv 6,jm 5 0])
 .ret)))
abbrev rs81:List RC:=[(.v 5)]
theorem fok81 (p:Bool):FnOk Tryz.prog 81 ⟨ic81,vs81,21,rs81,p⟩:=.mk2 Tryz.func81 (by kernel_rfl) (by kernel_rfl) (by kernel_rfl) (by kernel_rfl) (by kernel_rfl)
abbrev vs99:List Nat:=[0,1,2,3,4,5,6,7,27,40,55,64,65,66,67,74]
def ic99l0:IC:=(.seq (.region [jw 14 (.bin .lss .int) [.v 13,.v 12]])
 (.seq (.cond 14 .skip
 (.exit 0))
 (.seq (.block 1 (.seq (.region [jv 13,jq (.iaS 5) [.v 11,.v 13],jq (.loadN 5) [.t 1],jw 6 (.alloc [(.cv (.int .i64 0))]) [],jw 7 (.alloc [(.cv (.str (bts []))),(.cv .nils),(.cv (.int .i64 0)),(.cv (.int .i64 0)),(.cv (.int .i64 0))]) [],jq (.store 1) [.v 6,.t 0],jq (.store 5) [.v 7,.t 2]])
 (.seq (.region [jF 1 7,jl 0,jq (.mkfn (.func 125)) [.v 2,.v 6],jd 15 83 [.t 1,.t 2]])
 (.cond 15 (.seq (.dr [[],[],[1,1],[0,2,0,1,2],[3,0,1,2,3]] [jL 6,jq (.store 1) [.v 2,.c (.cv .nilp)],jz 3 4,jm 4 0,jz 5 9])
 .ret)
 .skip))))
 (.region [jq (.bin .add .int) [.v 13,jn 1],jm 13 0]))))
def ic99:IC:=(.seq (.region [jb 1 0,jw 2 (.alloc [(.cv .nilp)]) [],jz 3 0,jz 4 0,jz 5 0])
 (.seq (.region [jN 2 1,jq (.build [(.cv .nils),(.cv .nils),(.cv .nils)] [(0,2)]) [.t 0],jq .box [.t 1],jq (.store 1) [.v 2,.t 2]])
 (.seq (.seq (.region [jL 2,jc 0,jG 0 1,jG 0 2,jl 3,je 4,jq (.bslice 1 1 [(.cv (.int .i64 0))] [(0,1)]) [.t 5],jk 119 [jn 1,jn 12,.t 6],jt 7,jg 8 false .load1 [.v 2],jg 8 false .nilck [.t 9],jg 8 false (.fadd 0) [.t 10],jg 8 false (.fadd 1) [.t 11],ji 8 false 12,jg 8 false (.len false) [.t 13],jg 8 false (.bin .gtr .int) [.t 14,jn 8],jw 8 .pick [.t 8,jB true,.t 15]])
 (.cond 8 (.seq (.region [jq (.store 1) [.v 2,.c (.cv .nilp)],jz 3 1,jz 4 0,jz 5 3])
 .ret)
 .skip))
 (.seq (.seq (.dr [[],[0],[1],[2],[3],[],[5],[4,6],[7],[8],[8],[9,7,0,1,2,3,4,5,6,7,8,9],[10,11,0,1,2,3,4,5,6,7,8,9,10,11]] [jL 2,jc 0,jG 0 1,jG 0 2,jl 3,jL 2,jq (.mkbm 121) [.t 5],jk 120 [.t 4,.t 6],jt 7,jx 0 8,jx 1 8,jm 4 9,jm 5 10])
 (.seq (.region [jv 5,jw 9 (.bin .neq .int) [.t 0,jn 0]])
 (.cond 9 (.seq (.region [jv 4,jv 5,jq (.store 1) [.v 2,.c (.cv .nilp)],jz 3 2,jm 4 0,jm 5 1])
 .ret)
 .skip)))
 (.seq (.seq (.dr [[],[0],[1],[2],[3],[],[5],[4,6],[7],[8],[8],[9,7,0,1,2,3,4,5,6,7,8,9],[10,11,0,1,2,3,4,5,6,7,8,9,10,11]] [jL 2,jc 0,jG 0 1,jG 1 2,jl 3,jL 2,jq (.mkbm 123) [.t 5],jk 122 [.t 4,.t 6],jt 7,jx 0 8,jx 1 8,jm 4 9,jm 5 10])
 (.seq (.region [jv 5,jw 10 (.bin .neq .int) [.t 0,jn 0]])
 (.cond 10 (.seq (.region [jv 4,jv 5,jq (.store 1) [.v 2,.c (.cv .nilp)],jz 3 3,jm 4 0,jm 5 1])
 .ret)
 .skip)))
 (.seq (.region [jL 2,jk 124 [.t 0]])
 (.seq (.seq (.region [jL 2,jc 0,jG 0 1,jG 0 2,jw 11 .load1 [.t 3],jw 12 (.len false) [.v 11],jz 13 0])
 (.block 0 (.loop ic99l0)))
 (.seq (.region [jL 2,jq (.store 1) [.v 2,.t 0],jz 3 0,jz 4 0,jz 5 0])
 .ret))))))))
abbrev rs99:List RC:=[(.l1 2),(.v 3),(.v 4),(.v 5)]
theorem fok99 (p:Bool):FnOk Tryz.prog 99 ⟨ic99,vs99,78,rs99,p⟩:=.mk2 Tryz.func99 (by kernel_rfl) (by kernel_rfl) (by kernel_rfl) (by kernel_rfl) (by kernel_rfl)
abbrev vs100:List Nat:=[0,1,2,3,4,5,20,31,44]
def ic100:IC:=(.seq (.region [jb 1 0,jz 2 0,jz 3 0,jz 4 0])
 (.seq (.region [jN 2 1,jq (.build [(.cv .nils),(.cv .nils)] [(0,2)]) [.t 0],jw 5 (.alloc [(.cv .nils),(.cv .nils)]) [],jq (.store 2) [.v 5,.t 1]])
 (.seq (.seq (.region [jF 0 5,jG 0 0,jl 1,je 2,jq (.bslice 1 1 [(.cv (.int .i64 0))] [(0,1)]) [.t 3],jk 77 [jn 1,jn 16,.t 4],jt 5,jg 6 false (.fadd 0) [.v 5],jg 6 false (.fadd 1) [.t 7],ji 6 false 8,jg 6 false (.len false) [.t 9],jg 6 false (.bin .gtr .int) [.t 10,jn 12],jw 6 .pick [.t 6,jB true,.t 11]])
 (.cond 6 (.seq (.region [jz 2 1,jz 3 0,jz 4 3])
 .ret)
 .skip))
 (.seq (.seq (.region [jF 0 5,jG 0 0,jl 1,jN 2 5,jq (.mkbm 127) [.t 3],jk 126 [.t 2,.t 4],jt 5,jx 0 6,jx 1 6,jm 3 7,jm 4 8])
 (.seq (.region [jv 4,jw 7 (.bin .neq .int) [.t 0,jn 0]])
 (.cond 7 (.seq (.region [jv 3,jv 4,jz 2 2,jm 3 0,jm 4 1])
 .ret)
 .skip)))
 (.seq (.seq (.region [jF 0 5,jG 1 0,jl 1,jN 2 5,jq (.mkbm 129) [.t 3],jk 128 [.t 2,.t 4],jt 5,jx 0 6,jx 1 6,jm 3 7,jm 4 8])
 (.seq (.region [jv 4,jw 8 (.bin .neq .int) [.t 0,jn 0]])
 (.cond 8 (.seq (.region [jv 3,jv 4,jz 2 3,jm 3 0,jm 4 1])
 .ret)
 .skip)))
 (.seq (.region [jz 2 0,jz 3 0,jz 4 0])
 .ret))))))
abbrev rs100:List RC:=[(.v 2),(.v 3),(.v 4)]
theorem fok100 (p:Bool):FnOk Tryz.prog 100 ⟨ic100,vs100,47,rs100,p⟩:=.mk2 Tryz.func100 (by kernel_rfl) (by kernel_rfl) (by kernel_rfl) (by kernel_rfl) (by kernel_rfl)
abbrev vs101:List Nat:=[0,1,2,4]
def ic101:IC:=(.seq (.region [jw 3 .mv [jB false]])
 (.seq (.region [jv 0,jL 1,jq (.bin .lss .int) [.t 0,.t 1],jt 2,jh 3 false 0,jg 3 false .load1 [.v 2],jg 3 false (.bin .gtr .int) [.t 4,.t 5],jq .pick [.t 3,jB true,.t 6],jm 3 7])
 .ret))
abbrev rs101:List RC:=[(.v 3)]
theorem fok101 (p:Bool):FnOk Tryz.prog 101 ⟨ic101,vs101,13,rs101,p⟩:=.mk2 Tryz.func101 (by kernel_rfl) (by kernel_rfl) (by kernel_rfl) (by kernel_rfl) (by kernel_rfl)
abbrev vs102:List Nat:=[0,1,2,4,5,6,7,16]
def ic102:IC:=(.seq (.region [jb 2 0,jw 3 .mv [jS],jz 4 0])
 (.seq (.region [jN 2 2,jv 1,jq (.bslice 1 1 [(.cv .nils)] [(0,1)]) [.t 1],jk 130 [.t 0,.t 2],jt 3,jx 0 4,jx 1 4,jm 5 5,jm 6 6])
 (.seq (.seq (.region [jv 6,jw 7 (.bin .neq .int) [.t 0,jn 0]])
 (.cond 7 (.seq (.region [jv 6,jw 3 .mv [jS],jm 4 0])
 .ret)
 .skip))
 (.seq (.region [jv 5,jv 1,jk 131 [.t 0,.t 1],jm 3 2,jz 4 0])
 .ret))))
abbrev rs102:List RC:=[(.v 3),(.v 4)]
theorem fok102 (p:Bool):FnOk Tryz.prog 102 ⟨ic102,vs102,21,rs102,p⟩:=.mk2 Tryz.func102 (by kernel_rfl) (by kernel_rfl) (by kernel_rfl) (by kernel_rfl) (by kernel_rfl)
abbrev vs103:List Nat:=[0,1,2,3,4,8,9,10,11,19,23,34]
def ic103:IC:=(.seq (.region [jb 4 0,jw 5 .mv [jB false],jz 6 0])
 (.seq (.region [jN 2 4,jv 1,jq (.bslice 1 1 [(.cv .nils)] [(0,1)]) [.t 1],jk 130 [.t 0,.t 2],jt 3,jx 0 4,jx 1 4,jm 7 5,jm 8 6])
 (.seq (.block 0 (.seq (.region [jv 8,jq (.bin .neq .int) [.t 0,jn 0],jm 9 1])
 (.cond 9 (.seq (.region [jv 8,jw 5 .mv [jB false],jm 6 0])
 .ret)
 (.seq (.region [jv 7,jc 0,jG 0 1,jG 0 2,jl 3,je 4,jq (.bin .sub .int) [.t 5,jn 1],jv 2,jq (.bslice 1 1 [(.cv (.int .i64 0))] [(0,1)]) [.t 7],jk 119 [jn 0,.t 6,.t 8],jm 10 9])
 (.cond 10 (.seq (.region [jw 5 .mv [jB false],jz 6 4])
 .ret)
 (.seq (.region [jv 7,jk 132 [.t 0],jq (.bin .sub .int) [.t 1,jn 1],jv 3,jq (.bslice 1 1 [(.cv (.int .i64 0))] [(0,1)]) [.t 3],jk 119 [jn 0,.t 2,.t 4],jm 11 5])
 (.cond 11 (.seq (.region [jw 5 .mv [jB false],jz 6 7])
 .ret)
 .skip)))))))
 (.seq (.region [jv 7,jv 1,jv 2,jv 3,jk 133 [.t 0,.t 1,.t 2,.t 3],jm 5 4,jz 6 0])
 .ret))))
abbrev rs103:List RC:=[(.v 5),(.v 6)]
theorem fok103 (p:Bool):FnOk Tryz.prog 103 ⟨ic103,vs103,46,rs103,p⟩:=.mk2 Tryz.func103 (by kernel_rfl) (by kernel_rfl) (by kernel_rfl) (by kernel_rfl) (by kernel_rfl)
abbrev vs119:List Nat:=[0,1,2,3,4,6]
def ic119:IC:=(.seq (.region [jb 3 0,jb 4 1,jw 5 .mv [jB false]])
 (.seq (.region [jv 2,jq (.mkfn (.func 149)) [.v 3,.v 4],jk 83 [.t 0,.t 1],jm 5 2])
 .ret))
abbrev rs119:List RC:=[(.v 5)]
theorem fok119 (p:Bool):FnOk Tryz.prog 119 ⟨ic119,vs119,10,rs119,p⟩:=.mk2 Tryz.func119 (by kernel_rfl) (by kernel_rfl) (by kernel_rfl) (by kernel_rfl) (by kernel_rfl)
abbrev vs120:List Nat:=[0,1,4,5,6,7,8,9,10,11,20]
def ic120l0:IC:=(.seq (.region [jw 9 (.bin .lss .int) [.v 8,.v 7]])
 (.seq (.cond 9 .skip
 (.exit 0))
 (.seq (.block 1 (.seq (.region [jv 8,jq (.iaS 5) [.v 6,.v 8],jq (.loadN 5) [.t 1],jw 5 (.alloc [(.cv (.str (bts []))),(.cv .nils),(.cv (.int .i64 0)),(.cv (.int .i64 0)),(.cv (.int .i64 0))]) [],jm 4 0,jq (.store 5) [.v 5,.t 2]])
 (.seq (.region [jv 1,jv 4,jN 5 5,⟨none,none,.call,[(.t 0),(.t 1),(.t 2)]⟩,jm 3 3])
 (.seq (.region [jv 3,jw 10 (.bin .neq .int) [.t 0,jn 0]])
 (.cond 10 (.seq (.region [jv 4,jv 3,jm 2 0,jm 3 1])
 .ret)
 .skip)))))
 (.region [jq (.bin .add .int) [.v 8,jn 1],jm 8 0]))))
def ic120:IC:=(.seq (.region [jz 2 0,jz 3 0])
 (.seq (.seq (.region [jw 6 .mv [.v 0],jw 7 (.len false) [.v 6],jz 8 0])
 (.block 0 (.loop ic120l0)))
 (.seq (.region [jz 2 0,jz 3 0])
 .ret)))
abbrev rs120:List RC:=[(.v 2),(.v 3)]
theorem fok120 (p:Bool):FnOk Tryz.prog 120 ⟨ic120,vs120,24,rs120,p⟩:=.mk2 Tryz.func120 (by kernel_rfl) (by kernel_rfl) (by kernel_rfl) (by kernel_rfl) (by kernel_rfl)
abbrev vs121:List Nat:=[0,1,2,5,6,7,15,20,30,41,53,58]
def ic121:IC:=(.seq (.region [jb 3 2,jz 4 0])
 (.seq (.region [jv 0,jc 0,jG 0 1,jG 0 2,jl 3,je 4,jq (.bin .sub .int) [.t 5,jn 1],jm 5 6])
 (.seq (.block 0 (.seq (.region [jF 0 3,jl 0,jk 150 [.t 1],jq .not [.t 2],jm 6 3])
 (.cond 6 (.seq (.region [jz 4 6])
 .ret)
 (.seq (.region [jv 0,jc 0,jG 0 1,jG 0 2,jl 3,jv 1,jq (.slS 5 false true) [.t 4,.t 5],jq (.mkfn (.func 152)) [.v 3],jk 151 [.t 6,.t 7],jm 7 8])
 (.cond 7 (.seq (.region [jz 4 5])
 .ret)
 (.seq (.dr [[],[0],[1],[],[3],[4],[5],[6],[7],[2,8],[9]] [jF 1 3,jl 0,je 1,jv 0,jc 3,jG 0 4,jG 0 5,jl 6,je 7,jq (.bin .gtr .int) [.t 2,.t 8],jm 8 9])
 (.cond 8 (.seq (.region [jz 4 3])
 .ret)
 (.seq (.region [jv 5,jF 1 3,jl 1,jk 119 [jn 0,.t 0,.t 2],jt 3,jh 4 false 5,jg 4 false (.fadd 2) [.v 3],ji 4 false 6,jg 4 false (.bslice 1 1 [(.cv (.int .i64 0))] [(0,1)]) [.t 7],jf 4 false 119 [jn (-1),.t 5,.t 8],jq .pick [.t 4,jB true,.t 9],jm 9 10])
 (.cond 9 (.seq (.region [jz 4 4])
 .ret)
 (.seq (.region [jF 2 3,jl 0,jv 1,jq (.bin .eql .int) [.t 1,.t 2],jm 10 3])
 (.cond 10 (.seq (.region [jz 4 2])
 .ret)
 (.seq (.region [jF 3 3,jl 0,jF 4 3,jl 2,jq (.bslice 1 2 [(.cv (.int .i64 0)),(.cv (.int .i64 0))] [(0,1),(1,1)]) [.t 1,.t 3],jk 119 [jn 0,jn 100,.t 4],jm 11 5])
 (.cond 11 (.seq (.region [jz 4 7])
 .ret)
 .skip)))))))))))))
 (.seq (.region [jz 4 0])
 .ret))))
abbrev rs121:List RC:=[(.v 4)]
theorem fok121 (p:Bool):FnOk Tryz.prog 121 ⟨ic121,vs121,65,rs121,p⟩:=.mk2 Tryz.func121 (by kernel_rfl) (by kernel_rfl) (by kernel_rfl) (by kernel_rfl) (by kernel_rfl)
abbrev vs122:List Nat:=[0,1,4,5,6,7,8,9,10,11,20]
def ic122l0:IC:=(.seq (.region [jw 9 (.bin .lss .int) [.v 8,.v 7]])
 (.seq (.cond 9 .skip
 (.exit 0))
 (.seq (.block 1 (.seq (.region [jv 8,jq (.iaS 1) [.v 6,.v 8],jl 1,jm 4 0,jm 5 2])
 (.seq (.region [jv 1,jv 4,jv 5,⟨none,none,.call,[(.t 0),(.t 1),(.t 2)]⟩,jm 3 3])
 (.seq (.region [jv 3,jw 10 (.bin .neq .int) [.t 0,jn 0]])
 (.cond 10 (.seq (.region [jv 4,jv 3,jm 2 0,jm 3 1])
 .ret)
 .skip)))))
 (.region [jq (.bin .add .int) [.v 8,jn 1],jm 8 0]))))
def ic122:IC:=(.seq (.region [jz 2 0,jz 3 0])
 (.seq (.seq (.region [jw 6 .mv [.v 0],jw 7 (.len false) [.v 6],jz 8 0])
 (.block 0 (.loop ic122l0)))
 (.seq (.region [jz 2 0,jz 3 0])
 .ret)))
abbrev rs122:List RC:=[(.v 2),(.v 3)]
theorem fok122 (p:Bool):FnOk Tryz.prog 122 ⟨ic122,vs122,24,rs122,p⟩:=.mk2 Tryz.func122 (by kernel_rfl) (by kernel_rfl) (by kernel_rfl) (by kernel_rfl) (by kernel_rfl)
abbrev vs123:List Nat:=[0,1,2,6,7,11]
def ic123:IC:=(.seq (.region [jz 3 0])
 (.seq (.block 0 (.seq (.region [jv 2,jk 150 [.t 0],jq .not [.t 1],jm 4 2])
 (.cond 4 (.seq (.region [jz 3 6])
 .ret)
 (.seq (.region [jv 0,jc 0,jG 0 1,jG 1 2,jl 3,jv 1,jq (.slS 1 false true) [.t 4,.t 5],jv 2,jk 153 [.t 6,.t 7],jm 5 8])
 (.cond 5 (.seq (.region [jz 3 5])
 .ret)
 .skip)))))
 (.seq (.region [jz 3 0])
 .ret)))
abbrev rs123:List RC:=[(.v 3)]
theorem fok123 (p:Bool):FnOk Tryz.prog 123 ⟨ic123,vs123,21,rs123,p⟩:=.mk2 Tryz.func123 (by kernel_rfl) (by kernel_rfl) (by kernel_rfl) (by kernel_rfl) (by kernel_rfl)
abbrev vs124:List Nat:=[0,1,2,3,4,10,11,12]
def ic124l0:IC:=(.seq (.region [jw 7 (.bin .lss .int) [.v 6,.v 5]])
 (.seq (.cond 7 .skip
 (.exit 0))
 (.seq (.block 1 (.seq (.region [jv 6,jm 2 0])
 (.seq (.region [jL 1,jc 0,jG 0 1,jG 0 2,jl 3,je 4,jq (.mkslice 1 1 [(.cv (.bool false))]) [.t 5,.t 5],jw 3 (.alloc [(.cv .nils)]) [],jq (.store 1) [.v 3,.t 6]])
 (.seq (.region [jw 4 (.alloc [(.cv .nilf)]) []])
 (.seq (.region [jq (.mkfn (.func 154)) [.v 3,.v 1,.v 4],jq (.store 1) [.v 4,.t 0]])
 (.seq (.region [jL 4,jv 2,⟨none,none,.call,[(.t 0),(.t 1)]⟩])
 (.dr [[],[],[1],[2],[3],[],[5],[4,6],[0,0,1,2,3,4,5,6,7],[8,0,1,2,3,4,5,6,7],[9,7,7,0,1,2,3,4,5,6,7]] [jL 1,jL 1,jc 1,jG 2 2,jl 3,jL 3,jq (.bslice 1 1 [(.cv .nils)] [(0,1)]) [.t 5],jq (.append 1 24) [.t 4,.t 6],jc 0,jG 2 8,jq (.store 1) [.t 9,.t 7]])))))))
 (.region [jq (.bin .add .int) [.v 6,jn 1],jm 6 0]))))
def ic124:IC:=(.seq (.region [jb 1 0])
 (.seq (.region [jL 1,jc 0,jG 0 1,jG 0 2,jl 3,jw 5 (.len false) [.t 4],jz 6 0])
 (.block 0 (.loop ic124l0))))
abbrev rs124:List RC:=[]
theorem fok124 (p:Bool):FnOk Tryz.prog 124 ⟨ic124,vs124,36,rs124,p⟩:=.mk2 Tryz.func124 (by kernel_rfl) (by kernel_rfl) (by kernel_rfl) (by kernel_rfl) (by kernel_rfl)
abbrev vs125:List Nat:=[0,1,2,4]
def ic125:IC:=(.seq (.region [jw 3 .mv [jB false]])
 (.seq (.dr [[],[0],[1],[2],[],[3,4],[5],[],[6,7],[8],[9,0,1,2,3,4,5,6,7,8,9]] [jL 1,jc 0,jG 2 1,jl 2,jv 0,ja 1 3 4,jl 5,jL 2,ja 1 6 7,jl 8,jm 3 9])
 .ret))
abbrev rs125:List RC:=[(.v 3)]
theorem fok125 (p:Bool):FnOk Tryz.prog 125 ⟨ic125,vs125,15,rs125,p⟩:=.mk2 Tryz.func125 (by kernel_rfl) (by kernel_rfl) (by kernel_rfl) (by kernel_rfl) (by kernel_rfl)
abbrev vs126:List Nat:=[0,1,4,5,6,7,8,9,10,11,20]
def ic126l0:IC:=(.seq (.region [jw 9 (.bin .lss .int) [.v 8,.v 7]])
 (.seq (.cond 9 .skip
 (.exit 0))
 (.seq (.block 1 (.seq (.region [jv 8,jq (.iaS 1) [.v 6,.v 8],jl 1,jm 4 0,jm 5 2])
 (.seq (.region [jv 1,jv 4,jv 5,⟨none,none,.call,[(.t 0),(.t 1),(.t 2)]⟩,jm 3 3])
 (.seq (.region [jv 3,jw 10 (.bin .neq .int) [.t 0,jn 0]])
 (.cond 10 (.seq (.region [jv 4,jv 3,jm 2 0,jm 3 1])
 .ret)
 .skip)))))
 (.region [jq (.bin .add .int) [.v 8,jn 1],jm 8 0]))))
def ic126:IC:=(.seq (.region [jz 2 0,jz 3 0])
 (.seq (.seq (.region [jw 6 .mv [.v 0],jw 7 (.len false) [.v 6],jz 8 0])
 (.block 0 (.loop ic126l0)))
 (.seq (.region [jz 2 0,jz 3 0])
 .ret)))
abbrev rs126:List RC:=[(.v 2),(.v 3)]
theorem fok126 (p:Bool):FnOk Tryz.prog 126 ⟨ic126,vs126,24,rs126,p⟩:=.mk2 Tryz.func126 (by kernel_rfl) (by kernel_rfl) (by kernel_rfl) (by kernel_rfl) (by kernel_rfl)
abbrev vs127:List Nat:=[0,1,2,3,6,7,15,18]
def ic127:IC:=(.seq (.region [jb 3 0,jz 4 0])
 (.seq (.block 0 (.seq (.region [jv 2,je 0,jF 0 3,jG 0 2,jl 3,je 4,jq (.bin .neq .int) [.t 1,.t 5],jm 5 6])
 (.cond 5 (.seq (.region [jz 4 3])
 .ret)
 (.seq (.region [jv 2,jk 77 [jn 0,jn 120,.t 0],jm 6 1])
 (.cond 6 (.seq (.region [jz 4 7])
 .ret)
 (.seq (.region [jv 2,jv 1,ja 1 0 1,jl 2,jq (.bin .neq .int) [.t 3,jn 0],jm 7 4])
 (.cond 7 (.seq (.region [jz 4 2])
 .ret)
 .skip)))))))
 (.seq (.region [jz 4 0])
 .ret)))
abbrev rs127:List RC:=[(.v 4)]
theorem fok127 (p:Bool):FnOk Tryz.prog 127 ⟨ic127,vs127,24,rs127,p⟩:=.mk2 Tryz.func127 (by kernel_rfl) (by kernel_rfl) (by kernel_rfl) (by kernel_rfl) (by kernel_rfl)
abbrev vs128:List Nat:=[0,1,4,5,6,7,8,9,10,11,20]
def ic128l0:IC:=(.seq (.region [jw 9 (.bin .lss .int) [.v 8,.v 7]])
 (.seq (.cond 9 .skip
 (.exit 0))
 (.seq (.block 1 (.seq (.region [jv 8,jq (.iaS 7) [.v 6,.v 8],jq (.loadN 7) [.t 1],jw 5 (.alloc [(.cv (.int .i64 0)),(.cv (.int .i64 0)),(.cv (.int .i64 0)),(.cv (.int .i64 0)),(.cv (.int .i64 0)),(.cv (.int .i64 0)),(.cv (.int .i64 0))]) [],jm 4 0,jq (.store 7) [.v 5,.t 2]])
 (.seq (.region [jv 1,jv 4,jN 7 5,⟨none,none,.call,[(.t 0),(.t 1),(.t 2)]⟩,jm 3 3])
 (.seq (.region [jv 3,jw 10 (.bin .neq .int) [.t 0,jn 0]])
 (.cond 10 (.seq (.region [jv 4,jv 3,jm 2 0,jm 3 1])
 .ret)
 .skip)))))
 (.region [jq (.bin .add .int) [.v 8,jn 1],jm 8 0]))))
def ic128:IC:=(.seq (.region [jz 2 0,jz 3 0])
 (.seq (.seq (.region [jw 6 .mv [.v 0],jw 7 (.len false) [.v 6],jz 8 0])
 (.block 0 (.loop ic128l0)))
 (.seq (.region [jz 2 0,jz 3 0])
 .ret)))
abbrev rs128:List RC:=[(.v 2),(.v 3)]
theorem fok128 (p:Bool):FnOk Tryz.prog 128 ⟨ic128,vs128,24,rs128,p⟩:=.mk2 Tryz.func128 (by kernel_rfl) (by kernel_rfl) (by kernel_rfl) (by kernel_rfl) (by kernel_rfl)
abbrev vs129:List Nat:=[0,1,2,3,5,6,7,24,30]
def ic129:IC:=(.seq (.region [jb 3 0,jb 4 2,jz 5 0])
 (.seq (.block 0 (.seq (.region [jF 3 4,jl 0,jF 4 4,jl 2,jq (.bslice 1 2 [(.cv (.int .i64 0)),(.cv (.int .i64 0))] [(0,1),(1,1)]) [.t 1,.t 3],jk 77 [jn 0,jn 1440,.t 4],jt 5,jg 6 false (.fadd 0) [.v 4],ji 6 false 7,jg 6 false (.fadd 1) [.v 4],ji 6 false 9,jg 6 false (.fadd 2) [.v 4],ji 6 false 11,jg 6 false (.bslice 1 3 [(.cv (.int .i64 0)),(.cv (.int .i64 0)),(.cv (.int .i64 0))] [(0,1),(1,1),(2,1)]) [.t 8,.t 10,.t 12],jf 6 false 77 [jn 0,jn 7,.t 13],jq .pick [.t 6,jB true,.t 14],jm 6 15])
 (.cond 6 (.seq (.region [jz 5 7])
 .ret)
 (.seq (.region [jF 3 4,jl 0,jF 4 4,jl 2,jq (.bin .geq .int) [.t 1,.t 3],jm 7 4])
 (.cond 7 (.seq (.region [jz 5 2])
 .ret)
 (.seq (.region [jF 0 3,jG 0 0,jl 1,je 2,jq (.bin .sub .int) [.t 3,jn 1],jF 5 4,jl 5,jF 6 4,jl 7,jq (.bslice 1 2 [(.cv (.int .i64 0)),(.cv (.int .i64 0))] [(0,1),(1,1)]) [.t 6,.t 8],jk 77 [jn 0,.t 4,.t 9],jm 8 10])
 (.cond 8 (.seq (.region [jz 5 4])
 .ret)
 .skip)))))))
 (.seq (.region [jz 5 0])
 .ret)))
abbrev rs129:List RC:=[(.v 5)]
theorem fok129 (p:Bool):FnOk Tryz.prog 129 ⟨ic129,vs129,42,rs129,p⟩:=.mk2 Tryz.func129 (by kernel_rfl) (by kernel_rfl) (by kernel_rfl) (by kernel_rfl) (by kernel_rfl)
abbrev vs130:List Nat:=[0,1,2,4,5,6,9,11,19,20,21,22,26]
def ic130l0:IC:=(.seq (.region [jw 11 (.bin .lss .int) [.v 10,.v 9]])
 (.seq (.cond 11 .skip
 (.exit 0))
 (.seq (.block 1 (.seq (.region [jq (.iaS 1) [.v 8,.v 10],jl 0,jm 7 1])
 (.seq (.region [jv 6,jw 12 (.bin .eql .int) [.t 0,jn 0]])
 (.cond 12 (.region [jv 5,jv 7,jk 155 [.t 0,.t 1],jm 6 2])
 .skip))))
 (.region [jq (.bin .add .int) [.v 10,jn 1],jm 10 0]))))
def ic130:IC:=(.seq (.region [jb 2 0,jw 3 .mv [.c (.cv .nilp)],jz 4 0])
 (.seq (.region [jN 2 2,jk 99 [.t 0],jt 1,jx 0 2,jx 1 2,jx 2 2,jx 3 2,jm 5 3,jt 4,jt 5,jm 6 6])
 (.seq (.seq (.region [jw 8 .mv [.v 1],jw 9 (.len false) [.v 8],jz 10 0])
 (.block 0 (.loop ic130l0)))
 (.seq (.region [jv 5,jv 6,jm 3 0,jm 4 1])
 .ret))))
abbrev rs130:List RC:=[(.v 3),(.v 4)]
theorem fok130 (p:Bool):FnOk Tryz.prog 130 ⟨ic130,vs130,33,rs130,p⟩:=.mk2 Tryz.func130 (by kernel_rfl) (by kernel_rfl) (by kernel_rfl) (by kernel_rfl) (by kernel_rfl)
theorem hb131:Tryz.f131.body=some (Tryz.f131.body.getD .skip):=by kernel_rfl
abbrev vs131:List Nat:=[0,1,2,4,5,6,7,8,9,11,12,13,14,23,24,26,27,52]
def ic131l0:IC:=(.seq (.region [jw 12 (.bin .lss .int) [.v 11,.v 10]])
 (.seq (.cond 12 .skip
 (.exit 0))
 (.seq (.block 1 (.seq (.region [jv 11,jq (.iaS 2) [.v 9,.v 11],jq (.loadN 2) [.t 1],jw 6 (.alloc [(.cv (.int .i64 0)),(.cv (.int .i64 0))]) [],jm 5 0,jq (.store 2) [.v 6,.t 2]])
 (.region [jL 4,jN 2 6,jv 5,jq (.mapset (true,[(.int .i64),(.int .i64)])) [.t 0,.t 1,.t 2]])))
 (.region [jq (.bin .add .int) [.v 11,jn 1],jm 11 0]))))
def ic131 (b131:Code):IC:=(.seq (.region [jb 2 0,jw 3 .mv [jS]])
 (.seq (.region [jq .mkmap [],jw 4 (.alloc [(.cv .nilm)]) [],jq (.store 1) [.v 4,.t 0]])
 (.seq (.seq (.region [jw 9 .mv [.v 1],jw 10 (.len false) [.v 9],jz 11 0])
 (.block 0 (.loop ic131l0)))
 (.seq (.seq (.region [jL 4,jd 13 156 [.t 0]])
 (.block 2 (.rangef (.v 13) #[24] (nav [1,1,1,0,1,0,2] b131) (nav [1,1,1,0,1,0,3] b131) (.region [jw 7 (.alloc [(.cv (.int .i64 0)),(.cv (.int .i64 0))]) [],jq (.store 2) [.v 7,.v 14]])
 (.block 3 (.seq (.region [jL 4,jd 15 156 [.t 0]])
 (.block 4 (.rangef (.v 15) #[27] (nav [1,1,1,0,1,0,3,0,1,0,2] b131) (nav [1,1,1,0,1,0,3,0,1,0,3] b131) (.region [jw 8 (.alloc [(.cv (.int .i64 0)),(.cv (.int .i64 0))]) [],jq (.store 2) [.v 8,.v 16]])
 (.block 5 (.seq (.dr [[],[],[0,1],[2],[3],[4,3],[5,3],[6,3],[3],[8,3],[7,9,3],[10,3],[3],[12,3],[11,13,3],[14,3],[3,15],[16,3],[17],[18,17],[17],[20,17],[19,21,17],[22,17],[17,23]] [jN 2 8,jN 2 7,jq (.eqS true (true,[(.int .i64),(.int .i64)])) [.t 0,.t 1],jt 2,jg 3 true .load1 [.v 2],jg 3 true .nilck [.t 4],jg 3 true (.fadd 2) [.t 5],ji 3 true 6,jg 3 true (.fadd 0) [.v 7],ji 3 true 8,jg 3 true (.iaS 1) [.t 7,.t 9],ji 3 true 10,jg 3 true (.fadd 0) [.v 8],ji 3 true 12,jg 3 true (.iaS 1) [.t 11,.t 13],ji 3 true 14,jq .pick [.t 3,.t 15,jB false],jt 16,jg 17 true (.fadd 1) [.v 7],ji 17 true 18,jg 17 true (.fadd 1) [.v 8],ji 17 true 20,jg 17 true (.bin .andNot .int) [.t 19,.t 21],jg 17 true (.bin .eql .int) [.t 22,jn 0],jw 17 .pick [.t 17,.t 23,jB false]])
 (.cond 17 (.region [jL 4,jN 2 8,jq (.mapdel (true,[(.int .i64),(.int .i64)])) [.t 0,.t 1]])
 .skip))))))))))
 (.seq (.region [jL 4,jk 156 [.t 0],jk 157 [.t 1],jm 3 2])
 .ret)))))
theorem cc131:QL Tryz.prog vs131 Tryz.f131.ntmps (Tryz.f131.body.getD .skip)=some (ic131 (Tryz.f131.body.getD .skip)):=by kernel_rfl
abbrev rs131:List RC:=[(.v 3)]
theorem fok131 (p:Bool):FnOk Tryz.prog 131 ⟨ic131 (Tryz.f131.body.getD .skip),vs131,58,rs131,p⟩:=FnOk.mk' Tryz.func131 hb131 (by kernel_rfl) cc131 (by kernel_rfl) (by kernel_rfl)
abbrev vs132:List Nat:=[0,2]
def ic132:IC:=(.seq (.region [jz 1 0])
 (.seq (.region [jv 0,jc 0,jG 0 1,jG 1 2,jl 3,je 4,jq (.bin .shl .int) [jn 1,.t 5],jm 1 6])
 .ret))
abbrev rs132:List RC:=[(.v 1)]
theorem fok132 (p:Bool):FnOk Tryz.prog 132 ⟨ic132,vs132,10,rs132,p⟩:=.mk2 Tryz.func132 (by kernel_rfl) (by kernel_rfl) (by kernel_rfl) (by kernel_rfl) (by kernel_rfl)
abbrev vs133:List Nat:=[0,1,2,3,4,6,7,8]
def ic133:IC:=(.seq (.region [jb 4 0,jb 5 2,jb 6 3,jw 7 .mv [jB false]])
 (.seq (.region [jv 1,jq (.mkfn (.func 159)) [.v 4,.v 5,.v 6],jk 158 [.t 0,.t 1],jm 7 2])
 .ret))
abbrev rs133:List RC:=[(.v 7)]
theorem fok133 (p:Bool):FnOk Tryz.prog 133 ⟨ic133,vs133,12,rs133,p⟩:=.mk2 Tryz.func133 (by kernel_rfl) (by kernel_rfl) (by kernel_rfl) (by kernel_rfl) (by kernel_rfl)
abbrev vs149:List Nat:=[0,1,2,4]
def ic149:IC:=(.seq (.region [jw 3 .mv [jB false]])
 (.seq (.region [jv 0,jL 1,jq (.bin .lss .int) [.t 0,.t 1],jt 2,jh 3 false 0,jg 3 false .load1 [.v 2],jg 3 false (.bin .gtr .int) [.t 4,.t 5],jq .pick [.t 3,jB true,.t 6],jm 3 7])
 .ret))
abbrev rs149:List RC:=[(.v 3)]
theorem fok149 (p:Bool):FnOk Tryz.prog 149 ⟨ic149,vs149,13,rs149,p⟩:=.mk2 Tryz.func149 (by kernel_rfl) (by kernel_rfl) (by kernel_rfl) (by kernel_rfl) (by kernel_rfl)
abbrev vs150:List Nat:=[0,2,3,4,6,7,8,28]
def ic150l0:IC:=(.seq (.region [jw 5 .snext [.v 4],jw 6 (.extract 0) [.v 5]])
 (.seq (.cond 6 .skip
 (.exit 0))
 (.block 1 (.seq (.region [jq (.extract 1) [.v 5],jq (.extract 2) [.v 5],jm 2 0,jm 3 1])
 (.seq (.region [jv 3,jq (.bin .lss .int) [.t 0,.c (.cv (.int .i32 97))],jt 1,jh 2 false 3,jg 2 false (.bin .gtr .int) [.t 3,.c (.cv (.int .i32 122))],jq .pick [.t 2,jB true,.t 4],jt 5,jh 6 true 2,jg 6 true (.bin .eql .int) [.t 7,jn 0],jg 6 true .mv [.t 8],jh 9 false 3,jg 9 false (.bin .lss .int) [.t 10,.c (.cv (.int .i32 48))],jg 6 true .pick [.t 9,jB true,.t 11],jg 6 true .mv [.t 12],jh 13 false 3,jg 13 false (.bin .gtr .int) [.t 14,.c (.cv (.int .i32 57))],jg 6 true .pick [.t 13,jB true,.t 15],jw 7 .pick [.t 6,.t 16,jB false]])
 (.cond 7 (.seq (.region [jw 1 .mv [jB false]])
 .ret)
 .skip))))))
def ic150:IC:=(.seq (.region [jw 1 .mv [jB false]])
 (.seq (.seq (.region [jv 0,jw 4 .rstr [.t 0]])
 (.block 0 (.loop ic150l0)))
 (.seq (.region [jv 0,jq (.len true) [.t 0],jq (.bslice 1 1 [(.cv (.int .i64 0))] [(0,1)]) [.t 1],jk 119 [jn 1,jn 16,.t 2],jq .not [.t 3],jm 1 4])
 .ret)))
abbrev rs150:List RC:=[(.v 1)]
theorem fok150 (p:Bool):FnOk Tryz.prog 150 ⟨ic150,vs150,34,rs150,p⟩:=.mk2 Tryz.func150 (by kernel_rfl) (by kernel_rfl) (by kernel_rfl) (by kernel_rfl) (by kernel_rfl)
abbrev vs151:List Nat:=[0,1,4]
def ic151:IC:=(.seq (.region [jw 2 .mv [jB false]])
 (.seq (.region [jv 0,jv 1,jk 164 [.t 0,.t 1],jq (.bin .geq .int) [.t 2,jn 0],jm 2 3])
 .ret))
abbrev rs151:List RC:=[(.v 2)]
theorem fok151 (p:Bool):FnOk Tryz.prog 151 ⟨ic151,vs151,9,rs151,p⟩:=.mk2 Tryz.func151 (by kernel_rfl) (by kernel_rfl) (by kernel_rfl) (by kernel_rfl) (by kernel_rfl)
abbrev vs152:List Nat:=[0,1,2,3]
def ic152:IC:=(.seq (.region [jb 2 0,jw 3 .mv [jB false]])
 (.seq (.region [jF 0 2,jl 0,jF 0 1,jl 2,jq (.bin .eql .str) [.t 1,.t 3],jm 3 4])
 .ret))
abbrev rs152:List RC:=[(.v 3)]
theorem fok152 (p:Bool):FnOk Tryz.prog 152 ⟨ic152,vs152,9,rs152,p⟩:=.mk2 Tryz.func152 (by kernel_rfl) (by kernel_rfl) (by kernel_rfl) (by kernel_rfl) (by kernel_rfl)
abbrev vs153:List Nat:=[0,1,4]
def ic153:IC:=(.seq (.region [jw 2 .mv [jB false]])
 (.seq (.region [jv 0,jv 1,jk 165 [.t 0,.t 1],jq (.bin .geq .int) [.t 2,jn 0],jm 2 3])
 .ret))
abbrev rs153:List RC:=[(.v 2)]
theorem fok153 (p:Bool):FnOk Tryz.prog 153 ⟨ic153,vs153,9,rs153,p⟩:=.mk2 Tryz.func153 (by kernel_rfl) (by kernel_rfl) (by kernel_rfl) (by kernel_rfl) (by kernel_rfl)
abbrev vs154:List Nat:=[0,1,2,3,6,10,22,23,24,25]
def ic154l0:IC:=(.seq (.region [jw 9 (.bin .lss .int) [.v 8,.v 7]])
 (.seq (.cond 9 .skip
 (.exit 0))
 (.seq (.block 1 (.seq (.region [jq (.iaS 1) [.v 6,.v 8],jl 0,jm 4 1])
 (.region [jL 3,jv 4,⟨none,none,.call,[(.t 0),(.t 1)]⟩])))
 (.region [jq (.bin .add .int) [.v 8,jn 1],jm 8 0]))))
def ic154:IC:=(.seq (.seq (.region [jL 1,jv 0,ja 1 0 1,jw 5 .load1 [.t 2]])
 (.cond 5 .ret
 .skip))
 (.seq (.region [jL 1,jv 0,ja 1 0 1,jq (.store 1) [.t 2,jB true]])
 (.seq (.region [jL 2,jc 0,jG 0 1,jG 0 2,jl 3,jv 0,ja 5 4 5,jG 1 6,jw 6 .load1 [.t 7],jw 7 (.len false) [.v 6],jz 8 0])
 (.block 0 (.loop ic154l0)))))
abbrev rs154:List RC:=[]
theorem fok154 (p:Bool):FnOk Tryz.prog 154 ⟨ic154,vs154,32,rs154,p⟩:=.mk2 Tryz.func154 (by kernel_rfl) (by kernel_rfl) (by kernel_rfl) (by kernel_rfl) (by kernel_rfl)
abbrev vs155:List Nat:=[0,1,2,4,6,9]
def ic155:IC:=(.seq (.region [jb 2 0,jz 3 0])
 (.seq (.seq (.region [jv 1,je 0,jw 5 (.bin .gtr .int) [.t 1,jn 40]])
 (.cond 5 (.seq (.region [jz 3 3])
 .ret)
 .skip))
 (.seq (.region [jv 1,jq (.mkfn (.func 167)) [.v 2],jk 166 [.t 0,.t 1],jt 2,jx 0 3,jx 1 3,jt 4,jm 4 5])
 (.seq (.region [jv 4,jm 3 0])
 .ret))))
abbrev rs155:List RC:=[(.v 3)]
theorem fok155 (p:Bool):FnOk Tryz.prog 155 ⟨ic155,vs155,17,rs155,p⟩:=.mk2 Tryz.func155 (by kernel_rfl) (by kernel_rfl) (by kernel_rfl) (by kernel_rfl) (by kernel_rfl)
abbrev vs157:List Nat:=[0,2]
def ic157:IC:=(.seq (.region [jw 1 .mv [jS]])
 (.seq (.region [jv 0,jk 171 [jS,.t 0],jm 1 1])
 .ret))
abbrev rs157:List RC:=[(.v 1)]
theorem fok157 (p:Bool):FnOk Tryz.prog 157 ⟨ic157,vs157,5,rs157,p⟩:=.mk2 Tryz.func157 (by kernel_rfl) (by kernel_rfl) (by kernel_rfl) (by kernel_rfl) (by kernel_rfl)
abbrev vs158:List Nat:=[0,1,4]
def ic158:IC:=(.seq (.region [jw 2 .mv [jB false]])
 (.seq (.region [jv 0,jv 1,jk 172 [.t 0,.t 1],jq (.bin .geq .int) [.t 2,jn 0],jm 2 3])
 .ret))
abbrev rs158:List RC:=[(.v 2)]
theorem fok158 (p:Bool):FnOk Tryz.prog 158 ⟨ic158,vs158,9,rs158,p⟩:=.mk2 Tryz.func158 (by kernel_rfl) (by kernel_rfl) (by kernel_rfl) (by kernel_rfl) (by kernel_rfl)
abbrev vs159:List Nat:=[0,1,2,3,4,5]
def ic159:IC:=(.seq (.region [jb 4 0,jw 5 .mv [jB false]])
 (.seq (.dr [[],[0],[1],[2],[],[4],[3,5],[6],[],[7,8],[9],[10],[11],[12,11],[11],[13,14,11],[15,11],[11,16],[17,11,0,1,2,3,4,5,6,7,8,9,10,11,12,13,14,15,16,17]] [jL 1,jc 0,jG 2 1,jl 2,jF 0 4,jl 4,ja 1 3 5,jl 6,jL 2,ja 1 7 8,jl 9,jt 10,jg 11 true (.fadd 1) [.v 4],ji 11 true 12,jg 11 true .load1 [.v 3],jg 11 true (.bin .and .int) [.t 13,.t 14],jg 11 true (.bin .eql .int) [.t 15,jn 0],jq .pick [.t 11,.t 16,jB false],jm 5 17])
 .ret))
abbrev rs159:List RC:=[(.v 5)]
theorem fok159 (p:Bool):FnOk Tryz.prog 159 ⟨ic159,vs159,24,rs159,p⟩:=.mk2 Tryz.func159 (by kernel_rfl) (by kernel_rfl) (by kernel_rfl) (by kernel_rfl) (by kernel_rfl)
abbrev vs164:List Nat:=[0,1,4,5,7,8,9,16]
def ic164l0:IC:=(.seq (.region [jw 6 (.bin .lss .int) [.v 5,.v 4]])
 (.seq (.cond 6 .skip
 (.exit 0))
 (.seq (.block 1 (.seq (.region [jv 5,jm 3 0])
 (.seq (.region [jv 1,jv 0,jv 3,ja 5 1 2,jq (.loadN 5) [.t 3],⟨(.some 7),none,.call,[(.t 0),(.t 4)]⟩])
 (.cond 7 (.seq (.region [jv 3,jm 2 0])
 .ret)
 .skip))))
 (.region [jq (.bin .add .int) [.v 5,jn 1],jm 5 0]))))
def ic164:IC:=(.seq (.region [jz 2 0])
 (.seq (.seq (.region [jv 0,jw 4 (.len false) [.t 0],jz 5 0])
 (.block 0 (.loop ic164l0)))
 (.seq (.region [jz 2 (-1)])
 .ret)))
abbrev rs164:List RC:=[(.v 2)]
theorem fok164 (p:Bool):FnOk Tryz.prog 164 ⟨ic164,vs164,19,rs164,p⟩:=.mk2 Tryz.func164 (by kernel_rfl) (by kernel_rfl) (by kernel_rfl) (by kernel_rfl) (by kernel_rfl)
abbrev vs165:List Nat:=[0,1,4,5,7,8,9,16]
def ic165l0:IC:=(.seq (.region [jw 6 (.bin .lss .int) [.v 5,.v 4]])
 (.seq (.cond 6 .skip
 (.exit 0))
 (.seq (.block 1 (.seq (.region [jv 5,jm 3 0])
 (.seq (.region [jv 1,jv 0,jv 3,ja 1 1 2,jl 3,jw 7 (.bin .eql .str) [.t 0,.t 4]])
 (.cond 7 (.seq (.region [jv 3,jm 2 0])
 .ret)
 .skip))))
 (.region [jq (.bin .add .int) [.v 5,jn 1],jm 5 0]))))
def ic165:IC:=(.seq (.region [jz 2 0])
 (.seq (.seq (.region [jv 0,jw 4 (.len false) [.t 0],jz 5 0])
 (.block 0 (.loop ic165l0)))
 (.seq (.region [jz 2 (-1)])
 .ret)))
abbrev rs165:List RC:=[(.v 2)]
theorem fok165 (p:Bool):FnOk Tryz.prog 165 ⟨ic165,vs165,19,rs165,p⟩:=.mk2 Tryz.func165 (by kernel_rfl) (by kernel_rfl) (by kernel_rfl) (by kernel_rfl) (by kernel_rfl)
abbrev vs166:List Nat:=[0,1,4,5,6,7,8,9,10,11,20]
def ic166l0:IC:=(.seq (.region [jw 9 (.bin .lss .int) [.v 8,.v 7]])
 (.seq (.cond 9 .skip
 (.exit 0))
 (.seq (.block 1 (.seq (.region [jv 8,jq (.iaS 2) [.v 6,.v 8],jq (.loadN 2) [.t 1],jw 5 (.alloc [(.cv (.int .i64 0)),(.cv (.int .i64 0))]) [],jm 4 0,jq (.store 2) [.v 5,.t 2]])
 (.seq (.region [jv 1,jv 4,jN 2 5,⟨none,none,.call,[(.t 0),(.t 1),(.t 2)]⟩,jm 3 3])
 (.seq (.region [jv 3,jw 10 (.bin .neq .int) [.t 0,jn 0]])
 (.cond 10 (.seq (.region [jv 4,jv 3,jm 2 0,jm 3 1])
 .ret)
 .skip)))))
 (.region [jq (.bin .add .int) [.v 8,jn 1],jm 8 0]))))
def ic166:IC:=(.seq (.region [jz 2 0,jz 3 0])
 (.seq (.seq (.region [jw 6 .mv [.v 0],jw 7 (.len false) [.v 6],jz 8 0])
 (.block 0 (.loop ic166l0)))
 (.seq (.region [jz 2 0,jz 3 0])
 .ret)))
abbrev rs166:List RC:=[(.v 2),(.v 3)]
theorem fok166 (p:Bool):FnOk Tryz.prog 166 ⟨ic166,vs166,24,rs166,p⟩:=.mk2 Tryz.func166 (by kernel_rfl) (by kernel_rfl) (by kernel_rfl) (by kernel_rfl) (by kernel_rfl)
abbrev vs167:List Nat:=[0,1,2,4,5,6,18]
def ic167:IC:=(.seq (.region [jb 3 1,jz 4 0])
 (.seq (.block 0 (.seq (.dr [[],[0],[1],[2],[3],[4],[5],[],[7],[8],[6,9],[10,10]] [jL 2,jc 0,jG 0 1,jG 0 2,jl 3,je 4,jq (.bin .sub .int) [.t 5,jn 1],jF 0 3,jl 7,jq (.bslice 1 1 [(.cv (.int .i64 0))] [(0,1)]) [.t 8],jk 119 [jn 0,.t 6,.t 9],jm 5 10])
 (.cond 5 (.seq (.region [jz 4 4])
 .ret)
 (.seq (.dr [[],[0],[1],[],[3],[4],[2,5,1],[6,6]] [jL 2,jk 132 [.t 0],jq (.bin .sub .int) [.t 1,jn 1],jF 1 3,jl 3,jq (.bslice 1 1 [(.cv (.int .i64 0))] [(0,1)]) [.t 4],jk 119 [jn 0,.t 2,.t 5],jm 6 6])
 (.cond 6 (.seq (.region [jz 4 7])
 .ret)
 .skip)))))
 (.seq (.region [jz 4 0])
 .ret)))
abbrev rs167:List RC:=[(.v 4)]
theorem fok167 (p:Bool):FnOk Tryz.prog 167 ⟨ic167,vs167,26,rs167,p⟩:=.mk2 Tryz.func167 (by kernel_rfl) (by kernel_rfl) (by kernel_rfl) (by kernel_rfl) (by kernel_rfl)
abbrev vs168:List Nat:=[0,1,4]
def ic168:IC:=(.seq (.region [jv 0,je 0,jm 2 1])
 (.region [jv 0,jv 2,jv 2,jq (.conv .u64) [.t 2],jk 87 [.t 3],jv 1,jk 174 [.t 0,jn 0,.t 1,.t 4,.t 5]]))
abbrev rs168:List RC:=[]
theorem fok168 (p:Bool):FnOk Tryz.prog 168 ⟨ic168,vs168,14,rs168,p⟩:=.mk2 Tryz.func168 (by kernel_rfl) (by kernel_rfl) (by kernel_rfl) (by kernel_rfl) (by kernel_rfl)
abbrev vs169:List Nat:=[0,1,2,3,4]
def ic169:IC:=(.seq (.region [jb 2 0,jb 3 1,jz 4 0])
 (.seq (.dr [[],[0],[],[2],[1,3],[],[5],[],[7],[6,8,4],[4,9],[10,9],[11,11,0,1,2,3,4,5,6,7,8,9,10,11]] [jF 0 2,jl 0,jF 0 3,jl 2,jk 41 [.t 1,.t 3],jF 1 2,jl 5,jF 1 3,jl 7,jk 41 [.t 6,.t 8],jq (.bslice 1 2 [(.cv (.int .i64 0)),(.cv (.int .i64 0))] [(0,1),(1,1)]) [.t 4,.t 9],jk 40 [.t 10],jm 4 11])
 .ret))
abbrev rs169:List RC:=[(.v 4)]
theorem fok169 (p:Bool):FnOk Tryz.prog 169 ⟨ic169,vs169,17,rs169,p⟩:=.mk2 Tryz.func169 (by kernel_rfl) (by kernel_rfl) (by kernel_rfl) (by kernel_rfl) (by kernel_rfl)
abbrev vs170:List Nat:=[0,1,2]
def ic170:IC:=(.seq (.region [jb 1 0,jw 2 .mv [.c (.cv .nilf)]])
 (.seq (.region [jq (.mkfn (.func 175)) [.v 1],jm 2 0])
 .ret))
abbrev rs170:List RC:=[(.v 2)]
theorem fok170 (p:Bool):FnOk Tryz.prog 170 ⟨ic170,vs170,4,rs170,p⟩:=.mk2 Tryz.func170 (by kernel_rfl) (by kernel_rfl) (by kernel_rfl) (by kernel_rfl) (by kernel_rfl)
theorem hb171:Tryz.f171.body=some (Tryz.f171.body.getD .skip):=by kernel_rfl
abbrev vs171:List Nat:=[0,1,2,4,5,6,7]
def ic171 (b171:Code):IC:=(.seq (.region [jb 2 0,jw 3 .mv [jS]])
 (.seq (.seq (.region [jw 5 .mv [.v 1]])
 (.block 0 (.rangef (.v 5) #[7] (nav [1,0,1,0,2] b171) (nav [1,0,1,0,3] b171) (.region [jw 4 (.alloc [(.cv (.int .i64 0)),(.cv (.int .i64 0))]) [],jq (.store 2) [.v 4,.v 6]])
 (.block 1 (.region [jL 2,jN 2 4,jq (.bslice 2 1 [(.cv (.int .i64 0)),(.cv (.int .i64 0))] [(0,2)]) [.t 1],jq (.append 2 16) [.t 0,.t 2],jq (.store 1) [.v 2,.t 3]])))))
 (.seq (.region [jL 2,jm 3 0])
 .ret)))
theorem cc171:QL Tryz.prog vs171 Tryz.f171.ntmps (Tryz.f171.body.getD .skip)=some (ic171 (Tryz.f171.body.getD .skip)):=by kernel_rfl
abbrev rs171:List RC:=[(.v 3)]
theorem fok171 (p:Bool):FnOk Tryz.prog 171 ⟨ic171 (Tryz.f171.body.getD .skip),vs171,13,rs171,p⟩:=FnOk.mk' Tryz.func171 hb171 (by kernel_rfl) cc171 (by kernel_rfl) (by kernel_rfl)
abbrev vs172:List Nat:=[0,1,4,5,7,8,9,16]
def ic172l0:IC:=(.seq (.region [jw 6 (.bin .lss .int) [.v 5,.v 4]])
 (.seq (.cond 6 .skip
 (.exit 0))
 (.seq (.block 1 (.seq (.region [jv 5,jm 3 0])
 (.seq (.region [jv 1,jv 0,jv 3,ja 2 1 2,jq (.loadN 2) [.t 3],⟨(.some 7),none,.call,[(.t 0),(.t 4)]⟩])
 (.cond 7 (.seq (.region [jv 3,jm 2 0])
 .ret)
 .skip))))
 (.region [jq (.bin .add .int) [.v 5,jn 1],jm 5 0]))))
def ic172:IC:=(.seq (.region [jz 2 0])
 (.seq (.seq (.region [jv 0,jw 4 (.len false) [.t 0],jz 5 0])
 (.block 0 (.loop ic172l0)))
 (.seq (.region [jz 2 (-1)])
 .ret)))
abbrev rs172:List RC:=[(.v 2)]
theorem fok172 (p:Bool):FnOk Tryz.prog 172 ⟨ic172,vs172,19,rs172,p⟩:=.mk2 Tryz.func172 (by kernel_rfl) (by kernel_rfl) (by kernel_rfl) (by kernel_rfl) (by kernel_rfl)
abbrev vs174:List Nat:=[0,1,2,3,4,10,11,12,13,14,15,16,17,18,19,20,25,32,39,56,75,80,97,125]
def ic174l0:IC:=(.block 1 (.seq (.region [jv 2,jv 1,jq (.bin .sub .int) [.t 0,.t 1],jm 7 2])
 (.seq (.seq (.region [jv 7,jw 16 (.bin .leq .int) [.t 0,jn 12]])
 (.cond 16 (.seq (.region [jv 0,jv 1,jv 2,jv 4,jk 176 [.t 0,.t 1,.t 2,.t 3]])
 .ret)
 .skip))
 (.seq (.seq (.region [jv 3,jw 17 (.bin .eql .int) [.t 0,jn 0]])
 (.cond 17 (.seq (.region [jv 0,jv 1,jv 2,jv 4,jk 177 [.t 0,.t 1,.t 2,.t 3]])
 .ret)
 .skip))
 (.seq (.seq (.region [jv 5,jw 18 .not [.t 0]])
 (.cond 18 (.seq (.region [jv 0,jv 1,jv 2,jv 4,jk 178 [.t 0,.t 1,.t 2,.t 3]])
 (.region [jv 3,jq (.bin .sub .int) [.t 0,jn 1],jm 3 1]))
 .skip))
 (.seq (.region [jv 0,jv 1,jv 2,jv 4,jk 179 [.t 0,.t 1,.t 2,.t 3],jt 4,jx 0 5,jx 1 5,jm 8 6,jm 9 7])
 (.seq (.seq (.region [jv 9,jw 19 (.bin .eql .int) [.t 0,jn 2]])
 (.cond 19 (.seq (.region [jv 0,jv 1,jv 2,jv 4,jk 180 [.t 0,.t 1,.t 2,.t 3]])
 (.seq (.region [jv 2,jq (.bin .sub .int) [.t 0,jn 1],jv 8,jv 1,jq (.bin .sub .int) [.t 2,.t 3],jq (.bin .sub .int) [.t 1,.t 4],jm 8 5])
 (.region [jz 9 1])))
 .skip))
 (.seq (.seq (.region [jv 5,jt 0,jh 1 true 6,jq .pick [.t 1,.t 2,jB false],jt 3,jh 4 true 9,jg 4 true (.bin .eql .int) [.t 5,jn 1],jw 20 .pick [.t 4,.t 6,jB false]])
 (.cond 20 (.seq (.region [jv 0,jv 1,jv 2,jv 4,jd 21 181 [.t 0,.t 1,.t 2,.t 3]])
 (.cond 21 .ret
 .skip))
 .skip))
 (.seq (.seq (.dr [[],[0],[1],[2],[2],[2],[5,2],[4,6,2],[7,2],[2],[2],[9,10,2],[11,2],[3,8,12,2,2],[13,2],[14,2],[2,15]] [jv 1,jq (.bin .gtr .int) [.t 0,jn 0],jt 1,jh 2 true 4,jh 2 true 0,jh 2 true 1,jg 2 true (.bin .sub .int) [.t 5,jn 1],jg 2 true (.iaS 2) [.t 4,.t 6],jg 2 true (.loadN 2) [.t 7],jh 2 true 0,jh 2 true 8,jg 2 true (.iaS 2) [.t 9,.t 10],jg 2 true (.loadN 2) [.t 11],⟨none,(.some (2,true)),.call,[(.t 3),(.t 8),(.t 12)]⟩,jg 2 true (.bin .lss .int) [.t 13,jn 0],jg 2 true .not [.t 14],jw 22 .pick [.t 2,.t 15,jB false]])
 (.cond 22 (.seq (.region [jv 0,jv 1,jv 2,jv 8,jv 4,jk 182 [.t 0,.t 1,.t 2,.t 3,.t 4],jm 10 5])
 (.seq (.region [jv 10,jm 1 0])
 (.exit 1)))
 .skip))
 (.seq (.region [jv 0,jv 1,jv 2,jv 8,jv 4,jk 183 [.t 0,.t 1,.t 2,.t 3,.t 4],jt 5,jx 0 6,jx 1 6,jm 11 7,jm 12 8])
 (.seq (.region [jv 12,jm 6 0])
 (.seq (.region [jv 11,jv 1,jq (.bin .sub .int) [.t 0,.t 1],jv 2,jv 11,jq (.bin .sub .int) [.t 3,.t 4],jm 13 2,jm 14 5])
 (.seq (.region [jv 7,jq (.bin .quo .int) [.t 0,jn 8],jm 15 1])
 (.seq (.region [jv 13,jv 14,jw 23 (.bin .lss .int) [.t 0,.t 1]])
 (.cond 23 (.seq (.region [jv 13,jv 15,jq (.bin .geq .int) [.t 0,.t 1],jm 5 2])
 (.seq (.region [jv 0,jv 1,jv 11,jv 3,jv 4,jk 174 [.t 0,.t 1,.t 2,.t 3,.t 4]])
 (.region [jv 11,jq (.bin .add .int) [.t 0,jn 1],jm 1 1])))
 (.seq (.region [jv 14,jv 15,jq (.bin .geq .int) [.t 0,.t 1],jm 5 2])
 (.seq (.region [jv 0,jv 11,jq (.bin .add .int) [.t 1,jn 1],jv 2,jv 3,jv 4,jk 174 [.t 0,.t 2,.t 3,.t 4,.t 5]])
 (.region [jv 11,jm 2 0]))))))))))))))))))
def ic174:IC:=(.seq (.region [jw 5 .mv [jB true]])
 (.seq (.region [jw 6 .mv [jB true]])
 (.block 0 (.loop ic174l0))))
abbrev rs174:List RC:=[]
theorem fok174 (p:Bool):FnOk Tryz.prog 174 ⟨ic174,vs174,148,rs174,p⟩:=.mk2 Tryz.func174 (by kernel_rfl) (by kernel_rfl) (by kernel_rfl) (by kernel_rfl) (by kernel_rfl)
abbrev vs175:List Nat:=[0,1,4,5,6,7,8,14]
def ic175l0:IC:=(.seq (.region [jw 6 (.bin .lss .int) [.v 5,.v 4]])
 (.seq (.cond 6 .skip
 (.exit 0))
 (.seq (.block 1 (.seq (.region [jq (.iaS 2) [.v 3,.v 5],jq (.loadN 2) [.t 0],jw 2 (.alloc [(.cv (.int .i64 0)),(.cv (.int .i64 0))]) [],jq (.store 2) [.v 2,.t 1]])
 (.seq (.region [jv 0,jN 2 2,⟨none,none,.call,[(.t 0),(.t 1)]⟩,jw 7 .not [.t 2]])
 (.cond 7 .ret
 .skip))))
 (.region [jq (.bin .add .int) [.v 5,jn 1],jm 5 0]))))
def ic175:IC:=(.seq (.region [jw 3 .load1 [.v 1],jw 4 (.len false) [.v 3],jz 5 0])
 (.block 0 (.loop ic175l0)))
abbrev rs175:List RC:=[]
theorem fok175 (p:Bool):FnOk Tryz.prog 175 ⟨ic175,vs175,16,rs175,p⟩:=.mk2 Tryz.func175 (by kernel_rfl) (by kernel_rfl) (by kernel_rfl) (by kernel_rfl) (by kernel_rfl)
abbrev vs176:List Nat:=[0,1,2,3,8,9,14,34]
def ic176l0:IC:=(.seq (.seq (.dr [[],[],[0,1],[2],[3],[3],[3],[5,6,3],[7,3],[3],[3],[10,3],[9,11,3],[12,3],[4,8,13,3,3],[14,3],[3,15]] [jv 5,jv 1,jq (.bin .gtr .int) [.t 0,.t 1],jt 2,jh 3 true 3,jh 3 true 0,jh 3 true 5,jg 3 true (.iaS 2) [.t 5,.t 6],jg 3 true (.loadN 2) [.t 7],jh 3 true 0,jh 3 true 5,jg 3 true (.bin .sub .int) [.t 10,jn 1],jg 3 true (.iaS 2) [.t 9,.t 11],jg 3 true (.loadN 2) [.t 12],⟨none,(.some (3,true)),.call,[(.t 4),(.t 8),(.t 13)]⟩,jg 3 true (.bin .lss .int) [.t 14,jn 0],jw 7 .pick [.t 3,.t 15,jB false]])
 (.cond 7 .skip
 (.exit 2)))
 (.seq (.block 3 (.dr [[],[],[],[],[3],[],[],[6],[5,7],[8],[],[],[10,11],[12],[0,1,0,1,5,6,7,8,9,13],[14,9,0,1,5,6,7,8,9,13],[2,4,0,1,2,3,4,5,6,7,8,9,10,11,12,13,14,15],[16,13,15,0,1,2,3,4,5,6,7,8,9,10,11,12,13,14,15]] [jv 0,jv 5,jv 0,jv 5,jq (.bin .sub .int) [.t 3,jn 1],jv 0,jv 5,jq (.bin .sub .int) [.t 6,jn 1],ja 2 5 7,jq (.loadN 2) [.t 8],jv 0,jv 5,ja 2 10 11,jq (.loadN 2) [.t 12],ja 2 0 1,jq (.store 2) [.t 14,.t 9],ja 2 2 4,jq (.store 2) [.t 16,.t 13]]))
 (.region [jv 5,jq (.bin .sub .int) [.t 0,jn 1],jm 5 1])))
def ic176l1:IC:=(.seq (.seq (.region [jv 4,jv 2,jw 6 (.bin .lss .int) [.t 0,.t 1]])
 (.cond 6 .skip
 (.exit 0)))
 (.seq (.block 1 (.seq (.region [jv 4,jm 5 0])
 (.block 2 (.loop ic176l0))))
 (.region [jv 4,jq (.bin .add .int) [.t 0,jn 1],jm 4 1])))
def ic176:IC:=(.seq (.region [jv 1,jq (.bin .add .int) [.t 0,jn 1],jm 4 1])
 (.block 0 (.loop ic176l1)))
abbrev rs176:List RC:=[]
theorem fok176 (p:Bool):FnOk Tryz.prog 176 ⟨ic176,vs176,53,rs176,p⟩:=.mk2 Tryz.func176 (by kernel_rfl) (by kernel_rfl) (by kernel_rfl) (by kernel_rfl) (by kernel_rfl)
inductive D {α:Sort 1} (a:α):Type where
 | mk
inductive D1 {α:Type} (a:α):Type where
 | mk
def gK (o:Option Bool) (x y:Prop) (_:D x) (_:D y):Prop:=match o with | none=>False | some false=>x | some true=>y
def pK (o:Option (AV × List AObj)) (K:AV→List AObj→Prop) (_:D1 K):Prop:=match o with | none=>False | some (v,σ)=>K v σ
def cK (o:AV) (x y:Prop) (_:D x) (_:D y):Prop:=match o with | .cv (.bool true)=>x | .cv (.bool false)=>y | _=>False
def ACk (P:Program) (f:FuncId) (args:List AV) (σ:List AObj) (K:AV→List AObj→Prop) (_:D1 K):Prop:=AC P f args σ K
def YCk (P:Program) (l:Nat) (args:List AV) (σ:List AObj) (K:AV→List AObj→Prop) (_:D1 K):Prop:=YC P l args σ K
def SA (P:Program) (fv:AV) (args:List AV) (σ:List AObj) (K:AV→List AObj→Prop) (_:D1 K):Prop:=X0 P fv args σ K
def QeE (P:Program) (as_:List AV) (σ:List AObj) (K:AV→List AObj→Prop) (d:D1 K):Prop:=match as_ with | fv::as_=>SA P fv as_ σ K d | []=>False
def oK (P:Program) (op:IK) (as_:List AV) (σ:List AObj) (K:AV→List AObj→Prop) (d:D1 K):Prop:=match op with | .prim io=>pK (ZQ io as_ σ) K d | .call=>QeE P as_ σ K d
def rK (o:Option AV) (K:AV→Prop) (_:D1 K):Prop:=match o with | none=>False | some v=>K v
def ILk (P:Program) (fx:Fx) (a:IC) (s:St) (Q:Exit→St→Prop) (_:D1 a) (_:D1 Q):Prop:=IL P fx a s Q
def DWk (P:Program) (fx:Fx) (dirs:List (List Nat)) (is:List Ins) (s:St) (Q:Exit→St→Prop) (_:D1 is) (_:D1 Q):Prop:=DW P fx dirs is s Q
def RWk (P:Program) (fx:Fx) (g:Opd) (ps:Array Nat) (assign body:Code) (s:St) (Q:Exit→St→Prop) (_:D1 assign) (_:D1 body) (_:D1 Q):Prop:=RW P fx g ps assign body s Q
theorem gK_t {x y:Prop} {d:D x} {e:D y}:gK (some true) x y d e=y:=Eq.trans rfl rfl
theorem gK_f {x y:Prop} {d:D x} {e:D y}:gK (some false) x y d e=x:=Eq.trans rfl rfl
theorem pK_s {v:AV} {σ:List AObj} {K:AV→List AObj→Prop} {d:D1 K}:pK (some (v,σ)) K d=K v σ:=Eq.trans rfl rfl
theorem cK_t {x y:Prop} {d:D x} {e:D y}:cK (.cv (.bool true)) x y d e=x:=Eq.trans rfl rfl
theorem cK_f {x y:Prop} {d:D x} {e:D y}:cK (.cv (.bool false)) x y d e=y:=Eq.trans rfl rfl
theorem callK_c {P:Program} {fv:AV} {as_:List AV} {σ:List AObj} {K:AV→List AObj→Prop} {d:D1 K}:QeE P (fv::as_) σ K d=SA P fv as_ σ K d:=Eq.trans rfl rfl
theorem oK_p {P:Program} {io:IOp} {as_:List AV} {σ:List AObj} {K:AV→List AObj→Prop} {d:D1 K}:oK P (.prim io) as_ σ K d=pK (ZQ io as_ σ) K d:=Eq.trans rfl rfl
theorem oK_c {P:Program} {as_:List AV} {σ:List AObj} {K:AV→List AObj→Prop} {d:D1 K}:oK P .call as_ σ K d=QeE P as_ σ K d:=Eq.trans rfl rfl
theorem rK_s {v:AV} {K:AV→Prop} {d:D1 K}:rK (some v) K d=K v:=Eq.trans rfl rfl
theorem CallV_fn {P:Program} {f:FuncId} {cap args:List AV} {σ:List AObj} {Q:AV→List AObj→Prop} {d:D1 Q}:SA P (.fn (.func f) cap) args σ Q d=ACk P f (args++cap) σ Q d:=Eq.trans rfl rfl
theorem CallV_bm {P:Program} {f:FuncId} {first args:List AV} {σ:List AObj} {Q:AV→List AObj→Prop} {d:D1 Q}:SA P (.bm f first) args σ Q d=ACk P f (first++args) σ Q d:=Eq.trans rfl rfl
theorem QfJ {P:Program} {l:Nat} {args:List AV} {σ:List AObj} {Q:AV→List AObj→Prop} {d:D1 Q}:SA P (.yld l) args σ Q d=YCk P l args σ Q d:=Eq.trans rfl rfl
def RS (P:Program):(is:List Ins)→List AV→List AV→List AObj→(K:List AV→List AV→List AObj→Prop)→D1 is→D1 K→Prop
 | [],vals,ρ,σ,K,_,_=>K vals ρ σ
 | i::is,vals,ρ,σ,K,_,_=>gK (gdOk ρ i.gd) (RS P is (setD i.dst vals (.tup [])) (ρ++[.tup []]) σ K .mk .mk) (oK P i.op (i.args.map (WY vals ρ)) σ (fun v σ'=>RS P is (setD i.dst vals v) (ρ++[v]) σ' K .mk .mk) .mk) .mk .mk
theorem RS_n {P:Program} {vals ρ:List AV} {σ:List AObj} {K:List AV→List AV→List AObj→Prop} {d:D1 ([]:List Ins)} {e:D1 K}:RS P [] vals ρ σ K d e=K vals ρ σ:=Eq.trans rfl rfl
theorem RS_c {P:Program} {i:Ins} {is:List Ins} {vals ρ:List AV} {σ:List AObj} {K:List AV→List AV→List AObj→Prop} {d:D1 (i::is)} {e:D1 K}:RS P (i::is) vals ρ σ K d e =
  gK (gdOk ρ i.gd) (RS P is (setD i.dst vals (.tup [])) (ρ++[.tup []]) σ K .mk .mk) (oK P i.op (i.args.map (WY vals ρ)) σ (fun v σ'=>RS P is (setD i.dst vals v) (ρ++[v]) σ' K .mk .mk) .mk) .mk .mk:=Eq.trans rfl rfl
theorem T2 {P:Program}:∀ (is:List Ins) (vals ρ:List AV) (σ:List AObj) (K:List AV→List AV→List AObj→Prop) (d:D1 is) (e:D1 K),RS P is vals ρ σ K d e→RG P is vals ρ σ K
 | [],_,_,_,_,_,_,h=>h
 | i :: is,vals,ρ,σ,K,_,_,h=>by
  simp only[RS] at h
  simp only[RG]
  unfold gK at h
  split at h
  ·exact h.elim
  ·rename_i hg;simp only[hg];exact T2 is _ _ _ _ _ _ h
  ·rename_i hg
   simp only[hg]
   unfold oK at h
   split at h
   ·rename_i io hop
    unfold pK at h
    split at h
    ·exact h.elim
    ·rename_i v σ' hs;simp only[hop,hs];exact T2 is _ _ _ _ _ _ h
   ·rename_i hop
    unfold QeE at h
    split at h
    ·rename_i fv as_ ha
     simp only[hop,ha]
     exact X0.mono h fun r τ hr=>T2 is _ _ _ _ _ _ hr
    ·exact h.elim
def kK (P:Program) (kp:Bool) (as_:List AV) (σ:List AObj) (K:AV→List AObj→Prop) (_:D1 K):Prop :=
 match kp,as_ with
 | true,fv::as_=>∃ v,X0 P fv as_ σ (fun v' τ'=>v'=v∧τ'=σ)∧QR σ.length v=true∧K v σ
 | false,fv::as_=>∃ v τ,X0 P fv as_ σ (fun v' τ'=>v'=v∧τ'=τ)∧HM σ v τ∧K v τ
 | _,[]=>False
def oX (P:Program) (kp:Bool) (op:IK) (as_:List AV) (σ:List AObj) (K:AV→List AObj→Prop) (d:D1 K):Prop:=match op with | .prim io=>pK (ZQ io as_ σ) K d | .call=>kK P kp as_ σ K d
theorem oX_p {P:Program} {kp:Bool} {io:IOp} {as_:List AV} {σ:List AObj} {K:AV→List AObj→Prop} {d:D1 K}:oX P kp (.prim io) as_ σ K d=pK (ZQ io as_ σ) K d:=Eq.trans rfl rfl
theorem oX_c {P:Program} {kp:Bool} {as_:List AV} {σ:List AObj} {K:AV→List AObj→Prop} {d:D1 K}:oX P kp .call as_ σ K d=kK P kp as_ σ K d:=Eq.trans rfl rfl
theorem YE {P:Program} {fv v:AV} {as_:List AV} {σ:List AObj} {K:AV→List AObj→Prop} {d:D1 K} (h:X0 P fv as_ σ fun v' τ'=>v'=v∧τ'=σ) (hl:QR 0 v=true) (hk:K v σ):kK P true (fv::as_) σ K d:=⟨v,h,Y8 (QF _) v hl,hk⟩
theorem MS {P:Program} {fv v:AV} {as_:List AV} {σ τ:List AObj} {K:AV→List AObj→Prop} {d:D1 K} (h:X0 P fv as_ σ fun v' τ'=>v'=v∧τ'=τ) (hl:HM σ v τ) (hk:K v τ):kK P false (fv::as_) σ K d:=⟨v,τ,h,hl,hk⟩
def RSx (P:Program) (kp:List Nat) (xs:List (Nat × Nat)):Nat→(is:List Ins)→List PlT→List (List AObj)→List AV→List AV→List AObj→(K:List AV→List AV→List AObj→Prop)→D1 is→D1 K→Prop
 | _,[],pl,hs,vals,ρ,σ,K,_,_=>xAll xs pl (hs++[σ])∧K vals ρ σ
 | j,i::is,pl,hs,vals,ρ,σ,K,_,_ =>
  gK (gdOk ρ i.gd) (RSx P kp xs (j+1) is (pl++[.no]) (hs++[σ]) (setD i.dst vals (.tup [])) (ρ++[.tup []]) σ K .mk .mk)
   (oX P (kp.contains j) i.op (i.args.map (WY vals ρ)) σ (fun v σ'=>RSx P kp xs (j+1) is (pl++[plOf i (i.args.map (WY vals ρ)) σ]) (hs++[σ]) (setD i.dst vals v) (ρ++[v]) σ' K .mk .mk) .mk) .mk .mk
theorem RSx_n {P:Program} {kp:List Nat} {xs:List (Nat × Nat)} {j:Nat} {pl:List PlT} {hs:List (List AObj)} {vals ρ:List AV} {σ:List AObj} {K:List AV→List AV→List AObj→Prop} {d:D1 ([]:List Ins)} {e:D1 K}:RSx P kp xs j [] pl hs vals ρ σ K d e=(xAll xs pl (hs++[σ])∧K vals ρ σ):=Eq.trans rfl rfl
theorem RSx_c {P:Program} {kp:List Nat} {xs:List (Nat × Nat)} {j:Nat} {pl:List PlT} {hs:List (List AObj)} {i:Ins} {is:List Ins} {vals ρ:List AV} {σ:List AObj} {K:List AV→List AV→List AObj→Prop} {d:D1 (i::is)} {e:D1 K}:RSx P kp xs j (i::is) pl hs vals ρ σ K d e =
  gK (gdOk ρ i.gd) (RSx P kp xs (j+1) is (pl++[.no]) (hs++[σ]) (setD i.dst vals (.tup [])) (ρ++[.tup []]) σ K .mk .mk)
   (oX P (kp.contains j) i.op (i.args.map (WY vals ρ)) σ (fun v σ'=>RSx P kp xs (j+1) is (pl++[plOf i (i.args.map (WY vals ρ)) σ]) (hs++[σ]) (setD i.dst vals v) (ρ++[v]) σ' K .mk .mk) .mk) .mk .mk:=Eq.trans rfl rfl
theorem EV {P:Program} {kp:List Nat} {xs:List (Nat × Nat)}:∀ (is:List Ins) (j:Nat) (pl:List PlT) (hs:List (List AObj)) (vals ρ:List AV) (σ:List AObj) (K:List AV→List AV→List AObj→Prop) (d:D1 is) (e:D1 K),RSx P kp xs j is pl hs vals ρ σ K d e→RPx P kp xs j is pl hs vals ρ σ K
 | [],_,_,_,_,_,_,_,_,_,h=>h
 | i :: is,j,pl,hs,vals,ρ,σ,K,_,_,h=>by
  simp only[RSx] at h
  simp only[RPx]
  unfold gK at h
  split at h
  ·exact h.elim
  ·rename_i hg;try simp only[hg]
   exact EV is _ _ _ _ _ _ _ _ _ h
  ·rename_i hg
   try simp only[hg]
   unfold oX at h
   split at h
   ·rename_i io hop
    unfold pK at h
    split at h
    ·exact h.elim
    ·rename_i v σ' hs';simp only[hop,hs'];exact EV is _ _ _ _ _ _ _ _ _ h
   ·rename_i hop
    have hpl:∀ as_,plOf i as_ σ=.no:=fun as_=>by simp[plOf,hop]
    unfold kK at h
    split at h
    ·rename_i fv as_ hkp ha
     simp only[hop,ha,hkp,if_true]
     obtain ⟨v,g1,g2,g3⟩:=h
     refine ⟨v,g1,g2,?_⟩
     have g3:=EV is _ _ _ _ _ _ _ _ _ g3
     rwa [hpl] at g3
    ·rename_i fv as_ hkp ha
     simp only[hop,ha,hkp,if_false,QT]
     obtain ⟨v,τ,g1,g2,g3⟩:=h
     refine ⟨v,τ,g1,g2,?_⟩
     have g3:=EV is _ _ _ _ _ _ _ _ _ g3
     rwa [hpl] at g3
    ·exact h.elim
def IS (P:Program) (fx:Fx):(ic:IC)→St→(Q:Exit→St→Prop)→D1 ic→D1 Q→Prop
 | .skip,s,Q,_,_=>Q .normal s
 | .label _,s,Q,_,_=>Q .normal s
 | .exit i,s,Q,_,_=>Q (.exit i) s
 | .ret,s,Q,_,_=>Q .ret s
 | .seq a b,s,Q,_,_=>IS P fx a s (fun e s'=>match e with | .normal=>IS P fx b s' Q .mk .mk | e=>Q e s') .mk .mk
 | .block i a,s,Q,_,_=>IS P fx a s (fun e s'=>match e with | .exit i'=>if i'=i then Q .normal s' else Q (.exit i') s' | e=>Q e s') .mk .mk
 | .cond i a b,s,Q,_,_=>cK (s.vals.getD i .undef) (IS P fx a s Q .mk .mk) (IS P fx b s Q .mk .mk) .mk .mk
 | .loop a,s,Q,_,_=>ILk P fx a s Q .mk .mk
 | .scope a,s,Q,_,_=>IS P fx a s (fun e s'=>match e with | .goto _=>False | e=>Q e s') .mk .mk
 | .region is,s,Q,_,_=>RS P is s.vals [] s.heap (fun vals _ σ=>Q .normal ⟨vals,σ⟩) .mk .mk
 | .draw dirs is _,s,Q,_,_=>DWk P fx dirs is s Q .mk .mk
 | .rangef g ps assign body _ _,s,Q,_,_=>RWk P fx g ps assign body s Q .mk .mk .mk
section
variable {P:Program} {fx:Fx} {s:St} {Q:Exit→St→Prop} {e:D1 Q}
theorem IS_skip {d:D1 IC.skip}:IS P fx .skip s Q d e=Q .normal s:=Eq.trans rfl rfl
theorem IS_label {l:Nat} {d:D1 (IC.label l)}:IS P fx (.label l) s Q d e=Q .normal s:=Eq.trans rfl rfl
theorem IS_exit {i:Nat} {d:D1 (IC.exit i)}:IS P fx (.exit i) s Q d e=Q (.exit i) s:=Eq.trans rfl rfl
theorem IS_ret {d:D1 IC.ret}:IS P fx .ret s Q d e=Q .ret s:=Eq.trans rfl rfl
def kSeq (P:Program) (fx:Fx) (b:IC) (Q:Exit→St→Prop):Exit→St→Prop:=fun e s'=>match e with | .normal=>IS P fx b s' Q .mk .mk | e=>Q e s'
def Qal (i:Nat) (Q:Exit→St→Prop):Exit→St→Prop:=fun e s'=>match e with | .exit i'=>if i'=i then Q .normal s' else Q (.exit i') s' | e=>Q e s'
def Qak (Q:Exit→St→Prop):Exit→St→Prop:=fun e s'=>match e with | .goto _=>False | e=>Q e s'
def kReg (Q:Exit→St→Prop):List AV→List AV→List AObj→Prop:=fun vals _ σ=>Q .normal ⟨vals,σ⟩
theorem kSeq_n {b:IC}:kSeq P fx b Q .normal s=IS P fx b s Q .mk .mk:=Eq.trans rfl rfl
theorem kSeq_x {b:IC} {i:Nat}:kSeq P fx b Q (.exit i) s=Q (.exit i) s:=Eq.trans rfl rfl
theorem kSeq_r {b:IC}:kSeq P fx b Q .ret s=Q .ret s:=Eq.trans rfl rfl
theorem kBlock_n {i:Nat}:Qal i Q .normal s=Q .normal s:=Eq.trans rfl rfl
theorem kBlock_x {i i':Nat}:Qal i Q (.exit i') s=if i'=i then Q .normal s else Q (.exit i') s:=Eq.trans rfl rfl
theorem kBlock_r {i:Nat}:Qal i Q .ret s=Q .ret s:=Eq.trans rfl rfl
theorem kScope_n:Qak Q .normal s=Q .normal s:=Eq.trans rfl rfl
theorem kScope_x {i':Nat}:Qak Q (.exit i') s=Q (.exit i') s:=Eq.trans rfl rfl
theorem kScope_r:Qak Q .ret s=Q .ret s:=Eq.trans rfl rfl
theorem kReg_n {vals ρ:List AV} {σ:List AObj}:kReg Q vals ρ σ=Q .normal ⟨vals,σ⟩:=Eq.trans rfl rfl
theorem IS_seq {a b:IC} {d:D1 (IC.seq a b)}:IS P fx (.seq a b) s Q d e=IS P fx a s (kSeq P fx b Q) .mk .mk:=Eq.trans rfl rfl
theorem IS_block {i:Nat} {a:IC} {d:D1 (IC.block i a)}:IS P fx (.block i a) s Q d e=IS P fx a s (Qal i Q) .mk .mk:=Eq.trans rfl rfl
theorem IS_cond {i:Nat} {a b:IC} {d:D1 (IC.cond i a b)}:IS P fx (.cond i a b) s Q d e=cK (s.vals.getD i .undef) (IS P fx a s Q .mk .mk) (IS P fx b s Q .mk .mk) .mk .mk:=Eq.trans rfl rfl
theorem IS_loop {a:IC} {d:D1 (IC.loop a)}:IS P fx (.loop a) s Q d e=ILk P fx a s Q .mk .mk:=Eq.trans rfl rfl
theorem IS_scope {a:IC} {d:D1 (IC.scope a)}:IS P fx (.scope a) s Q d e=IS P fx a s (Qak Q) .mk .mk:=Eq.trans rfl rfl
theorem QfG {is:List Ins} {d:D1 (IC.region is)}:IS P fx (.region is) s Q d e=RS P is s.vals [] s.heap (kReg Q) .mk .mk:=Eq.trans rfl rfl
theorem IS_draw {dirs:List (List Nat)} {is:List Ins} {pds:List (List Nat)} {d:D1 (IC.draw dirs is pds)}:IS P fx (.draw dirs is pds) s Q d e=DWk P fx dirs is s Q .mk .mk:=Eq.trans rfl rfl
theorem IS_dr {dirs:List (List Nat)} {is:List Ins} {d:D1 (IC.dr dirs is)}:IS P fx (.dr dirs is) s Q d e=DWk P fx dirs is s Q .mk .mk:=Eq.trans rfl rfl
theorem QfH {g:Opd} {ps:Array Nat} {assign body:Code} {ia ib:IC} {d:D1 (IC.rangef g ps assign body ia ib)}:IS P fx (.rangef g ps assign body ia ib) s Q d e=RWk P fx g ps assign body s Q .mk .mk .mk:=Eq.trans rfl rfl
end
theorem BC {P:Program} {fx:Fx}:∀ (ic:IC) (s:St) (Q Q':Exit→St→Prop),(∀ e s,Q e s→Q' e s)→IW P fx ic s Q→IW P fx ic s Q':=by
 intro ic
 induction ic with
 | skip=>intro s Q Q' hq h;exact hq _ _ h
 | label _=>intro s Q Q' hq h;exact hq _ _ h
 | exit _=>intro s Q Q' hq h;exact hq _ _ h
 | ret=>intro s Q Q' hq h;exact hq _ _ h
 | seq a b iha ihb =>
  intro s Q Q' hq h
  refine iha s _ _ ?_ h
  intro e s' h'
  cases e with
  | normal=>exact ihb s' Q Q' hq h'
  | _=>exact hq _ _ h'
 | block i a iha =>
  intro s Q Q' hq h
  refine iha s _ _ ?_ h
  intro e s' h'
  cases e with
  | exit i' =>
   simp only at h' ⊢
   by_cases hi:i'=i
   ·rw[if_pos hi] at h' ⊢;exact hq _ _ h'
   ·rw[if_neg hi] at h' ⊢;exact hq _ _ h'
  | _=>exact hq _ _ h'
 | cond i a b iha ihb =>
  intro s Q Q' hq h
  obtain ⟨t,h1,h2⟩:=h
  refine ⟨t,h1,?_⟩
  cases t with
  | true=>exact iha s Q Q' hq h2
  | false=>exact ihb s Q Q' hq h2
 | loop a _=>intro s Q Q' hq h;exact fun c hc=>(h c hc).mono hq
 | scope a iha =>
  intro s Q Q' hq h
  refine iha s _ _ ?_ h
  intro e s' h'
  cases e with
  | goto l=>exact h'
  | _=>exact hq _ _ h'
 | region is =>
  intro s Q Q' hq h
  have key:∀ (is:List Ins) (vals ρ:List AV) (σ:List AObj) (K K':List AV→List AV→List AObj→Prop),(∀ a b c,K a b c→K' a b c)→RG P is vals ρ σ K→RG P is vals ρ σ K':=by
   intro is
   induction is with
   | nil=>intro vals ρ σ K K' hk h;exact hk _ _ _ h
   | cons i is ih =>
    intro vals ρ σ K K' hk h
    simp only[RG] at h ⊢
    split at h
    ·exact h
    ·rename_i hg;exact ih _ _ _ _ _ hk h
    ·rename_i hg
     split at h
     ·rename_i hop
      split at h
      ·rename_i hs;exact ih _ _ _ _ _ hk h
      ·exact h
     ·rename_i hop ha;exact h.mono fun r τ hr=>ih _ _ _ _ _ hk hr
     ·exact h
  exact key is _ _ _ _ _ (fun a b c h=>hq _ _ h) h
 | draw dirs is pds=>intro s Q Q' hq h;exact fun id ops h1 h2=>(h id ops h1 h2).mono hq
 | rangef g ps assign body ia ib _ _ =>
  intro s Q Q' hq h
  obtain ⟨gf,cap,h1,h2,h3,h4⟩:=h
  refine ⟨gf,cap,h1,h2,h3,h4.mono ?_⟩
  rintro r σ' ⟨r2,g1,g2,g3⟩
  refine ⟨r2,g1,g2,?_⟩
  cases hp:r2.pending with
  | none=>rw[hp] at g3;exact hq _ _ g3
  | some c=>rw[hp] at g3;exact W.mono g3 hq
theorem VT {P:Program} {fx:Fx}:∀ (ic:IC) (s:St) (Q:Exit→St→Prop) (d:D1 ic) (e:D1 Q),IS P fx ic s Q d e→IW P fx ic s Q:=by
 intro ic
 induction ic with
 | skip=>intro s Q _ _ h;exact h
 | label _=>intro s Q _ _ h;exact h
 | exit _=>intro s Q _ _ h;exact h
 | ret=>intro s Q _ _ h;exact h
 | seq a b iha ihb =>
  intro s Q _ _ h
  refine BC a s _ _ ?_ (iha s _ _ _ h)
  intro e s' h'
  cases e with
  | normal=>exact ihb s' Q _ _ h'
  | _=>exact h'
 | block i a iha=>intro s Q _ _ h;exact iha s _ _ _ h
 | cond i a b iha ihb =>
  intro s Q _ _ h
  simp only[IS] at h
  unfold cK at h
  split at h
  ·rename_i hv;exact ⟨true,hv,iha s Q _ _ h⟩
  ·rename_i hv;exact ⟨false,hv,ihb s Q _ _ h⟩
  ·exact h.elim
 | loop a _=>intro s Q _ _ h;exact h
 | scope a iha=>intro s Q _ _ h;exact iha s _ _ _ h
 | region is=>intro s Q _ _ h;exact T2 is _ _ _ _ _ _ h
 | draw dirs is pds=>intro s Q _ _ h;exact h
 | rangef g ps assign body ia ib _ _=>intro s Q _ _ h;exact h
def kEnd (res:List RC) (Q:AV→List AObj→Prop):Exit→St→Prop:=fun e s'=>match e with
 | .normal | .ret=>rK (RL s'.vals s'.heap res) (fun r=>Q r s'.heap) .mk
 | _=>False
theorem kEnd_n {res:List RC} {Q:AV→List AObj→Prop} {s:St}:kEnd res Q .normal s=rK (RL s.vals s.heap res) (fun r=>Q r s.heap) .mk:=Eq.trans rfl rfl
theorem kEnd_r {res:List RC} {Q:AV→List AObj→Prop} {s:St}:kEnd res Q .ret s=rK (RL s.vals s.heap res) (fun r=>Q r s.heap) .mk:=Eq.trans rfl rfl
theorem ZF {P:Program} {f:FuncId} {ic:IC} {vars:List Nat} {N:Nat} {res:List RC} {p:Bool} {args:List AV} {σ:List AObj} {Q:AV→List AObj→Prop} (hf:FnOk P f ⟨ic,vars,N,res,p⟩) (hargs:args.length≤N)
  (h:IS P ⟨vars,N,none,σ.length⟩ ic ⟨Y5 vars args,σ⟩ (kEnd res Q) .mk .mk):AC P f args σ Q:=by
 obtain ⟨fn,c,h1,h2,h3,h4,h5,h6⟩:=hf.ok
 dsimp only at h4 h5 h6
 subst h4
 have hr:∀ vals heap,UB P vars vals heap fn.results.toList=RL vals heap res:=fun vals heap=>BY h6
 refine AC_IW vars h1 h2 h3 hargs h5 (BC ic _ _ _ ?_ (VT ic _ _ _ _ h))
 intro e s' h'
 have key:rK (RL s'.vals s'.heap res) (fun r=>Q r s'.heap) .mk→∃ r,UB P vars s'.vals s'.heap fn.results.toList=some r∧Q r s'.heap:=by
  intro h'
  unfold rK at h'
  split at h'
  ·exact h'.elim
  ·rename_i v hv;exact ⟨v,by rw[hr];exact hv,h'⟩
 cases e with
 | normal=>exact key h'
 | ret=>exact key h'
 | _=>exact h'
theorem DW_s {P:Program} {fx:Fx} {s:St} {Q:Exit→St→Prop} {dirs:List (List Nat)} {is:List Ins} (kp:List Nat) (xs:List (Nat × Nat)) (hmix:P.follows .mixedOrders=true) (hord:RQ dirs is (Qbd dirs []) kp xs=true) (hvl:s.vals.length=fx.vars.length)
  (h:RSx P kp xs 0 is [] [] s.vals [] s.heap (kReg Q) .mk .mk):DW P fx dirs is s Q:=DW_ordx kp xs hmix hord hvl (EV _ _ _ _ _ _ _ _ _ _ h)
def kUn (P:Program) (fx:Fx) (a:IC) (Q:Exit→St→Prop):Exit→St→Prop:=fun e s'=>match e with | .normal=>IL P fx a s' Q | e=>Q e s'
theorem kUn_n {P:Program} {fx:Fx} {a:IC} {Q:Exit→St→Prop} {s:St}:kUn P fx a Q .normal s=ILk P fx a s Q .mk .mk:=Eq.trans rfl rfl
theorem kUn_x {P:Program} {fx:Fx} {a:IC} {Q:Exit→St→Prop} {s:St} {i:Nat}:kUn P fx a Q (.exit i) s=Q (.exit i) s:=Eq.trans rfl rfl
theorem kUn_r {P:Program} {fx:Fx} {a:IC} {Q:Exit→St→Prop} {s:St}:kUn P fx a Q .ret s=Q .ret s:=Eq.trans rfl rfl
theorem J1 {P:Program} {fx:Fx} {a:IC} {s:St} {Q:Exit→St→Prop} (h:IS P fx a s (kUn P fx a Q) .mk .mk):IL P fx a s Q:=QfI (VT _ _ _ _ _ h)
def kFor (fx:Fx) (c:Prop) (S:St→Prop) (Q:Exit→St→Prop):Exit→St→Prop:=fun e s'=>match e with | .normal=>c∧∃ s'',Weak fx s' s''∧S s'' | e=>Q e s'
theorem kFor_x {fx:Fx} {c:Prop} {S:St→Prop} {Q:Exit→St→Prop} {i:Nat} {s:St}:kFor fx c S Q (.exit i) s=Q (.exit i) s:=Eq.trans rfl rfl
theorem kFor_r {fx:Fx} {c:Prop} {S:St→Prop} {Q:Exit→St→Prop} {s:St}:kFor fx c S Q .ret s=Q .ret s:=Eq.trans rfl rfl
theorem ZL {fx:Fx} {c:Prop} {S:St→Prop} {Q:Exit→St→Prop} {s:St} (hc:c) (h:S s):kFor fx c S Q .normal s:=⟨hc,s,Weak.refl _ _,h⟩
theorem AS {fx:Fx} {c:Prop} {S:St→Prop} {Q:Exit→St→Prop} {s s':St} (hc:c) (hw:Weak fx s s') (h:S s'):kFor fx c S Q .normal s:=⟨hc,s',hw,h⟩
theorem ZW {P:Program} {fx:Fx} {a:IC} {Q:Exit→St→Prop} (n:Nat) (S:Nat→St→Prop)
  (h:∀ i s,i≤n→S i s→IS P fx a s (kFor fx (i<n) (S (i+1)) Q) .mk .mk) (i:Nat) (hi:i≤n) {s:St} (hs:S i s):IL P fx a s Q:=by
 intro c hc
 have key:∀ (k i:Nat) (s:St),n-i=k→i≤n→S i s→WL P fx c s Q:=by
  intro k
  induction k with
  | zero =>
   intro i s hk hi hs
   refine FG ((Y6 c a s _ hc (VT _ _ _ _ _ (h i s hi hs))).mono ?_)
   intro e s' hq
   cases e with
   | normal=>exact absurd hq.1 (by omega)
   | _=>exact hq
  | succ k ih =>
   intro i s hk hi hs
   refine FG ((Y6 c a s _ hc (VT _ _ _ _ _ (h i s hi hs))).mono ?_)
   intro e s' hq
   cases e with
   | normal =>
    obtain ⟨h1,s'',h2,h3⟩:=hq
    exact (ih (i+1) s'' (by omega) h1 h3).weak h2
   | _=>exact hq
 exact key (n-i) i s rfl hi hs
abbrev ints (zs:List Int):AV:=.cv (.rsl (zs.map (.int .i64)) zs.length)
theorem J5 {kd:IntKind} {zs:List Int} {n:Nat} {k:Nat} (h:k<n) (σ:List AObj):VP 1 [.cv (.rsl (zs.map (.int kd)) n),.cv (.int .i64 k)] σ=some (.cv (.rp (zs.map (.int kd)) k),σ):=by
 simp[VP,h]
theorem J4 {kd:IntKind} {zs:List Int} {k:Nat} (h:k<zs.length):(zs.map (CV.int kd))[k]? = some (.int kd (zs.getD k 0)):=by
 simp[List.getD,h]
theorem ZC {n:Int} (h:-9223372036854775808≤n∧n≤9223372036854775807):IntKind.i64.wrap n=n:=by
 simp[IntKind.wrap,IntKind.bits,IntKind.signed,Int.bmod]
 omega
theorem AC.run {P:Program} {f:FuncId} {args:List AV} {v:AV} {σ τ:List AObj} {K:AV→List AObj→Prop} (h:AC P f args σ fun r τ'=>r=v∧τ'=τ) (hk:K v τ):AC P f args σ K:=h.mono fun r τ ⟨h1,h2⟩=>by rw[h1,h2];exact hk
theorem X0.run {P:Program} {fv:AV} {args:List AV} {v:AV} {σ τ:List AObj} {K:AV→List AObj→Prop} (h:X0 P fv args σ fun r τ'=>r=v∧τ'=τ) (hk:K v τ):X0 P fv args σ K:=h.mono fun r τ ⟨h1,h2⟩=>by rw[h1,h2];exact hk
theorem P2 {p:CV→Prop} {σ:List AObj} (hp:∀ z,p (.int .i64 z)):∀ zs:List Int,HL p σ (zs.map AV.i) (zs.map (.int .i64))
 | []=>.nil
 | z::zs=>.cons (.c _ (hp z)) (P2 hp zs)
theorem TN {p:CV→Prop} (hp:∀ z,p (.int .i64 z)) {σ:List AObj} {zs:List Int} {l:Nat} (hr:rowOf σ l=some (zs.map AV.i)):FrzV p σ (.sl l 0 zs.length 1) (ints zs):=by
 refine .c (.sl l 0 zs.length 1 _ _ hr (by simp) ?_)
 have:((zs.map AV.i).drop 0).take (zs.length*1)=zs.map AV.i:=by rw[YO];exact Q5 (by simp)
 rw[this]
 exact P2 hp zs
theorem U4 {p:CV→Prop} (hp:∀ z,p (.int .i64 z)) {σ:List AObj} {zs:List Int} {l n:Nat} (hn:n=zs.length) (hr:rowOf σ l=some (zs.map AV.i)):FrzV p σ (.sl l 0 n 1) (ints zs):=by subst hn;exact TN hp hr
theorem frz_one {p:CV→Prop} (hp:∀ z,p (.int .i64 z)) {σ:List AObj} {z:Int} {l:Nat} (hr:rowOf σ l=some [AV.i z]):FrzV p σ (.sl l 0 1 1) (ints [z]):=TN hp (zs:=[z]) hr
theorem W9 {l off n k:Nat} (h:k<n) (σ:List AObj):VP 1 [.sl l off n 1,.cv (.int .i64 k)] σ=some (.ptr l (off+k),σ):=by
 simp[VP,h]
theorem slc_addr {l off n c k:Nat} (h:k<n) (σ:List AObj):VP 1 [.slc l off n c 1,.cv (.int .i64 k)] σ=some (.ptr l (off+k),σ):=by
 simp[VP,h]
theorem V1 {zs:List Int} {k:Nat} (h:k<zs.length):(zs.map AV.i)[k]? = some (.i (zs[k]?.getD 0)):=by simp[h]
theorem GC {zs:List Int} {k:Nat} {o:Int}:(zs.map AV.i).set k (.cv (.int .i64 o))=(zs.set k o).map AV.i:=List.map_set.symm
theorem RY {p:CV→Prop} {σ:List AObj}:FrzV p σ (.cv .nils) (ints []):=.c .nl
theorem HE {cs:List AV} {σ:List AObj}:rowOf (AObj.cells cs::σ) 0=some cs:=rfl
theorem MK {o:AObj} {σ:List AObj} {n:Nat}:rowOf (o::σ) (n+1)=rowOf σ n:=rfl
theorem Qc8 {cs:List AV} {n:Nat}:setRange cs n []=cs:=rfl
theorem BQ {cs:List AV} {n:Nat} {v:AV} {vs:List AV}:setRange cs n (v::vs)=setRange (cs.set n v) (n+1) vs:=rfl
def SB (σ:List AObj) (v:AV) (zs:List Int):Prop:=(v=.cv .nils∧zs=[])∨∃ l,v=.sl l 0 zs.length 1∧rowOf σ l=some (zs.map AV.i)
theorem FU {σ:List AObj} {l:Nat} {cs:List AV} (h:rowOf σ l=some cs) (x:AObj):rowOf (σ++[x]) l=some cs:=by
 have h:=WO h
 unfold rowOf;rw[QE (QH.1 h).1,h]
theorem XH (σ:List AObj) (cs:List AV):rowOf (σ++[.cells cs]) σ.length=some cs:=by simp[rowOf]
theorem SB.nil (σ:List AObj):SB σ (.cv .nils) []:=.inl ⟨rfl,rfl⟩
def G9 (b:Nat) (σ:List AObj) (v:AV) (zs:List Int):Prop:=b≤σ.length∧((v=.cv .nils∧zs=[])∨∃ l,b≤l∧v=.sl l 0 zs.length 1∧rowOf σ l=some (zs.map AV.i))
theorem G9.acc {b:Nat} {σ:List AObj} {v:AV} {zs:List Int} (h:G9 b σ v zs):SB σ v zs:=h.2.imp id fun ⟨l,_,h1,h2⟩=>⟨l,h1,h2⟩
theorem G9.nil {b:Nat} {σ:List AObj} (h:b≤σ.length):G9 b σ (.cv .nils) []:=⟨h,.inl ⟨rfl,rfl⟩⟩
theorem QX {σ:List AObj} {l l':Nat} (h:l≠l') (x:AObj):rowOf (σ.set l x) l'=rowOf σ l':=by unfold rowOf;rw[QU h]
theorem W0 {σ:List AObj} {l:Nat} {cs cs':List AV} (h:rowOf σ l=some cs):rowOf (σ.set l (AObj.cells cs')) l=some cs':=by
 have h:=(QH.1 (WO h)).1
 unfold rowOf;rw[Z2 h]
theorem accFrom_append {b:Nat} {σ:List AObj} {v:AV} {zs:List Int} (z:Int) (h:G9 b σ v zs) (hl:zs.length<2 ^ 40) :
  ∃ (v':AV) (σ':List AObj),ZX 1 8 [v,.sl σ.length 0 1 1] (σ++[AObj.cells [.i z]])=some (v',σ')∧G9 b σ' v' (zs++[z])∧∀ l,l<b→rowOf σ' l=rowOf σ l:=by
 have hsrc:Z9 (σ++[AObj.cells [.i z]]) 1 (.sl σ.length 0 1 1)=some [.i z]:=by simp[Z9,rowOf]
 have low:∀ l,l<b→rowOf (σ++[AObj.cells [.i z]]) l=rowOf σ l:=fun l hl=>by
  unfold rowOf;rw[QE (by have:=h.1;omega)]
 have hb:=h.1
 rcases h.2 with ⟨rfl,rfl⟩ | ⟨l,hbl,rfl,hr⟩
 ·refine ⟨.sl (σ++[AObj.cells [.i z]]).length 0 1 1,(σ++[AObj.cells [.i z]])++[AObj.cells [.i z]],?_,⟨by simp;omega,.inr ⟨(σ++[AObj.cells [.i z]]).length,by simp;omega,rfl,?_⟩⟩,fun l hl=>?_⟩
  ·simp only[ZX,hsrc,lenF,Option.bind_some]
   rfl
  ·rw[XH];rfl
  ·rw[← low l hl];unfold rowOf;rw[QE (by simp;omega)]
 ·have hr':=FU hr (AObj.cells [.i z])
  refine ⟨.sl (σ++[AObj.cells [.i z]]).length 0 (zs.length+1) 1,(σ++[AObj.cells [.i z]]).set l AObj.dead++[AObj.cells (zs.map AV.i++[.i z])],?_,⟨by simp;omega,.inr ⟨(σ++[AObj.cells [.i z]]).length,by simp;omega,by simp,?_⟩⟩,fun l' hl'=>?_⟩
  ·simp only[ZX,hr',hsrc,lenF,Option.bind_some]
   have hp:(2:Nat) ^ 40=1099511627776:=by decide
   have hp2:(2:Nat) ^ 44=17592186044416:=by decide
   have hc:(True∧zs.length*1≤(zs.map AV.i).length∧1*1=[AV.i z].length∧(zs.length+1)*8≤2 ^ 44∧zs.length+1≤2 ^ 44∧[AV.i z].all AV.isSc=true):=by
    refine ⟨trivial,by simp,rfl,by omega,by omega,rfl⟩
   rw[if_pos hc,W3,Q5 (by simp)]
  ·have:(σ++[AObj.cells [.i z]]).length=((σ++[AObj.cells [.i z]]).set l AObj.dead).length:=by simp
   rw[this,XH];simp
  ·rw[← low l' hl']
   have:rowOf ((σ++[AObj.cells [.i z]]).set l AObj.dead) l'=rowOf (σ++[AObj.cells [.i z]]) l':=QX (by omega) _
   rw[← this];unfold rowOf;rw[QE (by simp;omega)]
theorem acc_frz {p:CV→Prop} (hp:∀ z,p (.int .i64 z)) {σ:List AObj} {v:AV} {zs:List Int} (h:SB σ v zs):FrzV p σ v (ints zs):=by
 rcases h with ⟨rfl,rfl⟩ | ⟨l,rfl,hr⟩
 ·exact RY
 ·exact TN hp hr
theorem bTF:(true == false)=false:=rfl
theorem bFT:(false == true)=false:=rfl
theorem bTT:(true == true)=true:=rfl
theorem bFF:(false == false)=true:=rfl
def frzA:=And.intro (And.intro (And.intro (@W3) (@Nat.one_mul)) (And.intro (@YO.{0}) (@List.take_succ_cons.{0}))) (And.intro (And.intro (@List.take_zero.{0}) (And.intro (@Q0.{0,0}) (@WS.{0,0}))) (And.intro (@List.cons_append.{0}) (And.intro (@List.nil_append.{0}) (@ZU.{0}))))
def ev0:=And.intro (And.intro (And.intro (And.intro (@IS_skip) (And.intro (@IS_label) (@IS_exit))) (And.intro (@IS_ret) (And.intro (@IS_seq) (@IS_block)))) (And.intro (And.intro (@IS_cond) (And.intro (@IS_loop) (@IS_scope))) (And.intro (@QfG) (And.intro (And.intro (@IS_draw) (@IS_dr)) (@QfH))))) (And.intro (And.intro (And.intro (@kSeq_n) (And.intro (@kSeq_x) (@kSeq_r))) (And.intro (@kBlock_n) (And.intro (@kBlock_x) (@kBlock_r)))) (And.intro (And.intro (@kScope_n) (And.intro (@kScope_x) (@kScope_r))) (And.intro (@kReg_n) (And.intro (@kEnd_n) (@kEnd_r)))))
def ev1:=And.intro (And.intro (And.intro (And.intro (@kUn_n) (And.intro (@kUn_x) (@kUn_r))) (And.intro (@kFor_x) (And.intro (@kFor_r) (@RS_n)))) (And.intro (And.intro (@RS_c) (And.intro (@RSx_n) (@RSx_c))) (And.intro (@gdOk.eq_1) (And.intro (@gdOk.eq_2) (@gK_t))))) (And.intro (And.intro (And.intro (@gK_f) (And.intro (@pK_s) (@cK_t))) (And.intro (@cK_f) (And.intro (@callK_c) (@oK_p)))) (And.intro (And.intro (@oK_c) (And.intro (@oX_p) (@oX_c))) (And.intro (@rK_s) (And.intro (@QfJ) (@plOf.eq_1)))))
def ev2:=And.intro (And.intro (And.intro (And.intro (@YX.eq_1) (And.intro (@YX.eq_2) (@xOne.eq_1))) (And.intro (@xOne.eq_2) (And.intro (@O4.eq_1) (@O4.eq_2)))) (And.intro (And.intro (@kindOf.eq_1) (And.intro (@kindOf.eq_2) (@kindOf.eq_3))) (And.intro (@kindOf.eq_4) (And.intro (@kindOf.eq_5) (@kindOf.eq_6))))) (And.intro (And.intro (And.intro (@kindOf.eq_7) (And.intro (@kindOf.eq_8) (@kindOf.eq_9))) (And.intro (@kindOf.eq_10) (And.intro (@kindOf.eq_11) (@kindOf.eq_12)))) (And.intro (And.intro (@kindOf.eq_13) (And.intro (@kindOf.eq_14) (@kindOf.eq_15))) (And.intro (@kindOf.eq_16) (And.intro (@kindOf.eq_17) (@kindOf.eq_18)))))
def ev3:=And.intro (And.intro (And.intro (And.intro (@kindOf.eq_19) (And.intro (@kindOf.eq_20) (@kindOf.eq_21))) (And.intro (@kindOf.eq_22) (And.intro (@kindOf.eq_23) (@kindOf.eq_24)))) (And.intro (And.intro (@kindOf.eq_25) (And.intro (@kindOf.eq_26) (@kindOf.eq_27))) (And.intro (@JJ.eq_1) (And.intro (@JJ.eq_2) (@JJ.eq_3))))) (And.intro (And.intro (And.intro (@JJ.eq_4) (And.intro (@YH.{0,0}) (@List.flatMap_nil.{0,0}))) (And.intro (@Q0.{0,0}) (And.intro (@WS.{0,0}) (@WY.eq_1)))) (And.intro (And.intro (@WY.eq_2) (And.intro (@WY.eq_3) (@ZQ.eq_1))) (And.intro (@ZQ.eq_2) (And.intro (@ZQ.eq_3) (@ZQ.eq_4)))))
def ev4:=And.intro (And.intro (And.intro (And.intro (@ZQ.eq_5) (And.intro (@ZQ.eq_6) (@ZQ.eq_7))) (And.intro (@ZQ.eq_8) (And.intro (@ZQ.eq_9) (@ZQ.eq_10)))) (And.intro (And.intro (@ZQ.eq_11) (And.intro (@ZQ.eq_12) (@ZQ.eq_13))) (And.intro (@ZQ.eq_14) (And.intro (@ZQ.eq_15) (@ZQ.eq_16))))) (And.intro (And.intro (And.intro (@ZQ.eq_17) (And.intro (@ZQ.eq_18) (@ZQ.eq_19))) (And.intro (@ZQ.eq_20) (And.intro (@ZQ.eq_21) (@ZQ.eq_22)))) (And.intro (And.intro (@ZQ.eq_23) (And.intro (@ZQ.eq_24) (@ZQ.eq_25))) (And.intro (@ZQ.eq_26) (And.intro (@ZQ.eq_27) (@ZQ.eq_28)))))
def ev5:=And.intro (And.intro (And.intro (And.intro (@ZQ.eq_29) (And.intro (@ZQ.eq_30) (@ZQ.eq_31))) (And.intro (@ZQ.eq_32) (And.intro (@ZQ.eq_33) (@ZQ.eq_34)))) (And.intro (And.intro (@ZQ.eq_35) (And.intro (@ZQ.eq_36) (@f_mv.eq_1))) (And.intro (@f_mv.eq_2) (And.intro (@P4.eq_1) (@P4.eq_2))))) (And.intro (And.intro (And.intro (@CN.eq_1) (And.intro (@CN.eq_2) (@OJ.eq_1))) (And.intro (And.intro (@OJ.eq_2) (@OJ.eq_3)) (And.intro (@P5.eq_1) (@P5.eq_2)))) (And.intro (And.intro (@UO.eq_1) (And.intro (@UO.eq_2) (@WI.eq_1))) (And.intro (@WI.eq_2) (And.intro (@DL.eq_1) (@V4.eq_1)))))
def ev6:=And.intro (And.intro (And.intro (And.intro (@KZ.eq_1) (And.intro (@KZ.eq_2) (@KZ.eq_3))) (And.intro (@YF.eq_1) (And.intro (@YF.eq_2) (@YF.eq_3)))) (And.intro (And.intro (@UM.eq_1) (And.intro (@UM.eq_2) (@G4.eq_1))) (And.intro (@G4.eq_2) (And.intro (@G4.eq_3) (@G4.eq_4))))) (And.intro (And.intro (And.intro (@NI.eq_1) (And.intro (@NJ.eq_1) (@RZ.eq_1))) (And.intro (@RZ.eq_2) (And.intro (@RZ.eq_3) (@RZ.eq_4)))) (And.intro (And.intro (@RZ.eq_5) (And.intro (@DK.eq_1) (@DK.eq_2))) (And.intro (@DK.eq_3) (And.intro (@OH.eq_1) (@OH.eq_2)))))
def ev7:=And.intro (And.intro (And.intro (And.intro (@OH.eq_3) (And.intro (@U6.eq_1) (@U6.eq_2))) (And.intro (@DJ.eq_1) (And.intro (@DJ.eq_2) (@GT.eq_1)))) (And.intro (And.intro (And.intro (@GT.eq_2) (@GT.eq_3)) (And.intro (@binF.eq_1) (@binF.eq_2))) (And.intro (@binF.eq_3) (And.intro (@binF.eq_4) (@binF.eq_5))))) (And.intro (And.intro (And.intro (@binF.eq_6) (And.intro (@binF.eq_7) (@binF.eq_8))) (And.intro (@binF.eq_9) (And.intro (@binF.eq_10) (@RV.eq_1)))) (And.intro (And.intro (@RV.eq_2) (And.intro (@RV.eq_3) (@binI.eq_1))) (And.intro (@binI.eq_2) (And.intro (@binI.eq_3) (@binI.eq_4)))))
def ev8:=And.intro (And.intro (And.intro (And.intro (@binI.eq_5) (And.intro (@binI.eq_6) (@binI.eq_7))) (And.intro (@binI.eq_8) (And.intro (@binI.eq_9) (@binI.eq_10)))) (And.intro (And.intro (@binI.eq_11) (And.intro (@binI.eq_12) (@binI.eq_13))) (And.intro (@binI.eq_14) (And.intro (@binI.eq_15) (@binI.eq_16))))) (And.intro (And.intro (And.intro (@K8.eq_1) (And.intro (@K8.eq_2) (@K8.eq_3))) (And.intro (@setD.eq_1) (And.intro (@setD.eq_2) (@Y5.eq_1)))) (And.intro (And.intro (@cellsOf.eq_1) (And.intro (@cellsOf.eq_2) (@HW.eq_1))) (And.intro (@HW.eq_2) (And.intro (@HW.eq_3) (@Qc8)))))
def ev9:=And.intro (And.intro (And.intro (And.intro (@BQ) (And.intro (@HE) (@MK))) (And.intro (@AV.isUndef.eq_1) (And.intro (@AV.isUndef.eq_2) (@AV.isSc.eq_1)))) (And.intro (And.intro (@AV.isSc.eq_2) (And.intro (@AV.isSc.eq_3) (@AV.isSc.eq_4))) (And.intro (@CallV_fn) (And.intro (@CallV_bm) (@RL.eq_1))))) (And.intro (And.intro (And.intro (@RL.eq_2) (And.intro (@resE.eq_1) (@resE.eq_2))) (And.intro (@resE.eq_3) (And.intro (@mapO.eq_1) (@mapO.eq_2)))) (And.intro (And.intro (@WA.{0}) (And.intro (@List.set_cons_zero.{0}) (@List.set_cons_succ.{0}))) (And.intro (@List.getElem?_cons_zero.{0}) (And.intro (@List.getElem?_cons_succ.{0}) (@List.nil_append.{0})))))
def ev10:=And.intro (And.intro (And.intro (And.intro (@List.cons_append.{0}) (And.intro (@ZU.{0}) (@Option.getD_some.{0}))) (And.intro (@List.getElem?_nil.{0}) (And.intro (@Option.getD_none.{0}) (@Option.map_some.{0,0})))) (And.intro (And.intro (@Option.bind_some.{0,0}) (And.intro (@QT) (@List.length_cons.{0}))) (And.intro (@List.length_nil.{0}) (And.intro (@List.take_succ_cons.{0}) (@List.take_zero.{0}))))) (And.intro (And.intro (And.intro (@YO.{0}) (And.intro (@List.drop_succ_cons.{0}) (@XI))) (And.intro (@WH) (And.intro (@Bool.false_and) (@UA)))) (And.intro (And.intro (@US) (And.intro (@Bool.or_true) (@Y3))) (And.intro (@Bool.or_false) (And.intro (@Y2) (@ZY)))))
def ev11:=And.intro (And.intro (And.intro (And.intro (@Bool.not_not) (And.intro (@beq_self_eq_true.{0}) (@List.all_cons.{0}))) (And.intro (@List.all_nil.{0}) (And.intro (@ZV) (@Nat.add_zero)))) (And.intro (And.intro (@AV.cv.injEq) (And.intro (@CV.bool.injEq) (@CV.int.injEq))) (And.intro (@exists_eq_left'.{1}) (And.intro (@exists_eq_left.{1}) (@decide_true))))) (And.intro (And.intro (And.intro (@decide_false) (And.intro (@true_and) (@and_true))) (And.intro (@and_self) (And.intro (@Int.toNat_natCast) (@Go.Exit.exit.injEq)))) (And.intro (And.intro (@J5) (And.intro (@J4) (@W9))) (And.intro (@V1) (And.intro (@GC) (@ZK.{0,0})))))
def ev12:=And.intro (And.intro (And.intro (@WE.{0}) (And.intro (@W3) (@beq_true))) (And.intro (And.intro (@Option.some.injEq.{0}) (@bne_self_eq_false.{0})) (And.intro (@List.contains_cons.{0}) (@List.contains_nil.{0})))) (And.intro (And.intro (@xAll.eq_1) (And.intro (@xAll.eq_2) (@ZC))) (And.intro (And.intro (@bTF) (@bFT)) (And.intro (@bTT) (@bFF))))
def ev13:=And.intro (And.intro (And.intro (@ZQ.eq_37) (@ZQ.eq_38)) (And.intro (@ZQ.eq_39) (@ZQ.eq_41))) (And.intro (And.intro (@kindOf.eq_28) (@F6.eq_1)) (And.intro (@OI.eq_1) (@kindOf.eq_27)))
def ev14:=And.intro (And.intro (And.intro (@ZQ.eq_42) (@ZQ.eq_43)) (And.intro (And.intro (@ZQ.eq_44) (@ZQ.eq_45)) (@kindOf.eq_29))) (And.intro (And.intro (@kindOf.eq_30) (And.intro (@RZ.eq_6) (@slc_addr))) (And.intro (@NZ.eq_1) (And.intro (@JJ.eq_5) (And.intro (@binF.eq_11) (@binF.eq_12)))))
def evj:=And.intro (And.intro (And.intro (And.intro (@jS.eq_1) (And.intro (@jB.eq_1) (@jn.eq_1))) (And.intro (@jq.eq_1) (And.intro (@jw.eq_1) (@jg.eq_1)))) (And.intro (And.intro (@jk.eq_1) (And.intro (@jd.eq_1) (@jf.eq_1))) (And.intro (@jv.eq_1) (And.intro (@jt.eq_1) (@jl.eq_1))))) (And.intro (And.intro (And.intro (@jL.eq_1) (And.intro (@je.eq_1) (@jc.eq_1))) (And.intro (@ja.eq_1) (And.intro (@jF.eq_1) (@jG.eq_1)))) (And.intro (And.intro (@jx.eq_1) (And.intro (@jN.eq_1) (@jm.eq_1))) (And.intro (And.intro (@jz.eq_1) (@jb.eq_1)) (And.intro (@jh.eq_1) (@ji.eq_1)))))
def evA:=And.intro (And.intro (And.intro (And.intro ev14 evj) (ev13)) (And.intro (And.intro (And.intro (ev0) (And.intro (ev1) (ev2))) (And.intro (ev3) (And.intro (ev4) (ev5)))) (And.intro (And.intro (ev6) (And.intro (ev7) (ev8))) (And.intro (And.intro (ev9) (ev10)) (And.intro (ev11) (ev12)))))) (And.intro @if_true.{1} (And.intro @if_false.{1} @QaK))
theorem frz {P:Prop} (h:P:=by (try dsimp only);repeat (first | exact trivial | rfl | exact RY | (apply TN (fun _=>trivial);first | rfl | (simp[rowOf];done)) | constructor | simp only[frzA])):P:=h
def inB (n lo hi:Int):Bool:=decide (n≥lo)&&decide (n≤hi)
theorem VB {n lo hi:Int}:inB n lo hi=true↔lo≤n∧n≤hi:=by simp[inB]
def outF (lo hi:Int) (zs:List Int):Bool:=zs.any fun z=>decide (z<lo)||decide (z>hi)
theorem FW (lo hi z:Int):outF lo hi [z] = !inB z lo hi:=by
 simp only[outF,inB,List.any_cons,List.any_nil,Bool.or_false]
 by_cases h1:z<lo <;> by_cases h2:z>hi <;> simp[h1,h2] <;> omega
theorem PW {lo hi:Int} {zs:List Int}:outF lo hi zs=false↔∀ j,j<zs.length→inB (zs[j]?.getD 0) lo hi=true:=by
 simp only[outF,W6,inB,QD,decide_eq_true_eq,WR,not_or]
 constructor
 ·intro h j hj
  have:=h zs[j] (Q2 hj)
  simp[hj];omega
 ·intro h x hx
  obtain ⟨j,hj,rfl⟩:=WN.1 hx
  have:=h j hj
  simp[hj] at this;omega
theorem Qeg {lo hi:Int} {zs:List Int} {j:Nat} (hj:j<zs.length) (h:inB (zs[j]?.getD 0) lo hi=false):outF lo hi zs=true:=by
 cases ho:outF lo hi zs with
 | true=>rfl
 | false=>rw[PW.1 ho j hj] at h;cases h
def idxN (p:Nat→Bool) (n:Nat):Int:=match (List.range n).find? p with | some i=>i | none=>-1
theorem EK {p:Nat→Bool} {n i:Nat} (h:i<n) (hall:∀ j,j<i→p j=false) (hp:p i=true):idxN p n=i:=by
 have:(List.range n).find? p=some i:=by
  rw[List.find?_range_eq_some]
  exact ⟨hp,ZI.2 h,fun j hj=>by rw[hall j hj];rfl⟩
 simp[idxN,this]
theorem EL {p:Nat→Bool} {n:Nat} (hall:∀ j,j<n→p j=false):idxN p n = -1:=by
 have:(List.range n).find? p=none:=by
  rw[List.find?_eq_none]
  intro x hx
  rw[hall x (by simpa using hx)];simp
 simp[idxN,this]
def anyN (p:Nat→Bool) (n:Nat):Bool:=(List.range n).any p
theorem OA (p:Nat→Bool) (n:Nat):decide (idxN p n≥0)=anyN p n:=by
 unfold idxN anyN
 cases h:(List.range n).find? p with
 | none =>
  rw[List.find?_eq_none] at h
  have:(List.range n).any p=false:=by rw[W6];exact h
  rw[this];simp
 | some i =>
  have h1:=List.find?_some h
  have h2:=List.mem_of_find?_eq_some h
  have:(List.range n).any p=true:=ZZ.2 ⟨i,h2,h1⟩
  rw[this];simp
theorem QfC (p:Nat→Bool) (n:Nat):anyN p (n+1)=(anyN p n||p n):=by simp[anyN,WM]
theorem F8 {p:Nat→Bool} {n:Nat}:anyN p n=false↔∀ i,i<n→p i=false:=by
 unfold anyN;rw[W6];simp
theorem U8 {p:Nat→Bool} {n:Nat}:anyN p n=true↔∃ i,i<n∧p i=true:=by
 unfold anyN;rw[ZZ];simp
section
variable {α:Type} [Inhabited α] {f:α→List CV} {e:Nat}
theorem UG (hf:∀ x,(f x).length=e):∀ xs:List α,(xs.flatMap f).length=xs.length*e
 | []=>by simp
 | x::xs=>by simp[UG hf xs,hf,XJ];omega
theorem A3 (hf:∀ x,(f x).length=e):∀ (xs:List α) (k:Nat),(xs.flatMap f).take (k*e)=(xs.take k).flatMap f
 | [],k=>by simp
 | x::xs,0=>by simp
 | x::xs,k+1=>by
  have h:=A3 hf xs k
  rw[YH,List.take_succ_cons,YH,XJ,List.take_append,hf,Nat.add_sub_cancel,h]
  rw[Q5 (by rw[hf];omega)]
theorem A5 (hf:∀ x,(f x).length=e):∀ (xs:List α) (k:Nat),(xs.flatMap f).drop (k*e)=(xs.drop k).flatMap f
 | [],k=>by simp
 | x::xs,0=>by simp
 | x::xs,k+1=>by
  have h:=A5 hf xs k
  rw[YH,List.drop_succ_cons,XJ,List.drop_append,hf,Nat.add_sub_cancel,h]
  rw[List.drop_of_length_le (by rw[hf];omega),List.nil_append]
theorem G3 (hf:∀ x,(f x).length=e) {xs:List α} {k:Nat} (hk:k<xs.length):((xs.flatMap f).drop (k*e)).take e=f xs[k]! := by
 rw[A5 hf]
 have:xs.drop k=xs[k]! :: xs.drop (k+1):=by rw[List.drop_eq_getElem_cons hk];simp[hk]
 rw[this,YH,List.take_append,hf,Nat.sub_self,List.take_zero,ZU,Q5 (by rw[hf];omega)]
theorem flat_get (hf:∀ x,(f x).length=e) {xs:List α} {k:Nat} (hk:k<xs.length) {j:Nat} (hj:j<e):(xs.flatMap f)[k*e+j]? = (f xs[k]!)[j]? := by
 rw[← G3 hf hk,Z7,if_pos hj,X4]
end
theorem XP {e n k:Nat} {cs:List CV} (h:k<n) (σ:List AObj):VP e [.cv (.rsl cs n),.cv (.int .i64 k)] σ=some (.cv (.rp cs (k*e)),σ):=by
 simp[VP,h]
theorem Qc7 {e n k:Nat} {cs:List CV} (h:k≤n) (hl:cs.length=n*e) (σ:List AObj):VG e false true [.cv (.rsl cs n),.cv (.int .i64 k)] σ=some (.cv (.rsl (cs.take (k*e)) k),σ):=by
 simp[VG,bnds,bnd,h,hl]
theorem MP {n:Nat} (h:n<2 ^ 40) (σ:List AObj):XB 1 8 [.i 0] [.i n,.i n] σ=some (.sl σ.length 0 n 1,σ++[.cells ((List.replicate n (0:Int)).map AV.i)]):=by
 have e:(2:Int) ^ 46=70368744177664:=by decide
 have e2:(2:Nat) ^ 40=1099511627776:=by decide
 have h1:0≤(n:Int)∧True∧(n:Int)*(8:Nat)≤2 ^ 46∧(n:Int)≤2 ^ 46∧[AV.i 0].length=1:=by
  refine ⟨by omega,trivial,by omega,by omega,rfl⟩
 simp only[XB]
 rw[if_pos h1]
 simp[YW]
theorem WW (σ J:List AObj):rowOf (σ++J) σ.length=rowOf J 0:=by
 unfold rowOf;rw[QS (QG _),Nat.sub_self]
theorem X9 (σ J:List AObj) (k:Nat):rowOf (σ++J) (σ.length+k)=rowOf J k:=by
 unfold rowOf;rw[QS (by omega),X6]
theorem VW (σ J:List AObj) (v:AObj):(σ++J).set σ.length v=σ++J.set 0 v:=by
 rw[List.set_append_right _ _ (QG _),Nat.sub_self]
theorem EZ (σ J:List AObj) (k:Nat) (v:AObj):(σ++J).set (σ.length+k) v=σ++J.set k v:=by
 rw[List.set_append_right _ _ (by omega),X6]
theorem Qau (σ J:List AObj):(σ++J)[σ.length]? = J[0]? := by rw[QS (QG _),Nat.sub_self]
theorem CH (σ J:List AObj) (k:Nat):(σ++J)[σ.length+k]? = J[k]? := by rw[QS (by omega),X6]
theorem get_nz (σ:List AObj):σ[σ.length]? = none:=QN (QG _)
theorem get_ns (σ:List AObj) (k:Nat):σ[σ.length+k]? = none:=QN (by omega)
theorem ZH {σ:List AObj} {l:Nat} {cs:List AV} (h:rowOf σ l=some cs) (J:List AObj):rowOf (σ++J) l=some cs:=by
 have h:=WO h
 unfold rowOf;rw[QE (QH.1 h).1,h]
theorem Qdq {σ:List AObj} {l:Nat} {cs:List AV} (h:rowOf σ l=some cs) (J:List AObj):(σ++J)[l]? = some (.cells cs):=by
 have h:=WO h
 rw[QE (QH.1 h).1,h]
theorem str_eq (x y:ByteArray):(x.toList == y.toList)=decide (x=y):=by
 rw[Q8];simp
 constructor
 ·intro h
  rw[Lib.toList_data,Lib.toList_data] at h
  cases x;cases y
  simp only at h
  congr
  exact Array.toList_inj.1 h
 ·rintro rfl;rfl
theorem Q6 {n:Nat} (h:n+1<2 ^ 63):IntKind.i64.wrap ((n:Int)+1)=((n+1:Nat):Int):=by rw[ZC (by omega)];rfl
section
variable {m m2:LM} {X X2:Nat→Prop} {w:World} {g:Nat→Nat}
mutual
theorem VRel.shift (hm:∀ l b,m l=some b→m2 (g l)=some b) (ho:∀ b,Own m2 X2 b→Own m X b):∀ (a:AV) (v:Value),VRel m X w a v→VRel m2 X2 w (AM.ren g a) v
 | .cv c,v,h=>by simp only[AM.ren,VRel] at h ⊢;exact CV.rep_less ho c v h
 | .ptr l off,v,h=>by simp only[AM.ren,VRel] at h ⊢;obtain ⟨b,h1,h2⟩:=h;exact ⟨b,hm l b h1,h2⟩
 | .sl l off len esz,v,h=>by simp only[AM.ren,VRel] at h ⊢;obtain ⟨b,cap,h1,h2⟩:=h;exact ⟨b,cap,hm l b h1,h2⟩
 | .map l,v,h=>by simp only[AM.ren,VRel] at h ⊢;obtain ⟨b,h1,h2⟩:=h;exact ⟨b,hm l b h1,h2⟩
 | .fn f cs,v,h=>by simp only[AM.ren,VRel] at h ⊢;obtain ⟨vs,h1,h2⟩:=h;exact ⟨vs,h1,QK.shift hm ho cs vs h2⟩
 | .bm f cs,v,h=>by simp only[AM.ren,VRel] at h ⊢;obtain ⟨vs,h1,h2⟩:=h;exact ⟨vs,h1,QK.shift hm ho cs vs h2⟩
 | .yld l,v,h=>by simp only[AM.ren,VRel] at h ⊢;obtain ⟨b,h1,h2⟩:=h;exact ⟨b,hm l b h1,h2⟩
 | .agg cs,v,h=>by simp only[AM.ren,VRel] at h ⊢;obtain ⟨vs,h1,h2⟩:=h;exact ⟨vs,h1,QK.shift hm ho cs vs h2⟩
 | .tup cs,v,h=>by simp only[AM.ren,VRel] at h ⊢;obtain ⟨vs,h1,h2⟩:=h;exact ⟨vs,h1,QK.shift hm ho cs vs h2⟩
 | .undef,v,_=>by simp[AM.ren,VRel]
 | .slc l off len cap esz,v,h=>by simp only[AM.ren,VRel] at h ⊢;obtain ⟨b,h1,h2⟩:=h;exact ⟨b,hm l b h1,h2⟩
theorem QK.shift (hm:∀ l b,m l=some b→m2 (g l)=some b) (ho:∀ b,Own m2 X2 b→Own m X b):∀ (as_:List AV) (vs:List Value),QK m X w as_ vs→QK m2 X2 w (AM.rens g as_) vs
 | [],[],_=>by simp[AM.rens,QK]
 | a::as_,v::vs,h=>by simp only[AM.rens,QK] at h ⊢;exact ⟨VRel.shift hm ho a v h.1,QK.shift hm ho as_ vs h.2⟩
 | [],_::_,h=>by simp[QK] at h
 | _::_,[],h=>by simp[QK] at h
end
theorem ORel.shift (hm:∀ l b,m l=some b→m2 (g l)=some b) (ho:∀ b,Own m2 X2 b→Own m X b) {b:Nat} {o:AObj} (h:ORel m X w (some b) o):ORel m2 X2 w (some b) (renO g o):=by
 cases o with
 | dead=>trivial
 | cells cs =>
  simp only[ORel,renO] at h ⊢
  obtain ⟨c,e,h1,h2,h3⟩:=h
  exact ⟨c,e,h1,by rw[UY];exact h2,by rw[UY];exact QK.shift hm ho _ _ h3⟩
 | map es =>
  simp only[ORel,renO] at h ⊢
  obtain ⟨ces,clock,h1,h2,h3,h4,h5⟩:=h
  refine ⟨ces,clock,h1,h2,h3,by simpa using h4,fun i k a hi=>?_⟩
  rw[ZR,QA] at hi
  obtain ⟨⟨k0,a0⟩,hi,he⟩:=hi
  simp only[Prod.mk.injEq] at he
  obtain ⟨rfl,rfl⟩:=he
  obtain ⟨e,g1,g2,g3⟩:=h5 i k0 a0 hi
  exact ⟨e,g1,VRel.shift hm ho _ _ g2,VRel.shift hm ho _ _ g3⟩
 | siter s p=>simpa only[ORel,renO] using h
 | loop r =>
  simp only[ORel,renO] at h ⊢
  obtain ⟨tmps,d,fi,h1,h2,h3,h4⟩:=h
  refine ⟨tmps,d,fi,h1,fun i t hi=>?_,h3,by rw[UY];exact h4⟩
  have:=VRel.shift hm ho _ _ (h2 i t hi)
  rwa [← O3] at this
end
abbrev sh (n:Nat):Nat→Nat:=fun l=>l+n
theorem AC.frame {P:Program} {f:FuncId} {args:List AV} {Q:AV→List AObj→Prop} (hcl:QO 0 args=true) (h:AC P f args [] Q) (σ:List AObj) :
  AC P f args σ fun r τ=>∃ r0 τ0,Q r0 τ0∧r=ren (sh σ.length) r0∧τ=σ++τ0.map (renO (sh σ.length)):=by
 refine ⟨h.1,fun m X w cargs ha hh=>?_⟩
 have hown:∀ b,Own nom (Own m X) b↔Own m X b:=fun b=>⟨fun h=>h.elim id (fun ⟨l,hl⟩=>by cases hl),.inl⟩
 have ha0:QK nom (Own m X) w args cargs:=QK.less (k:=0) (fun l hl=>absurd hl (W5 _)) (fun b hb=>(hown b).1 hb) args cargs hcl ha
 have hlt:∀ b,Own m X b→b<w.heap.size:=fun b hb=>by
  rcases hb with hb | ⟨l,hl⟩
  ·exact hh.xb b hb
  ·exact (hh.dom l b hl).2
 have hh0:HRel nom (Own m X) [] w:=⟨hlt,fun l b hl=>(by cases hl),fun l b o hl=>(by cases hl),fun l l' b o hl=>(by cases hl),fun l o ho=>(by simp at ho),hh.gl.less fun b hb=>(hown b).1 hb⟩
 refine (h.2 nom (Own m X) w cargs ha0 hh0).mono ?_
 rintro e w' ⟨c,r,τ0,m',rfl,hQ,hv,hh',hst,_⟩
 have hnew:∀ l b,m' l=some b→w.heap.size≤b:=fun l b hl=>by
  rcases hst.new l b hl with ⟨l',hl'⟩ | hge
  ·cases hl'
  ·exact hge
 have hsame:∀ b,b<w.heap.size→w'.heap[b]? = w.heap[b]? := fun b hb=>hst.fr b hb (.inr fun l hl=>by cases hl)
 let n:=σ.length
 let m2:LM:=fun l=>if l<n then m l else m' (l-n)
 have m2lo:∀ l,l<n→m2 l=m l:=fun l hl=>by simp only[m2];rw[if_pos hl]
 have m2hi:∀ l,m2 (l+n)=m' l:=fun l=>by simp only[m2];rw[if_neg (by omega),Nat.add_sub_cancel]
 have m2s:∀ l b,m2 l=some b→(l<n∧m l=some b)∨(n≤l∧m' (l-n)=some b):=fun l b hl=>by
  rcases ZB l n with h | h
  ·exact .inl ⟨h,by rw[← m2lo l h];exact hl⟩
  ·exact .inr ⟨h,by rw[← m2hi,Nat.sub_add_cancel h];exact hl⟩
 have how:∀ b,Own m2 X b→Own m' (Own m X) b:=by
  rintro b (hx | ⟨l,hl⟩)
  ·exact .inl (.inl hx)
  ·rcases m2s l b hl with ⟨_,h⟩ | ⟨_,h⟩
   ·exact .inl (.inr ⟨l,h⟩)
   ·exact .inr ⟨_,h⟩
 have hmap:∀ l b,m' l=some b→m2 (sh n l)=some b:=fun l b hl=>by rw[← hl];exact m2hi l
 have hlo:∀ (l:Nat) (o:AObj),l<n→(σ++τ0.map (renO (sh n)))[l]? = some o→σ[l]? = some o:=fun l o hl ho=>by rwa [QE hl] at ho
 have hhi:∀ (l:Nat) (o:AObj),n≤l→(σ++τ0.map (renO (sh n)))[l]? = some o→∃ o0,τ0[l-n]? = some o0∧o=renO (sh n) o0:=fun l o hl ho=>by
  rw[QS hl,ZR,QA] at ho
  obtain ⟨o0,h1,h2⟩:=ho
  exact ⟨o0,h1,h2.symm⟩
 have live0:∀ o:AObj,(renO (sh n) o).live→o.live:=fun o h=>by cases o <;> simp_all [renO,AObj.live]
 refine ⟨c,ren (sh n) r,σ++τ0.map (renO (sh n)),m2,rfl,⟨r,τ0,hQ,rfl,rfl⟩,VRel.shift hmap how r c hv,⟨?_,?_,?_,?_,?_,hh'.gl.less how⟩,?_,by simp⟩
 ·exact fun b hb=>hh'.xb b (.inl hb)
 ·intro l b hl
  rcases m2s l b hl with ⟨h1,h2⟩ | ⟨h1,h2⟩
  ·have:=hh.dom l b h2
   exact ⟨by simp;omega,Z6 this.2 hst.size⟩
  ·have:=hh'.dom _ b h2
   exact ⟨by simp;omega,this.2⟩
 ·intro l b o hl ho hv hx
  rcases m2s l b hl with ⟨h1,h2⟩ | ⟨h1,h2⟩
  ·exact hh.own l b o h2 (hlo l o h1 ho) hv hx
  ·obtain ⟨o0,g1,rfl⟩:=hhi l o h1 ho
   exact hh'.own _ b o0 h2 g1 (live0 o0 hv) (.inl hx)
 ·intro l l' b o' hl hl' ho' hv
  rcases m2s l b hl with ⟨h1,h2⟩ | ⟨h1,h2⟩ <;> rcases m2s l' b hl' with ⟨h3,h4⟩ | ⟨h3,h4⟩
  ·exact hh.inj l l' b o' h2 h4 (hlo l' o' h3 ho') hv
  ·omega
  ·have:=hnew _ b h2
   have:=(hh.dom l' b h4).2
   omega
  ·obtain ⟨o0,g1,rfl⟩:=hhi l' o' h3 ho'
   have:=hh'.inj _ _ b o0 h2 h4 g1 (live0 o0 hv)
   omega
 ·intro l o ho
  rcases ZB l n with h1 | h1
  ·have ho:=hlo l o h1 ho
   rw[m2lo l h1]
   have hor:=hh.obj l o ho
   cases hml:m l with
   | none=>rw[hml] at hor;cases o <;> simp[ORel] at hor ⊢
   | some b =>
    rw[hml] at hor
    have hm:Mono m X w m2 X w':=by
     refine ⟨fun l b hl=>?_,fun b hb hc=>⟨hsame b hc.lt,?_⟩,fun b c e hb=>⟨c,?_,rfl⟩⟩
     ·rw[m2lo l (hh.dom l b hl).1];exact hl
     ·rintro (hx | ⟨l,hl⟩)
      ·exact hb (.inl hx)
      ·rcases m2s l b hl with ⟨_,h⟩ | ⟨_,h⟩
       ·exact hb (.inr ⟨l,h⟩)
       ·have:=hnew _ b h;have:=hc.lt;omega
     ·rw[hsame b ((Q3.1 hb).1),hb]
    exact ORel.mono hm (hsame b (hh.dom l b hml).2) hor
  ·obtain ⟨o0,g1,rfl⟩:=hhi l o h1 ho
   have hor:=hh'.obj _ o0 g1
   have e:m2 l=m' (l-n):=by rw[← m2hi,Nat.sub_add_cancel h1]
   rw[e]
   cases hml:m' (l-n) with
   | none=>rw[hml] at hor;cases o0 <;> simp[ORel,renO] at hor ⊢
   | some b=>rw[hml] at hor;exact ORel.shift hmap how hor
 ·refine ⟨fun l hl=>m2lo l hl,fun l b hl=>?_,hst.size,fun b hb _=>hsame b hb,hst.shp,hst.os,hst.tape,hst.output,hst.drawn⟩
  rcases m2s l b hl with ⟨_,h⟩ | ⟨_,h⟩
  ·exact .inl ⟨l,h⟩
  ·exact .inr (hnew _ b h)
theorem AC.cut {P:Program} {f:FuncId} {args:List AV} {σ σ2:List AObj} {v:AV} (h:AC P f args σ fun r τ=>r=v∧∃ junk,τ=σ2++junk) (hl:σ2.length=σ.length) (hv:QR σ.length v=true)
  (ho:∀ (l:Nat) (o:AObj),σ2[l]? = some o→σ[l]? = some o∨Z3 σ.length o=true):AC P f args σ fun r τ=>r=v∧τ=σ2:=by
 refine h.tidy ?_
 rintro r τ ⟨rfl,junk,rfl⟩
 refine ⟨id,r,σ2,⟨fun _ _=>rfl,fun _ _ h _=>h,by omega,(PU (g:=id) (k:=σ.length) (fun _ _=>rfl) r hv).symm,by rw[hl];exact hv,fun l o hlo=>?_⟩,rfl,rfl⟩
 have hlt:l<σ2.length:=(QH.1 hlo).1
 have hin:(σ2++junk)[l]? = some o:=by rw[QE hlt];exact hlo
 rcases ho l o hlo with h1 | h1
 ·exact .inl ⟨by omega,h1,hin⟩
 ·refine .inr ⟨by rw[hl];exact h1,?_⟩
  rw[E1 (g:=id) (k:=σ.length) (fun _ _=>rfl) h1];exact hin
def atF (gl:List Nat) (N:Nat) (l:Nat):Nat:=if l<gl.length then gl.getD l 0 else N+(l-gl.length)
def putL (σ:List AObj):List Nat→List AObj→List AObj
 | l::ls,o::os=>putL (σ.set l o) ls os
 | [],os=>σ++os
 | _::_,[]=>σ
def AtOk (σ:List AObj) (g:Nat→Nat) (n:Nat):List Nat→List AObj→Prop
 | l::ls,o::os=>(o.live∧Z3 n o=true∧σ[l]? = some (renO g o))∧AtOk σ g n ls os
 | [],[]=>True
 | _,_=>False
theorem AtOk.get {σ:List AObj} {g:Nat→Nat} {n:Nat}:∀ {ls:List Nat} {os:List AObj},AtOk σ g n ls os→ls.length=os.length∧∀ (k:Nat) (o:AObj),os[k]? = some o→o.live∧Z3 n o=true∧σ[ls.getD k 0]? = some (renO g o)
 | [],[],_=>⟨rfl,fun k o h=>by simp at h⟩
 | l::ls,o::os,h=>by
  obtain ⟨h1,h2⟩:=h
  obtain ⟨h3,h4⟩:=h2.get
  refine ⟨by simp[h3],fun k o' hk=>?_⟩
  cases k with
  | zero=>simp at hk;subst hk;simpa using h1
  | succ k=>simpa using h4 k o' (by simpa using hk)
 | [],_::_,h=>h.elim
 | _::_,[],h=>h.elim
theorem Qbb:∀ (gl:List Nat) (os σ:List AObj),gl.Nodup→(∀ l∈gl,l<σ.length)→gl.length≤os.length →
  (putL σ gl os).length=σ.length+(os.length-gl.length)∧(∀ (k l:Nat),gl[k]? = some l→(putL σ gl os)[l]? = os[k]?)∧(∀ (l:Nat),l<σ.length→l∉gl→(putL σ gl os)[l]? = σ[l]?)∧∀ (j:Nat),(putL σ gl os)[σ.length+j]? = os[gl.length+j]?
 | [],os,σ,_,_,_=>by
  refine ⟨by simp[putL],fun k l h=>by simp at h,fun l hl _=>?_,fun j=>?_⟩
  ·simp only[putL];rw[QE hl]
  ·simp only[putL];rw[QS (by omega)];simp
 | g::gl,[],σ,_,_,h=>by simp at h
 | g::gl,o::os,σ,hnd,hlt,hle=>by
  have hn:=WQ.1 hnd
  obtain ⟨h1,h2,h3,h4⟩:=Qbb gl os (σ.set g o) hn.2 (fun l hl=>by simpa using hlt l (by simp[hl])) (by simpa using hle)
  simp only[putL]
  simp only[WE] at h1 h3 h4
  have hg:=hlt g (by simp)
  refine ⟨by rw[h1];simp,fun k l hk=>?_,fun l hl hm=>?_,fun j=>?_⟩
  ·cases k with
   | zero =>
    simp at hk;subst hk
    rw[h3 g hg hn.1,Z2 hg];rfl
   | succ k=>rw[h2 k l (by simpa using hk)];rfl
  ·simp only[ZD,not_or] at hm
   rw[h3 l hl hm.2,QU (fun h=>hm.1 h.symm)]
  ·rw[h4 j,show (g::gl).length+j=(gl.length+j)+1 by simp;omega];rfl
theorem E7 {g:Nat→Nat} {o:AObj} (h:(renO g o).live):o.live:=by cases o <;> simp_all [renO,AObj.live]
theorem AC.at {P:Program} {f:FuncId} {args:List AV} {σ0 σ:List AObj} {Q:AV→List AObj→Prop} (gl:List Nat) (h:AC P f args σ0 Q) (hnd:gl.Nodup) (hcl:QO σ0.length args=true)
  (hobj:AtOk σ (atF gl σ.length) σ0.length gl σ0) :
  AC P f (rens (atF gl σ.length) args) σ fun r τ=>∃ r0 τ0,Q r0 τ0∧σ0.length≤τ0.length∧r=ren (atF gl σ.length) r0∧τ=putL σ gl (τ0.map (renO (atF gl σ.length))):=by
 refine ⟨h.1,fun m X w cargs ha hh=>?_⟩
 obtain ⟨hlen,hget⟩:=hobj.get
 generalize hn0:σ0.length=n0 at *
 let N:=σ.length
 obtain ⟨g,hg⟩:∃ g,g=atF gl N:=⟨_,rfl⟩
 rw[← hg] at ha hget ⊢
 have glo:∀ l,l<n0→g l=gl.getD l 0:=fun l hl=>by rw[hg];unfold atF;rw[if_pos (by omega)]
 have ghi:∀ j,g (n0+j)=N+j:=fun j=>by rw[hg];unfold atF;rw[if_neg (by omega)];omega
 have gmem:∀ l,l<n0→gl[l]? = some (g l):=fun l hl=>by rw[glo l hl];simp[List.getD,show l<gl.length by omega]
 have hsome:∀ l,l<n0→∃ o,σ0[l]? = some o:=fun l hl=>⟨σ0[l],by simp⟩
 have glt:∀ l,l<n0→g l<N:=fun l hl=>by
  obtain ⟨o,ho⟩:=hsome l hl
  have:=(hget l o ho).2.2
  rw[← glo l hl] at this
  exact (QH.1 this).1
 have gobj:∀ (l:Nat) o,σ0[l]? = some o→l<n0∧o.live∧Z3 n0 o=true∧σ[g l]? = some (renO g o):=fun l o ho=>by
  have hl:l<n0:=by rw[← hn0];exact (QH.1 ho).1
  have:=hget l o ho
  rw[← glo l hl] at this
  exact ⟨hl,this⟩
 have glive:∀ l,l<n0→∃ o,σ[g l]? = some o∧o.live:=fun l hl=>by
  obtain ⟨o,ho⟩:=hsome l hl
  have:=gobj l o ho
  exact ⟨_,this.2.2.2,EI this.2.1⟩
 have ginj:∀ a b,a<n0→b<n0→g a=g b→a=b:=fun a b ha hb he=>by
  have h1:=gmem a ha
  have h2:=gmem b hb
  rw[← he] at h2
  exact (List.getElem?_inj (by omega) hnd).1 (h1.trans h2.symm)
 have hone:∀ l l' b o o',m l=some b→m l'=some b→σ[l]? = some o→σ[l']? = some o'→o.live→o'.live→l=l':=fun l l' b o o' h1 h2 h3 h4 h5 h6=>by
  have:=hh.inj l l' b o' h1 h2 h4 h6
  have:=hh.inj l' l b o h2 h1 h3 h5
  omega
 let m0:LM:=fun l=>if l<n0 then m (g l) else none
 have m0lo:∀ l,l<n0→m0 l=m (g l):=fun l hl=>by simp only[m0];rw[if_pos hl]
 have m0s:∀ l b,m0 l=some b→l<n0∧m (g l)=some b:=fun l b hl=>by
  simp only[m0] at hl
  split at hl
  ·rename_i h;exact ⟨h,hl⟩
  ·cases hl
 let X':Nat→Prop:=fun b=>Own m X b∧∀ l,l<n0→m (g l)≠some b
 have hown:∀ b,Own m X b→Own m0 X' b:=fun b hb=>by
  by_cases hx:∃ l,l<n0∧m (g l)=some b
  ·obtain ⟨l,h1,h2⟩:=hx
   exact .inr ⟨l,by rw[m0lo l h1];exact h2⟩
  ·exact .inl ⟨hb,fun l h1 h2=>hx ⟨l,h1,h2⟩⟩
 have hown':∀ b,Own m0 X' b→Own m0 (Own m X) b:=fun b hb=>hb.elim (fun h=>.inl h.1) .inr
 have hown2:∀ b,Own m0 (Own m X) b→Own m (Own m X) b:=fun b hb=>hb.elim .inl (fun ⟨l,hl⟩=>.inr ⟨_,(m0s l b hl).2⟩)
 have hown3:∀ b,Own m (Own m X) b→Own m X b:=fun b hb=>hb.elim id .inr
 have hlt:∀ b,Own m X b→b<w.heap.size:=fun b hb=>by
  rcases hb with hb | ⟨l,hl⟩
  ·exact hh.xb b hb
  ·exact (hh.dom l b hl).2
 have ha0:QK m0 X' w args cargs:=by
  have hk:=QK.locs (n:=N) (fun l b hl=>(hh.dom l b hl).1) _ _ ha
  have h1:QK m (Own m X) w (rens g args) cargs:=QK.less (k:=N) (fun _ _=>rfl) (fun b hb=>hown3 b hb) _ _ hk ha
  have h2:QK m0 (Own m X) w args cargs:=QK.ren (k:=n0) (g:=g) (fun l hl=>m0lo l hl) (fun b hb=>hown2 b hb) _ _ hcl h1
  exact QK.less (k:=n0) (fun _ _=>rfl) hown' _ _ hcl h2
 have hh0:HRel m0 X' σ0 w:=by
  refine ⟨fun b hb=>hlt b hb.1,fun l b hl=>?_,fun l b o hl ho hv hx=>?_,fun l l' b o' hl hl' ho' hv=>?_,fun l o ho=>?_,hh.gl.less fun b hb=>hown3 b (hown2 b (hown' b hb))⟩
  ·obtain ⟨h1,h2⟩:=m0s l b hl
   exact ⟨by rw[hn0];exact h1,(hh.dom _ b h2).2⟩
  ·obtain ⟨h1,h2⟩:=m0s l b hl
   exact hx.2 l h1 h2
  ·obtain ⟨h1,h2⟩:=m0s l b hl
   obtain ⟨h1',h2'⟩:=m0s l' b hl'
   obtain ⟨o1,e1,e2⟩:=glive l h1
   obtain ⟨o2,e3,e4⟩:=glive l' h1'
   have:=ginj l l' h1 h1' (hone _ _ b o1 o2 h2 h2' e1 e3 e2 e4)
   omega
  ·obtain ⟨h1,h2,h3,h4⟩:=gobj l o ho
   rw[m0lo l h1]
   have hor:=hh.obj _ _ h4
   cases hml:m (g l) with
   | none=>rw[hml] at hor;cases o <;> simp[ORel,renO] at hor ⊢
   | some b =>
    rw[hml] at hor
    have hk:Z3 N (renO g o)=true:=hh.closed _ _ h4
    have h1:ORel m (Own m X) w (some b) (renO g o):=ORel.less (k:=N) (fun _ _=>rfl) (fun b hb=>hown3 b hb) hk hor
    have h2:ORel m0 (Own m X) w (some b) o:=ORel.ren (k:=n0) (g:=g) (fun l hl=>m0lo l hl) (fun b hb=>hown2 b hb) h3 h1
    exact ORel.less (k:=n0) (fun _ _=>rfl) hown' h3 h2
 refine (h.2 m0 X' w cargs ha0 hh0).mono ?_
 rintro e w' ⟨c,r0,τ0,m',rfl,hQ,hv,hh',hst,hle⟩
 rw[hn0] at hst hle
 let m2:LM:=fun l=>if l<N then m l else m' (n0+(l-N))
 have m2lo:∀ l,l<N→m2 l=m l:=fun l hl=>by simp only[m2];rw[if_pos hl]
 have m2hi:∀ j,m2 (N+j)=m' (n0+j):=fun j=>by simp only[m2];rw[if_neg (by omega),X6]
 have mk:∀ l,l<n0→m' l=m (g l):=fun l hl=>by rw[hst.keep l hl,m0lo l hl]
 have m2s:∀ l b,m2 l=some b→(l<N∧m l=some b)∨(∃ j,l=N+j∧m' (n0+j)=some b):=fun l b hl=>by
  rcases ZB l N with h | h
  ·exact .inl ⟨h,by rw[← m2lo l h];exact hl⟩
  ·refine .inr ⟨l-N,by omega,?_⟩
   rw[← m2hi,show N+(l-N)=l by omega];exact hl
 have hnew:∀ l b,m' l=some b→(∃ l0,l0<n0∧m (g l0)=some b)∨w.heap.size≤b:=fun l b hl=>by
  rcases hst.new l b hl with ⟨l',hl'⟩ | hge
  ·exact .inl ⟨l',m0s l' b hl'⟩
  ·exact .inr hge
 have hsame:∀ b,b<w.heap.size→(∀ l,l<n0→m (g l)≠some b)→w'.heap[b]? = w.heap[b]? := fun b hb hno=>hst.fr b hb (.inr fun l hl=>by
  obtain ⟨h1,h2⟩:=m0s l b hl
  exact hno l h1 h2)
 have hmap:∀ l b,m' l=some b→m2 (g l)=some b:=fun l b hl=>by
  rcases ZB l n0 with h | h
  ·rw[m2lo _ (glt l h),← mk l h];exact hl
  ·obtain ⟨j,rfl⟩:∃ j,l=n0+j:=⟨l-n0,by omega⟩
   rw[ghi,m2hi];exact hl
 have hX':∀ b,Own m X b→Own m' X' b:=fun b hb=>by
  rcases hown b hb with h | ⟨l,hl⟩
  ·exact .inl h
  ·obtain ⟨h1,h2⟩:=m0s l b hl
   exact .inr ⟨l,by rw[mk l h1];exact h2⟩
 have how:∀ b,Own m2 X b→Own m' X' b:=by
  rintro b (hx | ⟨l,hl⟩)
  ·exact hX' b (.inl hx)
  ·rcases m2s l b hl with ⟨_,h⟩ | ⟨j,_,h⟩
   ·exact hX' b (.inr ⟨l,h⟩)
   ·exact .inr ⟨_,h⟩
 have hXg:∀ b,X b→∀ l,l<n0→m (g l)≠some b:=fun b hx l hl he=>by
  obtain ⟨o,h1,h2⟩:=glive l hl
  exact hh.own _ b o he h1 h2 hx
 obtain ⟨pl,p1,p2,p3⟩:=Qbb gl (τ0.map (renO g)) σ hnd (fun l hl=>by
  obtain ⟨k,hk,rfl⟩:=WN.1 hl
  have h1:=glt k (by omega)
  rw[glo k (by omega)] at h1
  simpa[List.getD,hk] using h1) (by rw[ZK];omega)
 generalize hτ:putL σ gl (τ0.map (renO g))=τ at *
 have τlen:τ.length=N+(τ0.length-n0):=by rw[pl,ZK,hlen]
 have τim:∀ l,l<n0→τ[g l]? = (τ0[l]?).map (renO g):=fun l hl=>by rw[p1 l _ (gmem l hl),ZR]
 have τhi:∀ j,τ[N+j]? = (τ0[n0+j]?).map (renO g):=fun j=>by rw[p3 j,ZR,hlen]
 have cls:∀ (l:Nat) o,τ[l]? = some o→(l<N∧(∀ k,k<n0→g k≠l)∧σ[l]? = some o)∨(∃ k o0,k<n0∧l=g k∧τ0[k]? = some o0∧o=renO g o0)∨(∃ j o0,l=N+j∧τ0[n0+j]? = some o0∧o=renO g o0):=fun l o ho=>by
  rcases ZB l N with h | h
  ·by_cases hk:∃ k,k<n0∧l=g k
   ·obtain ⟨k,h1,rfl⟩:=hk
    rw[τim k h1,QA] at ho
    obtain ⟨o0,h2,h3⟩:=ho
    exact .inr (.inl ⟨k,o0,h1,rfl,h2,h3.symm⟩)
   ·have hno:∀ k,k<n0→g k≠l:=fun k h1 h2=>hk ⟨k,h1,h2.symm⟩
    refine .inl ⟨h,hno,?_⟩
    rw[← p2 l h (fun hm=>?_)]
    ·exact ho
    ·obtain ⟨k,hk1,hk2⟩:=WN.1 hm
     refine hno k (by omega) ?_
     rw[glo k (by omega)];simp[List.getD,hk1,hk2]
  ·obtain ⟨j,rfl⟩:∃ j,l=N+j:=⟨l-N,by omega⟩
   rw[τhi j,QA] at ho
   obtain ⟨o0,h2,h3⟩:=ho
   exact .inr (.inr ⟨j,o0,rfl,h2,h3.symm⟩)
 refine ⟨c,ren g r0,τ,m2,rfl,⟨r0,τ0,hQ,hle,rfl,hτ.symm⟩,VRel.shift hmap how r0 c hv,⟨?_,?_,?_,?_,?_,hh'.gl.less how⟩,?_,by rw[τlen];exact Nat.le_add_right _ _⟩
 ·exact fun b hb=>Z6 (hh.xb b hb) hst.size
 ·intro l b hl
  rcases m2s l b hl with ⟨h1,h2⟩ | ⟨j,rfl,h2⟩
  ·exact ⟨by rw[τlen];omega,Z6 (hh.dom l b h2).2 hst.size⟩
  ·have:=hh'.dom _ b h2
   exact ⟨by rw[τlen];omega,this.2⟩
 ·intro l b o hl ho hv hx
  rcases cls l o ho with ⟨h1,_,h2⟩ | ⟨k,o0,h1,rfl,h2,h3⟩ | ⟨j,o0,rfl,h2,rfl⟩
  ·rw[m2lo l h1] at hl
   exact hh.own l b o hl h2 hv hx
  ·rw[m2lo _ (glt k h1)] at hl
   exact hXg b hx k h1 hl
  ·rw[m2hi] at hl
   exact hh'.own _ b o0 hl h2 (E7 hv) ⟨.inl hx,hXg b hx⟩
 ·intro l l' b o' hl hl' ho' hv
  rcases cls l' o' ho' with ⟨h1,h1n,h2⟩ | ⟨k,o0,h1,rfl,h2,h3⟩ | ⟨j,o0,rfl,h2,rfl⟩
  ·rw[m2lo l' h1] at hl'
   rcases m2s l b hl with ⟨g1,g2⟩ | ⟨j,rfl,g2⟩
   ·exact hh.inj l l' b o' g2 hl' h2 hv
   ·exfalso
    rcases hnew _ b g2 with ⟨l0,q1,q2⟩ | hge
    ·obtain ⟨o1,e1,e2⟩:=glive l0 q1
     exact h1n l0 q1 (hone _ _ b o1 o' q2 hl' e1 h2 e2 hv)
    ·have:=(hh.dom l' b hl').2;omega
  ·rw[m2lo _ (glt k h1)] at hl'
   obtain ⟨o1,e1,e2⟩:=glive k h1
   rcases m2s l b hl with ⟨g1,g2⟩ | ⟨j,rfl,g2⟩
   ·exact hh.inj l (g k) b o1 g2 hl' e1 e2
   ·exfalso
    have hk:m' k=some b:=by rw[mk k h1];exact hl'
    have:=hh'.inj (n0+j) k b o0 g2 hk h2 (E7 (by rw[← h3];exact hv))
    omega
  ·rw[m2hi] at hl'
   rcases m2s l b hl with ⟨g1,g2⟩ | ⟨j',rfl,g2⟩
   ·omega
   ·have:=hh'.inj (n0+j') (n0+j) b o0 g2 hl' h2 (E7 hv)
    omega
 ·intro l o ho
  rcases cls l o ho with ⟨h1,h1n,h2⟩ | ⟨k,o0,h1,rfl,h2,rfl⟩ | ⟨j,o0,rfl,h2,rfl⟩
  ·rw [m2lo l h1]
   have hor:=hh.obj l o h2
   by_cases hlv:o.live
   ·cases hml:m l with
    | none=>rw[hml] at hor;cases o <;> simp[ORel] at hor ⊢
    | some b =>
     rw[hml] at hor
     have hbs:=(hh.dom l b hml).2
     have hno:∀ l0,l0<n0→m (g l0)≠some b:=fun l0 q1 q2=>by
      obtain ⟨o1,e1,e2⟩:=glive l0 q1
      exact h1n l0 q1 (hone _ _ b o1 o q2 hml e1 h2 e2 hlv)
     have hm:Mono m X w m2 X w':=by
      refine ⟨fun l b hl=>?_,fun b hb hc=>⟨hsame b hc.lt (fun l0 _ q2=>hb (.inr ⟨_,q2⟩)),?_⟩,hst.shp⟩
      ·rw[m2lo l (hh.dom l b hl).1];exact hl
      ·rintro (hx | ⟨l,hl⟩)
       ·exact hb (.inl hx)
       ·rcases m2s l b hl with ⟨_,h⟩ | ⟨j,_,h⟩
        ·exact hb (.inr ⟨l,h⟩)
        ·rcases hnew _ b h with ⟨l0,q1,q2⟩ | hge
         ·exact hb (.inr ⟨_,q2⟩)
         ·have:=hc.lt;omega
     exact ORel.mono hm (hsame b hbs hno) hor
   ·cases o <;> simp[AObj.live,ORel] at hlv ⊢
  ·have hor:=hh'.obj k o0 h2
   rw[m2lo _ (glt k h1),← mk k h1]
   cases hml:m' k with
   | none=>rw[hml] at hor;cases o0 <;> simp[ORel,renO] at hor ⊢
   | some b=>rw[hml] at hor;exact ORel.shift hmap how hor
  ·have hor:=hh'.obj _ o0 h2
   rw[m2hi]
   cases hml:m' (n0+j) with
   | none=>rw[hml] at hor;cases o0 <;> simp[ORel,renO] at hor ⊢
   | some b=>rw[hml] at hor;exact ORel.shift hmap how hor
 ·refine ⟨fun l hl=>m2lo l hl,fun l b hl=>?_,hst.size,fun b hb hx=>hsame b hb fun l0 q1 q2=>?_,hst.shp,hst.os,hst.tape,hst.output,hst.drawn⟩
  ·rcases m2s l b hl with ⟨_,h⟩ | ⟨j,_,h⟩
   ·exact .inl ⟨l,h⟩
   ·rcases hnew _ b h with ⟨l0,q1,q2⟩ | hge
    ·exact .inl ⟨_,q2⟩
    ·exact .inr hge
  ·rcases hx with hx | hx
   ·exact hXg b hx l0 q1 q2
   ·exact hx _ q2
section
variable {P:Program}
theorem OT.tidy {m:LM} {X:Nat→Prop} {w w':World} {e:Ending} {σ:List AObj} {Q Q':AV→List AObj→Prop} (hh:HRel m X σ w) (hq:∀ r σ',Q r σ'→∃ g r2 σ2,Tidy σ.length σ r σ' g r2 σ2∧Q' r2 σ2) (h:OT m X w σ Q e w'):OT m X w σ Q' e w':=by
 obtain ⟨c,r,σ',m',rfl,hQ,hr,hh',hst,hle⟩:=h
 obtain ⟨g,r2,σ2,ht,hQ'⟩:=hq r σ' hQ
 let m2:LM:=fun l=>if l<σ2.length then m' (g l) else none
 have hm2:∀ l,l<σ2.length→m2 l=m' (g l):=fun l hl=>by simp only[m2];rw[if_pos hl]
 have hm2s:∀ l b,m2 l=some b→l<σ2.length∧m' (g l)=some b:=fun l b hl=>by
  simp only[m2] at hl
  split at hl
  ·rename_i h;exact ⟨h,hl⟩
  ·cases hl
 have how:∀ b,Own m2 X b→Own m' X b:=by
  rintro b (hx | ⟨l,hl⟩)
  ·exact .inl hx
  ·exact .inr ⟨g l,(hm2s l b hl).2⟩
 have hobj:∀ (l:Nat) o,σ2[l]? = some o→Z3 σ2.length o=true∧σ'[g l]? = some (renO g o):=by
  intro l o ho
  rcases ht.obj l o ho with ⟨h1,h2,h3⟩ | h1
  ·have hin:=hh.closed l o h2
   refine ⟨H1 _ _ o ht.le hin,?_⟩
   rw[ht.low l h1,E1 ht.low hin];exact h3
  ·exact h1
 refine ⟨c,r2,σ2,m2,rfl,hQ',?_,⟨hh'.xb,?_,?_,?_,?_,hh'.gl.less how⟩,⟨?_,?_,hst.size,hst.fr,hst.shp,hst.os,hst.tape,hst.output,hst.drawn⟩,ht.le⟩
 ·exact VRel.ren hm2 how r2 c ht.rin (by rw[← ht.res];exact hr)
 ·intro l b hl;obtain ⟨h1,h2⟩:=hm2s l b hl;exact ⟨h1,(hh'.dom _ b h2).2⟩
 ·intro l b o hl ho hv
  obtain ⟨h1,h2⟩:=hm2s l b hl
  exact hh'.own (g l) b _ h2 (hobj l o ho).2 (EI hv)
 ·intro l l' b o' hl hl' ho' hv
  obtain ⟨h1,h2⟩:=hm2s l b hl
  obtain ⟨h1',h2'⟩:=hm2s l' b hl'
  have:=hh'.inj (g l) (g l') b _ h2 h2' (hobj l' o' ho').2 (EI hv)
  rcases ZB l' l with hlt | hge
  ·have:=ht.rise l' l hlt h1;omega
  ·exact hge
 ·intro l o ho
  obtain ⟨h1,h2⟩:=hobj l o ho
  have hl:l<σ2.length:=(QH.1 ho).1
  rw[hm2 l hl]
  exact ORel.ren hm2 how h1 (hh'.obj _ _ h2)
 ·intro l hl
  rw[hm2 l (by have:=ht.le;omega),ht.low l hl];exact hst.keep l hl
 ·intro l b hl;exact hst.new _ b (hm2s l b hl).2
theorem YC.tidy {l:Nat} {args:List AV} {σ:List AObj} {Q Q':AV→List AObj→Prop} (h:YC P l args σ Q) (hq:∀ r σ',Q r σ'→∃ g r2 σ2,Tidy σ.length σ r σ' g r2 σ2∧Q' r2 σ2):YC P l args σ Q' :=
 fun m X w cargs b hb ha hh=>let ⟨L,h1,h2,h3⟩:=h m X w cargs b hb ha hh
  ⟨L,h1,h2,h3.mono fun e w' h=>h.tidy hh hq⟩
theorem tidy_cut {σ σ2:List AObj} {v r:AV} {τ:List AObj} (hl:σ2.length=σ.length) (hv:QR σ.length v=true) (ho:∀ (l:Nat) (o:AObj),σ2[l]? = some o→σ[l]? = some o∨Z3 σ.length o=true)
  (h:r=v∧∃ junk,τ=σ2++junk):∃ g r2 σ3,Tidy σ.length σ r τ g r2 σ3∧(r2=v∧σ3=σ2):=by
 obtain ⟨rfl,junk,rfl⟩:=h
 refine ⟨id,r,σ2,⟨fun _ _=>rfl,fun _ _ h _=>h,by omega,(PU (g:=id) (k:=σ.length) (fun _ _=>rfl) r hv).symm,by rw[hl];exact hv,fun l o hlo=>?_⟩,rfl,rfl⟩
 have hlt:l<σ2.length:=(QH.1 hlo).1
 have hin:(σ2++junk)[l]? = some o:=by rw[QE hlt];exact hlo
 rcases ho l o hlo with h1 | h1
 ·exact .inl ⟨by omega,h1,hin⟩
 ·refine .inr ⟨by rw[hl];exact h1,?_⟩
  rw[E1 (g:=id) (k:=σ.length) (fun _ _=>rfl) h1];exact hin
theorem YC.cut {l:Nat} {args:List AV} {σ σ2:List AObj} {v:AV} (h:YC P l args σ fun r τ=>r=v∧∃ junk,τ=σ2++junk) (hl:σ2.length=σ.length) (hv:QR σ.length v=true)
  (ho:∀ (l:Nat) (o:AObj),σ2[l]? = some o→σ[l]? = some o∨Z3 σ.length o=true):YC P l args σ fun r τ=>r=v∧τ=σ2 :=
 h.tidy fun r τ h=>tidy_cut hl hv ho h
def kRnd (l:Nat) (Q:AV→List AObj→Prop):Exit→St→Prop:=fun e s2=>match e with
 | .panic _ | .outgrown=>False
 | e=>∃ r2,s2.heap[l]? = some (.loop r2)∧Q (.b (GQ e).isNone) (setLoop s2.heap l r2 (if (GQ e).isNone then .ready else .done) (GQ e))
theorem P0 {l:Nat} {Q:AV→List AObj→Prop} {s:St}:kRnd l Q .normal s = ∃ r2,s.heap[l]? = some (.loop r2)∧Q (.b true) (setLoop s.heap l r2 .ready none):=Eq.trans rfl rfl
theorem kRnd_x {l i:Nat} {Q:AV→List AObj→Prop} {s:St}:kRnd l Q (.exit i) s = ∃ r2,s.heap[l]? = some (.loop r2)∧Q (.b false) (setLoop s.heap l r2 .done (some (.exit i))):=Eq.trans rfl rfl
def kAsg (P:Program) (fx:Fx) (l:Nat) (ib:IC) (Q:AV→List AObj→Prop):Exit→St→Prop:=fun e s1=>match e with
 | .normal=>∃ r1,s1.heap[l]? = some (.loop r1)∧r1.state=.ready∧IS P fx ib ⟨s1.vals,setLoop s1.heap l r1 .busy r1.pending⟩ (kRnd l Q) .mk .mk
 | _=>False
theorem Qam {fx:Fx} {l:Nat} {ib:IC} {Q:AV→List AObj→Prop} {s:St}:kAsg P fx l ib Q .normal s = ∃ r1,s.heap[l]? = some (.loop r1)∧r1.state=.ready∧IS P fx ib ⟨s.vals,setLoop s.heap l r1 .busy r1.pending⟩ (kRnd l Q) .mk .mk:=Eq.trans rfl rfl
theorem QeH {l:Nat} {σ:List AObj} {r:XC} {args:List AV} {Q:AV→List AObj→Prop} (ia ib:IC) (hl:σ[l]? = some (.loop r)) (hst:r.state=.ready) (hargs:args.length=r.params.length)
  (hvp:(decide r.vars.Nodup&&r.params.all fun t=>r.vars.contains t&&decide (t<r.ntmps))=true)
  (hca:QL P r.vars r.ntmps r.assign=some ia) (hcb:QL P r.vars r.ntmps r.body=some ib)
  (h:IS P ⟨r.vars,r.ntmps,some l,σ.length⟩ ia ⟨JM r.vars r.params args r.vals,σ⟩ (kAsg P ⟨r.vars,r.ntmps,some l,σ.length⟩ l ib Q) .mk .mk):YC P l args σ Q:=by
 simp only[QD,decide_eq_true_eq,Q1,XS] at hvp
 refine N5 hl hst hargs hvp.1 (fun t ht=>(hvp.2 t ht).1) (fun t ht=>(hvp.2 t ht).2) ?_
 refine Y6 _ ia _ _ hca (BC ia _ _ _ ?_ (VT _ _ _ _ _ h))
 intro e s1 h1
 cases e with
 | normal =>
  obtain ⟨r1,g1,g2,g3⟩:=h1
  refine ⟨r1,g1,g2,?_⟩
  refine Y6 _ ib _ _ hcb (BC ib _ _ _ ?_ (VT _ _ _ _ _ g3))
  intro e s2 h2
  cases e <;> exact h2
 | _=>exact h1
theorem RW_s {fx:Fx} {s:St} {Q:Exit→St→Prop} {g:Opd} {ps:Array Nat} {assign body:Code} {gf:FuncId} {cap:List AV} (hg:WY s.vals [] g=.fn (.func gf) cap) (hvl:s.vals.length≤fx.vars.length) (hr0:∀ l0,fx.r=some l0→∃ r0,s.heap[l0]? = some (.loop r0))
  (h:AC P gf (.yld s.heap.length::cap) (s.heap++[.loop (VJ fx s.vals ps assign body)]) fun _ σ'=>U9 P fx s.vals s.heap.length Q σ'):RW P fx g ps assign body s Q:=⟨gf,cap,hg,hvl,hr0,h⟩
end
def Subs:List AV→List AV→Prop
 | [],[]=>True
 | a::as_,b::bs=>sub1 a b∧Subs as_ bs
 | _,_=>False
theorem Subs.get:∀ {as_ bs:List AV},Subs as_ bs→∀ i,sub1 (as_.getD i .undef) (bs.getD i .undef)
 | [],[],_,i=>.inl rfl
 | a::as_,b::bs,h,0=>h.1
 | a::as_,b::bs,h,i+1=>by simpa using Subs.get h.2 i
 | [],_::_,h,_=>h.elim
 | _::_,[],h,_=>h.elim
theorem Weak.cut {fx:Fx} {vals vals':List AV} {τ J:List AObj} (hv:Subs vals vals') (hk:fx.n0≤τ.length) (hl:QO τ.length vals'=true) (ho:∀ o∈τ,Z3 τ.length o=true):Weak fx ⟨vals,τ++J⟩ ⟨vals',τ⟩:=by
 have:=Weak.drop (fx:=fx) (s:=⟨vals,τ++J⟩) (vals':=vals') (k:=τ.length) hv.get hk hl (fun o h=>ho o (by simpa using h)) (by simp)
 simpa using this
theorem GH {σ τ:List AObj} {v:AV} (hl:τ.length=σ.length) (hv:QR τ.length v=true) (ho:∀ (l:Nat) o,τ[l]? = some o→σ[l]?≠some o→Z3 τ.length o=true):HM σ v τ :=
 ⟨hv,by omega,fun l o h1 h2=>⟨ho l o h1 h2,fun h=>by have:=(QH.1 h1).1;omega⟩⟩
theorem callOk_set {σ:List AObj} {v:AV} {l:Nat} {o:AObj} (hv:QR σ.length v=true) (ho:Z3 σ.length o=true):HM σ v (σ.set l o) :=
 GH (by simp) (by simpa using hv) fun k o' h1 h2=>by
  rw[WE]
  by_cases hk:l=k
  ·subst hk
   have hlt:=(QH.1 h1).1
   rw[WE] at hlt
   rw[Z2 hlt] at h1
   cases h1;exact ho
  ·rw[QU hk] at h1;exact absurd h1 h2
section
variable {P:Program}
theorem AC.cut0 {f:FuncId} {args:List AV} {σ:List AObj} {v:AV} (h:AC P f args σ fun r τ=>r=v∧∃ junk,τ=σ++junk) (hv:QR σ.length v=true):AC P f args σ fun r τ=>r=v∧τ=σ :=
 h.cut rfl hv fun l o h=>.inl h
theorem AC.cutF {f:FuncId} {args:List AV} {σ:List AObj} {v:AV} (h:AC P f args σ fun r τ=>r=v∧∃ junk,τ=σ++junk) (hv:QR 0 v=true):AC P f args σ fun r τ=>r=v∧τ=σ :=
 h.cut0 (Y8 (QF _) v hv)
end
def clip (k:Nat):List AV→List AV
 | []=>[]
 | a::as_=>(if QR k a=true then a else .undef)::clip k as_
theorem QaF (k:Nat):∀ vals:List AV,Subs vals (clip k vals)
 | []=>trivial
 | a::as_=>⟨by by_cases h:QR k a=true <;> simp[sub1,h],QaF k as_⟩
theorem Qdz (k:Nat):∀ vals:List AV,QO k (clip k vals)=true
 | []=>rfl
 | a::as_=>by
  simp only[clip,QO,QD]
  refine ⟨?_,Qdz k as_⟩
  by_cases h:QR k a=true
  ·rw[if_pos h];exact h
  ·rw[if_neg h];rfl
theorem W1 {fx:Fx} {c:Prop} {S:St→Prop} {Q:Exit→St→Prop} {vals:List AV} {heap:List AObj} (τ J:List AObj) (hh:heap=τ++J) (hc:c) (hn:fx.n0≤τ.length) (ho:∀ o∈τ,Z3 τ.length o=true)
  (h:S ⟨clip τ.length vals,τ⟩):kFor fx c S Q .normal ⟨vals,heap⟩:=by
 subst hh
 exact AS hc (Weak.cut (QaF _ _) hn (Qdz _ _) ho) h
theorem HRel.forget {m:LM} {X:Nat→Prop} {σ J:List AObj} {w:World} (h:HRel m X (σ++J) w):HRel m X (List.replicate σ.length .dead++J) w:=by
 have hl:(List.replicate σ.length AObj.dead++J).length=(σ++J).length:=by simp
 have hg:∀ (l:Nat) o,(List.replicate σ.length AObj.dead++J)[l]? = some o→o=.dead∨(σ++J)[l]? = some o:=fun l o ho=>by
  by_cases hlt:l<σ.length
  ·rw[QE (by simpa using hlt)] at ho
   have:=QZ ho
   rw[List.mem_replicate] at this
   exact .inl this.2
  ·rw[QS (by simp;omega)] at ho
   rw[QS (by omega)]
   exact .inr (by simpa using ho)
 have hlv:∀ (l:Nat) o,(List.replicate σ.length AObj.dead++J)[l]? = some o→o.live→(σ++J)[l]? = some o:=fun l o ho hv=>by
  rcases hg l o ho with rfl | h
  ·exact hv.elim
  ·exact h
 refine ⟨h.xb,fun l b hb=>by rw[hl];exact h.dom l b hb,fun l b o hb ho hv=>h.own l b o hb (hlv l o ho hv) hv,fun l l' b o' hb hb' ho' hv=>h.inj l l' b o' hb hb' (hlv l' o' ho' hv) hv,fun l o ho=>?_,h.gl⟩
 rcases hg l o ho with rfl | h2
 ·cases m l <;> simp[ORel]
 ·exact h.obj l o h2
theorem S2 (cs:List CV):(cs.map AV.cv).all AV.isSc=true:=by simp[AV.isSc]
def AccS (e:Nat) (σ:List AObj) (v:AV) (n:Nat) (cs:List CV):Prop:=(v=.cv .nils∧n=0∧cs=[])∨∃ l,v=.sl l 0 n e∧cs.length=n*e∧rowOf σ l=some (cs.map .cv)
theorem AccS.nil (e:Nat) (σ:List AObj):AccS e σ (.cv .nils) 0 []:=.inl ⟨rfl,rfl,rfl⟩
theorem QcM {e by_ n:Nat} {σ:List AObj} {v:AV} {cs x:List CV} (h:AccS e σ v n cs) (hx:x.length=e) (hb:(n+1)*by_≤2 ^ 44) (hn:n+1≤2 ^ 44) :
  ∃ (v':AV) (σ':List AObj),ZX e by_ [v,.sl σ.length 0 1 e] (σ++[AObj.cells (x.map .cv)])=some (v',σ')∧AccS e σ' v' (n+1) (cs++x):=by
 have hsrc:Z9 (σ++[AObj.cells (x.map .cv)]) e (.sl σ.length 0 1 e)=some (x.map .cv):=by
  have h1:0+1*e≤(x.map AV.cv).length:=by simp[hx]
  simp only[Z9,if_true,XH,Option.bind_some]
  rw[if_pos h1,YO,Q5 (by simp[hx])]
 rcases h with ⟨rfl,rfl,rfl⟩ | ⟨l,rfl,hl,hr⟩
 ·refine ⟨.sl (σ++[AObj.cells (x.map .cv)]).length 0 1 e,(σ++[AObj.cells (x.map .cv)])++[AObj.cells (x.map .cv)],?_,.inr ⟨_,rfl,by simp[hx],by rw[XH];simp⟩⟩
  have h1:1*e=(x.map AV.cv).length∧1*by_≤2 ^ 44∧1≤2 ^ 44∧(x.map AV.cv).all AV.isSc=true:=⟨by simp[hx],by omega,by omega,S2 x⟩
  simp only[ZX,hsrc,lenF,Option.bind_some]
  rw[if_neg (by omega),if_pos h1]
 ·have hr':=FU hr (AObj.cells (x.map .cv))
  refine ⟨.sl (σ++[AObj.cells (x.map .cv)]).length 0 (n+1) e,(σ++[AObj.cells (x.map .cv)]).set l AObj.dead++[AObj.cells (cs.map .cv++x.map .cv)],?_,.inr ⟨(σ++[AObj.cells (x.map .cv)]).length,rfl,by rw[QM,hl,hx,XJ],?_⟩⟩
  ·have h1:True∧n*e≤(cs.map AV.cv).length∧1*e=(x.map AV.cv).length∧(n+1)*by_≤2 ^ 44∧n+1≤2 ^ 44∧(x.map AV.cv).all AV.isSc=true:=⟨trivial,by simp[hl],by simp[hx],hb,hn,S2 x⟩
   simp only[ZX,hr',hsrc,lenF,Option.bind_some]
   rw[if_pos h1,Q5 (by simp[hl])]
  ·have:(σ++[AObj.cells (x.map .cv)]).length=((σ++[AObj.cells (x.map .cv)]).set l AObj.dead).length:=by simp
   rw[this,XH,ZS]
theorem TP {p:CV→Prop} {σ:List AObj}:∀ {cs:List CV},(∀ c∈cs,p c)→HL p σ (cs.map .cv) cs
 | [],_=>.nil
 | c::cs,h=>.cons (.c _ (h c (by simp))) (TP fun c' hc=>h c' (by simp[hc]))
theorem GI {p:CV→Prop} {e n:Nat} {σ:List AObj} {v:AV} {cs:List CV} (h:AccS e σ v n cs) (hp:∀ c∈cs,p c):FrzV p σ v (.cv (.rsl cs n)):=by
 rcases h with ⟨rfl,rfl,rfl⟩ | ⟨l,rfl,hl,hr⟩
 ·exact .c .nl
 ·refine .c (.sl l 0 n e _ _ hr (by simp[hl]) ?_)
  rw[YO,Q5 (by simp[hl])]
  exact TP hp
theorem sl_frz {p:CV→Prop} {l n e:Nat} {σ:List AObj} {cs:List CV} {rest:List AV} (hr:rowOf σ l=some (cs.map .cv++rest)) (hl:cs.length=n*e) (hp:∀ c∈cs,p c):FrzV p σ (.sl l 0 n e) (.cv (.rsl cs n)):=by
 refine .c (.sl l 0 n e _ _ hr (by simp[hl]) ?_)
 rw[YO,List.take_left' (by simp[hl])]
 exact TP hp
end Go.Proofs.YtpmokaefmcffaaaGreat.AM
namespace Go.Proofs.YtpmokaefmcffaaaGreat.Pl
def cmpN (x y:Int):Int:=if x<y then -1 else if x>y then 1 else 0
def cmpR (a b:Int × Int):Int:=if cmpN a.1 b.1≠0 then cmpN a.1 b.1 else cmpN a.2 b.2
def leR (a b:Int × Int):Bool:=decide (a.1<b.1)||(decide (a.1=b.1)&&decide (a.2≤b.2))
theorem LP {a b:Int × Int}:cmpR a b<0↔(a.1<b.1∨(a.1=b.1∧a.2<b.2)):=by
 obtain ⟨a1,a2⟩:=a;obtain ⟨b1,b2⟩:=b
 simp only[cmpR,cmpN]
 by_cases h1:a1<b1
 ·simp[h1]
 ·by_cases h2:b1<a1
  ·simp[h1,h2];omega
  ·have:a1=b1:=by omega
   subst this
   by_cases h3:a2<b2
   ·simp[h3]
   ·by_cases h4:b2<a2
    ·simp[h3,h4]
    ·simp[h3,h4]
theorem cmpR_not {a b:Int × Int}:¬ cmpR b a<0↔leR a b=true:=by
 rw[LP]
 obtain ⟨a1,a2⟩:=a;obtain ⟨b1,b2⟩:=b
 simp[leR]
 omega
theorem Qah {a b:Int × Int} (h:leR a b=true) (k:leR b a=true):a=b:=by
 obtain ⟨a1,a2⟩:=a;obtain ⟨b1,b2⟩:=b
 simp[leR] at h k
 have h1:a1=b1:=by omega
 have h2:a2=b2:=by omega
 rw[h1,h2]
theorem Qem (a b c:Int × Int) (h:leR a b=true) (k:leR b c=true):leR a c=true:=by
 obtain ⟨a1,a2⟩:=a;obtain ⟨b1,b2⟩:=b;obtain ⟨c1,c2⟩:=c
 simp[leR] at h k ⊢
 omega
theorem Qen (a b:Int × Int):(leR a b||leR b a)=true:=by
 obtain ⟨a1,a2⟩:=a;obtain ⟨b1,b2⟩:=b
 simp[leR]
 omega
theorem swoR {α:Type} (f:α→Int × Int):Go.Sort.SWO fun x y=>decide (cmpR (f x) (f y)<0):=by
 refine ⟨fun x=>?_,fun x y z h k=>?_,fun x y z h k=>?_⟩
 ·exact decide_eq_false (by rw[LP];omega)
 ·have h:=of_decide_eq_true h;have k:=of_decide_eq_true k
  rw[LP] at h k
  exact decide_eq_true (by rw[LP];omega)
 ·have h:=of_decide_eq_false h;have k:=of_decide_eq_false k
  rw[LP] at h k
  exact decide_eq_false (by rw[LP];omega)
def V2 (l:List (Int × Int)):List (Int × Int):=l.mergeSort leR
theorem H0 (l:List (Int × Int)):(V2 l).Perm l:=List.mergeSort_perm l leR
theorem GY (l:List (Int × Int)):(V2 l).Pairwise fun a b=>leR a b=true:=List.pairwise_mergeSort Qem Qen l
theorem EF {l m:List (Int × Int)} (h:m.Perm l) (hs:m.Pairwise fun a b=>leR a b=true):m=V2 l :=
 List.Perm.eq_of_pairwise (le:=fun a b=>leR a b=true) (fun a b _ _ h k=>Qah h k) hs (GY l) (h.trans (H0 l).symm)
theorem NR {l m:List (Int × Int)} (h:m.Perm l):V2 m=V2 l:=EF ((H0 m).trans h) (GY m)
theorem EE (l:List (Int × Int)):(V2 l).length=l.length:=(H0 l).length_eq
theorem VM {l:List (Int × Int)} {a:Int × Int}:a∈V2 l↔a∈l:=(H0 l).mem_iff
def setT (o:List Bool) (z:Nat):List Bool:=o.set z true
def GP (g:Nat→List Nat) (o:List Bool) (i:Nat):List Bool:=if o[i]?.getD false then (g i).foldl setT o else o
def GO (g:Nat→List Nat) (o:List Bool) (n:Nat):List Bool:=(List.range n).foldl (GP g) o
def covN (g:Nat→List Nat) (n c:Nat):Nat→List Bool
 | 0=>(List.replicate n false).set c true
 | t+1=>GO g (covN g n c t) n
def covG (g:Nat→List Nat) (n c:Nat):List Bool:=covN g n c n
inductive Rch (g:Nat→List Nat) (c:Nat):Nat→Prop
 | refl:Rch g c c
 | step {a z:Nat}:Rch g c a→z∈g a→Rch g c z
theorem Rch.trans {g:Nat→List Nat} {a b c:Nat} (h1:Rch g a b) (h2:Rch g b c):Rch g a c:=by
 induction h2 with
 | refl=>exact h1
 | step _ hz ih=>exact ih.step hz
theorem Rch.head {g:Nat→List Nat} {a b c:Nat} (h1:b∈g a) (h2:Rch g b c):Rch g a c:=Rch.trans (Rch.refl.step h1) h2
def T (o:List Bool) (k:Nat):Prop:=o[k]?.getD false=true
theorem T.lt {o:List Bool} {k:Nat} (h:T o k):k<o.length:=by
 unfold T at h
 rcases ZB k o.length with h1 | h1
 ·exact h1
 ·rw[QN h1] at h;cases h
theorem T_ext {a b:List Bool} (hl:a.length=b.length) (h:∀ k,k<a.length→(T a k↔T b k)):a=b:=by
 apply Y1 hl
 intro k h1 h2
 have:=h k h1
 unfold T at this
 rw[QI h1,QI h2] at this
 rw[Q8]
 simpa using this
theorem D9 (o:List Bool) (z:Nat):(setT o z).length=o.length:=by simp[setT]
theorem R6 {o:List Bool} {z k:Nat}:T (setT o z) k↔T o k∨(k=z∧k<o.length):=by
 unfold T setT
 rw[ZO]
 by_cases h:z=k
 ·subst h
  by_cases h2:z<o.length
  ·simp[h2]
  ·simp[h2]
 ·simp[h,Ne.symm h]
theorem A1 (l:List Nat):∀ o:List Bool,(l.foldl setT o).length=o.length:=by
 induction l with
 | nil=>intro o;rfl
 | cons z l ih=>intro o;rw[List.foldl_cons,ih,D9]
theorem Qds {k:Nat} (l:List Nat):∀ o:List Bool,T (l.foldl setT o) k↔T o k∨(k∈l∧k<o.length):=by
 induction l with
 | nil=>intro o;simp
 | cons z l ih =>
  intro o
  rw[List.foldl_cons,ih,R6,D9,ZD]
  constructor
  ·rintro ((h | ⟨h1,h2⟩) | ⟨h1,h2⟩)
   ·exact .inl h
   ·exact .inr ⟨.inl h1,h2⟩
   ·exact .inr ⟨.inr h1,h2⟩
  ·rintro (h | ⟨h1 | h1,h2⟩)
   ·exact .inl (.inl h)
   ·exact .inl (.inr ⟨h1,h2⟩)
   ·exact .inr ⟨h1,h2⟩
section
variable {g:Nat→List Nat} {n c:Nat}
theorem B2 (o:List Bool) (i:Nat):(GP g o i).length=o.length:=by
 unfold GP;split
 ·exact A1 _ _
 ·rfl
theorem IT {o:List Bool} {i k:Nat}:T (GP g o i) k↔T o k∨(T o i∧k∈g i∧k<o.length):=by
 unfold GP
 by_cases h:o[i]?.getD false=true
 ·rw[if_pos h,Qds]
  have h':T o i:=h
  simp[h']
 ·rw[if_neg h]
  have h':¬ T o i:=h
  simp[h']
theorem B1 (l:List Nat):∀ o:List Bool,(l.foldl (GP g) o).length=o.length:=by
 induction l with
 | nil=>intro o;rfl
 | cons z l ih=>intro o;rw[List.foldl_cons,ih,B2]
theorem RN {k:Nat} (l:List Nat):∀ o:List Bool,T o k→T (l.foldl (GP g) o) k:=by
 induction l with
 | nil=>intro o h;exact h
 | cons z l ih=>intro o h;rw[List.foldl_cons];exact ih _ (IT.2 (.inl h))
theorem Qcc {i k:Nat} (l:List Nat):∀ o:List Bool,i∈l→T o i→k∈g i→k<o.length→T (l.foldl (GP g) o) k:=by
 induction l with
 | nil=>intro o h;simp at h
 | cons z l ih =>
  intro o h h1 h2 h3
  rw[List.foldl_cons]
  rcases ZD.1 h with rfl | h
  ·exact RN l _ (IT.2 (.inr ⟨h1,h2,h3⟩))
  ·exact ih _ h (IT.2 (.inl h1)) h2 (by rw[B2];exact h3)
theorem B0 {P:Nat→Prop} (hP:∀ a z,P a→z∈g a→P z) (l:List Nat):∀ o:List Bool,(∀ k,T o k→P k)→∀ k,T (l.foldl (GP g) o) k→P k:=by
 induction l with
 | nil=>intro o h;exact h
 | cons z l ih =>
  intro o h
  rw[List.foldl_cons]
  refine ih _ fun k hk=>?_
  rcases IT.1 hk with hk | ⟨h1,h2,_⟩
  ·exact h k hk
  ·exact hP z k (h z h1) h2
theorem GF:∀ t,(covN g n c t).length=n
 | 0=>by simp[covN]
 | t+1=>by rw[covN,GO,B1,GF t]
theorem CR:(covG g n c).length=n:=GF n
theorem QcA:∀ t k,T (covN g n c t) k→Rch g c k
 | 0,k,h=>by
  have h:T (setT (List.replicate n false) c) k:=h
  rcases R6.1 h with h | ⟨rfl,_⟩
  ·unfold T at h
   rw[YN] at h
   split at h <;> cases h
  ·exact .refl
 | t+1,k,h=>B0 (P:=Rch g c) (fun a z h1 h2=>h1.step h2) (List.range n) _ (QcA t) k h
def cntT (o:List Bool):Nat:=o.countP id
theorem M6 {a:List Bool}:∀ {b:List Bool},a.length=b.length→(∀ k,T a k→T b k)→cntT a≤cntT b∧(∀ k,T b k→¬ T a k→cntT a<cntT b):=by
 induction a with
 | nil =>
  intro b hl h
  have:b=[]:=ZT (by simpa using hl.symm)
  subst this
  exact ⟨QG _,fun k hk _=>by simp[T] at hk⟩
 | cons x a ih =>
  intro b hl h
  match b,hl with
  | y::b,hl =>
   have ht:∀ k,T a k→T b k:=fun k hk=>h (k+1) hk
   have h0:x=true→y=true:=fun hx=>h 0 (by simpa[T] using hx)
   obtain ⟨i1,i2⟩:=ih (by simpa using hl) ht
   have e:∀ (z:Bool) (l:List Bool),cntT (z::l)=cntT l+(if z then 1 else 0):=fun z l=>by
    unfold cntT;rw[K9];cases z <;> rfl
   rw[e,e]
   refine ⟨by cases x <;> cases y <;> simp_all <;> omega,fun k hk hk2=>?_⟩
   match k with
   | 0 =>
    have hy:y=true:=by simpa[T] using hk
    have hx:x=false:=by simpa[T] using hk2
    subst hy hx
    simp;omega
   | k+1 =>
    have:=i2 k hk hk2
    cases x <;> cases y <;> simp_all <;> omega
theorem QcE (a:List Bool):cntT a≤a.length:=List.countP_le_length
abbrev InN (g:Nat→List Nat) (n:Nat):Prop:=∀ i,i<n→∀ z∈g i,z<n
theorem QaC (hg:InN g n) (hc:c<n):∀ t,(∀ a z,T (covN g n c t) a→z∈g a→T (covN g n c t) z)∨t+1≤cntT (covN g n c t)
 | 0=>by
  right
  have:=(M6 (a:=List.replicate n false) (b:=covN g n c 0) (by simp[covN]) (fun k hk=>by
   unfold T at hk
   rw[YN] at hk
   split at hk <;> cases hk)).2 c (by show T (setT (List.replicate n false) c) c;exact R6.2 (.inr ⟨rfl,by simpa using hc⟩)) (fun hk=>by
   unfold T at hk
   rw[YN] at hk
   split at hk <;> cases hk)
  omega
 | t+1=>by
  by_cases hcl:∀ a z,T (covN g n c t) a→z∈g a→T (covN g n c t) z
  ·left
   have hsub:∀ k,T (covN g n c (t+1)) k→T (covN g n c t) k:=B0 (P:=T (covN g n c t)) hcl (List.range n) _ fun k hk=>hk
   intro a z ha hz
   exact RN _ _ (hcl a z (hsub a ha) hz)
  ·right
   have hm:t+1≤cntT (covN g n c t):=by
    rcases QaC hg hc t with h | h
    ·exact absurd h hcl
    ·exact h
   have hmono:∀ k,T (covN g n c t) k→T (covN g n c (t+1)) k:=fun k hk=>RN (List.range n) _ hk
   obtain ⟨a,ha⟩:=Classical.not_forall.1 hcl
   obtain ⟨z,hz⟩:=Classical.not_forall.1 ha
   obtain ⟨h1,hz⟩:=Classical.not_imp.1 hz
   obtain ⟨h2,h3⟩:=Classical.not_imp.1 hz
   have han:a<n:=by have:=h1.lt;rw[GF] at this;exact this
   have hnew:T (covN g n c (t+1)) z:=Qcc (i:=a) (List.range n) _ (by simpa using han) h1 h2 (by rw[GF];exact hg a han z h2)
   have:=(M6 (by rw[GF,GF]) hmono).2 z hnew h3
   omega
theorem CS (hg:InN g n) (hc:c<n) {k:Nat}:T (covG g n c) k↔Rch g c k:=by
 constructor
 ·exact QcA n k
 ·have hcl:∀ a z,T (covG g n c) a→z∈g a→T (covG g n c) z:=by
   rcases QaC hg hc n with h | h
   ·exact h
   ·have h2:=QcE (covN g n c n)
    rw[GF] at h2
    omega
  have hcc:∀ t,T (covN g n c t) c:=by
   intro t
   induction t with
   | zero=>show T (setT (List.replicate n false) c) c;exact R6.2 (.inr ⟨rfl,by simpa using hc⟩)
   | succ t ih=>exact RN (List.range n) _ ih
  intro h
  induction h with
  | refl=>exact hcc n
  | step _ hz ih=>exact hcl _ _ ih hz
structure Dfs (g:Nat→List Nat) (c:Nat) (M M':List Bool):Prop where
 len:M'.length=M.length
 mono:∀ k,T M k→T M' k
 has:T M' c
 new:∀ k,T M' k→T M k∨Rch g c k
 clo:∀ a z,T M' a→¬ T M a→z∈g a→T M' z
theorem Dfs.all (hg:InN g n) (hc:c<n) {M':List Bool} (h:Dfs g c (List.replicate n false) M'):M'=covG g n c:=by
 have hno:∀ k,¬ T (List.replicate n false) k:=fun k hk=>by
  unfold T at hk
  rw[YN] at hk
  split at hk <;> cases hk
 apply T_ext
 ·rw[h.len,CR];simp
 intro k hk
 rw[CS hg hc]
 constructor
 ·intro ht
  rcases h.new k ht with h1 | h1
  ·exact absurd h1 (hno k)
  ·exact h1
 ·intro hr
  induction hr with
  | refl=>exact h.has
  | @step a z hr hz ih =>
   have ha:T M' a:=ih (by
    rw[h.len,List.length_replicate]
    have:T (covG g n c) a:=(CS hg hc).2 hr
    have:=this.lt
    rwa [CR] at this)
   exact h.clo a z ha (hno a) hz
end
def bit (a:Int) (k:Nat):Bool:=a.toNat.testBit k
def andI (a b:Int):Int:=((a.toNat &&& b.toNat:Nat):Int)
def subI (a b:Int):Int:=((BitVec.ofNat 64 a.toNat &&& ~~~BitVec.ofNat 64 b.toNat).toNat:Int)
theorem QbF (a b:Int) (k:Nat):bit (andI a b) k=(bit a k&&bit b k):=by simp[bit,andI,Nat.testBit_and]
theorem toNat_lt {a:Int} {m:Nat} (h:a<2 ^ m):a.toNat<2 ^ m:=by
 rcases Int.lt_or_le a 0 with h0 | h0
 ·have:a.toNat=0:=by omega
  rw[this];exact Nat.two_pow_pos m
 ·have e:((a.toNat:Nat):Int)=a:=VI h0
  have:((a.toNat:Nat):Int)<((2 ^ m:Nat):Int):=by rw[e];push_cast;exact h
  exact QJ.1 this
theorem TY {a:Int} {m k:Nat} (h:a<2 ^ m) (hk:m≤k):bit a k=false:=by
 unfold bit
 exact UQ (Z6 (toNat_lt h) (Nat.pow_le_pow_right (by omega) hk))
theorem M8 {a b:Int} (ha:a<2 ^ 63) (k:Nat):bit (subI a b) k=(bit a k && !bit b k):=by
 unfold subI bit
 have ha':=toNat_lt ha
 rw[Int.toNat_natCast,BitVec.testBit_toNat,BitVec.getLsbD_and,BitVec.getLsbD_not,BitVec.getLsbD_ofNat,BitVec.getLsbD_ofNat]
 by_cases hk:k<64
 ·simp[hk]
 ·have:a.toNat.testBit k=false:=UQ (Z6 ha' (Nat.pow_le_pow_right (by omega) (by omega)))
  simp[hk,this]
theorem QbI (a b:Int):0≤andI a b:=VV _
theorem MF (a b:Int):0≤subI a b:=VV _
theorem Qae {a:Int} {m:Nat} (h0:0≤a) (h:∀ k,m≤k→bit a k=false):a<2 ^ m:=by
 have:a.toNat<2 ^ m:=Nat.lt_pow_two_of_testBit _ fun k hk=>h k hk
 have e:((a.toNat:Nat):Int)=a:=VI h0
 have h2:((a.toNat:Nat):Int)<((2 ^ m:Nat):Int):=QJ.2 this
 rw[e] at h2;push_cast at h2;exact h2
theorem andI_lt {a b:Int} {m:Nat} (h:a<2 ^ m):andI a b<2 ^ m:=Qae (QbI _ _) fun k hk=>by rw[QbF,TY h hk];rfl
theorem QdS {a b:Int} {m:Nat} (h63:a<2 ^ 63) (h:a<2 ^ m):subI a b<2 ^ m:=Qae (MF _ _) fun k hk=>by rw[M8 h63,TY h hk];rfl
def cnt:Nat→(Nat→Bool)→Nat
 | 0,_=>0
 | n+1,P=>cnt n P+(if P n then 1 else 0)
theorem cnt_mono {n:Nat} {P Q:Nat→Bool} (h:∀ i,i<n→P i=true→Q i=true):cnt n P≤cnt n Q:=by
 induction n with
 | zero=>exact QG _
 | succ n ih =>
  have h1:=ih (fun i hi=>h i (by omega))
  have h2:=h n (by omega)
  simp only[cnt]
  by_cases hp:P n=true
  ·simp only[hp,h2 hp,if_true];omega
  ·rw[if_neg hp];split <;> omega
theorem K1 {n:Nat} {P Q:Nat→Bool} (h:∀ i,i<n→P i=Q i):cnt n P=cnt n Q :=
 Nat.le_antisymm (cnt_mono fun i hi e=>by rw[← h i hi];exact e) (cnt_mono fun i hi e=>by rw[h i hi];exact e)
theorem cnt_lt {n:Nat} {P Q:Nat→Bool} (h:∀ i,i<n→P i=true→Q i=true) {k:Nat} (hk:k<n) (h1:P k=false) (h2:Q k=true):cnt n P+1≤cnt n Q:=by
 induction n with
 | zero=>omega
 | succ n ih =>
  simp only[cnt]
  by_cases hkn:k=n
  ·subst hkn
   have:=cnt_mono (n:=k) (fun i hi=>h i (by omega))
   simp only[h1,h2,if_true];simp;omega
  ·have h3:=ih (fun i hi=>h i (by omega)) (by omega)
   by_cases hp:P n=true
   ·simp only[hp,h n (by omega) hp,if_true];omega
   ·rw[if_neg hp];split <;> omega
theorem P7 {n:Nat} {P:Nat→Bool}:cnt n P≤n:=by
 induction n with
 | zero=>exact QG _
 | succ n ih=>simp only[cnt];split <;> omega
theorem M5 {n:Nat} {P:Nat→Bool} (h:0<cnt n P):∃ k,k<n∧P k=true:=by
 induction n with
 | zero=>simp[cnt] at h
 | succ n ih =>
  by_cases hp:P n=true
  ·exact ⟨n,by omega,hp⟩
  ·simp only[cnt,hp] at h
   obtain ⟨k,hk,h1⟩:=ih (by simpa using h)
   exact ⟨k,by omega,h1⟩
theorem KN {n:Nat} {P:Nat→Bool} (h:∀ i,i<n→P i=false):cnt n P=0:=by
 by_cases h0:0<cnt n P
 ·obtain ⟨k,hk,h1⟩:=M5 h0
  rw[h k hk] at h1;exact absurd h1 (by decide)
 ·omega
theorem cnt_one {n:Nat} {P Q:Nat→Bool} (h:∀ i k,i<n→k<n→P i=false→Q i=true→P k=false→Q k=true→i=k):cnt n Q≤cnt n P+1:=by
 induction n with
 | zero=>simp[cnt]
 | succ n ih =>
  simp only[cnt]
  by_cases hq:Q n=true
  ·by_cases hp:P n=true
   ·have:=ih (fun i k hi hk=>h i k (by omega) (by omega))
    simp only[hq,hp,if_true];omega
   ·have hp:P n=false:=by simpa using hp
    have:cnt n Q≤cnt n P:=by
     apply cnt_mono
     intro i hi hqi
     cases hpi:P i with
     | true=>rfl
     | false=>exact absurd (h i n (by omega) (by omega) hpi hqi hp hq) (by omega)
    simp only[hq,hp,if_true];simp;omega
  ·have:=ih (fun i k hi hk=>h i k (by omega) (by omega))
   rw[if_neg hq];split <;> omega
def sumTo:Nat→(Nat→Nat)→Nat
 | 0,_=>0
 | m+1,f=>sumTo m f+f m
theorem Qc0 {m:Nat} {f g:Nat→Nat} (h:∀ c,c<m→f c≤g c):sumTo m f≤sumTo m g:=by
 induction m with
 | zero=>exact QG _
 | succ m ih=>have:=ih (fun c hc=>h c (by omega));have:=h m (by omega);simp only[sumTo];omega
theorem sum_add {m:Nat} {f g:Nat→Nat}:sumTo m (fun c=>f c+g c)=sumTo m f+sumTo m g:=by
 induction m with
 | zero=>rfl
 | succ m ih=>simp only[sumTo,ih];omega
theorem sum_ind {m:Nat} (o:Option Nat) (h:∀ c,o=some c→c<m):sumTo m (fun c=>if o == some c then 1 else 0)=if o.isSome then 1 else 0:=by
 cases o with
 | none =>
  have:∀ m,sumTo m (fun c=>if (none:Option Nat) == some c then 1 else 0)=0:=by
   intro m;induction m with
   | zero=>rfl
   | succ m ih=>simp only[sumTo,ih];simp
  simpa using this m
 | some d =>
  have hd:=h d rfl
  have:∀ m,sumTo m (fun c=>if some d == some c then 1 else 0)=if d<m then 1 else 0:=by
   intro m;induction m with
   | zero=>rfl
   | succ m ih =>
    simp only[sumTo,ih]
    by_cases h1:d<m
    ·have:¬ d=m:=by omega
     simp[h1,this];omega
    ·by_cases h2:d=m
     ·subst h2;simp
     ·simp[h1,h2];omega
  rw[this m];simp[hd]
theorem sum_num {n m:Nat} (f:Nat→Option Nat) (h:∀ i,i<n→∀ c,f i=some c→c<m):sumTo m (fun c=>cnt n fun k=>f k == some c)=cnt n fun k=>(f k).isSome:=by
 induction n with
 | zero =>
  have:∀ m,sumTo m (fun _=>0)=0:=by intro m;induction m with | zero=>rfl | succ m ih=>simp[sumTo,ih]
  exact this m
 | succ n ih =>
  simp only[cnt]
  rw[sum_add,ih (fun i hi=>h i (by omega)),sum_ind (f n) (h n (by omega))]
theorem JU {n:Nat} {P Q:Nat→Bool} {x:Nat} (hx:x<n) (h1:P x=false) (h2:Q x=true) (h:∀ i,i<n→i≠x→P i=Q i):cnt n Q=cnt n P+1:=by
 have a:=cnt_lt (P:=P) (Q:=Q) (n:=n) (fun i hi hp=>by
  by_cases e:i=x
  ·subst e;exact h2
  ·rw[← h i hi e];exact hp) hx h1 h2
 have b:=cnt_one (P:=P) (Q:=Q) (n:=n) (fun i k hi hk p1 q1 p2 q2=>by
  have e1:i=x:=by
   by_cases e:i=x
   ·exact e
   ·rw[h i hi e,q1] at p1;exact absurd p1 (by decide)
  have e2:k=x:=by
   by_cases e:k=x
   ·exact e
   ·rw[h k hk e,q2] at p2;exact absurd p2 (by decide)
  rw[e1,e2])
 omega
def HV:Nat→(Nat→Nat)→Nat→Nat
 | 0,_,b=>b
 | k+1,f,b=>max (HV k f b) (f k)
section
variable (can:Nat→Nat→Bool) (n:Nat)
def prF:Nat→Nat→(Nat→Bool)→Nat
 | 0,_,_=>0
 | m+1,i,B=>HV n (fun k=>if can i k && !B k then 1+prF m (i+1) (fun j=>B j||j == k) else 0) (prF m (i+1) B)
structure Mat (i:Nat) (B:Nat→Bool) (g:Nat→Option Nat):Prop where
 ok:∀ l k,i≤l→l<n→g l=some k→k<n∧can l k=true∧B k=false
 inj:∀ l l' k,i≤l→l<n→i≤l'→l'<n→g l=some k→g l'=some k→l=l'
variable {can n}
end
structure Ku where
 seen:List Bool
 bef:List Int
abbrev gI (l:List Int) (k:Nat):Int:=l[k]?.getD 0
abbrev gB (l:List Bool) (k:Nat):Bool:=l[k]?.getD false
theorem JO {l:List Int} {k j:Nat} {v:Int} (hk:k<l.length):gI (l.set k v) j=if j=k then v else gI l j:=by
 unfold gI
 by_cases e:j=k
 ·subst e;simp[hk]
 ·rw[if_neg e,QU (Ne.symm e)]
inductive Aug (E:Nat→Nat→Prop) (b:List Int):Nat→List Int→Prop
 | last {i k:Nat}:k<b.length→E i k→gI b k<0→Aug E b i (b.set k i)
 | step {i k l:Nat} {b1:List Int}:k<b.length→E i k→gI b k=(l:Int)→Aug E b l b1→gI b1 k=(l:Int)→Aug E b i (b1.set k i)
theorem Aug.len {E:Nat→Nat→Prop} {b b':List Int} {i:Nat} (h:Aug E b i b'):b'.length=b.length:=by
 induction h with
 | last=>simp
 | step _ _ _ _ _ ih=>simpa using ih
section
variable (can:Nat→Nat→Bool) (told:List Int) (n:Nat)
def Ed (l k:Nat):Prop:=can l k=true∧gI told k<0
structure KuSp (i k0:Nat) (s:Ku) (r:Bool × Ku):Prop where
 ls:r.2.seen.length=n
 lb:r.2.bef.length=n
 mono:∀ k,gB s.seen k=true→gB r.2.seen k=true
 keep:∀ k,gB s.seen k=true→gI r.2.bef k=gI s.bef k
 yes:r.1=true→Aug (Ed can told) s.bef i r.2.bef
 no:r.1=false→r.2.bef=s.bef∧(∀ k,k0≤k→k<n→Ed can told i k→gB r.2.seen k=true) ∧
  ∀ k,k<n→gB r.2.seen k=true→gB s.seen k=true∨(gI told k<0∧0≤gI s.bef k∧∀ k',k'<n→Ed can told (gI s.bef k).toNat k'→gB r.2.seen k'=true)
variable {can told n}
structure C9 (can:Nat→Nat→Bool) (told:List Int) (n f p0 i:Nat) (s:List Int × Nat):Prop where
 len:s.1.length=n
 val:∀ k,k<n→gI told k<0→gI s.1 k<0∨∃ l:Nat,f≤l∧l<i∧gI s.1 k=(l:Int)∧can l k=true
 one:∀ l:Nat,f≤l→cnt n (fun k=>decide (gI told k<0)&&(gI s.1 k == (l:Int)))≤1
 num:s.2=p0+cnt n (fun k=>decide (gI told k<0)&&decide (0≤gI s.1 k))
 shut:∃ F T:Nat→Bool,(∀ l k,F l=true→k<n→Ed can told l k→T k=true)∧(∀ k,k<n→T k=true→gI told k<0∧∃ l:Nat,gI s.1 k=(l:Int)∧F l=true) ∧
  ∀ l,f≤l→l<i→F l=false→∃ k,k<n∧gI told k<0∧gI s.1 k=(l:Int)
end
section
variable (can:Nat→Nat→Bool) (n:Nat)
def J2 (m i:Nat) (B:Nat→Bool) (k:Nat):Bool:=can i k && !B k&&decide (1+prF can n m (i+1) (fun j=>B j||j == k)=prF can n (m+1) i B)
def XQ (p:Nat→Bool):Nat→Nat→Int
 | 0,_=>-1
 | m+1,k=>if p k=true then k else XQ p m (k+1)
def addB (B:Nat→Bool) (c:Int):Nat→Bool:=fun j=>B j||decide ((j:Int)=c)
def nxL:Nat→Nat→(Nat→Bool)→List Int
 | 0,_,_=>[]
 | m+1,i,B=>XQ (J2 can n m i B) n 0::nxL m (i+1) (addB B (XQ (J2 can n m i B) n 0))
variable {can n}
theorem nx_len:∀ (m i:Nat) (B:Nat→Bool),(nxL can n m i B).length=m
 | 0,_,_=>rfl
 | m+1,i,B=>by simp[nxL,nx_len m]
structure NxOk (can:Nat→Nat→Bool) (n i:Nat) (B:Nat→Bool) (l:List Int) (p:Nat):Prop where
 ok:∀ j,j<l.length→gI l j = -1∨∃ k:Nat,gI l j=(k:Int)∧k<n∧can (i+j) k=true∧B k=false
 inj:∀ j j',j<l.length→j'<l.length→gI l j=gI l j'→0≤gI l j→j=j'
 num:cnt l.length (fun j=>decide (0≤gI l j))=p
end
section
variable (nx:List Int)
structure NxW (can:Nat→Nat→Bool) (rk:Nat→Int) (n:Nat) (nx:List Int):Prop where
 len:nx.length=n
 ok:∀ j,j<n→gI nx j = -1∨∃ k:Nat,gI nx j=(k:Int)∧k<n∧can j k=true
 inj:∀ j j',j<n→j'<n→gI nx j=gI nx j'→0≤gI nx j→j=j'
 up:∀ i k,i<n→k<n→can i k=true→rk i<rk k
variable {nx} {can:Nat→Nat→Bool} {rk:Nat→Int} {n:Nat}
end
section
variable (can:Nat→Nat→Bool) (n:Nat)
structure QeK (can:Nat→Nat→Bool) (n:Nat) (done last:List Nat) (g:Nat→Option Nat):Prop where
 mat:∀ l k,g l=some k→l∈done∧k∈done∧can l k=true
 inj:∀ l l' k,g l=some k→g l'=some k→l=l'
 nd:last.Nodup
 sub:∀ x∈last,x∈done∧g x=none
 num:cnt n (fun l=>(g l).isSome)+last.length=done.length
variable {can n}
end
end Go.Proofs.YtpmokaefmcffaaaGreat.Pl
namespace Go.Proofs.YtpmokaefmcffaaaGreat.AM
variable [Dr]
open Go Pl
structure Les where
 le:Int
 te:Int
 ca:Int
 b:Int
 e:Int
 f:Int
 o:Int
deriving Inhabited
abbrev lesC (l:Les):List CV:=[.int .i64 l.le,.int .i64 l.te,.int .i64 l.ca,.int .i64 l.b,.int .i64 l.e,.int .i64 l.f,.int .i64 l.o]
abbrev lesA (l:Les):AV:=.agg [.i l.le,.i l.te,.i l.ca,.i l.b,.i l.e,.i l.f,.i l.o]
structure Dy where
 mi:List (List Int)
 ls:List Les
deriving Inhabited
abbrev rowC (zs:List Int):CV:=.rsl (zs.map (.int .i64)) zs.length
abbrev minR (m:List (List Int)):CV:=.rsl (m.map rowC) m.length
def F0 (l:List Les):List CV:=l.flatMap lesC
abbrev lesR (l:List Les):CV:=.rsl (F0 l) l.length
abbrev dyV (d:Dy):AV:=.agg [.cv (minR d.mi),.cv (lesR d.ls)]
theorem HJ (l:Les):(lesC l).length=7:=rfl
theorem Qel (l:List Les):(F0 l).length=l.length*7:=UG HJ l
section
variable {l:List Les} {k:Nat}
theorem les_1 (h:k<l.length):(F0 l)[k*7+1]? = some (.int .i64 (l[k]!).te):=flat_get HJ h (j:=1) (by omega)
theorem Qcl (h:k<l.length) (σ:List AObj):YF 7 [.cv (.rp (F0 l) (k*7))] σ=some (lesA l[k]!,σ):=by
 have h1:k*7+7≤(F0 l).length:=by rw[Qel];omega
 have h2:=G3 HJ h
 simp only[YF,h1,if_true]
 unfold F0;rw[h2];rfl
theorem F5 (h:k<l.length) (σ:List AObj):VP 7 [.cv (lesR l),.cv (.int .i64 k)] σ=some (.cv (.rp (F0 l) (k*7)),σ):=XP h σ
end
theorem B7 {m:List (List Int)} {k:Nat} (h:k<m.length):(m.map rowC)[k]? = some (rowC m[k]!):=by simp[h]
def fndE (g:Nat→Int):Nat→Nat→Int × Int
 | _,0=>(0,0)
 | i,k+1=>if g i=0 then fndE g (i+1) k else (i,g i)
theorem J7 {g:Nat→Int}:∀ (k i:Nat),(∀ j,i≤j→j<i+k→g j=0)→fndE g i k=(0,0)
 | 0,_,_=>rfl
 | k+1,i,h=>by
  rw[fndE,if_pos (h i (QG _) (by omega))]
  exact J7 k (i+1) fun j h1 h2=>h j (by omega) (by omega)
theorem VO {g:Nat→Int}:∀ (k i m:Nat),i≤m→m<i+k→(∀ j,i≤j→j<m→g j=0)→g m≠0→fndE g i k=((m:Int),g m)
 | 0,i,m,h1,h2,_,_=>by omega
 | k+1,i,m,h1,h2,h3,h4=>by
  rcases ZB i m with h | h
  ·rw[fndE,if_pos (h3 i (QG _) h)]
   exact VO k (i+1) m h (by omega) (fun j a b=>h3 j (by omega) b) h4
  ·have:i=m:=by omega
   subst this
   rw[fndE,if_neg h4]
theorem LJ {g:Nat→Int}:∀ (k i:Nat),(fndE g i k).2=0→∀ j,i≤j→j<i+k→g j=0
 | 0,_,_,j,h1,h2=>by omega
 | k+1,i,h,j,h1,h2=>by
  rw[fndE] at h
  by_cases h0:g i=0
  ·rw[if_pos h0] at h
   rcases Nat.eq_or_lt_of_le h1 with rfl | h3
   ·exact h0
   ·exact LJ k (i+1) h j h3 (by omega)
  ·rw[if_neg h0] at h;exact absurd h h0
def rowE (d:Dy) (i:Nat):Int :=
 if (d.mi[i]!).length≠d.mi.length then 3 else if outF 0 120 d.mi[i]! = true then 7 else if gI d.mi[i]! i≠0 then 2 else 0
def lesE (d:Dy) (l:Les):Int :=
 if (outF 0 1440 [l.b,l.e]||outF 0 7 [l.le,l.te,l.ca])=true then 7 else if l.b≥l.e then 2 else if outF 0 ((d.mi.length:Int)-1) [l.f,l.o]=true then 4 else 0
def dyE (d:Dy):Int × Int × Int :=
 if (outF 1 16 [(d.mi.length:Int)]||decide ((d.ls.length:Int)>12))=true then (1,0,3)
 else if (fndE (rowE d) 0 d.mi.length).2≠0 then (2,fndE (rowE d) 0 d.mi.length)
 else if (fndE (fun i=>lesE d d.ls[i]!) 0 d.ls.length).2≠0 then (3,fndE (fun i=>lesE d d.ls[i]!) 0 d.ls.length)
 else (0,0,0)
structure LesOk (n:Nat) (l:Les):Prop where
 b0:0≤l.b
 be:l.b<l.e
 e1:l.e≤1440
 le:0≤l.le∧l.le≤7
 te:0≤l.te∧l.te≤7
 ca:0≤l.ca∧l.ca≤7
 f:0≤l.f∧l.f<n
 o:0≤l.o∧l.o<n
structure DyOk (d:Dy):Prop where
 n1:1≤d.mi.length
 n2:d.mi.length≤16
 l12:d.ls.length≤12
 row:∀ i,i<d.mi.length→(d.mi[i]!).length=d.mi.length
 rng:∀ i k,i<d.mi.length→k<d.mi.length→0≤gI d.mi[i]! k∧gI d.mi[i]! k≤120
 diag:∀ i,i<d.mi.length→gI d.mi[i]! i=0
 les:∀ i,i<d.ls.length→LesOk d.mi.length d.ls[i]!
theorem VL {lo hi:Int} {zs:List Int}:outF lo hi zs=false↔∀ z∈zs,lo≤z∧z≤hi:=by
 unfold outF
 rw[W6]
 constructor
 ·intro h z hz
  have:=h z hz
  simp at this
  omega
 ·intro h z hz
  have:=h z hz
  simp;omega
theorem LO {d:Dy} (h:(dyE d).2.2=0):DyOk d:=by
 unfold dyE at h
 split at h
 ·exact absurd h (by decide)
 rename_i h1
 split at h
 ·rename_i h2;exact absurd h h2
 rename_i h2
 split at h
 ·rename_i h3;exact absurd h h3
 rename_i h3
 have h1:outF 1 16 [(d.mi.length:Int)]=false∧decide ((d.ls.length:Int)>12)=false:=by simpa using h1
 have hn:=VL.1 h1.1 d.mi.length (by simp)
 have hl:=of_decide_eq_false h1.2
 have hr:=LJ d.mi.length 0 (JE.1 h2)
 have hs:=LJ d.ls.length 0 (JE.1 h3)
 have hrow:∀ i,i<d.mi.length→(d.mi[i]!).length=d.mi.length∧outF 0 120 d.mi[i]! = false∧gI d.mi[i]! i=0:=fun i hi=>by
  have:=hr i (QF _) (by omega)
  unfold rowE at this
  split at this
  ·exact absurd this (by decide)
  rename_i a1
  split at this
  ·exact absurd this (by decide)
  rename_i a2
  split at this
  ·exact absurd this (by decide)
  rename_i a3
  exact ⟨by simpa using a1,by simpa using a2,by simpa using a3⟩
 refine ⟨by omega,by omega,by omega,fun i hi=>(hrow i hi).1,fun i k hi hk=>?_,fun i hi=>(hrow i hi).2.2,fun i hi=>?_⟩
 ·obtain ⟨r1,r2,_⟩:=hrow i hi
  have hk':k<(d.mi[i]!).length:=by omega
  refine VL.1 r2 _ ?_
  unfold gI
  rw[QI hk']
  exact Q2 hk'
 ·have this:lesE d d.ls[i]! = 0:=hs i (QF _) (by omega)
  revert this
  generalize d.ls[i]! = l
  intro this
  unfold lesE at this
  split at this
  ·exact absurd this (by decide)
  rename_i a1
  split at this
  ·exact absurd this (by decide)
  rename_i a2
  split at this
  ·exact absurd this (by decide)
  rename_i a3
  have a1:outF 0 1440 [l.b,l.e]=false∧outF 0 7 [l.le,l.te,l.ca]=false:=by simpa using a1
  have b1:=VL.1 a1.1
  have b2:=VL.1 a1.2
  have b3:=VL.1 (show outF 0 ((d.mi.length:Int)-1) [l.f,l.o]=false by simpa using a3)
  have c1:=b1 l.b (by simp)
  have c2:=b1 l.e (by simp)
  have c3:=b2 l.le (by simp)
  have c4:=b2 l.te (by simp)
  have c5:=b2 l.ca (by simp)
  have c6:=b3 l.f (by simp)
  have c7:=b3 l.o (by simp)
  exact ⟨by omega,by omega,by omega,by omega,by omega,by omega,by omega,by omega⟩
structure DSz (d:Dy):Prop where
 mi:d.mi.length<2 ^ 63
 ls:d.ls.length<2 ^ 63
 row:∀ i,i<d.mi.length→(d.mi[i]!).length<2 ^ 63
end Go.Proofs.YtpmokaefmcffaaaGreat.AM
namespace Go.Proofs.YtpmokaefmcffaaaGreat.Pl
abbrev Pat:=Int × Int
section
variable (ps:List Pat)
variable {ps}
end
end Go.Proofs.YtpmokaefmcffaaaGreat.Pl
namespace Go.Proofs.YtpmokaefmcffaaaGreat.AM
variable [Dr]
open Go Pl
section
variable {l:List Pat} {k:Nat}
end
structure PsOk (ps:List Pat) (l:List Int):Prop where
 p1:1≤ps.length
 p12:ps.length≤12
 l1:1≤l.length
 l6:l.length≤6
 need:∀ i,i<l.length→0≤gI l i∧gI l i≤3
 pat:∀ k,k<ps.length→(0≤(ps[k]!).1∧(ps[k]!).1<2 ^ l.length)∧0≤(ps[k]!).2∧(ps[k]!).2≤100000
theorem Qcs {l:List Int} {i:Nat} (h:i<l.length):gI l i∈l:=by unfold gI;rw[QI h];exact Q2 h
end Go.Proofs.YtpmokaefmcffaaaGreat.AM
namespace Go.Proofs.YtpmokaefmcffaaaGreat.AM
variable [Dr]
open Go
theorem c88 (z lo hi:Int) (σ:List AObj):AC Tryz.prog 149 [.i z,.cv (.rp [.int .i64 lo] 0),.cv (.rp [.int .i64 hi] 0)] σ fun r τ=>r=.b (decide (z<lo)||decide (z>hi))∧τ=σ:=by
 refine ZF (fok149 true) (QC rfl) ?_
 by_cases h:z<lo <;> simp only[ic149,h,evA,simprocAttr]
def idxF (p:Int→Bool) (zs:List Int):Int:=match zs.findIdx? p with | some i=>i | none=>-1
theorem AW {p:Int→Bool} {zs:List Int} {i:Nat} (h:i<zs.length) (hall:∀ j,j<i→p (zs[j]?.getD 0)=false) (hp:p (zs[i]?.getD 0)=true):idxF p zs=i:=by
 have:zs.findIdx? p=some i:=by
  rw[List.findIdx?_eq_some_iff_getElem]
  refine ⟨h,by simpa[h] using hp,fun j hj=>?_⟩
  have:=hall j hj
  simpa[show j<zs.length by omega] using this
 simp[idxF,this]
theorem AX {p:Int→Bool} {zs:List Int} (hall:∀ j,j<zs.length→p (zs[j]?.getD 0)=false):idxF p zs = -1:=by
 have:zs.findIdx? p=none:=by
  rw[List.findIdx?_eq_none_iff]
  intro x hx
  obtain ⟨j,hj,rfl⟩:=WN.1 hx
  have:=hall j hj
  simpa[hj] using this
 simp[idxF,this]
theorem Qdl (p:Int→Bool) (zs:List Int):decide (idxF p zs≥0)=zs.any p:=by
 unfold idxF
 cases h:zs.findIdx? p with
 | none =>
  rw[List.findIdx?_eq_none_iff] at h
  simpa using h
 | some i =>
  rw[List.findIdx?_eq_some_iff_getElem] at h
  obtain ⟨hi,hp,_⟩:=h
  have:zs.any p=true:=ZZ.2 ⟨zs[i],Q2 hi,hp⟩
  rw[this];simp
theorem c111 (zs:List Int) (fv:AV) (p:Int→Bool) (hz:zs.length<2 ^ 63) (hf:∀ z σ,X0 Tryz.prog fv [.i z] σ fun r τ=>r=.b (p z)∧τ=σ) (σ:List AObj) :
  AC Tryz.prog 104 [ints zs,fv] σ fun r τ=>r=.i (idxF p zs)∧τ=σ:=by
 refine ZF (fok104 true) (QC rfl) ?_
 simp only[ic104,evA,simprocAttr]
 refine ZW zs.length (fun i s=>(∀ j,j<i→p (zs[j]?.getD 0)=false)∧∃ v3 v6 v7,s=⟨[ints zs,fv,.i 0,v3,.i zs.length,.i i,v6,v7],σ⟩) ?_ 0 (QF _) ⟨by omega,_,_,_,rfl⟩
 rintro i s hi ⟨hall,v3,v6,v7,rfl⟩
 by_cases h:i<zs.length
 ·simp only[ic104l0,QJ,h,evA,simprocAttr]
  refine (hf _ _).run ?_
  cases hp:p (zs[i]?.getD 0)
  ·simp only[evA,simprocAttr]
   refine ZL (by first | trivial | omega) ⟨fun j hj=>?_,_,_,_,by rw[ZC (by omega)];rfl⟩
   rcases QQ.1 hj with hj | rfl
   ·exact hall j hj
   ·exact hp
  ·simp only[evA,simprocAttr]
   exact (AW h hall hp).symm
 ·simp only[ic104l0,QJ,h,evA,simprocAttr]
  have:i=zs.length:=by omega
  subst this
  exact (AX hall).symm
theorem c87 (zs:List Int) (fv:AV) (p:Int→Bool) (hz:zs.length<2 ^ 63) (hf:∀ z σ,X0 Tryz.prog fv [.i z] σ fun r τ=>r=.b (p z)∧τ=σ):PC Tryz.prog 83 [ints zs,fv] (.b (zs.any p)):=by
 refine ⟨ZF (fok83 true) (QC rfl) ?_,rfl⟩
 simp only[ic83,evA,simprocAttr]
 refine (c111 zs fv p hz hf _).run ?_
 simp only[evA,simprocAttr,Qdl]
 exact frz
theorem c56 (lo hi:Int) (zs:List Int) (hz:zs.length<2 ^ 63):PC Tryz.prog 119 [.i lo,.i hi,ints zs] (.b (outF lo hi zs)):=by
 refine ⟨ZF (fok119 true) (QC rfl) ?_,rfl⟩
 simp only[ic119,evA,simprocAttr]
 refine (c87 zs (.fn (.func 149) [.cv (.rp [.int .i64 lo] 0),.cv (.rp [.int .i64 hi] 0)]) (fun z=>decide (z<lo)||decide (z>hi)) hz (fun z σ=>c88 z lo hi σ)).call frz ?_
 exact frz
theorem c59 (n lo hi:Int):PC Tryz.prog 63 [.i n,.i lo,.i hi] (.b (decide (n≥lo)&&decide (n≤hi))):=by
 refine ⟨ZF (fok63 true) (QC rfl) ?_,rfl⟩
 by_cases h:n≥lo <;> simp only[ic63,h,evA,simprocAttr] <;> exact frz
def AK (y:Int):Bool:=(y.tmod 400 == 0)||((y.tmod 4 == 0)&&(y.tmod 100 != 0))
def XY (y m:Int):Int:=if m=4∨m=6∨m=9∨m=11 then 30 else if m≠2 then 31 else if AK y then 29 else 28
theorem hmix:Tryz.prog.follows .mixedOrders=true:=Checked.mixed Tryz.checked
end Go.Proofs.YtpmokaefmcffaaaGreat.AM
namespace Go.Proofs.YtpmokaefmcffaaaGreat.AM
variable [Dr]
open Go Pl
theorem EY {α:Type} {l:List α} (h:l.length≤9):l.length<2 ^ 63:=WJ h (by decide)
theorem le118 (z lo hi:Int) (σ:List AObj):AC Tryz.prog 101 [.i z,.cv (.rp [.int .i64 lo] 0),.cv (.rp [.int .i64 hi] 0)] σ fun r τ=>r=.b (decide (z<lo)||decide (z>hi))∧τ=σ:=by
 refine ZF (fok101 true) (QC rfl) ?_
 by_cases h:z<lo <;> simp only[ic101,h,evA,simprocAttr]
theorem le63 (lo hi:Int) (zs:List Int) (hz:zs.length<2 ^ 63):PC Tryz.prog 77 [.i lo,.i hi,ints zs] (.b (outF lo hi zs)):=by
 refine ⟨ZF (fok77 true) (QC rfl) ?_,rfl⟩
 simp only[ic77,evA,simprocAttr]
 refine (c87 zs (.fn (.func 101) [.cv (.rp [.int .i64 lo] 0),.cv (.rp [.int .i64 hi] 0)]) (fun z=>decide (z<lo)||decide (z>hi)) hz (fun z σ=>le118 z lo hi σ)).call frz ?_
 exact frz
theorem le64 (n lo hi:Int):PC Tryz.prog 68 [.i n,.i lo,.i hi] (.b (inB n lo hi)):=by
 refine ⟨ZF (fok68 true) (QC rfl) ?_,rfl⟩
 unfold inB
 by_cases h:n≥lo <;> simp only[ic68,h,evA,simprocAttr] <;> exact frz
theorem le66 (m:List (List Int)) (fv:AV) (f:FuncId) (x:AV) (g:Nat→Int) (hm:m.length<2 ^ 63) (hx:QR 0 x=true) (hf:∀ i,i<m.length→∀ σ,AC Tryz.prog f [x,.i i,ints m[i]!] σ fun r τ=>r=.i (g i)∧τ=σ) :
  PC Tryz.prog 126 [.cv (minR m),.bm f [x]] (.tup [.i (fndE g 0 m.length).1,.i (fndE g 0 m.length).2]):=by
 refine ⟨ZF (fok126 true) (QC rfl) ?_,rfl⟩
 simp only[ic126,evA,simprocAttr]
 refine ZW m.length (fun i s=>(∀ j,j<i→g j=0)∧∃ v2 v3 v4 v5 v9 v10,s=⟨[.cv (minR m),.bm f [x],v2,v3,v4,v5,.cv (minR m),.i m.length,.i i,v9,v10],[]⟩) ?_ 0 (QF _) ⟨by omega,_,_,_,_,_,_,rfl⟩
 rintro i s hi ⟨hall,v2,v3,v4,v5,v9,v10,rfl⟩
 by_cases h:i<m.length
 ·simp only[ic126l0,QJ,h,XP h,W3,B7 h,evA,simprocAttr]
  refine (hf i h _).run ?_
  by_cases hg:g i=0
  ·have hb:(g i != 0)=false:=by simpa using hg
   simp only[hb,Q6 (show i+1<2 ^ 63 by omega),evA,simprocAttr]
   refine ZL (by first | trivial | omega) ⟨fun j hj=>?_,_,_,_,_,_,_,rfl⟩
   rcases QQ.1 hj with hj | rfl
   ·exact hall j hj
   ·exact hg
  ·have hb:(g i != 0)=true:=by simpa using hg
   rw[VO m.length 0 i (QF _) (by omega) (fun j _ hj=>hall j hj) hg]
   simp only[hb,evA,simprocAttr]
   exact frz
 ·have:i=m.length:=by omega
  subst this
  rw[J7 m.length 0 fun j _ hj=>hall j (by omega)]
  simp only[ic126l0,QJ,h,evA,simprocAttr]
  exact frz
theorem le68 (m:List Les) (f:FuncId) (x:AV) (g:Nat→Int) (hm:m.length<2 ^ 63) (hx:QR 0 x=true) (hf:∀ i,i<m.length→∀ σ,AC Tryz.prog f [x,.i i,lesA m[i]!] σ fun r τ=>r=.i (g i)∧τ=σ) :
  PC Tryz.prog 128 [.cv (lesR m),.bm f [x]] (.tup [.i (fndE g 0 m.length).1,.i (fndE g 0 m.length).2]):=by
 refine ⟨ZF (fok128 true) (QC rfl) ?_,rfl⟩
 simp only[ic128,evA,simprocAttr]
 refine ZW m.length (fun i s=>(∀ j,j<i→g j=0)∧∃ v2 v3 v4 v5 v9 v10,s=⟨[.cv (lesR m),.bm f [x],v2,v3,v4,v5,.cv (lesR m),.i m.length,.i i,v9,v10],[]⟩) ?_ 0 (QF _) ⟨by omega,_,_,_,_,_,_,rfl⟩
 rintro i s hi ⟨hall,v2,v3,v4,v5,v9,v10,rfl⟩
 by_cases h:i<m.length
 ·simp only[ic128l0,QJ,h,F5 h,Qcl h,evA,simprocAttr]
  refine (hf i h _).run ?_
  by_cases hg:g i=0
  ·have hb:(g i != 0)=false:=by simpa using hg
   simp only[hb,Q6 (show i+1<2 ^ 63 by omega),evA,simprocAttr]
   refine W1 [] _ rfl (by first | trivial | omega) (QF _) (by simp) ?_
   have hx2:∀ k,QR k (.bm f [x])=true:=fun k=>by simp only[QR,QO,Y8 (QF k) x hx,WH]
   simp only[clip,hx2,if_true]
   refine ⟨fun j hj=>?_,_,_,_,_,_,_,rfl⟩
   rcases QQ.1 hj with hj | rfl
   ·exact hall j hj
   ·exact hg
  ·have hb:(g i != 0)=true:=by simpa using hg
   rw[VO m.length 0 i (QF _) (by omega) (fun j _ hj=>hall j hj) hg]
   simp only[hb,evA,simprocAttr]
   exact frz
 ·have:i=m.length:=by omega
  subst this
  rw[J7 m.length 0 fun j _ hj=>hall j (by omega)]
  simp only[ic128l0,QJ,h,evA,simprocAttr]
  exact frz
theorem le67 (d:Dy) (hd:DSz d) (i:Nat) (hi:i<d.mi.length):PC Tryz.prog 127 [dyV d,.i i,ints d.mi[i]!] (.i (rowE d i)):=by
 refine ⟨ZF (fok127 true) (QC rfl) ?_,rfl⟩
 have hrow:=hd.row i hi
 unfold rowE
 generalize d.mi[i]! = l at *
 simp only[ic127,WI,cellsOf,evA,simprocAttr]
 by_cases h1:l.length=d.mi.length
 ·have hb:((l.length:Int) != d.mi.length)=false:=by rw[h1];simp
  rw[if_neg (fun h=>h h1)]
  simp only[hb,evA,simprocAttr]
  refine (le63 0 120 l hrow).call frz ?_
  cases ho:outF 0 120 l with
  | true =>
   simp only[evA,simprocAttr]
   exact frz
  | false =>
   have hil:i<l.length:=by omega
   simp only[J5 hil,J4 hil,evA,simprocAttr]
   by_cases h2:gI l i=0
   ·have hb2:(l[i]?.getD 0 != 0)=false:=by simpa using h2
    simp only[hb2,h2,ne_eq,not_true,evA,simprocAttr]
    exact frz
   ·have hb2:(l[i]?.getD 0 != 0)=true:=by simpa using h2
    simp only[hb2,h2,ne_eq,not_false_eq_true,evA,simprocAttr]
    exact frz
 ·have hb:((l.length:Int) != d.mi.length)=true:=by simp;omega
  rw[if_pos h1]
  simp only[hb,evA,simprocAttr]
  exact frz
theorem le69 (d:Dy) (hd:DSz d) (i:Int) (l:Les):PC Tryz.prog 129 [dyV d,.i i,lesA l] (.i (lesE d l)):=by
 refine ⟨ZF (fok129 true) (QC rfl) ?_,rfl⟩
 have h63:=hd.mi
 unfold lesE
 have hw:IntKind.i64.wrap ((d.mi.length:Int)-1)=(d.mi.length:Int)-1:=ZC (by omega)
 simp only[ic129,WI,cellsOf,evA,simprocAttr]
 refine (le63 0 1440 [l.b,l.e] (EY (by simp))).call frz ?_
 cases h1:outF 0 1440 [l.b,l.e] with
 | true =>
  simp only[US,evA,simprocAttr]
  exact frz
 | false =>
  simp only[Y3,evA,simprocAttr]
  refine (le63 0 7 [l.le,l.te,l.ca] (EY (by simp))).call frz ?_
  cases h2:outF 0 7 [l.le,l.te,l.ca] with
  | true =>
   simp only[evA,simprocAttr]
   exact frz
  | false =>
   by_cases h3:l.b≥l.e
   ·simp only[h3,evA,simprocAttr]
    exact frz
   ·simp only[h3,hw,evA,simprocAttr]
    refine (le63 0 ((d.mi.length:Int)-1) [l.f,l.o] (EY (by simp))).call frz ?_
    cases h4:outF 0 ((d.mi.length:Int)-1) [l.f,l.o] with
    | true =>
     simp only[evA,simprocAttr]
     exact frz
    | false =>
     simp only[evA,simprocAttr]
     exact frz
abbrev chkA (d:Dy):AV:=.tup [.i (dyE d).1,.i (dyE d).2.1,.i (dyE d).2.2]
theorem le23 (d:Dy) (hd:DSz d):PC Tryz.prog 100 [dyV d] (chkA d):=by
 refine ⟨ZF (fok100 true) (QC rfl) ?_,rfl⟩
 have hc66:=le66 d.mi (.bm 127 [dyV d]) 127 (dyV d) (rowE d) hd.mi rfl (fun i hi σ=>(le67 d hd i hi).call frz ⟨rfl,rfl⟩)
 have hc68:=le68 d.ls 129 (dyV d) (fun i=>lesE d d.ls[i]!) hd.ls rfl (fun i hi σ=>(le69 d hd i d.ls[i]!).call frz ⟨rfl,rfl⟩)
 simp only[ic100,WI,cellsOf,evA,simprocAttr]
 refine (le63 1 16 [(d.mi.length:Int)] (EY (by simp))).call frz ?_
 unfold chkA dyE
 cases h1:outF 1 16 [(d.mi.length:Int)] with
 | true =>
  simp only[US,evA,simprocAttr]
  exact frz
 | false =>
 cases h2:decide ((d.ls.length:Int)>12) with
 | true =>
  simp only[Y3,h2,evA,simprocAttr]
  exact frz
 | false =>
  simp only[Y3,h2,evA,simprocAttr]
  refine hc66.call frz ?_
  generalize fndE (rowE d) 0 d.mi.length=e1
  obtain ⟨a1,b1⟩:=e1
  by_cases h3:b1=0
  ·have hb:(b1 != 0)=false:=by simpa using h3
   simp only[hb,h3,ne_eq,not_true,evA,simprocAttr]
   refine hc68.call frz ?_
   generalize fndE (fun i=>lesE d d.ls[i]!) 0 d.ls.length=e2
   obtain ⟨a2,b2⟩:=e2
   by_cases h4:b2=0
   ·have hb:(b2 != 0)=false:=by simpa using h4
    simp only[hb,h4,ne_eq,not_true,evA,simprocAttr]
    exact frz
   ·have hb:(b2 != 0)=true:=by simpa using h4
    simp only[hb,h4,ne_eq,not_false_eq_true,evA,simprocAttr]
    exact frz
  ·have hb:(b1 != 0)=true:=by simpa using h3
   simp only[hb,h3,ne_eq,not_false_eq_true,evA,simprocAttr]
   exact frz
theorem le72 (d:Dy) (hd:DSz d):PA Tryz.prog 76 [dyV d] (.tup [dyV d,.i (dyE d).2.2]):=by
 refine ⟨ZF (fok76 true) (QC rfl) ?_,rfl,rfl⟩
 have h:=le23 d hd
 unfold chkA at h
 generalize dyE d=e at *
 obtain ⟨e1,e2,e3⟩:=e
 simp only[ic76,WI,cellsOf,evA,simprocAttr]
 refine h.call frz ?_
 simp only[evA,simprocAttr]
 exact frz
end Go.Proofs.YtpmokaefmcffaaaGreat.AM
namespace Go.Proofs.YtpmokaefmcffaaaGreat.AM
variable [Dr]
open Go
def begF:Nat→Int
 | 0=>0
 | k+1=>begF k+337+XY (2000+(k:Int)) 2
theorem U0 (y m:Int):28≤XY y m∧XY y m≤31:=by
 unfold XY
 split
 ·omega
 ·split
  ·omega
  ·split <;> omega
def sumL (y:Int):Nat→Int
 | 0=>0
 | k+1=>sumL y k+XY y ((k:Int)+1)
theorem BJ (y:Int):∀ k,0≤sumL y k∧sumL y k≤31*(k:Int)
 | 0=>by simp[sumL]
 | k+1=>by
  have:=BJ y k
  have:=U0 y ((k:Int)+1)
  unfold sumL;omega
theorem inD_iff {n lo hi:Int}:(decide (n≥lo)&&decide (n≤hi))=inB n lo hi:=by
 rw[Q8,VB];simp
structure UW (D:Int) (j k:Nat):Prop where
 k12:k<12
 lo:begF j+sumL (2000+(j:Int)) k≤D
 hi:D<begF j+sumL (2000+(j:Int)) (k+1)
 top:D≤40000
theorem sumL_12 (y:Int):sumL y 12=337+XY y 2:=by
 simp[sumL,XY];omega
theorem OQ (j:Nat):begF (j+1)=begF j+sumL (2000+(j:Int)) 12:=by rw[sumL_12,begF];omega
theorem SX (y:Int):∀ {a b:Nat},a≤b→sumL y a≤sumL y b:=by
 intro a b h
 induction h with
 | refl=>exact Int.le_refl _
 | step h ih=>have:=U0 y (((‹Nat› : Nat):Int)+1);simp only[sumL];omega
theorem QbH:∀ j:Nat,365*(j:Int)≤begF j∧begF j≤366*(j:Int)
 | 0=>by simp[begF]
 | j+1=>by
  have:=QbH j
  have h2:28≤XY (2000+(j:Int)) 2∧XY (2000+(j:Int)) 2≤29:=by
   simp only[XY];simp;split <;> omega
  unfold begF;omega
theorem NM {a b:Nat} (h:a≤b):begF a≤begF b:=by
 induction h with
 | refl=>exact Int.le_refl _
 | step h ih=>have:=U0 (2000+((‹Nat› : Nat):Int)) 2;simp only[begF];omega
theorem UW.year {D:Int} {j k:Nat} (h:UW D j k):begF j≤D∧D<begF (j+1)∧j≤110:=by
 have h1:=BJ (2000+(j:Int)) k
 have h2:=SX (2000+(j:Int)) (show k+1≤12 from h.k12)
 have h3:=OQ j
 have h4:=QbH j
 have:=h.lo;have:=h.hi;have:=h.top
 omega
abbrev dOf (D:Int) (j k:Nat):Int:=D-begF j-sumL (2000+(j:Int)) k+1
theorem UW.dd {D:Int} {j k:Nat} (h:UW D j k):1≤dOf D j k∧dOf D j k≤XY (2000+(j:Int)) ((k:Int)+1):=by
 have h1:=h.lo;have h2:=h.hi
 rw[sumL] at h2
 unfold dOf;omega
theorem UW.le {D E:Int} {j k j2 k2:Nat} (h:UW D j k) (h2:UW E j2 k2) (hle:D≤E):j≤j2:=by
 have:=h.year;have:=h2.year
 rcases ZB j2 j with hl | hg
 ·have:=NM (show j2+1≤j from hl);omega
 ·exact hg
end Go.Proofs.YtpmokaefmcffaaaGreat.AM
namespace Go.Proofs.YtpmokaefmcffaaaGreat.AM
open Go Go.Shelf
def S0:Go.Shelf.Ren:=⟨fun | 6=>168 | 15=>87 | 14=>174 | 28=>113 | 29=>114 | 20=>176 | 21=>177 | 22=>178 | 23=>179 | 24=>180 | 25=>181 | 26=>182 | 27=>183 | 46=>184 | 47=>135 | 48=>136 | 49=>185 | 50=>186 | 57=>187 | n=>n,fun | 22=>145 | 24=>179 | 25=>250 | 3=>3 | 39=>165 | 0=>0 | 53=>36 | 55=>197 | 4=>4 | 46=>190 | 45=>189 | 50=>134 | 5=>5 | 9=>9 | 66=>216 | 70=>220 | 76=>241 | 77=>242 | n=>n,fun | n=>n⟩
theorem sortL:Go.Proofs.SlLaysF0.n6 Tryz.prog S0:={
 mixed:=by kernel_rfl
 f6:=⟨Tryz.f168.name,by decide,Tryz.func168.trans (congrArg some (by kernel_rfl))⟩
 f14:=⟨Tryz.f174.name,by decide,Tryz.func174.trans (congrArg some (by kernel_rfl))⟩
 f15:=Tryz.func87.trans (congrArg some (by kernel_rfl))
 f20:=⟨Tryz.f176.name,by decide,Tryz.func176.trans (congrArg some (by kernel_rfl))⟩
 f21:=⟨Tryz.f177.name,by decide,Tryz.func177.trans (congrArg some (by kernel_rfl))⟩
 f22:=⟨Tryz.f178.name,by decide,Tryz.func178.trans (congrArg some (by kernel_rfl))⟩
 f23:=⟨Tryz.f179.name,by decide,Tryz.func179.trans (congrArg some (by kernel_rfl))⟩
 f24:=⟨Tryz.f180.name,by decide,Tryz.func180.trans (congrArg some (by kernel_rfl))⟩
 f25:=⟨Tryz.f181.name,by decide,Tryz.func181.trans (congrArg some (by kernel_rfl))⟩
 f26:=⟨Tryz.f182.name,by decide,Tryz.func182.trans (congrArg some (by kernel_rfl))⟩
 f27:=⟨Tryz.f183.name,by decide,Tryz.func183.trans (congrArg some (by kernel_rfl))⟩
 f28:=Tryz.func113.trans (congrArg some (by kernel_rfl))
 f29:=Tryz.func114.trans (congrArg some (by kernel_rfl))
 f46:=⟨Tryz.f184.name,by decide,Tryz.func184.trans (congrArg some (by kernel_rfl))⟩
 f47:=Tryz.func135.trans (congrArg some (by kernel_rfl))
 f48:=Tryz.func136.trans (congrArg some (by kernel_rfl))
 f49:=⟨Tryz.f185.name,by decide,Tryz.func185.trans (congrArg some (by kernel_rfl))⟩
 f50:=⟨Tryz.f186.name,by decide,Tryz.func186.trans (congrArg some (by kernel_rfl))⟩
 f57:=⟨Tryz.f187.name,by decide,Tryz.func187.trans (congrArg some (by kernel_rfl))⟩
 t0:=Tryz.underlying0
 a0:=Tryz.isAgg0
 z0:=Tryz.sizeOf0
 v0:=Tryz.zeroValue0
 t3:=Tryz.underlying3
 a3:=Tryz.isAgg3
 z3:=Tryz.sizeOf3
 v3:=Tryz.zeroValue3
 t4:=Tryz.underlying4
 a4:=Tryz.isAgg4
 z4:=Tryz.sizeOf4
 v4:=Tryz.zeroValue4
 t5:=Tryz.underlying5
 a5:=Tryz.isAgg5
 z5:=Tryz.sizeOf5
 v5:=Tryz.zeroValue5
 t9:=Tryz.underlying9
 a9:=Tryz.isAgg9
 z9:=Tryz.sizeOf9
 v9:=Tryz.zeroValue9
 t22:=Tryz.underlying145
 a22:=Tryz.isAgg145
 z22:=Tryz.sizeOf145
 v22:=Tryz.zeroValue145
 t25:=Tryz.underlying250
 a25:=Tryz.isAgg250
 z25:=Tryz.sizeOf250
 v25:=Tryz.zeroValue250
 t39:=Tryz.underlying165
 a39:=Tryz.isAgg165
 z39:=Tryz.sizeOf165
 v39:=Tryz.zeroValue165
 t45:=Tryz.underlying189
 a45:=Tryz.isAgg189
 z45:=Tryz.sizeOf189
 v45:=Tryz.zeroValue189
 t46:=Tryz.underlying190
 a46:=Tryz.isAgg190
 z46:=Tryz.sizeOf190
 v46:=Tryz.zeroValue190
 t50:=Tryz.underlying134
 a50:=Tryz.isAgg134
 z50:=Tryz.sizeOf134
 v50:=Tryz.zeroValue134
 t53:=Tryz.underlying36
 a53:=Tryz.isAgg36
 z53:=Tryz.sizeOf36
 v53:=Tryz.zeroValue36
 t55:=Tryz.underlying197
 a55:=Tryz.isAgg197
 z55:=Tryz.sizeOf197
 v55:=Tryz.zeroValue197
 t66:=Tryz.underlying216
 a66:=Tryz.isAgg216
 z66:=Tryz.sizeOf216
 v66:=Tryz.zeroValue216
 t70:=Tryz.underlying220
 a70:=Tryz.isAgg220
 z70:=Tryz.sizeOf220
 v70:=Tryz.zeroValue220
 t76:=Tryz.underlying241
 a76:=Tryz.isAgg241
 z76:=Tryz.sizeOf241
 v76:=Tryz.zeroValue241
 t77:=Tryz.underlying242
 a77:=Tryz.isAgg242
 z77:=Tryz.sizeOf242
 v77:=Tryz.zeroValue242 }
end Go.Proofs.YtpmokaefmcffaaaGreat.AM
namespace Go.Proofs.YtpmokaefmcffaaaGreat.AM
variable [Dr]
open Go
variable {P:Program} {fx:Fx}
def SW (P:Program) (fx:Fx) (ic:IC) (s:St) (Q:Exit→St→Prop):Prop:=∀ c,QL P fx.vars fx.N c=some ic→W P fx c s Q
theorem SW_of {ic:IC} {s:St} {Q:Exit→St→Prop} (h:IS P fx ic s Q .mk .mk):SW P fx ic s Q:=fun c hc=>Y6 c ic s Q hc (VT ic s Q _ _ h)
theorem SW.weak {ic:IC} {s s':St} {Q:Exit→St→Prop} (hw:Weak fx s s') (h:SW P fx ic s' Q):SW P fx ic s Q:=fun c hc=>(h c hc).weak hw
def kSW (P:Program) (fx:Fx) (b:IC) (Q:Exit→St→Prop):Exit→St→Prop:=fun e s'=>match e with | .normal=>SW P fx b s' Q | e=>Q e s'
theorem kSW_n {b:IC} {Q:Exit→St→Prop} {s:St}:kSW P fx b Q .normal s=SW P fx b s Q:=Eq.trans rfl rfl
theorem kSW_r {b:IC} {Q:Exit→St→Prop} {s:St}:kSW P fx b Q .ret s=Q .ret s:=Eq.trans rfl rfl
theorem SW_seq {a b:IC} {s:St} {Q:Exit→St→Prop} (h:IS P fx a s (kSW P fx b Q) .mk .mk):SW P fx (.seq a b) s Q:=by
 have h:=VT a s _ _ _ h
 intro c
 induction c with
 | seq x y _ _ =>
  intro hc
  simp only[QL,QB,QA] at hc
  obtain ⟨x',hx,y',hy,he⟩:=hc
  cases he
  refine QcO ((Y6 x a s _ hx h).mono ?_)
  intro e s' hq
  cases e with
  | normal=>exact hq y hy
  | _=>exact hq
 | cond o x y ihx ihy =>
  intro hc
  cases o with
  | const v =>
   cases v <;> simp only[QL,reduceCtorEq] at hc
   rename_i t
   cases t with
   | true=>simp only[if_true] at hc;exact XD (ihx hc)
   | false=>simp only[QT,if_false] at hc;exact XD (ihy hc)
  | tmp t =>
   simp only[QL,QB,QA] at hc
   obtain ⟨_,_,_,_,_,_,he⟩:=hc
   cases he
  | global g=>simp[QL] at hc
  | func f=>simp[QL] at hc
 | region id ops dr =>
  intro hc
  cases dr <;> simp[QL] at hc
 | rangeFunc g ps assign body _ _ =>
  intro hc
  simp only[QL,QB,QA] at hc
  obtain ⟨_,_,_,_,he⟩:=hc
  cases he
 | skip=>intro hc;simp[QL] at hc
 | label l=>intro hc;simp[QL] at hc
 | exit i=>intro hc;simp[QL] at hc
 | ret=>intro hc;simp[QL] at hc
 | block i a _=>intro hc;simp[QL] at hc
 | loop a _=>intro hc;simp[QL] at hc
 | scope a _=>intro hc;simp[QL] at hc
 | goto l=>intro hc;simp[QL] at hc
 | refuse r=>intro hc;simp[QL] at hc
theorem AC_SW {f:FuncId} {ic:IC} {vars:List Nat} {N:Nat} {res:List RC} {p:Bool} {args:List AV} {σ:List AObj} {Q:AV→List AObj→Prop} (hf:FnOk P f ⟨ic,vars,N,res,p⟩) (hargs:args.length≤N)
  (h:SW P ⟨vars,N,none,σ.length⟩ ic ⟨Y5 vars args,σ⟩ (kEnd res Q)):AC P f args σ Q:=by
 obtain ⟨fn,c,h1,h2,h3,h4,h5,h6⟩:=hf.ok
 dsimp only at h4 h5 h6
 subst h4
 have hr:∀ vals heap,UB P vars vals heap fn.results.toList=RL vals heap res:=fun vals heap=>BY h6
 refine IB h1 h2 (RE h1 h3 h2) hargs ((h c h5).mono ?_)
 intro e s' h'
 have key:rK (RL s'.vals s'.heap res) (fun r=>Q r s'.heap) .mk→∃ r,UB P vars s'.vals s'.heap fn.results.toList=some r∧Q r s'.heap:=by
  intro h'
  unfold rK at h'
  split at h'
  ·exact h'.elim
  ·rename_i v hv;exact ⟨v,by rw[hr];exact hv,h'⟩
 cases e with
 | normal=>exact key h'
 | ret=>exact key h'
 | _=>exact h'.elim
end Go.Proofs.YtpmokaefmcffaaaGreat.AM
namespace Go.Proofs.YtpmokaefmcffaaaGreat.AM
variable [Dr]
open Go
def Turn1 (k:Nat) (σ:List AObj) (a b:AV):Prop:=(a=b∧QR k b=true)∨FrzV anyC σ a b
inductive D2 (k:Nat) (σ:List AObj):List AV→List AV→Prop
 | nil:D2 k σ [] []
 | cons {a b:AV} {as_ bs:List AV}:Turn1 k σ a b→D2 k σ as_ bs→D2 k σ (a::as_) (b::bs)
theorem D2.len {k:Nat} {σ:List AObj} {as_ bs:List AV} (h:D2 k σ as_ bs):as_.length=bs.length:=by
 induction h with
 | nil=>rfl
 | cons _ _ ih=>simp[ih]
theorem D2.get {k:Nat} {σ:List AObj} {as_ bs:List AV} (h:D2 k σ as_ bs):∀ i,Turn1 k σ (as_.getD i .undef) (bs.getD i .undef):=by
 induction h with
 | nil=>intro i;exact .inl ⟨by simp[List.getD],by simp[List.getD,QR]⟩
 | cons h _ ih =>
  intro i
  cases i with
  | zero=>simpa[List.getD] using h
  | succ i=>simpa[List.getD] using ih i
theorem Weak.turn {fx:Fx} {vals vals2:List AV} {τ τ2 J:List AObj} (h0:fx.n0=0) (hlen:τ2.length=τ.length)
  (hv:D2 τ.length (List.replicate τ.length .dead++J) vals vals2)
  (ho:∀ (l:Nat) (o2:AObj),τ2[l]? = some o2→∃ o,τ[l]? = some o∧o.live∧((o2=o∧Z3 τ.length o=true)∨∃ as_ bs,o=.cells as_∧o2=.cells bs∧D2 τ.length (List.replicate τ.length .dead++J) as_ bs)) :
  Weak fx ⟨vals,τ++J⟩ ⟨vals2,τ2⟩:=by
 intro m X en ac w hs
 have hh:=hs.heap
 let m2:LM:=fun l=>if l<τ.length then m l else none
 have hm2:∀ l,l<τ.length→m2 l=m l:=fun l hl=>by simp only[m2];rw[if_pos hl]
 have hm2s:∀ l b,m2 l=some b→l<τ.length∧m l=some b:=fun l b hl=>by
  simp only[m2] at hl
  split at hl
  ·rename_i h;exact ⟨h,hl⟩
  ·cases hl
 have how:∀ b,Own m2 X b→Own m X b:=by
  rintro b (hx | ⟨l,hl⟩)
  ·exact .inl hx
  ·exact .inr ⟨l,(hm2s l b hl).2⟩
 have hin:∀ (l:Nat) o,τ[l]? = some o→(τ++J)[l]? = some o:=fun l o hlo=>by rw[QE (QH.1 hlo).1];exact hlo
 have hlv:∀ l,l<τ.length→∃ o,(τ++J)[l]? = some o∧o.live:=fun l hl=>by
  obtain ⟨o,h1,h2,_⟩:=ho l _ (QI (by omega))
  exact ⟨o,hin l o h1,h2⟩
 have hnot:∀ (l b:Nat) (o:AObj),m l=some b→(List.replicate τ.length AObj.dead++J)[l]? = some o→o.live→¬ Own m2 X b:=by
  intro l b o hb hlo hlive hown
  have hge:τ.length≤l:=by
   rcases ZB l τ.length with hlt | hge
   ·rw[QE (by simpa using hlt)] at hlo
    have:=QZ hlo
    rw[List.mem_replicate] at this
    rw[this.2] at hlive;exact hlive.elim
   ·exact hge
  have hlo':(τ++J)[l]? = some o:=by
   rw[QS (by simpa using hge)] at hlo
   rw[QS hge]
   simpa using hlo
  rcases hown with hx | ⟨l2,h2⟩
  ·exact hh.own l b o hb hlo' hlive hx
  ·obtain ⟨h3,h4⟩:=hm2s l2 b h2
   obtain ⟨o2,h6,h7⟩:=hlv l2 h3
   have:=hh.inj l l2 b _ hb h4 h6 h7
   omega
 have one:∀ {a b:AV},Turn1 τ.length (List.replicate τ.length .dead++J) a b→∀ v,VRel m X w a v→VRel m2 X w b v:=by
  rintro a b (⟨rfl,h⟩ | h) v hv
  ·exact VRel.less hm2 how a v h hv
  ·exact RX (HRel.forget hh) (fun c v _ h=>CV.rep_less how c v h) hnot h v hv
 have many:∀ {as_ bs:List AV},D2 τ.length (List.replicate τ.length .dead++J) as_ bs→∀ vs,QK m X w as_ vs→QK m2 X w bs vs:=by
  intro as_ bs h
  induction h with
  | nil=>intro vs hv;rw[QK.nil' hv];simp[QK]
  | cons h1 _ ih =>
   intro vs hv
   obtain ⟨v,us,rfl,g1,g2⟩:=hv.cons
   exact ⟨one h1 v g1,ih us g2⟩
 refine ⟨m2,⟨hs.size,?_,?_,⟨hh.xb,?_,?_,?_,?_,hh.gl.less how⟩,by rw[h0];exact QF _,hs.entry⟩,?_⟩
 ·intro i t hi
  exact one (hv.get i) _ (hs.vars i t hi)
 ·obtain ⟨bs,h1,h2,h3⟩:=hs.defs
  exact ⟨bs,h1,h2,fun b hb=>let ⟨g1,g2,g3,g4⟩:=h3 b hb;⟨g1,g2,g3,fun hx=>g4 (how b hx)⟩⟩
 ·intro l b hl
  obtain ⟨h1,h2⟩:=hm2s l b hl
  exact ⟨by show l<τ2.length;omega,(hh.dom l b h2).2⟩
 ·intro l b o hl hlo hv
  obtain ⟨h1,h2⟩:=hm2s l b hl
  obtain ⟨o',h3,h4⟩:=hlv l h1
  exact hh.own l b o' h2 h3 h4
 ·intro l l' b o' hl hl' hlo hv
  obtain ⟨h1,h2⟩:=hm2s l b hl
  obtain ⟨h1',h2'⟩:=hm2s l' b hl'
  obtain ⟨o2,h3,h4⟩:=hlv l' h1'
  exact hh.inj l l' b o2 h2 h2' h3 h4
 ·intro l o2 hlo
  obtain ⟨o,h1,h2,h3⟩:=ho l o2 hlo
  have hlt:l<τ.length:=(QH.1 h1).1
  have hob:=hh.obj l o (hin l o h1)
  rw[hm2 l hlt]
  rcases h3 with ⟨rfl,hc⟩ | ⟨as_,bs,rfl,rfl,ht⟩
  ·refine ORel.ren (g:=id) hm2 how hc ?_
   rw[E1 (g:=id) (k:=τ.length) (fun _ _=>rfl) hc]
   exact hob
  ·cases hm:m l with
   | none=>rw[hm] at hob;exact hob.elim
   | some b =>
    rw[hm] at hob
    obtain ⟨c,e,g1,g2,g3⟩:=hob
    refine ⟨c,e,g1,by rw[← ht.len];exact g2,?_⟩
    rw[← ht.len]
    exact many ht _ g3
 ·rw[h0]
  exact ⟨fun l hl=>absurd hl (W5 _),fun l b hl=>.inl ⟨l,(hm2s l b hl).2⟩,QG _,fun _ _ _=>rfl,fun b c e hb=>⟨c,hb,rfl⟩,rfl,rfl,rfl,fun _=>QG _⟩
end Go.Proofs.YtpmokaefmcffaaaGreat.AM
namespace Go.Proofs.YtpmokaefmcffaaaGreat.AM
variable [Dr]
open Go Go.Sort Go.Shelf
section
variable {P:Program} {m m':LM} {X X':Nat→Prop} {σ:List AObj} {w w':World}
abbrev drOn [d:Dr]:Dr:=⟨True,d.gl⟩
omit [Dr] in
theorem Qe0 [d:Dr] (hon:d.on) {n0:Nat} (h:Step n0 nom X w m' w'):∃ q os,w'=grow (w.drewN q) os:=by
 refine ⟨w'.drawn-w.drawn,w'.heap.extract w.heap.size w'.heap.size,?_⟩
 have h1:=h.size
 have h2:=h.os
 have h3:=h.tape
 have h4:=h.output
 have h5:=h.drawn hon
 have h6:∀ b,b<w.heap.size→w'.heap[b]? = w.heap[b]? := fun b hb=>h.fr b hb (.inr fun l hl=>by cases hl)
 obtain ⟨hp,tp,dr,o,out⟩:=w'
 simp only at h1 h2 h3 h4 h5 h6
 simp only[grow,World.drewN,World.mk.injEq]
 refine ⟨?_,h3,by omega,h2,h4⟩
 apply Array.ext_getElem?
 intro i
 by_cases hi:i<w.heap.size
 ·rw[h6 i hi,JF hi]
 ·rw[Array.getElem?_append_right (by omega)]
  by_cases hj:i<hp.size
  ·rw[Array.getElem?_extract,if_pos (by omega),show w.heap.size+(i-w.heap.size)=i by omega]
  ·rw[Array.getElem?_eq_none (by omega),Array.getElem?_eq_none (by simp;omega)]
theorem HRel.turnG (h:HRel m X σ w) {l b:Nat} {o o':AObj} (hl:m l=some b) (ho:σ[l]? = some o) (hlive:o.live) (hs:Step σ.length m X w m w')
  (hot:∀ k,k≠b→k<w.heap.size→w'.heap[k]? = w.heap[k]?) (hr:Mono m X w m X w'→ORel m X w' (some b) o'):HRel m X (σ.set l o') w':=by
 have hm:=h.mono_of_step hs (QG _)
 refine ⟨?_,?_,?_,?_,?_,h.gl.mono hm⟩
 ·intro k hk;exact Z6 (h.xb k hk) hs.size
 ·intro x k hk;have:=h.dom x k hk;exact ⟨by simpa using this.1,Z6 this.2 hs.size⟩
 ·intro x k o1 hx ho1 hv
  rw[ZO] at ho1
  by_cases hxl:l=x
  ·subst hxl;exact h.own l k o hx ho hlive
  ·rw[if_neg hxl] at ho1;exact h.own x k o1 hx ho1 hv
 ·intro x y k o2 hx hy ho2 hv2
  rw[ZO] at ho2
  by_cases hyl:l=y
  ·subst hyl;exact h.inj x l k o hx hy ho hlive
  ·rw[if_neg hyl] at ho2;exact h.inj x y k o2 hx hy ho2 hv2
 ·intro x o1 ho1
  rw[ZO] at ho1
  by_cases hxl:l=x
  ·subst hxl
   rw[if_pos rfl] at ho1
   split at ho1
   ·cases ho1;rw[hl];exact hr hm
   ·cases ho1
  ·rw [if_neg hxl] at ho1
   have hob:=h.obj x o1 ho1
   cases hmx:m x with
   | none=>rw[hmx] at hob;cases o1 <;> simp[ORel] at hob ⊢
   | some k =>
    rw[hmx] at hob
    by_cases hkb:k=b
    ·subst hkb
     by_cases hlv:o1.live
     ·have a1:=h.inj l x k o1 hl hmx ho1 hlv
      have a2:=h.inj x l k o hmx hl ho hlive
      omega
     ·cases o1 with
      | dead=>trivial
      | _=>exact absurd trivial hlv
    ·exact ORel.mono hm (hot k hkb (h.dom x k hmx).2) hob
end
section
variable {α:Type} [Inhabited α] (enc:α→List Value) (k:Nat) (w:World) (b q:Nat) (d:Array α) (os:Array Obj)
theorem so_at {c:Array Value} {e:TypeId} {fr:Nat × Nat} (hb:w.heap[b]? = some (.cells c e fr)):(sortWorldK enc k w b 0 q d os).heap[b]? = some (.cells (putCells id 0 (Sort.flatK enc k d) c) e fr):=by
 have hlt:b<w.heap.size:=(Q3.1 hb).1
 unfold sortWorldK grow putRowK putRow mapBlock Sort.ahead
 simp only
 rw[JF (by simpa using hlt),W8,if_pos rfl,hb]
 rfl
theorem IH {x:Nat} (hx:x≠b) (hlt:x<w.heap.size):(sortWorldK enc k w b 0 q d os).heap[x]? = w.heap[x]? := by
 unfold sortWorldK grow putRowK putRow mapBlock Sort.ahead
 simp only
 rw[JF (by simpa using hlt),W8,if_neg (Ne.symm hx)]
theorem QdV:w.heap.size≤(sortWorldK enc k w b 0 q d os).heap.size:=by
 unfold sortWorldK grow putRowK putRow mapBlock Sort.ahead
 simp
theorem QdU {m:LM} {X:Nat→Prop} {n0 l:Nat} (hl:m l=some b) (hx:¬ X b):Step n0 m X w m (sortWorldK enc k w b 0 q d os) where
 keep _ _:=rfl
 new x c hc:=.inl ⟨x,hc⟩
 size:=QdV enc k w b q d os
 fr x hx' hno:=IH enc k w b q d os (fun h=>by
  subst h
  rcases hno with h | h
  ·exact hx h
  ·exact h l hl) hx'
 shp x c e hc:=by
  by_cases h:x=b
  ·subst h;exact ⟨_,so_at enc k w x q d os hc,by simp[putCells]⟩
  ·exact ⟨c,by rw[IH enc k w b q d os h (Q3.1 hc).1];exact hc,rfl⟩
 os:=rfl
 tape:=rfl
 output:=rfl
 drawn _:=by unfold sortWorldK grow putRowK putRow mapBlock Sort.ahead;simp
end
theorem A2 {α:Type} {f:α→List Value} {e:Nat} (hf:∀ x,(f x).length=e) [Inhabited α]:∀ {xs:List α} {i j:Nat},i<xs.length→j<e→(xs.flatMap f)[i*e+j]? = (f xs[i]!)[j]?
 | [],i,_,h,_=>by simp at h
 | x::xs,0,j,_,hj=>by
  rw[YH,QE (by rw[hf];omega)];simp
 | x::xs,i+1,j,h,hj=>by
  have h1:(i+1)*e+j=(f x).length+(i*e+j):=by rw[hf,XJ];omega
  rw[YH,h1,QS (by omega),X6,A2 hf (by simpa using h) hj]
  simp
theorem ND {α:Type} {f:α→List Value} {e:Nat} (hf:∀ x,(f x).length=e):∀ xs:List α,(xs.flatMap f).length=xs.length*e
 | []=>by simp
 | x::xs=>by rw[YH,QM,hf,ND hf xs,List.length_cons,XJ];omega
theorem Qcy {α:Type} [Inhabited α] (enc:α→List Value) (k:Nat) (hk:∀ x,(enc x).length=k) (d:Array α):(Sort.flatK enc k d).toList=d.toList.flatMap enc:=by
 apply Z1
 intro t
 by_cases ht:t<d.size*k
 ·have k0:0<k:=by
   rcases XF k with h | h
   ·subst h;simp at ht
   ·exact h
  have hq:t / k<d.size:=Nat.div_lt_of_lt_mul (by rw[Nat.mul_comm];exact ht)
  have hm:=Nat.mod_lt t k0
  have he:t=t / k*k+t % k:=by have:=Nat.div_add_mod t k;rw[Nat.mul_comm] at this;omega
  have h1:(Sort.flatK enc k d)[t]? = some (Sort.flatK enc k d)[t]! := by
   rw[getElem!_pos _ _ (by simpa using ht)];exact Q7 _
  have h2:=A2 hk (xs:=d.toList) (i:=t / k) (j:=t % k) (by simpa using hq) hm
  rw[← he] at h2
  rw[Y7,h1,get_flatK _ _ _ _ ht,h2]
  have h3:d.toList[t / k]! = d[t / k]! := by simp[List.getElem!_eq_getElem?_getD,getElem!_def]
  rw[h3,QI (by rw[hk];exact hm),getElem!_pos _ _ (by rw[hk];exact hm)]
 ·rw[QN (by simpa using ht),QN (by rw[ND hk];simpa using ht)]
theorem SJ (F c:Array Value) (h:F.size≤c.size):(putCells id 0 F c).toList=F.toList++c.toList.drop F.size:=by
 apply Z1
 intro t
 rw[Y7]
 unfold putCells
 rw[Array.getElem?_mapIdx]
 by_cases ht:t<F.size
 ·rw[QE (by simpa using ht),Q7 (by omega)]
  simp[ht]
 ·rw[QS (by simpa using ht),X4]
  simp[ht]
  congr 1
  omega
theorem QeZ {A:Nat→List CV} {k:Nat} (hk:∀ i,(A i).length=k) {n i:Nat} (hi:i<n):(((List.range n).flatMap A).drop (i*k)).take k=A i:=by
 rw[G3 hk (by simpa using hi)]
 congr 1
 rw[getElem!_pos _ _ (by simpa using hi)];simp
theorem U5 {A:Nat→List CV} {k:Nat} (hk:∀ i,(A i).length=k) (xs:List Nat):(xs.flatMap A).length=xs.length*k:=UG hk xs
theorem QK.flat {m:LM} {X:Nat→Prop} {w:World} {A:Nat→List CV} {V:Nat→List Value}:∀ {p:List Nat},(∀ i∈p,QK m X w ((A i).map .cv) (V i))→QK m X w ((p.flatMap A).map .cv) (p.flatMap V)
 | [],_=>by simp[QK]
 | i::p,h=>by
  rw[YH,YH,ZS]
  exact QK.append (h i (by simp)) (QK.flat fun j hj=>h j (by simp[hj]))
theorem swo_pull {cf:Nat→Nat→Int} (c:Nat→Nat) (h:SWO (ltOf cf)):SWO (ltOf fun x y=>cf (c x) (c y)) :=
 ⟨fun x=>h.irrefl (c x),fun x y z=>h.trans (c x) (c y) (c z),fun x y z=>h.ntrans (c x) (c y) (c z)⟩
theorem AC_sortK {P:Program} {ρ:Ren} (L:SlLaysF0.n6 P ρ) (k:Nat) (aE:∀ w,(isAgg (ρ.t 24)).run P w=.ok true w) (zE:∀ w,(Go.sizeOf (ρ.t 24)).run P w=.ok k w) (hf:PI P (ρ.f 6)) {g:Nat} {cap:List AV} {n:Nat} (hn:0<n) (hn2:n<4611686018427387904)
  {A:Nat→List CV} (hk:∀ i,(A i).length=k) {cf:Nat→Nat→Int} (hO:SWO (ltOf cf)) (hcl:QO 0 cap=true) (hcmp:∀ i j,i<n→j<n→@AC drOn P g (.agg ((A i).map .cv) :: .agg ((A j).map .cv)::cap) [] fun r _=>r=.i (cf i j))
  {σ:List AObj} {l:Nat} {rest:List AV} (hr:rowOf σ l=some (((List.range n).flatMap A).map .cv++rest)) :
  AC P (ρ.f 6) [.sl l 0 n k,.fn (.func g) cap] σ fun r τ=>r=.tup []∧∃ p:List Nat,p.Perm (List.range n)∧p.Pairwise (fun i j=>¬ cf j i<0)∧τ=σ.set l (.cells ((p.flatMap A).map .cv++rest)):=by
 refine ⟨hf,fun m X w cargs ha hh=>?_⟩
 obtain ⟨v1,us,rfl,h1,k1⟩:=QK.cons ha
 obtain ⟨v2,us,rfl,h2,k2⟩:=QK.cons k1
 have k3:=QK.nil' k2
 subst k3
 simp only[VRel] at h1 h2
 obtain ⟨b,capn,hmb,rfl,hcapn,c0,e0,hb0,hsz0⟩:=h1
 obtain ⟨vs,rfl,hvs⟩:=h2
 have hσ:=WO hr
 have hob:=hh.obj l _ hσ
 rw[hmb] at hob
 obtain ⟨c,e,hb,hcs,hrels⟩:=hob
 rw[hb] at hb0
 have hrl:((((List.range n).flatMap A).map AV.cv)++rest).length=n*k+rest.length:=by
  rw[QM,ZK,U5 hk];simp
 rw[hrl] at hcs hrels
 have hblk:b<w.heap.size:=(hh.dom l b hmb).2
 have hxb:¬ X b:=hh.own l b _ hmb hσ trivial
 let V:Nat→List Value:=fun i=>(c.toList.drop (i*k)).take k
 have hik:∀ i,i<n→i*k+k≤n*k:=fun i hi=>by
  rw[← XJ];exact YQ k hi
 have hVl:∀ i,i<n→(V i).length=k:=fun i hi=>by
  have:=hik i hi
  show ((c.toList.drop (i*k)).take k).length=k
  rw[List.length_take,List.length_drop,Array.length_toList];omega
 have hV:∀ i,i<n→QK m X w ((A i).map .cv) (V i):=fun i hi=>by
  have h:=(hrels.drop (i*k)).take k
  have hi':=hik i hi
  rw[List.drop_append_of_le_length (by rw[ZK,U5 hk];simp;omega),List.take_append_of_le_length (by rw[List.length_drop,ZK,U5 hk];simp;omega),← List.map_drop,← List.map_take,QeZ hk hi,List.drop_take,List.take_take] at h
  rw[show min k (n*k+rest.length-i*k)=k by omega] at h
  exact h
 let cl:Nat→Nat:=fun i=>if i<n then i else 0
 have hcl1:∀ i,cl i<n:=fun i=>by show (if i<n then i else 0)<n;split <;> omega
 have hcl2:∀ i,i<n→cl i=i:=fun i hi=>by show (if i<n then i else 0)=i;rw[if_pos hi]
 let enc:Nat→List Value:=fun i=>V (cl i)
 have hek:∀ x,(enc x).length=k:=fun x=>hVl _ (hcl1 x)
 have hone:∀ x,∀ v∈enc x,v.oneCell'=true:=fun x=>QK.one_cells (hV _ (hcl1 x)) (by simp[AV.isSc])
 have hds:(Array.range n).size=n:=by simp
 have hH:HoldsK enc k w b 0 (Array.range n):=by
  intro j hj
  rw[size_flatK,hds] at hj
  have hjc:j<c.size:=by omega
  have h2:(Sort.flatK enc k (Array.range n))[j]! = c[j]:=by
   have k0:0<k:=by
    rcases XF k with h | h
    ·subst h;simp at hj
    ·exact h
   have hq:j / k<n:=Nat.div_lt_of_lt_mul (by rw[Nat.mul_comm];exact hj)
   have hm:=Nat.mod_lt j k0
   have he:j=j / k*k+j % k:=by have:=Nat.div_add_mod j k;rw[Nat.mul_comm] at this;omega
   rw[get_flatK _ _ _ _ (by rw[hds];exact hj)]
   have h3:(Array.range n)[j / k]! = j / k:=by simp[hq]
   rw[h3]
   show (V (cl (j / k)))[j % k]! = c[j]
   rw[hcl2 _ hq,getElem!_pos _ _ (by rw[hVl _ hq];exact hm)]
   show ((c.toList.drop (j / k*k)).take k)[j % k]'_=c[j]
   rw[List.getElem_take,List.getElem_drop,Array.getElem_toList]
   congr 1
   omega
  refine ⟨?_,?_⟩
  ·simp only[World.cell?,ZV,hb,id,h2]
   simp[hjc]
  ·simp[World.frozen?,hb]
 have hown:∀ b,Own nom (Own m X) b↔Own m X b:=fun b=>⟨fun h=>h.elim id (fun ⟨l,hl⟩=>by cases hl),.inl⟩
 have hcmp':CmpLays P g vs.toArray enc k (fun x y=>cf (cl x) (cl y)) b 0 (Array.range n).size w:=by
  intro mm os dk hsz x y
  have hmono:Mono nom (Own m X) w nom (Own m X) (sortWorldK enc k w b 0 mm dk os):=by
   refine ⟨fun l b hl=>hl,fun b' hb' hc=>?_,(QdU enc k w b mm dk os (n0:=0) hmb hxb).shp⟩
   obtain ⟨c1,e1,fr1,hc1⟩:=hc
   have hne:b'≠b:=fun h=>hb' ((hown b').2 (.inr ⟨l,by rw[h];exact hmb⟩))
   exact ⟨IH enc k w b mm dk os hne (Q3.1 hc1).1,hb'⟩
  have a0:QK m X w (.agg ((A (cl x)).map .cv) :: .agg ((A (cl y)).map .cv)::cap) (.agg (enc x).toArray :: .agg (enc y).toArray::vs):=by
   simp only[QK,VRel]
   exact ⟨⟨_,rfl,hV _ (hcl1 x)⟩,⟨_,rfl,hV _ (hcl1 y)⟩,hvs⟩
  have hcv:∀ cs:List CV,QO 0 (cs.map AV.cv)=true:=fun cs=>by
   rw[Z8]
   intro v hv
   obtain ⟨z,_,rfl⟩:=ZP.1 hv
   rfl
  have a1:=QK.less (k:=0) (m':=nom) (X':=Own m X) (fun l hl=>absurd hl (W5 _)) (fun b hb=>(hown b).1 hb) _ _ (by simp only[QO,QR,hcv,hcl,Bool.and_self]) a0
  have a2:=a1.mono hmono
  have hh0:HRel nom (Own m X) [] (sortWorldK enc k w b 0 mm dk os):=⟨fun b' hb'=>by
    have hs:=QdV enc k w b mm dk os
    rcases hb' with h | ⟨l',h⟩
    ·have:=hh.xb b' h;omega
    ·have:=(hh.dom l' b' h).2;omega,fun l b hl=>(by cases hl),fun l b o hl=>(by cases hl),fun l l' b o hl=>(by cases hl),fun l o ho=>(by cases (List.getElem?_nil.symm.trans ho)),(hh.gl.less fun b hb=>(hown b).1 hb).mono hmono⟩
  have hcall:=callsIn_wide.1 ((hcmp (cl x) (cl y) (hcl1 x) (hcl1 y)).2 nom (Own m X) _ _ a2 (@HRel.mk drOn _ _ _ _ hh0.xb hh0.dom hh0.own hh0.inj hh0.obj hh0.gl))
  have hargs:(#[Value.agg (enc x).toArray,.agg (enc y).toArray]++vs.toArray)=(Value.agg (enc x).toArray :: .agg (enc y).toArray::vs).toArray:=by simp
  rw[hargs]
  refine hcall.mono ?_
  rintro e' w' ⟨cv,r,σ',m',rfl,rfl,hv,hh',hst,_⟩
  simp only[VRel,CV.rep] at hv
  subst hv
  exact ⟨rfl,Qe0 (d:=drOn) trivial hst⟩
 have heg:∀ args w,(callFunc g args).run P w=.ok (.enter g args) w:=(hcmp 0 0 hn hn).1
 have hO':=swo_pull cl hO
 refine callsIn_wide.2 ((AnyQ.slices_SortFunc L k aE zE enc hek hone _ hO' g vs.toArray b 0 capn (Array.range n) w heg hcmp' hH hblk (by rw[hds];exact hn2)).mono ?_) |> fun h=>by rw[hds] at h;exact h
 rintro e' w' ⟨rfl,d',nn,os,hperm,hsort,rfl⟩
 rw[hds] at hperm hsort
 obtain ⟨hps,_,hpp⟩:=hperm
 have hp1:d'.toList.Perm (List.range n):=by
  have e1:d'.extract 0 n=d':=by rw[← hds,← hps];simp
  have e2:(Array.range n).extract 0 n=Array.range n:=by simp
  rw[e1,e2] at hpp
  simpa using hpp
 have hlt:∀ i∈d'.toList,i<n:=fun i hi=>by simpa using (hp1.mem_iff (a:=i)).1 hi
 have hdl:d'.toList.length=n:=by have:=hp1.length_eq;simpa using this
 have hst:=QdU enc k w b nn d' os (n0:=σ.length) hmb hxb
 refine ⟨.tuple #[],.tup [],σ.set l (.cells ((d'.toList.flatMap A).map .cv++rest)),m,rfl,⟨rfl,d'.toList,hp1,?_,rfl⟩,?_,?_,hst,by simp⟩
 ·rw[List.pairwise_iff_getElem]
  intro i j hi hj hij
  have:=hsort i j (QF _) hij (by omega)
  unfold ltOf at this
  have:=of_decide_eq_false this
  rw[getElem!_pos d' j (by simpa using hj),getElem!_pos d' i (by simpa using hi)] at this
  have g1:d'.toList[i]=d'[i]'(by simpa using hi):=by simp
  have g2:d'.toList[j]=d'[j]'(by simpa using hj):=by simp
  rw[g1,g2]
  have f1:=hcl2 (d'[i]'(by simpa using hi)) (hlt _ (by rw[← g1];exact Q2 hi))
  have f2:=hcl2 (d'[j]'(by simpa using hj)) (hlt _ (by rw[← g2];exact Q2 hj))
  have this:¬ cf (cl (d'[j]'(by simpa using hj))) (cl (d'[i]'(by simpa using hi)))<0:=this
  rw[f1,f2] at this
  exact this
 ·simp only[VRel];exact ⟨[],rfl,by simp[QK]⟩
 ·refine hh.turnG hmb hσ trivial hst (fun x hx hlt=>IH enc k w b nn d' os hx hlt) fun hm=>?_
  have hF:(Sort.flatK enc k d').size=n*k:=by rw[size_flatK,hps,hds]
  refine ⟨_,e,so_at enc k w b nn d' os hb,?_,?_⟩
  ·rw[QM,ZK,U5 hk,hdl]
   simp[putCells];omega
  ·have hlen2:((d'.toList.flatMap A).map AV.cv++rest).length=n*k+rest.length:=by rw[QM,ZK,U5 hk,hdl]
   rw[hlen2,SJ _ _ (by rw[hF];omega),Qcy enc k hek,hF]
   have e1:d'.toList.flatMap enc=d'.toList.flatMap V:=by
    have:∀ p:List Nat,(∀ i∈p,i<n)→p.flatMap enc=p.flatMap V:=by
     intro p hp
     induction p with
     | nil=>rfl
     | cons i p ih =>
      rw[YH,YH,ih fun j hj=>hp j (by simp[hj])]
      show V (cl i)++_=_
      rw[hcl2 i (hp i (by simp))]
    exact this _ hlt
   have e2:(d'.toList.flatMap V).length=n*k:=by rw[← e1,ND hek,hdl]
   rw[e1,List.take_append,e2,Q5 (by omega),show n*k+rest.length-n*k=rest.length by omega]
   refine QK.append (QK.flat fun i hi=>(hV i (hlt i hi)).mono hm) ?_
   have h:=hrels.drop (n*k)
   rw[List.drop_left' (by rw[ZK,U5 hk];simp),List.drop_take,show n*k+rest.length-n*k=rest.length by omega] at h
   exact h.mono hm
end Go.Proofs.YtpmokaefmcffaaaGreat.AM
namespace Go.Proofs.YtpmokaefmcffaaaGreat.AM
variable [Dr]
open Go Pl Go.Sort Go.Shelf
abbrev Rt:=Int × Int
def rgC (r:Rt):List CV:=[.int .i64 r.1,.int .i64 r.2]
abbrev rgV (r:Rt):AV:=.agg [.i r.1,.i r.2]
abbrev rgL (l:List Rt):AV:=.cv (.rsl (l.flatMap rgC) l.length)
theorem IR (r:Rt):(rgC r).length=2:=rfl
theorem MN (l:List Rt):∀ c∈l.flatMap rgC,scl c:=by
 intro c hc
 rw[YM] at hc
 obtain ⟨m,_,hm⟩:=hc
 simp only[rgC,ZD,WK,or_false] at hm
 rcases hm with rfl | rfl <;> trivial
theorem c117 (x:Int):PC Tryz.prog 88 [.i x] (.b false):=by
 refine ⟨ZF (fok88 true) (QC rfl) ?_,rfl⟩
 simp only[ic88,evA,simprocAttr]
 exact frz
theorem c98 (x y:Int):PC Tryz.prog 41 [.i x,.i y] (.i (cmpN x y)):=by
 refine ⟨ZF (fok41 true) (QC rfl) ?_,rfl⟩
 simp only[ic41,evA,simprocAttr]
 refine (c117 x).call frz ?_
 simp only[evA,simprocAttr]
 refine (c117 y).call frz ?_
 unfold cmpN
 by_cases h1:x<y
 ·simp only[h1,evA,simprocAttr]
  exact frz
 ·by_cases h2:x>y
  ·simp only[h1,h2,evA,simprocAttr]
   exact frz
  ·simp only[h1,h2,evA,simprocAttr]
   exact frz
theorem c97 (x y:Int):PC Tryz.prog 40 [ints [x,y]] (.i (if x≠0 then x else y)):=by
 refine ⟨ZF (fok40 true) (QC rfl) ?_,rfl⟩
 simp only[ic40,evA,simprocAttr]
 refine J1 ?_
 have h0:decide ((0:Int)<(([x,y]:List Int).length:Int))=true:=rfl
 have h1:decide ((1:Int)<(([x,y]:List Int).length:Int))=true:=rfl
 have h2:decide ((2:Int)<(([x,y]:List Int).length:Int))=false:=rfl
 have w1:IntKind.i64.wrap (0+1)=1:=by decide
 have w2:IntKind.i64.wrap (1+1)=2:=by decide
 have a0:∀ σ,VP 1 [ints [x,y],.i 0] σ=some (.cv (.rp (([x,y]:List Int).map (.int .i64)) 0),σ):=fun σ=>rfl
 have a1:∀ σ,VP 1 [ints [x,y],.i 1] σ=some (.cv (.rp (([x,y]:List Int).map (.int .i64)) 1),σ):=fun σ=>rfl
 cases hx:(x != 0) with
 | true =>
  rw[if_pos (by simpa using hx)]
  simp only[ic40l0,h0,a0,hx,evA,simprocAttr]
  exact frz
 | false =>
  rw[if_neg (by simpa using hx)]
  simp only[ic40l0,h0,a0,hx,w1,evA,simprocAttr]
  refine J1 ?_
  cases hy:(y != 0) with
  | true =>
   simp only[ic40l0,h1,a1,hy,evA,simprocAttr]
   exact frz
  | false =>
   have hy0:y=0:=by simpa using hy
   simp only[ic40l0,h1,a1,hy,w2,evA,simprocAttr]
   refine J1 ?_
   simp only[ic40l0,h2,evA,simprocAttr]
   rw[hy0]
   exact frz
theorem c96 (a b:Rt):PC Tryz.prog 169 [rgV a,rgV b] (.i (cmpR a b)):=by
 refine ⟨ZF (fok169 true) (QC rfl) ?_,rfl⟩
 simp only[ic169,WI,cellsOf,evA,simprocAttr]
 refine DW_s [4,9,11] [] hmix (by kernel_rfl) rfl ?_
 simp only[evA,simprocAttr]
 refine YE ((c98 a.1 b.1).call frz ⟨rfl,rfl⟩) rfl ?_
 simp only[evA,simprocAttr]
 refine YE ((c98 a.2 b.2).call frz ⟨rfl,rfl⟩) rfl ?_
 simp only[evA,simprocAttr]
 refine YE ((c97 (cmpN a.1 b.1) (cmpN a.2 b.2)).call (.cons (U4 (zs:=[cmpN a.1 b.1,cmpN a.2 b.2]) (fun _=>trivial) rfl rfl) .nil) ⟨rfl,rfl⟩) rfl ?_
 simp only[evA,simprocAttr]
 exact frz
theorem c96n (a b:Rt):AC Tryz.prog 169 [rgV a,rgV b] [] fun r _=>r=.i (cmpR a b):=(c96 a b).ac.mono fun r τ h=>by
 cases h with
 | c h=>cases h;rfl
theorem en95:PI Tryz.prog 168:=RE Tryz.func168 (by kernel_rfl) (c:=Tryz.f168.body.getD .skip) (by kernel_rfl)
theorem Qcx (l:List Rt):(List.range l.length).flatMap (fun i=>rgC (l[i]?.getD (0,0)))=l.flatMap rgC:=by
 induction l with
 | nil=>rfl
 | cons x l ih =>
  rw[List.length_cons,UR,YH,List.flatMap_map]
  simp only[List.getElem?_cons_zero,Option.getD_some,List.getElem?_cons_succ,YH]
  rw[ih]
theorem L3 (l:List Rt):(List.range l.length).map (fun i=>l[i]?.getD (0,0))=l:=by
 apply Z1
 intro i
 by_cases h:i<l.length
 ·simp[h]
 ·simp[h]
theorem c95 {l:List Rt} (hl:0<l.length) (hl2:l.length<2 ^ 60) {σ:List AObj} {p:Nat} (hr:rowOf σ p=some ((l.flatMap rgC).map .cv)) :
  AC Tryz.prog 168 [.sl p 0 l.length 2,.fn (.func 169) []] σ fun r τ=>r=.tup []∧τ=σ.set p (.cells (((V2 l).flatMap rgC).map .cv)):=by
 have h:=AC_sortK (P:=Tryz.prog) (ρ:=S0) sortL 2 (fun w=>Tryz.isAgg179 w) (fun w=>Tryz.sizeOf179 w) en95 (g:=169) (cap:=[]) (n:=l.length) hl (by omega) (A:=fun i=>rgC (l[i]?.getD (0,0))) (fun i=>rfl)
  (cf:=fun i j=>cmpR (l[i]?.getD (0,0)) (l[j]?.getD (0,0))) (swoR fun i=>l[i]?.getD (0,0)) rfl (fun i j _ _=>@c96n drOn (l[i]?.getD (0,0)) (l[j]?.getD (0,0))) (σ:=σ) (l:=p) (rest:=[]) (by rw[ZU,Qcx];exact hr)
 refine h.mono ?_
 rintro r τ ⟨rfl,q,hq,hs,rfl⟩
 refine ⟨rfl,?_⟩
 have hm:q.map (fun i=>l[i]?.getD (0,0))=V2 l:=by
  refine EF ?_ ?_
  ·have:=hq.map fun i=>l[i]?.getD (0,0)
   rwa [L3] at this
  ·rw[List.pairwise_map]
   exact hs.imp fun {i j} h=>cmpR_not.1 h
 rw[← hm,List.flatMap_map,ZU]
end Go.Proofs.YtpmokaefmcffaaaGreat.AM
namespace Go.Proofs.YtpmokaefmcffaaaGreat.AM
variable [Dr]
open Go Pl
set_option maxRecDepth 100000 in
theorem c139z:PC Tryz.prog 114 [.cv (.int .u64 0)] (.i 0):=by
 refine ⟨ZF (fok114 true) (QC rfl) ?_,rfl⟩
 simp only[ic114,evA,simprocAttr]
 exact frz
theorem c116z:PC Tryz.prog 87 [.cv (.int .u64 0)] (.i 0):=by
 refine ⟨ZF (fok87 true) (QC rfl) ?_,rfl⟩
 simp only[ic87,evA,simprocAttr]
 refine c139z.call frz ?_
 simp only[evA,simprocAttr]
 exact frz
theorem c130z:PC Tryz.prog 176 [.cv .nils,.i 0,.i 0,.fn (.func 169) []] (.tup []):=by
 refine ⟨ZF (fok176 true) (QC rfl) ?_,rfl⟩
 simp only[ic176,evA,simprocAttr]
 refine J1 ?_
 simp only[ic176l1,kUn_x,evA,simprocAttr]
 exact .tup .nil
theorem c115z:PC Tryz.prog 174 [.cv .nils,.i 0,.i 0,.i 0,.fn (.func 169) []] (.tup []):=by
 refine ⟨ZF (fok174 true) (QC rfl) ?_,rfl⟩
 simp only[ic174,evA,simprocAttr]
 refine J1 ?_
 simp only[ic174l0,kUn_r,evA,simprocAttr]
 refine c130z.call frz ?_
 simp only[kUn_r,evA,simprocAttr]
 exact .tup .nil
theorem p95n:PC Tryz.prog 168 [.cv .nils,.fn (.func 169) []] (.tup []):=by
 refine ⟨ZF (fok168 true) (QC rfl) ?_,rfl⟩
 simp only[ic168,evA,simprocAttr]
 refine c116z.call frz ?_
 simp only[evA,simprocAttr]
 refine c115z.call frz ?_
 simp only[evA,simprocAttr]
 exact .tup .nil
theorem c95n (σ:List AObj):AC Tryz.prog 168 [.cv .nils,.fn (.func 169) []] σ fun r τ=>r=.tup []∧τ=σ:=p95n.call (.cons (GE (k:=0) _ rfl) (.cons (GE (k:=0) _ rfl) .nil)) ⟨rfl,rfl⟩
end Go.Proofs.YtpmokaefmcffaaaGreat.AM

/- Parts of the proof of Days. -/
import Derived.Test.YtgkidpolomhghaaGreatDoorProg
import Derived.Test.YtgkidpolomhghaaGreatDoorRows
import Derived.WalkKit
import Derived.ProofKit
import Derived.OpenShut
import Derived.Carry
import Derived.Test.YtgkidpolomhghaaGreatDoorZ27
set_option linter.unusedVariables false
set_option linter.unusedSimpArgs false
set_option linter.unusedSectionVars false
namespace Go.Proofs.YtgkidpolomhghaaGreatDoor.AM
variable [Dr]
open Go
abbrev vs24:List Nat:=[0,1,2,3,4,5,6,7,8,19,24,31,38,49]
def ic24l0:IC:=(.seq (.seq (.region [jv 7,jF 1 1,jl 1,je 2,jw 12 (.bin .lss .int) [.t 0,.t 3]])
 (.cond 12 .skip
 (.exit 2)))
 (.seq (.block 3 (.seq (.dr [[],[],[1],[],[2,3],[4],[0,5],[6,6,0,1,2,3,4,5,6]] [jN 2 1,jF 1 1,jl 1,jv 7,ja 7 2 3,jq (.loadN 7) [.t 4],jk 71 [.t 0,.t 5],jm 8 6])
 (.seq (.region [jv 8,jw 13 (.bin .neq .int) [.t 0,jn 0]])
 (.cond 13 (.seq (.region [jv 7,jv 8,jz 2 3,jm 3 0,jm 4 1])
 .ret)
 .skip))))
 (.region [jv 7,jq (.bin .add .int) [.t 0,jn 1],jm 7 1])))
def ic24l1:IC:=(.seq (.seq (.region [jv 5,jF 0 1,jl 1,je 2,jw 10 (.bin .lss .int) [.t 0,.t 3]])
 (.cond 10 .skip
 (.exit 0)))
 (.seq (.block 1 (.seq (.region [jN 2 1,jv 5,jk 70 [.t 0,.t 1],jm 6 2])
 (.seq (.region [jv 6,jw 11 (.bin .neq .int) [.t 0,jn 0]])
 (.cond 11 (.seq (.region [jv 5,jv 6,jz 2 2,jm 3 0,jm 4 1])
 .ret)
 .skip))))
 (.region [jv 5,jq (.bin .add .int) [.t 0,jn 1],jm 5 1])))
def ic24:IC:=(.seq (.region [jb 1 0,jz 2 0,jz 3 0,jz 4 0])
 (.seq (.seq (.region [jF 0 1,jl 0,je 1,jk 64 [.t 2,jn 1,jn 16],jq .not [.t 3],jt 4,jg 5 false (.fadd 1) [.v 1],ji 5 false 6,jg 5 false (.len false) [.t 7],jg 5 false (.bin .gtr .int) [.t 8,jn 12],jw 9 .pick [.t 5,jB true,.t 9]])
 (.cond 9 (.seq (.region [jz 2 1,jz 3 0,jz 4 3])
 .ret)
 .skip))
 (.seq (.seq (.region [jz 5 0])
 (.block 0 (.loop ic24l1)))
 (.seq (.seq (.region [jz 7 0])
 (.block 2 (.loop ic24l0)))
 (.seq (.region [jz 2 0,jz 3 0,jz 4 0])
 .ret)))))
abbrev rs24:List RC:=[(.v 2),(.v 3),(.v 4)]
theorem fok24 (p:Bool):FnOk Tryz.prog 24 ⟨ic24,vs24,52,rs24,p⟩:=.mk2 Tryz.func24 (by kernel_rfl) (by kernel_rfl) (by kernel_rfl) (by kernel_rfl) (by kernel_rfl)
abbrev vs48:List Nat:=[0,1,2,5]
def ic48:IC:=(.seq (.region [jb 1 0,jw 2 .mv [jB false]])
 (.seq (.region [jN 2 1,jk 24 [.t 0],jt 1,jx 0 2,jx 1 2,jx 2 2,jt 3,jt 4,jm 3 5])
 (.seq (.region [jv 3,jq (.bin .eql .int) [.t 0,jn 0],jm 2 1])
 .ret)))
abbrev rs48:List RC:=[(.v 2)]
theorem fok48 (p:Bool):FnOk Tryz.prog 48 ⟨ic48,vs48,14,rs48,p⟩:=.mk2 Tryz.func48 (by kernel_rfl) (by kernel_rfl) (by kernel_rfl) (by kernel_rfl) (by kernel_rfl)
abbrev vs64:List Nat:=[0,1,2,6]
def ic64:IC:=(.seq (.region [jw 3 .mv [jB false]])
 (.seq (.region [jv 0,jv 1,jq (.bin .geq .int) [.t 0,.t 1],jt 2,jh 3 true 0,jh 3 true 2,jg 3 true (.bin .leq .int) [.t 4,.t 5],jq .pick [.t 3,.t 6,jB false],jm 3 7])
 .ret))
abbrev rs64:List RC:=[(.v 3)]
theorem fok64 (p:Bool):FnOk Tryz.prog 64 ⟨ic64,vs64,15,rs64,p⟩:=.mk2 Tryz.func64 (by kernel_rfl) (by kernel_rfl) (by kernel_rfl) (by kernel_rfl) (by kernel_rfl)
abbrev vs70:List Nat:=[0,1,2,4,5,6,17,21,29,34]
def ic70l0:IC:=(.seq (.seq (.region [jv 5,jv 4,je 1,jw 7 (.bin .lss .int) [.t 0,.t 2]])
 (.cond 7 .skip
 (.exit 0)))
 (.seq (.block 1 (.seq (.region [jv 4,jv 5,ja 1 0 1,jl 2,jk 64 [.t 3,jn 0,jn 120],jw 8 .not [.t 4]])
 (.cond 8 (.seq (.region [jz 3 7])
 .ret)
 .skip)))
 (.region [jv 5,jq (.bin .add .int) [.t 0,jn 1],jm 5 1])))
def ic70:IC:=(.seq (.region [jb 2 0,jz 3 0])
 (.seq (.region [jF 0 2,jl 0,jv 1,ja 1 1 2,jl 3,jm 4 4])
 (.seq (.seq (.region [jv 4,je 0,jF 0 2,jl 2,je 3,jw 6 (.bin .neq .int) [.t 1,.t 4]])
 (.cond 6 (.seq (.region [jz 3 3])
 .ret)
 .skip))
 (.seq (.seq (.region [jz 5 0])
 (.block 0 (.loop ic70l0)))
 (.seq (.seq (.region [jv 4,jv 1,ja 1 0 1,jl 2,jw 9 (.bin .neq .int) [.t 3,jn 0]])
 (.cond 9 (.seq (.region [jz 3 2])
 .ret)
 .skip))
 (.seq (.region [jz 3 0])
 .ret))))))
abbrev rs70:List RC:=[(.v 3)]
theorem fok70 (p:Bool):FnOk Tryz.prog 70 ⟨ic70,vs70,35,rs70,p⟩:=.mk2 Tryz.func70 (by kernel_rfl) (by kernel_rfl) (by kernel_rfl) (by kernel_rfl) (by kernel_rfl)
abbrev vs71:List Nat:=[0,1,2,3,4,5,6,23,25,33,38,56]
def ic71l0:IC:=(.seq (.seq (.region [jv 6,jw 8 (.bin .lss .int) [.t 0,jn 3]])
 (.cond 8 .skip
 (.exit 0)))
 (.seq (.block 1 (.seq (.region [jv 5,jv 6,ja 1 0 1,jl 2,jk 64 [.t 3,jn 0,jn 7],jw 9 .not [.t 4]])
 (.cond 9 (.seq (.region [jz 4 7])
 .ret)
 .skip)))
 (.region [jv 6,jq (.bin .add .int) [.t 0,jn 1],jm 6 1])))
def ic71:IC:=(.seq (.region [jb 2 0,jb 3 1,jz 4 0])
 (.seq (.region [jF 0 3,jl 0,jF 1 3,jl 2,jF 2 3,jl 4,jq (.bslice 1 3 [(.cv (.int .i64 0)),(.cv (.int .i64 0)),(.cv (.int .i64 0))] [(0,1),(1,1),(2,1)]) [.t 1,.t 3,.t 5],jm 5 6])
 (.seq (.seq (.region [jF 3 3,jl 0,jk 64 [.t 1,jn 0,jn 1440],jq .not [.t 2],jt 3,jg 4 false (.fadd 4) [.v 3],ji 4 false 5,jf 4 false 64 [.t 6,jn 0,jn 1440],jg 4 false .not [.t 7],jw 7 .pick [.t 4,jB true,.t 8]])
 (.cond 7 (.seq (.region [jz 4 7])
 .ret)
 .skip))
 (.seq (.seq (.region [jz 6 0])
 (.block 0 (.loop ic71l0)))
 (.seq (.seq (.region [jF 3 3,jl 0,jF 4 3,jl 2,jw 10 (.bin .geq .int) [.t 1,.t 3]])
 (.cond 10 (.seq (.region [jz 4 2])
 .ret)
 .skip))
 (.seq (.seq (.region [jF 5 3,jl 0,jF 0 2,jl 2,je 3,jq (.bin .sub .int) [.t 4,jn 1],jk 64 [.t 1,jn 0,.t 5],jq .not [.t 6],jt 7,jg 8 false (.fadd 6) [.v 3],ji 8 false 9,jg 8 false (.fadd 0) [.v 2],ji 8 false 11,jg 8 false (.len false) [.t 12],jg 8 false (.bin .sub .int) [.t 13,jn 1],jf 8 false 64 [.t 10,jn 0,.t 14],jg 8 false .not [.t 15],jw 11 .pick [.t 8,jB true,.t 16]])
 (.cond 11 (.seq (.region [jz 4 4])
 .ret)
 .skip))
 (.seq (.region [jz 4 0])
 .ret)))))))
abbrev rs71:List RC:=[(.v 4)]
theorem fok71 (p:Bool):FnOk Tryz.prog 71 ⟨ic71,vs71,57,rs71,p⟩:=.mk2 Tryz.func71 (by kernel_rfl) (by kernel_rfl) (by kernel_rfl) (by kernel_rfl) (by kernel_rfl)
theorem kFor_turn {fx:Fx} {c:Prop} {S:St→Prop} {Q:Exit→St→Prop} {vals vals2:List AV} {heap:List AObj} (τ τ2 J:List AObj) (hh:heap=τ++J) (hc:c) (h0:fx.n0=0) (hlen:τ2.length=τ.length)
  (hv:D2 τ.length (List.replicate τ.length .dead++J) vals vals2)
  (ho:∀ (l:Nat) (o2:AObj),τ2[l]? = some o2→∃ o,τ[l]? = some o∧o.live∧((o2=o∧Z3 τ.length o=true)∨∃ as_ bs,o=.cells as_∧o2=.cells bs∧D2 τ.length (List.replicate τ.length .dead++J) as_ bs))
  (h:S ⟨vals2,τ2⟩):kFor fx c S Q .normal ⟨vals,heap⟩:=by
 subst hh
 exact AS hc (Weak.turn h0 hlen hv ho) h
theorem PH.get {g:Nat→Nat} {k:Nat} {σ:List AObj} {as_ bs:List AV} (h:PH g k σ as_ bs):∀ i,Move1 g k σ (as_.getD i .undef) (bs.getD i .undef):=by
 induction h with
 | nil=>intro i;exact .inl ⟨by simp[List.getD,ren],by simp[List.getD,QR]⟩
 | cons h _ ih =>
  intro i
  cases i with
  | zero=>simpa[List.getD] using h
  | succ i=>simpa[List.getD] using ih i
theorem HRel.forgetF {m:LM} {X:Nat→Prop} {σ σf:List AObj} {w:World} (h:HRel m X σ w) (hl:σf.length=σ.length) (hf:∀ (l:Nat) o,σf[l]? = some o→o=.dead∨σ[l]? = some o):HRel m X σf w:=by
 have hlv:∀ (l:Nat) o,σf[l]? = some o→o.live→σ[l]? = some o:=fun l o ho hv=>by
  rcases hf l o ho with rfl | h
  ·exact hv.elim
  ·exact h
 refine ⟨h.xb,fun l b hb=>by rw[hl];exact h.dom l b hb,fun l b o hb ho hv=>h.own l b o hb (hlv l o ho hv) hv,fun l l' b o' hb hb' ho' hv=>h.inj l l' b o' hb hb' (hlv l' o' ho' hv) hv,fun l o ho=>?_,h.gl⟩
 rcases hf l o ho with rfl | h2
 ·cases m l <;> simp[ORel]
 ·exact h.obj l o h2
theorem Weak.move {fx:Fx} {vals vals2:List AV} {σ σ2 σf:List AObj} {g:Nat→Nat} (h0:fx.n0=0) (hg:∀ a b,a<b→b<σ2.length→g a<g b) (hfl:σf.length=σ.length)
  (hf:∀ (l:Nat) o,σf[l]? = some o→o=.dead∨(σ[l]? = some o∧∀ l2,l2<σ2.length→g l2≠l)) (hv:PH g σ2.length σf vals vals2)
  (ho:∀ (l:Nat) (o2:AObj),σ2[l]? = some o2→∃ o,σ[g l]? = some o∧o.live∧((o=renO g o2∧Z3 σ2.length o2=true)∨∃ as_ bs,o=.cells as_∧o2=.cells bs∧PH g σ2.length σf as_ bs)) :
  Weak fx ⟨vals,σ⟩ ⟨vals2,σ2⟩:=by
 intro m X en ac w hs
 have hh:=hs.heap
 let m2:LM:=fun l=>if l<σ2.length then m (g l) else none
 have hm2:∀ l,l<σ2.length→m2 l=m (g l):=fun l hl=>by simp only[m2];rw[if_pos hl]
 have hm2s:∀ l b,m2 l=some b→l<σ2.length∧m (g l)=some b:=fun l b hl=>by
  simp only[m2] at hl
  split at hl
  ·rename_i h;exact ⟨h,hl⟩
  ·cases hl
 have how:∀ b,Own m2 X b→Own m X b:=by
  rintro b (hx | ⟨l,hl⟩)
  ·exact .inl hx
  ·exact .inr ⟨g l,(hm2s l b hl).2⟩
 have hlv:∀ l,l<σ2.length→∃ o,σ[g l]? = some o∧o.live:=fun l hl=>by
  obtain ⟨o,h1,h2,_⟩:=ho l _ (QI hl)
  exact ⟨o,h1,h2⟩
 have hnot:∀ (l b:Nat) (o:AObj),m l=some b→σf[l]? = some o→o.live→¬ Own m2 X b:=by
  intro l b o hb hlo hlive hown
  rcases hf l o hlo with rfl | ⟨h1,h2⟩
  ·exact hlive.elim
  ·rcases hown with hx | ⟨l2,h3⟩
   ·exact hh.own l b o hb h1 hlive hx
   ·obtain ⟨h4,h5⟩:=hm2s l2 b h3
    obtain ⟨o2,h6,h7⟩:=hlv l2 h4
    have a1:=hh.inj l (g l2) b _ hb h5 h6 h7
    have a2:=hh.inj (g l2) l b _ h5 hb h1 hlive
    exact h2 l2 h4 (by omega)
 have hhf:=hh.forgetF hfl fun l o h=>(hf l o h).imp id fun h=>h.1
 have one:∀ {a b:AV},Move1 g σ2.length σf a b→∀ v,VRel m X w a v→VRel m2 X w b v:=by
  rintro a b (⟨rfl,h⟩ | h) v hv
  ·exact VRel.ren hm2 how b v h hv
  ·exact RX hhf (fun c v _ h=>CV.rep_less how c v h) hnot h v hv
 have many:∀ {as_ bs:List AV},PH g σ2.length σf as_ bs→∀ vs,QK m X w as_ vs→QK m2 X w bs vs:=by
  intro as_ bs h
  induction h with
  | nil=>intro vs hv;rw[QK.nil' hv];simp[QK]
  | cons h1 _ ih =>
   intro vs hv
   obtain ⟨v,us,rfl,g1,g2⟩:=hv.cons
   exact ⟨one h1 v g1,ih us g2⟩
 refine ⟨m2,⟨hs.size,?_,?_,⟨hh.xb,?_,?_,?_,?_,hh.gl.less how⟩,by rw[h0];exact QF _,hs.entry⟩,?_⟩
 ·intro i t hi
  exact one (hv.get i) _ (hs.vars i t hi)
 ·obtain ⟨bs,h1,h2,h3⟩:=hs.defs
  exact ⟨bs,h1,h2,fun b hb=>let ⟨g1,g2,g3,g4⟩:=h3 b hb;⟨g1,g2,g3,fun hx=>g4 (how b hx)⟩⟩
 ·intro l b hl
  obtain ⟨h1,h2⟩:=hm2s l b hl
  exact ⟨h1,(hh.dom (g l) b h2).2⟩
 ·intro l b o hl hlo hv
  obtain ⟨h1,h2⟩:=hm2s l b hl
  obtain ⟨o',h3,h4⟩:=hlv l h1
  exact hh.own (g l) b o' h2 h3 h4
 ·intro l l' b o' hl hl' hlo hv
  obtain ⟨h1,h2⟩:=hm2s l b hl
  obtain ⟨h1',h2'⟩:=hm2s l' b hl'
  obtain ⟨o2,h3,h4⟩:=hlv l' h1'
  have:=hh.inj (g l) (g l') b o2 h2 h2' h3 h4
  rcases ZB l' l with hlt | hge
  ·have:=hg l' l hlt h1;omega
  ·exact hge
 ·intro l o2 hlo
  obtain ⟨o,h1,h2,h3⟩:=ho l o2 hlo
  have hlt:l<σ2.length:=(QH.1 hlo).1
  have hob:=hh.obj (g l) o h1
  rw[hm2 l hlt]
  rcases h3 with ⟨rfl,hc⟩ | ⟨as_,bs,rfl,rfl,ht⟩
  ·exact ORel.ren hm2 how hc hob
  ·cases hm:m (g l) with
   | none=>rw[hm] at hob;exact hob.elim
   | some b =>
    rw[hm] at hob
    obtain ⟨c,e,g1,g2,g3⟩:=hob
    refine ⟨c,e,g1,by rw[← ht.len];exact g2,?_⟩
    rw[← ht.len]
    exact many ht _ g3
 ·rw[h0]
  exact ⟨fun l hl=>absurd hl (W5 _),fun l b hl=>.inl ⟨g l,(hm2s l b hl).2⟩,QG _,fun _ _ _=>rfl,fun b c e hb=>⟨c,hb,rfl⟩,rfl,rfl,rfl,fun _=>QG _⟩
end Go.Proofs.YtgkidpolomhghaaGreatDoor.AM
namespace Go.Proofs.YtgkidpolomhghaaGreatDoor.AM
variable [Dr]
open Go
variable {P:Program} {fx:Fx} {s:St} {Q:Exit→St→Prop} {f:FuncId}
theorem WB.later {m:LM} {X:Nat→Prop} {en:En} {w:World} {c:Code} {s':St} {m':LM} {w':World} {ac':Act} (h:WB f P fx c s' Q) (hr:rok fx m) (hs':SRel fx m' X en s' ac' w') (hst:Step fx.n0 m X w m' w') :
  InF f (fen m fx.r) 0 P c (Lift fx m X en w Q) ac' w':=by
 rw[← EQ hr hst]
 exact InF.mono (h m' X en ac' w' hs' (EH hr hst)) fun e ac2 w2 ⟨s2,m2,h1,h2,h3⟩=>⟨s2,m2,h1,h2,hst.trans h3⟩
end Go.Proofs.YtgkidpolomhghaaGreatDoor.AM
namespace Go.Proofs.YtgkidpolomhghaaGreatDoor.Pl
section
variable (can:Nat→Nat→Bool) (n:Nat)
variable {can n}
end
section
variable (nx:List Int)
variable {nx} {can:Nat→Nat→Bool} {rk:Nat→Int} {n:Nat}
theorem LG (h:nx.length=n) {i:Nat}:V3 nx i=false↔∃ p,p<n∧gI nx p=(i:Int):=by
 unfold V3
 rw[Bool.not_eq_false',XS]
 constructor
 ·intro hm
  obtain ⟨p,hp,e⟩:=List.getElem_of_mem hm
  exact ⟨p,by omega,by simp[gI,hp,e]⟩
 ·rintro ⟨p,hp,e⟩
  have:nx[p]'(by omega)=(i:Int):=by simpa[gI,show p<nx.length by omega] using e
  rw[← this];exact Q2 _
theorem heads_len (h:NxW can rk n nx):(DD nx n).length+cnt n (fun j=>decide (0≤gI nx j))=n:=by
 have e1:(DD nx n).length=cnt n (V3 nx):=by
  unfold DD
  have key:∀ m,((List.range m).filter (V3 nx)).length=cnt m (V3 nx):=by
   intro m
   induction m with
   | zero=>rfl
   | succ m ih =>
    rw[WM,List.filter_append,QM,ih,cnt]
    by_cases hm:V3 nx m=true
    ·simp[hm]
    ·simp[hm]
  exact key n
 have e2:cnt n (fun j=>decide (0≤gI nx j))=cnt n (fun i=>!V3 nx i):=by
  refine Nat.le_antisymm (G6 (fun j=>(gI nx j).toNat) (fun j hj hp=>?_) fun j j' hj hj' hp hp' e=>?_) ?_
  ·simp only[decide_eq_true_eq] at hp
   rcases h.ok j hj with h1 | ⟨k,h1,h2,_⟩
   ·omega
   ·refine ⟨by omega,?_⟩
    rw[(LG h.len).2 ⟨j,hj,by omega⟩];rfl
  ·simp only[decide_eq_true_eq] at hp hp'
   exact h.inj j j' hj hj' (by omega) hp
  ·have hex:∀ i:Nat,∃ p:Nat,V3 nx i=false→p<n∧gI nx p=(i:Int):=fun i=>by
    cases hh:V3 nx i with
    | false=>obtain ⟨p,hp⟩:=(LG h.len).1 hh;exact ⟨p,fun _=>hp⟩
    | true=>exact ⟨0,fun e=>by cases e⟩
   obtain ⟨g,hg⟩:=Classical.axiomOfChoice hex
   refine G6 g (fun i hi hp=>?_) fun i i' hi hi' hp hp' e=>?_
   ·obtain ⟨a,b⟩:=hg i (by simpa using hp)
    exact ⟨a,by simp[b]⟩
   ·obtain ⟨a,b⟩:=hg i (by simpa using hp)
    obtain ⟨a',b'⟩:=hg i' (by simpa using hp')
    rw[e] at b;omega
 have e3:=ES (n:=n) (fun _=>true) (V3 nx)
 have e4:cnt n (fun _=>true)=n:=by
  have key:∀ m,cnt m (fun _=>true)=m:=by
   intro m
   induction m with
   | zero=>rfl
   | succ m ih=>simp[cnt,ih]
  exact key n
 simp only[XI] at e3
 have e5:cnt n (fun k=>V3 nx k)=cnt n (V3 nx):=rfl
 omega
theorem ch_mem (h:NxW can rk n nx):∀ (f k:Nat),k<n→∀ x∈chF nx f k,x<n
 | 0,_,_,x,hx=>by cases hx
 | f+1,k,hk,x,hx=>by
  simp only[chF] at hx
  rcases h.ok k hk with h3 | ⟨j,h3,h4,h5⟩
  ·rw[if_pos (by omega)] at hx
   simp at hx;omega
  ·have e:(gI nx k).toNat=j:=by omega
   rw[if_neg (by omega),e] at hx
   rcases ZD.1 hx with rfl | hx
   ·exact hk
   ·exact ch_mem h f j h4 x hx
theorem ch_can (h:NxW can rk n nx):∀ (f k:Nat),k<n→∀ j,j+1<(chF nx f k).length→can ((chF nx f k)[j]?.getD 0) ((chF nx f k)[j+1]?.getD 0)=true
 | 0,_,_,j,hj=>by simp[chF] at hj
 | f+1,k,hk,j,hj=>by
  simp only[chF] at hj ⊢
  rcases h.ok k hk with h3 | ⟨x,h3,h4,h5⟩
  ·rw[if_pos (by omega)] at hj
   simp at hj
  ·have e:(gI nx k).toNat=x:=by omega
   rw[if_neg (by omega),e] at hj ⊢
   cases j with
   | zero =>
    cases f with
    | zero=>simp[chF] at hj
    | succ f=>simp[chF];exact h5
   | succ j =>
    have:=ch_can h f x h4 j (by simpa using hj)
    simpa using this
theorem QeC (h:NxW can rk n nx) {k:Nat} (hk:V3 nx k=true):∀ (f i:Nat),i<n→(chF nx (f+1) i).count k=if i=k then 1 else 0
 | f,i,hi=>by
  have hne:∀ p,p<n→gI nx p≠(k:Int):=fun p hp e=>by
   have:=(LG h.len).2 ⟨p,hp,e⟩
   rw[hk] at this;cases this
  simp only[chF,List.count_cons]
  rcases h.ok i hi with h3 | ⟨x,h3,h4,h5⟩
  ·rw[if_pos (by omega)]
   simp
  ·have e:(gI nx i).toNat=x:=by omega
   rw[if_neg (by omega),e]
   have hxk:x≠k:=fun e=>hne i hi (by omega)
   have:(chF nx f x).count k=0:=by
    cases f with
    | zero=>simp[chF]
    | succ f=>rw[QeC h hk f x h4,if_neg hxk]
   rw[this]
   simp
termination_by f=>f
theorem QeB (h:NxW can rk n nx) {p k:Nat} (hp:p<n) (hpk:gI nx p=(k:Int)):∀ (f i:Nat),i<n→muK rk n i<f→(chF nx f i).count k=(if i=k then 1 else 0)+(chF nx f i).count p
 | 0,_,_,h1=>by omega
 | f+1,i,hi,h1=>by
  simp only[chF,List.count_cons]
  rcases h.ok i hi with h3 | ⟨x,h3,h4,h5⟩
  ·rw[if_pos (by omega)]
   have:i≠p:=fun e=>by subst e;omega
   simp[this]
  ·have e:(gI nx i).toNat=x:=by omega
   have hm:=Qd6 (rk:=rk) h4 (h.up i x hi h4 h5)
   rw[if_neg (by omega),e,QeB h hp hpk f x h4 (by omega)]
   have:(x=k)↔(i=p):=⟨fun e=>h.inj i p hi hp (by omega) (by omega),fun e=>by subst e;omega⟩
   simp only[this,beq_iff_eq]
   omega
def ME (cs:List (List Nat)) (k:Nat):Nat:=(cs.map fun c=>c.count k).sum
theorem QbV {α:Type} (l:List α) (f g:α→Nat):(l.map fun x=>f x+g x).sum=(l.map f).sum+(l.map g).sum:=by
 induction l with
 | nil=>rfl
 | cons a l ih=>simp only[Q0,List.sum_cons,ih];omega
theorem LW {α:Type} {l:List α} {f g:α→Nat} (h:∀ x∈l,f x=g x):(l.map f).sum=(l.map g).sum:=by
 rw[JI h]
theorem LX {l:List Nat} (hn:l.Nodup) (k:Nat):(l.map fun x=>if x=k then 1 else 0).sum=if k∈l then 1 else 0:=by
 induction l with
 | nil=>rfl
 | cons a l ih =>
  obtain ⟨h1,h2⟩:=WQ.1 hn
  simp only[Q0,List.sum_cons,ih h2,ZD]
  by_cases e:a=k
  ·subst e;simp[h1]
  ·have:¬ k=a:=fun x=>e x.symm
   simp[e,this]
theorem SU (h:NxW can rk n nx):∀ (b k:Nat),k<n→n-muK rk n k<b→ME (LQ nx n) k=1
 | 0,_,_,h1=>by omega
 | b + 1,k,hk,h1=>by
  have hnd:(DD nx n).Nodup:=List.nodup_range.filter _
  have hmem:∀ i∈DD nx n,i<n:=fun i hi=>ZI.1 (YB.1 hi).1
  have tot:∀ k,ME (LQ nx n) k=((DD nx n).map fun i=>(chF nx (n+1) i).count k).sum:=fun k=>by
   unfold ME LQ
   rw[XW];rfl
  rw[tot]
  cases hh:V3 nx k with
  | true =>
   rw[LW (g:=fun i=>if i=k then 1 else 0) fun i hi=>QeC h hh n i (hmem i hi),LX hnd,if_pos (show k∈DD nx n from YB.2 ⟨ZI.2 hk,hh⟩)]
  | false =>
   obtain ⟨p,hp,hpk⟩:=(LG h.len).1 hh
   have hlt:rk p<rk k:=by
    rcases h.ok p hp with h3 | ⟨x,h3,h4,h5⟩
    ·omega
    ·have:x=k:=by omega
     subst this;exact h.up p x hp h4 h5
   have hm:=Qd6 (rk:=rk) hk hlt
   have hle:muK rk n p≤n:=mu_le
   have ih:=SU h b p hp (by omega)
   rw[tot] at ih
   rw[LW (g:=fun i=>(if i=k then 1 else 0)+(chF nx (n+1) i).count p) fun i hi=>QeB h hp hpk (n+1) i (hmem i hi) (by have:muK rk n i≤n:=mu_le;omega)]
   rw[QbV,ih,LX hnd,if_neg]
   intro hc
   have:=(YB.1 hc).2
   rw[hh] at this;cases this
theorem times_all (h:NxW can rk n nx) {k:Nat} (hk:k<n):ME (LQ nx n) k=1:=SU h (n-muK rk n k+1) k hk (by omega)
end
section
variable (can:Nat→Nat→Bool) (n:Nat)
variable {can n}
end
end Go.Proofs.YtgkidpolomhghaaGreatDoor.Pl
namespace Go.Proofs.YtgkidpolomhghaaGreatDoor.AM
variable [Dr]
open Go Pl
section
variable {l:List Les} {k:Nat}
theorem les_4 (h:k<l.length):(F0 l)[k*7+4]? = some (.int .i64 (l[k]!).e):=flat_get HJ h (j:=4) (by omega)
end
end Go.Proofs.YtgkidpolomhghaaGreatDoor.AM
namespace Go.Proofs.YtgkidpolomhghaaGreatDoor.Pl
theorem prF_mono {can can':Nat→Nat→Bool} {n:Nat} (h:∀ i k,i<n→k<n→can i k=true→can' i k=true):prF can n n 0 (fun _=>false)≤prF can' n n 0 (fun _=>false):=by
 obtain ⟨g,hg,hs⟩:=TE (can:=can) (n:=n) n 0 (fun _=>false) (by omega)
 rw[← hs]
 refine PV n 0 _ g (by omega) ⟨fun l k h1 h2 h3=>?_,hg.inj⟩
 obtain ⟨a,b,c⟩:=hg.ok l k h1 h2 h3
 exact ⟨a,h l k h2 a b,c⟩
theorem IX {can can':Nat→Nat→Bool} {n:Nat} (h:∀ i k,i<n→k<n→can i k=can' i k):∀ (m i:Nat) (B:Nat→Bool),i+m≤n→prF can n m i B=prF can' n m i B
 | 0,_,_,_=>rfl
 | m+1,i,B,hm=>by
  have key:∀ t,t≤n→HV t (fun k=>if can i k && !B k then 1+prF can n m (i+1) (fun j=>B j||j == k) else 0) (prF can n m (i+1) B)=HV t (fun k=>if can' i k && !B k then 1+prF can' n m (i+1) (fun j=>B j||j == k) else 0) (prF can' n m (i+1) B):=by
   intro t
   induction t with
   | zero=>intro _;simp only[HV];exact IX h m (i+1) B (by omega)
   | succ t ih =>
    intro ht
    simp only[HV]
    rw[ih (by omega),h i t (by omega) (by omega),IX h m (i+1) _ (by omega)]
  simp only[prF]
  exact key n (QG _)
theorem OB {p q:Nat→Bool}:∀ (m k:Nat),(∀ j,k≤j→j<k+m→p j=q j)→XQ p m k=XQ q m k
 | 0,_,_=>rfl
 | m+1,k,h=>by
  simp only[XQ]
  rw[h k (by omega) (by omega),OB m (k+1) fun j h1 h2=>h j (by omega) (by omega)]
theorem nxL_same {can can':Nat→Nat→Bool} {n:Nat} (h:∀ i k,i<n→k<n→can i k=can' i k):∀ (m i:Nat) (B:Nat→Bool),i+m≤n→nxL can n m i B=nxL can' n m i B
 | 0,_,_,_=>rfl
 | m+1,i,B,hm=>by
  have e:XQ (J2 can n m i B) n 0=XQ (J2 can' n m i B) n 0:=OB n 0 fun j _ hj=>by
   simp only[J2]
   rw[h i j (by omega) (by omega),IX h m (i+1) _ (by omega),IX h (m+1) i _ hm]
  simp only[nxL]
  rw[e,nxL_same h m (i+1) _ (by omega)]
def upK (x l:Nat):Nat:=if l<x then l else l+1
def dnK (x l:Nat):Nat:=if l<x then l else l-1
theorem upK_ne {x l:Nat}:upK x l≠x:=by unfold upK;split <;> omega
theorem QaU {x l l':Nat} (h:upK x l=upK x l'):l=l':=by unfold upK at h;split at h <;> split at h <;> omega
theorem IF {x l:Nat} (h:l≠x):upK x (dnK x l)=l:=by unfold upK dnK;(repeat' split) <;> omega
theorem dn_up {x l:Nat}:dnK x (upK x l)=l:=by unfold upK dnK;(repeat' split) <;> omega
theorem BG {x l n:Nat} (hl:l<n):upK x l<n+1:=by unfold upK;split <;> omega
theorem CP {x l n:Nat} (hl:l<n+1) (hx:x<n+1) (h:l≠x):dnK x l<n:=by unfold dnK;split <;> omega
theorem prF_less {can:Nat→Nat→Bool} {n x:Nat} (hx:x<n+1):prF (fun i k=>can (upK x i) (upK x k)) n n 0 (fun _=>false)≤prF can (n+1) (n+1) 0 (fun _=>false):=by
 obtain ⟨g,hg,hs⟩:=TE (can:=fun i k=>can (upK x i) (upK x k)) (n:=n) n 0 (fun _=>false) (by omega)
 rw[← hs]
 refine YR ?_ (PV (n+1) 0 _ (fun l=>if l=x then none else (g (dnK x l)).map (upK x)) (by omega) ⟨fun l k h1 h2 h3=>?_,fun l l' k h1 h2 h3 h4 h5 h6=>?_⟩)
 ·refine G6 (upK x) (fun i hi h=>?_) fun i j _ _ _ _ e=>QaU e
  refine ⟨BG hi,?_⟩
  simp only[QF,decide_true,XI] at h ⊢
  rw[if_neg upK_ne,dn_up,Option.isSome_map]
  exact h
 ·try dsimp only at h3
  by_cases e:l=x
  ·rw[if_pos e] at h3;cases h3
  rw[if_neg e] at h3
  cases hq:g (dnK x l) with
  | none=>rw[hq] at h3;cases h3
  | some q =>
   rw[hq] at h3
   cases h3
   obtain ⟨a,b,_⟩:=hg.ok _ _ (QF _) (CP h2 hx e) hq
   rw[IF e] at b
   exact ⟨BG a,b,rfl⟩
 ·try dsimp only at h5 h6
  by_cases e:l=x
  ·rw[if_pos e] at h5;cases h5
  by_cases e':l'=x
  ·rw[if_pos e'] at h6;cases h6
  rw[if_neg e] at h5
  rw[if_neg e'] at h6
  cases hq:g (dnK x l) with
  | none=>rw[hq] at h5;cases h5
  | some q =>
   cases hq':g (dnK x l') with
   | none=>rw[hq'] at h6;cases h6
   | some q' =>
    rw[hq] at h5;rw[hq'] at h6
    have h7:upK x q=k:=by simpa using h5
    have h8:upK x q'=k:=by simpa using h6
    have:=QaU (h7.trans h8.symm)
    subst this
    have:=hg.inj _ _ q (QF _) (CP h2 hx e) (QF _) (CP h4 hx e') hq hq'
    have h9:=congrArg (upK x) this
    rw[IF e,IF e'] at h9
    exact h9
theorem CU {n:Nat} {P:Nat→Bool} (h:∀ i k,i<n→k<n→P i=true→P k=true→i=k):cnt n P≤1:=by
 apply Classical.byContradiction
 intro hc
 have hp:0<cnt n P:=by omega
 obtain ⟨k,hk,h1⟩:=M5 hp
 have:cnt n P≤cnt n (fun j=>j == k):=cnt_mono fun i hi e=>by simpa using h i k hi hk e h1
 have h2:cnt n (fun j=>j == k)=cnt n (fun _=>false)+1:=JU (x:=k) hk rfl (by simp) fun i _ hne=>by simp[hne]
 rw[KN (n:=n) (P:=fun _=>false) fun _ _=>rfl] at h2
 omega
theorem prF_two {can:Nat→Nat→Bool} {n x:Nat} (hx:x<n+1):prF can (n+1) (n+1) 0 (fun _=>false)≤prF (fun i k=>can (upK x i) (upK x k)) n n 0 (fun _=>false)+2:=by
 obtain ⟨g,hg,hs⟩:=TE (can:=can) (n:=n+1) (n+1) 0 (fun _=>false) (by omega)
 rw[← hs]
 have hM:Mat (fun i k=>can (upK x i) (upK x k)) n 0 (fun _=>false) (fun l=>if g (upK x l)=some x then none else (g (upK x l)).map (dnK x)):=by
  refine ⟨fun l k h1 h2 h3=>?_,fun l l' k h1 h2 h3 h4 h5 h6=>?_⟩
  ·try dsimp only at h3
   by_cases e:g (upK x l)=some x
   ·rw[if_pos e] at h3;cases h3
   rw[if_neg e] at h3
   cases hq:g (upK x l) with
   | none=>rw[hq] at h3;cases h3
   | some q =>
    rw[hq] at h3 e
    cases h3
    have e:q≠x:=fun c=>e (congrArg some c)
    obtain ⟨a,b,_⟩:=hg.ok _ _ (QF _) (BG h2) hq
    refine ⟨CP a hx e,?_,rfl⟩
    try dsimp only
    rw[IF e];exact b
  ·try dsimp only at h5 h6
   by_cases e:g (upK x l)=some x
   ·rw[if_pos e] at h5;cases h5
   by_cases e':g (upK x l')=some x
   ·rw[if_pos e'] at h6;cases h6
   rw[if_neg e] at h5
   rw[if_neg e'] at h6
   cases hq:g (upK x l) with
   | none=>rw[hq] at h5;cases h5
   | some q =>
    cases hq':g (upK x l') with
    | none=>rw[hq'] at h6;cases h6
    | some q' =>
     rw[hq] at h5 e;rw[hq'] at h6 e'
     have e:q≠x:=fun c=>e (congrArg some c)
     have e':q'≠x:=fun c=>e' (congrArg some c)
     have h7:dnK x q=k:=by simpa using h5
     have h8:dnK x q'=k:=by simpa using h6
     have h9:=congrArg (upK x) (h7.trans h8.symm)
     rw[IF e,IF e'] at h9
     subst h9
     exact QaU (hg.inj _ _ q (QF _) (BG h2) (QF _) (BG h4) hq hq')
 have h1:=PV n 0 _ _ (by omega) hM
 refine YR ?_ (Nat.add_le_add_right h1 2)
 simp only[UL,QF,decide_true,XI]
 rw[ES (n:=n+1) (fun l=>(g l).isSome) (fun l=>decide (l=x))]
 rw[ES (n:=n+1) (fun l=>(g l).isSome && !decide (l=x)) (fun l=>decide (g l=some x))]
 have c1:cnt (n+1) (fun k=>(g k).isSome&&decide (k=x))≤1:=CU fun i k _ _ a b=>by
  simp only[QD,decide_eq_true_eq] at a b
  rw[a.2,b.2]
 have c2:cnt (n+1) (fun k=>((g k).isSome && !decide (k=x))&&decide (g k=some x))≤1:=CU fun i k hi hk a b=>by
  simp only[QD,decide_eq_true_eq] at a b
  exact hg.inj i k x (QF _) hi (QF _) hk a.2 b.2
 have c3:cnt (n+1) (fun k=>((g k).isSome && !decide (k=x)) && !decide (g k=some x))≤cnt n (fun l=>(if g (upK x l)=some x then none else (g (upK x l)).map (dnK x)).isSome):=by
  refine G6 (dnK x) (fun i hi h=>?_) fun i j hi hj a b e=>?_
  ·simp only[QD,Z0,decide_eq_false_iff_not] at h
   obtain ⟨⟨h1,h2⟩,h3⟩:=h
   refine ⟨CP hi hx h2,?_⟩
   rw[IF h2,if_neg h3,Option.isSome_map];exact h1
  ·simp only[QD,Z0,decide_eq_false_iff_not] at a b
   have:=congrArg (upK x) e
   rw[IF a.1.2,IF b.1.2] at this
   exact this
 omega
end Go.Proofs.YtgkidpolomhghaaGreatDoor.Pl
namespace Go.Proofs.YtgkidpolomhghaaGreatDoor.AM
variable [Dr]
open Go Pl
theorem le64 (n lo hi:Int):PC Tryz.prog 64 [.i n,.i lo,.i hi] (.b (inB n lo hi)):=by
 refine ⟨ZF (fok64 true) (QC rfl) ?_,rfl⟩
 unfold inB
 by_cases h:n≥lo <;> simp only[ic64,h,evA,simprocAttr] <;> exact frz
end Go.Proofs.YtgkidpolomhghaaGreatDoor.AM
namespace Go.Proofs.YtgkidpolomhghaaGreatDoor.AM
variable [Dr]
open Go Go.ChangeShapes Go.WideShapes Go.ChangeAt Go.RowKit
abbrev noO:Nat→Prop:=Own (fun _=>none) (fun _=>False)
theorem not_noO (b:Nat):¬ noO b:=by rintro (h | ⟨l,hl⟩);exact h;cases hl
theorem DG {α:Type} {Q:Nat→α→Prop}:∀ (n:Nat),(∀ i,i<n→∃ l,Q i l)→∃ L:List α,L.length=n∧∀ (i:Nat) (l:α),L[i]? = some l→Q i l
 | 0,_=>⟨[],rfl,by simp⟩
 | n+1,h=>by
  obtain ⟨L,h1,h2⟩:=DG n (fun i hi=>h i (by omega))
  obtain ⟨l,hl⟩:=h n (by omega)
  refine ⟨L++[l],by simp[h1],fun i l' hi=>?_⟩
  rcases ZB i n with hlt | hge
  ·rw[QE (by omega)] at hi;exact h2 i l' hi
  ·rw[QS (by omega),h1] at hi
   have:i=n:=by
    rcases ZB n i with h' | h'
    ·rw[QN (by simp;omega)] at hi;cases hi
    ·omega
   subst this
   simp at hi;subst hi;exact hl
theorem CJ {R:Nat→CV→Prop} {esz:Nat}:∀ (L:List (List CV)) (n:Nat),(∀ (i:Nat) (l:List CV),L[i]? = some l→l.length=esz∧∀ (j:Nat) (c:CV),l[j]? = some c→R (n+i*esz+j) c) →
  L.flatten.length=L.length*esz∧∀ (k:Nat) (c:CV),L.flatten[k]? = some c→R (n+k) c
 | [],n,_=>by simp
 | l::L,n,h=>by
  obtain ⟨h1,h2⟩:=h 0 l (by simp)
  have ih:=CJ L (n+esz) (fun i l' hi=>by
   obtain ⟨g1,g2⟩:=h (i+1) l' (by simpa using hi)
   refine ⟨g1,fun j c hj=>?_⟩
   have:=g2 j c hj
   rwa [WP,Nat.one_mul,← Nat.add_assoc,Nat.add_right_comm n] at this)
  refine ⟨by simp[h1,ih.1,WP,Nat.add_comm],fun k c hk=>?_⟩
  rw[List.flatten_cons] at hk
  rcases ZB k l.length with hlt | hge
  ·rw[QE hlt] at hk
   have:=h2 k c hk
   simpa using this
  ·rw[QS hge] at hk
   have:=ih.2 (k-l.length) c hk
   rwa [show n+esz+(k-l.length)=n+k by omega] at this
theorem A4 {P:Program} {R:Nat→CV→Prop} {N:Nat}:∀ (fs:List Field) (L:List (List CV)) (n:Nat),J8 P fs n=some N→L.length=fs.length →
  (∀ (i:Nat) (f:Field) (l:List CV),fs[i]? = some f→L[i]? = some l→l.length=P.cellsOf f.type∧∀ (j:Nat) (c:CV),l[j]? = some c→R (f.offset+j) c) →
  n+L.flatten.length=N∧∀ (k:Nat) (c:CV),L.flatten[k]? = some c→R (n+k) c
 | [],L,n,he,hl,_=>by
  have:L=[]:=ZT (by simpa using hl)
  subst this
  simp only[J8,Option.some.injEq] at he
  simp[he]
 | f::fs,[],n,_,hl,_=>by simp at hl
 | f::fs,l::L,n,he,hl,h=>by
  simp only[J8] at he
  split at he
  ·rename_i hoff
   obtain ⟨h1,h2⟩:=h 0 f l (by simp) (by simp)
   have ih:=A4 fs L (n+P.cellsOf f.type) he (by simpa using hl) (fun i f' l' hf hl'=>h (i+1) f' l' (by simpa using hf) (by simpa using hl'))
   refine ⟨by rw[← ih.1];simp[h1];omega,fun k c hk=>?_⟩
   rw[List.flatten_cons] at hk
   rcases ZB k l.length with hlt | hge
   ·rw[QE hlt] at hk
    have:=h2 k c hk
    rwa [hoff] at this
   ·rw[QS hge] at hk
    have:=ih.2 (k-l.length) c hk
    rwa [show n+P.cellsOf f.type+(k-l.length)=n+k by omega] at this
  ·cases he
theorem NT {W:World} {a:Addr}:∀ (cs:List CV) (i:Nat),(∀ (j:Nat) (c:CV),cs[j]? = some c→∃ v,W.cell? (a.add (i+j))=some v∧c.rep W noO v)→CV.reps W noO cs a i
 | [],_,_=>by simp[CV.reps]
 | c::cs,i,h=>by
  simp only[CV.reps]
  refine ⟨not_noO _,by simpa using h 0 c (by simp),NT cs (i+1) fun j c' hj=>?_⟩
  have:=h (j+1) c' (by simpa using hj)
  rwa [show i+(j+1)=i+1+j by omega] at this
section
variable {H:Type} {enc:TypeId × Value→H} {P:Program} {W:World}
theorem EW:∀ (n:Nat) (t:TypeId) (cs:List Value) (x:DataW H × List MemPlace) (fuel:Nat),TG P n t=true→DataW.trod enc P W 0 (fun _=>true) true fuel t cs=some x →
  ∃ cvs:List CV,Typed P t cvs∧cvs.length=cs.length∧∀ (i:Nat) (c:CV) (v:Value),cvs[i]? = some c→cs[i]? = some v→c.rep W noO v
 | 0,t,cs,x,fuel,ho,_=>by simp[TG] at ho
 | n + 1,t,cs,x,fuel,ho,h=>by
  simp only[TG] at ho
  split at ho
  ·rename_i ht
   obtain ⟨b,rfl,_⟩:=DataW.trod_bool ht h
   refine ⟨[.bool b],.bool ht b,rfl,fun i c v h1 h2=>?_⟩
   cases i with
   | zero=>simp at h1 h2;subst h1 h2;simp[CV.rep]
   | succ i=>simp at h1
  ·rename_i k ht
   obtain ⟨b,rfl,_,hw⟩:=DataW.trod_int ht h
   refine ⟨[.int k b],.int ht b hw,rfl,fun i c v h1 h2=>?_⟩
   cases i with
   | zero=>simp at h1 h2;subst h1 h2;simp[CV.rep]
   | succ i=>simp at h1
  ·rename_i ht
   obtain ⟨s,rfl,_,hw⟩:=DataW.trod_string ht h
   refine ⟨[.str s],.str ht s hw,rfl,fun i c v h1 h2=>?_⟩
   cases i with
   | zero=>simp at h1 h2;subst h1 h2;simp[CV.rep]
   | succ i=>simp at h1
  ·rename_i e ht
   rcases DataW.trod_slice ht h with ⟨rfl,_⟩ | ⟨a,len,cap,elems,rest,m,_,rfl,_,_,hlc,hcm,hel,hget,_⟩
   ·refine ⟨[.rsl [] 0],by simpa using Typed.slc ht [] (by simp) (by simp) (by simp),rfl,fun i c v h1 h2=>?_⟩
    cases i with
    | zero=>simp at h1 h2;subst h1 h2;simp[CV.rep]
    | succ i=>simp at h1
   ·obtain ⟨L,hL,hQ⟩:=DG (Q:=fun i l=>Typed P e l∧l.length=P.cellsOf e∧∀ (j:Nat) (c:CV),l[j]? = some c→∃ v,W.cell? (a.add (i*P.cellsOf e+j))=some v∧c.rep W noO v) len (fun i hi=>by
     have hg:=hget i hi
     rw[QI (by omega)] at hg
     obtain ⟨ci,h1,h2⟩:=QB.1 hg
     obtain ⟨_,hlen,hcell⟩:=World.cells?_some h1
     obtain ⟨cvs,g1,g2,g3⟩:=EW n e ci _ _ ho h2
     refine ⟨cvs,g1,by omega,fun j c hj=>?_⟩
     have hjl:j<cvs.length:=(QH.1 hj).1
     have hc:=hcell j (by omega)
     rw[QI (by omega)] at hc
     exact ⟨_,by rw[← Addr.add_add];exact hc,g3 j c _ hj (QI _)⟩)
    have hmem:∀ l∈L,∃ i:Nat,L[i]? = some l:=fun l hl=>List.mem_iff_getElem?.1 hl
    have hfl:=CJ (R:=fun k c=>∃ v,W.cell? (a.add k)=some v∧c.rep W noO v) (esz:=P.cellsOf e) L 0 (fun i l hi=>⟨(hQ i l hi).2.1,fun j c hj=>by simpa using (hQ i l hi).2.2 j c hj⟩)
    refine ⟨[.rsl L.flatten L.length],Typed.slc ht L (by omega) (fun l hl=>let ⟨i,hi⟩:=hmem l hl;(hQ i l hi).2.1) (fun l hl=>let ⟨i,hi⟩:=hmem l hl;(hQ i l hi).1),rfl,fun i c v h1 h2=>?_⟩
    cases i with
    | zero =>
     simp at h1 h2;subst h1 h2
     simp only[CV.rep]
     exact .inr ⟨a,cap,by rw[hL],by omega,NT _ 0 (fun j c hj=>hfl.2 j c hj)⟩
    | succ i=>simp at h1
  ·rename_i k e ht
   simp only[QD,decide_eq_true_eq] at ho
   obtain ⟨xs,m,_,_,hlen,hxs,hget⟩:=DataW.trod_array ht h
   obtain ⟨L,hL,hQ⟩:=DG (Q:=fun i l=>Typed P e l∧l.length=P.cellsOf e∧∀ (j:Nat) (c:CV),l[j]? = some c→∀ v,cs[i*P.cellsOf e+j]? = some v→c.rep W noO v) k (fun i hi=>by
     have hg:=hget i hi
     rw[QI (by omega)] at hg
     obtain ⟨cvs,g1,g2,g3⟩:=EW n e _ _ _ ho.1 hg
     have hik:i*P.cellsOf e+P.cellsOf e≤k*P.cellsOf e:=by
      have:=YQ (P.cellsOf e) (show i+1≤k by omega)
      rwa [WP,Nat.one_mul] at this
     have hl2:cvs.length=P.cellsOf e:=by rw[g2];simp;omega
     refine ⟨cvs,g1,hl2,fun j c hj v hv=>?_⟩
     have hjl:j<cvs.length:=(QH.1 hj).1
     exact g3 j c v hj (by rw[Z7,if_pos (by omega),X4];exact hv))
   have hmem:∀ l∈L,∃ i:Nat,L[i]? = some l:=fun l hl=>List.mem_iff_getElem?.1 hl
   have hfl:=CJ (R:=fun k c=>∀ v,cs[k]? = some v→c.rep W noO v) (esz:=P.cellsOf e) L 0 (fun i l hi=>⟨(hQ i l hi).2.1,fun j c hj=>by simpa using (hQ i l hi).2.2 j c hj⟩)
   exact ⟨L.flatten,Typed.arr ht L hL (fun l hl=>let ⟨i,hi⟩:=hmem l hl;(hQ i l hi).2.1) (fun l hl=>let ⟨i,hi⟩:=hmem l hl;(hQ i l hi).1),by rw[hfl.1,hlen,ho.2,hL],fun i c v h1 h2=>hfl.2 i c h1 v (by simpa using h2)⟩
  ·rename_i fs ht
   simp only[QD,decide_eq_true_eq,Q1] at ho
   obtain ⟨xs,m,_,_,hlen,hxs,hget⟩:=DataW.trod_struct ht h
   obtain ⟨L,hL,hQ⟩:=DG (Q:=fun i l=>∀ f,fs[i]? = some f→Typed P f.type l∧l.length=min (P.cellsOf f.type) (cs.length-f.offset)∧∀ (j:Nat) (c:CV),l[j]? = some c→∀ v,cs[f.offset+j]? = some v→c.rep W noO v) fs.size (fun i hi=>by
     have hfi:fs[i]? = some fs[i]:=Q7 hi
     have hg:=hget i fs[i] hfi
     rw[QI (by omega)] at hg
     obtain ⟨cvs,g1,g2,g3⟩:=EW n _ _ _ _ (ho.1 fs[i] (by simp)) hg
     have hl2:cvs.length=min (P.cellsOf fs[i].type) (cs.length-fs[i].offset):=by rw[g2];simp
     refine ⟨cvs,fun f hf=>?_⟩
     rw[hfi] at hf;cases hf
     refine ⟨g1,hl2,fun j c hj v hv=>?_⟩
     have hjl:j<cvs.length:=(QH.1 hj).1
     exact g3 j c v hj (by rw[Z7,if_pos (by omega),X4];exact hv))
   have hoff:∀ (fs:List Field) (n N:Nat),J8 P fs n=some N→n≤N∧∀ (i:Nat) (f:Field),fs[i]? = some f→f.offset+P.cellsOf f.type≤N:=by
    intro fs
    induction fs with
    | nil=>intro n N h;simp only[J8,Option.some.injEq] at h;simp[h]
    | cons f fs ih =>
     intro n N h
     simp only[J8] at h
     split at h
     ·rename_i ho
      obtain ⟨h1,h2⟩:=ih _ _ h
      refine ⟨by omega,fun i f' hi=>?_⟩
      cases i with
      | zero=>simp at hi;subst hi;omega
      | succ i=>exact h2 i f' (by simpa using hi)
     ·cases h
   have hin:=(hoff _ _ _ ho.2).2
   have hl:∀ (i:Nat) (f:Field) (l:List CV),fs[i]? = some f→L[i]? = some l→l.length=P.cellsOf f.type:=by
    intro i f l hf hl
    obtain ⟨_,h2,_⟩:=hQ i l hl f hf
    have:=hin i f (by simpa using hf)
    omega
   have hfl:=A4 (P:=P) (R:=fun k c=>∀ v,cs[k]? = some v→c.rep W noO v) fs.toList L 0 ho.2 (by simpa using hL) (fun i f l hf hl' =>
    ⟨hl i f l (by simpa using hf) hl',fun j c hj=>(hQ i l hl' f (by simpa using hf)).2.2 j c hj⟩)
   exact ⟨L.flatten,Typed.struct ht L hL hl (fun i f l hf hl'=>(hQ i l hl' f hf).1),by have:=hfl.1;omega,fun i c v h1 h2=>hfl.2 i c h1 v (by simpa using h2)⟩
  ·cases ho
theorem DV:∀ (cvs:List CV) (vs:List Value),cvs.length=vs.length→(∀ (i:Nat) (c:CV) (v:Value),cvs[i]? = some c→vs[i]? = some v→c.rep W noO v)→QK nom noX W (cvs.map .cv) vs
 | [],[],_,_=>by simp[QK]
 | c::cvs,v::vs,hl,h=>by
  simp only[Q0,QK,VRel]
  exact ⟨h 0 c v rfl rfl,DV cvs vs (by simpa using hl) fun i c v h1 h2=>h (i+1) c v (by simpa using h1) (by simpa using h2)⟩
 | [],_::_,hl,_=>by simp at hl
 | _::_,[],hl,_=>by simp at hl
theorem QfB {n:Nat} {t:TypeId} {v:Value} {d:DataW H} {ps:List MemPlace} {r:Reach} {base:Nat} (ho:TG P n t=true) (hval:Value.okWide P W r base t v) (h:DataW.Trod enc P W 0 (fun _=>true) true t v d ps) :
  ∃ cs,Typed P t cs∧VRel nom noX W (avOf P t cs) v:=by
 obtain ⟨fuel,h⟩:=h
 obtain ⟨cvs,h1,h2,h3⟩:=EW n t _ _ _ ho h
 refine ⟨cvs,h1,?_⟩
 unfold avOf
 have one:(v.cells.toList=[v])→VRel nom noX W (.cv (cvs.headD .nilp)) v:=by
  intro hv
  rw[hv] at h2 h3
  match cvs,h2 with
  | [c],_=>simp only[List.headD_cons,VRel];exact h3 0 c v rfl rfl
 cases n with
 | zero=>simp[TG] at ho
 | succ n =>
  simp only[TG] at ho
  split at ho
  ·rename_i ht;rw[ht];obtain ⟨b,rfl⟩:=okWide_bool ht hval;exact one rfl
  ·rename_i ht;rw[ht];obtain ⟨b,rfl⟩:=okWide_int ht hval;exact one rfl
  ·rename_i ht;rw[ht];obtain ⟨b,rfl⟩:=okWide_string ht hval;exact one rfl
  ·rename_i ht;rw[ht];obtain ⟨_,_,_,rfl⟩:=okWide_slice ht hval;exact one rfl
  ·rename_i ht;rw[ht]
   simp only[Value.okWide,ht] at hval
   obtain ⟨arr,rfl,_⟩:=hval
   simp only[VRel]
   exact ⟨arr.toList,by simp,DV _ _ h2 h3⟩
  ·rename_i ht;rw[ht]
   simp only[Value.okWide,ht] at hval
   obtain ⟨arr,rfl,_⟩:=hval
   simp only[VRel]
   exact ⟨arr.toList,by simp,DV _ _ h2 h3⟩
  ·cases ho
theorem C1 {n:Nat} {r:Reach} {base:Nat}:∀ {ts:List TypeId} {vs:List Value} {ds:List (DataW H)} {ps:List MemPlace},(ts.all (TG P n))=true →
  (∀ (j:Nat) (t:TypeId) (v:Value),ts[j]? = some t→vs[j]? = some v→Value.okWide P W r base t v)→DataW.TrodAll enc P W 0 (fun _=>true) true ts vs ds ps →
  ds.length=ts.length∧∃ avs,Args P ts avs∧QK nom noX W avs vs
 | [],_,_,_,_,_,h=>by
  obtain ⟨rfl,rfl,rfl⟩:=trodAll_nil h
  exact ⟨rfl,[],.nil,by simp[QK]⟩
 | t::ts,_,_,_,ho,hval,h=>by
  obtain ⟨v,vs1,d,ds1,a,b,rfl,rfl,rfl,h1,h2⟩:=trodAll_cons h
  simp only[List.all_cons,QD] at ho
  obtain ⟨cs,g1,g2⟩:=QfB ho.1 (hval 0 t v rfl rfl) h1
  obtain ⟨hl,avs,g3,g4⟩:=C1 ho.2 (fun j t v h1 h2=>hval (j+1) t v (by simpa using h1) (by simpa using h2)) h2
  exact ⟨by simp[hl],_,.cons g1 g3,by simp only[QK];exact ⟨g2,g4⟩⟩
theorem LU (hl:laidOutB P=true) {W':World} (hb:Below W.heap.size W W'):∀ {ts:List TypeId} {vs:List Value} {ds:List (DataW H)} {ps:List MemPlace},(ts.all fun t=>P.readableRec t&&decide (t<P.types.size))=true →
  DataW.TrodAll enc P W 0 (fun _=>true) true ts vs ds ps→(∀ x∈ps,x.block<W.heap.size)→DataW.TrodAll enc P W' 0 (fun b=>decide (b<W.heap.size)) true ts vs ds ps
 | [],_,_,_,_,h,_=>by
  obtain ⟨rfl,rfl,rfl⟩:=trodAll_nil h
  exact trodAll_mk0
 | t::ts,_,_,_,ho,h,hlt=>by
  obtain ⟨v,vs1,d,ds1,a,b,rfl,rfl,rfl,h1,h2⟩:=trodAll_cons h
  simp only[List.all_cons,QD,decide_eq_true_eq] at ho
  refine trodAll_cons_mk (Below.trod hl ho.1.1 ho.1.2 h1 hb fun x hx=>hlt x (by simp[hx])) (LU hl hb ?_ h2 fun x hx=>hlt x (by simp[hx]))
  simpa using ho.2
theorem law_of_AC {f:FuncId} {fn:Func} {s:ChangeSpec} {n:Nat} {t:TypeId} {base:Nat} {args:Array Value} {ds gs:List (DataW H)} {before:List MemPlace}
  (hl:laidOutB P=true) (hpar:(fn.params.toList.all fun t=>P.readableRec t&&decide (t<P.types.size))=true) (ho:fn.params.toList.all (TG P n)=true)
  (hres:fn.resultTypes = #[t]) (htb:P.underlying t=some .bool) (hsv:s.vars=[]) (hs:∀ ds:List (DataW H),ds.length=fn.params.toList.length→s.fn H ds = { results:=[.lit (.bool true)],args:=ds })
  (hAC:∀ avs,Args P fn.params.toList avs→AC P f avs [] fun r _=>r=.b true)
  (hval:∀ (j:Nat) t v,fn.params[j]? = some t→args[j]? = some v→Value.okWide P W .any base t v) (hgl:GlOk nom noX W)
  (hW:DataW.Whole enc P fn.params.toList s.vars false W args.toList ds gs before) :
  Calls P f args W fun e W'=>∃ v,e=.returned v∧s.post enc P fn false true false false W args v W':=by
 have hW':=hW
 obtain ⟨p,q,hA,hV,rfl,hfz,hnd⟩:=hW
 rw[hsv] at hV
 obtain ⟨rfl,rfl⟩:=trodVars_none hV
 have hlt:∀ x∈p,x.block<W.heap.size:=fun x hx=>hW'.lt x (by simp[hx])
 obtain ⟨hlen,avs,hav,hrel⟩:=C1 ho (fun j t v h1 h2=>hval j t v (by simpa using h1) (by simpa using h2)) hA
 have hcall:=(hAC avs hav).2 nom noX W args.toList hrel ⟨by simp,by simp,by simp,by simp,by simp,hgl⟩
 have hcall:=callsIn_wide.1 hcall
 simp only[Array.toArray_toList] at hcall
 refine hcall.mono fun e W' ⟨c,r,σ',m',he,hq,hr,_,hst,_⟩=>?_
 subst he hq
 simp only[VRel,CV.rep] at hr
 subst hr
 have hb:Below W.heap.size W W':=⟨hst.os,hst.tape,hst.output,hst.size,fun k hk=>hst.fr k hk (.inr (by simp))⟩
 have hsf:s.fn H (ds++[]) = { results:=[.lit (.bool true)],args:=ds }:=by rw[ZU];exact hs ds hlen
 refine ⟨_,rfl,ds,[],p++[],[],p,[],hW',?_,?_,?_,hb.frame _,fun h=>by simp at h⟩
 ·rw[hsf,hres]
  exact trodAll_mk1 (shut_bool htb true)
 ·rw[hsf]
  exact LU hl hb hpar hA hlt
 ·rw[hsf,hsv]
  rfl
end
end Go.Proofs.YtgkidpolomhghaaGreatDoor.AM
namespace Go.Proofs.YtgkidpolomhghaaGreatDoor.AM
variable [Dr]
open Go
theorem QeV {P:Program} {t:TypeId} {k:IntKind} {cs:List CV} (ht:P.underlying t=some (.int k)) (h:Typed P t cs):∃ n,cs=[.int k n]∧(Lit.int k n).wf=true:=by
 cases h with
 | int ht' n hw=>rw[ht] at ht';cases ht';exact ⟨n,rfl,hw⟩
 | bool ht'=>rw[ht] at ht';cases ht'
 | str ht'=>rw[ht] at ht';cases ht'
 | slc ht'=>rw[ht] at ht';cases ht'
 | arr ht'=>rw[ht] at ht';cases ht'
 | struct ht'=>rw[ht] at ht';cases ht'
theorem QeU {P:Program} {t e:TypeId} {cs:List CV} (ht:P.underlying t=some (.slice e)) (h:Typed P t cs):∃ L:List (List CV),cs=[.rsl L.flatten L.length]∧L.length≤maxLen∧(∀ l∈L,l.length=P.cellsOf e)∧∀ l∈L,Typed P e l:=by
 cases h with
 | slc ht' L hn hl h=>rw[ht] at ht';cases ht';exact ⟨L,rfl,hn,hl,h⟩
 | bool ht'=>rw[ht] at ht';cases ht'
 | int ht'=>rw[ht] at ht';cases ht'
 | str ht'=>rw[ht] at ht';cases ht'
 | arr ht'=>rw[ht] at ht';cases ht'
 | struct ht'=>rw[ht] at ht';cases ht'
theorem typed_arr {P:Program} {t e:TypeId} {n:Nat} {cs:List CV} (ht:P.underlying t=some (.array n e)) (h:Typed P t cs):∃ L:List (List CV),cs=L.flatten∧L.length=n∧(∀ l∈L,l.length=P.cellsOf e)∧∀ l∈L,Typed P e l:=by
 cases h with
 | arr ht' L hn hl h=>rw[ht] at ht';cases ht';exact ⟨L,rfl,hn,hl,h⟩
 | bool ht'=>rw[ht] at ht';cases ht'
 | int ht'=>rw[ht] at ht';cases ht'
 | str ht'=>rw[ht] at ht';cases ht'
 | slc ht'=>rw[ht] at ht';cases ht'
 | struct ht'=>rw[ht] at ht';cases ht'
theorem typed_struct {P:Program} {t:TypeId} {fs:Array Field} {cs:List CV} (ht:P.underlying t=some (.struct fs)) (h:Typed P t cs):∃ L:List (List CV),cs=L.flatten∧L.length=fs.size∧∀ (i:Nat) (f:Field) (l:List CV),fs[i]? = some f→L[i]? = some l→Typed P f.type l:=by
 cases h with
 | struct ht' L hn hl h=>rw[ht] at ht';cases ht';exact ⟨L,rfl,hn,h⟩
 | bool ht'=>rw[ht] at ht';cases ht'
 | int ht'=>rw[ht] at ht';cases ht'
 | str ht'=>rw[ht] at ht';cases ht'
 | slc ht'=>rw[ht] at ht';cases ht'
 | arr ht'=>rw[ht] at ht';cases ht'
theorem Qdi {P:Program} {e:TypeId} {k:IntKind} (he:P.underlying e=some (.int k)):∀ L:List (List CV),(∀ l∈L,Typed P e l)→∃ zs:List Int,L.flatten=zs.map (.int k)∧L.length=zs.length∧∀ z∈zs,(Lit.int k z).wf=true
 | [],_=>⟨[],rfl,rfl,by simp⟩
 | l::L,h=>by
  obtain ⟨n,rfl,hn⟩:=QeV he (h l (by simp))
  obtain ⟨zs,h1,h2,h3⟩:=Qdi he L fun l hl=>h l (by simp[hl])
  exact ⟨n::zs,by simp[h1],by simp[h2],by simpa using ⟨hn,h3⟩⟩
theorem typed_ints {P:Program} {t e:TypeId} {k:IntKind} {cs:List CV} (ht:P.underlying t=some (.slice e)) (he:P.underlying e=some (.int k)) (h:Typed P t cs):∃ zs:List Int,cs=[.rsl (zs.map (.int k)) zs.length]∧zs.length<2 ^ 63∧∀ z∈zs,(Lit.int k z).wf=true:=by
 obtain ⟨L,rfl,hn,_,hl⟩:=QeU ht h
 obtain ⟨zs,h1,h2,h3⟩:=Qdi he L hl
 refine ⟨zs,by rw[h1,h2],?_,h3⟩
 rw[← h2];unfold maxLen at hn;omega
theorem wf_u8 {n:Int} (h:(Lit.int .u8 n).wf=true):0≤n∧n≤255:=by
 simp only[Lit.wf,QD,decide_eq_true_eq,IntKind.min,IntKind.max,IntKind.bits,IntKind.signed] at h
 simp at h;omega
theorem args_cons {P:Program} {t:TypeId} {ts:List TypeId} {avs:List AV} (h:Args P (t::ts) avs):∃ cs avs',avs=avOf P t cs::avs'∧Typed P t cs∧Args P ts avs':=by
 generalize hts:t::ts=u at h
 cases h with
 | nil=>cases hts
 | cons h1 h2=>cases hts;exact ⟨_,_,rfl,h1,h2⟩
theorem args_nil {P:Program} {avs:List AV} (h:Args P [] avs):avs=[]:=by
 generalize hts:([]:List TypeId)=u at h
 cases h with
 | nil=>rfl
 | cons h1 h2=>cases hts
abbrev vs13:List Nat:=[0,1,2,3,4,5,6,7,8,9,10,11,12,13,14,15,16,17,18,19,20,21,22,23,31,38,49,56,85,106,122]
def ic13l0:IC:=(.seq (.seq (.region [jv 16,jF 1 2,jl 1,je 2,jw 29 (.bin .lss .int) [.t 0,.t 3]])
 (.cond 29 .skip
 (.exit 6)))
 (.seq (.block 7 (.seq (.region [jF 1 2,jl 0,jv 16,ja 7 1 2,jq (.loadN 7) [.t 3],jw 17 (.alloc [(.cv (.int .i64 0)),(.cv (.int .i64 0)),(.cv (.int .i64 0)),(.cv (.int .i64 0)),(.cv (.int .i64 0)),(.cv (.int .i64 0)),(.cv (.int .i64 0))]) [],jq (.store 7) [.v 17,.t 4]])
 (.seq (.seq (.region [jv 16,jq (.iaA 3 1) [.v 3,jn 1],jl 1,jq (.conv .i64) [.t 2],jF 1 2,jl 4,je 5,jq (.bin .rem .int) [.t 3,.t 6],jw 30 (.bin .neq .int) [.t 0,.t 7]])
 (.cond 30 (.region [jF 1 8,jl 0,jN 7 17,jq (.bslice 7 1 [(.cv (.int .i64 0)),(.cv (.int .i64 0)),(.cv (.int .i64 0)),(.cv (.int .i64 0)),(.cv (.int .i64 0)),(.cv (.int .i64 0)),(.cv (.int .i64 0))] [(0,7)]) [.t 2],jq (.append 7 56) [.t 1,.t 3],jF 1 8,jq (.store 1) [.t 5,.t 4]])
 .skip))
 (.seq (.region [jF 3 17,jl 0,jv 15,jq (.bin .add .int) [.t 1,.t 2],jF 4 17,jl 4,jv 15,jq (.bin .add .int) [.t 5,.t 6],jF 3 17,jq (.store 1) [.t 8,.t 3],jF 4 17,jq (.store 1) [.t 10,.t 7]])
 (.region [jF 1 9,jl 0,jN 7 17,jq (.bslice 7 1 [(.cv (.int .i64 0)),(.cv (.int .i64 0)),(.cv (.int .i64 0)),(.cv (.int .i64 0)),(.cv (.int .i64 0)),(.cv (.int .i64 0)),(.cv (.int .i64 0))] [(0,7)]) [.t 2],jq (.append 7 56) [.t 1,.t 3],jF 1 9,jq (.store 1) [.t 5,.t 4]])))))
 (.region [jv 16,jq (.bin .add .int) [.t 0,jn 1],jm 16 1])))
def ic13l1:IC:=(.seq (.seq (.region [jv 14,jF 1 2,jl 1,je 2,jw 28 (.bin .lss .int) [.t 0,.t 3]])
 (.cond 28 .skip
 (.exit 4)))
 (.seq (.block 5 (.region [jv 13,jF 1 2,jl 1,jv 14,ja 7 2 3,jG 4 4,jl 5,jq .max2 [.t 0,.t 6],jm 13 7]))
 (.region [jv 14,jq (.bin .add .int) [.t 0,jn 1],jm 14 1])))
def ic13l2:IC:=(.seq (.seq (.region [jv 12,jF 0 2,jl 1,je 2,jw 27 (.bin .lss .int) [.t 0,.t 3]])
 (.cond 27 .skip
 (.exit 2)))
 (.seq (.block 3 (.dr [[],[],[1],[],[2,3],[4],[],[5,6],[7],[],[9],[10],[8,11],[12],[13],[0,14],[15,15,0,1,2,3,4,5,6,7,8,9,10,11,12,13,14,15]] [jv 11,jF 0 2,jl 1,jv 10,ja 1 2 3,jl 4,jv 12,ja 1 5 6,jl 7,jq (.iaA 3 1) [.v 3,jn 0],jl 9,jq (.conv .i64) [.t 10],jq (.bin .sub .int) [.t 8,.t 11],jq .max2 [jn 0,.t 12],jq (.bslice 1 1 [(.cv (.int .i64 0))] [(0,1)]) [.t 13],jq (.append 1 8) [.t 0,.t 14],jm 11 15]))
 (.region [jv 12,jq (.bin .add .int) [.t 0,jn 1],jm 12 1])))
def ic13l3:IC:=(.seq (.seq (.region [jv 10,jF 0 2,jl 1,je 2,jw 26 (.bin .lss .int) [.t 0,.t 3]])
 (.cond 26 .skip
 (.exit 0)))
 (.seq (.block 1 (.seq (.region [jw 11 .mv [jS]])
 (.seq (.seq (.region [jz 12 0])
 (.block 2 (.loop ic13l2)))
 (.region [jF 0 7,jl 0,jv 11,jq (.bslice 1 1 [(.cv .nils)] [(0,1)]) [.t 2],jq (.append 1 24) [.t 1,.t 3],jF 0 7,jq (.store 1) [.t 5,.t 4]]))))
 (.region [jv 10,jq (.bin .add .int) [.t 0,jn 1],jm 10 1])))
def ic13:IC:=(.seq (.region [jb 2 0,jb 3 1,jw 4 .mv [jB false]])
 (.seq (.region [jN 2 2,jk 28 [.t 0],jt 1,jx 0 2,jx 1 2,jm 5 3,jm 6 4])
 (.seq (.seq (.region [jN 2 2,jk 48 [.t 0],jw 24 .not [.t 1]])
 (.cond 24 (.seq (.region [jv 6,jq (.bin .neq .int) [.t 0,jn 0],jt 1,jf 2 true 22 [],jq .pick [.t 2,.t 3,jB false],jm 4 4])
 .ret)
 .skip))
 (.seq (.seq (.region [jv 6,jw 25 (.bin .neq .int) [.t 0,jn 0]])
 (.cond 25 (.seq (.region [jw 4 .mv [jB false]])
 .ret)
 .skip))
 (.seq (.dr [[],[],[],[],[],[],[3,0,0,3,4,5],[4,1,6,0,1,3,4,5,6],[5,2,7,0,1,2,3,4,5,6,7]] [jN 2 2,jN 2 2,jN 2 2,jw 7 (.alloc [(.cv .nils),(.cv .nils)]) [],jw 8 (.alloc [(.cv .nils),(.cv .nils)]) [],jw 9 (.alloc [(.cv .nils),(.cv .nils)]) [],jq (.store 2) [.v 7,.t 0],jq (.store 2) [.v 8,.t 1],jq (.store 2) [.v 9,.t 2]])
 (.seq (.region [jF 0 7,jq (.store 1) [.t 0,jS],jF 1 8,jq (.store 1) [.t 2,jS],jF 1 9,jq (.store 1) [.t 4,jS]])
 (.seq (.seq (.region [jz 10 0])
 (.block 0 (.loop ic13l3)))
 (.seq (.region [jz 13 0])
 (.seq (.seq (.region [jz 14 0])
 (.block 4 (.loop ic13l1)))
 (.seq (.region [jq (.iaA 3 1) [.v 3,jn 2],jl 0,jq (.conv .i64) [.t 1],jv 13,jq (.bin .sub .int) [jn 1440,.t 3],jq .min2 [.t 2,.t 4],jm 15 5])
 (.seq (.seq (.region [jz 16 0])
 (.block 6 (.loop ic13l0)))
 (.seq (.region [jN 2 7,jk 28 [.t 0],jt 1,jx 0 2,jx 1 2,jm 18 3,jm 19 4])
 (.seq (.region [jN 2 8,jk 28 [.t 0],jt 1,jx 0 2,jx 1 2,jm 20 3,jm 21 4])
 (.seq (.region [jN 2 9,jk 28 [.t 0],jt 1,jx 0 2,jx 1 2,jm 22 3,jm 23 4])
 (.seq (.region [jv 19,jq (.bin .eql .int) [.t 0,jn 0],jt 1,jh 2 true 21,jg 2 true (.bin .eql .int) [.t 3,jn 0],jq .pick [.t 2,.t 4,jB false],jt 5,jh 6 true 23,jg 6 true (.bin .eql .int) [.t 7,jn 0],jq .pick [.t 6,.t 8,jB false],jt 9,jh 10 true 18,jg 10 true (.len false) [.t 11],jh 10 true 5,jg 10 true (.len false) [.t 13],jg 10 true (.bin .leq .int) [.t 12,.t 14],jq .pick [.t 10,.t 15,jB false],jt 16,jh 17 true 20,jg 17 true (.len false) [.t 18],jh 17 true 5,jg 17 true (.len false) [.t 20],jg 17 true (.bin .add .int) [.t 21,jn 1],jg 17 true (.bin .leq .int) [.t 19,.t 22],jq .pick [.t 17,.t 23,jB false],jt 24,jh 25 true 20,jg 25 true (.len false) [.t 26],jh 25 true 5,jg 25 true (.len false) [.t 28],jg 25 true (.bin .sub .int) [.t 29,jn 1],jg 25 true (.bin .geq .int) [.t 27,.t 30],jq .pick [.t 25,.t 31,jB false],jt 32,jh 33 true 22,jh 33 true 5,jf 33 true 27 [.t 34,.t 35],jq .pick [.t 33,.t 36,jB false],jt 37,jf 38 true 22 [],jq .pick [.t 38,.t 39,jB false],jm 4 40])
 .ret)))))))))))))))
abbrev rs13:List RC:=[(.v 4)]
theorem fok13 (p:Bool):FnOk Tryz.prog 13 ⟨ic13,vs13,201,rs13,p⟩:=.mk2 Tryz.func13 (by kernel_rfl) (by kernel_rfl) (by kernel_rfl) (by kernel_rfl) (by kernel_rfl)
end Go.Proofs.YtgkidpolomhghaaGreatDoor.AM
namespace Go.Proofs.YtgkidpolomhghaaGreatDoor.AM
variable [Dr]
open Go Pl
theorem outF_alR {lo hi:Int} {zs:List Int} (h:∀ j,j<zs.length→inB (gI zs j) lo hi=true):outF lo hi zs=false:=by
 rw[VL]
 intro z hz
 obtain ⟨j,hj,rfl⟩:=WN.1 hz
 have:=VB.1 (h j hj)
 unfold gI at this
 rwa [QI hj] at this
theorem outF_exR {lo hi:Int} {zs:List Int} {j:Nat} (hj:j<zs.length) (h:inB (gI zs j) lo hi=false):outF lo hi zs=true:=by
 cases hh:outF lo hi zs with
 | true=>rfl
 | false =>
  rw[VB.2 (VL.1 hh _ (Qcs hj))] at h
  cases h
theorem outF_sgR {lo hi z:Int}:outF lo hi [z] = !inB z lo hi:=by
 cases h:inB z lo hi with
 | true =>
  refine outF_alR (zs:=[z]) fun j hj=>?_
  have:j=0:=by simpa using hj
  subst this;exact h
 | false=>exact outF_exR (zs:=[z]) (j:=0) (by simp) h
theorem outF_coR {lo hi z:Int} {zs:List Int}:outF lo hi (z::zs)=(!inB z lo hi||outF lo hi zs):=by
 rw[← outF_sgR]
 unfold outF
 simp
theorem le70 (d:Dy) (hd:DSz d) (i:Nat) (hi:i<d.mi.length):PC Tryz.prog 70 [dyV d,.i i] (.i (rowE d i)):=by
 refine ⟨ZF (fok70 true) (QC rfl) ?_,rfl⟩
 have hrow:=hd.row i hi
 unfold rowE
 simp only[ic70,WI,cellsOf,XP hi,W3,B7 hi,evA,simprocAttr]
 generalize d.mi[i]! = l at *
 by_cases h1:l.length=d.mi.length
 ·have hb:((l.length:Int) != d.mi.length)=false:=by rw[h1];simp
  rw[if_neg (fun h=>h h1)]
  simp only[hb,evA,simprocAttr]
  refine ZW l.length (fun k s=>(∀ j,j<k→inB (gI l j) 0 120=true)∧∃ v7 v8,s=⟨[dyV d,.i i,.ptr 0 0,.i 0,ints l,.i k,.b false,v7,v8,.undef],[.cells [.cv (minR d.mi),.cv (lesR d.ls)]]⟩) ?_ 0 (QF _) ⟨by omega,_,_,rfl⟩
  rintro k s hk ⟨hall,v7,v8,rfl⟩
  by_cases h:k<l.length
  ·simp only[ic70l0,QJ,h,J5 h,J4 h,evA,simprocAttr]
   refine (le64 _ 0 120).call frz ?_
   cases hin:inB (gI l k) 0 120 with
   | true =>
    have hin2:inB (l[k]?.getD 0) 0 120=true:=hin
    simp only[hin2,Q6 (show k+1<2 ^ 63 by omega),evA,simprocAttr]
    refine ZL (by first | trivial | omega) ⟨fun j hj=>?_,_,_,rfl⟩
    rcases QQ.1 hj with hj | rfl
    ·exact hall j hj
    ·exact hin
   | false =>
    have hin2:inB (l[k]?.getD 0) 0 120=false:=hin
    rw[outF_exR h hin]
    simp only[hin2,evA,simprocAttr]
    exact frz
  ·have hke:k=l.length:=by omega
   subst hke
   rw[outF_alR hall]
   have hil:i<l.length:=by omega
   simp only[ic70l0,QJ,h,J5 hil,J4 hil,evA,simprocAttr]
   by_cases h2:gI l i=0
   ·have hb2:(l[i]?.getD 0 != 0)=false:=by simpa using h2
    simp only[hb2,h2,ne_eq,not_true,evA,simprocAttr]
    exact frz
   ·have hb2:(l[i]?.getD 0 != 0)=true:=by simpa using h2
    simp only[hb2,h2,ne_eq,not_false_eq_true,evA,simprocAttr]
    exact frz
 ·have hb:((l.length:Int) != d.mi.length)=true:=by simp;omega
  rw[if_pos h1]
  simp only[hb,evA,simprocAttr]
  exact frz
theorem le71 (d:Dy) (hd:DSz d) (l:Les):PC Tryz.prog 71 [dyV d,lesA l] (.i (lesE d l)):=by
 refine ⟨ZF (fok71 true) (QC rfl) ?_,rfl⟩
 have h63:=hd.mi
 unfold lesE
 have hw:IntKind.i64.wrap ((d.mi.length:Int)-1)=(d.mi.length:Int)-1:=ZC (by omega)
 obtain ⟨le,te,ca,b,e,f,o⟩:=l
 have e1:outF 0 1440 [b,e]=(!inB b 0 1440 || !inB e 0 1440):=by rw[outF_coR,outF_sgR]
 have e2:outF 0 ((d.mi.length:Int)-1) [f,o]=(!inB f 0 ((d.mi.length:Int)-1) || !inB o 0 ((d.mi.length:Int)-1)):=by rw[outF_coR,outF_sgR]
 simp only
 rw[e1,e2]
 clear e1 e2
 simp only[ic71,WI,cellsOf,evA,simprocAttr]
 refine (le64 b 0 1440).call frz ?_
 cases h1:inB b 0 1440 with
 | false =>
  simp only[h1,US,evA,simprocAttr]
  exact frz
 | true =>
 simp only[h1,Y3,evA,simprocAttr]
 refine (le64 e 0 1440).call frz ?_
 cases h2:inB e 0 1440 with
 | false =>
  simp only[h2,US,evA,simprocAttr]
  exact frz
 | true =>
 simp only[h2,Y3,evA,simprocAttr]
 rw[show [AV.i le,.i te,.i ca]=[le,te,ca].map AV.i from rfl]
 generalize hzs:[le,te,ca]=zs
 have hz3:zs.length=3:=by rw[← hzs];rfl
 refine ZW 3 (fun k s=>(∀ j,j<k→inB (gI zs j) 0 7=true)∧∃ v8 v9,s=⟨[dyV d,lesA ⟨le,te,ca,b,e,f,o⟩,.ptr 0 0,.ptr 1 0,.i 0,.sl 2 0 3 1,.i k,.b false,v8,v9,.undef,.undef],[.cells [.cv (minR d.mi),.cv (lesR d.ls)],.cells [.i le,.i te,.i ca,.i b,.i e,.i f,.i o],.cells (zs.map AV.i)]⟩) ?_ 0 (QF _) ⟨by omega,_,_,rfl⟩
 rintro k s hk ⟨hall,v8,v9,rfl⟩
 by_cases h:k<3
 ·have hkz:k<zs.length:=by omega
  have hd3:decide ((k:Int)<3)=true:=decide_eq_true (by omega)
  simp only[ic71l0,hd3,W9 h,ZV,V1 hkz,evA,simprocAttr]
  refine (le64 _ 0 7).call frz ?_
  cases hin:inB (gI zs k) 0 7 with
  | true =>
   have hin2:inB (zs[k]?.getD 0) 0 7=true:=hin
   simp only[hin2,Q6 (show k+1<2 ^ 63 by omega),evA,simprocAttr]
   refine ZL (by first | trivial | omega) ⟨fun j hj=>?_,_,_,rfl⟩
   rcases QQ.1 hj with hj | rfl
   ·exact hall j hj
   ·exact hin
  | false =>
   have hin2:inB (zs[k]?.getD 0) 0 7=false:=hin
   rw[outF_exR hkz hin]
   simp only[hin2,evA,simprocAttr]
   exact frz
 ·have hke:k=3:=by omega
  subst hke
  rw[outF_alR (by rw[hz3];exact hall)]
  simp only[ic71l0,evA,simprocAttr]
  by_cases h3:b≥e
  ·simp only[h3,evA,simprocAttr]
   exact frz
  ·simp only[h3,hw,evA,simprocAttr]
   refine (le64 f 0 _).call frz ?_
   cases h4:inB f 0 ((d.mi.length:Int)-1) with
   | false =>
    simp only[h4,US,evA,simprocAttr]
    exact frz
   | true =>
    simp only[h4,hw,Y3,evA,simprocAttr]
    refine (le64 o 0 _).call frz ?_
    cases h5:inB o 0 ((d.mi.length:Int)-1) with
    | false =>
     simp only[h5,evA,simprocAttr]
     exact frz
    | true =>
     simp only[h5,evA,simprocAttr]
     exact frz
theorem le24 (d:Dy) (hd:DSz d):PC Tryz.prog 24 [dyV d] (chkA d):=by
 refine ⟨ZF (fok24 true) (QC rfl) ?_,rfl⟩
 simp only[ic24,WI,cellsOf,evA,simprocAttr]
 refine (le64 (d.mi.length:Int) 1 16).call frz ?_
 unfold chkA dyE
 rw[outF_sgR]
 cases h1:inB (d.mi.length:Int) 1 16 with
 | false =>
  simp only[h1,US,evA,simprocAttr]
  exact frz
 | true =>
 cases h2:decide ((d.ls.length:Int)>12) with
 | true =>
  simp only[h1,Y3,h2,evA,simprocAttr]
  exact frz
 | false =>
 simp only[h1,Y3,h2,evA,simprocAttr]
 have hm63:=hd.mi
 have hl63:=hd.ls
 refine ZW d.mi.length (fun k s=>(∀ j,j<k→rowE d j=0)∧∃ v6 v10 v11,s=⟨[dyV d,.ptr 0 0,.i 0,.i 0,.i 0,.i k,v6,.undef,.undef,.b false,v10,v11,.undef,.undef],[.cells [.cv (minR d.mi),.cv (lesR d.ls)]]⟩) ?_ 0 (QF _) ⟨by omega,_,_,_,rfl⟩
 rintro k s hk ⟨hall,v6,v10,v11,rfl⟩
 by_cases h:k<d.mi.length
 ·simp only[ic24l1,QJ,h,evA,simprocAttr]
  refine (le70 d hd k h).call frz ?_
  by_cases h0:rowE d k=0
  ·have hb:(rowE d k != 0)=false:=by simpa using h0
   simp only[hb,Q6 (show k+1<2 ^ 63 by omega),evA,simprocAttr]
   refine ZL (by first | trivial | omega) ⟨fun j hj=>?_,_,_,_,rfl⟩
   rcases QQ.1 hj with hj | rfl
   ·exact hall j hj
   ·exact h0
  ·have hb:(rowE d k != 0)=true:=by simpa using h0
   rw[VO d.mi.length 0 k (QF _) (by omega) (fun j _ hj=>hall j hj) h0]
   simp only[hb,h0,ne_eq,not_false_eq_true,evA,simprocAttr]
   exact frz
 ·have hke:k=d.mi.length:=by omega
  subst hke
  rw[J7 d.mi.length 0 fun j _ hj=>hall j (by omega)]
  simp only[ic24l1,QJ,h,ne_eq,not_true,evA,simprocAttr]
  refine ZW d.ls.length (fun k s=>(∀ j,j<k→lesE d d.ls[j]! = 0)∧∃ v8 v12 v13,s=⟨[dyV d,.ptr 0 0,.i 0,.i 0,.i 0,.i d.mi.length,v6,.i k,v8,.b false,.b false,v11,v12,v13],[.cells [.cv (minR d.mi),.cv (lesR d.ls)]]⟩) ?_ 0 (QF _) ⟨by omega,_,_,_,rfl⟩
  clear h hk hall
  rintro k s hk ⟨hall,v8,v12,v13,rfl⟩
  by_cases h:k<d.ls.length
  ·simp only[ic24l0,QJ,h,evA,simprocAttr]
   refine DW_s [6] [] hmix (by kernel_rfl) rfl ?_
   simp only[F5 h,Qcl h,evA,simprocAttr]
   refine YE ((le71 d hd d.ls[k]!).call frz ⟨rfl,rfl⟩) rfl ?_
   simp only[evA,simprocAttr]
   by_cases h0:lesE d d.ls[k]! = 0
   ·have hb:(lesE d d.ls[k]! != 0)=false:=by simpa using h0
    simp only[hb,Q6 (show k+1<2 ^ 63 by omega),evA,simprocAttr]
    refine ZL (by first | trivial | omega) ⟨fun j hj=>?_,_,_,_,rfl⟩
    rcases QQ.1 hj with hj | rfl
    ·exact hall j hj
    ·exact h0
   ·have hb:(lesE d d.ls[k]! != 0)=true:=by simpa using h0
    rw[VO d.ls.length 0 k (QF _) (by omega) (fun j _ hj=>hall j hj) h0]
    simp only[hb,h0,ne_eq,not_false_eq_true,evA,simprocAttr]
    exact frz
  ·have hke:k=d.ls.length:=by omega
   subst hke
   rw[J7 d.ls.length 0 fun j _ hj=>hall j (by omega)]
   simp only[ic24l0,QJ,h,ne_eq,not_true,evA,simprocAttr]
   exact frz
structure PtOk (ps:List Pat):Prop where
 p12:ps.length≤12
 sh:∀ k,k<ps.length→0≤(ps[k]!).1∧(ps[k]!).1<9223372036854775808
theorem le48 (d:Dy) (hd:DSz d):PC Tryz.prog 48 [dyV d] (.b ((dyE d).2.2 == 0)):=by
 have h24:=le24 d hd
 unfold chkA at h24
 refine ⟨ZF (fok48 true) (QC rfl) ?_,rfl⟩
 simp only[ic48,WI,cellsOf,evA,simprocAttr]
 refine h24.call frz ?_
 simp only[evA,simprocAttr]
 exact frz
structure ChOk (d:Dy) (C:List (List Nat)):Prop where
 ne:∀ c∈C,c≠[]
 rng:∀ c∈C,∀ x∈c,x<d.ls.length
 can:∀ c∈C,∀ j,j+1<c.length→canB d c[j]! c[j+1]! = true
 one:∀ k,k<d.ls.length→ME C k=1
 len:∀ c∈C,c.length<2 ^ 40
 num:C.length<2 ^ 40
end Go.Proofs.YtgkidpolomhghaaGreatDoor.AM
namespace Go.Proofs.YtgkidpolomhghaaGreatDoor.AM
open Go Pl
theorem typed_list {α:Type} {f:α→List CV} {p:α→Prop} {t:TypeId} (h:∀ cs,Typed Tryz.prog t cs→∃ x,cs=f x∧p x):∀ L:List (List CV),(∀ l∈L,Typed Tryz.prog t l)→∃ xs:List α,L.flatten=xs.flatMap f∧L.length=xs.length∧∀ x∈xs,p x
 | [],_=>⟨[],rfl,rfl,by simp⟩
 | l::L,hl=>by
  obtain ⟨x,h1,h2⟩:=h l (hl l (by simp))
  obtain ⟨xs,g1,g2,g3⟩:=typed_list h L fun l hh=>hl l (by simp[hh])
  exact ⟨x::xs,by simp[h1,g1],by simp[g2],by simpa using ⟨h2,g3⟩⟩
theorem get_of {α:Type} [Inhabited α] {p:α→Prop} {l:List α} (h:∀ x∈l,p x) (i:Nat) (hi:i<l.length):p l[i]! := by
 rw[getElem!_pos l i hi]
 exact h _ (Q2 hi)
theorem typed_i {cs:List CV} (h:Typed Tryz.prog 3 cs):∃ x:Int,cs=[.int .i64 x]:=by
 obtain ⟨n,rfl,_⟩:=QeV Tryz.underlying3 h
 exact ⟨n,rfl⟩
theorem typed_row {cs:List CV} (h:Typed Tryz.prog 23 cs):∃ zs:List Int,cs=[rowC zs]∧zs.length<2 ^ 63:=by
 obtain ⟨zs,h1,h2,_⟩:=typed_ints Tryz.underlying23 Tryz.underlying3 h
 exact ⟨zs,h1,h2⟩
theorem typed_les {cs:List CV} (h:Typed Tryz.prog 94 cs):∃ l:Les,cs=lesC l∧True:=by
 obtain ⟨L,rfl,hn,hf⟩:=typed_struct Tryz.underlying94 h
 match L,hn with
 | [a,b,c,d,e,f,g],_ =>
  obtain ⟨n1,rfl⟩:=typed_i (hf 0 _ a rfl rfl)
  obtain ⟨n2,rfl⟩:=typed_i (hf 1 _ b rfl rfl)
  obtain ⟨n3,rfl⟩:=typed_i (hf 2 _ c rfl rfl)
  obtain ⟨n4,rfl⟩:=typed_i (hf 3 _ d rfl rfl)
  obtain ⟨n5,rfl⟩:=typed_i (hf 4 _ e rfl rfl)
  obtain ⟨n6,rfl⟩:=typed_i (hf 5 _ f rfl rfl)
  obtain ⟨n7,rfl⟩:=typed_i (hf 6 _ g rfl rfl)
  exact ⟨⟨n1,n2,n3,n4,n5,n6,n7⟩,rfl,trivial⟩
theorem typed_dyc {cs:List CV} (h:Typed Tryz.prog 37 cs):∃ d:Dy,cs=[minR d.mi,lesR d.ls]∧DSz d:=by
 obtain ⟨L,rfl,hn,hf⟩:=typed_struct Tryz.underlying37 h
 match L,hn with
 | [a,b],_ =>
  obtain ⟨L1,rfl,n1,_,h1⟩:=QeU Tryz.underlying34 (hf 0 _ a rfl rfl)
  obtain ⟨L2,rfl,n2,_,h2⟩:=QeU Tryz.underlying35 (hf 1 _ b rfl rfl)
  obtain ⟨m,a1,a2,a3⟩:=typed_list (f:=fun zs:List Int=>[rowC zs]) (p:=fun zs=>zs.length<2 ^ 63) (fun cs h=>typed_row h) L1 h1
  obtain ⟨ls,b1,b2,_⟩:=typed_list (fun cs h=>typed_les h) L2 h2
  have hm:maxLen<2 ^ 63:=by decide
  refine ⟨⟨m,ls⟩,?_,⟨by show m.length<_;omega,by show ls.length<_;omega,get_of a3⟩⟩
  simp only[minR,lesR,F0,a1,b1,a2,b2,List.map_eq_flatMap,List.flatten_cons,List.flatten_nil,ZU,List.cons_append,List.nil_append]
theorem typed_day {cs:List CV} (h:Typed Tryz.prog 37 cs):∃ d:Dy,avOf Tryz.prog 37 cs=dyV d∧DSz d:=by
 obtain ⟨d,rfl,hd⟩:=typed_dyc h
 exact ⟨d,by simp only[avOf,Tryz.underlying37];rfl,hd⟩
structure BcOk (ps:List Pat) (l:List Int):Prop where
 few:fewL ps l=(HG (UJ ps l),XX ps (UJ ps l),0)
 len:(UJ ps l).length≤200
 rng:∀ x∈UJ ps l,x<ps.length
 srt:(UJ ps l).Pairwise (·≤·)
 eno:OS ps l (UJ ps l)
 least:∀ cs:List Nat,(∀ x∈cs,x<ps.length)→OS ps l cs→(UJ ps l).length<cs.length∨(UJ ps l).length=cs.length∧XX ps (UJ ps l)≤XX ps cs
theorem chF_len (nx:List Int):∀ f k,(chF nx f k).length≤f
 | 0,_=>QG _
 | f+1,k=>by
  unfold chF
  rw[List.length_cons]
  split
  ·simp
  ·have:=chF_len nx f (gI nx k).toNat;omega
theorem cha_ok {d:Dy} (hd:DyOk d):ChOk d (LQ (nxtL d) d.ls.length):=by
 have hw:=nxW hd
 have h12:=hd.l12
 have h40:(2:Nat) ^ 40=1099511627776:=by decide
 have hc:∀ c∈LQ (nxtL d) d.ls.length,∃ i,i<d.ls.length∧c=chF (nxtL d) (d.ls.length+1) i:=fun c hc=>by
  obtain ⟨i,hi,e⟩:=ZP.1 hc
  exact ⟨i,ZI.1 (YB.1 hi).1,e.symm⟩
 refine ⟨fun c h=>?_,fun c h=>?_,fun c h=>?_,fun k hk=>times_all hw hk,fun c h=>?_,?_⟩
 ·obtain ⟨i,_,rfl⟩:=hc c h
  unfold chF
  simp
 ·obtain ⟨i,hi,rfl⟩:=hc c h
  exact ch_mem hw _ _ hi
 ·obtain ⟨i,hi,rfl⟩:=hc c h
  intro j hj
  have h1:=ch_can hw _ _ hi j hj
  rw[QI (by omega),QI hj] at h1
  rw[getElem!_pos _ j (by omega),getElem!_pos _ (j+1) hj]
  exact h1
 ·obtain ⟨i,_,rfl⟩:=hc c h
  have:=chF_len (nxtL d) (d.ls.length+1) i
  omega
 ·unfold LQ DD
  rw[ZK]
  have:=HC (V3 (nxtL d)) (List.range d.ls.length)
  simp at this
  omega
theorem cha_num {d:Dy} (hd:DyOk d):(LQ (nxtL d) d.ls.length).length=d.ls.length-TH d:=by
 have h1:=heads_len (nxW hd)
 have h2:cnt (nxtL d).length (fun j=>decide (0≤gI (nxtL d) j))=TH d:=(nx_ok (can:=canB d) (n:=d.ls.length) d.ls.length 0 (fun _=>false) (by omega)).num
 rw[(nxW hd).len] at h2
 unfold LQ
 rw[ZK]
 omega
end Go.Proofs.YtgkidpolomhghaaGreatDoor.AM
namespace Go.Proofs.YtgkidpolomhghaaGreatDoor.AM
variable [Dr]
open Go Pl
theorem fndE_zero {g:Nat→Int}:∀ (k i:Nat),(∀ j,i≤j→j<i+k→g j=0)→(fndE g i k).2=0
 | 0,i,h=>rfl
 | k+1,i,h=>by
  unfold fndE
  rw[if_pos (h i (by omega) (by omega))]
  exact fndE_zero k (i+1) fun j h1 h2=>h j (by omega) (by omega)
theorem dyE_of {d:Dy} (h:DyOk d):(dyE d).2.2=0:=by
 unfold dyE
 have h1:=h.n1
 have h2:=h.n2
 have h3:=h.l12
 rw[if_neg,if_neg,if_neg]
 ·intro g
  refine g (fndE_zero _ _ fun j _ hj=>?_)
  obtain ⟨b0,be,e1,le,te,ca,f,o⟩:=h.les j (by omega)
  show lesE d d.ls[j]! = 0
  unfold lesE
  rw[if_neg,if_neg (by omega),if_neg]
  ·rw[Bool.not_eq_true,VL]
   intro z hz
   simp only[ZD,WK,or_false] at hz
   rcases hz with rfl | rfl <;> omega
  ·rw[Bool.not_eq_true,X8,VL,VL]
   refine ⟨fun z hz=>?_,fun z hz=>?_⟩
   ·simp only[ZD,WK,or_false] at hz
    rcases hz with rfl | rfl <;> omega
   ·simp only[ZD,WK,or_false] at hz
    rcases hz with rfl | rfl | rfl <;> omega
 ·intro g
  refine g (fndE_zero _ _ fun j _ hj=>?_)
  have hj:j<d.mi.length:=by omega
  unfold rowE
  rw[if_neg (by rw[h.row j hj];exact fun g=>g rfl),if_neg,if_neg (by rw[h.diag j hj];exact fun g=>g rfl)]
  rw[Bool.not_eq_true,VL]
  intro z hz
  obtain ⟨k,hk,rfl⟩:=WN.1 hz
  have:=h.rng j k hj (by rw[← h.row j hj];exact hk)
  unfold gI at this
  rwa [QI hk] at this
 ·rw[Bool.not_eq_true,X8,VL]
  refine ⟨fun z hz=>?_,decide_eq_false (by omega)⟩
  simp only[ZD,WK,or_false] at hz
  omega
theorem dsz_of {d:Dy} (h:DyOk d):DSz d:=by
 have h2:=h.n2
 have h3:=h.l12
 have h63:(2:Nat) ^ 63=9223372036854775808:=by decide
 exact ⟨by omega,by omega,fun i hi=>by rw[h.row i hi];omega⟩
def nrR (d:Dy) (x:Int) (i k:Nat):List Int:=(List.range k).map fun j=>max 0 (gI d.mi[i]! j-x)
def nrM (d:Dy) (x:Int) (i:Nat):List (List Int):=(List.range i).map fun a=>nrR d x a d.mi.length
def nrD (d:Dy) (x:Int):Dy:=⟨nrM d x d.mi.length,d.ls⟩
theorem nrR_succ (d:Dy) (x:Int) (i k:Nat):nrR d x i (k+1)=nrR d x i k++[max 0 (gI d.mi[i]! k-x)]:=by simp[nrR,WM]
theorem nrM_succ (d:Dy) (x:Int) (i:Nat):nrM d x (i+1)=nrM d x i++[nrR d x i d.mi.length]:=by simp[nrM,WM]
theorem nrR_len (d:Dy) (x:Int) (i k:Nat):(nrR d x i k).length=k:=by simp[nrR]
theorem nrM_len (d:Dy) (x:Int) (i:Nat):(nrM d x i).length=i:=by simp[nrM]
theorem nrM_get {d:Dy} {x:Int} {i n:Nat} (h:i<n):(nrM d x n)[i]! = nrR d x i d.mi.length:=by
 rw[getElem!_pos _ i (by rw[nrM_len];exact h)]
 simp[nrM]
theorem nrR_get {d:Dy} {x:Int} {i k n:Nat} (h:k<n):gI (nrR d x i n) k=max 0 (gI d.mi[i]! k-x):=by
 unfold gI nrR
 rw[ZR,List.getElem?_range h]
 rfl
theorem nr_ok {d:Dy} (h:DyOk d) {x:Int} (hx:0≤x):DyOk (nrD d x):=by
 have hl:(nrD d x).mi.length=d.mi.length:=nrM_len d x _
 refine ⟨by rw[hl];exact h.n1,by rw[hl];exact h.n2,h.l12,fun i hi=>?_,fun i k hi hk=>?_,fun i hi=>?_,fun i hi=>by rw[hl];exact h.les i hi⟩
 ·rw[hl] at hi ⊢
  show ((nrM d x d.mi.length)[i]!).length=_
  rw[nrM_get hi,nrR_len]
 ·rw[hl] at hi hk
  show 0≤gI (nrM d x d.mi.length)[i]! k∧gI (nrM d x d.mi.length)[i]! k≤120
  rw[nrM_get hi,nrR_get hk]
  have:=h.rng i k hi hk
  omega
 ·rw[hl] at hi
  show gI (nrM d x d.mi.length)[i]! i=0
  rw[nrM_get hi,nrR_get hi,h.diag i hi]
  omega
theorem nr_can {d:Dy} (h:DyOk d) {x:Int} (hx:0≤x) {i k:Nat} (hi:i<d.ls.length) (hk:k<d.ls.length) (hc:canB d i k=true):canB (nrD d x) i k=true:=by
 have h1:=(h.les i hi).o
 have h2:=(h.les k hk).f
 have ho:(d.ls[i]!).o.toNat<d.mi.length:=by omega
 have hf:(d.ls[k]!).f.toNat<d.mi.length:=by omega
 have hr:=h.rng _ _ ho hf
 unfold canB at hc ⊢
 have hc:=of_decide_eq_true hc
 refine decide_eq_true ?_
 show (d.ls[i]!).e+gI (nrM d x d.mi.length)[(d.ls[i]!).o.toNat]! (d.ls[k]!).f.toNat≤(d.ls[k]!).b
 rw[nrM_get ho,nrR_get hf]
 omega
theorem nr_many {d:Dy} (h:DyOk d) {x:Int} (hx:0≤x):TH d≤TH (nrD d x):=prF_mono fun i k hi hk hc=>nr_can h hx hi hk hc
def lsW (ls:List Les) (w i:Nat):List Les:=((List.range i).filter fun j=>j != w).map fun j=>ls[j]!
theorem lsW_succ (ls:List Les) (w i:Nat):lsW ls w (i+1)=lsW ls w i++if i=w then [] else [ls[i]!]:=by
 unfold lsW
 rw[WM,List.filter_append,ZS]
 by_cases h:i=w <;> simp[h]
theorem lsW_len (ls:List Les) (w:Nat):∀ i,(lsW ls w i).length=if w<i then i-1 else i
 | 0=>by simp[lsW]
 | i+1=>by
  rw[lsW_succ,QM,lsW_len ls w i]
  by_cases h:i=w
  ·subst h;simp
  ·rw[if_neg h]
   simp only[List.length_cons,List.length_nil]
   (repeat' split) <;> omega
theorem lsW_get (ls:List Les) (w:Nat):∀ i j,(lsW ls w i)[j]? = if upK w j<i then some ls[upK w j]! else none
 | 0,j=>by simp[lsW]
 | i + 1,j=>by
  rw[lsW_succ]
  by_cases h:i=w
  ·rw[if_pos h,ZU,lsW_get ls w i j]
   have:=@upK_ne w j
   by_cases h2:upK w j<i
   ·rw[if_pos h2,if_pos (by omega)]
   ·rw[if_neg h2,if_neg (by omega)]
  ·rw[if_neg h]
   have hl:=lsW_len ls w i
   have hu:upK w j=if j<w then j else j+1:=rfl
   by_cases h2:j<(lsW ls w i).length
   ·rw[QE h2,lsW_get ls w i j]
    have:upK w j<i:=by rw[hl] at h2;rw[hu];(repeat' split at h2) <;> split <;> omega
    rw[if_pos this,if_pos (by omega)]
   ·rw[QS (by omega)]
    by_cases h3:j=(lsW ls w i).length
    ·have:upK w j=i:=by rw[hu,h3,hl];(repeat' split) <;> omega
     rw[this,if_pos (by omega),h3,Nat.sub_self]
     rfl
    ·have:¬ upK w j<i+1:=by rw[hu];rw[hl] at h2 h3;(repeat' split at h2) <;> (repeat' split at h3) <;> split <;> omega
     rw[if_neg this,QN]
     simp only[List.length_cons,List.length_nil]
     omega
def lsD (d:Dy) (w:Nat):Dy:=⟨d.mi,lsW d.ls w d.ls.length⟩
theorem lsD_len {d:Dy} {w:Nat} (h:w<d.ls.length):(lsD d w).ls.length=d.ls.length-1:=by
 show (lsW d.ls w d.ls.length).length=_
 rw[lsW_len,if_pos h]
theorem lsD_get {d:Dy} {w i:Nat} (h:w<d.ls.length) (hi:i<d.ls.length-1):(lsD d w).ls[i]! = d.ls[upK w i]! := by
 show (lsW d.ls w d.ls.length)[i]! = _
 rw[List.getElem!_eq_getElem?_getD,lsW_get,if_pos (by have:=@BG w i (d.ls.length-1) hi;omega)]
 rfl
theorem lsD_ok {d:Dy} (h:DyOk d) {w:Nat}:DyOk (lsD d w):=by
 have hl:(lsD d w).ls.length≤d.ls.length:=by
  show (lsW d.ls w d.ls.length).length≤_
  rw[lsW_len];split <;> omega
 refine ⟨h.n1,h.n2,YR hl h.l12,h.row,h.rng,h.diag,fun i hi=>?_⟩
 have:(lsD d w).ls[i]! = d.ls[upK w i]!∧upK w i<d.ls.length:=by
  show (lsW d.ls w d.ls.length)[i]! = _∧_
  have hi:i<(lsW d.ls w d.ls.length).length:=hi
  have hg:=lsW_get d.ls w d.ls.length i
  rw[QI hi] at hg
  split at hg
  ·rename_i hu
   rw[getElem!_pos _ i hi]
   exact ⟨Option.some.inj hg,hu⟩
  ·cases hg
 rw[this.1]
 exact h.les _ this.2
theorem ls_two {d:Dy} {w:Nat} (h:w<d.ls.length):TH (lsD d w)≤TH d∧TH d≤TH (lsD d w)+2:=by
 obtain ⟨n,hn⟩:∃ n,d.ls.length=n+1:=⟨d.ls.length-1,by omega⟩
 have hl:(lsD d w).ls.length=n:=by rw[lsD_len h];omega
 have hs:TH (lsD d w)=prF (fun i k=>canB d (upK w i) (upK w k)) n n 0 (fun _=>false):=by
  unfold TH
  rw[hl]
  refine IX (fun i k hi hk=>?_) n 0 _ (by omega)
  unfold canB
  rw[lsD_get h (by omega),lsD_get h (by omega)]
  rfl
 have hd:TH d=prF (canB d) (n+1) (n+1) 0 (fun _=>false):=by unfold TH;rw[hn]
 rw[hs,hd]
 exact ⟨prF_less (by omega),prF_two (by omega)⟩
def shL (b:Int) (l:Les):Les:={ l with b:=l.b+b,e:=l.e+b }
def ltL (ls:List Les) (b:Int) (i:Nat):List Les:=(List.range i).map fun j=>shL b ls[j]!
def ltD (d:Dy) (b:Int):Dy:=⟨d.mi,ltL d.ls b d.ls.length⟩
theorem ltL_succ (ls:List Les) (b:Int) (i:Nat):ltL ls b (i+1)=ltL ls b i++[shL b ls[i]!]:=by simp[ltL,WM]
theorem ltL_len (ls:List Les) (b:Int) (i:Nat):(ltL ls b i).length=i:=by simp[ltL]
theorem ltD_get {d:Dy} {b:Int} {i:Nat} (h:i<d.ls.length):(ltD d b).ls[i]! = shL b d.ls[i]! := by
 show (ltL d.ls b d.ls.length)[i]! = _
 rw[getElem!_pos _ i (by rw[ltL_len];exact h)]
 simp[ltL]
def mxE (ls:List Les):Nat→Int
 | 0=>0
 | i+1=>max (mxE ls i) (ls[i]!).e
theorem mxE_ge (ls:List Les):∀ i j,j<i→(ls[j]!).e≤mxE ls i
 | i+1,j,h=>by
  unfold mxE
  by_cases e:j=i
  ·subst e;omega
  ·have:=mxE_ge ls i j (by omega);omega
theorem mxE_bd {d:Dy} (h:DyOk d):∀ i,i≤d.ls.length→0≤mxE d.ls i∧mxE d.ls i≤1440
 | 0,_=>by unfold mxE;omega
 | i+1,hi=>by
  have:=mxE_bd h i (by omega)
  have:=(h.les i (by omega)).e1
  unfold mxE
  omega
theorem lt_ok {d:Dy} (h:DyOk d) {b:Int} (h0:0≤b) (h1:b≤1440-mxE d.ls d.ls.length):DyOk (ltD d b):=by
 have hl:(ltD d b).ls.length=d.ls.length:=ltL_len _ _ _
 refine ⟨h.n1,h.n2,by rw[hl];exact h.l12,h.row,h.rng,h.diag,fun i hi=>?_⟩
 rw[hl] at hi
 rw[ltD_get hi]
 have hm:=mxE_ge d.ls d.ls.length i hi
 obtain ⟨b0,be,e1,le,te,ca,f,o⟩:=h.les i hi
 exact ⟨by show 0≤(d.ls[i]!).b+b;omega,by show (d.ls[i]!).b+b<(d.ls[i]!).e+b;omega,by show (d.ls[i]!).e+b≤1440;omega,le,te,ca,f,o⟩
theorem lt_can {d:Dy} {b:Int} {i k:Nat} (hi:i<d.ls.length) (hk:k<d.ls.length):canB (ltD d b) i k=canB d i k:=by
 unfold canB
 rw[ltD_get hi,ltD_get hk,decide_eq_decide]
 show (d.ls[i]!).e+b+_≤(d.ls[k]!).b+b↔_
 have:(ltD d b).mi=d.mi:=rfl
 rw[this]
 constructor <;> intro h <;> (simp only[shL] at *;omega)
theorem lt_cha {d:Dy} {b:Int}:chaL (ltD d b)=chaL d:=by
 have hl:(ltD d b).ls.length=d.ls.length:=ltL_len _ _ _
 unfold chaL nxtL
 rw[hl,nxL_same (fun i k hi hk=>lt_can hi hk) _ _ _ (by omega)]
end Go.Proofs.YtgkidpolomhghaaGreatDoor.AM
namespace Go.Proofs.YtgkidpolomhghaaGreatDoor.AM
open Go Pl
theorem app_srcK {e by_ l n m:Nat} {σ:List AObj} {xs cs:List CV} {w:AV} (hr:rowOf σ l=some (xs.map .cv)) (hs:Z9 σ e w=some (cs.map .cv)) (hw:lenF w=some m) (hx:xs.length=n*e) (hc:cs.length=m*e) (hb:(n+m)*by_≤2 ^ 44) (hn:n+m≤2 ^ 44) :
  ZX e by_ [.sl l 0 n e,w] σ=some (.sl σ.length 0 (n+m) e,σ.set l .dead++[.cells ((xs++cs).map .cv)]):=by
 have hsc:(cs.map AV.cv).all AV.isSc=true:=by
  rw[Q1]
  intro x hx
  obtain ⟨z,_,rfl⟩:=ZP.1 hx
  rfl
 simp only[ZX,hr,hs,hw,Option.bind_some]
 have h1:True∧n*e≤(xs.map AV.cv).length∧m*e=(cs.map AV.cv).length∧(n+m)*by_≤2 ^ 44∧n+m≤2 ^ 44∧(cs.map AV.cv).all AV.isSc=true:=⟨trivial,by simp[hx],by simp[hc],hb,hn,hsc⟩
 rw[if_pos h1,Q5 (by simp[hx]),ZS]
theorem app_nilI {e by_ m:Nat} {σ:List AObj} {cs:List CV} {w:AV} (hs:Z9 σ e w=some (cs.map .cv)) (hw:lenF w=some m) (hm:m≠0) (hc:cs.length=m*e) (hb:m*by_≤2 ^ 44) (hn:m≤2 ^ 44) :
  ZX e by_ [.cv .nils,w] σ=some (.sl σ.length 0 m e,σ++[.cells (cs.map .cv)]):=by
 have hsc:(cs.map AV.cv).all AV.isSc=true:=by
  rw[Q1]
  intro x hx
  obtain ⟨z,_,rfl⟩:=ZP.1 hx
  rfl
 simp only[ZX,hs,hw,Option.bind_some]
 rw[if_neg hm,if_pos ⟨by simp[hc],hb,hn,hsc⟩]
def Two (b:Nat) (H:List AObj) (v w:AV) (P Q:List Int):Prop:=G9 b H v P∧G9 b H w Q∧(∀ l n n',v=.sl l 0 n 1→w≠.sl l 0 n' 1)∧(P=[]→v=.cv .nils)∧(Q=[]→w=.cv .nils)
theorem Two.symm {b:Nat} {H:List AObj} {v w:AV} {P Q:List Int} (h:Two b H v w P Q):Two b H w v Q P:=⟨h.2.1,h.1,fun l n n' e e'=>h.2.2.1 l n' n e' e,h.2.2.2.2,h.2.2.2.1⟩
abbrev u8a (x0 x1 x2:Int):List AV:=[.cv (.int .u8 x0),.cv (.int .u8 x1),.cv (.int .u8 x2)]
abbrev H13 (d:Dy) (x0 x1 x2:Int) (v:AV) (J:List AObj):List AObj:=.cells [.cv (minR d.mi),.cv (lesR d.ls)] :: .cells (u8a x0 x1 x2) :: .cells [v,.cv (lesR d.ls)] :: .cells [.cv (minR d.mi),.cv .nils] :: .cells [.cv (minR d.mi),.cv .nils]::J
abbrev V13 (d:Dy) (x0 x1 x2:Int) (C:CV) (k:Nat) (v11 v12 v26 v27:AV):List AV:=[dyV d,.agg (u8a x0 x1 x2),.ptr 0 0,.ptr 1 0,.b false,.cv C,.i 0,.ptr 2 0,.ptr 3 0,.ptr 4 0,.i k,v11,v12,.undef,.undef,.undef,.undef,.undef,.undef,.undef,.undef,.undef,.undef,.undef,.b false,.b false,v26,v27,.undef,.undef,.undef]
theorem turns_mk {k:Nat} {σ:List AObj}:∀ vs:List AV,(∀ v∈vs,QR k v=true)→D2 k σ vs vs
 | [],_=>.nil
 | v::vs,h=>.cons (.inl ⟨rfl,h v (by simp)⟩) (turns_mk vs fun w hw=>h w (by simp[hw]))
theorem row13 {Q:Exit→St→Prop} (d:Dy) (hd:DyOk d) (x0 x1 x2:Int) (hx:0≤x0∧x0≤255) (C:CV) (k:Nat) (hk:k<d.mi.length) (v27:AV) (L:List AObj)
  (r0:rowOf L 0=some [.cv (minR d.mi),.cv (lesR d.ls)]) (r1:rowOf L 1=some (u8a x0 x1 x2)) (h5:5≤L.length) (hL:∀ o∈L,o.live∧Z3 L.length o=true)
  (hend:∀ v27,Q (.exit 2) ⟨V13 d x0 x1 x2 C k (ints (nrR d x0 k d.mi.length)) (.i d.mi.length) (.b true) v27,L⟩) :
  IL Tryz.prog ⟨vs13,201,none,0⟩ ic13l2 ⟨V13 d x0 x1 x2 C k (.cv .nils) (.i 0) (.b true) v27,L⟩ Q:=by
 have n1:=hd.n1
 have n2:=hd.n2
 refine ZW d.mi.length (fun j s=>(j<d.mi.length∧∃ v11 v27 K,VH L.length 1 (L++K) v11 j ((nrR d x0 k j).map (.int .i64))∧s=⟨V13 d x0 x1 x2 C k v11 (.i j) (.b true) v27,L++K⟩)∨(j=d.mi.length∧∃ v27,s=⟨V13 d x0 x1 x2 C k (ints (nrR d x0 k d.mi.length)) (.i d.mi.length) (.b true) v27,L⟩)) ?_ 0 (QF _) (.inl ⟨by omega,_,_,[],.inl ⟨rfl,rfl,rfl⟩,by rw[ZU];rfl⟩)
 rintro j s hj (⟨h,v11,v27,K,hacc,rfl⟩ | ⟨rfl,v27,rfl⟩)
 ·have r0K:=ZH r0 K
  have r1K:=ZH r1 K
  have hA0:∀ σ,PD 3 1 [.ptr 1 0,.i 0] σ=some (.ptr 1 0,σ):=fun _=>rfl
  have hkj:j<(d.mi[k]!).length:=by rw[hd.row k hk];exact h
  have hr:=hd.rng k j hk h
  have hcv:IntKind.i64.wrap x0=x0:=ZC (by omega)
  have hw:IntKind.i64.wrap (gI d.mi[k]! j-x0)=gI d.mi[k]! j-x0:=ZC (by omega)
  have hmx:(if gI d.mi[k]! j-x0>0 then gI d.mi[k]! j-x0 else 0)=max 0 (gI d.mi[k]! j-x0):=Qad _
  obtain ⟨v',σ',ha,hacc',hlow,hlen⟩:=K3 (by_:=8) (x:=[.int .i64 (max 0 (gI d.mi[k]! j-x0))]) (by simp) hacc rfl (by omega) (by omega)
  rw[show (nrR d x0 k j).map (.int .i64)++[CV.int .i64 (max 0 (gI d.mi[k]! j-x0))]=(nrR d x0 k (j+1)).map (.int .i64) by rw[nrR_succ];simp] at hacc'
  obtain ⟨K',rfl⟩:=AG (σ:=L) (by simp at hlen;omega) fun i hi=>(hlow i hi).trans (QE hi)
  have ha2:ZX 1 8 [v11,.sl (L++K).length 0 1 1] ((L++K)++[AObj.cells [.i (max 0 (gI d.mi[k]! j-x0))]])=some (v',L++K'):=ha
  simp only[V13,ic13l2,r0K,QJ,h,evA,simprocAttr]
  refine DW_s [] [] hmix (by kernel_rfl) rfl ?_
  simp only[r0K,r1K,hA0,XP hk,W3,B7 hk,J5 hkj,J4 hkj,WA,hcv,hw,GT,hmx,ha2,evA,simprocAttr]
  by_cases hl:j+1<d.mi.length
  ·exact ZL (by first | trivial | omega) (.inl ⟨hl,_,_,K',hacc',by rw[ZC (by omega)];rfl⟩)
  ·have hje:j+1=d.mi.length:=by omega
   have hwn:IntKind.i64.wrap ((j:Int)+1)=(d.mi.length:Int):=by rw[ZC (by omega)];omega
   rw[hwn]
   have hfz:FrzV anyC (List.replicate L.length .dead++K') v' (ints (nrR d x0 k d.mi.length)):=by
    rw[hje] at hacc'
    rcases hacc' with ⟨_,h0,_⟩ | ⟨l,h1,rfl,_,h3⟩
    ·omega
    ·have hg:rowOf (List.replicate L.length .dead++K') l=some ((nrR d x0 k d.mi.length).map AV.i):=by
      rw[XW] at h3
      unfold rowOf at h3 ⊢
      rw[QS (by simpa using h1)]
      rw[QS h1] at h3
      rw[List.length_replicate]
      exact h3
     have:=TN (p:=anyC) (fun _=>trivial) hg
     rwa [nrR_len] at this
   have hlo:∀ i,i<5→decide (i<L.length)=true:=fun i hi=>decide_eq_true (by omega)
   refine kFor_turn L L K' rfl (by first | trivial | omega) rfl rfl ?_ (fun l o ho=>⟨o,ho,(hL o (QZ ho)).1,.inl ⟨rfl,(hL o (QZ ho)).2⟩⟩) (.inr ⟨hje,.b true,rfl⟩)
   have t:∀ vs:List AV,(∀ v∈vs,QR L.length v=true)→D2 L.length (List.replicate L.length .dead++K') vs vs:=fun vs h=>turns_mk vs h
   have c:∀ c:CV,Turn1 L.length (List.replicate L.length .dead++K') (.cv c) (.cv c):=fun c=>.inl ⟨rfl,rfl⟩
   have u:Turn1 L.length (List.replicate L.length .dead++K') .undef .undef:=.inl ⟨rfl,rfl⟩
   have q:∀ i,i<5→Turn1 L.length (List.replicate L.length .dead++K') (.ptr i 0) (.ptr i 0):=fun i hi=>.inl ⟨rfl,hlo i hi⟩
   exact .cons (.inl ⟨rfl,rfl⟩) (.cons (.inl ⟨rfl,rfl⟩) (.cons (q 0 (by omega)) (.cons (q 1 (by omega)) (.cons (c _) (.cons (c _) (.cons (c _) (.cons (q 2 (by omega)) (.cons (q 3 (by omega)) (.cons (q 4 (by omega)) (.cons (c _) (.cons (.inr hfz) (.cons (c _) (.cons u (.cons u (.cons u (.cons u (.cons u (.cons u (.cons u (.cons u (.cons u (.cons u (.cons u (.cons (c _) (.cons (c _) (.cons (c _) (.cons (c _) (.cons u (.cons u (.cons u .nil))))))))))))))))))))))))))))))
 ·have h:¬ d.mi.length<d.mi.length:=Nat.lt_irrefl _
  simp only[V13,ic13l2,r0,QJ,h,evA,simprocAttr]
  exact hend _
abbrev g13 (q:Nat):Nat→Nat:=fun x=>if x=5 then q else x
theorem turn13 {fx:Fx} {c:Prop} {S:St→Prop} {Q:Exit→St→Prop} (h0:fx.n0=0) (hc:c) (d:Dy) (x0 x1 x2:Int) (C:CV) {k q n:Nat} {v11 v12 v26 v27:AV} {cs:List CV} {J:List AObj}
  (hq:5≤q) (hJ:J[q-5]? = some (.cells (cs.map .cv)))
  (h:S ⟨V13 d x0 x1 x2 C k .undef .undef .undef .undef,H13 d x0 x1 x2 (.sl 5 0 n 1) [.cells (cs.map .cv)]⟩) :
  kFor fx c S Q .normal ⟨V13 d x0 x1 x2 C k v11 v12 v26 v27,H13 d x0 x1 x2 (.sl q 0 n 1) J⟩:=by
 refine AS hc (Weak.move (g:=g13 q) (σf:=List.replicate (J.length+5) .dead) h0 ?_ (by simp) ?_ ?_ ?_) h
 ·intro a b hab hb
  have hb:b<6:=hb
  show (if a=5 then q else a)<(if b=5 then q else b)
  repeat' split
  all_goals omega
 ·intro l o ho
  rw[YN] at ho
  split at ho
  ·exact .inl (Option.some.inj ho).symm
  ·cases ho
 ·have u:∀ v,Move1 (g13 q) 6 (List.replicate (J.length+5) .dead) v .undef:=fun v=>.inr (.un _)
  have cl:∀ v,ren (g13 q) v=v∧QR 6 v=true→Move1 (g13 q) 6 (List.replicate (J.length+5) .dead) v v:=fun v hv=>.inl ⟨hv.1.symm,hv.2⟩
  exact .cons (cl _ ⟨rfl,rfl⟩) (.cons (cl _ ⟨rfl,rfl⟩) (.cons (cl _ ⟨rfl,rfl⟩) (.cons (cl _ ⟨rfl,rfl⟩) (.cons (cl _ ⟨rfl,rfl⟩) (.cons (cl _ ⟨rfl,rfl⟩) (.cons (cl _ ⟨rfl,rfl⟩) (.cons (cl _ ⟨rfl,rfl⟩) (.cons (cl _ ⟨rfl,rfl⟩) (.cons (cl _ ⟨rfl,rfl⟩) (.cons (cl _ ⟨rfl,rfl⟩) (.cons (u _) (.cons (u _) (.cons (u _) (.cons (u _) (.cons (u _) (.cons (u _) (.cons (u _) (.cons (u _) (.cons (u _) (.cons (u _) (.cons (u _) (.cons (u _) (.cons (u _) (.cons (cl _ ⟨rfl,rfl⟩) (.cons (cl _ ⟨rfl,rfl⟩) (.cons (u _) (.cons (u _) (.cons (u _) (.cons (u _) (.cons (u _) .nil))))))))))))))))))))))))))))))
 ·intro l o2 ho
  match l,ho with
  | 0,ho=>cases ho;exact ⟨_,rfl,trivial,.inl ⟨rfl,rfl⟩⟩
  | 1,ho=>cases ho;exact ⟨_,rfl,trivial,.inl ⟨rfl,rfl⟩⟩
  | 2,ho=>cases ho;exact ⟨_,rfl,trivial,.inl ⟨rfl,rfl⟩⟩
  | 3,ho=>cases ho;exact ⟨_,rfl,trivial,.inl ⟨rfl,rfl⟩⟩
  | 4,ho=>cases ho;exact ⟨_,rfl,trivial,.inl ⟨rfl,rfl⟩⟩
  | 5,ho =>
   cases ho
   have hrc:∀ cs:List CV,rens (g13 q) (cs.map AV.cv)=cs.map AV.cv:=fun cs=>by
    induction cs with
    | nil=>rfl
    | cons c cs ih=>rw[Q0,rens,ih];rfl
   refine ⟨.cells (cs.map .cv),?_,trivial,.inl ⟨?_,?_⟩⟩
   ·obtain ⟨r,rfl⟩:∃ r,q=r+5:=⟨q-5,by omega⟩
    have e:g13 (r+5) 5=r+5:=if_pos rfl
    rw[e]
    simpa[H13] using hJ
   ·show _=AObj.cells (rens _ _);rw[hrc]
   ·show QO 6 _=true
    rw[Z8]
    intro v hv
    obtain ⟨c,_,rfl⟩:=ZP.1 hv
    rfl
theorem frz13 {fx:Fx} {c:Prop} {S:St→Prop} {Q:Exit→St→Prop} (h0:fx.n0=0) (hc:c) (d:Dy) (x0 x1 x2:Int) (C:CV) {k q n:Nat} {v11 v12 v26 v27:AV} {cs:List CV} {J:List AObj}
  (hq:5≤q) (hJ:J[q-5]? = some (.cells (cs.map .cv))) (hn:cs.length=n)
  (h:S ⟨V13 d x0 x1 x2 C k .undef .undef .undef .undef,H13 d x0 x1 x2 (.cv (.rsl cs n)) []⟩) :
  kFor fx c S Q .normal ⟨V13 d x0 x1 x2 C k v11 v12 v26 v27,H13 d x0 x1 x2 (.sl q 0 n 1) J⟩:=by
 subst hn
 have u:∀ v,Turn1 5 (List.replicate 5 .dead++J) v .undef:=fun v=>.inr (.un _)
 have cl:∀ v,QR 5 v=true→Turn1 5 (List.replicate 5 .dead++J) v v:=fun v hv=>.inl ⟨rfl,hv⟩
 have hz:FrzV anyC (List.replicate 5 .dead++J) (.sl q 0 cs.length 1) (.cv (.rsl cs cs.length)):=by
  refine GI (.inr ⟨q,rfl,by simp,?_⟩) fun _ _=>trivial
  unfold rowOf
  rw[QS (by simpa using hq)]
  show (match J[q-5]? with | some (.cells cs)=>some cs | _=>none)=_
  rw[hJ]
 refine kFor_turn (H13 d x0 x1 x2 (.sl q 0 cs.length 1) []) (H13 d x0 x1 x2 (.cv (.rsl cs cs.length)) []) J rfl hc h0 rfl ?_ ?_ h
 ·exact .cons (cl _ rfl) (.cons (cl _ rfl) (.cons (cl _ rfl) (.cons (cl _ rfl) (.cons (cl _ rfl) (.cons (cl _ rfl) (.cons (cl _ rfl) (.cons (cl _ rfl) (.cons (cl _ rfl) (.cons (cl _ rfl) (.cons (cl _ rfl) (.cons (u _) (.cons (u _) (.cons (u _) (.cons (u _) (.cons (u _) (.cons (u _) (.cons (u _) (.cons (u _) (.cons (u _) (.cons (u _) (.cons (u _) (.cons (u _) (.cons (u _) (.cons (cl _ rfl) (.cons (cl _ rfl) (.cons (u _) (.cons (u _) (.cons (u _) (.cons (u _) (.cons (u _) .nil))))))))))))))))))))))))))))))
 ·intro l o2 ho
  match l,ho with
  | 0,ho=>cases ho;exact ⟨_,rfl,trivial,.inl ⟨rfl,rfl⟩⟩
  | 1,ho=>cases ho;exact ⟨_,rfl,trivial,.inl ⟨rfl,rfl⟩⟩
  | 2,ho=>cases ho;exact ⟨_,rfl,trivial,.inr ⟨_,_,rfl,rfl,.cons (.inr hz) (.cons (.inl ⟨rfl,rfl⟩) .nil)⟩⟩
  | 3,ho=>cases ho;exact ⟨_,rfl,trivial,.inl ⟨rfl,rfl⟩⟩
  | 4,ho=>cases ho;exact ⟨_,rfl,trivial,.inl ⟨rfl,rfl⟩⟩
theorem near13 {Q:Exit→St→Prop} (d:Dy) (hd:DyOk d) (x0 x1 x2:Int) (hx:0≤x0∧x0≤255) (C:CV)
  (hend:∀ v11 v12 v27,Q (.exit 0) ⟨V13 d x0 x1 x2 C d.mi.length v11 v12 (.b false) v27,H13 d x0 x1 x2 (.cv (minR (nrM d x0 d.mi.length))) []⟩) :
  IL Tryz.prog ⟨vs13,201,none,0⟩ ic13l3 ⟨V13 d x0 x1 x2 C 0 .undef .undef .undef .undef,H13 d x0 x1 x2 (.cv .nils) []⟩ Q:=by
 have n1:=hd.n1
 have n2:=hd.n2
 refine ZW d.mi.length (fun k s=>(k<d.mi.length∧∃ v11 v12 v26 v27 vmi J,(k=0∧vmi=.cv .nils∧J=[]∨0<k∧vmi=.sl 5 0 k 1∧J=[.cells (((nrM d x0 k).map rowC).map .cv)])∧s=⟨V13 d x0 x1 x2 C k v11 v12 v26 v27,H13 d x0 x1 x2 vmi J⟩)∨(k=d.mi.length∧∃ v11 v12 v26 v27,s=⟨V13 d x0 x1 x2 C d.mi.length v11 v12 v26 v27,H13 d x0 x1 x2 (.cv (minR (nrM d x0 d.mi.length))) []⟩)) ?_ 0 (QF _) (.inl ⟨by omega,_,_,_,_,_,_,.inl ⟨rfl,rfl,rfl⟩,rfl⟩)
 rintro k s hk (⟨h,v11,v12,v26,v27,vmi,J,hJ,rfl⟩ | ⟨rfl,v11,v12,v26,v27,rfl⟩)
 ·have hw:=Q6 (show k+1<2 ^ 63 by omega)
  have hrl:=nrM_len d x0 k
  have hms:(nrM d x0 (k+1)).map rowC=(nrM d x0 k).map rowC++[rowC (nrR d x0 k d.mi.length)]:=by rw[nrM_succ,ZS];rfl
  rcases hJ with ⟨hk0,rfl,rfl⟩ | ⟨hk0,rfl,rfl⟩
  ·have hm1:[rowC (nrR d x0 k d.mi.length)]=(nrM d x0 (k+1)).map rowC:=by rw[hms,hk0];rfl
   have a7:=app_nilI (e:=1) (by_:=24) (m:=1) (σ:=H13 d x0 x1 x2 (.cv .nils) []++[AObj.cells [ints (nrR d x0 k d.mi.length)]]) (cs:=[rowC (nrR d x0 k d.mi.length)]) (w:=.sl 5 0 1 1) rfl rfl (by decide) rfl (by decide) (by decide)
   rw[hm1] at a7
   simp only[H13,List.cons_append,List.nil_append,List.length_cons,List.length_nil] at a7
   simp only[V13,H13,ic13l3,QJ,h,evA,simprocAttr]
   refine row13 d hd x0 x1 x2 hx C k h _ (H13 d x0 x1 x2 (.cv .nils) []) rfl rfl (by simp) ?_ ?_
   ·intro o ho
    simp only[ZD,WK,or_false] at ho
    rcases ho with rfl | rfl | rfl | rfl | rfl <;> exact ⟨trivial,rfl⟩
   intro v27
   simp only[a7,hw,evA,simprocAttr]
   have hk1:(1:Nat)=k+1:=by omega
   have hnn:(nrM d x0 (k+1)).length=1:=by rw[nrM_len,hk0]
   by_cases hl:k+1<d.mi.length
   ·exact turn13 rfl (by first | trivial | omega) d x0 x1 x2 C (q:=6) (n:=1) (cs:=(nrM d x0 (k+1)).map rowC) (by decide) rfl (.inl ⟨hl,_,_,_,_,_,_,.inr ⟨by omega,by rw[← hk1],rfl⟩,rfl⟩)
   ·have hn:d.mi.length=k+1:=by omega
    exact frz13 rfl (by first | trivial | omega) d x0 x1 x2 C (q:=6) (n:=1) (cs:=(nrM d x0 (k+1)).map rowC) (by decide) rfl (by simp[nrM_len];omega) (.inr ⟨by omega,.undef,.undef,.undef,.undef,by rw[hn];simp only[minR];rw[hnn]⟩)
  ·have a7:=app_srcK (e:=1) (by_:=24) (l:=5) (n:=k) (m:=1) (σ:=H13 d x0 x1 x2 (.sl 5 0 k 1) [.cells (((nrM d x0 k).map rowC).map .cv)]++[AObj.cells [ints (nrR d x0 k d.mi.length)]]) (xs:=(nrM d x0 k).map rowC) (cs:=[rowC (nrR d x0 k d.mi.length)]) (w:=.sl 6 0 1 1) rfl rfl rfl (by simp[hrl]) rfl (by omega) (by omega)
   rw[← hms] at a7
   simp only[H13,List.cons_append,List.nil_append,List.length_cons,List.length_nil] at a7
   simp only[V13,H13,ic13l3,QJ,h,evA,simprocAttr]
   refine row13 d hd x0 x1 x2 hx C k h _ (H13 d x0 x1 x2 (.sl 5 0 k 1) [.cells (((nrM d x0 k).map rowC).map .cv)]) rfl rfl (by simp) ?_ ?_
   ·intro o ho
    simp only[ZD,WK,or_false] at ho
    rcases ho with rfl | rfl | rfl | rfl | rfl | rfl
    ·exact ⟨trivial,rfl⟩
    ·exact ⟨trivial,rfl⟩
    ·exact ⟨trivial,rfl⟩
    ·exact ⟨trivial,rfl⟩
    ·exact ⟨trivial,rfl⟩
    ·refine ⟨trivial,?_⟩
     show QO _ _=true
     rw[Z8]
     intro v hv
     obtain ⟨c,_,rfl⟩:=ZP.1 hv
     rfl
   intro v27
   simp only[a7,hw,evA,simprocAttr]
   by_cases hl:k+1<d.mi.length
   ·exact turn13 rfl (by first | trivial | omega) d x0 x1 x2 C (q:=7) (n:=k+1) (cs:=(nrM d x0 (k+1)).map rowC) (by decide) rfl (.inl ⟨hl,_,_,_,_,_,_,.inr ⟨by omega,rfl,rfl⟩,rfl⟩)
   ·have hn:d.mi.length=k+1:=by omega
    exact frz13 rfl (by first | trivial | omega) d x0 x1 x2 C (q:=7) (n:=k+1) (cs:=(nrM d x0 (k+1)).map rowC) (by decide) rfl (by simp[nrM_len]) (.inr ⟨by omega,.undef,.undef,.undef,.undef,by rw[hn];simp only[minR,nrM_len]⟩)
 ·have h:¬ d.mi.length<d.mi.length:=Nat.lt_irrefl _
  simp only[V13,H13,ic13l3,QJ,h,evA,simprocAttr]
  exact hend _ _ _
abbrev W13 (d:Dy) (x0 x1 x2:Int) (C:CV) (nm:Int) (v11 v12 v13 v14 v15 v16 v17 v27 v28 v29 v30:AV):List AV:=[dyV d,.agg (u8a x0 x1 x2),.ptr 0 0,.ptr 1 0,.b false,.cv C,.i 0,.ptr 2 0,.ptr 3 0,.ptr 4 0,.i nm,v11,v12,v13,v14,v15,v16,v17,.undef,.undef,.undef,.undef,.undef,.undef,.b false,.b false,.b false,v27,v28,v29,v30]
abbrev G13 (d:Dy) (x0 x1 x2:Int) (N:CV) (v w:AV) (J:List AObj):List AObj:=.cells [.cv (minR d.mi),.cv (lesR d.ls)] :: .cells (u8a x0 x1 x2) :: .cells [.cv N,.cv (lesR d.ls)] :: .cells [.cv (minR d.mi),v] :: .cells [.cv (minR d.mi),w]::J
abbrev g2 (q q':Nat):Nat→Nat:=fun x=>if x=5 then q else if x=6 then q' else x
theorem rens_cvY (g:Nat→Nat):∀ cs:List CV,rens g (cs.map AV.cv)=cs.map AV.cv
 | []=>rfl
 | c::cs=>by
  rw[Q0,rens,rens_cvY g cs];rfl
theorem locs_cvY (k:Nat) (cs:List CV):QO k (cs.map AV.cv)=true:=by
 rw[Z8]
 intro v hv
 obtain ⟨c,_,rfl⟩:=ZP.1 hv
 rfl
theorem turnA {fx:Fx} {c:Prop} {S:St→Prop} {Q:Exit→St→Prop} (h0:fx.n0=0) (hc:c) (d:Dy) (x0 x1 x2:Int) (C N:CV) {q n:Nat} {nm e b i:Int} {v11 v12 v14 v17 v27 v28 v29 v30:AV} {cs:List CV} {J:List AObj}
  (hq:5≤q) (hJ:J[q-5]? = some (.cells (cs.map .cv)))
  (h:S ⟨W13 d x0 x1 x2 C nm .undef .undef (.i e) .undef (.i b) (.i i) .undef .undef .undef .undef .undef,G13 d x0 x1 x2 N (.cv .nils) (.sl 5 0 n 7) [.cells (cs.map .cv)]⟩) :
  kFor fx c S Q .normal ⟨W13 d x0 x1 x2 C nm v11 v12 (.i e) v14 (.i b) (.i i) v17 v27 v28 v29 v30,G13 d x0 x1 x2 N (.cv .nils) (.sl q 0 n 7) J⟩:=by
 refine AS hc (Weak.move (g:=g13 q) (σf:=List.replicate (J.length+5) .dead) h0 ?_ (by simp) ?_ ?_ ?_) h
 ·intro a b hab hb
  have hb:b<6:=hb
  show (if a=5 then q else a)<(if b=5 then q else b)
  repeat' split
  all_goals omega
 ·intro l o ho
  rw[YN] at ho
  split at ho
  ·exact .inl (Option.some.inj ho).symm
  ·cases ho
 ·have u:∀ v,Move1 (g13 q) 6 (List.replicate (J.length+5) .dead) v .undef:=fun v=>.inr (.un _)
  have cl:∀ v,ren (g13 q) v=v∧QR 6 v=true→Move1 (g13 q) 6 (List.replicate (J.length+5) .dead) v v:=fun v hv=>.inl ⟨hv.1.symm,hv.2⟩
  exact .cons (cl _ ⟨rfl,rfl⟩) (.cons (cl _ ⟨rfl,rfl⟩) (.cons (cl _ ⟨rfl,rfl⟩) (.cons (cl _ ⟨rfl,rfl⟩) (.cons (cl _ ⟨rfl,rfl⟩) (.cons (cl _ ⟨rfl,rfl⟩) (.cons (cl _ ⟨rfl,rfl⟩) (.cons (cl _ ⟨rfl,rfl⟩) (.cons (cl _ ⟨rfl,rfl⟩) (.cons (cl _ ⟨rfl,rfl⟩) (.cons (cl _ ⟨rfl,rfl⟩) (.cons (u _) (.cons (u _) (.cons (cl _ ⟨rfl,rfl⟩) (.cons (u _) (.cons (cl _ ⟨rfl,rfl⟩) (.cons (cl _ ⟨rfl,rfl⟩) (.cons (u _) (.cons (u _) (.cons (u _) (.cons (u _) (.cons (u _) (.cons (u _) (.cons (u _) (.cons (cl _ ⟨rfl,rfl⟩) (.cons (cl _ ⟨rfl,rfl⟩) (.cons (cl _ ⟨rfl,rfl⟩) (.cons (u _) (.cons (u _) (.cons (u _) (.cons (u _) .nil))))))))))))))))))))))))))))))
 ·have hrow:∀ (r:Nat) (es:List CV),5≤r→J[r-5]? = some (.cells (es.map .cv))→∃ o,(G13 d x0 x1 x2 N (.cv .nils) (.sl q 0 n 7) J)[r]? = some o∧o.live∧((o=renO (g13 q) (.cells (es.map .cv))∧Z3 6 (.cells (es.map .cv))=true)∨∃ as_ bs,o=.cells as_∧(AObj.cells (es.map .cv))=.cells bs∧PH (g13 q) 6 (List.replicate (J.length+5) .dead) as_ bs):=fun r es hr hj=>by
   refine ⟨.cells (es.map .cv),?_,trivial,.inl ⟨?_,locs_cvY 6 es⟩⟩
   ·obtain ⟨r,rfl⟩:∃ k,r=k+5:=⟨r-5,by omega⟩
    simpa[G13] using hj
   ·show _=AObj.cells (rens _ _);rw[rens_cvY]
  intro l o2 ho
  match l,ho with
  | 0,ho=>cases ho;exact ⟨_,rfl,trivial,.inl ⟨rfl,rfl⟩⟩
  | 1,ho=>cases ho;exact ⟨_,rfl,trivial,.inl ⟨rfl,rfl⟩⟩
  | 2,ho=>cases ho;exact ⟨_,rfl,trivial,.inl ⟨rfl,rfl⟩⟩
  | 3,ho=>cases ho;exact ⟨_,rfl,trivial,.inl ⟨rfl,rfl⟩⟩
  | 4,ho=>cases ho;exact ⟨_,rfl,trivial,.inl ⟨rfl,rfl⟩⟩
  | 5,ho=>cases ho;exact hrow q cs hq hJ
theorem turnB {fx:Fx} {c:Prop} {S:St→Prop} {Q:Exit→St→Prop} (h0:fx.n0=0) (hc:c) (d:Dy) (x0 x1 x2:Int) (C N:CV) {q q' a n:Nat} {nm e b i:Int} {v11 v12 v14 v17 v27 v28 v29 v30:AV} {cs ds:List CV} {J:List AObj}
  (hq:5≤q) (hq2:q<q') (hJ:J[q-5]? = some (.cells (cs.map .cv))) (hJ2:J[q'-5]? = some (.cells (ds.map .cv)))
  (h:S ⟨W13 d x0 x1 x2 C nm .undef .undef (.i e) .undef (.i b) (.i i) .undef .undef .undef .undef .undef,G13 d x0 x1 x2 N (.sl 5 0 a 7) (.sl 6 0 n 7) [.cells (cs.map .cv),.cells (ds.map .cv)]⟩) :
  kFor fx c S Q .normal ⟨W13 d x0 x1 x2 C nm v11 v12 (.i e) v14 (.i b) (.i i) v17 v27 v28 v29 v30,G13 d x0 x1 x2 N (.sl q 0 a 7) (.sl q' 0 n 7) J⟩:=by
 refine AS hc (Weak.move (g:=g2 q q') (σf:=List.replicate (J.length+5) .dead) h0 ?_ (by simp) ?_ ?_ ?_) h
 ·intro a b hab hb
  have hb:b<7:=hb
  show (if a=5 then q else if a=6 then q' else a)<(if b=5 then q else if b=6 then q' else b)
  repeat' split
  all_goals omega
 ·intro l o ho
  rw[YN] at ho
  split at ho
  ·exact .inl (Option.some.inj ho).symm
  ·cases ho
 ·have u:∀ v,Move1 (g2 q q') 7 (List.replicate (J.length+5) .dead) v .undef:=fun v=>.inr (.un _)
  have cl:∀ v,ren (g2 q q') v=v∧QR 7 v=true→Move1 (g2 q q') 7 (List.replicate (J.length+5) .dead) v v:=fun v hv=>.inl ⟨hv.1.symm,hv.2⟩
  exact .cons (cl _ ⟨rfl,rfl⟩) (.cons (cl _ ⟨rfl,rfl⟩) (.cons (cl _ ⟨rfl,rfl⟩) (.cons (cl _ ⟨rfl,rfl⟩) (.cons (cl _ ⟨rfl,rfl⟩) (.cons (cl _ ⟨rfl,rfl⟩) (.cons (cl _ ⟨rfl,rfl⟩) (.cons (cl _ ⟨rfl,rfl⟩) (.cons (cl _ ⟨rfl,rfl⟩) (.cons (cl _ ⟨rfl,rfl⟩) (.cons (cl _ ⟨rfl,rfl⟩) (.cons (u _) (.cons (u _) (.cons (cl _ ⟨rfl,rfl⟩) (.cons (u _) (.cons (cl _ ⟨rfl,rfl⟩) (.cons (cl _ ⟨rfl,rfl⟩) (.cons (u _) (.cons (u _) (.cons (u _) (.cons (u _) (.cons (u _) (.cons (u _) (.cons (u _) (.cons (cl _ ⟨rfl,rfl⟩) (.cons (cl _ ⟨rfl,rfl⟩) (.cons (cl _ ⟨rfl,rfl⟩) (.cons (u _) (.cons (u _) (.cons (u _) (.cons (u _) .nil))))))))))))))))))))))))))))))
 ·have hrow:∀ (r:Nat) (es:List CV),5≤r→J[r-5]? = some (.cells (es.map .cv))→∃ o,(G13 d x0 x1 x2 N (.sl q 0 a 7) (.sl q' 0 n 7) J)[r]? = some o∧o.live∧((o=renO (g2 q q') (.cells (es.map .cv))∧Z3 7 (.cells (es.map .cv))=true)∨∃ as_ bs,o=.cells as_∧(AObj.cells (es.map .cv))=.cells bs∧PH (g2 q q') 7 (List.replicate (J.length+5) .dead) as_ bs):=fun r es hr hj=>by
   refine ⟨.cells (es.map .cv),?_,trivial,.inl ⟨?_,locs_cvY 7 es⟩⟩
   ·obtain ⟨r,rfl⟩:∃ k,r=k+5:=⟨r-5,by omega⟩
    simpa[G13] using hj
   ·show _=AObj.cells (rens _ _);rw[rens_cvY]
  intro l o2 ho
  match l,ho with
  | 0,ho=>cases ho;exact ⟨_,rfl,trivial,.inl ⟨rfl,rfl⟩⟩
  | 1,ho=>cases ho;exact ⟨_,rfl,trivial,.inl ⟨rfl,rfl⟩⟩
  | 2,ho=>cases ho;exact ⟨_,rfl,trivial,.inl ⟨rfl,rfl⟩⟩
  | 3,ho=>cases ho;exact ⟨_,rfl,trivial,.inl ⟨rfl,rfl⟩⟩
  | 4,ho=>cases ho;exact ⟨_,rfl,trivial,.inl ⟨rfl,rfl⟩⟩
  | 5,ho=>cases ho;exact hrow q cs hq hJ
  | 6,ho=>cases ho;exact hrow q' ds (by omega) hJ2
theorem end13 {Q:Exit→St→Prop} (d:Dy) (hd:DyOk d) (x0 x1 x2:Int) (C N:CV) (nm:Int) (v11 v12 v27:AV)
  (hend:∀ v28,Q (.exit 4) ⟨W13 d x0 x1 x2 C nm v11 v12 (.i (mxE d.ls d.ls.length)) (.i d.ls.length) .undef .undef .undef v27 v28 .undef .undef,G13 d x0 x1 x2 N (.cv .nils) (.cv .nils) []⟩) :
  IL Tryz.prog ⟨vs13,201,none,0⟩ ic13l1 ⟨W13 d x0 x1 x2 C nm v11 v12 (.i 0) (.i 0) .undef .undef .undef v27 .undef .undef .undef,G13 d x0 x1 x2 N (.cv .nils) (.cv .nils) []⟩ Q:=by
 have h12:=hd.l12
 refine ZW d.ls.length (fun i s=>∃ v28,s=⟨W13 d x0 x1 x2 C nm v11 v12 (.i (mxE d.ls i)) (.i i) .undef .undef .undef v27 v28 .undef .undef,G13 d x0 x1 x2 N (.cv .nils) (.cv .nils) []⟩) ?_ 0 (QF _) ⟨_,rfl⟩
 rintro i s hi ⟨v28,rfl⟩
 by_cases h:i<d.ls.length
 ·have hmx:(if (d.ls[i]!).e>mxE d.ls i then (d.ls[i]!).e else mxE d.ls i)=mxE d.ls (i+1):=by
   show _=max _ _
   split <;> omega
  have hl4:=les_4 h
  have ia:=F5 h
  generalize (d.ls[i]!).e=y at *
  simp only[W13,G13,ic13l1,QJ,h,ia,hl4,GT,hmx,evA,simprocAttr]
  exact ZL (by first | trivial | omega) ⟨_,by rw[ZC (by omega)];rfl⟩
 ·have hie:i=d.ls.length:=by omega
  subst hie
  simp only[W13,G13,ic13l1,QJ,h,evA,simprocAttr]
  exact hend _
theorem lesCs_snoc (l:List Les) (y:Les):F0 (l++[y])=F0 l++lesC y:=by simp[F0]
def Bo13 (d:Dy) (w:Nat) (t:Int) (i:Nat) (v3 v4:AV) (J:List AObj):Prop :=
 i=0∧v3=.cv .nils∧v4=.cv .nils∧J=[] ∨
 0<i∧(lsW d.ls w i).length=0∧v3=.cv .nils∧v4=.sl 5 0 i 7∧J=[.cells ((F0 (ltL d.ls t i)).map .cv)] ∨
 0<i∧0<(lsW d.ls w i).length∧v3=.sl 5 0 (lsW d.ls w i).length 7∧v4=.sl 6 0 i 7∧J=[.cells ((F0 (lsW d.ls w i)).map .cv),.cells ((F0 (ltL d.ls t i)).map .cv)]
set_option maxHeartbeats 2000000 in
theorem both13 {Q:Exit→St→Prop} (d:Dy) (hd:DyOk d) (x0 x1 x2:Int) (hx:0≤x1∧x1≤255) (C N:CV) (nm m t:Int) (ht:0≤t∧t≤1440) (w:Nat) (hw:0<d.ls.length→w=x1.toNat % d.ls.length) (v11 v12 v14 v27 v28:AV)
  (hend:∀ v11 v12 v14 v17 v27 v28 v30 v3 v4 J,Bo13 d w t d.ls.length v3 v4 J→Q (.exit 6) ⟨W13 d x0 x1 x2 C nm v11 v12 (.i m) v14 (.i t) (.i d.ls.length) v17 v27 v28 (.b false) v30,G13 d x0 x1 x2 N v3 v4 J⟩) :
  IL Tryz.prog ⟨vs13,201,none,0⟩ ic13l0 ⟨W13 d x0 x1 x2 C nm v11 v12 (.i m) v14 (.i t) (.i 0) .undef v27 v28 .undef .undef,G13 d x0 x1 x2 N (.cv .nils) (.cv .nils) []⟩ Q:=by
 have h12:=hd.l12
 refine ZW d.ls.length (fun i s=>∃ v11 v12 v14 v17 v27 v28 v29 v30 v3 v4 J,Bo13 d w t i v3 v4 J∧s=⟨W13 d x0 x1 x2 C nm v11 v12 (.i m) v14 (.i t) (.i i) v17 v27 v28 v29 v30,G13 d x0 x1 x2 N v3 v4 J⟩) ?_ 0 (QF _) ⟨_,_,_,_,_,_,_,_,_,_,_,.inl ⟨rfl,rfl,rfl,rfl⟩,rfl⟩
 rintro i s hi ⟨v11,v12,v14,v17,v27,v28,v29,v30,v3,v4,J,hB,rfl⟩
 by_cases h:i<d.ls.length
 ·have hw:=hw (by omega)
  have hrem:x1.tmod (d.ls.length:Int)=(w:Int):=by
   obtain ⟨z',rfl⟩:∃ z':Nat,x1=(z':Int):=⟨x1.toNat,by omega⟩
   rw[hw,Int.toNat_natCast];rfl
  have hnl:¬ ((d.ls.length:Int)=0):=by omega
  have hcv:IntKind.i64.wrap x1=x1:=ZC (by omega)
  have hA1:∀ σ,PD 3 1 [.ptr 1 0,.i 1] σ=some (.ptr 1 1,σ):=fun _=>rfl
  have hwk:=Q6 (show i+1<2 ^ 63 by omega)
  have hli:=hd.les i h
  have hy:=MR h
  have ia:=F5 h
  have eA:=lsW_succ d.ls w i
  have eB:=ltL_succ d.ls t i
  have lA:=lsW_len d.ls w i
  have bA:(lsW d.ls w i).length≤12:=by rw[lA];split <;> omega
  have lB:=ltL_len d.ls t i
  have lB1:=ltL_len d.ls t (i+1)
  have lcA:=Qel (lsW d.ls w i)
  have lcB:=Qel (ltL d.ls t i)
  have q1:IntKind.i64.wrap ((d.ls[i]!).b+t)=(d.ls[i]!).b+t:=by have:=hli.b0;have:=hli.be;have:=hli.e1;exact ZC (by omega)
  have q2:IntKind.i64.wrap ((d.ls[i]!).e+t)=(d.ls[i]!).e+t:=by have:=hli.b0;have:=hli.be;have:=hli.e1;exact ZC (by omega)
  clear hli
  generalize d.ls[i]! = y at *
  obtain ⟨y1,y2,y3,y4,y5,y6,y7⟩:=y
  simp only[shL] at eB hy q1 q2
  have eB2:(F0 (ltL d.ls t i)++[.int .i64 y1,.int .i64 y2,.int .i64 y3,.int .i64 (y4+t),.int .i64 (y5+t),.int .i64 y6,.int .i64 y7])=F0 (ltL d.ls t (i+1)):=by rw[eB,lesCs_snoc]
  by_cases hs:i=w
  ·have ds:((i:Int) != (w:Int))=false:=by simp[hs]
   rw[if_pos hs,ZU] at eA
   rcases hB with ⟨hi0,rfl,rfl,rfl⟩ | ⟨hi0,hl0,rfl,rfl,rfl⟩ | ⟨hi0,hl0,rfl,rfl,rfl⟩
   ·have a7:=app_nilI (e:=7) (by_:=56) (m:=1) (σ:=G13 d x0 x1 x2 N (.cv .nils) (.cv .nils) [.cells [.i y1,.i y2,.i y3,.i (y4+t),.i (y5+t),.i y6,.i y7],.cells [.i y1,.i y2,.i y3,.i (y4+t),.i (y5+t),.i y6,.i y7]]) (cs:=[.int .i64 y1,.int .i64 y2,.int .i64 y3,.int .i64 (y4+t),.int .i64 (y5+t),.int .i64 y6,.int .i64 y7]) (w:=.sl 6 0 1 7) rfl rfl (by decide) rfl (by decide) (by decide)
    have e7:[.int .i64 y1,.int .i64 y2,.int .i64 y3,.int .i64 (y4+t),.int .i64 (y5+t),.int .i64 y6,.int .i64 y7]=F0 (ltL d.ls t (i+1)):=by rw[← eB2,hi0];rfl
    rw[e7] at a7
    simp only[G13,List.length_cons,List.length_nil,List.set_cons_succ,List.set_cons_zero,List.cons_append,List.nil_append,Nat.reduceAdd] at a7
    simp only[W13,G13,ic13l0,QJ,h,ia,hy,hA1,hcv,hnl,hrem,ds,a7,q1,q2,hwk,evA,simprocAttr]
    have hi1:1=i+1:=by omega
    exact turnA rfl (by first | trivial | omega) d x0 x1 x2 C N (q:=7) (n:=1) (cs:=(F0 (ltL d.ls t (i+1)))) (by decide) rfl ⟨_,_,_,_,_,_,_,_,_,_,_,(.inr (.inl ⟨by omega,by rw[eA,hi0];rfl,rfl,by rw[← hi1],rfl⟩)),rfl⟩
   ·exfalso;rw[if_neg (by omega)] at lA;omega
   ·have a7:=app_srcK (e:=7) (by_:=56) (l:=6) (n:=i) (m:=1) (σ:=G13 d x0 x1 x2 N (.sl 5 0 (lsW d.ls w (i+1)).length 7) (.sl 6 0 i 7) [.cells ((F0 (lsW d.ls w (i+1))).map .cv),.cells ((F0 (ltL d.ls t i)).map .cv),.cells [.i y1,.i y2,.i y3,.i (y4+t),.i (y5+t),.i y6,.i y7],.cells [.i y1,.i y2,.i y3,.i (y4+t),.i (y5+t),.i y6,.i y7]]) (xs:=(F0 (ltL d.ls t i))) (cs:=[.int .i64 y1,.int .i64 y2,.int .i64 y3,.int .i64 (y4+t),.int .i64 (y5+t),.int .i64 y6,.int .i64 y7]) (w:=.sl 8 0 1 7) rfl rfl rfl (by omega) rfl (by omega) (by omega)
    rw[eB2] at a7
    simp only[G13,List.length_cons,List.length_nil,List.set_cons_succ,List.set_cons_zero,List.cons_append,List.nil_append,Nat.reduceAdd] at a7
    rw[← eA] at *
    simp only[W13,G13,ic13l0,QJ,h,ia,hy,hA1,hcv,hnl,hrem,ds,a7,q1,q2,hwk,evA,simprocAttr]
    exact turnB rfl (by first | trivial | omega) d x0 x1 x2 C N (q:=5) (q':=9) (a:=(lsW d.ls w (i+1)).length) (n:=i+1) (cs:=(F0 (lsW d.ls w (i+1)))) (ds:=(F0 (ltL d.ls t (i+1)))) (by decide) (by decide) rfl rfl ⟨_,_,_,_,_,_,_,_,_,_,_,(.inr (.inr ⟨by omega,by rw[eA];omega,rfl,rfl,rfl⟩)),rfl⟩
  ·have ds:((i:Int) != (w:Int))=true:=by simp;omega
   rw[if_neg hs] at eA
   have eA2:(F0 (lsW d.ls w i)++[.int .i64 y1,.int .i64 y2,.int .i64 y3,.int .i64 y4,.int .i64 y5,.int .i64 y6,.int .i64 y7])=F0 (lsW d.ls w (i+1)):=by rw[eA,lesCs_snoc]
   have eL:(lsW d.ls w (i+1)).length=(lsW d.ls w i).length+1:=by rw[eA];simp
   rcases hB with ⟨hi0,rfl,rfl,rfl⟩ | ⟨hi0,hl0,rfl,rfl,rfl⟩ | ⟨hi0,hl0,rfl,rfl,rfl⟩
   ·have a6:=app_nilI (e:=7) (by_:=56) (m:=1) (σ:=G13 d x0 x1 x2 N (.cv .nils) (.cv .nils) [.cells [.i y1,.i y2,.i y3,.i y4,.i y5,.i y6,.i y7],.cells [.i y1,.i y2,.i y3,.i y4,.i y5,.i y6,.i y7]]) (cs:=[.int .i64 y1,.int .i64 y2,.int .i64 y3,.int .i64 y4,.int .i64 y5,.int .i64 y6,.int .i64 y7]) (w:=.sl 6 0 1 7) rfl rfl (by decide) rfl (by decide) (by decide)
    have e6:[.int .i64 y1,.int .i64 y2,.int .i64 y3,.int .i64 y4,.int .i64 y5,.int .i64 y6,.int .i64 y7]=F0 (lsW d.ls w (i+1)):=by rw[← eA2,hi0];rfl
    rw[e6] at a6
    simp only[G13,List.length_cons,List.length_nil,List.set_cons_succ,List.set_cons_zero,List.cons_append,List.nil_append,Nat.reduceAdd] at a6
    have a7:=app_nilI (e:=7) (by_:=56) (m:=1) (σ:=G13 d x0 x1 x2 N (.sl 7 0 1 7) (.cv .nils) [.cells [.i y1,.i y2,.i y3,.i (y4+t),.i (y5+t),.i y6,.i y7],.cells [.i y1,.i y2,.i y3,.i y4,.i y5,.i y6,.i y7],.cells ((F0 (lsW d.ls w (i+1))).map .cv),.cells [.i y1,.i y2,.i y3,.i (y4+t),.i (y5+t),.i y6,.i y7]]) (cs:=[.int .i64 y1,.int .i64 y2,.int .i64 y3,.int .i64 (y4+t),.int .i64 (y5+t),.int .i64 y6,.int .i64 y7]) (w:=.sl 8 0 1 7) rfl rfl (by decide) rfl (by decide) (by decide)
    have e7:[.int .i64 y1,.int .i64 y2,.int .i64 y3,.int .i64 (y4+t),.int .i64 (y5+t),.int .i64 y6,.int .i64 y7]=F0 (ltL d.ls t (i+1)):=by rw[← eB2,hi0];rfl
    rw[e7] at a7
    simp only[G13,List.length_cons,List.length_nil,List.set_cons_succ,List.set_cons_zero,List.cons_append,List.nil_append,Nat.reduceAdd] at a7
    simp only[W13,G13,ic13l0,QJ,h,ia,hy,hA1,hcv,hnl,hrem,ds,a6,a7,q1,q2,hwk,evA,simprocAttr]
    have hi1:1=i+1:=by omega
    have hl1:1=(lsW d.ls w (i+1)).length:=by rw[eL,hi0];rfl
    exact turnB rfl (by first | trivial | omega) d x0 x1 x2 C N (q:=7) (q':=9) (a:=1) (n:=1) (cs:=(F0 (lsW d.ls w (i+1)))) (ds:=(F0 (ltL d.ls t (i+1)))) (by decide) (by decide) rfl rfl ⟨_,_,_,_,_,_,_,_,_,_,_,(.inr (.inr ⟨by omega,by omega,by rw[← hl1],by rw[← hi1],rfl⟩)),rfl⟩
   ·have a6:=app_nilI (e:=7) (by_:=56) (m:=1) (σ:=G13 d x0 x1 x2 N (.cv .nils) (.sl 5 0 i 7) [.cells ((F0 (ltL d.ls t i)).map .cv),.cells [.i y1,.i y2,.i y3,.i y4,.i y5,.i y6,.i y7],.cells [.i y1,.i y2,.i y3,.i y4,.i y5,.i y6,.i y7]]) (cs:=[.int .i64 y1,.int .i64 y2,.int .i64 y3,.int .i64 y4,.int .i64 y5,.int .i64 y6,.int .i64 y7]) (w:=.sl 7 0 1 7) rfl rfl (by decide) rfl (by decide) (by decide)
    have e6:[.int .i64 y1,.int .i64 y2,.int .i64 y3,.int .i64 y4,.int .i64 y5,.int .i64 y6,.int .i64 y7]=F0 (lsW d.ls w (i+1)):=by rw[← eA2,ZT hl0];rfl
    rw[e6] at a6
    simp only[G13,List.length_cons,List.length_nil,List.set_cons_succ,List.set_cons_zero,List.cons_append,List.nil_append,Nat.reduceAdd] at a6
    have a7:=app_srcK (e:=7) (by_:=56) (l:=5) (n:=i) (m:=1) (σ:=G13 d x0 x1 x2 N (.sl 8 0 1 7) (.sl 5 0 i 7) [.cells ((F0 (ltL d.ls t i)).map .cv),.cells [.i y1,.i y2,.i y3,.i (y4+t),.i (y5+t),.i y6,.i y7],.cells [.i y1,.i y2,.i y3,.i y4,.i y5,.i y6,.i y7],.cells ((F0 (lsW d.ls w (i+1))).map .cv),.cells [.i y1,.i y2,.i y3,.i (y4+t),.i (y5+t),.i y6,.i y7]]) (xs:=(F0 (ltL d.ls t i))) (cs:=[.int .i64 y1,.int .i64 y2,.int .i64 y3,.int .i64 (y4+t),.int .i64 (y5+t),.int .i64 y6,.int .i64 y7]) (w:=.sl 9 0 1 7) rfl rfl rfl (by omega) rfl (by omega) (by omega)
    rw[eB2] at a7
    simp only[G13,List.length_cons,List.length_nil,List.set_cons_succ,List.set_cons_zero,List.cons_append,List.nil_append,Nat.reduceAdd] at a7
    simp only[W13,G13,ic13l0,QJ,h,ia,hy,hA1,hcv,hnl,hrem,ds,a6,a7,q1,q2,hwk,evA,simprocAttr]
    have hl1:1=(lsW d.ls w (i+1)).length:=by rw[eL,hl0]
    exact turnB rfl (by first | trivial | omega) d x0 x1 x2 C N (q:=8) (q':=10) (a:=1) (n:=i+1) (cs:=(F0 (lsW d.ls w (i+1)))) (ds:=(F0 (ltL d.ls t (i+1)))) (by decide) (by decide) rfl rfl ⟨_,_,_,_,_,_,_,_,_,_,_,(.inr (.inr ⟨by omega,by omega,by rw[← hl1],rfl,rfl⟩)),rfl⟩
   ·have a6:=app_srcK (e:=7) (by_:=56) (l:=5) (n:=(lsW d.ls w i).length) (m:=1) (σ:=G13 d x0 x1 x2 N (.sl 5 0 (lsW d.ls w i).length 7) (.sl 6 0 i 7) [.cells ((F0 (lsW d.ls w i)).map .cv),.cells ((F0 (ltL d.ls t i)).map .cv),.cells [.i y1,.i y2,.i y3,.i y4,.i y5,.i y6,.i y7],.cells [.i y1,.i y2,.i y3,.i y4,.i y5,.i y6,.i y7]]) (xs:=(F0 (lsW d.ls w i))) (cs:=[.int .i64 y1,.int .i64 y2,.int .i64 y3,.int .i64 y4,.int .i64 y5,.int .i64 y6,.int .i64 y7]) (w:=.sl 8 0 1 7) rfl rfl rfl (by omega) rfl (by omega) (by omega)
    rw[eA2,← eL] at a6
    simp only[G13,List.length_cons,List.length_nil,List.set_cons_succ,List.set_cons_zero,List.cons_append,List.nil_append,Nat.reduceAdd] at a6
    have a7:=app_srcK (e:=7) (by_:=56) (l:=6) (n:=i) (m:=1) (σ:=G13 d x0 x1 x2 N (.sl 9 0 (lsW d.ls w (i+1)).length 7) (.sl 6 0 i 7) [.dead,.cells ((F0 (ltL d.ls t i)).map .cv),.cells [.i y1,.i y2,.i y3,.i (y4+t),.i (y5+t),.i y6,.i y7],.cells [.i y1,.i y2,.i y3,.i y4,.i y5,.i y6,.i y7],.cells ((F0 (lsW d.ls w (i+1))).map .cv),.cells [.i y1,.i y2,.i y3,.i (y4+t),.i (y5+t),.i y6,.i y7]]) (xs:=(F0 (ltL d.ls t i))) (cs:=[.int .i64 y1,.int .i64 y2,.int .i64 y3,.int .i64 (y4+t),.int .i64 (y5+t),.int .i64 y6,.int .i64 y7]) (w:=.sl 10 0 1 7) rfl rfl rfl (by omega) rfl (by omega) (by omega)
    rw[eB2] at a7
    simp only[G13,List.length_cons,List.length_nil,List.set_cons_succ,List.set_cons_zero,List.cons_append,List.nil_append,Nat.reduceAdd] at a7
    simp only[W13,G13,ic13l0,QJ,h,ia,hy,hA1,hcv,hnl,hrem,ds,a6,a7,q1,q2,hwk,evA,simprocAttr]
    exact turnB rfl (by first | trivial | omega) d x0 x1 x2 C N (q:=9) (q':=11) (a:=(lsW d.ls w (i+1)).length) (n:=i+1) (cs:=(F0 (lsW d.ls w (i+1)))) (ds:=(F0 (ltL d.ls t (i+1)))) (by decide) (by decide) rfl rfl ⟨_,_,_,_,_,_,_,_,_,_,_,(.inr (.inr ⟨by omega,by omega,rfl,rfl,rfl⟩)),rfl⟩
 ·have hie:i=d.ls.length:=by omega
  subst hie
  simp only[W13,G13,ic13l0,QJ,h,evA,simprocAttr]
  exact hend _ _ _ _ _ _ _ _ _ _ hB
theorem chaL_len {d:Dy} (h:DyOk d):(chaL d).length=d.ls.length-TH d:=by
 unfold chaL
 rw[ZK]
 exact cha_num h
theorem chaL_rows {d:Dy} (h:DyOk d):∀ i,i<(chaL d).length→((chaL d)[i]!).length<2 ^ 63:=fun i hi=>by
 rw[getElem!_pos _ i hi]
 obtain ⟨c,hc,e⟩:=ZP.1 (Q2 hi)
 have:=(cha_ok h).len c hc
 have h1:(HG c).length=c.length:=by simp[HG]
 rw[← e,h1]
 exact Nat.lt_trans this (by decide)
theorem day_near {d:Dy} (h:DyOk d) {x:Int} (hx:0≤x):(chaL (nrD d x)).length≤(chaL d).length:=by
 rw[chaL_len h,chaL_len (nr_ok h hx)]
 have:=nr_many h hx
 show d.ls.length-TH (nrD d x)≤_
 omega
theorem day_less {d:Dy} (h:DyOk d) {w:Nat} (hw:0<d.ls.length→w<d.ls.length):(chaL (lsD d w)).length≤(chaL d).length+1∧(chaL d).length≤(chaL (lsD d w)).length+1:=by
 rw[chaL_len h,chaL_len (lsD_ok h)]
 rcases XF d.ls.length with h0 | h0
 ·have:(lsD d w).ls.length=0:=by
   show (lsW d.ls w d.ls.length).length=_
   rw[lsW_len,h0];simp
  omega
 ·have h1:=lsD_len (hw h0)
  have h2:=ls_two (hw h0)
  omega
theorem bo_frz {d:Dy} {w:Nat} {t:Int} {v3 v4:AV} {B J:List AObj} (hb:B.length=5) (h:Bo13 d w t d.ls.length v3 v4 J):FrzV anyC (B++J) v3 (.cv (lesR (lsD d w).ls))∧FrzV anyC (B++J) v4 (.cv (lesR (ltD d t).ls)):=by
 have lB:(ltL d.ls t d.ls.length).length=d.ls.length:=ltL_len _ _ _
 have r:∀ (q:Nat) (es:List Les) (n:Nat),n=es.length→J[q]? = some (.cells ((F0 es).map .cv))→FrzV anyC (B++J) (.sl (q+5) 0 n 7) (.cv (lesR es)):=fun q es n hn hj=>by
  subst hn
  refine GI (.inr ⟨q+5,rfl,Qel es,?_⟩) fun _ _=>trivial
  unfold rowOf
  rw[QS (by omega),hb,Nat.add_sub_cancel,hj]
 show FrzV anyC (B++J) v3 (.cv (lesR (lsW d.ls w d.ls.length)))∧FrzV anyC (B++J) v4 (.cv (lesR (ltL d.ls t d.ls.length)))
 rcases h with ⟨h0,rfl,rfl,rfl⟩ | ⟨h0,h1,rfl,rfl,rfl⟩ | ⟨h0,h1,rfl,rfl,rfl⟩
 ·rw[h0]
  exact ⟨.c .nl,.c .nl⟩
 ·rw[ZT h1]
  exact ⟨.c .nl,r 0 _ _ lB.symm rfl⟩
 ·exact ⟨r 0 _ _ rfl rfl,r 1 _ _ lB.symm rfl⟩
set_option maxHeartbeats 1000000 in
theorem law13 (d:Dy) (hd:DSz d) (x0 x1 x2:Int) (hx0:0≤x0∧x0≤255) (hx1:0≤x1∧x1≤255) (hx2:0≤x2∧x2≤255):PC Tryz.prog 13 [dyV d,.agg (u8a x0 x1 x2)] (.b true):=by
 have h28:=le28 d hd
 have h48:=le48 d hd
 unfold chaA at h28
 refine ⟨ZF (fok13 true) (QC rfl) ?_,rfl⟩
 simp only[ic13,WI,cellsOf,evA,simprocAttr]
 by_cases he:(dyE d).2.2=0
 rotate_left
 ·have hb:((dyE d).2.2 != 0)=true:=by simpa using he
  have hb2:((dyE d).2.2 == 0)=false:=by simpa using he
  rw[if_pos he] at h28
  refine h28.call frz ?_
  simp only[evA,simprocAttr]
  refine h48.call frz ?_
  simp only[hb,hb2,evA,simprocAttr]
  refine awake.call .nil ?_
  simp only[evA,simprocAttr]
  (repeat' (first | exact HL.nil | exact KS.nil | exact FrzC.nl | exact FrzC.c _ trivial | apply HL.cons | apply KS.cons | apply FrzV.agg | apply FrzV.tup | apply FrzV.c | refine FrzC.sl _ _ _ _ _ _ rfl (QC rfl) ?_))
 have hok:=LO he
 have h12:=hok.l12
 rw[if_neg (fun h=>h he),he] at h28
 rw[he] at h48
 refine h28.call frz ?_
 simp only[evA,simprocAttr]
 refine h48.call frz ?_
 simp only[evA,simprocAttr]
 refine DW_s [] [(0,3),(0,4),(0,5),(1,3),(1,4),(1,5),(1,6),(2,3),(2,4),(2,5),(2,6),(2,7),(3,4),(3,5),(4,3),(4,5),(5,3),(5,4)] hmix (by kernel_rfl) rfl ?_
 simp only[evA,simprocAttr]
 refine near13 d hok x0 x1 x2 hx0 _ ?_
 intro v11 v12 v27
 simp only[V13,H13,evA,simprocAttr]
 refine end13 d hok x0 x1 x2 _ _ _ _ _ _ ?_
 intro v28
 have hA2:∀ σ,PD 3 1 [.ptr 1 0,.i 2] σ=some (.ptr 1 2,σ):=fun _=>rfl
 have hcv:IntKind.i64.wrap x2=x2:=ZC (by omega)
 have hmx:=mxE_bd hok d.ls.length (QG _)
 have hw:IntKind.i64.wrap (1440-mxE d.ls d.ls.length)=1440-mxE d.ls d.ls.length:=ZC (by omega)
 obtain ⟨t,ht,ht0,ht1⟩:∃ t,(if 1440-mxE d.ls d.ls.length<x2 then 1440-mxE d.ls d.ls.length else x2)=t∧0≤t∧t≤1440-mxE d.ls d.ls.length:=⟨_,rfl,by split <;> omega,by split <;> omega⟩
 simp only[W13,G13,hA2,hcv,hw,DJ,ht,evA,simprocAttr]
 obtain ⟨w,hw0⟩:∃ w,w=x1.toNat % d.ls.length:=⟨_,rfl⟩
 refine both13 d hok x0 x1 x2 hx1 _ _ _ _ t ⟨ht0,by omega⟩ w (fun _=>hw0) _ _ _ _ _ ?_
 intro v11 v12 v14 v17 v27 v28 v30 v3 v4 J hB
 have hwl:0<d.ls.length→w<d.ls.length:=fun h=>by rw[hw0];exact Nat.mod_lt _ h
 obtain ⟨f3,f4⟩:=bo_frz (B:=G13 d x0 x1 x2 (minR (nrM d x0 d.mi.length)) v3 v4 []) rfl hB
 have oN:=nr_ok hok hx0.1
 have oL:=lsD_ok hok (w:=w)
 have oT:=lt_ok hok ht0 ht1
 have c1:=day_near hok hx0.1
 obtain ⟨c2,c3⟩:=day_less hok hwl
 have c0:(chaL d).length≤12:=by rw[chaL_len hok];omega
 have hrows:=chaL_rows hok
 have k1:=le28 _ (dsz_of oN)
 have k2:=le28 _ (dsz_of oL)
 have k3:=le28 _ (dsz_of oT)
 unfold chaA at k1 k2 k3
 rw[dyE_of oN,if_neg (fun h=>h rfl)] at k1
 rw[dyE_of oL,if_neg (fun h=>h rfl)] at k2
 rw[dyE_of oT,if_neg (fun h=>h rfl),lt_cha] at k3
 have h62:(2:Nat) ^ 62=4611686018427387904:=by decide
 have h63:(2:Nat) ^ 63=9223372036854775808:=by decide
 have h27:=le27 (chaL d) (chaL d) (by omega) (by omega) hrows hrows
 rw[decide_eq_true rfl] at h27
 generalize chaL d=A at *
 generalize chaL (nrD d x0)=A1₀ at *
 generalize chaL (lsD d w)=A2₀ at *
 have w1:IntKind.i64.wrap ((A.length:Int)+1)=(A.length:Int)+1:=ZC (by omega)
 have w2:IntKind.i64.wrap ((A.length:Int)-1)=(A.length:Int)-1:=ZC (by omega)
 have d1:decide ((A1₀.length:Int)≤(A.length:Int))=true:=decide_eq_true (by omega)
 have d2:decide ((A2₀.length:Int)≤(A.length:Int)+1)=true:=decide_eq_true (by omega)
 have d3:decide ((A2₀.length:Int)≥(A.length:Int)-1)=true:=decide_eq_true (by omega)
 simp only[W13,G13,evA,simprocAttr]
 refine k1.call (.cons (.agg (.cons (.c (.c _ trivial)) (.cons (.c (.c _ trivial)) .nil))) .nil) ?_
 simp only[evA,simprocAttr]
 refine k2.call (.cons (.agg (.cons (.c (.c _ trivial)) (.cons f3 .nil))) .nil) ?_
 simp only[evA,simprocAttr]
 refine k3.call (.cons (.agg (.cons (.c (.c _ trivial)) (.cons f4 .nil))) .nil) ?_
 simp only[w1,w2,d1,d2,d3,evA,simprocAttr]
 refine h27.call frz ?_
 simp only[evA,simprocAttr]
 refine awake.call .nil ?_
 simp only[evA,simprocAttr]
 (repeat' (first | exact HL.nil | exact KS.nil | exact FrzC.nl | exact FrzC.c _ trivial | apply HL.cons | apply KS.cons | apply FrzV.agg | apply FrzV.tup | apply FrzV.c | refine FrzC.sl _ _ _ _ _ _ rfl (QC rfl) ?_))
theorem typed_x3 {cs:List CV} (h:Typed Tryz.prog 92 cs):∃ a b c:Int,avOf Tryz.prog 92 cs=.agg (u8a a b c)∧(0≤a∧a≤255)∧(0≤b∧b≤255)∧(0≤c∧c≤255):=by
 obtain ⟨L,rfl,hl,hl2,hl3⟩:=typed_arr Tryz.underlying92 h
 match L,hl,hl3 with
 | [x,y,z],_,hl3 =>
  obtain ⟨a,rfl,ha⟩:=QeV Tryz.underlying5 (hl3 x (by simp))
  obtain ⟨b,rfl,hb⟩:=QeV Tryz.underlying5 (hl3 y (by simp))
  obtain ⟨c,rfl,hc⟩:=QeV Tryz.underlying5 (hl3 z (by simp))
  exact ⟨a,b,c,by simp only[avOf,Tryz.underlying92];rfl,wf_u8 ha,wf_u8 hb,wf_u8 hc⟩
theorem law_LessonDays (avs:List AV) (h:Args Tryz.prog Tryz.f13.params.toList avs):AC Tryz.prog 13 avs [] fun r _=>r=.b true:=by
 have h:Args Tryz.prog [37,92] avs:=h
 obtain ⟨cs1,avs,rfl,h1,h⟩:=args_cons h
 obtain ⟨cs2,avs,rfl,h2,h⟩:=args_cons h
 cases args_nil h
 obtain ⟨d,e1,hd⟩:=typed_day h1
 obtain ⟨a,b,c,e2,ha,hb,hc⟩:=typed_x3 h2
 rw[e1,e2]
 exact (law13 d hd a b c ha hb hc).call (by (repeat' (first | exact HL.nil | exact KS.nil | exact FrzC.nl | exact FrzC.c _ trivial | apply HL.cons | apply KS.cons | apply FrzV.agg | apply FrzV.tup | apply FrzV.c | refine FrzC.sl _ _ _ _ _ _ rfl (QC rfl) ?_))) rfl
end Go.Proofs.YtgkidpolomhghaaGreatDoor.AM

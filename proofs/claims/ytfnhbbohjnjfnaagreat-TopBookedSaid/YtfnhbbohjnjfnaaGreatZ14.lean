/- Parts of the proof, joined: AmMr to AmMr. -/
import Derived.Maps.RangeRun
import Derived.Test.YtfnhbbohjnjfnaaGreatZ13
set_option linter.unusedVariables false
set_option linter.unusedSimpArgs false
set_option linter.unusedSectionVars false
namespace Go.Proofs.YtfnhbbohjnjfnaaGreat.AM
variable [Dr]
open Go
variable {P:Program} {fx:Fx} {m m':LM} {X X':Nat→Prop} {en:En} {w w':World} {s:St} {ac:Act}
structure MIt (m:LM) (X:Nat→Prop) (w:World) (lit l:Nat) (es:List (AV × AV)) (dn:List Nat) (r bm:Nat) (ces:Array MapEntry) (clock:Nat):Prop where
 mi:m lit=some r
 ml:m l=some bm
 xr:X r
 xm:X bm
 it:∃ c0,c0=clock∧w.heap[r]? = some (.mapIter (some bm) clock ((dn.map fun i=>(ces[i]?.map (·.born)).getD 0).toArray) c0)
 mp:w.heap[bm]? = some (.map ces clock)
 born:∀ e∈ces,e.born<clock
 nd:(ces.toList.map (·.born)).Nodup
 sz:ces.size=es.length
 rel:∀ (i:Nat) (k a:AV),es[i]? = some (k,a)→∃ e:MapEntry,ces[i]? = some e∧(∀ m X w,VRel m X w k e.key)∧∀ m X w,VRel m X w a e.val
 dd:dn.Nodup
 dl:∀ i∈dn,i<es.length
theorem MIt.step {lit l:Nat} {es:List (AV × AV)} {dn:List Nat} {r bm:Nat} {ces:Array MapEntry} {clock n0:Nat} (h:MIt m X w lit l es dn r bm ces clock) (hs:Step n0 m X w m' w') (h1:lit<n0) (h2:l<n0):MIt m' X w' lit l es dn r bm ces clock:=by
 obtain ⟨c0,hc,hit⟩:=h.it
 refine ⟨by rw[hs.keep _ h1];exact h.mi,by rw[hs.keep _ h2];exact h.ml,h.xr,h.xm,⟨c0,hc,?_⟩,?_,h.born,h.nd,h.sz,h.rel,h.dd,h.dl⟩
 ·rw[hs.fr r (Q3.1 hit).1 (.inl h.xr)];exact hit
 ·rw[hs.fr bm (Q3.1 h.mp).1 (.inl h.xm)];exact h.mp
structure GM (l bm:Nat) (es:List (AV × AV)) (ces:Array MapEntry) (clock:Nat) (m:LM) (X:Nat→Prop) (w:World):Prop where
 ml:m l=some bm
 xm:X bm
 mp:w.heap[bm]? = some (.map ces clock)
 born:∀ e∈ces,e.born<clock
 nd:(ces.toList.map (·.born)).Nodup
 sz:ces.size=es.length
 rel:∀ (i:Nat) (k a:AV),es[i]? = some (k,a)→∃ e:MapEntry,ces[i]? = some e∧(∀ m X w,VRel m X w k e.key)∧∀ m X w,VRel m X w a e.val
theorem GM.step {l bm:Nat} {es:List (AV × AV)} {ces:Array MapEntry} {clock n0:Nat} (h:GM l bm es ces clock m X w) (hs:Step n0 m X w m' w') (hl:l<n0):GM l bm es ces clock m' X w' :=
 ⟨by rw[hs.keep _ hl];exact h.ml,h.xm,by rw[hs.fr bm (Q3.1 h.mp).1 (.inl h.xm)];exact h.mp,h.born,h.nd,h.sz,h.rel⟩
def WX (P:Program) (fx:Fx) (G:LM→(Nat→Prop)→World→Prop) (c:Code) (s:St) (Q:Exit→St→Prop):Prop :=
 ∀ m X en ac w,SRel fx m X en s ac w→rok fx m→G m X w→c.wpIn (fen m fx.r) 0 P (Lift fx m X en w Q) ac w
theorem WX.of {G:LM→(Nat→Prop)→World→Prop} {c:Code} {Q:Exit→St→Prop} (h:W P fx c s Q):WX P fx G c s Q:=fun m X en ac w hs hr _=>h m X en ac w hs hr
end Go.Proofs.YtfnhbbohjnjfnaaGreat.AM

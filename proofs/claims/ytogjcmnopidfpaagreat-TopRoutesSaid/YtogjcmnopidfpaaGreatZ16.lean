/- Parts of the proof, joined: AmRg to AmRg. -/
import Derived.Test.YtogjcmnopidfpaaGreatZ15
set_option linter.unusedVariables false
set_option linter.unusedSimpArgs false
set_option linter.unusedSectionVars false
namespace Go.Proofs.YtogjcmnopidfpaaGreat.AM
variable [Dr]
open Go
structure IA (P:Program) (vs:List Nat) (N:Nat) (ps:List Nat) (vals:List AV) (ia ib:IC) (R:XC):Prop where
 vars:R.vars=vs
 ntmps:R.ntmps=N
 params:R.params=ps
 vals:R.vals=vals
 st:R.state=.ready
 pd:R.pending=none
 ca:QL P vs N R.assign=some ia
 cb:QL P vs N R.body=some ib
def KB (R:XC):XC:={ R with state:=.busy,pending:=none }
def Qby (R:XC):XC:={ R with state:=.exhausted,pending:=none }
section
variable {P:Program} {vs:List Nat} {N:Nat} {ps:List Nat} {vals:List AV} {ia ib:IC} {R:XC}
theorem IA.back (h:IA P vs N ps vals ia ib R):({ KB R with state:=.ready,pending:=none }:XC)=R:=by
 have h1:=h.st
 have h2:=h.pd
 unfold KB
 cases R;simp_all
theorem RW_g {fx:Fx} {s:St} {Q:Exit→St→Prop} {g:Opd} {ps:Array Nat} {assign body:Code} {gf:FuncId} {cap:List AV} (ia ib:IC) (hg:WY s.vals [] g=.fn (.func gf) cap) (hvl:s.vals.length≤fx.vars.length) (hr0:∀ l0,fx.r=some l0→∃ r0,s.heap[l0]? = some (.loop r0))
  (hca:QL P fx.vars fx.N assign=some ia) (hcb:QL P fx.vars fx.N body=some ib)
  (h:∀ R,IA P fx.vars fx.N ps.toList s.vals ia ib R→AC P gf (.yld s.heap.length::cap) (s.heap++[.loop R]) fun _ σ'=>U9 P fx s.vals s.heap.length Q σ'):RW P fx g ps assign body s Q :=
 RW_s hg hvl hr0 (h _ ⟨rfl,rfl,rfl,rfl,rfl,rfl,hca,hcb⟩)
theorem YC_g {l:Nat} {σ:List AObj} {args:List AV} {Q:AV→List AObj→Prop} (hR:IA P vs N ps vals ia ib R) (hl:σ[l]? = some (.loop R)) (hargs:args.length=ps.length)
  (hvp:(decide vs.Nodup&&ps.all fun t=>vs.contains t&&decide (t<N))=true)
  (h:IS P ⟨vs,N,some l,σ.length⟩ ia ⟨JM vs ps args vals,σ⟩ (kAsg P ⟨vs,N,some l,σ.length⟩ l ib Q) .mk .mk):YC P l args σ Q:=by
 obtain ⟨e1,e2,e3,e4,e5,e6,e7,e8⟩:=hR
 refine QeH (r:=R) ia ib hl e5 (by rw[e3];exact hargs) (by rw[e1,e2,e3];exact hvp) (by rw[e1,e2];exact e7) (by rw[e1,e2];exact e8) ?_
 rw[e1,e2,e3,e4]
 exact h
theorem Qan {fx:Fx} {l:Nat} {Q:AV→List AObj→Prop} {s:St} (hR:IA P vs N ps vals ia ib R) (hl:s.heap[l]? = some (.loop R)) (h:IS P fx ib ⟨s.vals,s.heap.set l (.loop (KB R))⟩ (kRnd l Q) .mk .mk):kAsg P fx l ib Q .normal s:=by
 rw[Qam]
 refine ⟨R,hl,hR.st,?_⟩
 rw[hR.pd]
 exact h
theorem RU {l:Nat} {Q:AV→List AObj→Prop} {s:St} (hR:IA P vs N ps vals ia ib R) (hl:s.heap[l]? = some (.loop (KB R))) (h:Q (.b true) (s.heap.set l (.loop R))):kRnd l Q .normal s:=by
 rw[P0]
 refine ⟨_,hl,?_⟩
 unfold setLoop
 rw[hR.back]
 exact h
theorem M9 {fx:Fx} {l:Nat} {Q:Exit→St→Prop} {σ':List AObj} {vals2:List AV} (hR:IA P vs N ps vals ia ib R) (hl:σ'[l]? = some (.loop R)) (h:Q .normal ⟨vals2,σ'.set l (.loop (Qby R))⟩):U9 P fx vals2 l Q σ':=by
 refine ⟨R,hl,(by rw[hR.st];intro h;cases h),?_⟩
 rw[hR.pd]
 exact h
def A8 (R:XC) (i:Nat):XC:={ R with state:=.done,pending:=some (.exit i) }
theorem Qdg {l i:Nat} {Q:AV→List AObj→Prop} {s:St} (hl:s.heap[l]? = some (.loop (KB R))) (h:Q (.b false) (s.heap.set l (.loop (A8 R i)))):kRnd l Q (.exit i) s:=by
 rw[kRnd_x]
 exact ⟨_,hl,h⟩
theorem after_x {fx:Fx} {l i:Nat} {Q:Exit→St→Prop} {σ':List AObj} {vals2:List AV} (hl:σ'[l]? = some (.loop (A8 R i))) (h:W P fx (.exit i) ⟨vals2,σ'.set l (.loop { A8 R i with state:=.exhausted,pending:=some (.exit i) })⟩ Q):U9 P fx vals2 l Q σ':=by
 refine ⟨_,hl,(by intro h;cases h),?_⟩
 exact h
end
end Go.Proofs.YtogjcmnopidfpaaGreat.AM

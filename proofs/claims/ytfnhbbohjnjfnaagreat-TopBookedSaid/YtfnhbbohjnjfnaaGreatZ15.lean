/- Parts of the proof, joined: AmPt to AmPt. -/
import Derived.RecoverIn
import Derived.Test.YtfnhbbohjnjfnaaGreatZ14
set_option linter.unusedVariables false
set_option linter.unusedSimpArgs false
set_option linter.unusedSectionVars false
namespace Go.Proofs.YtfnhbbohjnjfnaaGreat.AM
set_option linter.unusedSectionVars false
variable [Dr]
open Go
set_option linter.unusedVariables false
set_option linter.unusedSimpArgs false
variable {P:Program} {m m':LM} {X X':Nat→Prop} {w w':World}
def ACd (P:Program) (g:FuncId) (args:List AV) (u:FrameMode) (σ:List AObj) (Q:List AObj→Prop):Prop :=
 PI P g∧∀ m X w cargs,QK m X w args cargs→HRel m X σ w→CallsDIn Fence.wide 0 P g cargs.toArray u w fun e u' w' =>
  (∃ c,e=.returned c)∧settle u'=.returning∧∃ σ' m',Q σ'∧HRel m' X σ' w'∧Step σ.length m X w m' w'∧σ.length≤σ'.length
variable {f:FuncId} {fn:Func} {vars:List Nat} {n0:Nat} {Q:AV→List AObj→Prop} {s:St}
end Go.Proofs.YtfnhbbohjnjfnaaGreat.AM

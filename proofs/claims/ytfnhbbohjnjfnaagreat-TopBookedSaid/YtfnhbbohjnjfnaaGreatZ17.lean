/- Parts of the proof, joined: AmRg to AmRg. -/
import Derived.Test.YtfnhbbohjnjfnaaGreatZ16
set_option linter.unusedVariables false
set_option linter.unusedSimpArgs false
set_option linter.unusedSectionVars false
namespace Go.Proofs.YtfnhbbohjnjfnaaGreat.AM
variable [Dr]
open Go
structure IA (P:Program) (vs:List Nat) (N:Nat) (ps:List Nat) (vals:List AV) (ia ib:IC) (R:XC):Prop where
 vars:R.vars=vs
 ntmps:R.ntmps=N
 params:R.params=ps
 vals:R.vals=vals
 st:R.state=.ready
 pd:R.pending=none
 ca:QL P vs N R.assign=some ia
 cb:QL P vs N R.body=some ib
section
variable {P:Program} {vs:List Nat} {N:Nat} {ps:List Nat} {vals:List AV} {ia ib:IC} {R:XC}
end
end Go.Proofs.YtfnhbbohjnjfnaaGreat.AM

/- Parts of the proof, joined: AmPn to AmPn. -/
import Derived.Test.YtogjcmnopidfpaaGreatZ17
set_option linter.unusedVariables false
set_option linter.unusedSimpArgs false
set_option linter.unusedSectionVars false
namespace Go.Proofs.YtogjcmnopidfpaaGreat.AM
variable [Dr]
open Go
variable {P:Program} {fx:Fx}
def PPost (m:LM) (X:Nat→Prop) (w:World) (σ:List AObj) (ch:List PanicEntry) (Q:List AObj→Prop):Ending→World→Prop :=
 fun e w'=>∃ σ' m',e=.panicked ch∧Q σ'∧HRel m' X σ' w'∧Step σ.length m X w m' w'∧σ.length≤σ'.length
def ACp (P:Program) (f:FuncId) (args:List AV) (σ:List AObj) (ch:List PanicEntry) (Q:List AObj→Prop):Prop :=
 PI P f∧∀ m X w cargs,QK m X w args cargs→HRel m X σ w→CallsIn Fence.wide 0 P f cargs.toArray w (PPost m X w σ ch Q)
def YCp (P:Program) (l:Nat) (args:List AV) (σ:List AObj) (ch:List PanicEntry) (Q:List AObj→Prop):Prop :=
 ∀ m X w cargs b,m l=some b→QK m X w args cargs→HRel m X σ w→∃ L:Loop,w.heap[b]? = some (.loop L)∧cargs.length=L.params.size ∧
  RoundIn Fence.wide 0 P b L.fn ((L.params.zip cargs.toArray).foldl (fun tmps (t,a)=>tmps.setIfInBounds t a) L.tmps) L.assign L.body w (PPost m X w σ ch Q)
def CallVp (P:Program) (fv:AV) (args:List AV) (σ:List AObj) (ch:List PanicEntry) (Q:List AObj→Prop):Prop :=
 match fv with
 | .fn (.func f) cap=>ACp P f (args++cap) σ ch Q
 | .bm f first=>ACp P f (first++args) σ ch Q
 | .yld l=>YCp P l args σ ch Q
 | _=>False
section
variable {X:Nat→Prop} {en:En}
end
end Go.Proofs.YtogjcmnopidfpaaGreat.AM

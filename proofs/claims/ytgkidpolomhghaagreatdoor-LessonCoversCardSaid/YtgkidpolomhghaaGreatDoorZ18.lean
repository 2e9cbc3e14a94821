/- Parts of the proof, joined: AmYh to AmYh. -/
import Derived.Test.YtgkidpolomhghaaGreatDoorZ17
set_option linter.unusedVariables false
set_option linter.unusedSimpArgs false
set_option linter.unusedSectionVars false
namespace Go.Proofs.YtgkidpolomhghaaGreatDoor.AM
variable [Dr]
open Go
def Move1 (g:Nat→Nat) (k:Nat) (σ:List AObj) (a b:AV):Prop:=(a=ren g b∧QR k b=true)∨FrzV anyC σ a b
inductive PH (g:Nat→Nat) (k:Nat) (σ:List AObj):List AV→List AV→Prop
 | nil:PH g k σ [] []
 | cons {a b:AV} {as_ bs:List AV}:Move1 g k σ a b→PH g k σ as_ bs→PH g k σ (a::as_) (b::bs)
theorem PH.len {g:Nat→Nat} {k:Nat} {σ:List AObj} {as_ bs:List AV} (h:PH g k σ as_ bs):as_.length=bs.length:=by
 induction h with
 | nil=>rfl
 | cons _ _ ih=>simp[ih]
end Go.Proofs.YtgkidpolomhghaaGreatDoor.AM

/- Parts of the proof, joined: AmYg to AmYh. -/
import Derived.Test.YtogjcmnopidfpaaGreatZ13
set_option linter.unusedVariables false
set_option linter.unusedSimpArgs false
set_option linter.unusedSectionVars false
namespace Go.Proofs.YtogjcmnopidfpaaGreat.AM
variable [Dr]
open Go
def Turn1 (k:Nat) (σ:List AObj) (a b:AV):Prop:=(a=b∧QR k b=true)∨FrzV anyC σ a b
inductive D2 (k:Nat) (σ:List AObj):List AV→List AV→Prop
 | nil:D2 k σ [] []
 | cons {a b:AV} {as_ bs:List AV}:Turn1 k σ a b→D2 k σ as_ bs→D2 k σ (a::as_) (b::bs)
theorem D2.len {k:Nat} {σ:List AObj} {as_ bs:List AV} (h:D2 k σ as_ bs):as_.length=bs.length:=by
 induction h with
 | nil=>rfl
 | cons _ _ ih=>simp[ih]
def Move1 (g:Nat→Nat) (k:Nat) (σ:List AObj) (a b:AV):Prop:=(a=ren g b∧QR k b=true)∨FrzV anyC σ a b
inductive PH (g:Nat→Nat) (k:Nat) (σ:List AObj):List AV→List AV→Prop
 | nil:PH g k σ [] []
 | cons {a b:AV} {as_ bs:List AV}:Move1 g k σ a b→PH g k σ as_ bs→PH g k σ (a::as_) (b::bs)
theorem PH.len {g:Nat→Nat} {k:Nat} {σ:List AObj} {as_ bs:List AV} (h:PH g k σ as_ bs):as_.length=bs.length:=by
 induction h with
 | nil=>rfl
 | cons _ _ ih=>simp[ih]
end Go.Proofs.YtogjcmnopidfpaaGreat.AM

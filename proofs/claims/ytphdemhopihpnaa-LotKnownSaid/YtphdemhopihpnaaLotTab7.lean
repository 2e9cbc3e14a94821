/- The table of the lot layer's functions, with the law of the examples. -/
import Derived.Test.YtphdemhopihpnaaLotKn
import Derived.Test.YtphdemhopihpnaaLotIcA
namespace Go.Proofs.Ytphdemhopihpnaa.AM
open Go

def lotTab7 (b30 b58 b74 : Code) : List (Nat × FE) := (7, ⟨ic7, vs7, 137, rs7, true⟩) :: lotTab b30 b58 b74

def TL7 (b30 b58 b74 : Code) : Tb := ⟨tget (lotTab7 b30 b58 b74), knKnown⟩
theorem TL7_ok : TbOk Try.prog (TL7 (Try.f30.body.getD .skip) (Try.f58.body.getD .skip) (Try.f74.body.getD .skip)) := ⟨fun _ _ h => TOk.get (es := lotTab7 _ _ _) ⟨fok7 _, lotTab_ok⟩ _ _ h, knKnown_ok⟩

end Go.Proofs.Ytphdemhopihpnaa.AM

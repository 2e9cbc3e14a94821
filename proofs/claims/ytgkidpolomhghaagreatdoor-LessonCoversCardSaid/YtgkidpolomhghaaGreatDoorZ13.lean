/- Parts of the proof, joined: LeF4 to LeF4. -/
import Derived.Test.YtgkidpolomhghaaGreatDoorZ12
set_option linter.unusedVariables false
set_option linter.unusedSimpArgs false
set_option linter.unusedSectionVars false
namespace Go.Proofs.YtgkidpolomhghaaGreatDoor.AM
variable [Dr]
open Go
theorem UW.le {D E:Int} {j k j2 k2:Nat} (h:UW D j k) (h2:UW E j2 k2) (hle:D≤E):j≤j2:=by
 have:=h.year;have:=h2.year
 rcases ZB j2 j with hl | hg
 ·have:=NM (show j2+1≤j from hl);omega
 ·exact hg
end Go.Proofs.YtgkidpolomhghaaGreatDoor.AM

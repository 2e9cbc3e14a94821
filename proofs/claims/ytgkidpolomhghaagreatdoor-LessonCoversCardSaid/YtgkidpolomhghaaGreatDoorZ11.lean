/- Parts of the proof, joined: LeC3 to LeF3. -/
import Derived.Test.YtgkidpolomhghaaGreatDoorChecked
import Derived.Test.YtgkidpolomhghaaGreatDoorZ10
set_option linter.unusedVariables false
set_option linter.unusedSimpArgs false
set_option linter.unusedSectionVars false
namespace Go.Proofs.YtgkidpolomhghaaGreatDoor.AM
variable [Dr]
open Go
theorem hmix:Tryz.prog.follows .mixedOrders=true:=Checked.mixed Tryz.checked
def begF:Nat→Int
 | 0=>0
 | k+1=>begF k+337+XY (2000+(k:Int)) 2
theorem U0 (y m:Int):28≤XY y m∧XY y m≤31:=by
 unfold XY
 split
 ·omega
 ·split
  ·omega
  ·split <;> omega
def sumL (y:Int):Nat→Int
 | 0=>0
 | k+1=>sumL y k+XY y ((k:Int)+1)
theorem BJ (y:Int):∀ k,0≤sumL y k∧sumL y k≤31*(k:Int)
 | 0=>by simp[sumL]
 | k+1=>by
  have:=BJ y k
  have:=U0 y ((k:Int)+1)
  unfold sumL;omega
theorem inD_iff {n lo hi:Int}:(decide (n≥lo)&&decide (n≤hi))=inB n lo hi:=by
 rw[Q8,VB];simp
structure UW (D:Int) (j k:Nat):Prop where
 k12:k<12
 lo:begF j+sumL (2000+(j:Int)) k≤D
 hi:D<begF j+sumL (2000+(j:Int)) (k+1)
 top:D≤40000
theorem sumL_12 (y:Int):sumL y 12=337+XY y 2:=by
 simp[sumL,XY];omega
theorem OQ (j:Nat):begF (j+1)=begF j+sumL (2000+(j:Int)) 12:=by rw[sumL_12,begF];omega
theorem SX (y:Int):∀ {a b:Nat},a≤b→sumL y a≤sumL y b:=by
 intro a b h
 induction h with
 | refl=>exact Int.le_refl _
 | step h ih=>have:=U0 y (((‹Nat› : Nat):Int)+1);simp only[sumL];omega
theorem QbH:∀ j:Nat,365*(j:Int)≤begF j∧begF j≤366*(j:Int)
 | 0=>by simp[begF]
 | j+1=>by
  have:=QbH j
  have h2:28≤XY (2000+(j:Int)) 2∧XY (2000+(j:Int)) 2≤29:=by
   simp only[XY];simp;split <;> omega
  unfold begF;omega
theorem NM {a b:Nat} (h:a≤b):begF a≤begF b:=by
 induction h with
 | refl=>exact Int.le_refl _
 | step h ih=>have:=U0 (2000+((‹Nat› : Nat):Int)) 2;simp only[begF];omega
theorem UW.year {D:Int} {j k:Nat} (h:UW D j k):begF j≤D∧D<begF (j+1)∧j≤110:=by
 have h1:=BJ (2000+(j:Int)) k
 have h2:=SX (2000+(j:Int)) (show k+1≤12 from h.k12)
 have h3:=OQ j
 have h4:=QbH j
 have:=h.lo;have:=h.hi;have:=h.top
 omega
abbrev dOf (D:Int) (j k:Nat):Int:=D-begF j-sumL (2000+(j:Int)) k+1
theorem UW.dd {D:Int} {j k:Nat} (h:UW D j k):1≤dOf D j k∧dOf D j k≤XY (2000+(j:Int)) ((k:Int)+1):=by
 have h1:=h.lo;have h2:=h.hi
 rw[sumL] at h2
 unfold dOf;omega
end Go.Proofs.YtgkidpolomhghaaGreatDoor.AM

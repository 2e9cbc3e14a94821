/- Parts of the proof, joined: LeGl to LeGl. -/
import Derived.Lib.LaidTab
import Derived.MakeChecks
import Derived.Walk
import Derived.Test.YtgkidpolomhghaaGreatDoorZ26
set_option linter.unusedVariables false
set_option linter.unusedSimpArgs false
set_option linter.unusedSectionVars false
namespace Go.Proofs.YtgkidpolomhghaaGreatDoor.AM
open Go
theorem Qd1 {w:World} {b:Nat}:∀ (zs:List Int) (i:Nat),(∀ j,j<zs.length→w.cell? ⟨b,i+j,none⟩=some (.int .u8 (zs.getD j 0)))→CV.reps w (Own nom noX) (zs.map (.int .u8)) ⟨b,0,none⟩ i
 | [],_,_=>by simp[CV.reps]
 | z::zs,i,h=>by
  rw[Q0,CV.reps]
  refine ⟨fun ho=>?_,⟨.int .u8 z,?_,by rw[CV.rep]⟩,?_⟩
  ·rcases ho with h | ⟨l,hl⟩
   ·exact h.elim
   ·cases hl
  ·have:=h 0 (by simp)
   have e:Addr.add ⟨b,0,none⟩ i=⟨b,i,none⟩:=by cases i <;> simp[Addr.add]
   rw[e]
   simpa using this
  ·refine Qd1 zs (i+1) fun j hj=>?_
   have:=h (j+1) (by simpa using hj)
   rw[show i+1+j=i+(j+1) by omega,this]
   simp
theorem gl_of_laid {w:World} (h:laidMetH Tryz.prog Rows.lessonKnownRow.laid w):GlOk nom noX w:=by
 rw[MakeChecks.laidMetH_plain _ _ _ (by kernel_rfl)] at h
 obtain ⟨ps,⟨_,_,_,_,_,_,_,_,_,_,⟨g,t,cs,fuel,p,q,hg,ht,hv,hd,_,_⟩,_⟩,_,_⟩:=h
 obtain rfl:=Option.some.inj ((show Tryz.prog.globalNamed "math/bits.deBruijn64tab" = some 1 by kernel_rfl).symm.trans hg)
 obtain rfl:=Option.some.inj ((show (Tryz.prog.globals[1]?).map (·.type)=some 248 by kernel_rfl).symm.trans ht)
 have hcs:cs.toList=FO.map fun z=>Value.int .u8 z:=Lib.cells_of_tab (k:=.u8) (zs:=FO) Tryz.underlying248 Tryz.underlying5 (by kernel_rfl) (by kernel_rfl) hd
 intro x hx
 cases WZ.1 hx
 refine Qd1 FO 0 fun j hj=>?_
 rw[ZV,World.var?_cell hg hv j,← Y7,hcs]
 simp[List.getD,hj]
end Go.Proofs.YtgkidpolomhghaaGreatDoor.AM

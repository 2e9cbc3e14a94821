/- Parts of the proof, joined: LesJF to LesJF. -/
import Derived.Test.YtgkidpolomhghaaGreatDoorRows
import Derived.ProofKit
import Derived.SevenTiedAt
import Derived.Test.YtgkidpolomhghaaGreatDoorZ24
set_option linter.unusedVariables false
set_option linter.unusedSimpArgs false
set_option linter.unusedSectionVars false
namespace Go.Proofs.YtgkidpolomhghaaGreatDoor.AM
open Go
theorem jf_lifts:(Rows.lessonKnownRow.lifted == Tryz.prog.liftsFinal)=true:=by kernel_rfl
theorem jf_enter:Tryz.prog.mayEnter=true:=by kernel_rfl
theorem jf_laid:laidOutB Tryz.prog=true:=by kernel_rfl
theorem jf_maps:mapsRowed Tryz.prog=true:=by kernel_rfl
theorem jf_plain:(Rows.lessonKnownRow.plainKeys == Tryz.prog.plainKeys)=true:=by kernel_rfl
theorem jf_stops:Tryz.prog.stopsHeard=true:=by kernel_rfl
theorem jf_main:Tryz.pinned.checked.prog.mainIs=some (true, "e80771a22139a3c703b77766c49955edb5051ecc89a9c8eef379e7c24972514a".toList):=by kernel_rfl
theorem jf_looks:false=Tryz.pinned.checked.prog.looks []:=by kernel_rfl
def S5 (P:Program) (fn:Func) (s:ChangeSpec) (c:OpenClaim):Bool :=
 c.wf (OpenSpec.ofChange s) &&
 fn.params.all (P.readableRec ·)&&namedTie P c.named s.vars &&
 (c.stops == [])&&(P.stops == [])&&(c.knobs == [])&&(P.stopKnobs == []) &&
 (c.maps == (fn.params.toList++s.plain.varTypes P).any (P.mapsRec ·))&&(c.ifaces == (fn.params.toList++s.plain.varTypes P).any (P.ifacesRec ·))&&(c.mapsOut == P.mapsAmong fn.resultTypes.toList) &&
 (c.loops == (fn.params.toList++s.plain.varTypes P).any (P.loopsFrom ·))&&(c.wideKeys == (fn.params.toList++s.plain.varTypes P++fn.resultTypes.toList).any (P.wideKeysFrom ·)) &&
 s.vars.all (P.varReadable ·)&&fn.resultTypes.all (fun t=>P.readableRec t&&decide (t<P.types.size))&&(c.ifacesOut == fn.resultTypes.toList.any (P.ifacesRec ·))&&(c.loopsOut == fn.resultTypes.toList.any (P.loopsFrom ·))&&c.shortTexts.isNone&&(P.make == some c.make)&&(c.kinds == (if c.domain.isEmpty then [] else fn.params.toList.map fun t=>match P.underlying t with | some (.int k)=>some k | _=>none))&&(c.pinned == c.pinnedBy) &&
 (c.veiled == (fn.params.toList++s.plain.varTypes P++fn.resultTypes.toList).any (P.veiledRec ·))&&c.veiledFits P fn.params.toList (fn.params.toList++s.plain.varTypes P++fn.resultTypes.toList)
theorem jf_mk {P:Program} {f:FuncId} {fn:Func} {s:ChangeSpec} {c:OpenClaim} (h1:laidOutB P=true) (h2:mapsRowed P=true) (h3:(c.plainKeys == P.plainKeys)=true) (h4:P.stopsHeard=true) (h5:P.mayEnter=true) (h6:(c.lifted == P.liftsFinal)=true)
  (h7:(c.inPlace == P.inPlace f)=true) (h8:(c.unfollowed == P.unfollowed f)=true) (h9:(c.recurses == P.recurses f)=true) (h10:(c.named == P.varsNamed f)=true) (h:S5 P fn s c=true):joinedFacts P f fn s c=true:=by
 unfold S5 at h
 unfold joinedFacts
 simp only[QD] at h ⊢
 obtain ⟨⟨⟨⟨⟨⟨⟨⟨⟨⟨⟨⟨⟨⟨⟨⟨⟨⟨⟨⟨⟨k1,k2⟩,k3⟩,k4⟩,k5⟩,k6⟩,k7⟩,k8⟩,k9⟩,k10⟩,k11⟩,k12⟩,k13⟩,k14⟩,k15⟩,k16⟩,k17⟩,k18⟩,k19⟩,k20⟩,k21⟩,k22⟩:=h
 repeat' apply And.intro
 all_goals assumption
end Go.Proofs.YtgkidpolomhghaaGreatDoor.AM

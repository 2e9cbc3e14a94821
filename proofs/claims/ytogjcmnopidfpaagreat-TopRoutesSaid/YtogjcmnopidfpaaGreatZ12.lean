/- Parts of the proof, joined: LibC to LibC. -/
import Derived.Test.YtogjcmnopidfpaaGreatZ11
set_option linter.unusedVariables false
set_option linter.unusedSimpArgs false
set_option linter.unusedSectionVars false
namespace Go.Proofs.YtogjcmnopidfpaaGreat.AM
variable [Dr]
open Go
theorem TB {α:Type} {xs ys zs vs:List α} (h:vs.length≤ys.length):setRange (xs++ys++zs) xs.length vs=xs++vs++ys.drop vs.length++zs:=by
 rw[KG _ _ _ (by simp;omega),QW xs ys zs,List.take_left' rfl]
 rw[List.drop_append,List.drop_of_length_le (by omega),List.nil_append,X6,List.drop_append_of_le_length h]
 simp
theorem S2 (cs:List CV):(cs.map AV.cv).all AV.isSc=true:=by simp[AV.isSc]
theorem Qa3 (zs:List Int):(zs.map AV.i).all AV.isSc=true:=by simp[AV.isSc]
def AccS (e:Nat) (σ:List AObj) (v:AV) (n:Nat) (cs:List CV):Prop:=(v=.cv .nils∧n=0∧cs=[])∨∃ l,v=.sl l 0 n e∧cs.length=n*e∧rowOf σ l=some (cs.map .cv)
theorem AccS.nil (e:Nat) (σ:List AObj):AccS e σ (.cv .nils) 0 []:=.inl ⟨rfl,rfl,rfl⟩
theorem TP {p:CV→Prop} {σ:List AObj}:∀ {cs:List CV},(∀ c∈cs,p c)→HL p σ (cs.map .cv) cs
 | [],_=>.nil
 | c::cs,h=>.cons (.c _ (h c (by simp))) (TP fun c' hc=>h c' (by simp[hc]))
theorem sl_frz {p:CV→Prop} {l n e:Nat} {σ:List AObj} {cs:List CV} {rest:List AV} (hr:rowOf σ l=some (cs.map .cv++rest)) (hl:cs.length=n*e) (hp:∀ c∈cs,p c):FrzV p σ (.sl l 0 n e) (.cv (.rsl cs n)):=by
 refine .c (.sl l 0 n e _ _ hr (by simp[hl]) ?_)
 rw[YO,List.take_left' (by simp[hl])]
 exact TP hp
end Go.Proofs.YtogjcmnopidfpaaGreat.AM

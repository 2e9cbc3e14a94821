/- Parts of the proof, joined: LeSL to LibC. -/
import Derived.Shelf.SlSortCmp.WholeK
import Derived.Shelf.SlGeneric
import Derived.Ground.SlsfProg
import Derived.Test.YtgkidpolomhghaaGreatDoorProg
import Derived.Test.YtgkidpolomhghaaGreatDoorZ13
set_option linter.unusedVariables false
set_option linter.unusedSimpArgs false
set_option linter.unusedSectionVars false
namespace Go.Proofs.YtgkidpolomhghaaGreatDoor.AM
open Go Go.Shelf
def S0:Go.Shelf.Ren:=⟨fun | 6=>148 | 15=>170 | 14=>169 | 28=>191 | 29=>192 | 20=>183 | 21=>184 | 22=>185 | 23=>186 | 24=>187 | 25=>188 | 26=>189 | 27=>190 | 46=>197 | 47=>198 | 48=>199 | 49=>200 | 50=>201 | 57=>202 | n=>n,fun | 22=>100 | 24=>176 | 25=>226 | 3=>3 | 39=>149 | 0=>0 | 53=>201 | 55=>203 | 4=>4 | 46=>256 | 45=>255 | 50=>260 | 5=>5 | 9=>9 | 66=>264 | 70=>268 | 76=>270 | 77=>271 | n=>n,fun | n=>n⟩
theorem sortL:Go.Proofs.SlLaysF0.n6 Tryz.prog S0:={
 mixed:=by kernel_rfl
 f6:=⟨Tryz.f148.name,by decide,Tryz.func148.trans (congrArg some (by kernel_rfl))⟩
 f14:=⟨Tryz.f169.name,by decide,Tryz.func169.trans (congrArg some (by kernel_rfl))⟩
 f15:=Tryz.func170.trans (congrArg some (by kernel_rfl))
 f20:=⟨Tryz.f183.name,by decide,Tryz.func183.trans (congrArg some (by kernel_rfl))⟩
 f21:=⟨Tryz.f184.name,by decide,Tryz.func184.trans (congrArg some (by kernel_rfl))⟩
 f22:=⟨Tryz.f185.name,by decide,Tryz.func185.trans (congrArg some (by kernel_rfl))⟩
 f23:=⟨Tryz.f186.name,by decide,Tryz.func186.trans (congrArg some (by kernel_rfl))⟩
 f24:=⟨Tryz.f187.name,by decide,Tryz.func187.trans (congrArg some (by kernel_rfl))⟩
 f25:=⟨Tryz.f188.name,by decide,Tryz.func188.trans (congrArg some (by kernel_rfl))⟩
 f26:=⟨Tryz.f189.name,by decide,Tryz.func189.trans (congrArg some (by kernel_rfl))⟩
 f27:=⟨Tryz.f190.name,by decide,Tryz.func190.trans (congrArg some (by kernel_rfl))⟩
 f28:=Tryz.func191.trans (congrArg some (by kernel_rfl))
 f29:=Tryz.func192.trans (congrArg some (by kernel_rfl))
 f46:=⟨Tryz.f197.name,by decide,Tryz.func197.trans (congrArg some (by kernel_rfl))⟩
 f47:=Tryz.func198.trans (congrArg some (by kernel_rfl))
 f48:=Tryz.func199.trans (congrArg some (by kernel_rfl))
 f49:=⟨Tryz.f200.name,by decide,Tryz.func200.trans (congrArg some (by kernel_rfl))⟩
 f50:=⟨Tryz.f201.name,by decide,Tryz.func201.trans (congrArg some (by kernel_rfl))⟩
 f57:=⟨Tryz.f202.name,by decide,Tryz.func202.trans (congrArg some (by kernel_rfl))⟩
 t0:=Tryz.underlying0
 a0:=Tryz.isAgg0
 z0:=Tryz.sizeOf0
 v0:=Tryz.zeroValue0
 t3:=Tryz.underlying3
 a3:=Tryz.isAgg3
 z3:=Tryz.sizeOf3
 v3:=Tryz.zeroValue3
 t4:=Tryz.underlying4
 a4:=Tryz.isAgg4
 z4:=Tryz.sizeOf4
 v4:=Tryz.zeroValue4
 t5:=Tryz.underlying5
 a5:=Tryz.isAgg5
 z5:=Tryz.sizeOf5
 v5:=Tryz.zeroValue5
 t9:=Tryz.underlying9
 a9:=Tryz.isAgg9
 z9:=Tryz.sizeOf9
 v9:=Tryz.zeroValue9
 t22:=Tryz.underlying100
 a22:=Tryz.isAgg100
 z22:=Tryz.sizeOf100
 v22:=Tryz.zeroValue100
 t25:=Tryz.underlying226
 a25:=Tryz.isAgg226
 z25:=Tryz.sizeOf226
 v25:=Tryz.zeroValue226
 t39:=Tryz.underlying149
 a39:=Tryz.isAgg149
 z39:=Tryz.sizeOf149
 v39:=Tryz.zeroValue149
 t45:=Tryz.underlying255
 a45:=Tryz.isAgg255
 z45:=Tryz.sizeOf255
 v45:=Tryz.zeroValue255
 t46:=Tryz.underlying256
 a46:=Tryz.isAgg256
 z46:=Tryz.sizeOf256
 v46:=Tryz.zeroValue256
 t50:=Tryz.underlying260
 a50:=Tryz.isAgg260
 z50:=Tryz.sizeOf260
 v50:=Tryz.zeroValue260
 t53:=Tryz.underlying201
 a53:=Tryz.isAgg201
 z53:=Tryz.sizeOf201
 v53:=Tryz.zeroValue201
 t55:=Tryz.underlying203
 a55:=Tryz.isAgg203
 z55:=Tryz.sizeOf203
 v55:=Tryz.zeroValue203
 t66:=Tryz.underlying264
 a66:=Tryz.isAgg264
 z66:=Tryz.sizeOf264
 v66:=Tryz.zeroValue264
 t70:=Tryz.underlying268
 a70:=Tryz.isAgg268
 z70:=Tryz.sizeOf268
 v70:=Tryz.zeroValue268
 t76:=Tryz.underlying270
 a76:=Tryz.isAgg270
 z76:=Tryz.sizeOf270
 v76:=Tryz.zeroValue270
 t77:=Tryz.underlying271
 a77:=Tryz.isAgg271
 z77:=Tryz.sizeOf271
 v77:=Tryz.zeroValue271 }
end Go.Proofs.YtgkidpolomhghaaGreatDoor.AM
namespace Go.Proofs.YtgkidpolomhghaaGreatDoor.AM
variable [Dr]
open Go
theorem TB {α:Type} {xs ys zs vs:List α} (h:vs.length≤ys.length):setRange (xs++ys++zs) xs.length vs=xs++vs++ys.drop vs.length++zs:=by
 rw[KG _ _ _ (by simp;omega),QW xs ys zs,List.take_left' rfl]
 rw[List.drop_append,List.drop_of_length_le (by omega),List.nil_append,X6,List.drop_append_of_le_length h]
 simp
theorem S2 (cs:List CV):(cs.map AV.cv).all AV.isSc=true:=by simp[AV.isSc]
theorem Qa3 (zs:List Int):(zs.map AV.i).all AV.isSc=true:=by simp[AV.isSc]
def AccS (e:Nat) (σ:List AObj) (v:AV) (n:Nat) (cs:List CV):Prop:=(v=.cv .nils∧n=0∧cs=[])∨∃ l,v=.sl l 0 n e∧cs.length=n*e∧rowOf σ l=some (cs.map .cv)
theorem AccS.nil (e:Nat) (σ:List AObj):AccS e σ (.cv .nils) 0 []:=.inl ⟨rfl,rfl,rfl⟩
theorem QcM {e by_ n:Nat} {σ:List AObj} {v:AV} {cs x:List CV} (h:AccS e σ v n cs) (hx:x.length=e) (hb:(n+1)*by_≤2 ^ 44) (hn:n+1≤2 ^ 44) :
  ∃ (v':AV) (σ':List AObj),ZX e by_ [v,.sl σ.length 0 1 e] (σ++[AObj.cells (x.map .cv)])=some (v',σ')∧AccS e σ' v' (n+1) (cs++x):=by
 have hsrc:Z9 (σ++[AObj.cells (x.map .cv)]) e (.sl σ.length 0 1 e)=some (x.map .cv):=by
  have h1:0+1*e≤(x.map AV.cv).length:=by simp[hx]
  simp only[Z9,if_true,XH,Option.bind_some]
  rw[if_pos h1,YO,Q5 (by simp[hx])]
 rcases h with ⟨rfl,rfl,rfl⟩ | ⟨l,rfl,hl,hr⟩
 ·refine ⟨.sl (σ++[AObj.cells (x.map .cv)]).length 0 1 e,(σ++[AObj.cells (x.map .cv)])++[AObj.cells (x.map .cv)],?_,.inr ⟨_,rfl,by simp[hx],by rw[XH];simp⟩⟩
  have h1:1*e=(x.map AV.cv).length∧1*by_≤2 ^ 44∧1≤2 ^ 44∧(x.map AV.cv).all AV.isSc=true:=⟨by simp[hx],by omega,by omega,S2 x⟩
  simp only[ZX,hsrc,lenF,Option.bind_some]
  rw[if_neg (by omega),if_pos h1]
 ·have hr':=FU hr (AObj.cells (x.map .cv))
  refine ⟨.sl (σ++[AObj.cells (x.map .cv)]).length 0 (n+1) e,(σ++[AObj.cells (x.map .cv)]).set l AObj.dead++[AObj.cells (cs.map .cv++x.map .cv)],?_,.inr ⟨(σ++[AObj.cells (x.map .cv)]).length,rfl,by rw[QM,hl,hx,XJ],?_⟩⟩
  ·have h1:True∧n*e≤(cs.map AV.cv).length∧1*e=(x.map AV.cv).length∧(n+1)*by_≤2 ^ 44∧n+1≤2 ^ 44∧(x.map AV.cv).all AV.isSc=true:=⟨trivial,by simp[hl],by simp[hx],hb,hn,S2 x⟩
   simp only[ZX,hr',hsrc,lenF,Option.bind_some]
   rw[if_pos h1,Q5 (by simp[hl])]
  ·have:(σ++[AObj.cells (x.map .cv)]).length=((σ++[AObj.cells (x.map .cv)]).set l AObj.dead).length:=by simp
   rw[this,XH,ZS]
theorem TP {p:CV→Prop} {σ:List AObj}:∀ {cs:List CV},(∀ c∈cs,p c)→HL p σ (cs.map .cv) cs
 | [],_=>.nil
 | c::cs,h=>.cons (.c _ (h c (by simp))) (TP fun c' hc=>h c' (by simp[hc]))
theorem GI {p:CV→Prop} {e n:Nat} {σ:List AObj} {v:AV} {cs:List CV} (h:AccS e σ v n cs) (hp:∀ c∈cs,p c):FrzV p σ v (.cv (.rsl cs n)):=by
 rcases h with ⟨rfl,rfl,rfl⟩ | ⟨l,rfl,hl,hr⟩
 ·exact .c .nl
 ·refine .c (.sl l 0 n e _ _ hr (by simp[hl]) ?_)
  rw[YO,Q5 (by simp[hl])]
  exact TP hp
theorem sl_frz {p:CV→Prop} {l n e:Nat} {σ:List AObj} {cs:List CV} {rest:List AV} (hr:rowOf σ l=some (cs.map .cv++rest)) (hl:cs.length=n*e) (hp:∀ c∈cs,p c):FrzV p σ (.sl l 0 n e) (.cv (.rsl cs n)):=by
 refine .c (.sl l 0 n e _ _ hr (by simp[hl]) ?_)
 rw[YO,List.take_left' (by simp[hl])]
 exact TP hp
end Go.Proofs.YtgkidpolomhghaaGreatDoor.AM

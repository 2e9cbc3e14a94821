/- Parts of the proof, joined: LeE1 to LeE2. -/
import Derived.Test.YtgkidpolomhghaaGreatDoorZ16
set_option linter.unusedVariables false
set_option linter.unusedSimpArgs false
set_option linter.unusedSectionVars false
namespace Go.Proofs.YtgkidpolomhghaaGreatDoor.AM
variable [Dr]
open Go Pl Go.Sort Go.Shelf
abbrev Rt:=Int × Int
def rgC (r:Rt):List CV:=[.int .i64 r.1,.int .i64 r.2]
abbrev rgV (r:Rt):AV:=.agg [.i r.1,.i r.2]
abbrev rgL (l:List Rt):AV:=.cv (.rsl (l.flatMap rgC) l.length)
theorem IR (r:Rt):(rgC r).length=2:=rfl
theorem MN (l:List Rt):∀ c∈l.flatMap rgC,scl c:=by
 intro c hc
 rw[YM] at hc
 obtain ⟨m,_,hm⟩:=hc
 simp only[rgC,ZD,WK,or_false] at hm
 rcases hm with rfl | rfl <;> trivial
theorem c117 (x:Int):PC Tryz.prog 138 [.i x] (.b false):=by
 refine ⟨ZF (fok138 true) (QC rfl) ?_,rfl⟩
 simp only[ic138,evA,simprocAttr]
 exact frz
theorem c98 (x y:Int):PC Tryz.prog 103 [.i x,.i y] (.i (cmpN x y)):=by
 refine ⟨ZF (fok103 true) (QC rfl) ?_,rfl⟩
 simp only[ic103,evA,simprocAttr]
 refine (c117 x).call frz ?_
 simp only[evA,simprocAttr]
 refine (c117 y).call frz ?_
 unfold cmpN
 by_cases h1:x<y
 ·simp only[h1,evA,simprocAttr]
  exact frz
 ·by_cases h2:x>y
  ·simp only[h1,h2,evA,simprocAttr]
   exact frz
  ·simp only[h1,h2,evA,simprocAttr]
   exact frz
theorem c97 (x y:Int):PC Tryz.prog 150 [ints [x,y]] (.i (if x≠0 then x else y)):=by
 refine ⟨ZF (fok150 true) (QC rfl) ?_,rfl⟩
 simp only[ic150,evA,simprocAttr]
 refine J1 ?_
 have h0:decide ((0:Int)<(([x,y]:List Int).length:Int))=true:=rfl
 have h1:decide ((1:Int)<(([x,y]:List Int).length:Int))=true:=rfl
 have h2:decide ((2:Int)<(([x,y]:List Int).length:Int))=false:=rfl
 have w1:IntKind.i64.wrap (0+1)=1:=by decide
 have w2:IntKind.i64.wrap (1+1)=2:=by decide
 have a0:∀ σ,VP 1 [ints [x,y],.i 0] σ=some (.cv (.rp (([x,y]:List Int).map (.int .i64)) 0),σ):=fun σ=>rfl
 have a1:∀ σ,VP 1 [ints [x,y],.i 1] σ=some (.cv (.rp (([x,y]:List Int).map (.int .i64)) 1),σ):=fun σ=>rfl
 cases hx:(x != 0) with
 | true =>
  rw[if_pos (by simpa using hx)]
  simp only[ic150l0,h0,a0,hx,evA,simprocAttr]
  exact frz
 | false =>
  rw[if_neg (by simpa using hx)]
  simp only[ic150l0,h0,a0,hx,w1,evA,simprocAttr]
  refine J1 ?_
  cases hy:(y != 0) with
  | true =>
   simp only[ic150l0,h1,a1,hy,evA,simprocAttr]
   exact frz
  | false =>
   have hy0:y=0:=by simpa using hy
   simp only[ic150l0,h1,a1,hy,w2,evA,simprocAttr]
   refine J1 ?_
   simp only[ic150l0,h2,evA,simprocAttr]
   rw[hy0]
   exact frz
theorem c96 (a b:Rt):PC Tryz.prog 149 [rgV a,rgV b] (.i (cmpR a b)):=by
 refine ⟨ZF (fok149 true) (QC rfl) ?_,rfl⟩
 simp only[ic149,WI,cellsOf,evA,simprocAttr]
 refine DW_s [4,9,11] [] hmix (by kernel_rfl) rfl ?_
 simp only[evA,simprocAttr]
 refine YE ((c98 a.1 b.1).call frz ⟨rfl,rfl⟩) rfl ?_
 simp only[evA,simprocAttr]
 refine YE ((c98 a.2 b.2).call frz ⟨rfl,rfl⟩) rfl ?_
 simp only[evA,simprocAttr]
 refine YE ((c97 (cmpN a.1 b.1) (cmpN a.2 b.2)).call (.cons (U4 (zs:=[cmpN a.1 b.1,cmpN a.2 b.2]) (fun _=>trivial) rfl rfl) .nil) ⟨rfl,rfl⟩) rfl ?_
 simp only[evA,simprocAttr]
 exact frz
theorem c96n (a b:Rt):AC Tryz.prog 149 [rgV a,rgV b] [] fun r _=>r=.i (cmpR a b):=(c96 a b).ac.mono fun r τ h=>by
 cases h with
 | c h=>cases h;rfl
theorem en95:PI Tryz.prog 148:=RE Tryz.func148 (by kernel_rfl) (c:=Tryz.f148.body.getD .skip) (by kernel_rfl)
theorem Qcx (l:List Rt):(List.range l.length).flatMap (fun i=>rgC (l[i]?.getD (0,0)))=l.flatMap rgC:=by
 induction l with
 | nil=>rfl
 | cons x l ih =>
  rw[List.length_cons,UR,YH,List.flatMap_map]
  simp only[List.getElem?_cons_zero,Option.getD_some,List.getElem?_cons_succ,YH]
  rw[ih]
theorem L3 (l:List Rt):(List.range l.length).map (fun i=>l[i]?.getD (0,0))=l:=by
 apply Z1
 intro i
 by_cases h:i<l.length
 ·simp[h]
 ·simp[h]
theorem c95 {l:List Rt} (hl:0<l.length) (hl2:l.length<2 ^ 60) {σ:List AObj} {p:Nat} (hr:rowOf σ p=some ((l.flatMap rgC).map .cv)) :
  AC Tryz.prog 148 [.sl p 0 l.length 2,.fn (.func 149) []] σ fun r τ=>r=.tup []∧τ=σ.set p (.cells (((V2 l).flatMap rgC).map .cv)):=by
 have h:=AC_sortK (P:=Tryz.prog) (ρ:=S0) sortL 2 (fun w=>Tryz.isAgg176 w) (fun w=>Tryz.sizeOf176 w) en95 (g:=149) (cap:=[]) (n:=l.length) hl (by omega) (A:=fun i=>rgC (l[i]?.getD (0,0))) (fun i=>rfl)
  (cf:=fun i j=>cmpR (l[i]?.getD (0,0)) (l[j]?.getD (0,0))) (swoR fun i=>l[i]?.getD (0,0)) rfl (fun i j _ _=>@c96n drOn (l[i]?.getD (0,0)) (l[j]?.getD (0,0))) (σ:=σ) (l:=p) (rest:=[]) (by rw[ZU,Qcx];exact hr)
 refine h.mono ?_
 rintro r τ ⟨rfl,q,hq,hs,rfl⟩
 refine ⟨rfl,?_⟩
 have hm:q.map (fun i=>l[i]?.getD (0,0))=V2 l:=by
  refine EF ?_ ?_
  ·have:=hq.map fun i=>l[i]?.getD (0,0)
   rwa [L3] at this
  ·rw[List.pairwise_map]
   exact hs.imp fun {i j} h=>cmpR_not.1 h
 rw[← hm,List.flatMap_map,ZU]
end Go.Proofs.YtgkidpolomhghaaGreatDoor.AM
namespace Go.Proofs.YtgkidpolomhghaaGreatDoor.AM
variable [Dr]
open Go Pl
set_option maxRecDepth 100000 in
theorem c139z:PC Tryz.prog 192 [.cv (.int .u64 0)] (.i 0):=by
 refine ⟨ZF (fok192 true) (QC rfl) ?_,rfl⟩
 simp only[ic192,evA,simprocAttr]
 exact frz
theorem c116z:PC Tryz.prog 170 [.cv (.int .u64 0)] (.i 0):=by
 refine ⟨ZF (fok170 true) (QC rfl) ?_,rfl⟩
 simp only[ic170,evA,simprocAttr]
 refine c139z.call frz ?_
 simp only[evA,simprocAttr]
 exact frz
theorem c130z:PC Tryz.prog 183 [.cv .nils,.i 0,.i 0,.fn (.func 149) []] (.tup []):=by
 refine ⟨ZF (fok183 true) (QC rfl) ?_,rfl⟩
 simp only[ic183,evA,simprocAttr]
 refine J1 ?_
 simp only[ic183l1,kUn_x,evA,simprocAttr]
 exact .tup .nil
theorem c115z:PC Tryz.prog 169 [.cv .nils,.i 0,.i 0,.i 0,.fn (.func 149) []] (.tup []):=by
 refine ⟨ZF (fok169 true) (QC rfl) ?_,rfl⟩
 simp only[ic169,evA,simprocAttr]
 refine J1 ?_
 simp only[ic169l0,kUn_r,evA,simprocAttr]
 refine c130z.call frz ?_
 simp only[kUn_r,evA,simprocAttr]
 exact .tup .nil
theorem p95n:PC Tryz.prog 148 [.cv .nils,.fn (.func 149) []] (.tup []):=by
 refine ⟨ZF (fok148 true) (QC rfl) ?_,rfl⟩
 simp only[ic148,evA,simprocAttr]
 refine c116z.call frz ?_
 simp only[evA,simprocAttr]
 refine c115z.call frz ?_
 simp only[evA,simprocAttr]
 exact .tup .nil
theorem c95n (σ:List AObj):AC Tryz.prog 148 [.cv .nils,.fn (.func 149) []] σ fun r τ=>r=.tup []∧τ=σ:=p95n.call (.cons (GE (k:=0) _ rfl) (.cons (GE (k:=0) _ rfl) .nil)) ⟨rfl,rfl⟩
end Go.Proofs.YtgkidpolomhghaaGreatDoor.AM

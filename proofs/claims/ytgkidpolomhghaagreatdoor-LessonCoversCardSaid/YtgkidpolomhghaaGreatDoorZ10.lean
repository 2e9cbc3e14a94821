/- Parts of the proof, joined: LibB to LeC2. -/
import Derived.Lib.Strings
import Derived.Test.YtgkidpolomhghaaGreatDoorZ9
set_option linter.unusedVariables false
set_option linter.unusedSimpArgs false
set_option linter.unusedSectionVars false
namespace Go.Proofs.YtgkidpolomhghaaGreatDoor.AM
variable [Dr]
open Go
section
variable {α:Type} [Inhabited α] {f:α→List CV} {e:Nat}
theorem UG (hf:∀ x,(f x).length=e):∀ xs:List α,(xs.flatMap f).length=xs.length*e
 | []=>by simp
 | x::xs=>by simp[UG hf xs,hf,XJ];omega
theorem A3 (hf:∀ x,(f x).length=e):∀ (xs:List α) (k:Nat),(xs.flatMap f).take (k*e)=(xs.take k).flatMap f
 | [],k=>by simp
 | x::xs,0=>by simp
 | x::xs,k+1=>by
  have h:=A3 hf xs k
  rw[YH,List.take_succ_cons,YH,XJ,List.take_append,hf,Nat.add_sub_cancel,h]
  rw[Q5 (by rw[hf];omega)]
theorem A5 (hf:∀ x,(f x).length=e):∀ (xs:List α) (k:Nat),(xs.flatMap f).drop (k*e)=(xs.drop k).flatMap f
 | [],k=>by simp
 | x::xs,0=>by simp
 | x::xs,k+1=>by
  have h:=A5 hf xs k
  rw[YH,List.drop_succ_cons,XJ,List.drop_append,hf,Nat.add_sub_cancel,h]
  rw[List.drop_of_length_le (by rw[hf];omega),List.nil_append]
theorem G3 (hf:∀ x,(f x).length=e) {xs:List α} {k:Nat} (hk:k<xs.length):((xs.flatMap f).drop (k*e)).take e=f xs[k]! := by
 rw[A5 hf]
 have:xs.drop k=xs[k]! :: xs.drop (k+1):=by rw[List.drop_eq_getElem_cons hk];simp[hk]
 rw[this,YH,List.take_append,hf,Nat.sub_self,List.take_zero,ZU,Q5 (by rw[hf];omega)]
theorem flat_get (hf:∀ x,(f x).length=e) {xs:List α} {k:Nat} (hk:k<xs.length) {j:Nat} (hj:j<e):(xs.flatMap f)[k*e+j]? = (f xs[k]!)[j]? := by
 rw[← G3 hf hk,Z7,if_pos hj,X4]
end
theorem XP {e n k:Nat} {cs:List CV} (h:k<n) (σ:List AObj):VP e [.cv (.rsl cs n),.cv (.int .i64 k)] σ=some (.cv (.rp cs (k*e)),σ):=by
 simp[VP,h]
theorem Qc7 {e n k:Nat} {cs:List CV} (h:k≤n) (hl:cs.length=n*e) (σ:List AObj):VG e false true [.cv (.rsl cs n),.cv (.int .i64 k)] σ=some (.cv (.rsl (cs.take (k*e)) k),σ):=by
 simp[VG,bnds,bnd,h,hl]
theorem MP {n:Nat} (h:n<2 ^ 40) (σ:List AObj):XB 1 8 [.i 0] [.i n,.i n] σ=some (.sl σ.length 0 n 1,σ++[.cells ((List.replicate n (0:Int)).map AV.i)]):=by
 have e:(2:Int) ^ 46=70368744177664:=by decide
 have e2:(2:Nat) ^ 40=1099511627776:=by decide
 have h1:0≤(n:Int)∧True∧(n:Int)*(8:Nat)≤2 ^ 46∧(n:Int)≤2 ^ 46∧[AV.i 0].length=1:=by
  refine ⟨by omega,trivial,by omega,by omega,rfl⟩
 simp only[XB]
 rw[if_pos h1]
 simp[YW]
theorem BP {l n w:Nat} (h:w<n) (σ:List AObj):VG 1 true false [.sl l 0 n 1,.cv (.int .i64 w)] σ=some (.sl l w (n-w) 1,σ):=by
 have h2:¬ (w=n∧0<w):=by omega
 simp[VG,bnds,bnd,Nat.le_of_lt h,h2]
theorem Qb1 {l n w:Nat} (h:w≤n) (σ:List AObj):VG 1 false true [.sl l 0 n 1,.cv (.int .i64 w)] σ=some (.sl l 0 w 1,σ):=by
 have h2:¬ (0=w∧0<0):=by omega
 simp[VG,bnds,bnd,h]
theorem WW (σ J:List AObj):rowOf (σ++J) σ.length=rowOf J 0:=by
 unfold rowOf;rw[QS (QG _),Nat.sub_self]
theorem X9 (σ J:List AObj) (k:Nat):rowOf (σ++J) (σ.length+k)=rowOf J k:=by
 unfold rowOf;rw[QS (by omega),X6]
theorem VW (σ J:List AObj) (v:AObj):(σ++J).set σ.length v=σ++J.set 0 v:=by
 rw[List.set_append_right _ _ (QG _),Nat.sub_self]
theorem EZ (σ J:List AObj) (k:Nat) (v:AObj):(σ++J).set (σ.length+k) v=σ++J.set k v:=by
 rw[List.set_append_right _ _ (by omega),X6]
theorem Qau (σ J:List AObj):(σ++J)[σ.length]? = J[0]? := by rw[QS (QG _),Nat.sub_self]
theorem CH (σ J:List AObj) (k:Nat):(σ++J)[σ.length+k]? = J[k]? := by rw[QS (by omega),X6]
theorem get_nz (σ:List AObj):σ[σ.length]? = none:=QN (QG _)
theorem get_ns (σ:List AObj) (k:Nat):σ[σ.length+k]? = none:=QN (by omega)
theorem ZH {σ:List AObj} {l:Nat} {cs:List AV} (h:rowOf σ l=some cs) (J:List AObj):rowOf (σ++J) l=some cs:=by
 have h:=WO h
 unfold rowOf;rw[QE (QH.1 h).1,h]
theorem Qdq {σ:List AObj} {l:Nat} {cs:List AV} (h:rowOf σ l=some cs) (J:List AObj):(σ++J)[l]? = some (.cells cs):=by
 have h:=WO h
 rw[QE (QH.1 h).1,h]
theorem str_eq (x y:ByteArray):(x.toList == y.toList)=decide (x=y):=by
 rw[Q8];simp
 constructor
 ·intro h
  rw[Lib.toList_data,Lib.toList_data] at h
  cases x;cases y
  simp only at h
  congr
  exact Array.toList_inj.1 h
 ·rintro rfl;rfl
theorem Q6 {n:Nat} (h:n+1<2 ^ 63):IntKind.i64.wrap ((n:Int)+1)=((n+1:Nat):Int):=by rw[ZC (by omega)];rfl
theorem c88 (z lo hi:Int) (σ:List AObj):AC Tryz.prog 174 [.i z,.cv (.rp [.int .i64 lo] 0),.cv (.rp [.int .i64 hi] 0)] σ fun r τ=>r=.b (decide (z<lo)||decide (z>hi))∧τ=σ:=by
 refine ZF (fok174 true) (QC rfl) ?_
 by_cases h:z<lo <;> simp only[ic174,h,evA,simprocAttr]
def idxF (p:Int→Bool) (zs:List Int):Int:=match zs.findIdx? p with | some i=>i | none=>-1
theorem AW {p:Int→Bool} {zs:List Int} {i:Nat} (h:i<zs.length) (hall:∀ j,j<i→p (zs[j]?.getD 0)=false) (hp:p (zs[i]?.getD 0)=true):idxF p zs=i:=by
 have:zs.findIdx? p=some i:=by
  rw[List.findIdx?_eq_some_iff_getElem]
  refine ⟨h,by simpa[h] using hp,fun j hj=>?_⟩
  have:=hall j hj
  simpa[show j<zs.length by omega] using this
 simp[idxF,this]
theorem AX {p:Int→Bool} {zs:List Int} (hall:∀ j,j<zs.length→p (zs[j]?.getD 0)=false):idxF p zs = -1:=by
 have:zs.findIdx? p=none:=by
  rw[List.findIdx?_eq_none_iff]
  intro x hx
  obtain ⟨j,hj,rfl⟩:=WN.1 hx
  have:=hall j hj
  simpa[hj] using this
 simp[idxF,this]
theorem Qdl (p:Int→Bool) (zs:List Int):decide (idxF p zs≥0)=zs.any p:=by
 unfold idxF
 cases h:zs.findIdx? p with
 | none =>
  rw[List.findIdx?_eq_none_iff] at h
  simpa using h
 | some i =>
  rw[List.findIdx?_eq_some_iff_getElem] at h
  obtain ⟨hi,hp,_⟩:=h
  have:zs.any p=true:=ZZ.2 ⟨zs[i],Q2 hi,hp⟩
  rw[this];simp
theorem c111 (zs:List Int) (fv:AV) (p:Int→Bool) (hz:zs.length<2 ^ 63) (hf:∀ z σ,X0 Tryz.prog fv [.i z] σ fun r τ=>r=.b (p z)∧τ=σ) (σ:List AObj) :
  AC Tryz.prog 152 [ints zs,fv] σ fun r τ=>r=.i (idxF p zs)∧τ=σ:=by
 refine ZF (fok152 true) (QC rfl) ?_
 simp only[ic152,evA,simprocAttr]
 refine ZW zs.length (fun i s=>(∀ j,j<i→p (zs[j]?.getD 0)=false)∧∃ v3 v6 v7,s=⟨[ints zs,fv,.i 0,v3,.i zs.length,.i i,v6,v7],σ⟩) ?_ 0 (QF _) ⟨by omega,_,_,_,rfl⟩
 rintro i s hi ⟨hall,v3,v6,v7,rfl⟩
 by_cases h:i<zs.length
 ·simp only[ic152l0,QJ,h,evA,simprocAttr]
  refine (hf _ _).run ?_
  cases hp:p (zs[i]?.getD 0)
  ·simp only[evA,simprocAttr]
   refine ZL (by first | trivial | omega) ⟨fun j hj=>?_,_,_,_,by rw[ZC (by omega)];rfl⟩
   rcases QQ.1 hj with hj | rfl
   ·exact hall j hj
   ·exact hp
  ·simp only[evA,simprocAttr]
   exact (AW h hall hp).symm
 ·simp only[ic152l0,QJ,h,evA,simprocAttr]
  have:i=zs.length:=by omega
  subst this
  exact (AX hall).symm
theorem c87 (zs:List Int) (fv:AV) (p:Int→Bool) (hz:zs.length<2 ^ 63) (hf:∀ z σ,X0 Tryz.prog fv [.i z] σ fun r τ=>r=.b (p z)∧τ=σ):PC Tryz.prog 117 [ints zs,fv] (.b (zs.any p)):=by
 refine ⟨ZF (fok117 true) (QC rfl) ?_,rfl⟩
 simp only[ic117,evA,simprocAttr]
 refine (c111 zs fv p hz hf _).run ?_
 simp only[evA,simprocAttr,Qdl]
 exact frz
theorem c56 (lo hi:Int) (zs:List Int) (hz:zs.length<2 ^ 63):PC Tryz.prog 156 [.i lo,.i hi,ints zs] (.b (outF lo hi zs)):=by
 refine ⟨ZF (fok156 true) (QC rfl) ?_,rfl⟩
 simp only[ic156,evA,simprocAttr]
 refine (c87 zs (.fn (.func 174) [.cv (.rp [.int .i64 lo] 0),.cv (.rp [.int .i64 hi] 0)]) (fun z=>decide (z<lo)||decide (z>hi)) hz (fun z σ=>c88 z lo hi σ)).call frz ?_
 exact frz
theorem c59 (n lo hi:Int):PC Tryz.prog 140 [.i n,.i lo,.i hi] (.b (decide (n≥lo)&&decide (n≤hi))):=by
 refine ⟨ZF (fok140 true) (QC rfl) ?_,rfl⟩
 by_cases h:n≥lo <;> simp only[ic140,h,evA,simprocAttr] <;> exact frz
def AK (y:Int):Bool:=(y.tmod 400 == 0)||((y.tmod 4 == 0)&&(y.tmod 100 != 0))
def XY (y m:Int):Int:=if m=4∨m=6∨m=9∨m=11 then 30 else if m≠2 then 31 else if AK y then 29 else 28
end Go.Proofs.YtgkidpolomhghaaGreatDoor.AM

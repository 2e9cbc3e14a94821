/- Parts of the proof, joined: LibB to LibB. -/
import Derived.Lib.Strings
import Derived.Test.YtogjcmnopidfpaaGreatZ9
set_option linter.unusedVariables false
set_option linter.unusedSimpArgs false
set_option linter.unusedSectionVars false
namespace Go.Proofs.YtogjcmnopidfpaaGreat.AM
variable [Dr]
open Go
section
variable {α:Type} [Inhabited α] {f:α→List CV} {e:Nat}
theorem UG (hf:∀ x,(f x).length=e):∀ xs:List α,(xs.flatMap f).length=xs.length*e
 | []=>by simp
 | x::xs=>by simp[UG hf xs,hf,XJ];omega
theorem A3 (hf:∀ x,(f x).length=e):∀ (xs:List α) (k:Nat),(xs.flatMap f).take (k*e)=(xs.take k).flatMap f
 | [],k=>by simp
 | x::xs,0=>by simp
 | x::xs,k+1=>by
  have h:=A3 hf xs k
  rw[YH,List.take_succ_cons,YH,XJ,List.take_append,hf,Nat.add_sub_cancel,h]
  rw[Q5 (by rw[hf];omega)]
theorem A5 (hf:∀ x,(f x).length=e):∀ (xs:List α) (k:Nat),(xs.flatMap f).drop (k*e)=(xs.drop k).flatMap f
 | [],k=>by simp
 | x::xs,0=>by simp
 | x::xs,k+1=>by
  have h:=A5 hf xs k
  rw[YH,List.drop_succ_cons,XJ,List.drop_append,hf,Nat.add_sub_cancel,h]
  rw[List.drop_of_length_le (by rw[hf];omega),List.nil_append]
theorem G3 (hf:∀ x,(f x).length=e) {xs:List α} {k:Nat} (hk:k<xs.length):((xs.flatMap f).drop (k*e)).take e=f xs[k]! := by
 rw[A5 hf]
 have:xs.drop k=xs[k]! :: xs.drop (k+1):=by rw[List.drop_eq_getElem_cons hk];simp[hk]
 rw[this,YH,List.take_append,hf,Nat.sub_self,List.take_zero,ZU,Q5 (by rw[hf];omega)]
theorem flat_get (hf:∀ x,(f x).length=e) {xs:List α} {k:Nat} (hk:k<xs.length) {j:Nat} (hj:j<e):(xs.flatMap f)[k*e+j]? = (f xs[k]!)[j]? := by
 rw[← G3 hf hk,Z7,if_pos hj,X4]
end
theorem XP {e n k:Nat} {cs:List CV} (h:k<n) (σ:List AObj):VP e [.cv (.rsl cs n),.cv (.int .i64 k)] σ=some (.cv (.rp cs (k*e)),σ):=by
 simp[VP,h]
theorem Qc7 {e n k:Nat} {cs:List CV} (h:k≤n) (hl:cs.length=n*e) (σ:List AObj):VG e false true [.cv (.rsl cs n),.cv (.int .i64 k)] σ=some (.cv (.rsl (cs.take (k*e)) k),σ):=by
 simp[VG,bnds,bnd,h,hl]
theorem BP {l n w:Nat} (h:w<n) (σ:List AObj):VG 1 true false [.sl l 0 n 1,.cv (.int .i64 w)] σ=some (.sl l w (n-w) 1,σ):=by
 have h2:¬ (w=n∧0<w):=by omega
 simp[VG,bnds,bnd,Nat.le_of_lt h,h2]
theorem WW (σ J:List AObj):rowOf (σ++J) σ.length=rowOf J 0:=by
 unfold rowOf;rw[QS (QG _),Nat.sub_self]
theorem X9 (σ J:List AObj) (k:Nat):rowOf (σ++J) (σ.length+k)=rowOf J k:=by
 unfold rowOf;rw[QS (by omega),X6]
theorem VW (σ J:List AObj) (v:AObj):(σ++J).set σ.length v=σ++J.set 0 v:=by
 rw[List.set_append_right _ _ (QG _),Nat.sub_self]
theorem EZ (σ J:List AObj) (k:Nat) (v:AObj):(σ++J).set (σ.length+k) v=σ++J.set k v:=by
 rw[List.set_append_right _ _ (by omega),X6]
theorem Qau (σ J:List AObj):(σ++J)[σ.length]? = J[0]? := by rw[QS (QG _),Nat.sub_self]
theorem CH (σ J:List AObj) (k:Nat):(σ++J)[σ.length+k]? = J[k]? := by rw[QS (by omega),X6]
theorem get_nz (σ:List AObj):σ[σ.length]? = none:=QN (QG _)
theorem get_ns (σ:List AObj) (k:Nat):σ[σ.length+k]? = none:=QN (by omega)
theorem ZH {σ:List AObj} {l:Nat} {cs:List AV} (h:rowOf σ l=some cs) (J:List AObj):rowOf (σ++J) l=some cs:=by
 have h:=WO h
 unfold rowOf;rw[QE (QH.1 h).1,h]
theorem str_eq (x y:ByteArray):(x.toList == y.toList)=decide (x=y):=by
 rw[Q8];simp
 constructor
 ·intro h
  rw[Lib.toList_data,Lib.toList_data] at h
  cases x;cases y
  simp only at h
  congr
  exact Array.toList_inj.1 h
 ·rintro rfl;rfl
theorem Q6 {n:Nat} (h:n+1<2 ^ 63):IntKind.i64.wrap ((n:Int)+1)=((n+1:Nat):Int):=by rw[ZC (by omega)];rfl
end Go.Proofs.YtogjcmnopidfpaaGreat.AM

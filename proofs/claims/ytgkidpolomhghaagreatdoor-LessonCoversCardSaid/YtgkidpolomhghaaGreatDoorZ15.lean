/- Parts of the proof, joined: PlRg to PlRg. -/
import Derived.Sort.LotA
import Derived.Test.YtgkidpolomhghaaGreatDoorZ14
set_option linter.unusedVariables false
set_option linter.unusedSimpArgs false
set_option linter.unusedSectionVars false
namespace Go.Proofs.YtgkidpolomhghaaGreatDoor.Pl
def cmpN (x y:Int):Int:=if x<y then -1 else if x>y then 1 else 0
def cmpR (a b:Int × Int):Int:=if cmpN a.1 b.1≠0 then cmpN a.1 b.1 else cmpN a.2 b.2
def leR (a b:Int × Int):Bool:=decide (a.1<b.1)||(decide (a.1=b.1)&&decide (a.2≤b.2))
theorem LP {a b:Int × Int}:cmpR a b<0↔(a.1<b.1∨(a.1=b.1∧a.2<b.2)):=by
 obtain ⟨a1,a2⟩:=a;obtain ⟨b1,b2⟩:=b
 simp only[cmpR,cmpN]
 by_cases h1:a1<b1
 ·simp[h1]
 ·by_cases h2:b1<a1
  ·simp[h1,h2];omega
  ·have:a1=b1:=by omega
   subst this
   by_cases h3:a2<b2
   ·simp[h3]
   ·by_cases h4:b2<a2
    ·simp[h3,h4]
    ·simp[h3,h4]
theorem cmpR_not {a b:Int × Int}:¬ cmpR b a<0↔leR a b=true:=by
 rw[LP]
 obtain ⟨a1,a2⟩:=a;obtain ⟨b1,b2⟩:=b
 simp[leR]
 omega
theorem Qah {a b:Int × Int} (h:leR a b=true) (k:leR b a=true):a=b:=by
 obtain ⟨a1,a2⟩:=a;obtain ⟨b1,b2⟩:=b
 simp[leR] at h k
 have h1:a1=b1:=by omega
 have h2:a2=b2:=by omega
 rw[h1,h2]
theorem Qem (a b c:Int × Int) (h:leR a b=true) (k:leR b c=true):leR a c=true:=by
 obtain ⟨a1,a2⟩:=a;obtain ⟨b1,b2⟩:=b;obtain ⟨c1,c2⟩:=c
 simp[leR] at h k ⊢
 omega
theorem Qen (a b:Int × Int):(leR a b||leR b a)=true:=by
 obtain ⟨a1,a2⟩:=a;obtain ⟨b1,b2⟩:=b
 simp[leR]
 omega
theorem swoR {α:Type} (f:α→Int × Int):Go.Sort.SWO fun x y=>decide (cmpR (f x) (f y)<0):=by
 refine ⟨fun x=>?_,fun x y z h k=>?_,fun x y z h k=>?_⟩
 ·exact decide_eq_false (by rw[LP];omega)
 ·have h:=of_decide_eq_true h;have k:=of_decide_eq_true k
  rw[LP] at h k
  exact decide_eq_true (by rw[LP];omega)
 ·have h:=of_decide_eq_false h;have k:=of_decide_eq_false k
  rw[LP] at h k
  exact decide_eq_false (by rw[LP];omega)
def V2 (l:List (Int × Int)):List (Int × Int):=l.mergeSort leR
theorem H0 (l:List (Int × Int)):(V2 l).Perm l:=List.mergeSort_perm l leR
theorem GY (l:List (Int × Int)):(V2 l).Pairwise fun a b=>leR a b=true:=List.pairwise_mergeSort Qem Qen l
theorem EF {l m:List (Int × Int)} (h:m.Perm l) (hs:m.Pairwise fun a b=>leR a b=true):m=V2 l :=
 List.Perm.eq_of_pairwise (le:=fun a b=>leR a b=true) (fun a b _ _ h k=>Qah h k) hs (GY l) (h.trans (H0 l).symm)
theorem NR {l m:List (Int × Int)} (h:m.Perm l):V2 m=V2 l:=EF ((H0 m).trans h) (GY m)
theorem EE (l:List (Int × Int)):(V2 l).length=l.length:=(H0 l).length_eq
theorem VM {l:List (Int × Int)} {a:Int × Int}:a∈V2 l↔a∈l:=(H0 l).mem_iff
end Go.Proofs.YtgkidpolomhghaaGreatDoor.Pl

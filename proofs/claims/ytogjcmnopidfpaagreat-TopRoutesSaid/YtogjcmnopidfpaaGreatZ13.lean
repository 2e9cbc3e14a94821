/- Parts of the proof, joined: TrN1 to TrN1. -/
import GoSem.Op.String
import Derived.Lib.Strings
import Derived.Test.YtogjcmnopidfpaaGreatZ12
set_option linter.unusedVariables false
set_option linter.unusedSimpArgs false
set_option linter.unusedSectionVars false
namespace Go.Proofs.YtogjcmnopidfpaaGreat.AM
variable [Dr]
open Go
theorem o88 (z lo hi:Int) (σ:List AObj):AC Tryz.prog 115 [.i z,.cv (.rp [.int .i64 lo] 0),.cv (.rp [.int .i64 hi] 0)] σ fun r τ=>r=.b (decide (z<lo)||decide (z>hi))∧τ=σ:=by
 refine ZF (fok115 true) (QC rfl) ?_
 by_cases h:z<lo <;> simp only[ic115,h,evA,simprocAttr]
def idxF (p:Int→Bool) (zs:List Int):Int:=match zs.findIdx? p with | some i=>i | none=>-1
theorem AW {p:Int→Bool} {zs:List Int} {i:Nat} (h:i<zs.length) (hall:∀ j,j<i→p (zs[j]?.getD 0)=false) (hp:p (zs[i]?.getD 0)=true):idxF p zs=i:=by
 have:zs.findIdx? p=some i:=by
  rw[List.findIdx?_eq_some_iff_getElem]
  refine ⟨h,by simpa[h] using hp,fun j hj=>?_⟩
  have:=hall j hj
  simpa[show j<zs.length by omega] using this
 simp[idxF,this]
theorem AX {p:Int→Bool} {zs:List Int} (hall:∀ j,j<zs.length→p (zs[j]?.getD 0)=false):idxF p zs = -1:=by
 have:zs.findIdx? p=none:=by
  rw[List.findIdx?_eq_none_iff]
  intro x hx
  obtain ⟨j,hj,rfl⟩:=WN.1 hx
  have:=hall j hj
  simpa[hj] using this
 simp[idxF,this]
theorem Qdl (p:Int→Bool) (zs:List Int):decide (idxF p zs≥0)=zs.any p:=by
 unfold idxF
 cases h:zs.findIdx? p with
 | none =>
  rw[List.findIdx?_eq_none_iff] at h
  simpa using h
 | some i =>
  rw[List.findIdx?_eq_some_iff_getElem] at h
  obtain ⟨hi,hp,_⟩:=h
  have:zs.any p=true:=ZZ.2 ⟨zs[i],Q2 hi,hp⟩
  rw[this];simp
theorem o111 (zs:List Int) (fv:AV) (p:Int→Bool) (hz:zs.length<2 ^ 63) (hf:∀ z σ,X0 Tryz.prog fv [.i z] σ fun r τ=>r=.b (p z)∧τ=σ) (σ:List AObj) :
  AC Tryz.prog 88 [ints zs,fv] σ fun r τ=>r=.i (idxF p zs)∧τ=σ:=by
 refine ZF (fok88 true) (QC rfl) ?_
 simp only[ic88,evA,simprocAttr]
 refine ZW zs.length (fun i s=>(∀ j,j<i→p (zs[j]?.getD 0)=false)∧∃ v3 v6 v7,s=⟨[ints zs,fv,.i 0,v3,.i zs.length,.i i,v6,v7],σ⟩) ?_ 0 (QF _) ⟨by omega,_,_,_,rfl⟩
 rintro i s hi ⟨hall,v3,v6,v7,rfl⟩
 by_cases h:i<zs.length
 ·simp only[ic88l0,QJ,h,evA,simprocAttr]
  refine (hf _ _).run ?_
  cases hp:p (zs[i]?.getD 0)
  ·simp only[evA,simprocAttr]
   refine ZL (by first | trivial | omega) ⟨fun j hj=>?_,_,_,_,by rw[ZC (by omega)];rfl⟩
   rcases QQ.1 hj with hj | rfl
   ·exact hall j hj
   ·exact hp
  ·simp only[evA,simprocAttr]
   exact (AW h hall hp).symm
 ·simp only[ic88l0,QJ,h,evA,simprocAttr]
  have:i=zs.length:=by omega
  subst this
  exact (AX hall).symm
theorem o87 (zs:List Int) (fv:AV) (p:Int→Bool) (hz:zs.length<2 ^ 63) (hf:∀ z σ,X0 Tryz.prog fv [.i z] σ fun r τ=>r=.b (p z)∧τ=σ):PC Tryz.prog 63 [ints zs,fv] (.b (zs.any p)):=by
 refine ⟨ZF (fok63 true) (QC rfl) ?_,rfl⟩
 simp only[ic63,evA,simprocAttr]
 refine (o111 zs fv p hz hf _).run ?_
 simp only[evA,simprocAttr,Qdl]
 exact frz
theorem o56 (lo hi:Int) (zs:List Int) (hz:zs.length<2 ^ 63):PC Tryz.prog 108 [.i lo,.i hi,ints zs] (.b (outF lo hi zs)):=by
 refine ⟨ZF (fok108 true) (QC rfl) ?_,rfl⟩
 simp only[ic108,evA,simprocAttr]
 refine (o87 zs (.fn (.func 115) [.cv (.rp [.int .i64 lo] 0),.cv (.rp [.int .i64 hi] 0)]) (fun z=>decide (z<lo)||decide (z>hi)) hz (fun z σ=>o88 z lo hi σ)).call frz ?_
 exact frz
theorem o59 (n lo hi:Int):PC Tryz.prog 107 [.i n,.i lo,.i hi] (.b (decide (n≥lo)&&decide (n≤hi))):=by
 refine ⟨ZF (fok107 true) (QC rfl) ?_,rfl⟩
 by_cases h:n≥lo <;> simp only[ic107,h,evA,simprocAttr] <;> exact frz
def lowB (x:UInt8):Bool:=decide (97≤x.toNat∧x.toNat≤122)
def digB (x:UInt8):Bool:=decide (48≤x.toNat∧x.toNat≤57)
def JH (s:ByteArray):Bool:=decide (1≤s.size∧s.size≤16)&&(match s.data.toList with | []=>false | x::_=>lowB x)&&s.data.toList.all fun x=>lowB x||digB x
theorem o59i (n lo hi:Int):PC Tryz.prog 107 [.i n,.i lo,.i hi] (.b (inB n lo hi)):=o59 n lo hi
def chk (s:ByteArray) (i:Nat):Bool:=match s.data[i]? with | none=>false | some x=>lowB x||(decide (i≠0)&&digB x)
theorem E3 (s:ByteArray):JH s=true↔(1≤s.size∧s.size≤16)∧∀ i,i<s.size→chk s i=true:=by
 have hsz:s.size=s.data.toList.length:=(Array.length_toList).symm
 have hg:∀ i,s.data[i]? = s.data.toList[i]? := fun i=>(Y7).symm
 unfold JH chk
 simp only[hg,hsz]
 generalize s.data.toList=l
 simp only[QD,decide_eq_true_eq,Q1,and_assoc]
 refine and_congr_right fun h1=>and_congr_right fun h2=>?_
 constructor
 ·rintro ⟨h3,h4⟩ i hi
  rw[QI hi]
  simp only
  cases i with
  | zero =>
   cases l with
   | nil=>simp at h1
   | cons x l=>simpa using h3
  | succ i=>have:=h4 _ (Q2 hi);simpa using this
 ·intro h
  refine ⟨?_,?_⟩
  ·cases l with
   | nil=>simp at h1
   | cons x l=>simpa using h 0 (by simp)
  ·intro x hx
   obtain ⟨i,hi,rfl⟩:=WN.1 hx
   have:=h i hi
   rw[QI hi] at this
   simp only[WR,QD] at this ⊢
   rcases this with h | h
   ·exact .inl h
   ·exact .inr h.2
theorem Qck {s:ByteArray} (h:¬ (1≤s.size∧s.size≤16)):JH s=false:=by
 cases hn:JH s with
 | false=>rfl
 | true=>exact absurd ((E3 s).1 hn).1 h
theorem H3 {s:ByteArray} {i:Nat} (hi:i<s.size) (h:chk s i=false):JH s=false:=by
 cases hn:JH s with
 | false=>rfl
 | true=>rw[((E3 s).1 hn).2 i hi] at h;cases h
theorem CF {s:ByteArray} {i:Nat} (h:i<s.size) (σ:List AObj):G5 [.cv (.str s),.cv (.int .i64 i)] σ=some (.cv (.int .u8 ((s.data[i]'h).toNat:Nat)),σ):=by
 have:s.data[i]? = some (s.data[i]'h):=Q7 h
 simp[G5,this]
theorem Qes {s:ByteArray} (h:0<s.size) (σ:List AObj):G5 [.cv (.str s),.cv (.int .i64 0)] σ=some (.cv (.int .u8 ((s.data[0]'h).toNat:Nat)),σ):=CF h σ
theorem NK {s:ByteArray} {i:Nat} (h:i<s.size):chk s i=(lowB (s.data[i]'h)||(decide (i≠0)&&digB (s.data[i]'h))):=by
 have:s.data[i]? = some (s.data[i]'h):=Q7 h
 simp[chk,this]
theorem Qdk (x:UInt8):inB (x.toNat:Nat) 97 122=lowB x:=by
 unfold inB lowB;rw[Q8];simp;omega
theorem inB_dig (x:UInt8):inB (x.toNat:Nat) 48 57=digB x:=by
 unfold inB digB;rw[Q8];simp;omega
theorem o21 (s:ByteArray) (hs:s.size<2 ^ 63):PC Tryz.prog 80 [.cv (.str s)] (.b (JH s)):=by
 refine ⟨ZF (fok80 true) (QC rfl) ?_,rfl⟩
 have hw:∀ x:UInt8,IntKind.i64.wrap (x.toNat:Nat)=(x.toNat:Nat):=fun x=>ZC (by have:=x.toNat_lt;omega)
 simp only[ic80,evA,simprocAttr]
 refine (o59i s.size 1 16).call frz ?_
 cases h1:inB s.size 1 16
 ·have:JH s=false:=Qck fun h=>by rw[VB.2 (by omega)] at h1;cases h1
  simp only[this,evA,simprocAttr]
  exact frz
 have h1':=VB.1 h1
 have h0:0<s.size:=by omega
 simp only[Qes h0,hw,evA,simprocAttr]
 refine (o59i _ 97 122).call frz ?_
 rw[Qdk]
 cases h2:lowB (s.data[0]'h0)
 ·have:JH s=false:=H3 h0 (by rw[NK h0];simp[h2])
  simp only[this,evA,simprocAttr]
  exact frz
 simp only[evA,simprocAttr]
 refine ZW s.size (fun i s'=>(∀ j,j<i→chk s j=true)∧∃ v3 v4 v5,s'=⟨[.cv (.str s),.b false,.i i,v3,v4,v5],[]⟩) ?_ 0 (QF _) ⟨by omega,_,_,_,rfl⟩
 rintro i s' hi ⟨hall,v3,v4,v5,rfl⟩
 by_cases h:i<s.size
 rotate_left
 ·have:JH s=true:=(E3 s).2 ⟨by omega,fun j hj=>hall j (by omega)⟩
  simp only[ic80l0,QJ,h,this,evA,simprocAttr]
  exact frz
 simp only[ic80l0,QJ,h,CF h,hw,evA,simprocAttr]
 refine (o59i _ 97 122).call frz ?_
 rw[Qdk]
 have hgo:chk s i=true→∀ j,j<i+1→chk s j=true:=fun hc j hj=>by
  rcases QQ.1 hj with hj | rfl
  ·exact hall j hj
  ·exact hc
 cases h3:lowB (s.data[i]'h)
 ·simp only[CF h,hw,evA,simprocAttr]
  refine (o59i _ 48 57).call frz ?_
  rw[inB_dig]
  cases h4:digB (s.data[i]'h)
  ·have:JH s=false:=H3 h (by rw[NK h];simp[h3,h4])
   simp only[this,evA,simprocAttr]
   exact frz
  ·simp only[evA,simprocAttr]
   have hc:chk s i=true:=by
    rw[NK h,h3,h4]
    have:i≠0:=by rintro rfl;rw[h2] at h3;cases h3
    simp[this]
   exact ZL (by first | trivial | omega) ⟨hgo hc,_,_,_,by rw[ZC (by omega)];rfl⟩
 ·simp only[evA,simprocAttr]
  have hc:chk s i=true:=by rw[NK h,h3];rfl
  exact ZL (by first | trivial | omega) ⟨hgo hc,_,_,_,by rw[ZC (by omega)];rfl⟩
theorem Qdr {s:ByteArray} {i:Nat} (h:i<s.size):s.get! i=s.data[i]'h:=by
 show s.data[i]! = _
 exact getElem!_pos s.data i h
theorem QdA {s:ByteArray} {i:Nat} (h:i<s.size) (hb:(s.data[i]'h).toNat<128):Utf8.decode s i=((s.data[i]'h).toNat,1):=by
 unfold Utf8.decode
 simp only[Nat.add_zero,Qdr h]
 rw[if_pos hb]
theorem decode_high {s:ByteArray} {i:Nat} (h:i<s.size) (hb:¬ (s.data[i]'h).toNat<128):128≤(Utf8.decode s i).1:=by
 unfold Utf8.decode Utf8.runeError
 simp only[Nat.add_zero,Qdr h]
 rw[if_neg hb]
 split
 ·split
  ·assumption
  ·decide
 ·split
  ·split
   ·rename_i hc;simp only[QD,decide_eq_true_eq] at hc;omega
   ·decide
  ·split
   ·split
    ·rename_i hc;simp only[QD,decide_eq_true_eq] at hc;omega
    ·decide
   ·decide
theorem QbY {s:ByteArray} {i:Nat} (h:i<s.size):KX [.ptr 0 0] [.siter s i]=some (.tup [.b true,.i i,.cv (.int .i32 ((Utf8.decode s i).1:Nat))],[.siter s (i+(Utf8.decode s i).2)]):=by
 simp[KX,RH,h]
theorem Qe2 {s:ByteArray} {i:Nat} (h:¬ i<s.size):KX [.ptr 0 0] [.siter s i]=some (.tup [.b false],[.siter s i]):=by
 simp[KX,RH,h]
theorem o20 (s:ByteArray) (hs:s.size<2 ^ 63):PC Tryz.prog 92 [.cv (.str s)] (.b (JH s)):=by
 refine ⟨ZF (fok92 true) (QC rfl) ?_,rfl⟩
 simp only[ic92,evA,simprocAttr]
 refine ZW s.size (fun i s'=>(∀ j,j<i→chk s j=true)∧∃ v2 v3 v5 v6 v7,s'=⟨[.cv (.str s),.b false,v2,v3,.ptr 0 0,v5,v6,v7],[.siter s i]⟩) ?_ 0 (QF _) ⟨by omega,_,_,_,_,_,rfl⟩
 rintro i s' hi ⟨hall,v2,v3,v5,v6,v7,rfl⟩
 by_cases h:i<s.size
 rotate_left
 ·simp only[ic92l0,Qe2 h,V4,evA,simprocAttr]
  refine (o56 1 16 [s.size] (by simp)).call frz ?_
  rw[FW]
  have:(!(!inB s.size 1 16))=JH s:=by
   rw[Bool.not_not,Q8,VB,E3]
   exact ⟨fun h1=>⟨by omega,fun j hj=>hall j (by omega)⟩,fun h1=>by omega⟩
  simp only[this,evA,simprocAttr]
  exact frz
 have hgo:chk s i=true→∀ j,j<i+1→chk s j=true:=fun hc j hj=>by
  rcases QQ.1 hj with hj | rfl
  ·exact hall j hj
  ·exact hc
 by_cases hb:(s.data[i]'h).toNat<128
 ·simp only[ic92l0,QbY h,QdA h hb,evA,simprocAttr]
  have hc:=NK h
  generalize s.data[i]'h=x at hb hc ⊢
  by_cases h1:((x.toNat:Nat):Int)<97
  ·simp only[h1,evA,simprocAttr]
   by_cases h0:(i:Int)=0
   ·have:JH s=false:=H3 h (by
     rw[hc]
     have:i=0:=by omega
     simp[this,lowB];omega)
    simp only[h0,this,evA,simprocAttr]
    exact frz
   ·have h0':((i:Int) == 0)=false:=by simp;omega
    simp only[h0',evA,simprocAttr]
    by_cases h2:((x.toNat:Nat):Int)<48
    ·have:JH s=false:=H3 h (by rw[hc];simp[lowB,digB];omega)
     simp only[h2,this,evA,simprocAttr]
     exact frz
    ·simp only[h2,evA,simprocAttr]
     by_cases h3:((x.toNat:Nat):Int)>57
     ·have:JH s=false:=H3 h (by rw[hc];simp[lowB,digB];omega)
      simp only[h3,this,evA,simprocAttr]
      exact frz
     ·simp only[h3,evA,simprocAttr]
      exact ZL (by first | trivial | omega) ⟨hgo (by rw[hc];simp[lowB,digB];omega),_,_,_,_,_,rfl⟩
  ·simp only[h1,evA,simprocAttr]
   by_cases h1b:((x.toNat:Nat):Int)>122
   ·simp only[h1b,evA,simprocAttr]
    have hno:JH s=false:=H3 h (by rw[hc];simp[lowB,digB];omega)
    by_cases h0:(i:Int)=0
    ·simp only[h0,hno,evA,simprocAttr]
     exact frz
    ·have h0':((i:Int) == 0)=false:=by simp;omega
     have h2:¬ ((x.toNat:Nat):Int)<48:=by omega
     have h3:((x.toNat:Nat):Int)>57:=by omega
     simp only[h0',h2,h3,hno,evA,simprocAttr]
     exact frz
   ·simp only[h1b,evA,simprocAttr]
    exact ZL (by first | trivial | omega) ⟨hgo (by rw[hc];simp[lowB,digB];omega),_,_,_,_,_,rfl⟩
 ·have hd:=decode_high h hb
  have hno:JH s=false:=H3 h (by rw[NK h];simp[lowB,digB];omega)
  simp only[ic92l0,QbY h,evA,simprocAttr]
  generalize Utf8.decode s i=p at hd ⊢
  have h1:¬ ((p.1:Nat):Int)<97:=by omega
  have h1b:((p.1:Nat):Int)>122:=by omega
  have h2:¬ ((p.1:Nat):Int)<48:=by omega
  have h3:((p.1:Nat):Int)>57:=by omega
  by_cases h0:(i:Int)=0
  ·simp only[h0,h1,h1b,hno,evA,simprocAttr]
   exact frz
  ·have h0':((i:Int) == 0)=false:=by simp;omega
   simp only[h0',h1,h1b,h2,h3,hno,evA,simprocAttr]
   exact frz
abbrev strR (co:List ByteArray):CV:=.rsl (co.map .str) co.length
section
variable {k:Nat}
theorem BK {co:List ByteArray} (h:k<co.length):(co.map CV.str)[k]? = some (.str co[k]!):=by simp[h]
theorem str_sl {co:List ByteArray} (h:k≤co.length) (σ:List AObj):VG 1 false true [.cv (strR co),.cv (.int .i64 k)] σ=some (.cv (strR (co.take k)),σ):=by
 rw[Qc7 h (by simp)];simp[h,strR,List.map_take]
end
def FP (co:List ByteArray) (x:ByteArray):Int:=idxN (fun i=>decide (co[i]! = x)) co.length
theorem o81 (co:List ByteArray) (x:ByteArray) (hz:co.length<2 ^ 63):PC Tryz.prog 109 [.cv (strR co),.cv (.str x)] (.i (FP co x)):=by
 refine ⟨ZF (fok109 true) (QC rfl) ?_,rfl⟩
 simp only[ic109,evA,simprocAttr]
 refine ZW co.length (fun i s=>(∀ j,j<i→decide (co[j]! = x)=false)∧∃ v3 v6 v7,s=⟨[.cv (strR co),.cv (.str x),.i 0,v3,.i co.length,.i i,v6,v7],[]⟩) ?_ 0 (QF _) ⟨by omega,_,_,_,rfl⟩
 rintro i s hi ⟨hall,v3,v6,v7,rfl⟩
 by_cases h:i<co.length
 ·have hc:(x.toList == (co[i]!).toList)=decide (co[i]! = x):=by rw[str_eq,Q8];simp;exact eq_comm
  simp only[ic109l0,QJ,h,XP h,BK h,binS,hc,evA,simprocAttr]
  cases hp:decide (co[i]! = x)
  ·simp only[Q6 (show i+1<2 ^ 63 by omega),evA,simprocAttr]
   refine ZL (by first | trivial | omega) ⟨fun j hj=>?_,_,_,_,rfl⟩
   rcases QQ.1 hj with hj | rfl
   ·exact hall j hj
   ·exact hp
  ·simp only[evA,simprocAttr]
   rw[show FP co x=(i:Int) from EK (p:=fun i=>decide (co[i]! = x)) h hall hp]
   exact frz
 ·simp only[ic109l0,QJ,h,evA,simprocAttr]
  have:i=co.length:=by omega
  subst this
  rw[show FP co x = -1 from EL (p:=fun i=>decide (co[i]! = x)) hall]
  exact frz
theorem o123 (co:List ByteArray) (x:ByteArray) (hz:co.length<2 ^ 63):PC Tryz.prog 93 [.cv (strR co),.cv (.str x)] (.b (anyN (fun i=>decide (co[i]! = x)) co.length)):=by
 refine ⟨ZF (fok93 true) (QC rfl) ?_,rfl⟩
 simp only[ic93,evA,simprocAttr]
 refine (o81 co x hz).call frz ?_
 simp only[FP,OA,evA,simprocAttr]
 exact frz
theorem o86 (co:List ByteArray) (x:ByteArray) (hz:co.length<2 ^ 63):PC Tryz.prog 81 [.cv (strR co),.cv (.str x)] (.i (FP co x)):=by
 refine ⟨ZF (fok81 true) (QC rfl) ?_,rfl⟩
 simp only[ic81,evA,simprocAttr]
 refine ZW co.length (fun i s=>(∀ j,j<i→decide (co[j]! = x)=false)∧∃ v4 v5,s=⟨[.cv (strR co),.cv (.str x),.i 0,.i i,v4,v5],[]⟩) ?_ 0 (QF _) ⟨by omega,_,_,rfl⟩
 rintro i s hi ⟨hall,v4,v5,rfl⟩
 by_cases h:i<co.length
 ·simp only[ic81l0,QJ,h,XP h,BK h,binS,str_eq,evA,simprocAttr]
  cases hp:decide (co[i]! = x)
  ·simp only[Q6 (show i+1<2 ^ 63 by omega),evA,simprocAttr]
   refine ZL (by first | trivial | omega) ⟨fun j hj=>?_,_,_,rfl⟩
   rcases QQ.1 hj with hj | rfl
   ·exact hall j hj
   ·exact hp
  ·simp only[evA,simprocAttr]
   rw[show FP co x=(i:Int) from EK (p:=fun i=>decide (co[i]! = x)) h hall hp]
   exact frz
 ·simp only[ic81l0,QJ,h,evA,simprocAttr]
  have:i=co.length:=by omega
  subst this
  rw[show FP co x = -1 from EL (p:=fun i=>decide (co[i]! = x)) hall]
  exact frz
theorem HF {m:Nat} (h:m≤8):1≤(2:Int) ^ m∧(2:Int) ^ m≤256:=by
 match m,h with
 | 0,_ | 1,_ | 2,_ | 3,_ | 4,_ | 5,_ | 6,_ | 7,_ | 8,_=>decide
theorem o49 (m:Nat) (hm:m≤8):PC Tryz.prog 40 [.i m] (.i (2 ^ m)):=by
 refine ⟨ZF (fok40 true) (QC rfl) ?_,rfl⟩
 simp only[ic40,evA,simprocAttr]
 refine ZW m (fun i s'=>∃ v4,s'=⟨[.i m,.i 0,.i (2 ^ i),.i i,v4],[]⟩) ?_ 0 (QF _) ⟨_,rfl⟩
 rintro i s' hi ⟨v4,rfl⟩
 by_cases h:i<m
 ·have hb:=HF (show i≤8 by omega)
  have hw:IntKind.i64.wrap (2*2 ^ i)=2 ^ (i+1):=by rw[ZC (by omega),Int.pow_succ,Int.mul_comm]
  simp only[ic40l0,QJ,h,hw,Q6 (show i+1<2 ^ 63 by omega),evA,simprocAttr]
  exact ZL (by first | trivial | omega) ⟨_,rfl⟩
 ·have:i=m:=by omega
  subst this
  simp only[ic40l0,QJ,h,evA,simprocAttr]
  exact frz
def cmpN (x y:Int):Int:=if x<y then -1 else if x>y then 1 else 0
theorem o117 (x:Int):PC Tryz.prog 106 [.i x] (.b false):=by
 refine ⟨ZF (fok106 true) (QC rfl) ?_,rfl⟩
 simp only[ic106,evA,simprocAttr]
 exact frz
theorem o98 (x y:Int):PC Tryz.prog 77 [.i x,.i y] (.i (cmpN x y)):=by
 refine ⟨ZF (fok77 true) (QC rfl) ?_,rfl⟩
 simp only[ic77,evA,simprocAttr]
 refine (o117 x).call frz ?_
 simp only[evA,simprocAttr]
 refine (o117 y).call frz ?_
 unfold cmpN
 by_cases h1:x<y
 ·simp only[h1,evA,simprocAttr]
  exact frz
 ·by_cases h2:x>y
  ·simp only[h1,h2,evA,simprocAttr]
   exact frz
  ·simp only[h1,h2,evA,simprocAttr]
   exact frz
theorem o97 (x y:Int):PC Tryz.prog 76 [ints [x,y]] (.i (if x≠0 then x else y)):=by
 refine ⟨ZF (fok76 true) (QC rfl) ?_,rfl⟩
 simp only[ic76,evA,simprocAttr]
 refine J1 ?_
 have h0:decide ((0:Int)<(([x,y]:List Int).length:Int))=true:=rfl
 have h1:decide ((1:Int)<(([x,y]:List Int).length:Int))=true:=rfl
 have h2:decide ((2:Int)<(([x,y]:List Int).length:Int))=false:=rfl
 have w1:IntKind.i64.wrap (0+1)=1:=by decide
 have w2:IntKind.i64.wrap (1+1)=2:=by decide
 have a0:∀ σ,VP 1 [ints [x,y],.i 0] σ=some (.cv (.rp (([x,y]:List Int).map (.int .i64)) 0),σ):=fun σ=>rfl
 have a1:∀ σ,VP 1 [ints [x,y],.i 1] σ=some (.cv (.rp (([x,y]:List Int).map (.int .i64)) 1),σ):=fun σ=>rfl
 cases hx:(x != 0) with
 | true =>
  rw[if_pos (by simpa using hx)]
  simp only[ic76l0,h0,a0,hx,evA,simprocAttr]
  exact frz
 | false =>
  rw[if_neg (by simpa using hx)]
  simp only[ic76l0,h0,a0,hx,w1,evA,simprocAttr]
  refine J1 ?_
  cases hy:(y != 0) with
  | true =>
   simp only[ic76l0,h1,a1,hy,evA,simprocAttr]
   exact frz
  | false =>
   have hy0:y=0:=by simpa using hy
   simp only[ic76l0,h1,a1,hy,w2,evA,simprocAttr]
   refine J1 ?_
   simp only[ic76l0,h2,evA,simprocAttr]
   rw[hy0]
   exact frz
theorem o148t (zs:List Int) (x:Int) (hz:zs.length<2 ^ 63):PC Tryz.prog 79 [ints zs,.i x] (.i (idxF (fun z=>x == z) zs)):=by
 refine ⟨ZF (fok79 true) (QC rfl) ?_,rfl⟩
 simp only[ic79,evA,simprocAttr]
 refine ZW zs.length (fun i s=>(∀ j,j<i→(x == zs[j]?.getD 0)=false)∧∃ v3 v6 v7,s=⟨[ints zs,.i x,.i 0,v3,.i zs.length,.i i,v6,v7],[]⟩) ?_ 0 (QF _) ⟨by omega,_,_,_,rfl⟩
 rintro i s hi ⟨hall,v3,v6,v7,rfl⟩
 by_cases h:i<zs.length
 ·simp only[ic79l0,QJ,h,J5 h,J4 h,WA,evA,simprocAttr]
  cases hp:(x == zs[i]?.getD 0)
  ·simp only[hp,evA,simprocAttr]
   refine ZL (by first | trivial | omega) ⟨fun j hj=>?_,_,_,_,by rw[ZC (by omega)];rfl⟩
   rcases QQ.1 hj with hj | rfl
   ·exact hall j hj
   ·exact hp
  ·simp only[hp,evA,simprocAttr]
   rw[AW (p:=fun z=>x == z) h hall hp]
   exact frz
 ·simp only[ic79l0,QJ,h,evA,simprocAttr]
  have:i=zs.length:=by omega
  subst this
  rw[AX (p:=fun z=>x == z) hall]
  exact frz
theorem o118t (zs:List Int) (x:Int) (hz:zs.length<2 ^ 63):PC Tryz.prog 56 [ints zs,.i x] (.b (zs.any fun z=>x == z)):=by
 refine ⟨ZF (fok56 true) (QC rfl) ?_,rfl⟩
 simp only[ic56,evA,simprocAttr]
 refine (o148t zs x hz).call frz ?_
 simp only[evA,simprocAttr,Qdl]
 exact frz
theorem o88_34 (z lo hi:Int) (σ:List AObj):AC Tryz.prog 64 [.i z,.cv (.rp [.int .i64 lo] 0),.cv (.rp [.int .i64 hi] 0)] σ fun r τ=>r=.b (decide (z<lo)||decide (z>hi))∧τ=σ:=by
 refine ZF (fok64 true) (QC rfl) ?_
 by_cases h:z<lo <;> simp only[ic64,h,evA,simprocAttr]
theorem o56_34 (lo hi:Int) (zs:List Int) (hz:zs.length<2 ^ 63):PC Tryz.prog 34 [.i lo,.i hi,ints zs] (.b (outF lo hi zs)):=by
 refine ⟨ZF (fok34 true) (QC rfl) ?_,rfl⟩
 simp only[ic34,evA,simprocAttr]
 refine (o87 zs (.fn (.func 64) [.cv (.rp [.int .i64 lo] 0),.cv (.rp [.int .i64 hi] 0)]) (fun z=>decide (z<lo)||decide (z>hi)) hz (fun z σ=>o88_34 z lo hi σ)).call frz ?_
 exact frz
theorem o88_50 (z lo hi:Int) (σ:List AObj):AC Tryz.prog 73 [.i z,.cv (.rp [.int .i64 lo] 0),.cv (.rp [.int .i64 hi] 0)] σ fun r τ=>r=.b (decide (z<lo)||decide (z>hi))∧τ=σ:=by
 refine ZF (fok73 true) (QC rfl) ?_
 by_cases h:z<lo <;> simp only[ic73,h,evA,simprocAttr]
theorem o56_50 (lo hi:Int) (zs:List Int) (hz:zs.length<2 ^ 63):PC Tryz.prog 50 [.i lo,.i hi,ints zs] (.b (outF lo hi zs)):=by
 refine ⟨ZF (fok50 true) (QC rfl) ?_,rfl⟩
 simp only[ic50,evA,simprocAttr]
 refine (o87 zs (.fn (.func 73) [.cv (.rp [.int .i64 lo] 0),.cv (.rp [.int .i64 hi] 0)]) (fun z=>decide (z<lo)||decide (z>hi)) hz (fun z σ=>o88_50 z lo hi σ)).call frz ?_
 exact frz
end Go.Proofs.YtogjcmnopidfpaaGreat.AM

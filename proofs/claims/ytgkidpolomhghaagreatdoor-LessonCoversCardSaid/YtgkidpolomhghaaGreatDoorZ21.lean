/- Parts of the proof, joined: LeC7 to LeK1. -/
import GoSem.Op.String
import Derived.Lib.Strings
import Derived.Test.YtgkidpolomhghaaGreatDoorZ20
set_option linter.unusedVariables false
set_option linter.unusedSimpArgs false
set_option linter.unusedSectionVars false
namespace Go.Proofs.YtgkidpolomhghaaGreatDoor.AM
variable [Dr]
open Go
def lowB (x:UInt8):Bool:=decide (97≤x.toNat∧x.toNat≤122)
def digB (x:UInt8):Bool:=decide (48≤x.toNat∧x.toNat≤57)
def JH (s:ByteArray):Bool:=decide (1≤s.size∧s.size≤16)&&(match s.data.toList with | []=>false | x::_=>lowB x)&&s.data.toList.all fun x=>lowB x||digB x
theorem c59i (n lo hi:Int):PC Tryz.prog 140 [.i n,.i lo,.i hi] (.b (inB n lo hi)):=by
 have h:=c59 n lo hi
 rw[inD_iff] at h
 exact h
def chk (s:ByteArray) (i:Nat):Bool:=match s.data[i]? with | none=>false | some x=>lowB x||(decide (i≠0)&&digB x)
theorem E3 (s:ByteArray):JH s=true↔(1≤s.size∧s.size≤16)∧∀ i,i<s.size→chk s i=true:=by
 have hsz:s.size=s.data.toList.length:=(Array.length_toList).symm
 have hg:∀ i,s.data[i]? = s.data.toList[i]? := fun i=>(Y7).symm
 unfold JH chk
 simp only[hg,hsz]
 generalize s.data.toList=l
 simp only[QD,decide_eq_true_eq,Q1,and_assoc]
 refine and_congr_right fun h1=>and_congr_right fun h2=>?_
 constructor
 ·rintro ⟨h3,h4⟩ i hi
  rw[QI hi]
  simp only
  cases i with
  | zero =>
   cases l with
   | nil=>simp at h1
   | cons x l=>simpa using h3
  | succ i=>have:=h4 _ (Q2 hi);simpa using this
 ·intro h
  refine ⟨?_,?_⟩
  ·cases l with
   | nil=>simp at h1
   | cons x l=>simpa using h 0 (by simp)
  ·intro x hx
   obtain ⟨i,hi,rfl⟩:=WN.1 hx
   have:=h i hi
   rw[QI hi] at this
   simp only[WR,QD] at this ⊢
   rcases this with h | h
   ·exact .inl h
   ·exact .inr h.2
theorem Qck {s:ByteArray} (h:¬ (1≤s.size∧s.size≤16)):JH s=false:=by
 cases hn:JH s with
 | false=>rfl
 | true=>exact absurd ((E3 s).1 hn).1 h
theorem H3 {s:ByteArray} {i:Nat} (hi:i<s.size) (h:chk s i=false):JH s=false:=by
 cases hn:JH s with
 | false=>rfl
 | true=>rw[((E3 s).1 hn).2 i hi] at h;cases h
theorem CF {s:ByteArray} {i:Nat} (h:i<s.size) (σ:List AObj):G5 [.cv (.str s),.cv (.int .i64 i)] σ=some (.cv (.int .u8 ((s.data[i]'h).toNat:Nat)),σ):=by
 have:s.data[i]? = some (s.data[i]'h):=Q7 h
 simp[G5,this]
theorem Qes {s:ByteArray} (h:0<s.size) (σ:List AObj):G5 [.cv (.str s),.cv (.int .i64 0)] σ=some (.cv (.int .u8 ((s.data[0]'h).toNat:Nat)),σ):=CF h σ
theorem NK {s:ByteArray} {i:Nat} (h:i<s.size):chk s i=(lowB (s.data[i]'h)||(decide (i≠0)&&digB (s.data[i]'h))):=by
 have:s.data[i]? = some (s.data[i]'h):=Q7 h
 simp[chk,this]
theorem Qdk (x:UInt8):inB (x.toNat:Nat) 97 122=lowB x:=by
 unfold inB lowB;rw[Q8];simp;omega
theorem inB_dig (x:UInt8):inB (x.toNat:Nat) 48 57=digB x:=by
 unfold inB digB;rw[Q8];simp;omega
theorem c21 (s:ByteArray) (hs:s.size<2 ^ 63):PC Tryz.prog 142 [.cv (.str s)] (.b (JH s)):=by
 refine ⟨ZF (fok142 true) (QC rfl) ?_,rfl⟩
 have hw:∀ x:UInt8,IntKind.i64.wrap (x.toNat:Nat)=(x.toNat:Nat):=fun x=>ZC (by have:=x.toNat_lt;omega)
 simp only[ic142,evA,simprocAttr]
 refine (c59i s.size 1 16).call frz ?_
 cases h1:inB s.size 1 16
 ·have:JH s=false:=Qck fun h=>by rw[VB.2 (by omega)] at h1;cases h1
  simp only[this,evA,simprocAttr]
  exact frz
 have h1':=VB.1 h1
 have h0:0<s.size:=by omega
 simp only[Qes h0,hw,evA,simprocAttr]
 refine (c59i _ 97 122).call frz ?_
 rw[Qdk]
 cases h2:lowB (s.data[0]'h0)
 ·have:JH s=false:=H3 h0 (by rw[NK h0];simp[h2])
  simp only[this,evA,simprocAttr]
  exact frz
 simp only[evA,simprocAttr]
 refine ZW s.size (fun i s'=>(∀ j,j<i→chk s j=true)∧∃ v3 v4 v5,s'=⟨[.cv (.str s),.b false,.i i,v3,v4,v5],[]⟩) ?_ 0 (QF _) ⟨by omega,_,_,_,rfl⟩
 rintro i s' hi ⟨hall,v3,v4,v5,rfl⟩
 by_cases h:i<s.size
 rotate_left
 ·have:JH s=true:=(E3 s).2 ⟨by omega,fun j hj=>hall j (by omega)⟩
  simp only[ic142l0,QJ,h,this,evA,simprocAttr]
  exact frz
 simp only[ic142l0,QJ,h,CF h,hw,evA,simprocAttr]
 refine (c59i _ 97 122).call frz ?_
 rw[Qdk]
 have hgo:chk s i=true→∀ j,j<i+1→chk s j=true:=fun hc j hj=>by
  rcases QQ.1 hj with hj | rfl
  ·exact hall j hj
  ·exact hc
 cases h3:lowB (s.data[i]'h)
 ·simp only[CF h,hw,evA,simprocAttr]
  refine (c59i _ 48 57).call frz ?_
  rw[inB_dig]
  cases h4:digB (s.data[i]'h)
  ·have:JH s=false:=H3 h (by rw[NK h];simp[h3,h4])
   simp only[this,evA,simprocAttr]
   exact frz
  ·simp only[evA,simprocAttr]
   have hc:chk s i=true:=by
    rw[NK h,h3,h4]
    have:i≠0:=by rintro rfl;rw[h2] at h3;cases h3
    simp[this]
   exact ZL (by first | trivial | omega) ⟨hgo hc,_,_,_,by rw[ZC (by omega)];rfl⟩
 ·simp only[evA,simprocAttr]
  have hc:chk s i=true:=by rw[NK h,h3];rfl
  exact ZL (by first | trivial | omega) ⟨hgo hc,_,_,_,by rw[ZC (by omega)];rfl⟩
theorem Qdr {s:ByteArray} {i:Nat} (h:i<s.size):s.get! i=s.data[i]'h:=by
 show s.data[i]! = _
 exact getElem!_pos s.data i h
theorem QdA {s:ByteArray} {i:Nat} (h:i<s.size) (hb:(s.data[i]'h).toNat<128):Utf8.decode s i=((s.data[i]'h).toNat,1):=by
 unfold Utf8.decode
 simp only[Nat.add_zero,Qdr h]
 rw[if_pos hb]
theorem decode_high {s:ByteArray} {i:Nat} (h:i<s.size) (hb:¬ (s.data[i]'h).toNat<128):128≤(Utf8.decode s i).1:=by
 unfold Utf8.decode Utf8.runeError
 simp only[Nat.add_zero,Qdr h]
 rw[if_neg hb]
 split
 ·split
  ·assumption
  ·decide
 ·split
  ·split
   ·rename_i hc;simp only[QD,decide_eq_true_eq] at hc;omega
   ·decide
  ·split
   ·split
    ·rename_i hc;simp only[QD,decide_eq_true_eq] at hc;omega
    ·decide
   ·decide
theorem QbY {s:ByteArray} {i:Nat} (h:i<s.size):KX [.ptr 0 0] [.siter s i]=some (.tup [.b true,.i i,.cv (.int .i32 ((Utf8.decode s i).1:Nat))],[.siter s (i+(Utf8.decode s i).2)]):=by
 simp[KX,RH,h]
theorem Qe2 {s:ByteArray} {i:Nat} (h:¬ i<s.size):KX [.ptr 0 0] [.siter s i]=some (.tup [.b false],[.siter s i]):=by
 simp[KX,RH,h]
theorem c20 (s:ByteArray) (hs:s.size<2 ^ 63):PC Tryz.prog 178 [.cv (.str s)] (.b (JH s)):=by
 refine ⟨ZF (fok178 true) (QC rfl) ?_,rfl⟩
 simp only[ic178,evA,simprocAttr]
 refine ZW s.size (fun i s'=>(∀ j,j<i→chk s j=true)∧∃ v2 v3 v5 v6 v7,s'=⟨[.cv (.str s),.b false,v2,v3,.ptr 0 0,v5,v6,v7],[.siter s i]⟩) ?_ 0 (QF _) ⟨by omega,_,_,_,_,_,rfl⟩
 rintro i s' hi ⟨hall,v2,v3,v5,v6,v7,rfl⟩
 by_cases h:i<s.size
 rotate_left
 ·simp only[ic178l0,Qe2 h,V4,evA,simprocAttr]
  refine (c56 1 16 [s.size] (by simp)).call frz ?_
  rw[FW]
  have:(!(!inB s.size 1 16))=JH s:=by
   rw[Bool.not_not,Q8,VB,E3]
   exact ⟨fun h1=>⟨by omega,fun j hj=>hall j (by omega)⟩,fun h1=>by omega⟩
  simp only[this,evA,simprocAttr]
  exact frz
 have hgo:chk s i=true→∀ j,j<i+1→chk s j=true:=fun hc j hj=>by
  rcases QQ.1 hj with hj | rfl
  ·exact hall j hj
  ·exact hc
 by_cases hb:(s.data[i]'h).toNat<128
 ·simp only[ic178l0,QbY h,QdA h hb,evA,simprocAttr]
  have hc:=NK h
  generalize s.data[i]'h=x at hb hc ⊢
  by_cases h1:((x.toNat:Nat):Int)<97
  ·simp only[h1,evA,simprocAttr]
   by_cases h0:(i:Int)=0
   ·have:JH s=false:=H3 h (by
     rw[hc]
     have:i=0:=by omega
     simp[this,lowB];omega)
    simp only[h0,this,evA,simprocAttr]
    exact frz
   ·have h0':((i:Int) == 0)=false:=by simp;omega
    simp only[h0',evA,simprocAttr]
    by_cases h2:((x.toNat:Nat):Int)<48
    ·have:JH s=false:=H3 h (by rw[hc];simp[lowB,digB];omega)
     simp only[h2,this,evA,simprocAttr]
     exact frz
    ·simp only[h2,evA,simprocAttr]
     by_cases h3:((x.toNat:Nat):Int)>57
     ·have:JH s=false:=H3 h (by rw[hc];simp[lowB,digB];omega)
      simp only[h3,this,evA,simprocAttr]
      exact frz
     ·simp only[h3,evA,simprocAttr]
      exact ZL (by first | trivial | omega) ⟨hgo (by rw[hc];simp[lowB,digB];omega),_,_,_,_,_,rfl⟩
  ·simp only[h1,evA,simprocAttr]
   by_cases h1b:((x.toNat:Nat):Int)>122
   ·simp only[h1b,evA,simprocAttr]
    have hno:JH s=false:=H3 h (by rw[hc];simp[lowB,digB];omega)
    by_cases h0:(i:Int)=0
    ·simp only[h0,hno,evA,simprocAttr]
     exact frz
    ·have h0':((i:Int) == 0)=false:=by simp;omega
     have h2:¬ ((x.toNat:Nat):Int)<48:=by omega
     have h3:((x.toNat:Nat):Int)>57:=by omega
     simp only[h0',h2,h3,hno,evA,simprocAttr]
     exact frz
   ·simp only[h1b,evA,simprocAttr]
    exact ZL (by first | trivial | omega) ⟨hgo (by rw[hc];simp[lowB,digB];omega),_,_,_,_,_,rfl⟩
 ·have hd:=decode_high h hb
  have hno:JH s=false:=H3 h (by rw[NK h];simp[lowB,digB];omega)
  simp only[ic178l0,QbY h,evA,simprocAttr]
  generalize Utf8.decode s i=p at hd ⊢
  have h1:¬ ((p.1:Nat):Int)<97:=by omega
  have h1b:((p.1:Nat):Int)>122:=by omega
  have h2:¬ ((p.1:Nat):Int)<48:=by omega
  have h3:((p.1:Nat):Int)>57:=by omega
  by_cases h0:(i:Int)=0
  ·simp only[h0,h1,h1b,hno,evA,simprocAttr]
   exact frz
  ·have h0':((i:Int) == 0)=false:=by simp;omega
   simp only[h0',h1,h1b,h2,h3,hno,evA,simprocAttr]
   exact frz
end Go.Proofs.YtgkidpolomhghaaGreatDoor.AM
namespace Go.Proofs.YtgkidpolomhghaaGreatDoor.AM
variable [Dr]
open Go Pl
def VR (s:Sys) (i:Nat):Int :=
 if JH (s.cl[i]!).nm=false then 6
 else if anyN (fun k=>decide ((s.cl[k]!).nm=(s.cl[i]!).nm)) i=true then 5
 else if ((s.cl[i]!).inc.length:Int)>s.cl.length then 3
 else if (outF 0 ((s.cl.length:Int)-1) (s.cl[i]!).inc || !inB (s.cl[i]!).need (-1) ((s.cl.length:Int)-1))=true then 4
 else if ((s.cl[i]!).need == (i:Int))=true then 2
 else if outF 0 100 [(s.cl[i]!).age,(s.cl[i]!).term]=true then 7
 else 0
def KM (s:Sys) (i:Nat):Int :=
 if JH s.co[i]! = false then 6
 else if anyN (fun k=>decide (s.co[k]! = s.co[i]!)) i=true then 5
 else 0
theorem c122 (x c:Cls) (σ:List AObj) (l:Nat) (hl:rowOf σ l=some [.cv (.str c.nm),ints c.inc,.i c.need,.i c.age,.i c.term]):AC Tryz.prog 180 [clsA x,.ptr l 0] σ fun r τ=>r=.b (decide (x.nm=c.nm))∧τ=σ:=by
 refine AC.cutF ?_ rfl
 refine ZF (fok180 true) (QC rfl) ?_
 have hl2:=ZH hl [.cells [.cv (.str x.nm),ints x.inc,.i x.need,.i x.age,.i x.term]]
 simp only[ic180,WI,cellsOf,WW,hl2,binS,str_eq,evA,simprocAttr]
 exact ⟨_,rfl⟩
theorem c104 (s:Sys) (hs:SSz s) (cov:CV) (i:Nat) (hi:i<s.cl.length):PC Tryz.prog 162 [.cv (.rp [clsR s.cl,strR s.co,cov] 0),.i i,clsA s.cl[i]!] (.i (VR s i)):=by
 refine ⟨ZF (fok162 true) (QC rfl) ?_,rfl⟩
 have hcl:=hs.cl
 have hnm:=hs.nm i hi
 have hin:=hs.inc i hi
 have hw:IntKind.i64.wrap ((s.cl.length:Int)-1)=(s.cl.length:Int)-1:=ZC (by omega)
 have hsl:∀ σ,VG 5 false true [.cv (clsR s.cl),.cv (.int .i64 i)] σ=some (.cv (clsR (s.cl.take i)),σ):=cls_sl (by omega)
 have htl:(s.cl.take i).length=i:=by simp;omega
 have htk:∀ k,k<i→(s.cl.take i)[k]! = s.cl[k]! := fun k hk=>by
  rw[getElem!_pos _ k (by omega),getElem!_pos _ k (by omega),List.getElem_take]
 have h20:=c20 (s.cl[i]!).nm hnm
 have hA:∀ σ,rowOf σ 0=some [.cv (.str (s.cl[i]!).nm),ints (s.cl[i]!).inc,.i (s.cl[i]!).need,.i (s.cl[i]!).age,.i (s.cl[i]!).term]→AC Tryz.prog 179 [.cv (clsR (s.cl.take i)),.fn (.func 180) [.ptr 0 0]] σ fun r τ=>r=.b (anyN (fun k=>decide ((s.cl[k]!).nm=(s.cl[i]!).nm)) i)∧τ=σ:=fun σ hσ=>by
  have:=c121 (s.cl.take i) (.fn (.func 180) [.ptr 0 0]) (fun k=>decide ((s.cl[k]!).nm=(s.cl[i]!).nm)) (by omega) σ fun k hk=>by
   rw[htk k (by omega)]
   exact c122 s.cl[k]! s.cl[i]! σ 0 hσ
  rwa [htl] at this
 unfold VR
 generalize s.cl[i]! = c at *
 simp only[ic162,WI,cellsOf,hw,evA,simprocAttr]
 refine h20.call frz ?_
 cases h1:JH c.nm with
 | false =>
  rw[if_pos rfl]
  simp only[evA,simprocAttr]
  exact frz
 | true =>
 rw[if_neg (by decide)]
 simp only[hsl,evA,simprocAttr]
 refine (hA _ rfl).run ?_
 cases h2:anyN (fun k=>decide ((s.cl[k]!).nm=c.nm)) i with
 | true =>
  rw[if_pos rfl]
  simp only[evA,simprocAttr]
  exact frz
 | false =>
 rw[if_neg (by decide)]
 simp only[evA,simprocAttr]
 refine DW_s [] [] hmix (by kernel_rfl) rfl ?_
 simp only[evA,simprocAttr]
 by_cases h3:(c.inc.length:Int)>s.cl.length
 ·rw[if_pos h3]
  simp only[h3,evA,simprocAttr]
  exact frz
 rw[if_neg h3]
 simp only[h3,evA,simprocAttr]
 refine (c56 0 ((s.cl.length:Int)-1) c.inc hin).call frz ?_
 cases h4:outF 0 ((s.cl.length:Int)-1) c.inc with
 | true =>
  rw[US,if_pos rfl]
  simp only[evA,simprocAttr]
  exact frz
 | false =>
 rw[Y3]
 simp only[evA,simprocAttr]
 refine (c56 (-1) ((s.cl.length:Int)-1) [c.need] (by simp)).call frz ?_
 rw[FW]
 cases h5:inB c.need (-1) ((s.cl.length:Int)-1) with
 | false =>
  rw[if_pos (show (!false)=true from rfl)]
  simp only[evA,simprocAttr]
  exact frz
 | true =>
 rw[if_neg (show ¬ ((!true)=true) by decide)]
 simp only[evA,simprocAttr]
 cases h6:(c.need == (i:Int)) with
 | true =>
  rw[if_pos rfl]
  simp only[evA,simprocAttr]
  exact frz
 | false =>
 rw[if_neg (by decide)]
 simp only[evA,simprocAttr]
 refine (c56 0 100 [c.age,c.term] (by simp)).call frz ?_
 cases h7:outF 0 100 [c.age,c.term] with
 | true =>
  rw[if_pos rfl]
  simp only[evA,simprocAttr]
  exact frz
 | false =>
  rw[if_neg (by decide)]
  simp only[evA,simprocAttr]
  exact frz
theorem c106 (s:Sys) (hs:SSz s) (cov:CV) (i:Nat) (hi:i<s.co.length):PC Tryz.prog 164 [.cv (.rp [clsR s.cl,strR s.co,cov] 0),.i i,.cv (.str s.co[i]!)] (.i (KM s i)):=by
 refine ⟨ZF (fok164 true) (QC rfl) ?_,rfl⟩
 have hco:=hs.co
 have hnm:=hs.cm i hi
 have hsl:∀ σ,VG 1 false true [.cv (strR s.co),.cv (.int .i64 i)] σ=some (.cv (strR (s.co.take i)),σ):=str_sl (by omega)
 have htl:(s.co.take i).length=i:=by simp;omega
 have h123:=c123 (s.co.take i) s.co[i]! (by omega)
 have he:anyN (fun k=>decide ((s.co.take i)[k]! = s.co[i]!)) (s.co.take i).length=anyN (fun k=>decide (s.co[k]! = s.co[i]!)) i:=by
  rw[htl,Q8,U8,U8]
  constructor <;> rintro ⟨k,hk,h⟩ <;> refine ⟨k,hk,?_⟩
  ·rwa [getElem!_pos _ k (by omega),List.getElem_take,← getElem!_pos s.co k (by omega)] at h
  ·rw[getElem!_pos _ k (by omega),List.getElem_take,← getElem!_pos s.co k (by omega)];exact h
 rw[he] at h123
 unfold KM
 simp only[ic164,evA,simprocAttr]
 refine (c20 s.co[i]! hnm).call frz ?_
 cases h1:JH s.co[i]! with
 | false =>
  rw[if_pos rfl]
  simp only[evA,simprocAttr]
  exact frz
 | true =>
 rw[if_neg (by decide)]
 simp only[hsl,evA,simprocAttr]
 refine h123.call frz ?_
 cases h2:anyN (fun k=>decide (s.co[k]! = s.co[i]!)) i with
 | true =>
  rw[if_pos rfl]
  simp only[evA,simprocAttr]
  exact frz
 | false =>
  rw[if_neg (by decide)]
  simp only[evA,simprocAttr]
  exact frz
end Go.Proofs.YtgkidpolomhghaaGreatDoor.AM
namespace Go.Proofs.YtgkidpolomhghaaGreatDoor.Pl
def setT (o:List Bool) (z:Nat):List Bool:=o.set z true
def GP (g:Nat→List Nat) (o:List Bool) (i:Nat):List Bool:=if o[i]?.getD false then (g i).foldl setT o else o
def GO (g:Nat→List Nat) (o:List Bool) (n:Nat):List Bool:=(List.range n).foldl (GP g) o
def covN (g:Nat→List Nat) (n c:Nat):Nat→List Bool
 | 0=>(List.replicate n false).set c true
 | t+1=>GO g (covN g n c t) n
def covG (g:Nat→List Nat) (n c:Nat):List Bool:=covN g n c n
inductive Rch (g:Nat→List Nat) (c:Nat):Nat→Prop
 | refl:Rch g c c
 | step {a z:Nat}:Rch g c a→z∈g a→Rch g c z
theorem Rch.trans {g:Nat→List Nat} {a b c:Nat} (h1:Rch g a b) (h2:Rch g b c):Rch g a c:=by
 induction h2 with
 | refl=>exact h1
 | step _ hz ih=>exact ih.step hz
theorem Rch.head {g:Nat→List Nat} {a b c:Nat} (h1:b∈g a) (h2:Rch g b c):Rch g a c:=Rch.trans (Rch.refl.step h1) h2
def T (o:List Bool) (k:Nat):Prop:=o[k]?.getD false=true
theorem T.lt {o:List Bool} {k:Nat} (h:T o k):k<o.length:=by
 unfold T at h
 rcases ZB k o.length with h1 | h1
 ·exact h1
 ·rw[QN h1] at h;cases h
theorem T_ext {a b:List Bool} (hl:a.length=b.length) (h:∀ k,k<a.length→(T a k↔T b k)):a=b:=by
 apply Y1 hl
 intro k h1 h2
 have:=h k h1
 unfold T at this
 rw[QI h1,QI h2] at this
 rw[Q8]
 simpa using this
theorem D9 (o:List Bool) (z:Nat):(setT o z).length=o.length:=by simp[setT]
theorem R6 {o:List Bool} {z k:Nat}:T (setT o z) k↔T o k∨(k=z∧k<o.length):=by
 unfold T setT
 rw[ZO]
 by_cases h:z=k
 ·subst h
  by_cases h2:z<o.length
  ·simp[h2]
  ·simp[h2]
 ·simp[h,Ne.symm h]
theorem A1 (l:List Nat):∀ o:List Bool,(l.foldl setT o).length=o.length:=by
 induction l with
 | nil=>intro o;rfl
 | cons z l ih=>intro o;rw[List.foldl_cons,ih,D9]
theorem Qds {k:Nat} (l:List Nat):∀ o:List Bool,T (l.foldl setT o) k↔T o k∨(k∈l∧k<o.length):=by
 induction l with
 | nil=>intro o;simp
 | cons z l ih =>
  intro o
  rw[List.foldl_cons,ih,R6,D9,ZD]
  constructor
  ·rintro ((h | ⟨h1,h2⟩) | ⟨h1,h2⟩)
   ·exact .inl h
   ·exact .inr ⟨.inl h1,h2⟩
   ·exact .inr ⟨.inr h1,h2⟩
  ·rintro (h | ⟨h1 | h1,h2⟩)
   ·exact .inl (.inl h)
   ·exact .inl (.inr ⟨h1,h2⟩)
   ·exact .inr ⟨h1,h2⟩
section
variable {g:Nat→List Nat} {n c:Nat}
theorem B2 (o:List Bool) (i:Nat):(GP g o i).length=o.length:=by
 unfold GP;split
 ·exact A1 _ _
 ·rfl
theorem IT {o:List Bool} {i k:Nat}:T (GP g o i) k↔T o k∨(T o i∧k∈g i∧k<o.length):=by
 unfold GP
 by_cases h:o[i]?.getD false=true
 ·rw[if_pos h,Qds]
  have h':T o i:=h
  simp[h']
 ·rw[if_neg h]
  have h':¬ T o i:=h
  simp[h']
theorem B1 (l:List Nat):∀ o:List Bool,(l.foldl (GP g) o).length=o.length:=by
 induction l with
 | nil=>intro o;rfl
 | cons z l ih=>intro o;rw[List.foldl_cons,ih,B2]
theorem RN {k:Nat} (l:List Nat):∀ o:List Bool,T o k→T (l.foldl (GP g) o) k:=by
 induction l with
 | nil=>intro o h;exact h
 | cons z l ih=>intro o h;rw[List.foldl_cons];exact ih _ (IT.2 (.inl h))
theorem Qcc {i k:Nat} (l:List Nat):∀ o:List Bool,i∈l→T o i→k∈g i→k<o.length→T (l.foldl (GP g) o) k:=by
 induction l with
 | nil=>intro o h;simp at h
 | cons z l ih =>
  intro o h h1 h2 h3
  rw[List.foldl_cons]
  rcases ZD.1 h with rfl | h
  ·exact RN l _ (IT.2 (.inr ⟨h1,h2,h3⟩))
  ·exact ih _ h (IT.2 (.inl h1)) h2 (by rw[B2];exact h3)
theorem B0 {P:Nat→Prop} (hP:∀ a z,P a→z∈g a→P z) (l:List Nat):∀ o:List Bool,(∀ k,T o k→P k)→∀ k,T (l.foldl (GP g) o) k→P k:=by
 induction l with
 | nil=>intro o h;exact h
 | cons z l ih =>
  intro o h
  rw[List.foldl_cons]
  refine ih _ fun k hk=>?_
  rcases IT.1 hk with hk | ⟨h1,h2,_⟩
  ·exact h k hk
  ·exact hP z k (h z h1) h2
theorem GF:∀ t,(covN g n c t).length=n
 | 0=>by simp[covN]
 | t+1=>by rw[covN,GO,B1,GF t]
theorem CR:(covG g n c).length=n:=GF n
theorem QcA:∀ t k,T (covN g n c t) k→Rch g c k
 | 0,k,h=>by
  have h:T (setT (List.replicate n false) c) k:=h
  rcases R6.1 h with h | ⟨rfl,_⟩
  ·unfold T at h
   rw[YN] at h
   split at h <;> cases h
  ·exact .refl
 | t+1,k,h=>B0 (P:=Rch g c) (fun a z h1 h2=>h1.step h2) (List.range n) _ (QcA t) k h
def cntT (o:List Bool):Nat:=o.countP id
theorem M6 {a:List Bool}:∀ {b:List Bool},a.length=b.length→(∀ k,T a k→T b k)→cntT a≤cntT b∧(∀ k,T b k→¬ T a k→cntT a<cntT b):=by
 induction a with
 | nil =>
  intro b hl h
  have:b=[]:=ZT (by simpa using hl.symm)
  subst this
  exact ⟨QG _,fun k hk _=>by simp[T] at hk⟩
 | cons x a ih =>
  intro b hl h
  match b,hl with
  | y::b,hl =>
   have ht:∀ k,T a k→T b k:=fun k hk=>h (k+1) hk
   have h0:x=true→y=true:=fun hx=>h 0 (by simpa[T] using hx)
   obtain ⟨i1,i2⟩:=ih (by simpa using hl) ht
   have e:∀ (z:Bool) (l:List Bool),cntT (z::l)=cntT l+(if z then 1 else 0):=fun z l=>by
    unfold cntT;rw[K9];cases z <;> rfl
   rw[e,e]
   refine ⟨by cases x <;> cases y <;> simp_all <;> omega,fun k hk hk2=>?_⟩
   match k with
   | 0 =>
    have hy:y=true:=by simpa[T] using hk
    have hx:x=false:=by simpa[T] using hk2
    subst hy hx
    simp;omega
   | k+1 =>
    have:=i2 k hk hk2
    cases x <;> cases y <;> simp_all <;> omega
theorem QcE (a:List Bool):cntT a≤a.length:=List.countP_le_length
abbrev InN (g:Nat→List Nat) (n:Nat):Prop:=∀ i,i<n→∀ z∈g i,z<n
theorem QaC (hg:InN g n) (hc:c<n):∀ t,(∀ a z,T (covN g n c t) a→z∈g a→T (covN g n c t) z)∨t+1≤cntT (covN g n c t)
 | 0=>by
  right
  have:=(M6 (a:=List.replicate n false) (b:=covN g n c 0) (by simp[covN]) (fun k hk=>by
   unfold T at hk
   rw[YN] at hk
   split at hk <;> cases hk)).2 c (by show T (setT (List.replicate n false) c) c;exact R6.2 (.inr ⟨rfl,by simpa using hc⟩)) (fun hk=>by
   unfold T at hk
   rw[YN] at hk
   split at hk <;> cases hk)
  omega
 | t+1=>by
  by_cases hcl:∀ a z,T (covN g n c t) a→z∈g a→T (covN g n c t) z
  ·left
   have hsub:∀ k,T (covN g n c (t+1)) k→T (covN g n c t) k:=B0 (P:=T (covN g n c t)) hcl (List.range n) _ fun k hk=>hk
   intro a z ha hz
   exact RN _ _ (hcl a z (hsub a ha) hz)
  ·right
   have hm:t+1≤cntT (covN g n c t):=by
    rcases QaC hg hc t with h | h
    ·exact absurd h hcl
    ·exact h
   have hmono:∀ k,T (covN g n c t) k→T (covN g n c (t+1)) k:=fun k hk=>RN (List.range n) _ hk
   obtain ⟨a,ha⟩:=Classical.not_forall.1 hcl
   obtain ⟨z,hz⟩:=Classical.not_forall.1 ha
   obtain ⟨h1,hz⟩:=Classical.not_imp.1 hz
   obtain ⟨h2,h3⟩:=Classical.not_imp.1 hz
   have han:a<n:=by have:=h1.lt;rw[GF] at this;exact this
   have hnew:T (covN g n c (t+1)) z:=Qcc (i:=a) (List.range n) _ (by simpa using han) h1 h2 (by rw[GF];exact hg a han z h2)
   have:=(M6 (by rw[GF,GF]) hmono).2 z hnew h3
   omega
theorem CS (hg:InN g n) (hc:c<n) {k:Nat}:T (covG g n c) k↔Rch g c k:=by
 constructor
 ·exact QcA n k
 ·have hcl:∀ a z,T (covG g n c) a→z∈g a→T (covG g n c) z:=by
   rcases QaC hg hc n with h | h
   ·exact h
   ·have h2:=QcE (covN g n c n)
    rw[GF] at h2
    omega
  have hcc:∀ t,T (covN g n c t) c:=by
   intro t
   induction t with
   | zero=>show T (setT (List.replicate n false) c) c;exact R6.2 (.inr ⟨rfl,by simpa using hc⟩)
   | succ t ih=>exact RN (List.range n) _ ih
  intro h
  induction h with
  | refl=>exact hcc n
  | step _ hz ih=>exact hcl _ _ ih hz
structure Dfs (g:Nat→List Nat) (c:Nat) (M M':List Bool):Prop where
 len:M'.length=M.length
 mono:∀ k,T M k→T M' k
 has:T M' c
 new:∀ k,T M' k→T M k∨Rch g c k
 clo:∀ a z,T M' a→¬ T M a→z∈g a→T M' z
theorem Dfs.all (hg:InN g n) (hc:c<n) {M':List Bool} (h:Dfs g c (List.replicate n false) M'):M'=covG g n c:=by
 have hno:∀ k,¬ T (List.replicate n false) k:=fun k hk=>by
  unfold T at hk
  rw[YN] at hk
  split at hk <;> cases hk
 apply T_ext
 ·rw[h.len,CR];simp
 intro k hk
 rw[CS hg hc]
 constructor
 ·intro ht
  rcases h.new k ht with h1 | h1
  ·exact absurd h1 (hno k)
  ·exact h1
 ·intro hr
  induction hr with
  | refl=>exact h.has
  | @step a z hr hz ih =>
   have ha:T M' a:=ih (by
    rw[h.len,List.length_replicate]
    have:T (covG g n c) a:=(CS hg hc).2 hr
    have:=this.lt
    rwa [CR] at this)
   exact h.clo a z ha (hno a) hz
end
end Go.Proofs.YtgkidpolomhghaaGreatDoor.Pl
namespace Go.Proofs.YtgkidpolomhghaaGreatDoor.AM
variable [Dr]
open Go Pl
abbrev QaJ (o:List Bool):CV:=.rsl (o.map .bool) o.length
abbrev XT (o:List Bool):List AV:=o.map AV.b
def nx (s:Sys) (i:Nat):List Nat:=(s.cl[i]!).inc.map Int.toNat
def OkI (s:Sys):Prop:=∀ i,i<s.cl.length→∀ z∈(s.cl[i]!).inc,0≤z∧z<s.cl.length
theorem OkI.inN {s:Sys} (h:OkI s):InN (nx s) s.cl.length:=fun i hi z hz=>by
 obtain ⟨y,hy,rfl⟩:=ZP.1 hz
 have:=h i hi y hy
 omega
abbrev cov (s:Sys) (c:Nat):List Bool:=covG (nx s) s.cl.length c
theorem M4 {s:Sys} {c:Nat}:(cov s c).length=s.cl.length:=CR
theorem B6 {n:Nat} (h:n<2 ^ 40) (σ:List AObj):XB 1 1 [.cv (.bool false)] [.i n,.i n] σ=some (.sl σ.length 0 n 1,σ++[.cells (XT (List.replicate n false))]):=by
 have e:(2:Int) ^ 46=70368744177664:=by decide
 have e2:(2:Nat) ^ 40=1099511627776:=by decide
 have h1:0≤(n:Int)∧True∧(n:Int)*(1:Nat)≤2 ^ 46∧(n:Int)≤2 ^ 46∧[AV.cv (.bool false)].length=1:=by
  refine ⟨by omega,trivial,by omega,by omega,rfl⟩
 simp only[XB]
 rw[if_pos h1]
 simp[YW]
theorem OX {o:List Bool} {k:Nat}:(XT o).set k (.cv (.bool true))=XT (setT o k):=by
 unfold setT;exact List.map_set.symm
theorem NB {o:List Bool} {k:Nat} (h:k<o.length):(XT o)[k]? = some (.b (o[k]?.getD false)):=by simp[h]
theorem AZ {p:CV→Prop} (hp:∀ z,p (.bool z)) {σ:List AObj} {o:List Bool} {l n:Nat} (hn:n=o.length) (hr:rowOf σ l=some (XT o)):FrzV p σ (.sl l 0 n 1) (.cv (QaJ o)):=by
 subst hn
 have:XT o=(o.map CV.bool).map AV.cv:=by simp
 refine sl_frz (cs:=o.map CV.bool) (rest:=[]) (by rw[hr,this];simp) (by simp) ?_
 intro c hc
 obtain ⟨b,_,rfl⟩:=ZP.1 hc
 exact hp b
theorem Qb9 {g:Nat→List Nat} {o:List Bool} {i k:Nat} (h:o[i]?.getD false=true):(((g i).take k).foldl setT o)[i]?.getD false=true:=(Qds _ _).2 (.inl h)
theorem c51 (s:Sys) (hs:SSz s) (hn:s.cl.length<2 ^ 40) (hok:OkI s) (c:Nat) (hc:c<s.cl.length):PC Tryz.prog 109 [sysV s,.i c] (.cv (QaJ (cov s c))):=by
 have e40:(2:Nat) ^ 40=1099511627776:=by decide
 refine ⟨ZF (fok109 true) (QC rfl) ?_,rfl⟩
 have hsl:∀ σ,VP 1 [.sl 1 0 s.cl.length 1,.cv (.int .i64 c)] σ=some (.ptr 1 (0+c),σ):=W9 hc
 have hrep:c+1≤(List.replicate s.cl.length false).length:=by simp;omega
 simp only[ic109,WI,cellsOf,B6 hn,hsl,ZV,OX,hrep,evA,simprocAttr]
 refine ZW s.cl.length (fun t s'=>∃ v6 v7 v8 v9 v10,s'=⟨[sysV s,.i c,.ptr 0 0,.cv .nils,.sl 1 0 s.cl.length 1,.i t,v6,v7,v8,v9,v10],[.cells [.cv (clsR s.cl),.cv (strR s.co)],.cells (XT (covN (nx s) s.cl.length c t))]⟩) ?_ 0 (QF _) ⟨_,_,_,_,_,rfl⟩
 rintro t s' ht ⟨v6,v7,v8,v9,v10,rfl⟩
 by_cases htn:t<s.cl.length
 ·simp only[ic109l2,QJ,htn,evA,simprocAttr]
  have hcl:=GF (g:=nx s) (n:=s.cl.length) (c:=c) t
  have hcov:covN (nx s) s.cl.length c (t+1)=GO (nx s) (covN (nx s) s.cl.length c t) s.cl.length:=rfl
  generalize covN (nx s) s.cl.length c t=o at hcl hcov
  refine ZW s.cl.length (fun i s'=>∃ v7 v9 v10,s'=⟨[sysV s,.i c,.ptr 0 0,.cv .nils,.sl 1 0 s.cl.length 1,.i t,.i i,v7,.b true,v9,v10],[.cells [.cv (clsR s.cl),.cv (strR s.co)],.cells (XT (GO (nx s) o i))]⟩) ?_ 0 (QF _) ⟨_,_,_,rfl⟩
  rintro i s' hi ⟨v7,v9,v10,rfl⟩
  by_cases hin:i<s.cl.length
  ·have hinc:=hs.inc i hin
   have hrl:(GO (nx s) o i).length=s.cl.length:=by rw[GO,B1,hcl]
   have hstep:GO (nx s) o (i+1)=GP (nx s) (GO (nx s) o i) i:=by simp[GO,WM]
   generalize hq:GO (nx s) o i=q at hrl hstep
   simp only[ic109l1,QJ,hin,evA,simprocAttr]
   refine ZW (s.cl[i]!).inc.length (fun k s'=>(k=0∨q[i]?.getD false=true)∧∃ v10,s'=⟨[sysV s,.i c,.ptr 0 0,.cv .nils,.sl 1 0 s.cl.length 1,.i t,.i i,.i k,.b true,.b true,v10],[.cells [.cv (clsR s.cl),.cv (strR s.co)],.cells (XT (((nx s i).take k).foldl setT q))]⟩) ?_ 0 (QF _) ⟨.inl rfl,_,rfl⟩
   rintro k s' hk ⟨hkq,v10,rfl⟩
   have hnx:(nx s i).length=(s.cl[i]!).inc.length:=by simp[nx]
   by_cases hki:k<(s.cl[i]!).inc.length
   ·have hz:(nx s i)[k]? = some ((s.cl[i]!).inc[k]?.getD 0).toNat:=by rw[nx,ZR,QI hki];rfl
    have hzr:=hok i hin ((s.cl[i]!).inc[k]?.getD 0) (by rw[QI hki];exact Q2 hki)
    have hfl:(((nx s i).take k).foldl setT q).length=s.cl.length:=by rw[A1,hrl]
    have hgb:=NB (o:=((nx s i).take k).foldl setT q) (k:=i) (by omega)
    have hbit:(((nx s i).take k).foldl setT q)[i]?.getD false=q[i]?.getD false:=by
     rcases hkq with rfl | h
     ·simp
     ·rw[h];exact Qb9 h
    rw[hbit] at hgb
    have hsli:∀ σ,VP 1 [.sl 1 0 s.cl.length 1,.cv (.int .i64 i)] σ=some (.ptr 1 (0+i),σ):=W9 hin
    simp only[ic109l0,QJ,hki,GR hin,CW hin,hsli,ZV,hgb,evA,simprocAttr]
    cases hb:q[i]?.getD false with
    | false =>
     have hk0:k=0:=by
      rcases hkq with h | h
      ·exact h
      ·rw[hb] at h;cases h
     subst hk0
     simp only[Q6 (show i+1<2 ^ 63 by omega),evA,simprocAttr]
     have hst:GO (nx s) o (i+1)=q:=by rw[hstep,GP,if_neg (by rw[hb];decide)]
     exact ZL (by first | trivial | omega) ⟨_,_,_,by rw[hst];rfl⟩
    | true =>
     obtain ⟨z,hze⟩:∃ z:Nat,(s.cl[i]!).inc[k]?.getD 0=(z:Int):=⟨((s.cl[i]!).inc[k]?.getD 0).toNat,by omega⟩
     rw[hze,Int.toNat_natCast] at hz
     have hslz:∀ σ,VP 1 [.sl 1 0 s.cl.length 1,.cv (.int .i64 z)] σ=some (.ptr 1 (0+z),σ):=W9 (by omega)
     have hzl:z+1≤(((nx s i).take k).foldl setT q).length:=by omega
     simp only[ic109l0,QJ,hki,GR hin,CW hin,hze,hzl,hslz,ZV,OX,Q6 (show k+1<2 ^ 63 by omega),evA,simprocAttr]
     have hst:((nx s i).take (k+1)).foldl setT q=setT (((nx s i).take k).foldl setT q) z:=by
      rw[JC,hz,List.foldl_append]
      rfl
     exact ZL (by first | trivial | omega) ⟨.inr trivial,_,by rw[hst]⟩
   ·have hkl:k=(s.cl[i]!).inc.length:=by omega
    simp only[ic109l0,QJ,hki,GR hin,CW hin,Q6 (show i+1<2 ^ 63 by omega),evA,simprocAttr]
    have hst:GO (nx s) o (i+1)=((nx s i).take k).foldl setT q:=by
     rw[hstep,hkl,← hnx,X7,GP]
     split
     ·rfl
     ·rename_i hb
      have hk0:k=0:=by
       rcases hkq with h | h
       ·exact h
       ·exact absurd h hb
      have:nx s i=[]:=ZT (by omega)
      rw[this];rfl
    exact ZL (by first | trivial | omega) ⟨_,_,_,by rw[hst]⟩
  ·have hin':i=s.cl.length:=by omega
   subst hin'
   simp only[ic109l1,QJ,hin,Q6 (show t+1<2 ^ 63 by omega),evA,simprocAttr]
   exact ZL (by first | trivial | omega) ⟨_,_,_,_,_,by rw[hcov]⟩
 ·have htn':t=s.cl.length:=by omega
  subst htn'
  simp only[ic109l2,QJ,htn,evA,simprocAttr]
  exact AZ (fun _=>trivial) (by rw[M4]) rfl
theorem nx_get {s:Sys} {c k:Nat} (hk:k<(s.cl[c]!).inc.length):(nx s c)[k]? = some ((s.cl[c]!).inc[k]?.getD 0).toNat:=by rw[nx,ZR,QI hk];rfl
theorem nx_lenC {s:Sys} {c:Nat}:(nx s c).length=(s.cl[c]!).inc.length:=by simp[nx]
structure DfsH (s:Sys) (σ:List AObj) (A B D L R:Nat):Prop where
 a:rowOf σ A=some [.sl R 0 s.cl.length 1]
 b:rowOf σ B=some [.ptr L 0]
 d:rowOf σ D=some [.fn (.func 182) [.ptr A 0,.ptr B 0,.ptr D 0]]
 l:∃ v,rowOf σ L=some [.cv (clsR s.cl),.cv (strR s.co),v]
 ra:R≠A
 rb:R≠B
 rd:R≠D
 rl:R≠L
 rr:R<σ.length
theorem DfsH.set {s:Sys} {σ:List AObj} {A B D L R:Nat} (h:DfsH s σ A B D L R) (x:AObj):DfsH s (σ.set R x) A B D L R :=
 ⟨by rw[QX h.ra];exact h.a,by rw[QX h.rb];exact h.b,by rw[QX h.rd];exact h.d,by rw[QX h.rl];exact h.l,h.ra,h.rb,h.rd,h.rl,by simpa using h.rr⟩
theorem cntT_set {M:List Bool} {c:Nat} (hc:c<M.length) (h:¬ T M c):cntT M<cntT (setT M c) :=
 (M6 (D9 M c).symm fun k hk=>R6.2 (.inl hk)).2 c (R6.2 (.inr ⟨rfl,hc⟩)) h
theorem c124 (s:Sys) (hs:SSz s) (hok:OkI s) (A B D L R:Nat):∀ (m:Nat) (σ:List AObj) (M:List Bool) (c:Nat),DfsH s σ A B D L R→M.length=s.cl.length→c<s.cl.length→s.cl.length-cntT M<m →
  AC Tryz.prog 182 [.i c,.ptr A 0,.ptr B 0,.ptr D 0] (σ.set R (.cells (XT M))) fun r τ=>r=.tup []∧∃ M',Dfs (nx s) c M M'∧τ=σ.set R (.cells (XT M'))
 | 0,_,_,_,_,_,_,hm=>absurd hm (W5 _)
 | m + 1,σ,M,c,hσ,hM,hc,hm=>by
  have hH:=fun (o:List Bool)=>hσ.set (.cells (XT o))
  obtain ⟨lv,hL⟩:=hσ.l
  have hA:∀ o:List Bool,rowOf (σ.set R (.cells (XT o))) A=some [.sl R 0 s.cl.length 1]:=fun o=>(hH o).a
  have hB:∀ o:List Bool,rowOf (σ.set R (.cells (XT o))) B=some [.ptr L 0]:=fun o=>(hH o).b
  have hD:∀ o:List Bool,rowOf (σ.set R (.cells (XT o))) D=some [.fn (.func 182) [.ptr A 0,.ptr B 0,.ptr D 0]]:=fun o=>(hH o).d
  have hLL:∀ o:List Bool,rowOf (σ.set R (.cells (XT o))) L=some [.cv (clsR s.cl),.cv (strR s.co),lv]:=fun o=>by rw[QX hσ.rl];exact hL
  have hR:∀ o:List Bool,rowOf (σ.set R (.cells (XT o))) R=some (XT o):=fun o=>by simp[rowOf,hσ.rr]
  have hgc:=NB (o:=M) (k:=c) (by omega)
  have hslc:∀ σ',VP 1 [.sl R 0 s.cl.length 1,.cv (.int .i64 c)] σ'=some (.ptr R (0+c),σ'):=W9 hc
  refine ZF (fok182 true) (QC rfl) ?_
  by_cases hT:M[c]?.getD false=true
  ·rw[hT] at hgc
   simp only[ic182,hA,hR,hslc,ZV,hgc,evA,simprocAttr]
   exact ⟨M,⟨rfl,fun k h=>h,hT,fun k h=>.inl h,fun a z h1 h2=>absurd h1 h2⟩,rfl⟩
  ·have hTf:M[c]?.getD false=false:=by simpa using hT
   rw[hTf] at hgc
   have hcl:c+1≤M.length:=by omega
   have hsz:=cntT_set (c:=c) (by omega) (show ¬ T M c from hT)
   have hinc:=hs.inc c hc
   have hle:=QcE (setT M c)
   rw[D9] at hle
   have hM1:(setT M c).length=s.cl.length:=by rw[D9,hM]
   simp only[ic182,hA,hB,hLL,hR,hslc,ZV,hgc,hcl,OX,List.set_set,GR hc,CW hc,evA,simprocAttr]
   refine ZW (s.cl[c]!).inc.length (fun k s'=>∃ v4 v9 M2,(M2.length=s.cl.length∧(∀ j,T (setT M c) j→T M2 j)∧(∀ j,T M2 j→T (setT M c) j∨Rch (nx s) c j)∧(∀ a z,T M2 a→¬ T (setT M c) a→z∈nx s a→T M2 z)∧∀ j z,j<k→(nx s c)[j]? = some z→T M2 z)∧s'=⟨[.i c,.ptr A 0,.ptr B 0,.ptr D 0,v4,.b false,.cv (.rsl ((s.cl[c]!).inc.map (.int .i64)) (s.cl[c]!).inc.length),.i (s.cl[c]!).inc.length,.i k,v9],σ.set R (.cells (XT M2))⟩) ?_ 0 (QF _) ⟨_,_,setT M c,⟨hM1,fun _ h=>h,fun _ h=>.inl h,fun a z h1 h2=>absurd h1 h2,by omega⟩,rfl⟩
   rintro k s' hk ⟨v4,v9,M2,⟨q1,q2,q3,q4,q5⟩,rfl⟩
   by_cases hki:k<(s.cl[c]!).inc.length
   ·have hz:=nx_get hki
    have hzr:=hok c hc ((s.cl[c]!).inc[k]?.getD 0) (by rw[QI hki];exact Q2 hki)
    obtain ⟨z,hze⟩:∃ z:Nat,(s.cl[c]!).inc[k]?.getD 0=(z:Int):=⟨((s.cl[c]!).inc[k]?.getD 0).toNat,by omega⟩
    rw[hze,Int.toNat_natCast] at hz
    have hcnt:cntT (setT M c)≤cntT M2:=(M6 (by rw[hM1,q1]) q2).1
    have ih:=c124 s hs hok A B D L R m σ M2 z hσ q1 (by omega) (by omega)
    have hzm:z∈nx s c:=QZ hz
    simp only[ic182l0,QJ,hki,hD,hze,evA,simprocAttr]
    refine ih.mono ?_
    rintro r τ ⟨rfl,M3,hd,rfl⟩
    simp only[Q6 (show k+1<2 ^ 63 by omega),evA,simprocAttr]
    refine ZL (by first | trivial | omega) ⟨_,_,M3,⟨by rw[hd.len,q1],fun j h=>hd.mono j (q2 j h),fun j h=>?_,fun a y h1 h2 h3=>?_,fun j y hj hy=>?_⟩,rfl⟩
    ·rcases hd.new j h with h | h
     ·exact q3 j h
     ·exact .inr (Rch.head hzm h)
    ·by_cases hm2:T M2 a
     ·exact hd.mono y (q4 a y hm2 h2 h3)
     ·exact hd.clo a y h1 hm2 h3
    ·rcases QQ.1 hj with hj | rfl
     ·exact hd.mono y (q5 j y hj hy)
     ·rw[hz] at hy;cases hy;exact hd.has
   ·have hkl:k=(s.cl[c]!).inc.length:=by omega
    simp only[ic182l0,QJ,hki,evA,simprocAttr]
    refine ⟨M2,⟨by rw[q1,hM],fun j h=>q2 j (R6.2 (.inl h)),q2 c (R6.2 (.inr ⟨rfl,by omega⟩)),fun j h=>?_,fun a z h1 h2 h3=>?_⟩,rfl⟩
    ·rcases q3 j h with h | h
     ·rcases R6.1 h with h | ⟨rfl,_⟩
      ·exact .inl h
      ·exact .inr .refl
     ·exact .inr h
    ·by_cases hac:a=c
     ·subst hac
      obtain ⟨j,hj,hje⟩:=WN.1 h3
      rw[nx_lenC] at hj
      exact q5 j z (by omega) (by rw[QI (by rw[nx_lenC];exact hj),hje])
     ·exact q4 a z h1 (fun h=>by
       rcases R6.1 h with h | ⟨h,_⟩
       ·exact h2 h
       ·exact hac h) h3
def CovV (s:Sys) (b:Nat) (τ:List AObj) (v:AV) (i:Nat):Prop :=
 (v=.cv .nils∧i=0)∨∃ (q:Nat) (a:Nat→Nat),b≤q∧v=.sl q 0 i 1∧rowOf τ q=some ((List.range i).map fun k=>AV.sl (a k) 0 s.cl.length 1)∧∀ k,k<i→b≤a k∧a k≠q∧rowOf τ (a k)=some (XT (cov s k))
structure LookH (s:Sys) (σ:List AObj) (L i:Nat) (τ:List AObj):Prop where
 len:σ.length≤τ.length
 frame:∀ l,l<σ.length→l≠L→τ[l]? = σ[l]?
 sys:∃ v,rowOf τ L=some [.cv (clsR s.cl),.cv (strR s.co),v]∧CovV s (σ.length+1) τ v i
theorem set_row {σ:List AObj} {l:Nat} {cs:List AV} (h:rowOf σ l=some cs):σ.set l (.cells cs)=σ:=by
 have:=WO h
 apply Z1
 intro i
 rw[ZO]
 split
 ·rename_i e;subst e
  obtain ⟨h1,h2⟩:=QH.1 this
  rw[if_pos h1,this]
 ·rfl
theorem RJ {X τ:List AObj} {l:Nat} (h:X[l]? = τ[l]?):rowOf X l=rowOf τ l:=by unfold rowOf;rw[h]
theorem AH {s:Sys} {σ τ X:List AObj} {L i Q qo:Nat} {a:Nat→Nat} {v:AV} (hlb:σ.length<τ.length) (h2:∀ l,l<σ.length→l≠L→τ[l]? = σ[l]?)
  (h3:rowOf τ L=some [.cv (clsR s.cl),.cv (strR s.co),v]) (h5:rowOf τ σ.length=some [.ptr L 0]) (hLl:L<σ.length) (hqo:σ.length+1≤qo)
  (hX:∀ l,l<τ.length→l≠qo→X[l]? = τ[l]?) (hXl:τ.length≤X.length)
  (hQ:rowOf X Q=some ((List.range (i+1)).map fun k=>AV.sl (a k) 0 s.cl.length 1)) (hQl:τ.length<Q)
  (ha:∀ k,k<i→σ.length+1≤a k∧a k<τ.length∧a k≠qo∧rowOf τ (a k)=some (XT (cov s k))) (hai:a i=τ.length) (hR:rowOf X τ.length=some (XT (cov s i))) :
  LookH s σ L (i+1) (X.set L (.cells [.cv (clsR s.cl),.cv (strR s.co),.sl Q 0 (i+1) 1]))∧rowOf (X.set L (.cells [.cv (clsR s.cl),.cv (strR s.co),.sl Q 0 (i+1) 1])) σ.length=some [.ptr L 0]:=by
 have hXL:rowOf X L=some [.cv (clsR s.cl),.cv (strR s.co),v]:=by rw[RJ (hX L (by omega) (by omega))];exact h3
 refine ⟨⟨by simp;omega,fun l h4 h6=>?_,_,W0 hXL,.inr ⟨Q,a,by omega,rfl,?_,fun k hk=>?_⟩⟩,?_⟩
 ·rw[QU (Ne.symm h6),hX l (by omega) (by omega),h2 l h4 h6]
 ·rw[QX (by omega)];exact hQ
 ·rcases QQ.1 hk with hk | rfl
  ·obtain ⟨a1,a2,a3,a4⟩:=ha k hk
   refine ⟨a1,by omega,?_⟩
   rw[QX (by omega),RJ (hX _ a2 a3)];exact a4
  ·rw[hai]
   refine ⟨by omega,by omega,?_⟩
   rw[QX (by omega)];exact hR
 ·rw[QX (by omega),RJ (hX _ hlb (by omega))];exact h5
theorem c107 (s:Sys) (hs:SSz s) (hn12:s.cl.length≤12) (hok:OkI s) (L:Nat) (σ:List AObj) (hL:rowOf σ L=some [.cv (clsR s.cl),.cv (strR s.co),.cv .nils]) :
  AC Tryz.prog 165 [.ptr L 0] σ fun r τ=>r=.tup []∧LookH s σ L s.cl.length τ:=by
 have e40:(2:Nat) ^ 40=1099511627776:=by decide
 have hn:s.cl.length<2 ^ 40:=by omega
 have hLl:L<σ.length:=(QH.1 (WO hL)).1
 refine ZF (fok165 true) (QC rfl) ?_
 simp only[ic165,WI,cellsOf,WW,ZH hL,evA,simprocAttr]
 refine ZW s.cl.length (fun i s'=>∃ v2 v3 v4 v7 τ,LookH s σ L i τ∧rowOf τ σ.length=some [.ptr L 0]∧s'=⟨[.ptr L 0,.ptr σ.length 0,v2,v3,v4,.i s.cl.length,.i i,v7],τ⟩) ?_ 0 (QF _) ⟨_,_,_,_,_,⟨by simp,fun l h1 h2=>QE h1,_,ZH hL _,.inl ⟨rfl,rfl⟩⟩,by rw[WW];rfl,rfl⟩
 ·rintro i s' hi ⟨v2,v3,v4,v7,τ,⟨h1,h2,v,h3,h4⟩,h5,rfl⟩
  have hlb:σ.length<τ.length:=(QH.1 (WO h5)).1
  have hwi:IntKind.i64.wrap ((i:Int)+1)=((i+1:Nat):Int):=Q6 (by omega)
  by_cases hin:i<s.cl.length
  ·have hvn:v.isUndef=false:=by
    rcases h4 with ⟨rfl,_⟩ | ⟨q,a,_,rfl,_⟩ <;> rfl
   have g5:=fun J=>ZH h5 J
   have g3:=fun J=>ZH h3 J
   simp only[ic165l0,QJ,hin,h5,h3,g5,g3,B6 hn,WW,X9,VW,EZ,QW,QM,evA,simprocAttr]
   have hdfs:=c124 s hs hok (τ.length+1) σ.length (τ.length+2) L τ.length (s.cl.length+1) (τ++[AObj.cells (XT (List.replicate s.cl.length false)),AObj.cells [AV.sl τ.length 0 s.cl.length 1],AObj.cells [AV.fn (Fn.func 182) [AV.ptr (τ.length+1) 0,AV.ptr σ.length 0,AV.ptr (τ.length+2) 0]]]) (List.replicate s.cl.length false) i ⟨by rw[X9];rfl,g5 _,by rw[X9];rfl,⟨v,g3 _⟩,by omega,by omega,by omega,by omega,by simp⟩ (by simp) hin (by omega)
   rw[set_row (by rw[WW];rfl)] at hdfs
   refine hdfs.mono ?_
   rintro r τ1 ⟨rfl,M',hd,rfl⟩
   rw[hd.all hok.inN hin]
   simp only[VW,evA,simprocAttr]
   refine DW_s [] [(0,6),(0,7),(1,6),(4,6)] hmix (by kernel_rfl) rfl ?_
   have k5:=fun J=>Qdq h5 J
   have kL:=fun J=>Qdq h3 J
   have hsrc:∀ (x0 x1 x2:AObj) (J:List AObj),Z9 (τ++(x0::x1::x2::AObj.cells [AV.sl τ.length 0 s.cl.length 1]::J)) 1 (.sl (τ.length+3) 0 1 1)=some [AV.sl τ.length 0 s.cl.length 1]:=fun x0 x1 x2 J=>by
    simp only[Z9,if_true,X9];rfl
   rcases h4 with ⟨rfl,rfl⟩ | ⟨q,a,hq1,rfl,hq2,hq3⟩
   ·simp only[h5,h3,g5,g3,k5,kL,hsrc,ZX,lenF,WW,X9,VW,EZ,QW,QM,evA,simprocAttr]
    have hst:=AH (s:=s) (σ:=σ) (τ:=τ) (L:=L) (i:=0) (Q:=τ.length+4) (qo:=τ.length) (a:=fun _=>τ.length) (X:=τ++[AObj.cells (XT (cov s 0)),AObj.cells [AV.sl τ.length 0 s.cl.length 1],AObj.cells [AV.fn (Fn.func 182) [AV.ptr (τ.length+1) 0,AV.ptr σ.length 0,AV.ptr (τ.length+2) 0]],AObj.cells [AV.sl τ.length 0 s.cl.length 1],AObj.cells [AV.sl τ.length 0 s.cl.length 1]]) hlb h2 h3 h5 hLl (by omega) (fun l hl _=>QE hl) (by simp) (by rw[X9];rfl) (by omega) (fun k hk=>by omega) rfl (by rw[WW];rfl)
    exact ZL trivial ⟨_,_,_,_,_,hst.1,hst.2,rfl⟩
   ·have hql:q<τ.length:=(QH.1 (WO hq2)).1
    have gq:=fun J=>ZH hq2 J
    have hap:∀ (J J':List AObj) (x:AObj) (l:Nat),l<τ.length→l≠q→((τ++J).set q x++J')[l]? = τ[l]? := fun J J' x l hl hne=>by
     rw[QE (by simp;omega),QU (Ne.symm hne),QE hl]
    have m5:∀ (J J':List AObj) (x:AObj),((τ++J).set q x++J')[σ.length]? = some (.cells [.ptr L 0]):=fun J J' x=>by rw[hap _ _ _ _ hlb (by omega)];exact WO h5
    have mL:∀ (J J':List AObj) (x:AObj),((τ++J).set q x++J')[L]? = some (.cells [.cv (clsR s.cl),.cv (strR s.co),.sl q 0 i 1]):=fun J J' x=>by rw[hap _ _ _ _ (by omega) (by omega)];exact WO h3
    have rL:∀ (J J':List AObj) (x:AObj),rowOf ((τ++J).set q x++J') L=some [.cv (clsR s.cl),.cv (strR s.co),.sl q 0 i 1]:=fun J J' x=>by rw[RJ (hap _ _ _ _ (by omega) (by omega))];exact h3
    have hrow:((List.range i).map fun k=>AV.sl (a k) 0 s.cl.length 1).length=i:=by simp
    have htk:((List.range i).map fun k=>AV.sl (a k) 0 s.cl.length 1).take i=(List.range i).map fun k=>AV.sl (a k) 0 s.cl.length 1:=by rw[Q5 (by simp)]
    have hc1:i≤(List.range i).length:=by simp
    have hc2:(i+1)*24≤2 ^ 44:=by
     have:(2:Nat) ^ 44=17592186044416:=by decide
     omega
    have hc3:i+1≤2 ^ 44:=by omega
    simp only[hwi,h5,h3,g5,g3,k5,kL,m5,mL,rL,gq,hc1,hc2,hc3,htk,hsrc,ZX,lenF,WW,X9,VW,EZ,QW,QM,evA,simprocAttr]
    obtain ⟨a',ha',hai'⟩:∃ a':Nat→Nat,(∀ k,k<i→a' k=a k)∧a' i=τ.length:=⟨fun k=>if k<i then a k else τ.length,fun k hk=>by simp[hk],by simp⟩
    have hrow':((List.range i).map fun k=>AV.sl (a k) 0 s.cl.length 1)++[AV.sl τ.length 0 s.cl.length 1]=(List.range (i+1)).map fun k=>AV.sl (a' k) 0 s.cl.length 1:=by
     rw[WM,ZS]
     congr 1
     ·apply JI
      intro k hk
      rw[ha' k (ZI.1 hk)]
     ·simp[hai']
    rw[hrow']
    have hlen4:((τ++[AObj.cells (XT (cov s i)),AObj.cells [AV.sl τ.length 0 s.cl.length 1],AObj.cells [AV.fn (Fn.func 182) [AV.ptr (τ.length+1) 0,AV.ptr σ.length 0,AV.ptr (τ.length+2) 0]],AObj.cells [AV.sl τ.length 0 s.cl.length 1]]).set q AObj.dead).length=τ.length+4:=by simp
    have hst:=AH (s:=s) (σ:=σ) (τ:=τ) (L:=L) (i:=i) (Q:=τ.length+4) (qo:=q) (a:=a') (X:=(τ++[AObj.cells (XT (cov s i)),AObj.cells [AV.sl τ.length 0 s.cl.length 1],AObj.cells [AV.fn (Fn.func 182) [AV.ptr (τ.length+1) 0,AV.ptr σ.length 0,AV.ptr (τ.length+2) 0]],AObj.cells [AV.sl τ.length 0 s.cl.length 1]]).set q AObj.dead++[AObj.cells ((List.range (i+1)).map fun k=>AV.sl (a' k) 0 s.cl.length 1)]) hlb h2 h3 h5 hLl hq1 (fun l hl hne=>hap _ _ _ _ hl hne) (by simp;omega) (by rw[← hlen4,WW];rfl) (by omega) (fun k hk=>?_) hai' ?_
    ·exact ZL trivial ⟨_,_,_,_,_,hst.1,hst.2,rfl⟩
    ·obtain ⟨b1,b2,b3⟩:=hq3 k hk
     rw[ha' k hk]
     exact ⟨b1,(QH.1 (WO b3)).1,b2,b3⟩
    ·have:((τ++[AObj.cells (XT (cov s i)),AObj.cells [AV.sl τ.length 0 s.cl.length 1],AObj.cells [AV.fn (Fn.func 182) [AV.ptr (τ.length+1) 0,AV.ptr σ.length 0,AV.ptr (τ.length+2) 0]],AObj.cells [AV.sl τ.length 0 s.cl.length 1]]).set q AObj.dead++[AObj.cells ((List.range (i+1)).map fun k=>AV.sl (a' k) 0 s.cl.length 1)])[τ.length]? = some (.cells (XT (cov s i))):=by
      rw[QE (by simp),QU (by omega),Qau];rfl
     unfold rowOf;rw[this]
  ·have hin':i=s.cl.length:=by omega
   subst hin'
   simp only[ic165l0,QJ,hin,evA,simprocAttr]
   exact ⟨h1,h2,v,h3,h4⟩
theorem c111i (zs:List Int) (fv:AV) (p:Nat→Bool) (hz:zs.length<2 ^ 63) (hf:∀ i,i<zs.length→∀ σ,X0 Tryz.prog fv [.i (zs[i]?.getD 0)] σ fun r τ=>r=.b (p i)∧τ=σ) (σ:List AObj) :
  AC Tryz.prog 152 [ints zs,fv] σ fun r τ=>r=.i (idxN p zs.length)∧τ=σ:=by
 refine ZF (fok152 true) (QC rfl) ?_
 simp only[ic152,evA,simprocAttr]
 refine ZW zs.length (fun i s=>(∀ j,j<i→p j=false)∧∃ v3 v6 v7,s=⟨[ints zs,fv,.i 0,v3,.i zs.length,.i i,v6,v7],σ⟩) ?_ 0 (QF _) ⟨by omega,_,_,_,rfl⟩
 rintro i s hi ⟨hall,v3,v6,v7,rfl⟩
 by_cases h:i<zs.length
 ·simp only[ic152l0,QJ,h,evA,simprocAttr]
  refine (hf i h _).run ?_
  cases hp:p i
  ·simp only[evA,simprocAttr]
   refine ZL (by first | trivial | omega) ⟨fun j hj=>?_,_,_,_,by rw[ZC (by omega)];rfl⟩
   rcases QQ.1 hj with hj | rfl
   ·exact hall j hj
   ·exact hp
  ·simp only[evA,simprocAttr]
   exact (EK h hall hp).symm
 ·simp only[ic152l0,QJ,h,evA,simprocAttr]
  have:i=zs.length:=by omega
  subst this
  exact (EL hall).symm
theorem c87i (zs:List Int) (fv:AV) (p:Nat→Bool) (hz:zs.length<2 ^ 63) (hf:∀ i,i<zs.length→∀ σ,X0 Tryz.prog fv [.i (zs[i]?.getD 0)] σ fun r τ=>r=.b (p i)∧τ=σ):PC Tryz.prog 117 [ints zs,fv] (.b (anyN p zs.length)):=by
 refine ⟨ZF (fok117 true) (QC rfl) ?_,rfl⟩
 simp only[ic117,evA,simprocAttr]
 refine (c111i zs fv p hz hf _).run ?_
 simp only[evA,simprocAttr,OA]
 exact frz
def Qdw (s:Sys):List CV:=(List.range s.cl.length).map fun k=>QaJ (cov s k)
abbrev covR (s:Sys):CV:=.rsl (Qdw s) s.cl.length
abbrev sysR (s:Sys):List CV:=[clsR s.cl,strR s.co,covR s]
abbrev sysP (s:Sys):AV:=.cv (.rp (sysR s) 0)
def covB (s:Sys) (c k:Nat):Bool:=(cov s c)[k]?.getD false
theorem FD {s:Sys} {k:Nat} (hk:k<s.cl.length):(Qdw s)[k]? = some (QaJ (cov s k)):=by simp[Qdw,hk]
theorem DN {s:Sys} {c k:Nat} (hk:k<s.cl.length):((cov s c).map CV.bool)[k]? = some (.bool (covB s c k)):=by
 have:=M4 (s:=s) (c:=c)
 rw[ZR,QI (by omega)]
 unfold covB;rw[QI (by omega)];rfl
theorem P1 {s:Sys} {c k:Nat} (hk:k<s.cl.length) (σ:List AObj):VP 1 [.cv (QaJ (cov s c)),.cv (.int .i64 k)] σ=some (.cv (.rp ((cov s c).map CV.bool) (k*1)),σ):=XP (by rw[M4];exact hk) σ
theorem c108 (s:Sys) (z i:Nat) (hz:z<s.cl.length) (hi:i<s.cl.length):PC Tryz.prog 166 [.i z,.cv (.rp [.rp (sysR s) 0] 0),.cv (.rp [.int .i64 i] 0)] (.b (covB s z i)):=by
 refine ⟨ZF (fok166 true) (QC rfl) ?_,rfl⟩
 simp only[ic166,evA,simprocAttr]
 refine DW_s [] [] hmix (by kernel_rfl) rfl ?_
 simp only[XP hz,W3,FD hz,P1 hi,DN hi,evA,simprocAttr]
 exact frz
def dnB (s:Sys) (i:Nat):Bool:=anyN (fun k=>covB s ((s.cl[i]!).inc[k]?.getD 0).toNat i) (s.cl[i]!).inc.length
def dnE (s:Sys) (i:Nat):Int:=if dnB s i then 9 else 0
def sysE (s:Sys):Int × Int × Int :=
 if (!inB s.cl.length 1 12||decide ((s.co.length:Int)>8))=true then (1,0,3)
 else if (XZ (VR s) 0 s.cl.length).2≠0 then (2,XZ (VR s) 0 s.cl.length)
 else if (XZ (KM s) 0 s.co.length).2≠0 then (3,XZ (KM s) 0 s.co.length)
 else if (XZ (dnE s) 0 s.cl.length).2≠0 then (4,XZ (dnE s) 0 s.cl.length)
 else (0,0,0)
theorem NF {g:Nat→Int}:∀ (k i:Nat),(XZ g i k).2=0→∀ j,i≤j→j<i+k→g j=0
 | 0,i,_,j,h1,h2=>by omega
 | k+1,i,h,j,h1,h2=>by
  rw[XZ] at h
  by_cases hg:g i=0
  ·rw[if_pos hg] at h
   rcases ZB i j with hl | hl
   ·exact NF k (i+1) h j hl (by omega)
   ·have:j=i:=by omega
    subst this;exact hg
  ·rw[if_neg hg] at h;exact absurd h hg
theorem Qew {s:Sys} {i:Nat} (h:VR s i=0):∀ z∈(s.cl[i]!).inc,0≤z∧z<s.cl.length:=by
 unfold VR at h
 split at h;· cases h
 split at h;· cases h
 split at h;· cases h
 split at h;· cases h
 rename_i h4
 intro z hz
 have h5:outF 0 ((s.cl.length:Int)-1) (s.cl[i]!).inc=false:=by
  cases hh:outF 0 ((s.cl.length:Int)-1) (s.cl[i]!).inc with
  | false=>rfl
  | true=>rw[hh,US] at h4;exact absurd rfl h4
 rw[PW] at h5
 obtain ⟨j,hj,rfl⟩:=WN.1 hz
 have:=h5 j hj
 rw[QI hj,VB,Option.getD_some] at this
 omega
theorem Qch {s:Sys} (h:(XZ (VR s) 0 s.cl.length).2=0):OkI s:=fun i hi=>Qew (NF _ _ h i (QF _) (by omega))
def sysO (s:Sys):AV:=.tup [if (sysE s).2.2=0 then sysP s else .cv .nilp,.i (sysE s).1,.i (sysE s).2.1,.i (sysE s).2.2]
theorem c75 (s:Sys) (hs:SSz s):PA Tryz.prog 145 [sysV s] (sysO s):=by
 refine ⟨ZF (fok145 true) (QC rfl) ?_,by unfold sysO;split <;> rfl,rfl⟩
 have hcl:=hs.cl
 have hco:=hs.co
 have h56:=c56 1 12 [(s.cl.length:Int)] (by simp)
 rw[FW] at h56
 unfold sysO
 simp only[ic145,WI,cellsOf,evA,simprocAttr]
 refine h56.call frz ?_
 cases h1:inB s.cl.length 1 12 with
 | false =>
  have he:sysE s=(1,0,3):=by unfold sysE;rw[h1];rfl
  rw[he]
  simp only[ZY,evA,simprocAttr]
  exact frz
 | true =>
 cases h2:decide ((s.co.length:Int)>8) with
 | true =>
  have he:sysE s=(1,0,3):=by unfold sysE;rw[h1,h2];rfl
  rw[he]
  simp only[Y2,h2,evA,simprocAttr]
  exact frz
 | false =>
 have hn12:s.cl.length≤12:=by rw[VB] at h1;omega
 simp only[Y2,h2,evA,simprocAttr]
 refine DW_s [7] [] hmix (by kernel_rfl) rfl ?_
 simp only[evA,simprocAttr]
 refine YE ((c103 s.cl (.rp [clsR s.cl,strR s.co,.nils] 0) (VR s) hcl fun i hi σ=>(c104 s hs .nils i hi).call frz ⟨rfl,rfl⟩).call frz ⟨rfl,rfl⟩) rfl ?_
 have hok0:=Qch (s:=s)
 have e1:sysE s=if (XZ (VR s) 0 s.cl.length).2≠0 then (2,XZ (VR s) 0 s.cl.length) else if (XZ (KM s) 0 s.co.length).2≠0 then (3,XZ (KM s) 0 s.co.length) else if (XZ (dnE s) 0 s.cl.length).2≠0 then (4,XZ (dnE s) 0 s.cl.length) else (0,0,0):=by
  unfold sysE;rw[h1,h2];rfl
 rw[e1]
 generalize XZ (VR s) 0 s.cl.length=fc at hok0 e1
 obtain ⟨ca,ce⟩:=fc
 by_cases hce:ce=0
 rotate_left
 ·have hb:(ce != 0)=true:=by simpa using hce
  rw[if_pos hce,if_neg hce]
  simp only[hb,evA,simprocAttr]
  exact frz
 have hok:=hok0 hce
 have hb:(ce != 0)=false:=by simpa using hce
 rw[if_neg (show ¬ (ce≠0) from fun h=>h hce)]
 simp only[hb,evA,simprocAttr]
 refine DW_s [7] [] hmix (by kernel_rfl) rfl ?_
 simp only[evA,simprocAttr]
 refine YE ((c105 s.co (.rp [clsR s.cl,strR s.co,.nils] 0) (KM s) hco fun i hi σ=>(c106 s hs .nils i hi).call frz ⟨rfl,rfl⟩).call frz ⟨rfl,rfl⟩) rfl ?_
 generalize XZ (KM s) 0 s.co.length=fd
 obtain ⟨da,de⟩:=fd
 by_cases hde:de=0
 rotate_left
 ·have hb:(de != 0)=true:=by simpa using hde
  rw[if_pos hde,if_neg hde]
  simp only[hb,evA,simprocAttr]
  exact frz
 have hb2:(de != 0)=false:=by simpa using hde
 rw[if_neg (show ¬ (de≠0) from fun h=>h hde)]
 simp only[hb2,evA,simprocAttr]
 refine (c107 s hs hn12 hok 2 [AObj.cells [AV.cv (clsR s.cl),AV.cv (strR s.co)],AObj.cells [AV.ptr 2 0],AObj.cells [AV.cv (clsR s.cl),AV.cv (strR s.co),AV.cv CV.nils],AObj.cells [AV.i ↑s.cl.length]] rfl).mono ?_
 rintro r τ ⟨rfl,hlen,hfr,v,hv,hcv⟩
 have f0:=hfr 0 (by simp) (by omega)
 have f1:=hfr 1 (by simp) (by omega)
 match τ,hlen with
 | x0::x1::x2::x3::J,_ =>
 have g0:x0=.cells [AV.cv (clsR s.cl),AV.cv (strR s.co)]:=by simpa using f0
 have g1:x1=.cells [.ptr 2 0]:=by simpa using f1
 have g2:x2=.cells [.cv (clsR s.cl),.cv (strR s.co),v]:=by
  have:=WO hv
  simpa using this
 subst g0 g1 g2
 have hvr:FrzV anyC (List.replicate 3 .dead++(x3::J)) v (.cv (covR s)):=by
  rcases hcv with ⟨rfl,h0⟩ | ⟨q,a,hq1,rfl,hq2,hq3⟩
  ·rw[VB] at h1;omega
  ·have hsh:∀ l,5≤l→∀ cs,rowOf (AObj.cells [AV.cv (clsR s.cl),AV.cv (strR s.co)] :: .cells [.ptr 2 0] :: .cells [.cv (clsR s.cl),.cv (strR s.co),.sl q 0 s.cl.length 1]::x3::J) l=some cs→rowOf (List.replicate 3 AObj.dead++(x3::J)) l=some cs:=fun l hl cs h=>by
    obtain ⟨m,rfl⟩:∃ m,l=m+3:=⟨l-3,by omega⟩
    exact h
   refine .c (.sl q 0 s.cl.length 1 _ _ (hsh q hq1 _ hq2) (by simp) ?_)
   have hl2:((List.range s.cl.length).map fun k=>AV.sl (a k) 0 s.cl.length 1).length=s.cl.length:=by simp
   rw[YO,W3,Q5 (by omega)]
   unfold Qdw
   have key:∀ (ks:List Nat),(∀ k∈ks,k<s.cl.length)→HL anyC (List.replicate 3 AObj.dead++(x3::J)) (ks.map fun k=>AV.sl (a k) 0 s.cl.length 1) (ks.map fun k=>QaJ (cov s k)):=by
    intro ks
    induction ks with
    | nil=>intro _;exact .nil
    | cons k ks ih =>
     intro h
     obtain ⟨b1,b2,b3⟩:=hq3 k (h k (by simp))
     have hrk:=hsh (a k) b1 _ b3
     have hfb:=AZ (p:=anyC) (fun _=>trivial) (n:=s.cl.length) (by rw[M4]) hrk
     refine .cons ?_ (ih fun k' hk'=>h k' (by simp[hk']))
     cases hfb with
     | c h=>exact h
   exact key _ fun k hk=>ZI.1 hk
 simp only[evA,simprocAttr]
 refine IL.weak (Weak.turn (τ:=[.cells [.cv (clsR s.cl),.cv (strR s.co)],.cells [.ptr 2 0],.cells [.cv (clsR s.cl),.cv (strR s.co),v]]) (τ2:=[.cells [.cv (clsR s.cl),.cv (strR s.co)],.cells [.ptr 2 0],.cells [.cv (clsR s.cl),.cv (strR s.co),.cv (covR s)]]) (J:=x3::J) rfl rfl (vals2:=[sysV s,.ptr 0 0,.ptr 1 0,.i 0,.i da,.i de,.undef,.undef,.b false,.b false,.b false,.cv (clsR s.cl),.i s.cl.length,.i 0,.undef,.undef]) ?_ ?_) ?_
 ·repeat (first | exact .nil | refine .cons (.inl ⟨rfl,rfl⟩) ?_)
 ·intro l o2 hl
  match l with
  | 0=>cases hl;exact ⟨_,rfl,trivial,.inl ⟨rfl,rfl⟩⟩
  | 1=>cases hl;exact ⟨_,rfl,trivial,.inl ⟨rfl,rfl⟩⟩
  | 2=>cases hl;exact ⟨_,rfl,trivial,.inr ⟨_,_,rfl,rfl,.cons (.inl ⟨rfl,rfl⟩) (.cons (.inl ⟨rfl,rfl⟩) (.cons (.inr hvr) .nil))⟩⟩
  | l+3=>simp at hl
 have he2:∀ i,dnB s i=true→dnE s i≠0:=fun i h=>by unfold dnE;rw[if_pos h];decide
 have he3:∀ i,dnB s i=false→dnE s i=0:=fun i h=>by unfold dnE;rw[if_neg (by rw[h];decide)]
 refine ZW s.cl.length (fun i s'=>(∀ j,j<i→dnB s j=false)∧∃ v6 v7 v14 v15,s'=⟨[sysV s,.ptr 0 0,.ptr 1 0,.i 0,.i da,.i de,v6,v7,.b false,.b false,.b false,.cv (clsR s.cl),.i s.cl.length,.i i,v14,v15],[.cells [.cv (clsR s.cl),.cv (strR s.co)],.cells [.ptr 2 0],.cells [.cv (clsR s.cl),.cv (strR s.co),.cv (covR s)]]⟩) ?_ 0 (QF _) ⟨by omega,_,_,_,_,rfl⟩
 rintro i s' hi ⟨hall,v6,v7,v14,v15,rfl⟩
 by_cases hin:i<s.cl.length
 ·have hinc:=hs.inc i hin
  have h87:=c87i (s.cl[i]!).inc (.fn (.func 166) [.cv (.rp [.rp (sysR s) 0] 0),.cv (.rp [.int .i64 i] 0)]) (fun k=>covB s ((s.cl[i]!).inc[k]?.getD 0).toNat i) hinc fun k hk σ=>by
   have hzr:=hok i hin ((s.cl[i]!).inc[k]?.getD 0) (by rw[QI hk];exact Q2 hk)
   obtain ⟨z,hze⟩:∃ z:Nat,(s.cl[i]!).inc[k]?.getD 0=(z:Int):=⟨((s.cl[i]!).inc[k]?.getD 0).toNat,by omega⟩
   rw[hze,Int.toNat_natCast]
   exact (c108 s z i (by omega) hin).call frz ⟨rfl,rfl⟩
  simp only[ic145l0,QJ,hin,GR hin,Qaz hin,evA,simprocAttr]
  refine h87.call frz ?_
  cases hd:dnB s i with
  | true =>
   have hd':anyN (fun k=>covB s ((s.cl[i]!).inc[k]?.getD 0).toNat i) (s.cl[i]!).inc.length=true:=hd
   have hfe:=VF s.cl.length 0 i (QF _) (by omega) (fun j _ hj=>he3 j (hall j hj)) (he2 i hd)
   have hne:dnE s i=9:=by unfold dnE;rw[if_pos hd]
   rw[hne] at hfe
   rw[hd',hfe]
   simp only[evA,simprocAttr]
   refine DW_s [] [(0,1)] hmix (by kernel_rfl) rfl ?_
   simp only[evA,simprocAttr]
   exact frz
  | false =>
   have hd':anyN (fun k=>covB s ((s.cl[i]!).inc[k]?.getD 0).toNat i) (s.cl[i]!).inc.length=false:=hd
   rw[hd']
   simp only[Q6 (show i+1<2 ^ 63 by omega),evA,simprocAttr]
   refine W1 [.cells [.cv (clsR s.cl),.cv (strR s.co)],.cells [.ptr 2 0],.cells [.cv (clsR s.cl),.cv (strR s.co),.cv (covR s)]] _ rfl (by first | trivial | omega) (QF _) ?_ ⟨fun j hj=>?_,_,_,_,_,rfl⟩
   ·intro o ho
    simp only[ZD,WK,or_false] at ho
    rcases ho with rfl | rfl | rfl <;> rfl
   ·rcases QQ.1 hj with hj | rfl
    ·exact hall j hj
    ·exact hd
 ·have hin':i=s.cl.length:=by omega
  subst hin'
  have hfe:=JY (g:=dnE s) s.cl.length 0 fun j _ hj=>he3 j (hall j (by omega))
  rw[hfe]
  simp only[ic145l0,QJ,hin,evA,simprocAttr]
  exact frz
abbrev chkV (s:Sys):AV:=.tup [.i (sysE s).1,.i (sysE s).2.1,.i (sysE s).2.2]
theorem c53 (s:Sys) (hs:SSz s):PC Tryz.prog 131 [sysV s] (chkV s):=by
 refine ⟨ZF (fok131 true) (QC rfl) ?_,rfl⟩
 unfold chkV
 simp only[ic131,WI,cellsOf,evA,simprocAttr]
 refine (c75 s hs).call ?_
 unfold sysO
 have hP:∀ b:Prop,[Decidable b]→(if b then sysP s else AV.cv CV.nilp).isUndef=false:=fun b _=>by split <;> rfl
 generalize sysE s=e
 obtain ⟨e1,e2,e3⟩:=e
 simp only[hP,evA,simprocAttr]
 exact frz
theorem QaV {s:Sys} (h:(sysE s).2.2=0):(1≤s.cl.length∧s.cl.length≤12)∧s.co.length≤8∧OkI s:=by
 unfold sysE at h
 split at h;· cases h
 rename_i h1
 split at h;· exact absurd h (by assumption)
 rename_i h2
 have h1':(!inB (s.cl.length:Int) 1 12||decide ((s.co.length:Int)>8))=false:=by simpa using h1
 rw[X8] at h1'
 have h3:inB (s.cl.length:Int) 1 12=true:=by
  have:=h1'.1
  cases hh:inB (s.cl.length:Int) 1 12 with
  | true=>rfl
  | false=>rw[hh] at this;cases this
 rw[VB] at h3
 have h4:=of_decide_eq_false h1'.2
 have h2':(XZ (VR s) 0 s.cl.length).2=0:=Decidable.byContradiction fun hh=>h2 hh
 exact ⟨by omega,by omega,Qch h2'⟩
end Go.Proofs.YtgkidpolomhghaaGreatDoor.AM
namespace Go.Proofs.YtgkidpolomhghaaGreatDoor.Pl
def bit (a:Int) (k:Nat):Bool:=a.toNat.testBit k
def andI (a b:Int):Int:=((a.toNat &&& b.toNat:Nat):Int)
def subI (a b:Int):Int:=((BitVec.ofNat 64 a.toNat &&& ~~~BitVec.ofNat 64 b.toNat).toNat:Int)
theorem QbF (a b:Int) (k:Nat):bit (andI a b) k=(bit a k&&bit b k):=by simp[bit,andI,Nat.testBit_and]
theorem toNat_lt {a:Int} {m:Nat} (h:a<2 ^ m):a.toNat<2 ^ m:=by
 rcases Int.lt_or_le a 0 with h0 | h0
 ·have:a.toNat=0:=by omega
  rw[this];exact Nat.two_pow_pos m
 ·have e:((a.toNat:Nat):Int)=a:=VI h0
  have:((a.toNat:Nat):Int)<((2 ^ m:Nat):Int):=by rw[e];push_cast;exact h
  exact QJ.1 this
theorem TY {a:Int} {m k:Nat} (h:a<2 ^ m) (hk:m≤k):bit a k=false:=by
 unfold bit
 exact UQ (Z6 (toNat_lt h) (Nat.pow_le_pow_right (by omega) hk))
theorem M8 {a b:Int} (ha:a<2 ^ 63) (k:Nat):bit (subI a b) k=(bit a k && !bit b k):=by
 unfold subI bit
 have ha':=toNat_lt ha
 rw[Int.toNat_natCast,BitVec.testBit_toNat,BitVec.getLsbD_and,BitVec.getLsbD_not,BitVec.getLsbD_ofNat,BitVec.getLsbD_ofNat]
 by_cases hk:k<64
 ·simp[hk]
 ·have:a.toNat.testBit k=false:=UQ (Z6 ha' (Nat.pow_le_pow_right (by omega) (by omega)))
  simp[hk,this]
theorem QbE {a b:Int} (ha:0≤a) (hb:0≤b) (h:∀ k,bit a k=bit b k):a=b:=by
 have:a.toNat=b.toNat:=Nat.eq_of_testBit_eq h
 omega
theorem OO (k:Nat):bit 0 k=false:=by simp[bit]
theorem QbI (a b:Int):0≤andI a b:=VV _
theorem MF (a b:Int):0≤subI a b:=VV _
theorem Qae {a:Int} {m:Nat} (h0:0≤a) (h:∀ k,m≤k→bit a k=false):a<2 ^ m:=by
 have:a.toNat<2 ^ m:=Nat.lt_pow_two_of_testBit _ fun k hk=>h k hk
 have e:((a.toNat:Nat):Int)=a:=VI h0
 have h2:((a.toNat:Nat):Int)<((2 ^ m:Nat):Int):=QJ.2 this
 rw[e] at h2;push_cast at h2;exact h2
theorem andI_lt {a b:Int} {m:Nat} (h:a<2 ^ m):andI a b<2 ^ m:=Qae (QbI _ _) fun k hk=>by rw[QbF,TY h hk];rfl
theorem QdS {a b:Int} {m:Nat} (h63:a<2 ^ 63) (h:a<2 ^ m):subI a b<2 ^ m:=Qae (MF _ _) fun k hk=>by rw[M8 h63,TY h hk];rfl
theorem NO {a b:Int}:andI a b=0↔∀ k,¬ (bit a k=true∧bit b k=true):=by
 constructor
 ·intro h k ⟨h1,h2⟩
  have:=QbF a b k
  rw[h,h1,h2,OO] at this
  cases this
 ·intro h
  refine QbE (QbI _ _) (Int.le_refl _) fun k=>?_
  rw[QbF,OO]
  have:=h k
  cases h1:bit a k <;> cases h2:bit b k <;> simp_all
theorem bit_div (a:Int) (h:0≤a) (k:Nat):((a.tdiv (2 ^ k)).tmod 2 == 1)=bit a k:=by
 obtain ⟨n,rfl⟩:∃ n:Nat,a=n:=⟨a.toNat,by omega⟩
 have e:((2:Int) ^ k)=((2 ^ k:Nat):Int):=by push_cast;rfl
 rw[e,← Int.ofNat_tdiv,show (2:Int)=((2:Nat):Int) from rfl,← Int.ofNat_tmod]
 unfold bit
 rw[Int.toNat_natCast,Nat.testBit_eq_decide_div_mod_eq,Q8]
 simp only[beq_iff_eq,decide_eq_true_eq]
 omega
end Go.Proofs.YtgkidpolomhghaaGreatDoor.Pl
namespace Go.Proofs.YtgkidpolomhghaaGreatDoor.AM
variable [Dr]
open Go Pl
abbrev setN (s:Sys):Int:=2 ^ s.co.length
theorem HF {m:Nat} (h:m≤8):1≤(2:Int) ^ m∧(2:Int) ^ m≤256:=by
 match m,h with
 | 0,_ | 1,_ | 2,_ | 3,_ | 4,_ | 5,_ | 6,_ | 7,_ | 8,_=>decide
theorem c64 (s:Sys) (cov:CV) (hm:s.co.length≤8):PC Tryz.prog 157 [.cv (.rp [clsR s.cl,strR s.co,cov] 0)] (.i (setN s)):=by
 refine ⟨ZF (fok157 true) (QC rfl) ?_,rfl⟩
 have hb:=HF hm
 have hsh:VK .shl .i64 1 s.co.length=some (.cv (.int .i64 (setN s))):=by
  unfold VK
  rw[if_neg (by omega),Int.toNat_natCast,show min s.co.length IntKind.i64.bits=s.co.length by simp[IntKind.bits];omega,Int.one_mul,ZC (by omega)]
 simp only[ic157,hsh,evA,simprocAttr]
 exact frz
theorem c49 (m:Nat) (hm:m≤8):PC Tryz.prog 83 [.i m] (.i (2 ^ m)):=by
 refine ⟨ZF (fok83 true) (QC rfl) ?_,rfl⟩
 simp only[ic83,evA,simprocAttr]
 refine ZW m (fun i s'=>∃ v4,s'=⟨[.i m,.i 0,.i (2 ^ i),.i i,v4],[]⟩) ?_ 0 (QF _) ⟨_,rfl⟩
 rintro i s' hi ⟨v4,rfl⟩
 by_cases h:i<m
 ·have hb:=HF (show i≤8 by omega)
  have hw:IntKind.i64.wrap (2*2 ^ i)=2 ^ (i+1):=by rw[ZC (by omega),Int.pow_succ,Int.mul_comm]
  simp only[ic83l0,QJ,h,hw,Q6 (show i+1<2 ^ 63 by omega),evA,simprocAttr]
  exact ZL (by first | trivial | omega) ⟨_,rfl⟩
 ·have:i=m:=by omega
  subst this
  simp only[ic83l0,QJ,h,evA,simprocAttr]
  exact frz
theorem c52 (a:Int) (h0:0≤a∧a<9223372036854775808) (k:Nat) (hk:k≤8):PC Tryz.prog 43 [.i a,.i k] (.b (bit a k)):=by
 refine ⟨ZF (fok43 true) (QC rfl) ?_,rfl⟩
 have hb:=HF hk
 have hq:IntKind.i64.wrap (a.tdiv (2 ^ k))=a.tdiv (2 ^ k):=by
  rw[Int.tdiv_eq_ediv_of_nonneg h0.1]
  have h1:0≤a / 2 ^ k:=Int.ediv_nonneg h0.1 (by omega)
  have h2:a / 2 ^ k≤a:=Int.ediv_le_self _ h0.1
  exact ZC (by omega)
 have hd:=bit_div a h0.1 k
 have hne:¬ ((2:Int) ^ k=0):=by omega
 simp only[ic43,evA,simprocAttr]
 refine (c49 k hk).call frz ?_
 generalize (2:Int) ^ k=p at *
 have hx:binI .quo .i64 a p=some (.cv (.int .i64 (a.tdiv p))):=by
  unfold binI;rw[if_neg hne,hq]
 simp only[hne,hq,hd,evA,simprocAttr]
 exact frz
def HU (s:Sys) (r:Rt):Int:=if inB r.1 0 ((s.cl.length:Int)-1)=false then 4 else if inB r.2 0 (setN s-1)=false then 7 else 0
def rgsE (s:Sys) (l:List Rt):Int:=if (l.length:Int)>40 then 3 else (XZ (fun i=>HU s l[i]!) 0 l.length).2
theorem S3 {l:List Rt} {k:Nat} (h:k<l.length) (σ:List AObj):YF 2 [.cv (.rp (l.flatMap rgC) (k*2))] σ=some (rgV l[k]!,σ):=by
 have h1:k*2+2≤(l.flatMap rgC).length:=by rw[UG IR];omega
 have h2:=G3 IR h
 simp only[YF,h1,if_true]
 rw[h2];rfl
theorem rg_0 {l:List Rt} {k:Nat} (h:k<l.length):(l.flatMap rgC)[k*2]? = some (.int .i64 (l[k]!).1):=flat_get IR h (j:=0) (by omega)
theorem rg_1 {l:List Rt} {k:Nat} (h:k<l.length):(l.flatMap rgC)[k*2+1]? = some (.int .i64 (l[k]!).2):=flat_get IR h (j:=1) (by omega)
theorem L6 {l:List Rt} {k:Nat} (h:k<l.length) (σ:List AObj):VP 2 [rgL l,.cv (.int .i64 k)] σ=some (.cv (.rp (l.flatMap rgC) (k*2)),σ):=XP h σ
theorem c113 (s:Sys) (hs:SSz s) (cov:CV) (hm:s.co.length≤8) (i:Int) (r:Rt):PC Tryz.prog 168 [.i i,rgV r,.cv (.rp [.rp [clsR s.cl,strR s.co,cov] 0] 0)] (.i (HU s r)):=by
 refine ⟨ZF (fok168 true) (QC rfl) ?_,rfl⟩
 have hcl:=hs.cl
 have hb:=HF hm
 have hw:IntKind.i64.wrap ((s.cl.length:Int)-1)=(s.cl.length:Int)-1:=ZC (by omega)
 have hw2:IntKind.i64.wrap (setN s-1)=setN s-1:=ZC (by unfold setN;omega)
 have h1:=c56 0 ((s.cl.length:Int)-1) [r.1] (by simp)
 have h2:=c56 0 (setN s-1) [r.2] (by simp)
 rw[FW] at h1 h2
 unfold HU
 simp only[ic168,WI,cellsOf,evA,simprocAttr]
 refine DW_s [10] [(0,9),(4,9)] hmix (by kernel_rfl) rfl ?_
 simp only[hw,evA,simprocAttr]
 refine YE (h1.call frz ⟨rfl,rfl⟩) rfl ?_
 cases g1:inB r.1 0 ((s.cl.length:Int)-1) with
 | false =>
  rw[if_pos rfl]
  simp only[ZY,evA,simprocAttr]
  exact frz
 | true =>
 rw[if_neg (by decide)]
 simp only[Y2,evA,simprocAttr]
 refine DW_s [1,6] [(0,5),(1,5)] hmix (by kernel_rfl) rfl ?_
 simp only[evA,simprocAttr]
 refine YE ((c64 s cov hm).call frz ⟨rfl,rfl⟩) rfl ?_
 simp only[hw2,evA,simprocAttr]
 refine YE (h2.call frz ⟨rfl,rfl⟩) rfl ?_
 cases g2:inB r.2 0 (setN s-1) with
 | false =>
  rw[if_pos rfl]
  simp only[ZY,evA,simprocAttr]
  exact frz
 | true =>
  rw[if_neg (by decide)]
  simp only[Y2,evA,simprocAttr]
  exact frz
theorem c112 (l:List Rt) (p:CV) (g:Nat→Int) (hz:l.length<2 ^ 63) (hf:∀ i,i<l.length→∀ σ,AC Tryz.prog 168 [.i i,rgV l[i]!,.cv p] σ fun r τ=>r=.i (g i)∧τ=σ) :
  PC Tryz.prog 167 [rgL l,.fn (.func 168) [.cv p]] (.tup [.i (XZ g 0 l.length).1,.i (XZ g 0 l.length).2]):=by
 refine ⟨ZF (fok167 true) (QC rfl) ?_,rfl⟩
 simp only[ic167,evA,simprocAttr]
 refine ZW l.length (fun i s=>(∀ j,j<i→g j=0)∧∃ v2 v3 v4 v5 v9 v10,s=⟨[rgL l,.fn (.func 168) [.cv p],v2,v3,v4,v5,rgL l,.i l.length,.i i,v9,v10],[]⟩) ?_ 0 (QF _) ⟨by omega,_,_,_,_,_,_,rfl⟩
 rintro i s hi ⟨hall,v2,v3,v4,v5,v9,v10,rfl⟩
 by_cases h:i<l.length
 ·simp only[ic167l0,QJ,h,L6 h,S3 h,evA,simprocAttr]
  refine (hf i h _).run ?_
  by_cases hg:g i=0
  ·have hb:(g i != 0)=false:=by simpa using hg
   simp only[hb,Q6 (show i+1<2 ^ 63 by omega),evA,simprocAttr]
   refine W1 [] _ rfl (by first | trivial | omega) (QF _) (by simp) ⟨fun j hj=>?_,_,_,_,_,_,_,rfl⟩
   rcases QQ.1 hj with hj | rfl
   ·exact hall j hj
   ·exact hg
  ·have hb:(g i != 0)=true:=by simpa using hg
   rw[VF l.length 0 i (QF _) (by omega) (fun j _ hj=>hall j hj) hg]
   simp only[hb,evA,simprocAttr]
   exact frz
 ·have:i=l.length:=by omega
  subst this
  rw[JY l.length 0 fun j _ hj=>hall j (by omega)]
  simp only[ic167l0,QJ,h,evA,simprocAttr]
  exact frz
theorem c90 (s:Sys) (hs:SSz s) (cov:CV) (hm:s.co.length≤8) (l:List Rt) (hl:l.length<2 ^ 63):PC Tryz.prog 146 [.cv (.rp [clsR s.cl,strR s.co,cov] 0),rgL l] (.i (rgsE s l)):=by
 refine ⟨ZF (fok146 true) (QC rfl) ?_,rfl⟩
 unfold rgsE
 by_cases h:(l.length:Int)>40
 ·rw[if_pos h]
  simp only[ic146,WI,cellsOf,h,evA,simprocAttr]
  exact frz
 ·rw[if_neg h]
  simp only[ic146,WI,cellsOf,h,evA,simprocAttr]
  refine (c112 l (.rp [.rp [clsR s.cl,strR s.co,cov] 0] 0) (fun i=>HU s l[i]!) hl fun i hi σ=>(c113 s hs cov hm i l[i]!).call frz ⟨rfl,rfl⟩).call frz ?_
  simp only[evA,simprocAttr]
  exact frz
def rdE (s:Sys) (e:Int) (ls:List (List Rt)):Int:=ls.foldl (fun e l=>if e=0 then rgsE s l else e) e
theorem Qa4 (s:Sys):∀ (ls:List (List Rt)) (e:Int),e≠0→rdE s e ls=e
 | [],_,_=>rfl
 | l::ls,e,h=>by
  show rdE s (if e=0 then rgsE s l else e) ls=e
  rw[if_neg h];exact Qa4 s ls e h
abbrev sysQ (s:Sys):AV:=if (sysE s).2.2=0 then sysP s else .cv .nilp
theorem c63 (s:Sys) (hs:SSz s) (ls:List (List Rt)) (hls:∀ l∈ls,l.length<2 ^ 63) (hn:ls.length<2 ^ 60) (σ:List AObj) (l0:Nat) (h0:rowOf σ l0=some (ls.map fun l=>rgL l)) :
  AC Tryz.prog 110 [sysV s,.sl l0 0 ls.length 1] σ fun r τ=>r=.tup [sysQ s,.i (rdE s (sysE s).2.2 ls)]∧τ=σ:=by
 have hcl:QR 0 (.tup [sysQ s,.i (rdE s (sysE s).2.2 ls)])=true:=by unfold sysQ;split <;> rfl
 refine AC.cutF ?_ hcl
 refine ZF (fok110 true) (QC rfl) ?_
 have h75:=c75 s hs
 have hn0:=QaV (s:=s)
 have hq:sysQ s=.cv .nilp∨((sysE s).2.2=0∧sysQ s=sysP s):=by
  unfold sysQ;by_cases h:(sysE s).2.2=0
  ·right;exact ⟨h,if_pos h⟩
  ·left;exact if_neg h
 have hqn:(sysE s).2.2=0→sysQ s=sysP s:=fun h=>if_pos h
 have hQ:(sysQ s).isUndef=false:=by rcases hq with h | ⟨_,h⟩ <;> rw[h] <;> rfl
 have ho:sysO s=.tup [sysQ s,.i (sysE s).1,.i (sysE s).2.1,.i (sysE s).2.2]:=rfl
 rw[ho] at h75
 generalize sysQ s=Q at *
 generalize sysE s=e at *
 obtain ⟨e1,e2,e3⟩:=e
 have g0:=fun J=>ZH h0 J
 have hld:∀ k,k<ls.length→(ls.map fun l=>rgL l)[k]? = some (rgL ls[k]!):=fun k hk=>by
  rw[ZR,QI hk,getElem!_pos ls k hk];rfl
 simp only[ic110,WI,cellsOf,WW,evA,simprocAttr]
 refine h75.call ?_
 simp only[hQ,evA,simprocAttr]
 refine ZW ls.length (fun i s'=>∃ v7 v11 v12,s'=⟨[sysV s,.sl l0 0 ls.length 1,.ptr σ.length 0,.cv .nilp,.i 0,Q,.i (rdE s e3 (ls.take i)),v7,.sl l0 0 ls.length 1,.i ls.length,.i i,v11,v12],σ++[.cells [.cv (clsR s.cl),.cv (strR s.co)]]⟩) ?_ 0 (QF _) ⟨_,_,_,rfl⟩
 rintro i s' hi ⟨v7,v11,v12,rfl⟩
 by_cases hin:i<ls.length
 ·have hsl:∀ σ',VP 1 [.sl l0 0 ls.length 1,.cv (.int .i64 i)] σ'=some (.ptr l0 (0+i),σ'):=W9 hin
  have hst:rdE s e3 (ls.take (i+1))=if rdE s e3 (ls.take i)=0 then rgsE s ls[i]! else rdE s e3 (ls.take i):=by
   rw[JC,QI hin,getElem!_pos ls i hin]
   unfold rdE
   rw[List.foldl_append];rfl
  have hE0:rdE s e3 (ls.take i)=0→e3=0:=fun h=>Decidable.byContradiction fun hne=>by rw[Qa4 s _ _ hne] at h;exact hne h
  generalize rdE s e3 (ls.take i)=E at hst hE0
  simp only[ic110l0,QJ,hin,hsl,ZV,g0,hld i hin,evA,simprocAttr]
  by_cases hE:E=0
  ·have hb:(E == 0)=true:=by simpa using hE
   have he3:=hE0 hE
   have hQP:=hqn he3
   subst hQP
   obtain ⟨_,hm,_⟩:=hn0 he3
   rw[if_pos hE] at hst
   simp only[hb,evA,simprocAttr]
   refine (c90 s hs (covR s) hm ls[i]! (hls _ (by rw[getElem!_pos ls i hin];exact Q2 hin))).call frz ?_
   simp only[Q6 (show i+1<2 ^ 63 by omega),evA,simprocAttr]
   exact ZL (by first | trivial | omega) ⟨_,_,_,by rw[hst]⟩
  ·have hb:(E == 0)=false:=by simpa using hE
   rw[if_neg hE] at hst
   simp only[hb,Q6 (show i+1<2 ^ 63 by omega),evA,simprocAttr]
   exact ZL (by first | trivial | omega) ⟨_,_,_,by rw[hst]⟩
 ·have hin':i=ls.length:=by omega
  subst hin'
  simp only[ic110l0,QJ,hin,hQ,X7,evA,simprocAttr]
  exact ⟨_,rfl⟩
theorem and_wrap {a b:Int} (ha:0≤a∧a<256) (hb:0≤b∧b<9223372036854775808):IntKind.i64.wrap (BitVec.ofInt IntKind.i64.bits a &&& BitVec.ofInt IntKind.i64.bits b).toNat=andI a b:=by
 have e1:(BitVec.ofInt 64 a).toNat=a.toNat:=by rw[BitVec.toNat_ofInt];omega
 have e2:(BitVec.ofInt 64 b).toNat=b.toNat:=by rw[BitVec.toNat_ofInt];omega
 have e3:(BitVec.ofInt IntKind.i64.bits a &&& BitVec.ofInt IntKind.i64.bits b).toNat=a.toNat &&& b.toNat:=by
  show (BitVec.ofInt 64 a &&& BitVec.ofInt 64 b).toNat=_
  rw[BitVec.toNat_and,e1,e2]
 have h1:=andI_lt (a:=a) (b:=b) (m:=8) (by omega)
 have h0:=QbI a b
 rw[e3]
 have:((a.toNat &&& b.toNat:Nat):Int)=andI a b:=rfl
 rw[this,ZC (by omega)]
theorem sub_wrap {a b:Int} (ha:0≤a∧a<256) (hb:0≤b∧b<9223372036854775808):IntKind.i64.wrap (BitVec.ofInt IntKind.i64.bits a &&& ~~~BitVec.ofInt IntKind.i64.bits b).toNat=subI a b:=by
 have e1:BitVec.ofInt 64 a=BitVec.ofNat 64 a.toNat:=by apply BitVec.eq_of_toNat_eq;rw[BitVec.toNat_ofInt,BitVec.toNat_ofNat];omega
 have e2:BitVec.ofInt 64 b=BitVec.ofNat 64 b.toNat:=by apply BitVec.eq_of_toNat_eq;rw[BitVec.toNat_ofInt,BitVec.toNat_ofNat];omega
 have e3:((BitVec.ofInt IntKind.i64.bits a &&& ~~~BitVec.ofInt IntKind.i64.bits b).toNat:Int)=subI a b:=by
  show ((BitVec.ofInt 64 a &&& ~~~BitVec.ofInt 64 b).toNat:Int)=_
  rw[e1,e2];rfl
 have h1:=QdS (a:=a) (b:=b) (m:=8) (by omega) (by omega)
 have h0:=MF a b
 rw[e3,ZC (by omega)]
def RgOk (s:Sys) (r:Rt):Prop:=(0≤r.1∧r.1<s.cl.length)∧0≤r.2∧r.2<setN s
theorem S4 {s:Sys} {r:Rt}:HU s r=0↔RgOk s r:=by
 unfold HU RgOk
 cases g1:inB r.1 0 ((s.cl.length:Int)-1) with
 | false =>
  rw[if_pos rfl]
  constructor
  ·intro h;cases h
  ·rintro ⟨h,_⟩
   have:inB r.1 0 ((s.cl.length:Int)-1)=true:=VB.2 (by omega)
   rw[g1] at this;cases this
 | true =>
  rw[if_neg (by decide)]
  rw[VB] at g1
  cases g2:inB r.2 0 (setN s-1) with
  | false =>
   rw[if_pos rfl]
   constructor
   ·intro h;cases h
   ·rintro ⟨_,h⟩
    have:inB r.2 0 (setN s-1)=true:=VB.2 (by omega)
    rw[g2] at this;cases this
  | true =>
   rw[if_neg (by decide)]
   rw[VB] at g2
   exact ⟨fun _=>⟨by omega,by omega⟩,fun _=>rfl⟩
theorem ML {s:Sys} {l:List Rt} (h:rgsE s l=0):l.length≤40∧∀ r∈l,RgOk s r:=by
 unfold rgsE at h
 split at h
 ·cases h
 ·rename_i h1
  refine ⟨by omega,fun r hr=>?_⟩
  obtain ⟨i,hi,rfl⟩:=WN.1 hr
  have:=NF _ _ h i (QF _) (by omega)
  rw[getElem!_pos l i hi] at this
  exact S4.1 this
def alw1 (s:Sys) (c f:Int) (r:Rt):Bool:=covB s r.1.toNat c.toNat&&(andI r.2 f == 0)
def alwB (s:Sys) (l:List Rt) (c f:Int):Bool:=l.any (alw1 s c f)
theorem QcK (s:Sys) (l:List Rt) (c f:Int):alwB s l c f=anyN (fun i=>alw1 s c f l[i]!) l.length:=by
 rw[Q8,U8,alwB,ZZ]
 constructor
 ·rintro ⟨r,hr,h⟩
  obtain ⟨i,hi,rfl⟩:=WN.1 hr
  exact ⟨i,hi,by rw[getElem!_pos l i hi];exact h⟩
 ·rintro ⟨i,hi,h⟩
  rw[getElem!_pos l i hi] at h
  exact ⟨_,Q2 hi,h⟩
theorem c93 (l:List Rt) (fv:AV) (p:Nat→Bool) (hz:l.length<2 ^ 63) (hf:∀ i,i<l.length→∀ σ,X0 Tryz.prog fv [rgV l[i]!] σ fun r τ=>r=.b (p i)∧τ=σ) (σ:List AObj) :
  AC Tryz.prog 193 [rgL l,fv] σ fun r τ=>r=.i (idxN p l.length)∧τ=σ:=by
 refine ZF (fok193 true) (QC rfl) ?_
 simp only[ic193,evA,simprocAttr]
 refine ZW l.length (fun i s=>(∀ j,j<i→p j=false)∧∃ v3 v6 v7,s=⟨[rgL l,fv,.i 0,v3,.i l.length,.i i,v6,v7],σ⟩) ?_ 0 (QF _) ⟨by omega,_,_,_,rfl⟩
 rintro i s hi ⟨hall,v3,v6,v7,rfl⟩
 by_cases h:i<l.length
 ·simp only[ic193l0,QJ,h,L6 h,S3 h,evA,simprocAttr]
  refine (hf i h _).run ?_
  cases hp:p i
  ·simp only[Q6 (show i+1<2 ^ 63 by omega),evA,simprocAttr]
   refine ZL (by first | trivial | omega) ⟨fun j hj=>?_,_,_,_,rfl⟩
   rcases QQ.1 hj with hj | rfl
   ·exact hall j hj
   ·exact hp
  ·simp only[evA,simprocAttr]
   exact (EK h hall hp).symm
 ·simp only[ic193l0,QJ,h,evA,simprocAttr]
  have:i=l.length:=by omega
  subst this
  exact (EL hall).symm
theorem c70 (l:List Rt) (fv:AV) (p:Nat→Bool) (hz:l.length<2 ^ 63) (hf:∀ i,i<l.length→∀ σ,X0 Tryz.prog fv [rgV l[i]!] σ fun r τ=>r=.b (p i)∧τ=σ):PC Tryz.prog 175 [rgL l,fv] (.b (anyN p l.length)):=by
 refine ⟨ZF (fok175 true) (QC rfl) ?_,rfl⟩
 simp only[ic175,evA,simprocAttr]
 refine (c93 l fv p hz hf _).run ?_
 simp only[evA,simprocAttr,OA]
 exact frz
theorem c91 (s:Sys) (r:Rt) (hm:s.co.length≤8) (hr:RgOk s r) (c:Nat) (hc:c<s.cl.length) (f:Int) (hf:0≤f∧f<9223372036854775808):PC Tryz.prog 176 [rgV r,.cv (.rp [.rp (sysR s) 0] 0),.cv (.rp [.int .i64 c] 0),.cv (.rp [.int .i64 f] 0)] (.b (alw1 s c f r)):=by
 refine ⟨ZF (fok176 true) (QC rfl) ?_,rfl⟩
 have hb:=HF hm
 obtain ⟨⟨h1,h2⟩,h3,h4⟩:=hr
 have h4':r.2<256:=by unfold setN at h4;omega
 obtain ⟨z,hz⟩:∃ z:Nat,r.1=(z:Int):=⟨r.1.toNat,by omega⟩
 have hzl:z<s.cl.length:=by omega
 unfold alw1
 rw[hz,Int.toNat_natCast,Int.toNat_natCast]
 simp only[ic176,WI,cellsOf,hz,evA,simprocAttr]
 refine DW_s [] [] hmix (by kernel_rfl) rfl ?_
 have haw:=and_wrap (a:=r.2) (b:=f) ⟨h3,h4'⟩ hf
 simp only[XP hzl,W3,FD hzl,P1 hc,DN hc,evA,simprocAttr]
 cases h5:covB s z c with
 | false =>
  simp only[evA,simprocAttr]
  exact frz
 | true =>
  simp only[haw,evA,simprocAttr]
  exact frz
theorem c65 (s:Sys) (l:List Rt) (hm:s.co.length≤8) (hl:l.length<2 ^ 63) (hr:∀ r∈l,RgOk s r) (c:Int) (hc:0≤c∧c<s.cl.length) (f:Int) (hf:0≤f∧f<9223372036854775808):PC Tryz.prog 158 [sysP s,rgL l,.i c,.i f] (.b (alwB s l c f)):=by
 refine ⟨ZF (fok158 true) (QC rfl) ?_,rfl⟩
 obtain ⟨k,rfl⟩:∃ k:Nat,c=(k:Int):=⟨c.toNat,by omega⟩
 rw[QcK]
 simp only[ic158,WI,cellsOf,evA,simprocAttr]
 refine (c70 l (.fn (.func 176) [.cv (.rp [.rp (sysR s) 0] 0),.cv (.rp [.int .i64 k] 0),.cv (.rp [.int .i64 f] 0)]) (fun i=>alw1 s k f l[i]!) hl fun i hi σ=>(c91 s l[i]! hm (hr _ (by rw[getElem!_pos l i hi];exact Q2 hi)) k (by omega) f hf).call frz ⟨rfl,rfl⟩).call frz ?_
 exact frz
theorem free_any {a f:Int} {m:Nat} (ha:a<2 ^ m):(andI a f == 0) = !anyN (fun k=>bit a k&&bit f k) m:=by
 rw[Q8]
 rw[beq_iff_eq,NO,Z0,F8]
 constructor
 ·intro h k hk
  have:=h k
  cases h1:bit a k <;> cases h2:bit f k <;> simp_all
 ·rintro h k ⟨h1,h2⟩
  rcases ZB k m with hk | hk
  ·have:=h k hk;rw[h1,h2] at this;cases this
  ·rw[TY ha hk] at h1;cases h1
theorem c50 (s:Sys) (hs:SSz s) (hn12:s.cl.length≤12) (hok:OkI s) (l:List Rt) (hm:s.co.length≤8) (hl:l.length<2 ^ 63) (hr:∀ r∈l,RgOk s r) (c:Int) (hc:0≤c∧c<s.cl.length) (f:Int) (hf:0≤f∧f<9223372036854775808):PC Tryz.prog 53 [sysV s,rgL l,.i c,.i f] (.b (alwB s l c f)):=by
 refine ⟨ZF (fok53 true) (QC rfl) ?_,rfl⟩
 obtain ⟨q,rfl⟩:∃ q:Nat,c=(q:Int):=⟨c.toNat,by omega⟩
 have hq:q<s.cl.length:=by omega
 have hbp:=HF hm
 rw[QcK]
 simp only[ic53,WI,cellsOf,evA,simprocAttr]
 refine ZW l.length (fun i s'=>(∀ j,j<i→alw1 s q f l[j]! = false)∧∃ v7 v8 v9 v10 v11,s'=⟨[sysV s,rgL l,.i q,.i f,.ptr 0 0,.b false,.i i,v7,v8,v9,v10,v11],[.cells [.cv (clsR s.cl),.cv (strR s.co)]]⟩) ?_ 0 (QF _) ⟨by omega,_,_,_,_,_,rfl⟩
 rintro i s' hi ⟨hall,v7,v8,v9,v10,v11,rfl⟩
 by_cases hin:i<l.length
 ·have hri:=hr l[i]! (by rw[getElem!_pos l i hin];exact Q2 hin)
  obtain ⟨⟨r1,r2⟩,r3,r4⟩:=hri
  have r4':(l[i]!).2<256:=by unfold setN at r4;omega
  have hfr:=free_any (f:=f) r4
  obtain ⟨z,hz⟩:∃ z:Nat,(l[i]!).1=(z:Int):=⟨(l[i]!).1.toNat,by omega⟩
  have ha1:alw1 s q f l[i]! = (covB s z q && !anyN (fun k=>bit (l[i]!).2 k&&bit f k) s.co.length):=by unfold alw1;rw[hfr,hz,Int.toNat_natCast,Int.toNat_natCast]
  simp only[ic53l1,QJ,hin,evA,simprocAttr]
  refine ZW s.co.length (fun k s'=>∃ v10,s'=⟨[sysV s,rgL l,.i q,.i f,.ptr 0 0,.b false,.i i,.b (!anyN (fun k=>bit (l[i]!).2 k&&bit f k) k),.i k,.b true,v10,v11],[.cells [.cv (clsR s.cl),.cv (strR s.co)]]⟩) ?_ 0 (QF _) ⟨_,rfl⟩
  rintro k s' hk ⟨v10,rfl⟩
  by_cases hkm:k<s.co.length
  ·have hst:=QfC (fun k=>bit (l[i]!).2 k&&bit f k) k
   cases hA:anyN (fun k=>bit (l[i]!).2 k&&bit f k) k with
   | true =>
    rw[hA,US] at hst
    simp only[ic53l0,QJ,hkm,Q6 (show k+1<2 ^ 63 by omega),Y2,evA,simprocAttr]
    exact ZL (by first | trivial | omega) ⟨_,by rw[hst];rfl⟩
   | false =>
    rw[hA,Y3] at hst
    simp only[ic53l0,QJ,hkm,L6 hin,rg_1 hin,ZY,evA,simprocAttr]
    refine (c52 (l[i]!).2 ⟨r3,by omega⟩ k (by omega)).call frz ?_
    cases hb1:bit (l[i]!).2 k with
    | false =>
     rw[hb1,Bool.false_and] at hst
     simp only[Q6 (show k+1<2 ^ 63 by omega),ZY,evA,simprocAttr]
     exact ZL (by first | trivial | omega) ⟨_,by rw[hst];rfl⟩
    | true =>
     rw[hb1,XI] at hst
     simp only[evA,simprocAttr]
     refine (c52 f hf k (by omega)).call frz ?_
     simp only[Q6 (show k+1<2 ^ 63 by omega),evA,simprocAttr]
     exact ZL (by first | trivial | omega) ⟨_,by rw[hst]⟩
  ·have hkm':k=s.co.length:=by omega
   subst hkm'
   have e40:(2:Nat) ^ 40=1099511627776:=by decide
   cases hA:anyN (fun k=>bit (l[i]!).2 k&&bit f k) s.co.length with
   | true =>
    rw[hA] at ha1
    simp only[ic53l0,QJ,hkm,Y2,evA,simprocAttr]
    refine DW_s [8] [] hmix (by kernel_rfl) rfl ?_
    simp only[Q6 (show i+1<2 ^ 63 by omega),evA,simprocAttr]
    refine ZL (by first | trivial | omega) ⟨fun j hj=>?_,_,_,_,_,_,rfl⟩
    rcases QQ.1 hj with hj | rfl
    ·exact hall j hj
    ·rw[ha1];simp
   | false =>
    rw[hA] at ha1
    simp only[ic53l0,QJ,hkm,ZY,evA,simprocAttr]
    refine DW_s [8] [] hmix (by kernel_rfl) rfl ?_
    simp only[L6 hin,rg_0 hin,hz,evA,simprocAttr]
    refine YE ((c51 s hs (by omega) hok z (by omega)).call frz ⟨rfl,rfl⟩) rfl ?_
    simp only[P1 hq,W3,DN hq,evA,simprocAttr]
    cases hcv:covB s z q with
    | true =>
     rw[hcv] at ha1
     have:anyN (fun i=>alw1 s q f l[i]!) l.length=true:=U8.2 ⟨i,hin,by rw[ha1];rfl⟩
     rw[this]
     simp only[evA,simprocAttr]
     exact frz
    | false =>
     rw[hcv] at ha1
     simp only[Q6 (show i+1<2 ^ 63 by omega),evA,simprocAttr]
     refine ZL (by first | trivial | omega) ⟨fun j hj=>?_,_,_,_,_,_,rfl⟩
     rcases QQ.1 hj with hj | rfl
     ·exact hall j hj
     ·rw[ha1];rfl
 ·have hin':i=l.length:=by omega
  subst hin'
  rw[F8.2 hall]
  simp only[ic53l1,QJ,hin,evA,simprocAttr]
  exact frz
def mayV (s:Sys) (l:List Rt) (c f:Int):AV :=
 if rdE s (sysE s).2.2 [l]≠0 then .tup [.b false,.i (rdE s (sysE s).2.2 [l])]
 else if inB c 0 ((s.cl.length:Int)-1)=false then .tup [.b false,.i 4]
 else if inB f 0 (setN s-1)=false then .tup [.b false,.i 7]
 else .tup [.b (alwB s l c f),.i 0]
theorem Qcd {s:Sys} {l:List Rt} (h:rdE s (sysE s).2.2 [l]=0):(sysE s).2.2=0∧rgsE s l=0:=by
 have hrd:rdE s (sysE s).2.2 [l]=if (sysE s).2.2=0 then rgsE s l else (sysE s).2.2:=rfl
 rw[hrd] at h
 by_cases h2:(sysE s).2.2=0
 ·rw[if_pos h2] at h;exact ⟨h2,h⟩
 ·rw[if_neg h2] at h;exact absurd h h2
theorem c29 (s:Sys) (hs:SSz s) (l:List Rt) (hl:l.length<2 ^ 63) (c f:Int):PC Tryz.prog 136 [sysV s,rgL l,.i c,.i f] (mayV s l c f):=by
 refine ⟨ZF (fok136 true) (QC rfl) ?_,by unfold mayV;repeat (split <;> try rfl)⟩
 have hcl:=hs.cl
 have h63:=fun σ l0 h0=>c63 s hs [l] (by simpa using hl) (by simp) σ l0 h0
 have hdec:=Qcd (s:=s) (l:=l)
 have hn0:=QaV (s:=s)
 have hQ:(sysQ s).isUndef=false:=by unfold sysQ;split <;> rfl
 have hQP:(sysE s).2.2=0→sysQ s=sysP s:=fun h=>if_pos h
 unfold mayV
 generalize rdE s (sysE s).2.2 [l]=e at *
 have hw:IntKind.i64.wrap ((s.cl.length:Int)-1)=(s.cl.length:Int)-1:=ZC (by omega)
 by_cases he:e=0
 rotate_left
 ·have hb:(e != 0)=true:=by simpa using he
  rw[if_pos he]
  simp only[ic136,WI,cellsOf,evA,simprocAttr]
  refine (h63 _ 1 rfl).run ?_
  generalize sysQ s=Q at *
  simp only[hQ,hb,evA,simprocAttr]
  exact frz
 have hb2:(e != 0)=false:=by simpa using he
 obtain ⟨k1,k2⟩:=hdec he
 obtain ⟨⟨hn1,hn12⟩,hm,hok⟩:=hn0 k1
 obtain ⟨hl40,hr⟩:=ML k2
 have hbp:=HF hm
 have hw2:IntKind.i64.wrap (setN s-1)=setN s-1:=ZC (by unfold setN;omega)
 rw[if_neg (show ¬ (e≠0) from fun h=>h he)]
 rw[hQP k1] at h63
 have h56:=c56 0 ((s.cl.length:Int)-1) [c] (by simp)
 have h56f:=c56 0 (setN s-1) [f] (by simp)
 rw[FW] at h56 h56f
 simp only[ic136,WI,cellsOf,evA,simprocAttr]
 refine (h63 _ 1 rfl).run ?_
 simp only[hb2,hw,evA,simprocAttr]
 refine h56.call frz ?_
 cases hc:inB c 0 ((s.cl.length:Int)-1) with
 | false =>
  rw[if_pos rfl]
  simp only[ZY,evA,simprocAttr]
  exact frz
 | true =>
 rw[if_neg (by decide)]
 simp only[Y2,evA,simprocAttr]
 refine (c64 s (covR s) hm).call frz ?_
 simp only[hw2,evA,simprocAttr]
 refine h56f.call frz ?_
 cases hf:inB f 0 (setN s-1) with
 | false =>
  rw[if_pos rfl]
  simp only[ZY,evA,simprocAttr]
  exact frz
 | true =>
 rw[if_neg (by decide)]
 rw[VB] at hc hf
 unfold setN at hf
 simp only[Y2,evA,simprocAttr]
 refine (c65 s l hm hl hr c (by omega) f (by omega)).call frz ?_
 simp only[evA,simprocAttr]
 exact frz
abbrev KR:Bool × List KK:=(true,[.int .i64,.int .i64])
abbrev RgW (r:Rt):Prop:=(-9223372036854775808≤r.1∧r.1≤9223372036854775807)∧-9223372036854775808≤r.2∧r.2≤9223372036854775807
theorem PR {n:Int} (h:-9223372036854775808≤n∧n≤9223372036854775807):(Lit.int .i64 n).wf=true:=by
 simp only[Lit.wf,QD,decide_eq_true_eq,IntKind.min,IntKind.max,IntKind.bits,IntKind.signed]
 simp;omega
theorem Qb6 {r:Rt} (h:RgW r):F4 KR (rgV r)=true:=by
 simp[F4,JK,rgV,Y4,kkOk,PR h.1,PR h.2]
theorem rg_eq {a b:Rt} (ha:RgW a) (hb:RgW b):JW KR (rgV a) (rgV b)=some (decide (a=b)):=by
 simp[JW,JK,rgV,Y4,kkOk,PR ha.1,PR ha.2,PR hb.1,PR hb.2,VZ,EB]
 rw[Q8]
 obtain ⟨a1,a2⟩:=a;obtain ⟨b1,b2⟩:=b
 simp
def putE (es:List (Rt × Int)) (r:Rt) (v:Int):List (Rt × Int):=if r∈Z4 es then es.map (fun e=>if e.1=r then (r,v) else e) else es++[(r,v)]
def delE (es:List (Rt × Int)) (x:Rt):List (Rt × Int):=es.filter fun e=>!decide (e.1=x)
theorem MY {r:Rt} (hr:RgW r):∀ (es:List (Rt × Int)) (s:Nat),(∀ e∈es,RgW e.1) →
  (findKey KR (rgV r) (mapE es) s=some none∧r∉Z4 es)∨∃ (j:Nat) (v:Int),es[j]? = some (r,v)∧findKey KR (rgV r) (mapE es) s=some (some (s+j,.i v))
 | [],s,_=>.inl ⟨rfl,by simp[Z4]⟩
 | t :: es,s,h=>by
  have hk:=rg_eq hr (h t (by simp))
  by_cases e:r=t.1
  ·refine .inr ⟨0,t.2,?_,?_⟩
   ·obtain ⟨a,n⟩:=t
    cases e;rfl
   ·rw[decide_eq_true e] at hk
    simp only[mapE,Q0,findKey,hk];rfl
  ·rw[decide_eq_false e] at hk
   rcases MY hr es (s+1) (fun t ht=>h t (by simp[ht])) with ⟨g1,g2⟩ | ⟨j,n,g1,g2⟩
   ·refine .inl ⟨?_,?_⟩
    ·simp only[mapE,Q0,findKey,hk];exact g1
    ·simp only[Z4,Q0,ZD,not_or]
     exact ⟨e,g2⟩
   ·refine .inr ⟨j+1,n,by simpa using g1,?_⟩
    simp only[mapE,Q0,findKey,hk]
    rw[show s+(j+1)=s+1+j by omega];exact g2
theorem nodup_at {es:List (Rt × Int)} (hn:(Z4 es).Nodup) {j:Nat} {r:Rt} {v:Int} (h:es[j]? = some (r,v)):∀ i e,es[i]? = some e→(e.1=r↔i=j):=by
 intro i e he
 constructor
 ·intro h2
  have h1:(Z4 es)[i]? = some r:=by simp[Z4,he,h2]
  have h3:(Z4 es)[j]? = some r:=by simp[Z4,h]
  obtain ⟨a1,a2⟩:=QH.1 h1
  obtain ⟨b1,b2⟩:=QH.1 h3
  have hp:=List.pairwise_iff_getElem.1 hn
  rcases Nat.lt_trichotomy i j with hl | he2 | hl
  ·exact absurd (a2.trans b2.symm) (hp i j a1 b1 hl)
  ·exact he2
  ·exact absurd (b2.trans a2.symm) (hp j i b1 a1 hl)
 ·rintro rfl
  rw[h] at he;cases he;rfl
theorem QdX {es:List (Rt × Int)} (hn:(Z4 es).Nodup) {j:Nat} {r:Rt} {v w:Int} (h:es[j]? = some (r,v)):es.set j (r,w)=putE es r w:=by
 have hm:r∈Z4 es:=by
  rw[Z4,ZP]
  exact ⟨_,QZ h,rfl⟩
 rw[putE,if_pos hm]
 apply Z1
 intro i
 rw[ZO,ZR]
 by_cases hij:j=i
 ·subst hij
  have hl:=(QH.1 h).1
  rw[if_pos rfl,if_pos hl,h]
  simp
 ·rw[if_neg hij]
  cases he:es[i]? with
  | none=>rfl
  | some e =>
   have:=nodup_at hn h i e he
   simp only[Option.map_some]
   rw[if_neg (fun h=>hij ((this.1 h).symm))]
theorem A9:∀ {es:List (Rt × Int)} (hn:(Z4 es).Nodup) {j:Nat} {r:Rt} {v:Int} (h:es[j]? = some (r,v)),es.eraseIdx j=delE es r
 | e::es,hn,0,r,v,h=>by
  simp only[List.getElem?_cons_zero,Option.some.injEq] at h
  subst h
  simp only[Z4,Q0,WQ] at hn
  rw[List.eraseIdx_cons_zero,delE,XK,if_neg (by simp)]
  symm
  rw[List.filter_eq_self]
  intro e he
  have:e.1≠r:=fun h=>hn.1 (by rw[ZP];exact ⟨e,he,h⟩)
  simp[this]
 | e::es,hn,j+1,r,v,h=>by
  simp only[List.getElem?_cons_succ] at h
  simp only[Z4,Q0,WQ] at hn
  have hne:e.1≠r:=fun h2=>hn.1 (by rw[ZP];exact ⟨(r,v),QZ h,h2.symm⟩)
  rw[List.eraseIdx_cons_succ,A9 hn.2 h,delE,delE,XK,if_pos (by simp[hne])]
theorem map_put {es:List (Rt × Int)} {r:Rt} {v:Int} (hn:(Z4 es).Nodup) (hw:∀ e∈es,RgW e.1) (hr:RgW r) {σ:List AObj} {l:Nat} (hm:mapOf σ l=some (mapE es)) :
  JZ KR [.map l,rgV r,.i v] σ=some (.undef,σ.set l (.map (mapE (putE es r v)))):=by
 rcases MY hr es 0 hw with ⟨g1,g2⟩ | ⟨j,n,g1,g2⟩
 ·have:mapE (putE es r v)=mapE es++[(rgV r,.i v)]:=by rw[putE,if_neg g2];simp[mapE]
  simp only[JZ,hm,Option.bind_some,Qb6 hr,g1,this]
  rfl
 ·have:mapE (putE es r v)=(mapE es).set j (rgV r,.i v):=by rw[← QdX hn g1];simp[mapE,List.map_set]
  simp only[JZ,hm,Option.bind_some,Qb6 hr,g2,this]
  simp[XU]
theorem map_del {es:List (Rt × Int)} {r:Rt} (hn:(Z4 es).Nodup) (hw:∀ e∈es,RgW e.1) (hr:RgW r) {σ:List AObj} {l:Nat} (hm:mapOf σ l=some (mapE es)) :
  J0 KR [.map l,rgV r] σ=some (.tup [],σ.set l (.map (mapE (delE es r)))):=by
 rcases MY hr es 0 hw with ⟨g1,g2⟩ | ⟨j,n,g1,g2⟩
 ·have:delE es r=es:=by
   rw[delE,List.filter_eq_self]
   intro e he
   have:e.1≠r:=fun h=>g2 (by rw[Z4,ZP];exact ⟨e,he,h⟩)
   simp[this]
  simp only[J0,hm,Option.bind_some,Qb6 hr,g1,this]
  rfl
 ·have:mapE (delE es r)=(mapE es).eraseIdx j:=by
   rw[← A9 hn g1]
   have:∀ (L:List (Rt × Int)) (j:Nat),mapE (L.eraseIdx j)=(mapE L).eraseIdx j:=by
    intro L
    induction L with
    | nil=>intro j;rfl
    | cons a L ih=>intro j;cases j with
     | zero=>rfl
     | succ j=>simp only[mapE,List.eraseIdx_cons_succ,Q0] at ih ⊢;rw[ih]
   exact this es j
  simp only[J0,hm,Option.bind_some,Qb6 hr,g2,this]
  simp[mapDel]
theorem Qbn (es:List (Rt × Int)) (r:Rt) (v:Int):Z4 (putE es r v)=if r∈Z4 es then Z4 es else Z4 es++[r]:=by
 unfold putE
 by_cases h:r∈Z4 es
 ·rw[if_pos h,if_pos h]
  unfold Z4
  rw[XW]
  apply JI
  intro e _
  simp only[Function.comp]
  split
  ·rename_i h;exact h.symm
  ·rfl
 ·rw[if_neg h,if_neg h];simp[Z4]
theorem S6 {es:List (Rt × Int)} {r:Rt} {v:Int} (h:(Z4 es).Nodup):(Z4 (putE es r v)).Nodup:=by
 rw[Qbn]
 split
 ·exact h
 ·rename_i hn
  rw[List.nodup_append]
  exact ⟨h,by simp,fun a ha b hb=>by simp at hb;subst hb;rintro rfl;exact hn ha⟩
theorem put_mem {es:List (Rt × Int)} {r x:Rt} {v:Int}:x∈Z4 (putE es r v)↔x∈Z4 es∨x=r:=by
 rw[Qbn]
 split
 ·rename_i h
  constructor
  ·exact .inl
  ·rintro (h2 | rfl) <;> assumption
 ·simp
theorem RR {p:Rt→Bool} (es:List (Rt × Int)):Z4 (es.filter fun e=>p e.1)=(Z4 es).filter p:=by
 unfold Z4
 induction es with
 | nil=>rfl
 | cons e es ih=>simp only[XK,Q0];split <;> simp[ih]
theorem key_w {es:List (Rt × Int)} (h:∀ r∈Z4 es,RgW r):∀ e∈es,RgW e.1:=fun e he=>h _ (by rw[Z4,ZP];exact ⟨e,he,rfl⟩)
def VH (b e:Nat) (σ:List AObj) (v:AV) (n:Nat) (cs:List CV):Prop:=(v=.cv .nils∧n=0∧cs=[])∨∃ l,b≤l∧v=.sl l 0 n e∧cs.length=n*e∧rowOf σ l=some (cs.map .cv)
theorem VH.acc {b e n:Nat} {σ:List AObj} {v:AV} {cs:List CV} (h:VH b e σ v n cs):AccS e σ v n cs:=h.imp id fun ⟨l,_,h1,h2,h3⟩=>⟨l,h1,h2,h3⟩
theorem VH.nu {b e n:Nat} {σ:List AObj} {v:AV} {cs:List CV} (h:VH b e σ v n cs):v.isUndef=false∧v.isSc=true∧cellsOf v=[v]:=by
 rcases h with ⟨rfl,_⟩ | ⟨l,_,rfl,_⟩ <;> exact ⟨rfl,rfl,rfl⟩
theorem K3 {b e by_ n:Nat} {σ:List AObj} {v:AV} {cs x:List CV} (hb0:b≤σ.length) (h:VH b e σ v n cs) (hx:x.length=e) (hb:(n+1)*by_≤2 ^ 44) (hn:n+1≤2 ^ 44) :
  ∃ (v':AV) (σ':List AObj),ZX e by_ [v,.sl σ.length 0 1 e] (σ++[AObj.cells (x.map .cv)])=some (v',σ')∧VH b e σ' v' (n+1) (cs++x)∧(∀ i,i<b→σ'[i]? = σ[i]?)∧σ.length≤σ'.length:=by
 have hsrc:Z9 (σ++[AObj.cells (x.map .cv)]) e (.sl σ.length 0 1 e)=some (x.map .cv):=by
  have h1:0+1*e≤(x.map AV.cv).length:=by simp[hx]
  simp only[Z9,if_true,XH,Option.bind_some]
  rw[if_pos h1,YO,Q5 (by simp[hx])]
 rcases h with ⟨rfl,rfl,rfl⟩ | ⟨l,hbl,rfl,hl,hr⟩
 ·refine ⟨.sl (σ++[AObj.cells (x.map .cv)]).length 0 1 e,(σ++[AObj.cells (x.map .cv)])++[AObj.cells (x.map .cv)],?_,.inr ⟨_,by simp;omega,rfl,by simp[hx],by rw[XH];simp⟩,fun i hi=>?_,by simp⟩
  ·have h1:1*e=(x.map AV.cv).length∧1*by_≤2 ^ 44∧1≤2 ^ 44∧(x.map AV.cv).all AV.isSc=true:=⟨by simp[hx],by omega,by omega,S2 x⟩
   simp only[ZX,hsrc,lenF,Option.bind_some]
   rw[if_neg (by omega),if_pos h1]
  ·rw[QW,QE (by omega)]
 ·have hr':=FU hr (AObj.cells (x.map .cv))
  refine ⟨.sl (σ++[AObj.cells (x.map .cv)]).length 0 (n+1) e,(σ++[AObj.cells (x.map .cv)]).set l AObj.dead++[AObj.cells (cs.map .cv++x.map .cv)],?_,.inr ⟨(σ++[AObj.cells (x.map .cv)]).length,by simp;omega,rfl,by rw[QM,hl,hx,XJ],?_⟩,fun i hi=>?_,by simp;omega⟩
  ·have h1:True∧n*e≤(cs.map AV.cv).length∧1*e=(x.map AV.cv).length∧(n+1)*by_≤2 ^ 44∧n+1≤2 ^ 44∧(x.map AV.cv).all AV.isSc=true:=⟨trivial,by simp[hl],by simp[hx],hb,hn,S2 x⟩
   simp only[ZX,hr',hsrc,lenF,Option.bind_some]
   rw[if_pos h1,Q5 (by simp[hl])]
  ·have:(σ++[AObj.cells (x.map .cv)]).length=((σ++[AObj.cells (x.map .cv)]).set l AObj.dead).length:=by simp
   rw[this,XH,ZS]
  ·rw[QE (by simp;omega),QU (by omega),QE (by omega)]
theorem c118 (l:List Rt) (L:Nat) (S:Nat→List AObj→Prop) (σ0:List AObj) (hl:l.length<2 ^ 63) (hL:L<σ0.length) (h0:S 0 σ0)
  (h:∀ n τ,n<l.length→S n τ→σ0.length≤τ.length→YC Tryz.prog L [rgV l[n]!] (τ++[.cells [.i (l[n]!).1,.i (l[n]!).2]]) fun r τ'=>r=.b true∧∃ τ2 J,τ'=τ2++J∧σ0.length≤τ2.length∧(J=[]∨∀ o∈τ2,Z3 τ2.length o=true)∧S (n+1) τ2) :
  AC Tryz.prog 171 [.yld L,.cv (.rp [.rsl (l.flatMap rgC) l.length] 0)] σ0 fun r τ=>r=.tup []∧S l.length τ:=by
 refine ZF (fok171 true) (QC rfl) ?_
 simp only[ic171,evA,simprocAttr]
 refine ZW l.length (fun i s=>∃ v2 v6 v7 τ,S i τ∧σ0.length≤τ.length∧s=⟨[.yld L,.cv (.rp [.rsl (l.flatMap rgC) l.length] 0),v2,rgL l,.i l.length,.i i,v6,v7],τ⟩) ?_ 0 (QF _) ⟨_,_,_,_,h0,QG _,rfl⟩
 rintro i s hi ⟨v2,v6,v7,τ,hS,hτ,rfl⟩
 by_cases hin:i<l.length
 ·simp only[ic171l0,QJ,hin,L6 hin,S3 hin,WW,VW,evA,simprocAttr]
  refine (h i τ hin hS hτ).mono ?_
  rintro r τ' ⟨rfl,τ2,J,rfl,hlen,hJ,hS2⟩
  simp only[Q6 (show i+1<2 ^ 63 by omega),evA,simprocAttr]
  rcases hJ with rfl | hJ
  ·rw[ZU]
   exact ZL (by first | trivial | omega) ⟨_,_,_,_,hS2,hlen,rfl⟩
  ·refine W1 τ2 J rfl (by first | trivial | omega) hlen hJ ?_
   have hy:QR τ2.length (.yld L)=true:=by simp[QR];omega
   exact ⟨_,_,_,_,hS2,hlen,by simp only[clip,hy,if_true];rfl⟩
 ·have hin':i=l.length:=by omega
  subst hin'
  simp only[ic171l0,QJ,hin,evA,simprocAttr]
  exact hS
def ia94:IC:=(.region [jw 4 (.alloc [(.cv (.int .i64 0)),(.cv (.int .i64 0))]) [],jq (.store 2) [.v 4,.v 6]])
def ib94:IC:=(.block 1 (.region [jL 2,jN 2 4,jq (.bslice 2 1 [(.cv (.int .i64 0)),(.cv (.int .i64 0))] [(0,2)]) [.t 1],jq (.append 2 16) [.t 0,.t 2],jq (.store 1) [.v 2,.t 3]]))
theorem ca94:QL Tryz.prog vs147 13 (nav [1,0,1,0,2] (Tryz.f147.body.getD .skip))=some ia94:=by kernel_rfl
theorem cb94:QL Tryz.prog vs147 13 (nav [1,0,1,0,3] (Tryz.f147.body.getD .skip))=some ib94:=by kernel_rfl
theorem ac94 (ks:List Rt) (hl:ks.length<2 ^ 38):AC Tryz.prog 147 [.cv .nils,TU ks] [] fun r τ=>AccS 2 τ r ks.length (ks.flatMap rgC):=by
 have hp2:(2:Nat) ^ 38=274877906944:=by decide
 have hp3:(2:Nat) ^ 44=17592186044416:=by decide
 refine ZF (fok147 true) (QC rfl) ?_
 simp only[ic147,WI,cellsOf,evA,simprocAttr]
 refine RW_s (gf:=171) (cap:=[.cv (.rp [.rsl (ks.flatMap rgC) ks.length] 0)]) rfl (QC rfl) (fun l h=>by cases h) ?_
 generalize hRR:VJ _ _ _ _ _=R
 simp only[evA,simprocAttr]
 have e1:R.vars=vs147:=by rw[← hRR];rfl
 have e2:R.ntmps=13:=by rw[← hRR];rfl
 have e3:R.params=[7]:=by rw[← hRR];rfl
 have e4:R.vals=[.cv .nils,TU ks,.ptr 0 0,.cv .nils,.undef,TU ks,.undef]:=by rw[← hRR];rfl
 have e5:R.state=.ready:=by rw[← hRR];rfl
 have e6:R.pending=none:=by rw[← hRR];rfl
 have e7:QL Tryz.prog vs147 13 R.assign=some ia94:=by rw[← hRR];exact ca94
 have e8:QL Tryz.prog vs147 13 R.body=some ib94:=by rw[← hRR];exact cb94
 have e9:({ { R with state:=.busy,pending:=none } with state:=.ready,pending:=none }:XC)=R:=by
  clear hRR;cases R;simp_all
 clear hRR
 refine (c118 ks 1 (fun n τ=>∃ acc τ',τ=.cells [acc] :: .loop R::τ'∧VH 2 2 τ acc n ((ks.take n).flatMap rgC)) [.cells [.cv .nils],.loop R] (by omega) (by simp) ⟨_,_,rfl,.inl ⟨rfl,rfl,rfl⟩⟩ ?_).mono ?_
 ·rintro n τ hn ⟨acc,τ',rfl,hA⟩ _
  have hnu:=hA.nu
  refine QeH (r:=R) ia94 ib94 rfl e5 (by rw[e3];rfl) (by rw[e1,e2,e3];rfl) (by rw[e1,e2];exact e7) (by rw[e1,e2];exact e8) ?_
  rw[e1,e2,e3,e4]
  have x7:vs147.idxOf? 7=some 6:=by decide
  have hst:(ks.take (n+1)).flatMap rgC=(ks.take n).flatMap rgC++rgC ks[n]! := by
   rw[JC,QI hn,getElem!_pos ks n hn,List.flatMap_append];simp
  generalize ks[n]! = kr at hst
  simp only[ia94,JM,x7,QW,QM,WW,X9,VW,EZ,Qau,CH,get_nz,get_ns,Qam,evA,simprocAttr]
  refine ⟨R,rfl,e5,?_⟩
  rw[e6]
  simp only[setLoop,evA,simprocAttr]
  have hA1:VH 2 2 (.cells [acc] :: .loop { R with state:=.busy,pending:=none }::(τ'++[AObj.cells [.i kr.1,.i kr.2],AObj.cells [.i kr.1,.i kr.2]])) acc n ((ks.take n).flatMap rgC):=by
   rcases hA with h | ⟨l,h1,h2,h3,h4⟩
   ·exact .inl h
   ·refine .inr ⟨l,h1,h2,h3,?_⟩
    obtain ⟨m,rfl⟩:∃ m,l=m+2:=⟨l-2,by omega⟩
    exact ZH (σ:=τ') h4 _
  obtain ⟨v',σ',happ,hA',hfr,hln⟩:=K3 (by_:=16) (x:=rgC kr) (by simp) hA1 rfl (by omega) (by omega)
  rw[hst]
  generalize hbz:({ R with state:=.busy,pending:=none }:XC)=RB at *
  have f0:=hfr 0 (by omega)
  have f1:=hfr 1 (by omega)
  match σ',hln with
  | x0::x1::σ2,_ =>
  have g0:x0=.cells [acc]:=by simpa using f0
  have g1:x1=.loop RB:=by simpa using f1
  subst g0 g1
  have hnu':=hA'.nu
  simp only[QW,QM,WW,X9,VW,EZ,Qau,CH,get_nz,get_ns,List.cons_append,List.nil_append,List.length_cons,List.length_nil,ZV,rgC,Q0,WS] at happ
  simp only[ib94,QW,QM,WW,X9,VW,EZ,Qau,CH,get_nz,get_ns,HE,MK,happ,hnu,hnu',P0,evA,simprocAttr]
  refine ⟨RB,rfl,?_⟩
  subst hbz
  simp only[setLoop,evA,simprocAttr]
  rw[e9]
  refine ⟨_,[],(ZU _).symm,QC rfl,.inl rfl,v',σ2,rfl,?_⟩
  rcases hA' with h | ⟨l,h1,h2,h3,h4⟩
  ·exact .inl h
  ·refine .inr ⟨l,h1,h2,h3,?_⟩
   obtain ⟨m,rfl⟩:∃ m,l=m+2:=⟨l-2,by omega⟩
   exact h4
 ·rintro r τ ⟨rfl,acc,τ',rfl,hA⟩
  refine ⟨R,rfl,(by rw[e5];intro h;cases h),?_⟩
  rw[e6]
  have hnu:=hA.nu
  simp only[setLoop,hnu,evA,simprocAttr]
  rw[X7] at hA
  rcases hA with h | ⟨l,h1,h2,h3,h4⟩
  ·exact .inl h
  ·refine .inr ⟨l,h2,h3,?_⟩
   obtain ⟨m,rfl⟩:∃ m,l=m+2:=⟨l-2,by omega⟩
   exact h4
theorem Qcb (g:Nat→Nat):∀ cs:List CV,rens g (cs.map .cv)=cs.map .cv
 | []=>rfl
 | c::cs=>by simp only[Q0,rens,ren,Qcb g cs]
theorem AC.accs {P:Program} {f:FuncId} {args:List AV} {e n:Nat} {cs:List CV} (h:AC P f args [] fun r τ=>AccS e τ r n cs) (hcl:QO 0 args=true) (hr:∀ g,rens g args=args) (σ:List AObj):AC P f args σ fun r τ=>AccS e τ r n cs:=by
 have:=AC.at (σ:=σ) [] h YU hcl trivial
 rw[hr] at this
 refine this.mono ?_
 rintro r τ ⟨r0,τ0,h1,_,rfl,rfl⟩
 rcases h1 with ⟨rfl,h1,h2⟩ | ⟨l,rfl,h1,h2⟩
 ·exact .inl ⟨rfl,h1,h2⟩
 ·refine .inr ⟨σ.length+l,by simp[ren,atF],h1,?_⟩
  have h3:=WO h2
  simp only[putL]
  unfold rowOf
  rw[QS (by omega),X6,ZR,h3]
  simp only[Option.map_some,renO,Qcb]
theorem AccS.nu {e n:Nat} {σ:List AObj} {v:AV} {cs:List CV} (h:AccS e σ v n cs):v.isUndef=false∧v.isSc=true∧cellsOf v=[v]:=by
 rcases h with ⟨rfl,_⟩ | ⟨l,rfl,_⟩ <;> exact ⟨rfl,rfl,rfl⟩
theorem ac71 (ks:List Rt) (hl:ks.length<2 ^ 38) (σ:List AObj):AC Tryz.prog 112 [TU ks] σ fun r τ=>AccS 2 τ r ks.length (ks.flatMap rgC):=by
 refine ZF (fok112 true) (QC rfl) ?_
 simp only[ic112,evA,simprocAttr]
 refine ((ac94 ks hl).accs rfl (fun g=>rfl) σ).mono ?_
 intro r τ h
 have hnu:=h.nu
 simp only[hnu,evA,simprocAttr]
 exact h
def Qdp:IC:=(.region [jw 7 (.alloc [(.cv (.int .i64 0)),(.cv (.int .i64 0))]) [],jq (.store 2) [.v 7,.v 14]])
def Qdm:IC:=(.block 5 (.seq (.dr [[],[],[0,1],[2],[3],[4,3],[5,3],[6,3],[3],[8,3],[7,9,3],[10,3],[3],[12,3],[11,13,3],[14,3],[3,15],[16,3],[17],[18,17],[17],[20,17],[19,21,17],[22,17],[17,23]] [jN 2 8,jN 2 7,jq (.eqS true (true,[(.int .i64),(.int .i64)])) [.t 0,.t 1],jt 2,jg 3 true .load1 [.v 2],jg 3 true .nilck [.t 4],jg 3 true (.fadd 2) [.t 5],ji 3 true 6,jg 3 true (.fadd 0) [.v 7],ji 3 true 8,jg 3 true (.iaS 1) [.t 7,.t 9],ji 3 true 10,jg 3 true (.fadd 0) [.v 8],ji 3 true 12,jg 3 true (.iaS 1) [.t 11,.t 13],ji 3 true 14,jq .pick [.t 3,.t 15,jB false],jt 16,jg 17 true (.fadd 1) [.v 7],ji 17 true 18,jg 17 true (.fadd 1) [.v 8],ji 17 true 20,jg 17 true (.bin .andNot .int) [.t 19,.t 21],jg 17 true (.bin .eql .int) [.t 22,jn 0],jw 17 .pick [.t 17,.t 23,jB false]])
 (.cond 17 (.region [jL 4,jN 2 8,jq (.mapdel (true,[(.int .i64),(.int .i64)])) [.t 0,.t 1]])
 .skip)))
def Qdo:IC:=(.region [jw 8 (.alloc [(.cv (.int .i64 0)),(.cv (.int .i64 0))]) [],jq (.store 2) [.v 8,.v 16]])
def Qdn (b67:Code):IC:=(.block 3 (.seq (.region [jL 4,jd 15 113 [.t 0]])
 (.block 4 (.rangef (.v 15) #[27] (nav [1,1,1,0,1,0,3,0,1,0,2] b67) (nav [1,1,1,0,1,0,3,0,1,0,3] b67) (.region [jw 8 (.alloc [(.cv (.int .i64 0)),(.cv (.int .i64 0))]) [],jq (.store 2) [.v 8,.v 16]])
 (.block 5 (.seq (.dr [[],[],[0,1],[2],[3],[4,3],[5,3],[6,3],[3],[8,3],[7,9,3],[10,3],[3],[12,3],[11,13,3],[14,3],[3,15],[16,3],[17],[18,17],[17],[20,17],[19,21,17],[22,17],[17,23]] [jN 2 8,jN 2 7,jq (.eqS true (true,[(.int .i64),(.int .i64)])) [.t 0,.t 1],jt 2,jg 3 true .load1 [.v 2],jg 3 true .nilck [.t 4],jg 3 true (.fadd 2) [.t 5],ji 3 true 6,jg 3 true (.fadd 0) [.v 7],ji 3 true 8,jg 3 true (.iaS 1) [.t 7,.t 9],ji 3 true 10,jg 3 true (.fadd 0) [.v 8],ji 3 true 12,jg 3 true (.iaS 1) [.t 11,.t 13],ji 3 true 14,jq .pick [.t 3,.t 15,jB false],jt 16,jg 17 true (.fadd 1) [.v 7],ji 17 true 18,jg 17 true (.fadd 1) [.v 8],ji 17 true 20,jg 17 true (.bin .andNot .int) [.t 19,.t 21],jg 17 true (.bin .eql .int) [.t 22,jn 0],jw 17 .pick [.t 17,.t 23,jB false]])
 (.cond 17 (.region [jL 4,jN 2 8,jq (.mapdel (true,[(.int .i64),(.int .i64)])) [.t 0,.t 1]])
 .skip)))))))
theorem ca67a:QL Tryz.prog vs111 58 (nav [1,1,1,0,1,0,2] (Tryz.f111.body.getD .skip))=some Qdp:=by kernel_rfl
theorem cb67a:QL Tryz.prog vs111 58 (nav [1,1,1,0,1,0,3] (Tryz.f111.body.getD .skip))=some (Qdn (Tryz.f111.body.getD .skip)):=by kernel_rfl
theorem ca67b:QL Tryz.prog vs111 58 (nav [1,1,1,0,1,0,3,0,1,0,2] (Tryz.f111.body.getD .skip))=some Qdo:=by kernel_rfl
theorem cb67b:QL Tryz.prog vs111 58 (nav [1,1,1,0,1,0,3,0,1,0,3] (Tryz.f111.body.getD .skip))=some Qdm:=by kernel_rfl
def wkB (s:Sys) (x r:Rt):Bool:=!decide (x=r)&&(covB s r.1.toNat x.1.toNat&&(subI r.2 x.2 == 0))
def esN (l:List Rt):Nat→List (Rt × Int)
 | 0=>[]
 | k+1=>putE (esN l k) l[k]! k
def ddR (l:List Rt):List Rt:=Z4 (esN l l.length)
def XV (s:Sys) (l:List Rt):List Rt:=(V2 (ddR l)).filter fun x=>!(ddR l).any fun r=>wkB s x r
theorem K0 (l:List Rt):∀ k,(Z4 (esN l k)).Nodup
 | 0=>YU
 | k+1=>S6 (K0 l k)
theorem Qax (l:List Rt) {x:Rt}:∀ k,k≤l.length→(x∈Z4 (esN l k)↔x∈l.take k)
 | 0,_=>by simp[esN,Z4]
 | k+1,h=>by
  have e:l.take (k+1)=l.take k++[l[k]!]:=by rw[JC,QI (by omega),getElem!_pos l k (by omega)];rfl
  rw[esN,put_mem,Qax l k (by omega),e,YV,WZ]
theorem Qdt (l:List Rt):∀ k,(esN l k).length≤k
 | 0=>QG _
 | k+1=>by
  have:=Qdt l k
  rw[esN,putE]
  split <;> simp <;> omega
def HR (s:Sys) (es:List (Rt × Int)) (rs:List Rt):List (Rt × Int):=es.filter fun e=>!rs.any fun r=>wkB s e.1 r
def HS (s:Sys) (es:List (Rt × Int)) (r:Rt) (xs:List Rt):List (Rt × Int):=es.filter fun e=>!(decide (e.1∈xs)&&wkB s e.1 r)
theorem wipe_nil (s:Sys) (es:List (Rt × Int)):HR s es []=es:=by simp[HR]
theorem QeS (s:Sys) (es:List (Rt × Int)) (r:Rt):HS s es r []=es:=by simp[HS]
theorem QeT (s:Sys) (es:List (Rt × Int)) (r:Rt) (rs xs:List Rt) (h:∀ e∈HR s es rs,e.1∈xs):HS s (HR s es rs) r xs=HR s es (rs++[r]):=by
 unfold HS
 have:(HR s es rs).filter (fun e=>!(decide (e.1∈xs)&&wkB s e.1 r))=(HR s es rs).filter fun e=>!wkB s e.1 r:=by
  apply JD
  intro e he
  have:=h e he
  simp[this]
 rw[this]
 unfold HR
 rw[List.filter_filter]
 apply JD
 intro e _
 simp[List.any_append,Bool.and_comm]
theorem QeR (s:Sys) (es:List (Rt × Int)) (r x:Rt) (xs:List Rt) (h:wkB s x r=true):delE (HS s es r xs) x=HS s es r (xs++[x]):=by
 unfold delE HS
 rw[List.filter_filter]
 apply JD
 intro e _
 by_cases he:e.1=x
 ·subst he;simp[h]
 ·simp[he]
theorem wipe1_no (s:Sys) (es:List (Rt × Int)) (r x:Rt) (xs:List Rt) (h:wkB s x r=false):HS s es r xs=HS s es r (xs++[x]):=by
 unfold HS
 apply JD
 intro e _
 by_cases he:e.1=x
 ·subst he;simp[h]
 ·simp[he]
theorem FX (k:Nat) (es:List (Rt × Int)):Z3 k (.map (mapE es))=true:=by
 simp only[Z3,Q1,QD]
 intro e he
 simp only[mapE,ZP] at he
 obtain ⟨x,_,rfl⟩:=he
 exact ⟨rfl,rfl⟩
theorem RgOk.w {s:Sys} {r:Rt} (h:RgOk s r) (hn:s.cl.length≤12) (hm:s.co.length≤8):RgW r:=by
 have hb:=HF hm
 obtain ⟨⟨h1,h2⟩,h3,h4⟩:=h
 unfold setN at h4
 exact ⟨by omega,by omega⟩
theorem ac67 (s:Sys) (hn12:s.cl.length≤12) (hm:s.co.length≤8) (l:List Rt) (hl:l.length<2 ^ 38) (hr:∀ r∈l,RgOk s r):AC Tryz.prog 111 [sysP s,rgL l] [] fun r τ=>AccS 2 τ r (XV s l).length ((XV s l).flatMap rgC):=by
 have hp2:(2:Nat) ^ 38=274877906944:=by decide
 have hbp:=HF hm
 refine ZF (fok111 true) (QC rfl) ?_
 have hkw:∀ k,k≤l.length→∀ r∈Z4 (esN l k),RgOk s r:=fun k hk r h=>hr r (List.mem_of_mem_take ((Qax l k hk).1 h))
 simp only[ic111,WI,cellsOf,KY,evA,simprocAttr]
 refine ZW l.length (fun i s'=>∃ v5 v12,(∀ k,QR k v5=true)∧s'=⟨[sysP s,rgL l,.ptr 0 0,.cv .nils,.ptr 2 0,v5,.undef,.undef,.undef,rgL l,.i l.length,.i i,v12,.undef,.undef,.undef,.undef,.undef],[.cells [sysP s],.map (mapE (esN l i)),.cells [.map 1]]⟩) ?_ 0 (QF _) ⟨_,_,fun _=>rfl,rfl⟩
 rintro i s' hi ⟨v5,v12,hv5,rfl⟩
 by_cases hin:i<l.length
 ·have hrw:RgW l[i]! := (hr _ (by rw[getElem!_pos l i hin];exact Q2 hin)).w hn12 hm
  have hput:∀ J,JZ KR [.map 1,rgV l[i]!,.i i] (AObj.cells [sysP s] :: .map (mapE (esN l i))::J)=some (.undef,AObj.cells [sysP s] :: .map (mapE (esN l (i+1)))::J):=fun J =>
   map_put (K0 l i) (key_w fun r h=>(hkw i (by omega) r h).w hn12 hm) hrw rfl
  simp only[ic111l0,QJ,hin,L6 hin,S3 hin,hput,Q6 (show i+1<2 ^ 63 by omega),evA,simprocAttr]
  refine W1 [.cells [sysP s],.map (mapE (esN l (i+1))),.cells [.map 1]] _ rfl (by first | trivial | omega) (QF _) ?_ ⟨_,_,fun _=>rfl,rfl⟩
  intro o ho
  simp only[ZD,WK,or_false] at ho
  rcases ho with rfl | rfl | rfl
  ·rfl
  ·exact FX _ _
  ·rfl
 have hin':i=l.length:=by omega
 subst hin'
 have hlen:=Qdt l l.length
 have hnd:=K0 l l.length
 have hkw2:=hkw l.length (QG _)
 have hdd:Z4 (esN l l.length)=ddR l:=rfl
 generalize esN l l.length=es at *
 simp only[ic111l0,QJ,hin,evA,simprocAttr]
 refine (c72 (es:=es) (by omega) rfl).run ?_
 simp only[evA,simprocAttr]
 obtain ⟨K,hK⟩:∃ K,K=V2 (Z4 es):=⟨_,rfl⟩
 rw[← hK]
 have hKl:K.length=es.length:=by rw[hK,EE];simp[Z4]
 have hKok:∀ r∈K,RgOk s r:=fun r h=>hkw2 r (by rw[hK] at h;exact VM.1 h)
 refine RW_s (gf:=171) (cap:=[.cv (.rp [.rsl (K.flatMap rgC) K.length] 0)]) rfl (QC rfl) (fun l h=>by cases h) ?_
 generalize hRR:VJ _ _ _ _ _=R
 simp only[evA,simprocAttr]
 have e1:R.vars=vs111:=by rw[← hRR];rfl
 have e2:R.ntmps=58:=by rw[← hRR];rfl
 have e3:R.params=[24]:=by rw[← hRR];rfl
 have e4:R.vals=[sysP s,rgL l,.ptr 0 0,.cv .nils,.ptr 2 0,v5,.undef,.undef,.undef,rgL l,.i l.length,.i l.length,.b false,TU K,.undef,.undef,.undef,.undef]:=by rw[← hRR];rfl
 have e5:R.state=.ready:=by rw[← hRR];rfl
 have e6:R.pending=none:=by rw[← hRR];rfl
 have e7:QL Tryz.prog vs111 58 R.assign=some Qdp:=by rw[← hRR];exact ca67a
 have e8:QL Tryz.prog vs111 58 R.body=some (Qdn (Tryz.f111.body.getD .skip)):=by rw[← hRR];exact cb67a
 have e9:({ { R with state:=.busy,pending:=none } with state:=.ready,pending:=none }:XC)=R:=by
  clear hRR;cases R;simp_all
 have eo:∀ k st p,3≤k→Z3 k (.loop { R with state:=st,pending:=p })=true:=fun k st p hk=>by
  have h1:decide (0<k)=true:=decide_eq_true (by omega)
  have h2:decide (2<k)=true:=decide_eq_true (by omega)
  show QO k R.vals=true
  rw[e4]
  simp[QO,QR,hv5]
  omega
 clear hRR
 have hwk:∀ rs,∀ e∈HR s es rs,e.1∈K:=fun rs e he=>by
  rw[hK,VM,Z4,ZP]
  exact ⟨e,(YB.1 he).1,rfl⟩
 refine (c118 K 3 (fun n τ=>τ=[.cells [sysP s],.map (mapE (HR s es (K.take n))),.cells [.map 1],.loop R]) [.cells [sysP s],.map (mapE es),.cells [.map 1],.loop R] (by omega) (by simp) (by rw[List.take_zero,wipe_nil]) ?_).mono ?_
 ·rintro n τ hn rfl _
  have hst:K.take (n+1)=K.take n++[K[n]!]:=by rw[JC,QI hn,getElem!_pos K n hn];rfl
  have hkr:=hKok K[n]! (by rw[getElem!_pos K n hn];exact Q2 hn)
  rw[hst]
  generalize K[n]! = kr at *
  obtain ⟨ez,hez⟩:∃ ez,ez=HR s es (K.take n):=⟨_,rfl⟩
  have hzl:ez.length≤es.length:=by rw[hez];exact HC _ _
  have hzk:Z4 ez=(Z4 es).filter fun x=>!(K.take n).any fun r=>wkB s x r:=by rw[hez];exact RR (p:=fun x=>!(K.take n).any fun r=>wkB s x r) es
  have hznd:(Z4 ez).Nodup:=by rw[hzk];exact hnd.filter _
  have hzok:∀ r∈Z4 ez,RgOk s r:=fun r h=>hkw2 r (by rw[hzk] at h;exact (YB.1 h).1)
  refine QeH (r:=R) Qdp (Qdn (Tryz.f111.body.getD .skip)) rfl e5 (by rw[e3];rfl) (by rw[e1,e2,e3];rfl) (by rw[e1,e2];exact e7) (by rw[e1,e2];exact e8) ?_
  rw[e1,e2,e3,e4,← hez]
  have x24:vs111.idxOf? 24=some 14:=by decide
  simp only[Qdp,JM,x24,Qam,evA,simprocAttr]
  refine ⟨R,rfl,e5,?_⟩
  rw[e6]
  simp only[Qdn,setLoop,evA,simprocAttr]
  refine (c72 (es:=ez) (by omega) rfl).run ?_
  simp only[evA,simprocAttr]
  obtain ⟨K2,hK2⟩:∃ K2,K2=V2 (Z4 ez):=⟨_,rfl⟩
  rw[← hK2]
  have hK2l:K2.length=ez.length:=by rw[hK2,EE];simp[Z4]
  have hK2ok:∀ r∈K2,RgOk s r:=fun r h=>hzok r (by rw[hK2] at h;exact VM.1 h)
  refine RW_s (gf:=171) (cap:=[.cv (.rp [.rsl (K2.flatMap rgC) K2.length] 0)]) rfl (QC rfl) (fun l h=>by cases h;exact ⟨_,rfl⟩) ?_
  generalize hRR2:VJ _ _ _ _ _=R2
  simp only[evA,simprocAttr]
  have d1:R2.vars=vs111:=by rw[← hRR2];rfl
  have d2:R2.ntmps=58:=by rw[← hRR2];rfl
  have d3:R2.params=[27]:=by rw[← hRR2];rfl
  have d4:R2.vals=[sysP s,rgL l,.ptr 0 0,.cv .nils,.ptr 2 0,v5,.undef,.ptr 5 0,.undef,rgL l,.i l.length,.i l.length,.b false,TU K,rgV kr,TU K2,.undef,.undef]:=by rw[← hRR2];rfl
  have d5:R2.state=.ready:=by rw[← hRR2];rfl
  have d6:R2.pending=none:=by rw[← hRR2];rfl
  have d7:QL Tryz.prog vs111 58 R2.assign=some Qdo:=by rw[← hRR2];exact ca67b
  have d8:QL Tryz.prog vs111 58 R2.body=some Qdm:=by rw[← hRR2];exact cb67b
  have d9:({ { R2 with state:=.busy,pending:=none } with state:=.ready,pending:=none }:XC)=R2:=by
   clear hRR2;cases R2;simp_all
  have dO:∀ k,6≤k→Z3 k (.loop R2)=true:=fun k hk=>by
   show QO k R2.vals=true
   rw[d4]
   simp[QO,QR,hv5]
   omega
  clear hRR2
  obtain ⟨RB,hRB⟩:∃ RB:XC,RB = { R with state:=.busy,pending:=none }:=⟨_,rfl⟩
  have hBo:∀ k,6≤k→Z3 k (.loop RB)=true:=fun k hk=>by rw[hRB];exact eo k _ _ (by omega)
  rw[← hRB]
  have hall2:∀ e∈ez,e.1∈K2:=fun e he=>by
   rw[hK2,VM,Z4,ZP]
   exact ⟨e,he,rfl⟩
  refine (c118 K2 6 (fun m τ=>τ=[.cells [sysP s],.map (mapE (HS s ez kr (K2.take m))),.cells [.map 1],.loop RB,.cells [.i kr.1,.i kr.2],.cells [.i kr.1,.i kr.2],.loop R2]) [.cells [sysP s],.map (mapE ez),.cells [.map 1],.loop RB,.cells [.i kr.1,.i kr.2],.cells [.i kr.1,.i kr.2],.loop R2] (by omega) (by simp) (by rw[List.take_zero,QeS]) ?_).mono ?_
  ·rintro m τ hm2 rfl _
   have hst2:K2.take (m+1)=K2.take m++[K2[m]!]:=by rw[JC,QI hm2,getElem!_pos K2 m hm2];rfl
   have hkx:=hK2ok K2[m]! (by rw[getElem!_pos K2 m hm2];exact Q2 hm2)
   rw[hst2]
   generalize K2[m]! = kx at *
   have hwy:=QeR s ez kr kx (K2.take m)
   have hwn:=wipe1_no s ez kr kx (K2.take m)
   have hwnd:(Z4 (HS s ez kr (K2.take m))).Nodup:=by
    have:Z4 (HS s ez kr (K2.take m))=(Z4 ez).filter fun x=>!(decide (x∈K2.take m)&&wkB s x kr):=RR (p:=fun x=>!(decide (x∈K2.take m)&&wkB s x kr)) ez
    rw[this];exact hznd.filter _
   have hwok:∀ r∈Z4 (HS s ez kr (K2.take m)),RgOk s r:=fun r h=>hzok r (by
    have:Z4 (HS s ez kr (K2.take m))=(Z4 ez).filter fun x=>!(decide (x∈K2.take m)&&wkB s x kr):=RR (p:=fun x=>!(decide (x∈K2.take m)&&wkB s x kr)) ez
    rw[this] at h;exact (YB.1 h).1)
   generalize HS s ez kr (K2.take m)=em at *
   have hxw:=hkx.w hn12 hm
   have hrw:=hkr.w hn12 hm
   have hdel:∀ J,J0 KR [.map 1,rgV kx] (AObj.cells [sysP s] :: .map (mapE em)::J)=some (.tup [],AObj.cells [sysP s] :: .map (mapE (delE em kx))::J):=fun J =>
    map_del hwnd (key_w fun r h=>(hwok r h).w hn12 hm) hxw rfl
   have heq:∀ σ,OI true KR [rgV kx,rgV kr] σ=some (.b (!decide (kx=kr)),σ):=fun σ=>by
    simp only[OI,rg_eq hxw hrw,Option.map_some,if_true]
   refine QeH (r:=R2) Qdo Qdm rfl d5 (by rw[d3];rfl) (by rw[d1,d2,d3];rfl) (by rw[d1,d2];exact d7) (by rw[d1,d2];exact d8) ?_
   rw[d1,d2,d3,d4]
   have x27:vs111.idxOf? 27=some 16:=by decide
   simp only[Qdo,JM,x27,Qam,evA,simprocAttr]
   refine ⟨R2,rfl,d5,?_⟩
   rw[d6]
   simp only[Qdm,setLoop,evA,simprocAttr]
   refine DW_s [] [] hmix (by kernel_rfl) rfl ?_
   obtain ⟨⟨x1,x2⟩,x3,x4⟩:=hkx
   obtain ⟨⟨r1,r2⟩,r3,r4⟩:=hkr
   have x4':kx.2<256:=by unfold setN at x4;omega
   have r4':kr.2<256:=by unfold setN at r4;omega
   obtain ⟨c,hc⟩:∃ c:Nat,kr.1=(c:Int):=⟨kr.1.toNat,by omega⟩
   obtain ⟨d,hd⟩:∃ d:Nat,kx.1=(d:Int):=⟨kx.1.toNat,by omega⟩
   have hcl:c<s.cl.length:=by omega
   have hdl:d<s.cl.length:=by omega
   have hsub:=sub_wrap (a:=kr.2) (b:=kx.2) ⟨r3,r4'⟩ ⟨x3,by omega⟩
   have hwk1:wkB s kx kr=(!decide (kx=kr)&&(covB s c d&&(subI kr.2 kx.2 == 0))):=by unfold wkB;rw[hc,hd,Int.toNat_natCast,Int.toNat_natCast]
   have clo:∀ em':List (Rt × Int),∀ o∈[AObj.cells [sysP s],.map (mapE em'),.cells [.map 1],.loop RB,.cells [.i kr.1,.i kr.2],.cells [.i kr.1,.i kr.2],.loop R2],Z3 7 o=true:=fun em' o ho=>by
    simp only[ZD,WK,or_false] at ho
    rcases ho with rfl | rfl | rfl | rfl | rfl | rfl | rfl
    ·rfl
    ·exact FX _ _
    ·rfl
    ·exact hBo 7 (by omega)
    ·rfl
    ·rfl
    ·exact dO 7 (by omega)
   simp only[heq,evA,simprocAttr]
   cases hdc:decide (kx=kr) with
   | true =>
    rw[hdc] at hwk1
    have hw0:=hwn hwk1
    simp only[Y2,P0,evA,simprocAttr]
    refine ⟨_,rfl,?_⟩
    simp only[setLoop,evA,simprocAttr]
    rw[d9]
    exact ⟨[.cells [sysP s],.map (mapE em),.cells [.map 1],.loop RB,.cells [.i kr.1,.i kr.2],.cells [.i kr.1,.i kr.2],.loop R2],_,rfl,QC rfl,.inr (clo em),by rw[← hw0]⟩
   | false =>
   rw[hdc] at hwk1
   simp only[ZY,hc,hd,XP hcl,W3,FD hcl,P1 hdl,DN hdl,evA,simprocAttr]
   cases hcv:covB s c d with
   | false =>
    rw[hcv] at hwk1
    have hw0:=hwn hwk1
    simp only[P0,evA,simprocAttr]
    refine ⟨_,rfl,?_⟩
    simp only[setLoop,evA,simprocAttr]
    rw[d9]
    exact ⟨[.cells [sysP s],.map (mapE em),.cells [.map 1],.loop RB,.cells [.i kr.1,.i kr.2],.cells [.i kr.1,.i kr.2],.loop R2],_,by rw[hc];rfl,QC rfl,.inr (clo em),by rw[← hw0]⟩
   | true =>
   rw[hcv] at hwk1
   simp only[hsub,evA,simprocAttr]
   cases hsb:(subI kr.2 kx.2 == 0) with
   | false =>
    rw[hsb] at hwk1
    have hw0:=hwn hwk1
    simp only[P0,evA,simprocAttr]
    refine ⟨_,rfl,?_⟩
    simp only[setLoop,evA,simprocAttr]
    rw[d9]
    exact ⟨[.cells [sysP s],.map (mapE em),.cells [.map 1],.loop RB,.cells [.i kr.1,.i kr.2],.cells [.i kr.1,.i kr.2],.loop R2],_,by rw[hc];rfl,QC rfl,.inr (clo em),by rw[← hw0]⟩
   | true =>
    rw[hsb] at hwk1
    have hw0:=hwy hwk1
    have hdel':∀ J,J0 KR [.map 1,.agg [.i d,.i kx.2]] (AObj.cells [sysP s] :: .map (mapE em)::J)=some (.tup [],AObj.cells [sysP s] :: .map (mapE (delE em kx))::J):=fun J=>by rw[← hd];exact hdel J
    simp only[hdel',P0,evA,simprocAttr]
    refine ⟨_,rfl,?_⟩
    simp only[setLoop,evA,simprocAttr]
    rw[d9]
    exact ⟨[.cells [sysP s],.map (mapE (delE em kx)),.cells [.map 1],.loop RB,.cells [.i kr.1,.i kr.2],.cells [.i kr.1,.i kr.2],.loop R2],_,by rw[hc];rfl,QC rfl,.inr (clo _),by rw[← hw0]⟩
  ·rintro r τ ⟨rfl,rfl⟩
   refine ⟨R2,rfl,(by rw[d5];intro h;cases h),?_⟩
   rw[d6]
   simp only[setLoop,P0,evA,simprocAttr]
   refine ⟨RB,rfl,?_⟩
   rw[hRB]
   simp only[evA,simprocAttr]
   rw[e9]
   have hw1:HS s ez kr (K2.take K2.length)=HR s es (K.take n++[kr]):=by
    rw[X7,hez]
    exact QeT s es kr (K.take n) K2 (by rw[← hez];exact hall2)
   refine ⟨[.cells [sysP s],.map (mapE (HS s ez kr (K2.take K2.length))),.cells [.map 1],.loop R],_,rfl,QC rfl,.inr ?_,by rw[hw1]⟩
   intro o ho
   simp only[ZD,WK,or_false] at ho
   rcases ho with rfl | rfl | rfl | rfl
   ·rfl
   ·exact FX _ _
   ·rfl
   ·rw[← e9];exact eo 4 _ _ (by omega)
 ·rintro r τ ⟨rfl,rfl⟩
  refine ⟨R,rfl,(by rw[e5];intro h;cases h),?_⟩
  rw[e6,X7]
  have hwl:(HR s es K).length≤es.length:=HC _ _
  have hfin:V2 (Z4 (HR s es K))=XV s l:=by
   have h1:Z4 (HR s es K)=(ddR l).filter fun x=>!(ddR l).any fun r=>wkB s x r:=by
    have:Z4 (HR s es K)=(Z4 es).filter fun x=>!K.any fun r=>wkB s x r:=RR (p:=fun x=>!K.any fun r=>wkB s x r) es
    rw[this,hdd]
    apply JD
    intro x _
    congr 1
    rw[Q8,ZZ,ZZ]
    constructor <;> rintro ⟨r,h1,h2⟩ <;> refine ⟨r,?_,h2⟩
    ·rw[hK,VM,hdd] at h1;exact h1
    ·rw[hK,VM,hdd];exact h1
   rw[h1]
   exact (EF ((H0 _).filter _) ((GY _).filter _)).symm
  simp only[setLoop,evA,simprocAttr]
  refine (c72 (es:=HR s es K) (by omega) rfl).run ?_
  rw[hfin]
  have hfl:(XV s l).length<2 ^ 38:=by
   rw[← hfin,EE]
   show ((HR s es K).map (·.1)).length<_
   rw[ZK];omega
  simp only[evA,simprocAttr]
  refine (ac71 (XV s l) hfl _).mono ?_
  intro r τ hA
  have hnu:=hA.nu
  simp only[hnu,evA,simprocAttr]
  exact hA
def lstV (s:Sys) (l:List Rt):AV :=
 if rdE s (sysE s).2.2 [l]≠0 then .tup [rgL [],.i (rdE s (sysE s).2.2 [l])] else .tup [rgL (XV s l),.i 0]
theorem p31 (s:Sys) (hs:SSz s) (l:List Rt) (hl:l.length<2 ^ 63):PC Tryz.prog 54 [sysV s,rgL l] (lstV s l):=by
 refine ⟨ZF (fok54 true) (QC rfl) ?_,by unfold lstV;repeat (split <;> try rfl)⟩
 have h63:=fun σ l0 h0=>c63 s hs [l] (by simpa using hl) (by simp) σ l0 h0
 have hdec:=Qcd (s:=s) (l:=l)
 have hn0:=QaV (s:=s)
 have hQ:(sysQ s).isUndef=false:=by unfold sysQ;split <;> rfl
 have hQP:(sysE s).2.2=0→sysQ s=sysP s:=fun h=>if_pos h
 unfold lstV
 generalize rdE s (sysE s).2.2 [l]=e at *
 by_cases he:e=0
 rotate_left
 ·have hb:(e != 0)=true:=by simpa using he
  rw[if_pos he]
  simp only[ic54,WI,cellsOf,evA,simprocAttr]
  refine (h63 _ 1 rfl).run ?_
  generalize sysQ s=Q at *
  simp only[hQ,hb,evA,simprocAttr]
  exact .tup (.cons (.c .nl) (.cons (.c (.c _ trivial)) .nil))
 have hb2:(e != 0)=false:=by simpa using he
 obtain ⟨k1,k2⟩:=hdec he
 obtain ⟨⟨hn1,hn12⟩,hm,hok⟩:=hn0 k1
 obtain ⟨hl40,hr⟩:=ML k2
 rw[if_neg (show ¬ (e≠0) from fun h=>h he)]
 rw[hQP k1] at h63
 simp only[ic54,WI,cellsOf,evA,simprocAttr]
 refine (h63 _ 1 rfl).run ?_
 simp only[hb2,evA,simprocAttr]
 refine ((ac67 s hn12 hm l (by omega) hr).accs rfl (fun g=>rfl) _).mono ?_
 intro r τ hA
 have hnu:=hA.nu
 simp only[hnu,evA,simprocAttr]
 exact .tup (.cons (GI hA (MN _)) (.cons (.c (.c _ trivial)) .nil))
section
variable {p q:CV→Prop} {σ:List AObj}
mutual
theorem FrzC.mono (h:∀ c,p c→q c):∀ {a:AV} {c:CV},FrzC p σ a c→FrzC q σ a c
 | _,_,.c c hc=>.c c (h c hc)
 | _,_,.nl=>.nl
 | _,_,.sl l off len esz cs ds h1 h2 h3=>.sl l off len esz cs ds h1 h2 (HL.mono h h3)
 | _,_,.ptr l off cs ds h1 h2=>.ptr l off cs ds h1 (HL.mono h h2)
 | _,_,.slc l off len cap esz cs ds h1 h2 h3=>.slc l off len cap esz cs ds h1 h2 (HL.mono h h3)
theorem HL.mono (h:∀ c,p c→q c):∀ {as_:List AV} {cs:List CV},HL p σ as_ cs→HL q σ as_ cs
 | _,_,.nil=>.nil
 | _,_,.cons h1 h2=>.cons (FrzC.mono h h1) (HL.mono h h2)
end
mutual
theorem FrzV.mono (h:∀ c,p c→q c):∀ {a b:AV},FrzV p σ a b→FrzV q σ a b
 | _,_,.c h1=>.c (FrzC.mono h h1)
 | _,_,.agg h1=>.agg (KS.mono h h1)
 | _,_,.tup h1=>.tup (KS.mono h h1)
 | _,_,.fn h1=>.fn (KS.mono h h1)
 | _,_,.bm h1=>.bm (KS.mono h h1)
 | _,_,.un a=>.un a
theorem KS.mono (h:∀ c,p c→q c):∀ {as_ bs:List AV},KS p σ as_ bs→KS q σ as_ bs
 | _,_,.nil=>.nil
 | _,_,.cons h1 h2=>.cons (FrzV.mono h h1) (KS.mono h h2)
end
end
structure T3 (s:Sys) (es:List (Rt × Int)) (L:List Rt):Prop where
 nd:(Z4 es).Nodup
 mem:∀ x,x∈Z4 es↔x∈L
 ok:∀ x∈L,RgOk s x
theorem T3.len {s:Sys} {es:List (Rt × Int)} {L:List Rt} (h:T3 s es L):es.length≤L.length:=by
 have h1:=h.nd.length_le_of_subset (l₂:=L) fun x hx=>(h.mem x).1 hx
 have:(Z4 es).length=es.length:=by simp[Z4]
 omega
def rowL (l:List Rt) (c k:Nat):List Rt:=(List.range k).flatMap fun j:Nat=>if decide (((c:Int),(j:Int))∈l) then [((c:Int),(j:Int))] else []
theorem Qd8 {n:Nat} (h:n<2 ^ 40) (σ:List AObj):XB 1 24 [.cv .nils] [.i n,.i n] σ=some (.sl σ.length 0 n 1,σ++[.cells (List.replicate n (.cv .nils))]):=by
 have e:(2:Int) ^ 46=70368744177664:=by decide
 have e2:(2:Nat) ^ 40=1099511627776:=by decide
 have h1:0≤(n:Int)∧True∧(n:Int)*(24:Nat)≤2 ^ 46∧(n:Int)≤2 ^ 46∧[AV.cv .nils].length=1:=by
  refine ⟨by omega,trivial,by omega,by omega,rfl⟩
 simp only[XB]
 rw[if_pos h1]
 simp[YW]
def bitsR (L:List Rt) (N c:Nat):List Bool:=(List.range N).map fun k:Nat=>decide (((c:Int),(k:Int))∈L)
theorem c45 (a b:List Int) (ha:a.length<2 ^ 63) (hb:b.length<2 ^ 63):PC Tryz.prog 32 [ints a,ints b] (.b (decide (a=b))):=by
 refine ⟨ZF (fok32 true) (QC rfl) ?_,rfl⟩
 by_cases hlen:a.length=b.length
 rotate_left
 ·have hd:decide (a=b)=false:=decide_eq_false fun h=>hlen (by rw[h])
  have hb1:((a.length:Int) != (b.length:Int))=true:=by simp;omega
  rw[hd]
  simp only[ic32,hb1,evA,simprocAttr]
  exact frz
 have hb1:((a.length:Int) != (b.length:Int))=false:=by simp;omega
 simp only[ic32,hb1,evA,simprocAttr]
 refine ZW a.length (fun i s'=>(∀ j,j<i→a[j]?.getD 0=b[j]?.getD 0)∧∃ v5 v6,s'=⟨[ints a,ints b,.b false,.i i,.b false,v5,v6],[]⟩) ?_ 0 (QF _) ⟨by omega,_,_,rfl⟩
 rintro i s' hi ⟨hall,v5,v6,rfl⟩
 by_cases h:i<a.length
 ·have h':i<b.length:=by omega
  simp only[ic32l0,QJ,h,evA,simprocAttr]
  refine DW_s [] [] hmix (by kernel_rfl) rfl ?_
  simp only[h,h',evA,simprocAttr]
  cases he:(a[i]?.getD 0 != b[i]?.getD 0) with
  | true =>
   have hd:decide (a=b)=false:=decide_eq_false fun hh=>by rw[hh] at he;simp at he
   rw[hd]
   simp only[evA,simprocAttr]
   exact frz
  | false =>
   simp only[Q6 (show i+1<2 ^ 63 by omega),evA,simprocAttr]
   refine ZL (by first | trivial | omega) ⟨fun j hj=>?_,_,_,rfl⟩
   rcases QQ.1 hj with hj | rfl
   ·exact hall j hj
   ·simpa using he
 ·have hd:decide (a=b)=true:=decide_eq_true (by
   apply Y1 hlen
   intro j h1 h2
   have:=hall j (by omega)
   rwa [QI h1,QI h2] at this)
  rw[hd]
  simp only[ic32l0,QJ,h,evA,simprocAttr]
  exact frz
def exS:Sys:=⟨[⟨bts [97,109],[],-1,16,0⟩,⟨bts [98],[0],-1,18,15⟩,⟨bts [98,101],[1],1,18,15⟩,⟨bts [99],[1],1,21,5⟩],[bts [109,97,110,117,97,108],bts [110,105,103,104,116]]⟩
theorem c43:PC Tryz.prog 119 [] (sysV exS):=by
 refine ⟨ZF (fok119 true) (QC rfl) ?_,rfl⟩
 simp only[ic119,evA,simprocAttr]
 have C:∀ {σ:List AObj} {c:CV},scl c→FrzC scl σ (.cv c) c:=fun h=>.c _ h
 refine .agg (.cons (.c (.sl 4 0 4 5 _ _ rfl (QC rfl) ?_)) (.cons (.c (.sl 5 0 2 1 _ _ rfl (QC rfl) ?_)) .nil))
 ·refine .cons (C trivial) (.cons .nl (.cons (C trivial) (.cons (C trivial) (.cons (C trivial) (.cons (C trivial) (.cons (.sl 1 0 1 1 _ _ rfl (QC rfl) (.cons (C trivial) .nil)) (.cons (C trivial) (.cons (C trivial) (.cons (C trivial) (.cons (C trivial) (.cons (.sl 2 0 1 1 _ _ rfl (QC rfl) (.cons (C trivial) .nil)) (.cons (C trivial) (.cons (C trivial) (.cons (C trivial) (.cons (C trivial) (.cons (.sl 3 0 1 1 _ _ rfl (QC rfl) (.cons (C trivial) .nil)) (.cons (C trivial) (.cons (C trivial) (.cons (C trivial) .nil)))))))))))))))))))
 ·exact .cons (C trivial) (.cons (C trivial) .nil)
end Go.Proofs.YtgkidpolomhghaaGreatDoor.AM
namespace Go.Proofs.YtgkidpolomhghaaGreatDoor.Pl
def cnt:Nat→(Nat→Bool)→Nat
 | 0,_=>0
 | n+1,P=>cnt n P+(if P n then 1 else 0)
theorem cnt_mono {n:Nat} {P Q:Nat→Bool} (h:∀ i,i<n→P i=true→Q i=true):cnt n P≤cnt n Q:=by
 induction n with
 | zero=>exact QG _
 | succ n ih =>
  have h1:=ih (fun i hi=>h i (by omega))
  have h2:=h n (by omega)
  simp only[cnt]
  by_cases hp:P n=true
  ·simp only[hp,h2 hp,if_true];omega
  ·rw[if_neg hp];split <;> omega
theorem K1 {n:Nat} {P Q:Nat→Bool} (h:∀ i,i<n→P i=Q i):cnt n P=cnt n Q :=
 Nat.le_antisymm (cnt_mono fun i hi e=>by rw[← h i hi];exact e) (cnt_mono fun i hi e=>by rw[h i hi];exact e)
theorem cnt_lt {n:Nat} {P Q:Nat→Bool} (h:∀ i,i<n→P i=true→Q i=true) {k:Nat} (hk:k<n) (h1:P k=false) (h2:Q k=true):cnt n P+1≤cnt n Q:=by
 induction n with
 | zero=>omega
 | succ n ih =>
  simp only[cnt]
  by_cases hkn:k=n
  ·subst hkn
   have:=cnt_mono (n:=k) (fun i hi=>h i (by omega))
   simp only[h1,h2,if_true];simp;omega
  ·have h3:=ih (fun i hi=>h i (by omega)) (by omega)
   by_cases hp:P n=true
   ·simp only[hp,h n (by omega) hp,if_true];omega
   ·rw[if_neg hp];split <;> omega
theorem P7 {n:Nat} {P:Nat→Bool}:cnt n P≤n:=by
 induction n with
 | zero=>exact QG _
 | succ n ih=>simp only[cnt];split <;> omega
theorem M5 {n:Nat} {P:Nat→Bool} (h:0<cnt n P):∃ k,k<n∧P k=true:=by
 induction n with
 | zero=>simp[cnt] at h
 | succ n ih =>
  by_cases hp:P n=true
  ·exact ⟨n,by omega,hp⟩
  ·simp only[cnt,hp] at h
   obtain ⟨k,hk,h1⟩:=ih (by simpa using h)
   exact ⟨k,by omega,h1⟩
theorem KN {n:Nat} {P:Nat→Bool} (h:∀ i,i<n→P i=false):cnt n P=0:=by
 by_cases h0:0<cnt n P
 ·obtain ⟨k,hk,h1⟩:=M5 h0
  rw[h k hk] at h1;exact absurd h1 (by decide)
 ·omega
theorem cnt_one {n:Nat} {P Q:Nat→Bool} (h:∀ i k,i<n→k<n→P i=false→Q i=true→P k=false→Q k=true→i=k):cnt n Q≤cnt n P+1:=by
 induction n with
 | zero=>simp[cnt]
 | succ n ih =>
  simp only[cnt]
  by_cases hq:Q n=true
  ·by_cases hp:P n=true
   ·have:=ih (fun i k hi hk=>h i k (by omega) (by omega))
    simp only[hq,hp,if_true];omega
   ·have hp:P n=false:=by simpa using hp
    have:cnt n Q≤cnt n P:=by
     apply cnt_mono
     intro i hi hqi
     cases hpi:P i with
     | true=>rfl
     | false=>exact absurd (h i n (by omega) (by omega) hpi hqi hp hq) (by omega)
    simp only[hq,hp,if_true];simp;omega
  ·have:=ih (fun i k hi hk=>h i k (by omega) (by omega))
   rw[if_neg hq];split <;> omega
theorem JU {n:Nat} {P Q:Nat→Bool} {x:Nat} (hx:x<n) (h1:P x=false) (h2:Q x=true) (h:∀ i,i<n→i≠x→P i=Q i):cnt n Q=cnt n P+1:=by
 have a:=cnt_lt (P:=P) (Q:=Q) (n:=n) (fun i hi hp=>by
  by_cases e:i=x
  ·subst e;exact h2
  ·rw[← h i hi e];exact hp) hx h1 h2
 have b:=cnt_one (P:=P) (Q:=Q) (n:=n) (fun i k hi hk p1 q1 p2 q2=>by
  have e1:i=x:=by
   by_cases e:i=x
   ·exact e
   ·rw[h i hi e,q1] at p1;exact absurd p1 (by decide)
  have e2:k=x:=by
   by_cases e:k=x
   ·exact e
   ·rw[h k hk e,q2] at p2;exact absurd p2 (by decide)
  rw[e1,e2])
 omega
theorem G6 {m:Nat}:∀ {n:Nat} {P Q:Nat→Bool} (f:Nat→Nat),(∀ i,i<n→P i=true→f i<m∧Q (f i)=true)→(∀ i j,i<n→j<n→P i=true→P j=true→f i=f j→i=j)→cnt n P≤cnt m Q
 | 0,P,Q,f,_,_=>by simp[cnt]
 | n+1,P,Q,f,h1,h2=>by
  have ih:=fun (Q':Nat→Bool) h=>G6 (m:=m) (n:=n) (P:=P) (Q:=Q') f h fun i j hi hj=>h2 i j (by omega) (by omega)
  simp only[cnt]
  by_cases hp:P n=true
  ·obtain ⟨a,b⟩:=h1 n (by omega) hp
   have:=ih (fun k=>Q k && !(k == f n)) fun i hi hpi=>by
    obtain ⟨c,d⟩:=h1 i (by omega) hpi
    refine ⟨c,?_⟩
    have:f i≠f n:=fun e=>by have:=h2 i n (by omega) (by omega) hpi hp e;omega
    simp[d,this]
   have h3:=JU (n:=m) (P:=fun k=>Q k && !(k == f n)) (Q:=Q) (x:=f n) a (by simp) b fun i _ hne=>by simp[hne]
   rw[if_pos hp];omega
  ·rw[if_neg hp]
   exact ih Q fun i hi=>h1 i (by omega)
theorem cnt_two {n:Nat} {P:Nat→Bool} {i j:Nat} (hi:i<n) (hj:j<n) (h1:P i=true) (h2:P j=true) (hne:i≠j):2≤cnt n P:=by
 have:=G6 (n:=2) (m:=n) (P:=fun _=>true) (Q:=P) (fun x=>if x=0 then i else j) (fun x hx _=>by split <;> simp[*]) (fun x y hx hy _ _ e=>by
  by_cases a:x=0 <;> by_cases b:y=0 <;> simp[a,b] at e <;> omega)
 simpa[cnt] using this
theorem ES {n:Nat} (P Q:Nat→Bool):cnt n P=cnt n (fun k=>P k&&Q k)+cnt n (fun k=>P k && !Q k):=by
 induction n with
 | zero=>rfl
 | succ n ih =>
  simp only[cnt,ih]
  have key:∀ a b:Bool,(if a=true then 1 else 0)=(if (a&&b)=true then 1 else 0)+(if (a && !b)=true then 1 else 0):=by decide
  have:=key (P n) (Q n)
  omega
def HV:Nat→(Nat→Nat)→Nat→Nat
 | 0,_,b=>b
 | k+1,f,b=>max (HV k f b) (f k)
theorem TL:∀ {n:Nat} {f:Nat→Nat} {b:Nat},b≤HV n f b
 | 0,_,_=>QG _
 | n+1,f,b=>by have:=TL (n:=n) (f:=f) (b:=b);simp only[HV];omega
theorem QcJ:∀ {n:Nat} {f:Nat→Nat} {b k:Nat},k<n→f k≤HV n f b
 | n+1,f,b,k,h=>by
  simp only[HV]
  by_cases e:k=n
  ·subst e;omega
  ·have:=QcJ (n:=n) (f:=f) (b:=b) (k:=k) (by omega);omega
theorem I1:∀ {n:Nat} {f:Nat→Nat} {b:Nat},HV n f b=b∨∃ k,k<n∧HV n f b=f k
 | 0,_,_=>.inl rfl
 | n+1,f,b=>by
  simp only[HV]
  rcases Nat.le_total (f n) (HV n f b) with h | h
  ·rw[Nat.max_eq_left h]
   rcases I1 (n:=n) (f:=f) (b:=b) with h | ⟨k,hk,h⟩
   ·exact .inl h
   ·exact .inr ⟨k,by omega,h⟩
  ·rw[Nat.max_eq_right h];exact .inr ⟨n,by omega,rfl⟩
section
variable (can:Nat→Nat→Bool) (n:Nat)
def prF:Nat→Nat→(Nat→Bool)→Nat
 | 0,_,_=>0
 | m+1,i,B=>HV n (fun k=>if can i k && !B k then 1+prF m (i+1) (fun j=>B j||j == k) else 0) (prF m (i+1) B)
structure Mat (i:Nat) (B:Nat→Bool) (g:Nat→Option Nat):Prop where
 ok:∀ l k,i≤l→l<n→g l=some k→k<n∧can l k=true∧B k=false
 inj:∀ l l' k,i≤l→l<n→i≤l'→l'<n→g l=some k→g l'=some k→l=l'
def UL (i:Nat) (g:Nat→Option Nat):Nat:=cnt n fun l=>decide (i≤l)&&(g l).isSome
variable {can n}
theorem I3 {i:Nat} {g:Nat→Option Nat} (h:g i=none):UL n i g=UL n (i+1) g :=
 K1 fun l _=>by
  by_cases e:l=i
  ·subst e;simp[h]
  ·have:decide (i≤l)=decide (i+1≤l):=by rw[decide_eq_decide];omega
   rw[this]
theorem I2 {i k:Nat} {g:Nat→Option Nat} (hi:i<n) (h:g i=some k):UL n i g=UL n (i+1) g+1 :=
 JU hi (by simp;omega) (by simp[h]) fun l _ hne=>by
  have:decide (i≤l)=decide (i+1≤l):=by rw[decide_eq_decide];omega
  rw[this]
theorem PV:∀ (m i:Nat) (B:Nat→Bool) (g:Nat→Option Nat),i+m=n→Mat can n i B g→UL n i g≤prF can n m i B
 | 0,i,B,g,hm,h=>by
  simp only[prF,UL]
  rw[KN fun l hl=>by simp;omega];exact QG _
 | m+1,i,B,g,hm,h=>by
  simp only[prF]
  cases hg:g i with
  | none =>
   rw[I3 hg]
   refine YR (PV m (i+1) B g (by omega) ⟨fun l k h1 h2=>h.ok l k (by omega) h2,fun l l' k h1 h2 h3 h4=>h.inj l l' k (by omega) h2 (by omega) h4⟩) TL
  | some k =>
   obtain ⟨hk,hc,hb⟩:=h.ok i k (QG _) (by omega) hg
   rw[I2 (by omega) hg]
   have h1:=PV m (i+1) (fun j=>B j||j == k) g (by omega) ⟨fun l k' h1 h2 h3=>by
    obtain ⟨a,b,c⟩:=h.ok l k' (by omega) h2 h3
    refine ⟨a,b,?_⟩
    have:k'≠k:=fun e=>by subst e;have:=h.inj l i k' (by omega) h2 (QG _) (by omega) h3 hg;omega
    simp[c,this],fun l l' k h1 h2 h3 h4=>h.inj l l' k (by omega) h2 (by omega) h4⟩
   refine YR ?_ (QcJ hk)
   simp only[hc,hb,ZY,Bool.and_self,if_true]
   omega
theorem TE:∀ (m i:Nat) (B:Nat→Bool),i+m=n→∃ g,Mat can n i B g∧UL n i g=prF can n m i B
 | 0,i,B,hm=>⟨fun _=>none,⟨fun l k h1 h2 h3=>(by cases h3),fun l l' k _ _ _ _ h3=>(by cases h3)⟩,by simp only[prF,UL];exact KN fun l _=>by simp⟩
 | m + 1,i,B,hm=>by
  simp only[prF]
  rcases I1 (n:=n) (f:=fun k=>if can i k && !B k then 1+prF can n m (i+1) (fun j=>B j||j == k) else 0) (b:=prF can n m (i+1) B) with h | ⟨k,hk,h⟩
  ·rw[h]
   obtain ⟨g,hg,hs⟩:=TE m (i+1) B (by omega)
   refine ⟨fun l=>if l=i then none else g l,⟨fun l k h1 h2 h3=>?_,fun l l' k h1 h2 h3 h4 h5 h6=>?_⟩,?_⟩
   ·by_cases e:l=i
    ·simp[e] at h3
    ·simp only[e,if_false] at h3;exact hg.ok l k (by omega) h2 h3
   ·by_cases e:l=i
    ·simp[e] at h5
    ·by_cases e':l'=i
     ·simp[e'] at h6
     ·simp only[e,e',if_false] at h5 h6;exact hg.inj l l' k (by omega) h2 (by omega) h4 h5 h6
   ·rw[I3 (by simp),← hs]
    exact K1 fun l _=>by
     by_cases e:l=i
     ·subst e;simp;intro h;omega
     ·simp[e]
  ·rw [h]
   by_cases hc:(can i k && !B k)=true
   ·rw[if_pos hc]
    simp only[QD,Z0] at hc
    obtain ⟨g,hg,hs⟩:=TE m (i+1) (fun j=>B j||j == k) (by omega)
    have hgk:∀ l,i<l→l<n→g l≠some k:=fun l h1 h2 h3=>by
     have:=(hg.ok l k (by omega) h2 h3).2.2
     simp at this
    refine ⟨fun l=>if l=i then some k else g l,⟨fun l k' h1 h2 h3=>?_,fun l l' k' h1 h2 h3 h4 h5 h6=>?_⟩,?_⟩
    ·by_cases e:l=i
     ·simp only[e,if_true,Option.some.injEq] at h3;subst h3;subst e;exact ⟨hk,hc.1,hc.2⟩
     ·simp only[e,if_false] at h3
      obtain ⟨a,b,c⟩:=hg.ok l k' (by omega) h2 h3
      simp only[X8] at c
      exact ⟨a,b,c.1⟩
    ·by_cases e:l=i <;> by_cases e':l'=i <;> simp only[e,e',if_true,if_false,Option.some.injEq] at h5 h6
     ·omega
     ·subst h5;exact absurd h6 (hgk l' (by omega) h4)
     ·subst h6;exact absurd h5 (hgk l (by omega) h2)
     ·exact hg.inj l l' k' (by omega) h2 (by omega) h4 h5 h6
    ·rw[I2 (by omega) (k:=k) (by simp),Nat.add_comm 1,← hs]
     congr 1
     exact K1 fun l _=>by
      by_cases e:l=i
      ·subst e;simp;intro h;omega
      ·simp[e]
   ·rw[if_neg hc]
    obtain ⟨g,hg,hs⟩:=TE m (i+1) B (by omega)
    have:prF can n m (i+1) B≤0:=by rw[if_neg hc] at h;rw[← h];exact TL
    refine ⟨fun l=>none,⟨fun l k h1 h2 h3=>(by cases h3),fun l l' k _ _ _ _ h3=>(by cases h3)⟩,KN fun l _=>by simp⟩
theorem AF {i:Nat} {B C D:Nat→Bool} {g:Nat→Option Nat} (h:Mat can n i B g) (hc:∀ l k,i≤l→l<n→k<n→can l k=true→B k=false→C l=true∨D k=true):UL n i g≤cnt n C+cnt n D:=by
 unfold UL
 rw[ES _ C]
 refine Nat.add_le_add (cnt_mono fun l _ hl=>?_) (G6 (fun l=>(g l).getD 0) (fun l hl hp=>?_) fun l l' hl hl' hp hp' e=>?_)
 ·simp only[QD] at hl;exact hl.2
 ·simp only[QD,decide_eq_true_eq,Option.isSome_iff_exists,Z0] at hp
  obtain ⟨⟨h1,k,h2⟩,h3⟩:=hp
  obtain ⟨a,b,c⟩:=h.ok l k h1 hl h2
  rw[h2]
  refine ⟨a,?_⟩
  rcases hc l k h1 hl a b c with h4 | h4
  ·rw[h4] at h3;cases h3
  ·exact h4
 ·simp only[QD,decide_eq_true_eq,Option.isSome_iff_exists,Z0] at hp hp'
  obtain ⟨⟨h1,k,h2⟩,_⟩:=hp
  obtain ⟨⟨h1',k',h2'⟩,_⟩:=hp'
  rw[h2,h2'] at e
  simp only[Option.getD_some] at e
  subst e
  exact h.inj l l' k h1 hl h1' hl' h2 h2'
end
structure Ku where
 seen:List Bool
 bef:List Int
abbrev gI (l:List Int) (k:Nat):Int:=l[k]?.getD 0
abbrev gB (l:List Bool) (k:Nat):Bool:=l[k]?.getD false
theorem JO {l:List Int} {k j:Nat} {v:Int} (hk:k<l.length):gI (l.set k v) j=if j=k then v else gI l j:=by
 unfold gI
 by_cases e:j=k
 ·subst e;simp[hk]
 ·rw[if_neg e,QU (Ne.symm e)]
theorem DF {l:List Bool} {k j:Nat} {v:Bool} (hk:k<l.length):gB (l.set k v) j=if j=k then v else gB l j:=by
 unfold gB
 by_cases e:j=k
 ·subst e;simp[hk]
 ·rw[if_neg e,QU (Ne.symm e)]
def UC (can:Nat→Nat→Bool) (told:List Int) (mv:Nat→Ku→Bool × Ku) (i:Nat):Nat→Nat→Ku→Bool × Ku
 | 0,_,s=>(false,s)
 | m+1,k,s =>
  if can i k=true∧gB s.seen k=false∧gI told k<0 then
   if gI s.bef k<0 then (true,⟨s.seen.set k true,s.bef.set k i⟩)
   else if (mv (gI s.bef k).toNat ⟨s.seen.set k true,s.bef⟩).1=true then (true,⟨(mv (gI s.bef k).toNat ⟨s.seen.set k true,s.bef⟩).2.seen,(mv (gI s.bef k).toNat ⟨s.seen.set k true,s.bef⟩).2.bef.set k i⟩)
   else UC can told mv i m (k+1) (mv (gI s.bef k).toNat ⟨s.seen.set k true,s.bef⟩).2
  else UC can told mv i m (k+1) s
def VE (can:Nat→Nat→Bool) (told:List Int) (n:Nat):Nat→Nat→Ku→Bool × Ku
 | 0,_,s=>(false,s)
 | f+1,i,s=>UC can told (VE can told n f) i n 0 s
inductive Aug (E:Nat→Nat→Prop) (b:List Int):Nat→List Int→Prop
 | last {i k:Nat}:k<b.length→E i k→gI b k<0→Aug E b i (b.set k i)
 | step {i k l:Nat} {b1:List Int}:k<b.length→E i k→gI b k=(l:Int)→Aug E b l b1→gI b1 k=(l:Int)→Aug E b i (b1.set k i)
theorem Aug.len {E:Nat→Nat→Prop} {b b':List Int} {i:Nat} (h:Aug E b i b'):b'.length=b.length:=by
 induction h with
 | last=>simp
 | step _ _ _ _ _ ih=>simpa using ih
section
variable (can:Nat→Nat→Bool) (told:List Int) (n:Nat)
def Ed (l k:Nat):Prop:=can l k=true∧gI told k<0
structure KuSp (i k0:Nat) (s:Ku) (r:Bool × Ku):Prop where
 ls:r.2.seen.length=n
 lb:r.2.bef.length=n
 mono:∀ k,gB s.seen k=true→gB r.2.seen k=true
 keep:∀ k,gB s.seen k=true→gI r.2.bef k=gI s.bef k
 yes:r.1=true→Aug (Ed can told) s.bef i r.2.bef
 no:r.1=false→r.2.bef=s.bef∧(∀ k,k0≤k→k<n→Ed can told i k→gB r.2.seen k=true) ∧
  ∀ k,k<n→gB r.2.seen k=true→gB s.seen k=true∨(gI told k<0∧0≤gI s.bef k∧∀ k',k'<n→Ed can told (gI s.bef k).toNat k'→gB r.2.seen k'=true)
variable {can told n}
theorem BH {s:List Bool} {k:Nat} (hl:s.length=n) (hk:k<n) (h:gB s k=false):cnt n (fun j=>!gB s j)=cnt n (fun j=>!gB (s.set k true) j)+1 :=
 JU hk (by rw[DF (by omega)];simp) (by simp[h]) fun j _ hne=>by rw[DF (by omega),if_neg hne]
theorem O7 {f:Nat} {mv:Nat→Ku→Bool × Ku} (ih:∀ i s,s.seen.length=n→s.bef.length=n→cnt n (fun k=>!gB s.seen k)<f→KuSp can told n i 0 s (mv i s)) (i:Nat) :
  ∀ (m k:Nat) (s:Ku),k+m=n→s.seen.length=n→s.bef.length=n→cnt n (fun k=>!gB s.seen k)<f+1→KuSp can told n i k s (UC can told mv i m k s)
 | 0,k,s,hm,h1,h2,h3=>⟨h1,h2,fun _ h=>h,fun _ _=>rfl,fun h=>(by cases h),fun _=>⟨rfl,fun k' a b=>by omega,fun k' _ h=>.inl h⟩⟩
 | m + 1,k,s,hm,h1,h2,h3=>by
  simp only[UC]
  have hk:k<n:=by omega
  by_cases hc:can i k=true∧gB s.seen k=false∧gI told k<0
  ·rw [if_pos hc]
   obtain ⟨c1,c2,c3⟩:=hc
   have hu:=BH h1 hk c2
   by_cases hb:gI s.bef k<0
   ·rw[if_pos hb]
    refine ⟨by simpa using h1,by simpa using h2,fun j hj=>?_,fun j hj=>?_,fun _=>.last (by omega) ⟨c1,c3⟩ hb,fun h=>(by cases h)⟩
    ·show gB (s.seen.set k true) j=true
     rw[DF (by omega)];split
     ·rfl
     ·exact hj
    ·show gI (s.bef.set k i) j=_
     rw[JO (by omega),if_neg (fun e=>by rw[e,c2] at hj;cases hj)]
   ·rw [if_neg hb]
    have hs:=ih (gI s.bef k).toNat ⟨s.seen.set k true,s.bef⟩ (by simpa using h1) h2 (by show cnt n (fun j=>!gB (s.seen.set k true) j)<f;omega)
    have hsk:gB (s.seen.set k true) k=true:=by rw[DF (by omega),if_pos rfl]
    have hup:∀ j,gB s.seen j=true→gB (s.seen.set k true) j=true:=fun j hj=>by
     rw[DF (by omega)];split
     ·rfl
     ·exact hj
    generalize mv (gI s.bef k).toNat ⟨s.seen.set k true,s.bef⟩=r at hs ⊢
    by_cases hr:r.1=true
    ·rw[if_pos hr]
     refine ⟨hs.ls,by simpa using hs.lb,fun j hj=>hs.mono j (hup j hj),fun j hj=>?_,fun _=>.step (l:=(gI s.bef k).toNat) (by omega) ⟨c1,c3⟩ (by omega) (hs.yes hr) ?_,fun h=>(by cases h)⟩
     ·show gI (r.2.bef.set k i) j=_
      rw[JO (by rw[hs.lb];omega),if_neg (fun e=>by rw[e,c2] at hj;cases hj)]
      exact hs.keep j (hup j hj)
     ·have h4:gI r.2.bef k=gI s.bef k:=hs.keep k hsk
      omega
    ·rw [if_neg hr]
     have hr':r.1=false:=by cases h:r.1 <;> simp_all
     obtain ⟨e1,e2,e3⟩:=hs.no hr'
     have hle:cnt n (fun j=>!gB r.2.seen j)≤cnt n (fun j=>!gB (s.seen.set k true) j):=cnt_mono fun j _ hj=>by
      cases h:gB (s.seen.set k true) j with
      | false=>rfl
      | true=>rw[hs.mono j h] at hj;cases hj
     have hrec:=O7 ih i m (k+1) r.2 (by omega) hs.ls hs.lb (by omega)
     generalize UC can told mv i m (k+1) r.2=t at hrec ⊢
     refine ⟨hrec.ls,hrec.lb,fun j hj=>hrec.mono j (hs.mono j (hup j hj)),fun j hj=>by rw[hrec.keep j (hs.mono j (hup j hj)),hs.keep j (hup j hj)],fun h=>by have:=hrec.yes h;rwa [e1] at this,fun h=>?_⟩
     obtain ⟨g1,g2,g3⟩:=hrec.no h
     rw[e1] at g1 g3
     refine ⟨g1,fun j h4 h5 h6=>?_,fun j h4 h5=>?_⟩
     ·by_cases e:j=k
      ·subst e;exact hrec.mono j (hs.mono j hsk)
      ·exact g2 j (by omega) h5 h6
     ·rcases g3 j h4 h5 with h6 | h6
      ·rcases e3 j h4 h6 with h7 | ⟨h7,h8,h9⟩
       ·by_cases e:j=k
        ·subst e
         exact .inr ⟨c3,by omega,fun k' h10 h11=>hrec.mono k' (e2 k' (QF _) h10 h11)⟩
        ·change gB (s.seen.set k true) j=true at h7
         rw[DF (by omega),if_neg e] at h7
         exact .inl h7
       ·exact .inr ⟨h7,h8,fun k' h10 h11=>hrec.mono k' (h9 k' h10 h11)⟩
      ·exact .inr h6
  ·rw[if_neg hc]
   have hrec:=O7 ih i m (k+1) s (by omega) h1 h2 h3
   refine ⟨hrec.ls,hrec.lb,hrec.mono,hrec.keep,hrec.yes,fun h=>?_⟩
   obtain ⟨g1,g2,g3⟩:=hrec.no h
   refine ⟨g1,fun j h4 h5 h6=>?_,g3⟩
   by_cases e:j=k
   ·subst e
    cases h7:gB s.seen j with
    | true=>exact hrec.mono j h7
    | false=>exact absurd ⟨h6.1,h7,h6.2⟩ hc
   ·exact g2 j (by omega) h5 h6
theorem AO:∀ (f i:Nat) (s:Ku),s.seen.length=n→s.bef.length=n→cnt n (fun k=>!gB s.seen k)<f→KuSp can told n i 0 s (VE can told n f i s)
 | 0,_,_,_,_,h=>by omega
 | f+1,i,s,h1,h2,h3=>O7 (AO f) i n 0 s (by omega) h1 h2 h3
theorem QeG {b b':List Int} {i:Nat} (hb:b.length=n) (h:Aug (Ed can told) b i b') (l:Nat) :
  cnt n (fun k=>decide (gI told k<0)&&(gI b' k == (l:Int)))=cnt n (fun k=>decide (gI told k<0)&&(gI b k == (l:Int)))+if l=i then 1 else 0:=by
 induction h with
 | @last i k h1 h2 h3 =>
  by_cases e:l=i
  ·subst e
   rw[if_pos rfl]
   refine JU (x:=k) (by omega) ?_ ?_ fun j _ hne=>?_
   ·have:(gI b k == (l:Int))=false:=by simp;omega
    rw[this,UA]
   ·rw[JO h1,if_pos rfl];simp[h2.2]
   ·rw[JO h1,if_neg hne]
  ·rw[if_neg e]
   refine K1 fun j _=>?_
   rw[JO h1]
   split
   ·rename_i e';subst e'
    have a1:((i:Int) == (l:Int))=false:=by simp;omega
    have a2:(gI b j == (l:Int))=false:=by simp;omega
    rw[a1,a2]
   ·rfl
 | @step i k l1 b1 h1 h2 h3 h4 h5 ih =>
  have hl:=h4.len
  have hk1:k<b1.length:=by omega
  have e1:cnt n (fun j=>decide (gI told j<0)&&(gI (b1.set k i) j == (l:Int)))+(if l=l1 then 1 else 0)=cnt n (fun j=>decide (gI told j<0)&&(gI b1 j == (l:Int)))+if l=i then 1 else 0:=by
   by_cases ea:l=i
   ·by_cases eb:l=l1
    ·rw[if_pos ea,if_pos eb]
     congr 1
     refine K1 fun j _=>?_
     rw[JO hk1]
     split
     ·rename_i e';rw[e',h5,← ea,← eb]
     ·rfl
    ·rw[if_neg eb,if_pos ea]
     refine JU (x:=k) (by omega) ?_ ?_ fun j _ hne=>?_
     ·rw[h5]
      have:((l1:Int) == (l:Int))=false:=by simp;omega
      rw[this,UA]
     ·rw[JO hk1,if_pos rfl,ea];simp[h2.2]
     ·rw[JO hk1,if_neg hne]
   ·by_cases eb:l=l1
    ·rw[if_pos eb,if_neg ea]
     refine (JU (x:=k) (by omega) ?_ ?_ fun j _ hne=>?_).symm
     ·rw[JO hk1,if_pos rfl]
      have:((i:Int) == (l:Int))=false:=by simp;omega
      rw[this,UA]
     ·rw[h5,eb];simp[h2.2]
     ·rw[JO hk1,if_neg hne]
    ·rw[if_neg eb,if_neg ea]
     congr 1
     refine K1 fun j _=>?_
     rw[JO hk1]
     split
     ·rename_i e'
      have a1:((i:Int) == (l:Int))=false:=by simp;omega
      have a2:((l1:Int) == (l:Int))=false:=by simp;omega
      rw[e',h5,a1,a2]
     ·rfl
  omega
theorem aug_val {b b':List Int} {i:Nat} (hb:b.length=n) (h:Aug (Ed can told) b i b'):∀ k,k<n→gI b' k=gI b k∨(∃ l:Nat,gI b' k=(l:Int)∧Ed can told l k∧(l=i∨∃ k',k'<n∧gI told k'<0∧gI b k'=(l:Int))):=by
 induction h with
 | @last i k h1 h2 h3 =>
  intro j hj
  rw[JO h1]
  split
  ·rename_i e;subst e;exact .inr ⟨i,rfl,h2,.inl rfl⟩
  ·exact .inl rfl
 | @step i k l1 b1 h1 h2 h3 h4 h5 ih =>
  intro j hj
  have hl:=h4.len
  rw[JO (by omega)]
  split
  ·rename_i e;subst e;exact .inr ⟨i,rfl,h2,.inl rfl⟩
  ·rcases ih j hj with h6 | ⟨l,a1,a2,a3⟩
   ·exact .inl h6
   ·refine .inr ⟨l,a1,a2,.inr ?_⟩
    rcases a3 with rfl | a3
    ·exact ⟨k,by omega,h2.2,h3⟩
    ·exact a3
theorem QfA {b b':List Int} {i:Nat} (hb:b.length=n) (h:Aug (Ed can told) b i b') :
  cnt n (fun k=>decide (gI told k<0)&&decide (0≤gI b' k))=cnt n (fun k=>decide (gI told k<0)&&decide (0≤gI b k))+1:=by
 induction h with
 | @last i k h1 h2 h3 =>
  refine JU (x:=k) (by omega) ?_ ?_ fun j _ hne=>?_
  ·have:decide (0≤gI b k)=false:=by simp;omega
   rw[this,UA]
  ·rw[JO h1,if_pos rfl];simp[h2.2]
  ·rw[JO h1,if_neg hne]
 | @step i k l1 b1 h1 h2 h3 h4 h5 ih =>
  have hl:=h4.len
  rw[← ih]
  refine K1 fun j _=>?_
  rw[JO (by omega)]
  split
  ·rename_i e;rw[e,h5];simp
  ·rfl
theorem aug_shut {b b':List Int} {i:Nat} {F T:Nat→Bool} (hb:b.length=n) (ha:∀ l k,F l=true→k<n→Ed can told l k→T k=true) (hT:∀ k,k<n→T k=true→∃ l:Nat,gI b k=(l:Int)∧F l=true)
  (h:Aug (Ed can told) b i b'):F i=false∧∀ k,k<n→T k=true→gI b' k=gI b k:=by
 induction h with
 | @last i k h1 h2 h3 =>
  have hk:T k=false:=by
   cases h:T k with
   | false=>rfl
   | true=>obtain ⟨l,e,_⟩:=hT k (by omega) h;omega
  refine ⟨?_,fun j hj ht=>?_⟩
  ·cases h:F i with
   | false=>rfl
   | true=>rw[ha i k h (by omega) h2] at hk;cases hk
  ·rw[JO h1,if_neg (fun e=>by subst e;rw[ht] at hk;cases hk)]
 | @step i k l1 b1 h1 h2 h3 h4 h5 ih =>
  obtain ⟨i1,i2⟩:=ih
  have hl:=h4.len
  have hk:T k=false:=by
   cases h:T k with
   | false=>rfl
   | true =>
    obtain ⟨l,e,hf⟩:=hT k (by omega) h
    have:l=l1:=by omega
    subst this
    rw[hf] at i1;cases i1
  refine ⟨?_,fun j hj ht=>?_⟩
  ·cases h:F i with
   | false=>rfl
   | true=>rw[ha i k h (by omega) h2] at hk;cases hk
  ·rw[JO (by omega),if_neg (fun e=>by subst e;rw[ht] at hk;cases hk)]
   exact i2 j hj ht
def F2 (can:Nat→Nat→Bool) (told:List Int) (n:Nat):Nat→Nat→List Int × Nat→List Int × Nat
 | 0,_,s=>s
 | m+1,i,s =>
  F2 can told n m (i+1) ((VE can told n (n+1) i ⟨List.replicate n false,s.1⟩).2.bef,if (VE can told n (n+1) i ⟨List.replicate n false,s.1⟩).1=true then s.2+1 else s.2)
structure C9 (can:Nat→Nat→Bool) (told:List Int) (n f p0 i:Nat) (s:List Int × Nat):Prop where
 len:s.1.length=n
 val:∀ k,k<n→gI told k<0→gI s.1 k<0∨∃ l:Nat,f≤l∧l<i∧gI s.1 k=(l:Int)∧can l k=true
 one:∀ l:Nat,f≤l→cnt n (fun k=>decide (gI told k<0)&&(gI s.1 k == (l:Int)))≤1
 num:s.2=p0+cnt n (fun k=>decide (gI told k<0)&&decide (0≤gI s.1 k))
 shut:∃ F T:Nat→Bool,(∀ l k,F l=true→k<n→Ed can told l k→T k=true)∧(∀ k,k<n→T k=true→gI told k<0∧∃ l:Nat,gI s.1 k=(l:Int)∧F l=true) ∧
  ∀ l,f≤l→l<i→F l=false→∃ k,k<n∧gI told k<0∧gI s.1 k=(l:Int)
theorem Qcn {f p0 i:Nat} {s:List Int × Nat} (hf:f≤i) (h:C9 can told n f p0 i s) :
  C9 can told n f p0 (i+1) ((VE can told n (n+1) i ⟨List.replicate n false,s.1⟩).2.bef,if (VE can told n (n+1) i ⟨List.replicate n false,s.1⟩).1=true then s.2+1 else s.2):=by
 have hs:=AO (can:=can) (told:=told) (n:=n) (n+1) i ⟨List.replicate n false,s.1⟩ (by simp) h.len (by have:=P7 (n:=n) (P:=fun k=>!gB (List.replicate n false) k);show cnt n (fun k=>!gB (List.replicate n false) k)<n+1;omega)
 have hno:∀ k,gB (List.replicate n false) k=false:=fun k=>by
  unfold gB
  rw[YN];split <;> rfl
 generalize VE can told n (n+1) i ⟨List.replicate n false,s.1⟩=r at hs ⊢
 obtain ⟨F,T,ha,hb,hc⟩:=h.shut
 cases hr:r.1 with
 | true =>
  have hA:Aug (Ed can told) s.1 i r.2.bef:=hs.yes hr
  obtain ⟨s1,s2⟩:=aug_shut h.len ha (fun k h1 h2=>(hb k h1 h2).2) hA
  have hni:cnt n (fun k=>decide (gI told k<0)&&(gI s.1 k == (i:Int)))=0:=KN fun k hk=>by
   cases h1:decide (gI told k<0) with
   | false=>rfl
   | true =>
    rcases h.val k hk (of_decide_eq_true h1) with h2 | ⟨l,h2,h3,h4,_⟩
    ·have:(gI s.1 k == (i:Int))=false:=by simp;omega
     rw[this,UA]
    ·have:(gI s.1 k == (i:Int))=false:=by simp;omega
     rw[this,UA]
  refine ⟨hs.lb,fun k hk ht=>?_,fun l hl=>?_,?_,F,T,ha,fun k hk ht=>?_,fun l h1 h2 h3=>?_⟩
  ·rcases aug_val h.len hA k hk with h1 | ⟨l,h1,h2,h3⟩
   ·dsimp only;rw[h1]
    rcases h.val k hk ht with h4 | ⟨l,h4,h5,h6,h7⟩
    ·exact .inl h4
    ·exact .inr ⟨l,h4,by omega,h6,h7⟩
   ·refine .inr ⟨l,?_,?_,h1,h2.1⟩
    all_goals
     rcases h3 with rfl | ⟨k',g1,g2,g3⟩
     ·omega
     ·rcases h.val k' g1 g2 with h4 | ⟨l',h4,h5,h6,h7⟩ <;> omega
  ·dsimp only
   rw[QeG h.len hA l]
   split
   ·rename_i e;rw[e,hni];omega
   ·have:=h.one l hl;omega
  ·dsimp only
   rw[QfA h.len hA,if_pos rfl,h.num];omega
  ·obtain ⟨h1,l,h2,h3⟩:=hb k hk ht
   exact ⟨h1,l,by dsimp only;rw[s2 k hk ht];exact h2,h3⟩
  ·have h4:0<cnt n (fun k=>decide (gI told k<0)&&(gI r.2.bef k == (l:Int))):=by
    rw[QeG h.len hA l]
    by_cases e:l=i
    ·rw[if_pos e];omega
    ·rw[if_neg e]
     obtain ⟨k,k1,k2,k3⟩:=hc l h1 (by omega) h3
     have:cnt n (fun k=>decide (gI told k<0)&&(gI s.1 k == (l:Int)))≠0:=fun h0=>by
      have:=cnt_lt (n:=n) (P:=fun _=>false) (Q:=fun k=>decide (gI told k<0)&&(gI s.1 k == (l:Int))) (fun _ _ h=>by simp at h) k1 rfl (by simp[k2,k3])
      omega
     omega
   obtain ⟨k,k1,k2⟩:=M5 h4
   simp only[QD,decide_eq_true_eq,beq_iff_eq] at k2
   exact ⟨k,k1,k2.1,k2.2⟩
 | false =>
  obtain ⟨e1,e2,e3⟩:=hs.no hr
  dsimp only at e1 e2 e3
  rw[e1]
  have e3':∀ k,k<n→gB r.2.seen k=true→gI told k<0∧0≤gI s.1 k∧∀ k',k'<n→Ed can told (gI s.1 k).toNat k'→gB r.2.seen k'=true:=fun k hk hk'=>by
   rcases e3 k hk hk' with h1 | h1
   ·rw[hno] at h1;cases h1
   ·exact h1
  let G:Nat→Bool:=fun l=>l == i||decide (0<cnt n fun k=>gB r.2.seen k&&(gI s.1 k == (l:Int)))
  have hG:∀ l,G l=true→l=i∨∃ k,k<n∧gB r.2.seen k=true∧gI s.1 k=(l:Int):=fun l hl=>by
   simp only[G,WR,beq_iff_eq,decide_eq_true_eq] at hl
   rcases hl with h1 | h1
   ·exact .inl h1
   ·obtain ⟨k,k1,k2⟩:=M5 h1
    simp only[QD,beq_iff_eq] at k2
    exact .inr ⟨k,k1,k2.1,k2.2⟩
  refine ⟨h.len,fun k hk ht=>?_,h.one,by simpa using h.num,fun l=>F l||G l,fun k=>T k||gB r.2.seen k,fun l k h1 h2 h3=>?_,fun k hk ht=>?_,fun l h1 h2 h3=>?_⟩
  ·rcases h.val k hk ht with h4 | ⟨l,h4,h5,h6,h7⟩
   ·exact .inl h4
   ·exact .inr ⟨l,h4,by omega,h6,h7⟩
  ·simp only[WR] at h1 ⊢
   rcases h1 with h1 | h1
   ·exact .inl (ha l k h1 h2 h3)
   ·rcases hG l h1 with rfl | ⟨k1,a1,a2,a3⟩
    ·exact .inr (e2 k (QF _) h2 h3)
    ·obtain ⟨_,_,h4⟩:=e3' k1 a1 a2
     rw[a3] at h4
     exact .inr (h4 k h2 h3)
  ·simp only[WR] at ht
   rcases ht with ht | ht
   ·obtain ⟨h1,l,h2,h3⟩:=hb k hk ht
    exact ⟨h1,l,h2,by simp[h3]⟩
   ·obtain ⟨h1,h2,h3⟩:=e3' k hk ht
    refine ⟨h1,(gI s.1 k).toNat,by dsimp only;omega,?_⟩
    have:0<cnt n fun k'=>gB r.2.seen k'&&(gI s.1 k' == ((gI s.1 k).toNat:Int)):=by
     have:=cnt_lt (n:=n) (P:=fun _=>false) (Q:=fun k'=>gB r.2.seen k'&&(gI s.1 k' == ((gI s.1 k).toNat:Int))) (fun _ _ h=>by simp at h) hk rfl (by simp[ht];omega)
     omega
    show (F _||(_ == i||decide _))=true
    rw[decide_eq_true this];simp
  ·simp only[X8] at h3
   have hli:l≠i:=fun e=>by
    have:=h3.2
    simp[G,e] at this
   exact hc l h1 (by omega) h3.1
theorem O8 {f p0:Nat}:∀ (m i:Nat) (s:List Int × Nat),f≤i→C9 can told n f p0 i s→C9 can told n f p0 (i+m) (F2 can told n m i s)
 | 0,_,_,_,h=>h
 | m+1,i,s,hf,h=>by
  have:=O8 m (i+1) _ (by omega) (Qcn hf h)
  rwa [show i+1+m=i+(m+1) by omega] at this
theorem Qde {f p0:Nat} {s:List Int × Nat} (hfn:f≤n) (h:C9 can told n f p0 n s) :
  s.2=p0+prF can n (n-f) f (fun k=>!decide (gI told k<0)) ∧
  ∃ C D:Nat→Bool,(∀ l k,f≤l→l<n→k<n→can l k=true→gI told k<0→C l=true∨D k=true)∧cnt n C+cnt n D=prF can n (n-f) f (fun k=>!decide (gI told k<0)):=by
 obtain ⟨F,T,ha,hb,hc⟩:=h.shut
 have hone:=h.one
 have hval:=h.val
 have inj:∀ (l:Nat),f≤l→∀ k k',k<n→k'<n→gI told k<0→gI told k'<0→gI s.1 k=(l:Int)→gI s.1 k'=(l:Int)→k=k':=fun l hl k k' h1 h2 h3 h4 h5 h6=>by
  by_cases e:k=k'
  ·exact e
  ·have:=cnt_two (n:=n) (P:=fun k=>decide (gI told k<0)&&(gI s.1 k == (l:Int))) h1 h2 (by simp[h3,h5]) (by simp[h4,h6]) e
   have:=hone l hl
   omega
 have hlow:cnt n (fun k=>decide (gI told k<0)&&decide (0≤gI s.1 k))≤prF can n (n-f) f (fun k=>!decide (gI told k<0)):=by
  have hex:∀ l:Nat,∃ o:Option Nat,(∀ k,o=some k→k<n∧gI told k<0∧gI s.1 k=(l:Int))∧(o=none→∀ k,k<n→gI told k<0→gI s.1 k≠(l:Int)):=fun l=>by
   by_cases h1:∃ k,k<n∧gI told k<0∧gI s.1 k=(l:Int)
   ·obtain ⟨k,hk⟩:=h1
    exact ⟨some k,fun k' e=>by cases e;exact hk,fun e=>by cases e⟩
   ·exact ⟨none,fun k e=>by (cases e),fun _ k a b c=>h1 ⟨k,a,b,c⟩⟩
  obtain ⟨g,hg⟩:=Classical.axiomOfChoice hex
  have hM:Mat can n f (fun k=>!decide (gI told k<0)) g:=by
   refine ⟨fun l k h1 h2 h3=>?_,fun l l' k h1 h2 h3 h4 h5 h6=>?_⟩
   ·obtain ⟨a,b,c⟩:=(hg l).1 k h3
    refine ⟨a,?_,by simp[b]⟩
    rcases hval k a b with h4 | ⟨l',h4,h5,h6,h7⟩
    ·omega
    ·have:l'=l:=by omega
     rw[← this];exact h7
   ·have a:=((hg l).1 k h5).2.2
    have b:=((hg l').1 k h6).2.2
    omega
  refine YR (G6 (fun k=>(gI s.1 k).toNat) (fun k hk hp=>?_) fun k k' hk hk' hp hp' e=>?_) (PV (n-f) f _ g (by omega) hM)
  ·simp only[QD,decide_eq_true_eq] at hp
   rcases hval k hk hp.1 with h4 | ⟨l,h4,h5,h6,h7⟩
   ·omega
   ·refine ⟨by rw[h6];simpa using h5,?_⟩
    rw[h6]
    simp only[Int.toNat_natCast,QD,decide_eq_true_eq]
    refine ⟨h4,?_⟩
    cases h8:g l with
    | some _=>rfl
    | none=>exact absurd h6 ((hg l).2 h8 k hk hp.1)
  ·simp only[QD,decide_eq_true_eq] at hp hp'
   rcases hval k hk hp.1 with h4 | ⟨l,h4,h5,h6,h7⟩
   ·omega
   ·exact inj l h4 k k' hk hk' hp.1 hp'.1 h6 (by omega)
 have hcov:cnt n (fun l=>decide (f≤l) && !F l)+cnt n T≤cnt n (fun k=>decide (gI told k<0)&&decide (0≤gI s.1 k)):=by
  rw[ES (fun k=>decide (gI told k<0)&&decide (0≤gI s.1 k)) T,Nat.add_comm]
  refine Nat.add_le_add (cnt_mono fun k hk ht=>?_) ?_
  ·obtain ⟨h1,l,h2,h3⟩:=hb k hk ht
   simp[h1,ht,h2]
  ·have hex:∀ l:Nat,∃ k:Nat,f≤l→l<n→F l=false→k<n∧gI told k<0∧gI s.1 k=(l:Int):=fun l=>by
    by_cases h1:f≤l∧l<n∧F l=false
    ·obtain ⟨k,hk⟩:=hc l h1.1 h1.2.1 h1.2.2
     exact ⟨k,fun _ _ _=>hk⟩
    ·exact ⟨0,fun a b c=>absurd ⟨a,b,c⟩ h1⟩
   obtain ⟨g,hg⟩:=Classical.axiomOfChoice hex
   refine G6 g (fun l hl hp=>?_) fun l l' hl hl' hp hp' e=>?_
   ·simp only[QD,decide_eq_true_eq,Z0] at hp
    obtain ⟨a,b,c⟩:=hg l hp.1 hl hp.2
    refine ⟨a,?_⟩
    have hTk:T (g l)=false:=by
     cases h4:T (g l) with
     | false=>rfl
     | true =>
      obtain ⟨_,l',h5,h6⟩:=hb (g l) a h4
      have:l'=l:=by omega
      rw[this,hp.2] at h6;cases h6
    simp[b,c,hTk]
   ·simp only[QD,decide_eq_true_eq,Z0] at hp hp'
    have c:=(hg l hp.1 hl hp.2).2.2
    have c':=(hg l' hp'.1 hl' hp'.2).2.2
    rw[e] at c
    omega
 have hcv:∀ l k,f≤l→l<n→k<n→can l k=true→gI told k<0→(decide (f≤l) && !F l)=true∨T k=true:=fun l k h1 h2 h3 h4 h5=>by
  cases h6:F l with
  | false=>simp[h1]
  | true=>exact .inr (ha l k h6 h3 ⟨h4,h5⟩)
 have hup:prF can n (n-f) f (fun k=>!decide (gI told k<0))≤cnt n (fun l=>decide (f≤l) && !F l)+cnt n T:=by
  obtain ⟨g,hg,hs⟩:=TE (can:=can) (n:=n) (n-f) f (fun k=>!decide (gI told k<0)) (by omega)
  rw[← hs]
  exact AF hg fun l k h1 h2 h3 h4 h5=>hcv l k h1 h2 h3 h4 (by simpa using h5)
 refine ⟨by rw[h.num];omega,_,_,hcv,by omega⟩
end
section
variable (can:Nat→Nat→Bool) (n:Nat)
def J2 (m i:Nat) (B:Nat→Bool) (k:Nat):Bool:=can i k && !B k&&decide (1+prF can n m (i+1) (fun j=>B j||j == k)=prF can n (m+1) i B)
def XQ (p:Nat→Bool):Nat→Nat→Int
 | 0,_=>-1
 | m+1,k=>if p k=true then k else XQ p m (k+1)
def addB (B:Nat→Bool) (c:Int):Nat→Bool:=fun j=>B j||decide ((j:Int)=c)
def nxL:Nat→Nat→(Nat→Bool)→List Int
 | 0,_,_=>[]
 | m+1,i,B=>XQ (J2 can n m i B) n 0::nxL m (i+1) (addB B (XQ (J2 can n m i B) n 0))
theorem Qbu {p:Nat→Bool}:∀ (m k:Nat),(∀ j,k≤j→j<k+m→p j=false)→XQ p m k = -1
 | 0,_,_=>rfl
 | m+1,k,h=>by
  rw[XQ,if_neg (by rw[h k (QG _) (by omega)];decide)]
  exact Qbu m (k+1) fun j h1 h2=>h j (by omega) (by omega)
theorem Qbt {p:Nat→Bool}:∀ (m k x:Nat),k≤x→x<k+m→(∀ j,k≤j→j<x→p j=false)→p x=true→XQ p m k=x
 | 0,k,x,h1,h2,_,_=>by omega
 | m+1,k,x,h1,h2,h3,h4=>by
  by_cases e:k=x
  ·subst e;rw[XQ,if_pos h4]
  ·rw[XQ,if_neg (by rw[h3 k (QG _) (by omega)];decide)]
   exact Qbt m (k+1) x (by omega) (by omega) (fun j a b=>h3 j (by omega) b) h4
theorem NE {p:Nat→Bool}:∀ (m k:Nat),(XQ p m k = -1∧∀ j,k≤j→j<k+m→p j=false)∨∃ x,k≤x∧x<k+m∧p x=true∧XQ p m k=x∧∀ j,k≤j→j<x→p j=false
 | 0,k=>.inl ⟨rfl,fun j _ _=>by omega⟩
 | m + 1,k=>by
  rw[XQ]
  by_cases h:p k=true
  ·rw[if_pos h];exact .inr ⟨k,QG _,by omega,h,rfl,fun j _ _=>by omega⟩
  ·rw[if_neg h]
   have h':p k=false:=by simpa using h
   rcases NE (p:=p) m (k+1) with ⟨h1,h2⟩ | ⟨x,h1,h2,h3,h4,h5⟩
   ·exact .inl ⟨h1,fun j a b=>by
     by_cases e:j=k
     ·subst e;exact h'
     ·exact h2 j (by omega) (by omega)⟩
   ·exact .inr ⟨x,by omega,by omega,h3,h4,fun j a b=>by
     by_cases e:j=k
     ·subst e;exact h'
     ·exact h5 j (by omega) b⟩
variable {can n}
theorem nx_len:∀ (m i:Nat) (B:Nat→Bool),(nxL can n m i B).length=m
 | 0,_,_=>rfl
 | m+1,i,B=>by simp[nxL,nx_len m]
theorem V6:∀ (m i:Nat) (B B':Nat→Bool),(∀ k,k<n→B k=B' k)→prF can n m i B=prF can n m i B'
 | 0,_,_,_,_=>rfl
 | m+1,i,B,B',h=>by
  have key:∀ t,t≤n→HV t (fun k=>if can i k && !B k then 1+prF can n m (i+1) (fun j=>B j||j == k) else 0) (prF can n m (i+1) B)=HV t (fun k=>if can i k && !B' k then 1+prF can n m (i+1) (fun j=>B' j||j == k) else 0) (prF can n m (i+1) B'):=by
   intro t
   induction t with
   | zero=>intro _;simp only[HV];exact V6 m (i+1) B B' h
   | succ t ih =>
    intro ht
    simp only[HV]
    rw[ih (by omega),h t (by omega),V6 m (i+1) (fun j=>B j||j == t) (fun j=>B' j||j == t) fun k hk=>by rw[h k hk]]
  simp only[prF]
  exact key n (QG _)
structure NxOk (can:Nat→Nat→Bool) (n i:Nat) (B:Nat→Bool) (l:List Int) (p:Nat):Prop where
 ok:∀ j,j<l.length→gI l j = -1∨∃ k:Nat,gI l j=(k:Int)∧k<n∧can (i+j) k=true∧B k=false
 inj:∀ j j',j<l.length→j'<l.length→gI l j=gI l j'→0≤gI l j→j=j'
 num:cnt l.length (fun j=>decide (0≤gI l j))=p
theorem QcD {x:Int} {l:List Int}:cnt (x::l).length (fun j=>decide (0≤gI (x::l) j))=cnt l.length (fun j=>decide (0≤gI l j))+if 0≤x then 1 else 0:=by
 have key:∀ m,cnt (m+1) (fun j=>decide (0≤gI (x::l) j))=cnt m (fun j=>decide (0≤gI l j))+if 0≤x then 1 else 0:=by
  intro m
  induction m with
  | zero=>simp[cnt,gI]
  | succ m ih =>
   rw[cnt,ih]
   simp only[cnt]
   have:gI (x::l) (m+1)=gI l m:=by simp[gI]
   rw[this];omega
 exact key l.length
theorem nx_ok:∀ (m i:Nat) (B:Nat→Bool),i+m=n→NxOk can n i B (nxL can n m i B) (prF can n m i B)
 | 0,i,B,_=>⟨fun j h=>by simp[nxL] at h,fun j _ h=>by simp[nxL] at h,by simp[nxL,prF,cnt]⟩
 | m + 1,i,B,hm=>by
  have ih:=fun B'=>nx_ok m (i+1) B' (by omega)
  have sh:∀ (x:Int) (l:List Int) j,gI (x::l) (j+1)=gI l j:=fun x l j=>by simp[gI]
  have s0:∀ (x:Int) (l:List Int),gI (x::l) 0=x:=fun x l=>by simp[gI]
  simp only[nxL]
  rcases NE (p:=J2 can n m i B) n 0 with ⟨h1,h2⟩ | ⟨x,h1,h2,h3,h4,_⟩
  ·rw [h1]
   have hB:∀ k,k<n→addB B (-1) k=B k:=fun k _=>by
    have:decide ((k:Int) = -1)=false:=decide_eq_false (by omega)
    simp only[addB,this,Bool.or_false]
   have e1:prF can n (m+1) i B=prF can n m (i+1) B:=by
    simp only[prF]
    rcases I1 (n:=n) (f:=fun k=>if can i k && !B k then 1+prF can n m (i+1) (fun j=>B j||j == k) else 0) (b:=prF can n m (i+1) B) with h | ⟨k,hk,h⟩
    ·exact h
    ·have h5:=h2 k (QF _) (by omega)
     simp only[J2,prF,h] at h5
     by_cases hc:(can i k && !B k)=true
     ·rw[if_pos hc] at h5
      simp[hc] at h5
     ·rw[if_neg hc] at h
      have:prF can n m (i+1) B≤0:=by rw[← h];exact TL
      omega
   have ih:=ih (addB B (-1))
   rw[V6 m (i+1) _ _ hB,← e1] at ih
   refine ⟨fun j hj=>?_,fun j j' hj hj' e h0=>?_,?_⟩
   ·cases j with
    | zero=>exact .inl (s0 _ _)
    | succ j =>
     rw[sh]
     rcases ih.ok j (by simpa using hj) with h | ⟨k,a,b,c,d⟩
     ·exact .inl h
     ·exact .inr ⟨k,a,b,by rw[show i+(j+1)=i+1+j by omega];exact c,by rw[← hB k b];exact d⟩
   ·cases j with
    | zero=>rw[s0] at h0;omega
    | succ j =>
     cases j' with
     | zero=>rw[s0] at e;rw[e] at h0;omega
     | succ j' =>
      rw[sh] at e h0;rw[sh] at e
      have:=ih.inj j j' (by simpa using hj) (by simpa using hj') e h0
      omega
   ·rw[QcD,ih.num];simp
  ·rw [h4]
   simp only[J2,QD,Z0,decide_eq_true_eq] at h3
   obtain ⟨⟨c1,c2⟩,c3⟩:=h3
   have ih:=ih (addB B x)
   have hB:∀ k,k<n→addB B (x:Int) k=(B k||k == x):=fun k _=>by
    have:decide ((k:Int)=(x:Int))=(k == x):=by rw[Q8];simp;omega
    simp only[addB,this]
   rw[V6 m (i+1) _ _ hB] at ih
   have hno:∀ j,j<(nxL can n m (i+1) (addB B x)).length→gI (nxL can n m (i+1) (addB B x)) j≠x:=fun j hj e=>by
    rcases ih.ok j hj with h | ⟨k,a,b,c,d⟩
    ·omega
    ·have:k=x:=by omega
     subst this
     rw[hB k b] at d
     simp at d
   refine ⟨fun j hj=>?_,fun j j' hj hj' e h0=>?_,?_⟩
   ·cases j with
    | zero=>exact .inr ⟨x,s0 _ _,by omega,c1,c2⟩
    | succ j =>
     rw[sh]
     rcases ih.ok j (by simpa using hj) with h | ⟨k,a,b,c,d⟩
     ·exact .inl h
     ·refine .inr ⟨k,a,b,by rw[show i+(j+1)=i+1+j by omega];exact c,?_⟩
      rw[hB k b] at d
      simp only[X8] at d
      exact d.1
   ·cases j with
    | zero =>
     cases j' with
     | zero=>rfl
     | succ j'=>rw[s0,sh] at e;exact absurd e.symm (hno j' (by simpa using hj'))
    | succ j =>
     cases j' with
     | zero=>rw[s0,sh] at e;exact absurd e (hno j (by simpa using hj))
     | succ j' =>
      rw[sh] at e h0;rw[sh] at e
      have:=ih.inj j j' (by simpa using hj) (by simpa using hj') e h0
      omega
   ·rw[QcD,ih.num,← c3,if_pos (VV x)];omega
end
section
variable (nx:List Int)
def chF:Nat→Nat→List Nat
 | 0,_=>[]
 | f+1,k=>k::if gI nx k<0 then [] else chF f (gI nx k).toNat
def V3 (i:Nat):Bool:=!nx.contains (i:Int)
def DD (n:Nat):List Nat:=(List.range n).filter (V3 nx)
def LQ (n:Nat):List (List Nat):=(DD nx n).map (chF nx (n+1))
structure NxW (can:Nat→Nat→Bool) (rk:Nat→Int) (n:Nat) (nx:List Int):Prop where
 len:nx.length=n
 ok:∀ j,j<n→gI nx j = -1∨∃ k:Nat,gI nx j=(k:Int)∧k<n∧can j k=true
 inj:∀ j j',j<n→j'<n→gI nx j=gI nx j'→0≤gI nx j→j=j'
 up:∀ i k,i<n→k<n→can i k=true→rk i<rk k
variable {nx} {can:Nat→Nat→Bool} {rk:Nat→Int} {n:Nat}
def muK (rk:Nat→Int) (n k:Nat):Nat:=cnt n fun j=>decide (rk k<rk j)
theorem Qd6 {i k:Nat} (hk:k<n) (h:rk i<rk k):muK rk n k<muK rk n i:=by
 have:=cnt_lt (n:=n) (P:=fun j=>decide (rk k<rk j)) (Q:=fun j=>decide (rk i<rk j)) (fun j _ hj=>by simp only[decide_eq_true_eq] at hj ⊢;omega) hk (by simp) (by simpa using h)
 unfold muK;omega
theorem mu_le {k:Nat}:muK rk n k≤n:=P7
end
section
variable (can:Nat→Nat→Bool) (n:Nat)
structure QeK (can:Nat→Nat→Bool) (n:Nat) (done last:List Nat) (g:Nat→Option Nat):Prop where
 mat:∀ l k,g l=some k→l∈done∧k∈done∧can l k=true
 inj:∀ l l' k,g l=some k→g l'=some k→l=l'
 nd:last.Nodup
 sub:∀ x∈last,x∈done∧g x=none
 num:cnt n (fun l=>(g l).isSome)+last.length=done.length
variable {can n}
end
section
variable (can:Nat→Nat→Bool) (n:Nat)
def L0 (S:Int) (k:Nat):Bool:=(List.range n).any fun i=>can i k && !bit S i
def cvrN (S:Int):Nat:=cnt n (bit S)+cnt n (L0 can n S)
def YS (p:Nat→Bool):List Int:=((List.range n).filter p).map fun (k:Nat)=>(k:Int)
def bstS (c:Nat→Nat):Nat→Nat
 | 0=>0
 | s+1=>if c (s+1)<c (bstS c s) then s+1 else bstS c s
def setW (C:Nat→Bool):Nat→Nat
 | 0=>0
 | k+1=>setW C k+if C k then 2 ^ k else 0
variable {can n}
theorem O5 {S:Int} {k:Nat}:L0 can n S k=true↔∃ i,i<n∧can i k=true∧bit S i=false:=by
 simp[L0,ZZ]
theorem QcG (p:Nat→Bool):(YS n p).length=cnt n p:=by
 unfold YS
 rw[ZK]
 induction n with
 | zero=>rfl
 | succ m ih =>
  rw[WM,List.filter_append,QM,ih,cnt]
  by_cases hm:p m=true
  ·simp[hm]
  ·simp[hm]
theorem ET (p:Nat→Bool) (m:Nat):YS (m+1) p=YS m p++if p m=true then [(m:Int)] else []:=by
 unfold YS
 rw[WM,List.filter_append,ZS]
 by_cases hm:p m=true
 ·simp[hm]
 ·simp[hm]
theorem bits_mem {p:Nat→Bool} {z:Int}:z∈YS n p↔∃ k:Nat,z=(k:Int)∧k<n∧p k=true:=by
 unfold YS
 simp only[ZP,YB,ZI]
 constructor
 ·rintro ⟨k,⟨a,b⟩,rfl⟩;exact ⟨k,rfl,a,b⟩
 ·rintro ⟨k,rfl,a,b⟩;exact ⟨k,⟨a,b⟩,rfl⟩
theorem QdE {p q:Nat→Bool} (h:∀ k,k<n→p k=q k):YS n p=YS n q:=by
 unfold YS
 congr 1
 exact JD fun k hk=>h k (ZI.1 hk)
theorem Qa1 {C:Nat→Bool}:∀ m,setW C m<2 ^ m
 | 0=>by simp[setW]
 | m+1=>by
  have:=Qa1 (C:=C) m
  rw[setW,Nat.pow_succ]
  split <;> omega
theorem Qb2 {C:Nat→Bool} {k:Nat}:∀ m,k<m→(setW C m).testBit k=C k
 | 0,h=>by omega
 | m+1,h=>by
  rw[setW]
  by_cases e:k=m
  ·subst e
   have:=Qa1 (C:=C) k
   by_cases hc:C k=true
   ·rw[if_pos hc,hc,Nat.add_comm,Nat.testBit_two_pow_add_eq,UQ this];rfl
   ·rw[if_neg hc,Nat.add_zero,UQ this];simpa using hc
  ·have ih:=Qb2 (C:=C) (k:=k) m (by omega)
   by_cases hc:C m=true
   ·rw[if_pos hc,Nat.add_comm,Nat.testBit_two_pow_add_gt (by omega)];exact ih
   ·rw[if_neg hc,Nat.add_zero];exact ih
theorem cov_ge (S:Int):prF can n n 0 (fun _=>false)≤cvrN can n S:=by
 obtain ⟨g,hg,hs⟩:=TE (can:=can) (n:=n) n 0 (fun _=>false) (by omega)
 rw[← hs]
 exact AF hg fun l k _ hl hk hc _=>by
  cases hb:bit S l with
  | true=>exact .inl rfl
  | false=>exact .inr (O5.2 ⟨l,hl,hc,hb⟩)
theorem ku_nil:C9 can (List.replicate n (-1)) n 0 0 0 (List.replicate n (-1),0):=by
 have hg:∀ k,gI (List.replicate n (-1)) k=if k<n then -1 else 0:=fun k=>by
  unfold gI
  rw[YN]
  split <;> rfl
 refine ⟨by simp,fun k hk _=>.inl (by rw[hg,if_pos hk];decide),fun l _=>?_,?_,fun _=>false,fun _=>false,fun l k h=>(by cases h),fun k _ h=>(by cases h),fun l _ h=>absurd h (W5 _)⟩
 ·rw[KN fun k hk=>by
   have:(gI (List.replicate n (-1)) k == (l:Int))=false:=by rw[hg,if_pos hk];exact beq_eq_false_iff_ne.2 (by omega)
   rw[this,UA]]
  exact QF _
 ·rw[KN fun k hk=>by
   have:decide (0≤gI (List.replicate n (-1)) k)=false:=by rw[hg,if_pos hk];decide
   rw[this,UA]]
theorem cov_ex:∃ S:Nat,S<2 ^ n∧cvrN can n (S:Int)=prF can n n 0 (fun _=>false):=by
 have hg:∀ k,k<n→gI (List.replicate n (-1)) k<0:=fun k hk=>by
  unfold gI
  rw[YN,if_pos hk];decide
 have h:=O8 (can:=can) n 0 _ (QG _) (ku_nil (can:=can) (n:=n))
 rw[ZV] at h
 obtain ⟨_,C,D,h1,h2⟩:=Qde (QF _) h
 rw[Nat.sub_zero,V6 n 0 _ (fun _=>false) fun k hk=>by rw[decide_eq_true (hg k hk)];rfl] at h2
 refine ⟨setW C n,Qa1 n,Nat.le_antisymm ?_ (cov_ge _)⟩
 rw[← h2]
 have hb:∀ i,i<n→bit (setW C n:Nat) i=C i:=fun i hi=>by
  unfold bit
  rw[Int.toNat_natCast];exact Qb2 n hi
 refine Nat.add_le_add (Nat.le_of_eq (K1 hb)) (cnt_mono fun k hk hn=>?_)
 obtain ⟨i,hi,hc,hbi⟩:=O5.1 hn
 rcases h1 i k (QF _) hi hk hc (hg k hk) with h3 | h3
 ·rw[hb i hi,h3] at hbi;cases hbi
 ·exact h3
end
theorem QaI {c:Nat→Nat}:∀ s,bstS c s≤s∧(∀ j,j<bstS c s→c (bstS c s)<c j)∧∀ j,j≤s→c (bstS c s)≤c j
 | 0=>⟨QG _,fun j h=>absurd h (W5 _),fun j h=>by
  have:j=0:=by omega
  subst this;exact QG _⟩
 | s+1=>by
  obtain ⟨h1,h2,h3⟩:=QaI (c:=c) s
  rw[bstS]
  split
  ·rename_i h
   refine ⟨QG _,fun j hj=>?_,fun j hj=>?_⟩
   ·have:=h3 j (by omega);omega
   ·by_cases e:j=s+1
    ·subst e;exact QG _
    ·have:=h3 j (by omega);omega
  ·rename_i h
   refine ⟨by omega,h2,fun j hj=>?_⟩
   by_cases e:j=s+1
   ·subst e;omega
   ·exact h3 j (by omega)
def G7 (can:Nat→Nat→Bool) (n:Nat):Nat:=bstS (fun s=>cvrN can n (s:Nat)) (2 ^ n-1)
theorem QbG {can:Nat→Nat→Bool} {n:Nat}:G7 can n<2 ^ n∧cvrN can n (G7 can n:Nat)=prF can n n 0 (fun _=>false)∧∀ j,j<G7 can n→cvrN can n (j:Nat)≠prF can n n 0 (fun _=>false):=by
 obtain ⟨h1,h2,h3⟩:=QaI (c:=fun s=>cvrN can n (s:Nat)) (2 ^ n-1)
 have hp:0<2 ^ n:=Nat.two_pow_pos n
 obtain ⟨S,hS,he⟩:=cov_ex (can:=can) (n:=n)
 have h4:=h3 S (by omega)
 have h5:=cov_ge (can:=can) (n:=n) (G7 can n:Nat)
 have e:cvrN can n (G7 can n:Nat)=prF can n n 0 (fun _=>false):=by
  refine Nat.le_antisymm ?_ h5
  rw[← he];exact h4
 refine ⟨?_,e,fun j hj=>?_⟩
 ·have:G7 can n≤2 ^ n-1:=h1
  omega
 ·have:=h2 j hj
  have h6:cvrN can n (G7 can n:Nat)<cvrN can n (j:Nat):=this
  omega
end Go.Proofs.YtgkidpolomhghaaGreatDoor.Pl
namespace Go.Proofs.YtgkidpolomhghaaGreatDoor.AM
variable [Dr]
open Go Pl
structure Les where
 le:Int
 te:Int
 ca:Int
 b:Int
 e:Int
 f:Int
 o:Int
deriving Inhabited
abbrev lesC (l:Les):List CV:=[.int .i64 l.le,.int .i64 l.te,.int .i64 l.ca,.int .i64 l.b,.int .i64 l.e,.int .i64 l.f,.int .i64 l.o]
abbrev lesA (l:Les):AV:=.agg [.i l.le,.i l.te,.i l.ca,.i l.b,.i l.e,.i l.f,.i l.o]
structure Dy where
 mi:List (List Int)
 ls:List Les
deriving Inhabited
abbrev rowC (zs:List Int):CV:=.rsl (zs.map (.int .i64)) zs.length
abbrev minR (m:List (List Int)):CV:=.rsl (m.map rowC) m.length
def F0 (l:List Les):List CV:=l.flatMap lesC
abbrev lesR (l:List Les):CV:=.rsl (F0 l) l.length
abbrev dyV (d:Dy):AV:=.agg [.cv (minR d.mi),.cv (lesR d.ls)]
theorem HJ (l:Les):(lesC l).length=7:=rfl
theorem Qel (l:List Les):(F0 l).length=l.length*7:=UG HJ l
section
variable {l:List Les} {k:Nat}
theorem les_3 (h:k<l.length):(F0 l)[k*7+3]? = some (.int .i64 (l[k]!).b):=flat_get HJ h (j:=3) (by omega)
theorem Qcl (h:k<l.length) (σ:List AObj):YF 7 [.cv (.rp (F0 l) (k*7))] σ=some (lesA l[k]!,σ):=by
 have h1:k*7+7≤(F0 l).length:=by rw[Qel];omega
 have h2:=G3 HJ h
 simp only[YF,h1,if_true]
 unfold F0;rw[h2];rfl
theorem F5 (h:k<l.length) (σ:List AObj):VP 7 [.cv (lesR l),.cv (.int .i64 k)] σ=some (.cv (.rp (F0 l) (k*7)),σ):=XP h σ
end
theorem B7 {m:List (List Int)} {k:Nat} (h:k<m.length):(m.map rowC)[k]? = some (rowC m[k]!):=by simp[h]
def fndE (g:Nat→Int):Nat→Nat→Int × Int
 | _,0=>(0,0)
 | i,k+1=>if g i=0 then fndE g (i+1) k else (i,g i)
theorem J7 {g:Nat→Int}:∀ (k i:Nat),(∀ j,i≤j→j<i+k→g j=0)→fndE g i k=(0,0)
 | 0,_,_=>rfl
 | k+1,i,h=>by
  rw[fndE,if_pos (h i (QG _) (by omega))]
  exact J7 k (i+1) fun j h1 h2=>h j (by omega) (by omega)
theorem VO {g:Nat→Int}:∀ (k i m:Nat),i≤m→m<i+k→(∀ j,i≤j→j<m→g j=0)→g m≠0→fndE g i k=((m:Int),g m)
 | 0,i,m,h1,h2,_,_=>by omega
 | k+1,i,m,h1,h2,h3,h4=>by
  rcases ZB i m with h | h
  ·rw[fndE,if_pos (h3 i (QG _) h)]
   exact VO k (i+1) m h (by omega) (fun j a b=>h3 j (by omega) b) h4
  ·have:i=m:=by omega
   subst this
   rw[fndE,if_neg h4]
theorem LJ {g:Nat→Int}:∀ (k i:Nat),(fndE g i k).2=0→∀ j,i≤j→j<i+k→g j=0
 | 0,_,_,j,h1,h2=>by omega
 | k+1,i,h,j,h1,h2=>by
  rw[fndE] at h
  by_cases h0:g i=0
  ·rw[if_pos h0] at h
   rcases Nat.eq_or_lt_of_le h1 with rfl | h3
   ·exact h0
   ·exact LJ k (i+1) h j h3 (by omega)
  ·rw[if_neg h0] at h;exact absurd h h0
def rowE (d:Dy) (i:Nat):Int :=
 if (d.mi[i]!).length≠d.mi.length then 3 else if outF 0 120 d.mi[i]! = true then 7 else if gI d.mi[i]! i≠0 then 2 else 0
def lesE (d:Dy) (l:Les):Int :=
 if (outF 0 1440 [l.b,l.e]||outF 0 7 [l.le,l.te,l.ca])=true then 7 else if l.b≥l.e then 2 else if outF 0 ((d.mi.length:Int)-1) [l.f,l.o]=true then 4 else 0
def dyE (d:Dy):Int × Int × Int :=
 if (outF 1 16 [(d.mi.length:Int)]||decide ((d.ls.length:Int)>12))=true then (1,0,3)
 else if (fndE (rowE d) 0 d.mi.length).2≠0 then (2,fndE (rowE d) 0 d.mi.length)
 else if (fndE (fun i=>lesE d d.ls[i]!) 0 d.ls.length).2≠0 then (3,fndE (fun i=>lesE d d.ls[i]!) 0 d.ls.length)
 else (0,0,0)
structure LesOk (n:Nat) (l:Les):Prop where
 b0:0≤l.b
 be:l.b<l.e
 e1:l.e≤1440
 le:0≤l.le∧l.le≤7
 te:0≤l.te∧l.te≤7
 ca:0≤l.ca∧l.ca≤7
 f:0≤l.f∧l.f<n
 o:0≤l.o∧l.o<n
structure DyOk (d:Dy):Prop where
 n1:1≤d.mi.length
 n2:d.mi.length≤16
 l12:d.ls.length≤12
 row:∀ i,i<d.mi.length→(d.mi[i]!).length=d.mi.length
 rng:∀ i k,i<d.mi.length→k<d.mi.length→0≤gI d.mi[i]! k∧gI d.mi[i]! k≤120
 diag:∀ i,i<d.mi.length→gI d.mi[i]! i=0
 les:∀ i,i<d.ls.length→LesOk d.mi.length d.ls[i]!
theorem VL {lo hi:Int} {zs:List Int}:outF lo hi zs=false↔∀ z∈zs,lo≤z∧z≤hi:=by
 unfold outF
 rw[W6]
 constructor
 ·intro h z hz
  have:=h z hz
  simp at this
  omega
 ·intro h z hz
  have:=h z hz
  simp;omega
theorem LO {d:Dy} (h:(dyE d).2.2=0):DyOk d:=by
 unfold dyE at h
 split at h
 ·exact absurd h (by decide)
 rename_i h1
 split at h
 ·rename_i h2;exact absurd h h2
 rename_i h2
 split at h
 ·rename_i h3;exact absurd h h3
 rename_i h3
 have h1:outF 1 16 [(d.mi.length:Int)]=false∧decide ((d.ls.length:Int)>12)=false:=by simpa using h1
 have hn:=VL.1 h1.1 d.mi.length (by simp)
 have hl:=of_decide_eq_false h1.2
 have hr:=LJ d.mi.length 0 (JE.1 h2)
 have hs:=LJ d.ls.length 0 (JE.1 h3)
 have hrow:∀ i,i<d.mi.length→(d.mi[i]!).length=d.mi.length∧outF 0 120 d.mi[i]! = false∧gI d.mi[i]! i=0:=fun i hi=>by
  have:=hr i (QF _) (by omega)
  unfold rowE at this
  split at this
  ·exact absurd this (by decide)
  rename_i a1
  split at this
  ·exact absurd this (by decide)
  rename_i a2
  split at this
  ·exact absurd this (by decide)
  rename_i a3
  exact ⟨by simpa using a1,by simpa using a2,by simpa using a3⟩
 refine ⟨by omega,by omega,by omega,fun i hi=>(hrow i hi).1,fun i k hi hk=>?_,fun i hi=>(hrow i hi).2.2,fun i hi=>?_⟩
 ·obtain ⟨r1,r2,_⟩:=hrow i hi
  have hk':k<(d.mi[i]!).length:=by omega
  refine VL.1 r2 _ ?_
  unfold gI
  rw[QI hk']
  exact Q2 hk'
 ·have this:lesE d d.ls[i]! = 0:=hs i (QF _) (by omega)
  revert this
  generalize d.ls[i]! = l
  intro this
  unfold lesE at this
  split at this
  ·exact absurd this (by decide)
  rename_i a1
  split at this
  ·exact absurd this (by decide)
  rename_i a2
  split at this
  ·exact absurd this (by decide)
  rename_i a3
  have a1:outF 0 1440 [l.b,l.e]=false∧outF 0 7 [l.le,l.te,l.ca]=false:=by simpa using a1
  have b1:=VL.1 a1.1
  have b2:=VL.1 a1.2
  have b3:=VL.1 (show outF 0 ((d.mi.length:Int)-1) [l.f,l.o]=false by simpa using a3)
  have c1:=b1 l.b (by simp)
  have c2:=b1 l.e (by simp)
  have c3:=b2 l.le (by simp)
  have c4:=b2 l.te (by simp)
  have c5:=b2 l.ca (by simp)
  have c6:=b3 l.f (by simp)
  have c7:=b3 l.o (by simp)
  exact ⟨by omega,by omega,by omega,by omega,by omega,by omega,by omega,by omega⟩
def canB (d:Dy) (i k:Nat):Bool:=decide ((d.ls[i]!).e+gI d.mi[(d.ls[i]!).o.toNat]! (d.ls[k]!).f.toNat≤(d.ls[k]!).b)
def behL (d:Dy) (i:Nat):List Int:=YS d.ls.length (canB d i)
theorem canB_lt {d:Dy} (h:DyOk d) {i k:Nat} (hi:i<d.ls.length) (hk:k<d.ls.length) (hc:canB d i k=true):(d.ls[i]!).b<(d.ls[k]!).b:=by
 have h1:=h.les i hi
 have h2:=h.les k hk
 have h3:=of_decide_eq_true hc
 have:=(h.rng (d.ls[i]!).o.toNat (d.ls[k]!).f.toNat (by have:=h1.o;omega) (by have:=h2.f;omega)).1
 have:=h1.be
 omega
structure DSz (d:Dy):Prop where
 mi:d.mi.length<2 ^ 63
 ls:d.ls.length<2 ^ 63
 row:∀ i,i<d.mi.length→(d.mi[i]!).length<2 ^ 63
end Go.Proofs.YtgkidpolomhghaaGreatDoor.AM
namespace Go.Proofs.YtgkidpolomhghaaGreatDoor.Pl
abbrev Pat:=Int × Int
def afL (s:Int) (l:List Int):List Int:=(List.range l.length).map fun i=>if bit s i then max 0 (gI l i-1) else gI l i
def sumN (l:List Int):Nat:=(l.map Int.toNat).sum
def J9 (l:List Int):Bool:=l.all (· == 0)
theorem JQ (s:Int) (l:List Int):(afL s l).length=l.length:=by simp[afL]
theorem G8 {s:Int} {l:List Int} {i:Nat} (h:i<l.length):gI (afL s l) i=if bit s i then max 0 (gI l i-1) else gI l i:=by simp[afL,gI,h]
theorem B9 {a b:List Int} (hl:a.length=b.length) (h:∀ i,i<a.length→gI a i=gI b i):a=b:=by
 apply Y1 hl
 intro i h1 h2
 have:=h i h1
 simpa[gI,h1,h2] using this
theorem OW {l:List Int}:J9 l=true↔∀ i,i<l.length→gI l i=0:=by
 unfold J9
 rw[Q1]
 constructor
 ·intro h i hi
  have:=h l[i] (Q2 hi)
  simpa[gI,hi] using this
 ·intro h x hx
  obtain ⟨i,hi,rfl⟩:=List.getElem_of_mem hx
  have:=h i hi
  simpa[gI,hi] using this
theorem QdR:∀ {a b:List Int},a.length=b.length→(∀ i,i<a.length→gI a i≤gI b i)→sumN a≤sumN b∧((∃ i,i<a.length∧(gI a i).toNat<(gI b i).toNat)→sumN a<sumN b)
 | [],[],_,_=>⟨QG _,fun ⟨i,h,_⟩=>by simp at h⟩
 | x::a,y::b,hl,h=>by
  have ih:=QdR (a:=a) (b:=b) (by simpa using hl) fun i hi=>by simpa[gI] using h (i+1) (by simpa using hi)
  have h0:x≤y:=by simpa[gI] using h 0 (by simp)
  have e1:sumN (x::a)=x.toNat+sumN a:=by simp[sumN]
  have e2:sumN (y::b)=y.toNat+sumN b:=by simp[sumN]
  have h0':x.toNat≤y.toNat:=by omega
  rw[e1,e2]
  refine ⟨by omega,fun ⟨i,hi,hlt⟩=>?_⟩
  cases i with
  | zero=>simp[gI] at hlt;omega
  | succ i =>
   have:=ih.2 ⟨i,by simpa using hi,by simpa[gI] using hlt⟩
   omega
 | [],_::_,hl,_=>by simp at hl
 | _::_,[],hl,_=>by simp at hl
theorem CC:∀ {l:List Nat} {x:Nat},x∈l→x≤l.sum
 | a::l,x,h=>by
  rw[List.sum_cons]
  rcases ZD.1 h with rfl | h
  ·omega
  ·have:=CC h;omega
def NN (l:List Int):Prop:=∀ i,i<l.length→0≤gI l i
theorem NN.af {l:List Int} (h:NN l) (s:Int):NN (afL s l):=fun i hi=>by
 rw[JQ] at hi
 rw[G8 hi]
 have:=h i hi
 split <;> omega
theorem R3 {s:Int} {l:List Int} (h:NN l) (hne:afL s l≠l):sumN (afL s l)<sumN l:=by
 have hle:∀ i,i<(afL s l).length→gI (afL s l) i≤gI l i:=fun i hi=>by
  rw[JQ] at hi
  rw[G8 hi]
  have:=h i hi
  split <;> omega
 refine (QdR (JQ s l) hle).2 ?_
 apply Classical.byContradiction
 intro hno
 apply hne
 refine B9 (JQ s l) fun i hi=>?_
 have h1:=hle i hi
 rw[JQ] at hi
 have h2:=h i hi
 have h3:=(h.af s) i (by rw[JQ];exact hi)
 have:¬ (gI (afL s l) i).toNat<(gI l i).toNat:=fun hlt=>hno ⟨i,by rw[JQ];exact hi,hlt⟩
 omega
abbrev Cost:=Option (Int × Int)
def Qbe:Cost→Int × Int→Bool
 | none,_=>true
 | some a,b=>decide (a.1>b.1)||(a.1 == b.1&&decide (a.2>b.2))
def TZ (a:Cost) (m:Int):Cost→Cost
 | none=>a
 | some c=>if Qbe a (c.1+1,c.2+m)=true then some (c.1+1,c.2+m) else a
section
variable (ps:List Pat)
def fewO:Nat→Nat→List Int→Cost
 | 0,_,_=>none
 | f+1,k,l =>
  if J9 l=true then some (0,0)
  else if ps.length≤k then none
  else if afL (ps[k]!).1 l=l then fewO f (k+1) l
  else TZ (fewO f (k+1) l) (ps[k]!).2 (fewO f k (afL (ps[k]!).1 l))
def fewV (k:Nat) (l:List Int):Cost:=fewO ps (ps.length-k+sumN l+1) k l
variable {ps}
theorem LL:∀ (f f' k:Nat) (l:List Int),NN l→ps.length-k+sumN l<f→ps.length-k+sumN l<f'→fewO ps f k l=fewO ps f' k l
 | 0,_,_,_,_,h,_=>by omega
 | _+1,0,_,_,_,_,h=>by omega
 | f+1,f'+1,k,l,hn,h1,h2=>by
  simp only[fewO]
  by_cases hz:J9 l=true
  ·rw[if_pos hz,if_pos hz]
  rw[if_neg hz,if_neg hz]
  by_cases hk:ps.length≤k
  ·rw[if_pos hk,if_pos hk]
  rw[if_neg hk,if_neg hk,LL f f' (k+1) l hn (by omega) (by omega)]
  by_cases ha:afL (ps[k]!).1 l=l
  ·rw[if_pos ha,if_pos ha]
  ·have:=R3 hn ha
   rw[if_neg ha,if_neg ha,LL f f' k _ (hn.af _) (by omega) (by omega)]
theorem MZ {k:Nat} {l:List Int} (hn:NN l):fewV ps k l=if J9 l=true then some (0,0) else if ps.length≤k then none else if afL (ps[k]!).1 l=l then fewV ps (k+1) l else TZ (fewV ps (k+1) l) (ps[k]!).2 (fewV ps k (afL (ps[k]!).1 l)):=by
 rw[fewV,fewO]
 by_cases hz:J9 l=true
 ·rw[if_pos hz,if_pos hz]
 rw[if_neg hz,if_neg hz]
 by_cases hk:ps.length≤k
 ·rw[if_pos hk,if_pos hk]
 rw[if_neg hk,if_neg hk]
 rw[show fewO ps (ps.length-k+sumN l) (k+1) l=fewV ps (k+1) l from LL _ _ _ _ hn (by omega) (by omega)]
 by_cases ha:afL (ps[k]!).1 l=l
 ·rw[if_pos ha,if_pos ha]
 ·have:=R3 hn ha
  rw[if_neg ha,if_neg ha,show fewO ps (ps.length-k+sumN l) k (afL (ps[k]!).1 l)=fewV ps k (afL (ps[k]!).1 l) from LL _ _ _ _ (hn.af _) (by omega) (by omega)]
theorem LK {k:Nat} {l:List Int} (hn:NN l) (h:J9 l=true):fewV ps k l=some (0,0):=by rw[MZ hn,if_pos h]
theorem CL {k:Nat} {l:List Int} (hn:NN l) (h:J9 l=false) (hk:ps.length≤k):fewV ps k l=none:=by rw[MZ hn,if_neg (by rw[h];decide),if_pos hk]
theorem FB {k:Nat} {l:List Int} (hn:NN l) (h:J9 l=false) (hk:k<ps.length) (ha:afL (ps[k]!).1 l=l):fewV ps k l=fewV ps (k+1) l:=by
 rw[MZ hn,if_neg (by rw[h];decide),if_neg (by omega),if_pos ha]
theorem FC {k:Nat} {l:List Int} (hn:NN l) (h:J9 l=false) (hk:k<ps.length) (ha:afL (ps[k]!).1 l≠l):fewV ps k l=TZ (fewV ps (k+1) l) (ps[k]!).2 (fewV ps k (afL (ps[k]!).1 l)):=by
 rw[MZ hn,if_neg (by rw[h];decide),if_neg (by omega),if_neg ha]
def EC (ps:List Pat) (k:Nat) (l:List Int):Bool :=
 !decide (afL (ps[k]!).1 l=l)&&match fewV ps k (afL (ps[k]!).1 l) with
  | none=>false
  | some c=>decide (fewV ps k l=some (c.1+1,c.2+(ps[k]!).2))
def grL (ps:List Pat):Nat→Nat→List Int→List Nat
 | 0,_,_=>[]
 | f+1,k,l=>if J9 l=true then [] else if EC ps k l=true then k::grL ps f k (afL (ps[k]!).1 l) else grL ps f (k+1) l
def YJ (ps:List Pat) (cs:List Nat) (i:Nat):Nat:=cs.countP fun k=>bit (ps[k]!).1 i
def XX (ps:List Pat) (cs:List Nat):Int:=(cs.map fun k=>(ps[k]!).2).sum
def OS (ps:List Pat) (l:List Int) (cs:List Nat):Prop:=∀ i,i<l.length→gI l i≤YJ ps cs i
theorem C0 (a:Cost) (m:Int) (c:Cost):TZ a m c=a∨∃ x,c=some x∧TZ a m c=some (x.1+1,x.2+m):=by
 cases c with
 | none=>exact .inl rfl
 | some x =>
  simp only[TZ]
  split
  ·exact .inr ⟨x,rfl,rfl⟩
  ·exact .inl rfl
theorem EM (hm:∀ k,k<ps.length→0≤(ps[k]!).2):∀ (f k:Nat) (l:List Int) (a b:Int),NN l→ps.length-k+sumN l<f→fewV ps k l=some (a,b) →
  ((grL ps f k l).length:Int)=a∧XX ps (grL ps f k l)=b∧OS ps l (grL ps f k l)∧(grL ps f k l).Pairwise (·≤·)∧∀ x∈grL ps f k l,k≤x∧x<ps.length
 | 0,_,_,_,_,_,h,_=>by omega
 | f + 1,k,l,a,b,hn,hf,h=>by
  simp only[grL]
  by_cases hz:J9 l=true
  ·rw[LK hn hz] at h
   cases h
   rw[if_pos hz]
   exact ⟨rfl,rfl,fun i hi=>by rw[OW.1 hz i hi];exact VV _,.nil,fun x hx=>(by cases hx)⟩
  ·have hz':J9 l=false:=by simpa using hz
   rw[if_neg hz]
   have hk:k<ps.length:=by
    rcases ZB k ps.length with hk | hk
    ·exact hk
    ·rw[CL hn hz' hk] at h;cases h
   by_cases ht:EC ps k l=true
   ·rw[if_pos ht]
    simp only[EC,QD,Z0,decide_eq_false_iff_not] at ht
    obtain ⟨ha,ht⟩:=ht
    have hs:=R3 hn ha
    split at ht
    ·cases ht
    ·rename_i c hc
     have ht:=of_decide_eq_true ht
     rw[h] at ht
     cases ht
     obtain ⟨g1,g2,g3,g4,g5⟩:=EM hm f k _ c.1 c.2 (hn.af _) (by omega) hc
     refine ⟨by simp only[List.length_cons];push_cast;omega,?_,fun i hi=>?_,?_,fun x hx=>?_⟩
     ·simp only[XX,Q0,List.sum_cons] at g2 ⊢;omega
     ·have:=g3 i (by rw[JQ];exact hi)
      rw[G8 hi] at this
      simp only[YJ,K9] at this ⊢
      by_cases hb:bit (ps[k]!).1 i=true
      ·rw[if_pos hb] at this ⊢;push_cast;omega
      ·rw[if_neg hb] at this ⊢;push_cast;omega
     ·exact List.pairwise_cons.2 ⟨fun x hx=>(g5 x hx).1,g4⟩
     ·rcases ZD.1 hx with rfl | hx
      ·exact ⟨QG _,hk⟩
      ·exact g5 x hx
   ·rw [if_neg ht]
    have hnext:fewV ps (k+1) l=some (a,b):=by
     by_cases ha:afL (ps[k]!).1 l=l
     ·rw[← FB hn hz' hk ha];exact h
     ·have h2:=FC hn hz' hk ha
      rcases C0 (fewV ps (k+1) l) (ps[k]!).2 (fewV ps k (afL (ps[k]!).1 l)) with h3 | ⟨x,hx,h3⟩
      ·rw[h3] at h2;rw[← h2];exact h
      ·exfalso
       apply ht
       simp only[EC,hx,QD,Z0,decide_eq_false_iff_not,decide_eq_true_eq]
       exact ⟨ha,by rw[h2,h3]⟩
    obtain ⟨g1,g2,g3,g4,g5⟩:=EM hm f (k+1) l a b hn (by omega) hnext
    exact ⟨g1,g2,g3,g4,fun x hx=>⟨by have:=(g5 x hx).1;omega,(g5 x hx).2⟩⟩
def QdM (c:Cost) (n:Nat) (m:Int):Prop:=∃ a b,c=some (a,b)∧(a<n∨a=n∧b≤m)
theorem N0 {a:Cost} {m:Int} {c:Cost} {n:Nat} {y:Int} (h:QdM a n y∨∃ x,c=some x∧(x.1+1<n∨x.1+1=n∧x.2+m≤y)):QdM (TZ a m c) n y:=by
 cases c with
 | none =>
  rcases h with h | ⟨x,hx,_⟩
  ·exact h
  ·cases hx
 | some x =>
  simp only[TZ]
  cases a with
  | none =>
   rw[if_pos (show Qbe none (x.1+1,x.2+m)=true from rfl)]
   rcases h with ⟨_,_,h,_⟩ | ⟨x',hx,h⟩
   ·cases h
   ·cases hx;exact ⟨_,_,rfl,h⟩
  | some a =>
   by_cases ho:Qbe (some a) (x.1+1,x.2+m)=true
   ·rw[if_pos ho]
    refine ⟨_,_,rfl,?_⟩
    simp only[Qbe,WR,QD,decide_eq_true_eq,beq_iff_eq] at ho
    rcases h with ⟨p,q,h1,h2⟩ | ⟨x',hx,h⟩
    ·cases h1;omega
    ·cases hx;exact h
   ·rw[if_neg ho]
    refine ⟨a.1,a.2,rfl,?_⟩
    simp only[Qbe,WR,QD,decide_eq_true_eq,beq_iff_eq,not_or,not_and] at ho
    rcases h with ⟨p,q,h1,h2⟩ | ⟨x',hx,h⟩
    ·cases h1;exact h2
    ·cases hx
     obtain ⟨h1,h2⟩:=ho
     by_cases e:a.1=x.1+1
     ·have:=h2 e;omega
     ·omega
theorem I0 (k:Nat):∀ cs:List Nat,k∈cs→XX ps (cs.erase k)+(ps[k]!).2=XX ps cs
 | c::cs,h=>by
  by_cases e:c=k
  ·subst e
   simp only[List.erase_cons_head,XX,Q0,List.sum_cons];omega
  ·have hk:k∈cs:=by
    rcases ZD.1 h with h | h
    ·exact absurd h.symm e
    ·exact h
   have ih:=I0 k cs hk
   rw[List.erase_cons_tail (by simpa using e)]
   simp only[XX,Q0,List.sum_cons] at ih ⊢;omega
theorem NS (k i:Nat):∀ cs:List Nat,k∈cs→YJ ps (cs.erase k) i+(if bit (ps[k]!).1 i=true then 1 else 0)=YJ ps cs i
 | c::cs,h=>by
  by_cases e:c=k
  ·subst e
   simp only[List.erase_cons_head,YJ,K9]
  ·have hk:k∈cs:=by
    rcases ZD.1 h with h | h
    ·exact absurd h.symm e
    ·exact h
   have ih:=NS k i cs hk
   rw[List.erase_cons_tail (by simpa using e)]
   simp only[YJ,K9] at ih ⊢;omega
theorem IJ {k i:Nat} (hb:bit (ps[k]!).1 i=false):∀ cs:List Nat,YJ ps (cs.filter (· != k)) i=YJ ps cs i
 | []=>rfl
 | c::cs=>by
  have ih:=IJ hb cs
  simp only[XK]
  by_cases e:c=k
  ·subst e
   simp only[bne_self_eq_false,QT,if_false,YJ,K9,hb] at ih ⊢
   exact ih
  ·have:(c != k)=true:=by simpa using e
   simp only[this,if_true,YJ,K9] at ih ⊢
   omega
theorem EP (hm:∀ k,k<ps.length→0≤(ps[k]!).2):∀ (f k:Nat) (l:List Int) (cs:List Nat),NN l→ps.length-k+sumN l<f→(∀ x∈cs,k≤x∧x<ps.length)→OS ps l cs→QdM (fewV ps k l) cs.length (XX ps cs)
 | 0,_,_,_,_,h,_,_=>by omega
 | f + 1,k,l,cs,hn,hf,hx,he=>by
  by_cases hz:J9 l=true
  ·rw[LK hn hz]
   refine ⟨0,0,rfl,?_⟩
   cases cs with
   | nil=>exact .inr ⟨rfl,Int.le_refl _⟩
   | cons c cs=>left;simp only[List.length_cons];omega
  have hz':J9 l=false:=by simpa using hz
  have hk:k<ps.length:=by
   rcases ZB k ps.length with hk | hk
   ·exact hk
   ·exfalso
    apply hz
    rw[OW]
    intro i hi
    have:cs=[]:=by
     cases cs with
     | nil=>rfl
     | cons c cs=>have:=hx c (List.mem_cons_self ..);omega
    subst this
    have h1:=he i hi
    have h2:=hn i hi
    simp[YJ] at h1
    omega
  by_cases hin:k∈cs
  ·by_cases ha:afL (ps[k]!).1 l=l
   ·rw[FB hn hz' hk ha]
    have ih:=EP hm f (k+1) l (cs.filter (· != k)) hn (by omega) (fun x h=>by
     have h1:=YB.1 h
     have h2:=hx x h1.1
     have h3:x≠k:=by simpa using h1.2
     omega) (fun i hi=>by
     by_cases hb:bit (ps[k]!).1 i=true
     ·have h1:=G8 (s:=(ps[k]!).1) hi
      rw[ha,if_pos hb] at h1
      have h2:=hn i hi
      have:gI l i=0:=by omega
      rw[this];exact VV _
     ·rw[IJ (by simpa using hb)];exact he i hi)
    obtain ⟨a,b,h1,h2⟩:=ih
    refine ⟨a,b,h1,.inl ?_⟩
    have h3:(cs.filter (· != k)).length<cs.length:=List.length_filter_lt_length_iff_exists.2 ⟨k,hin,by simp⟩
    omega
   ·rw[FC hn hz' hk ha]
    have hs:=R3 hn ha
    have ih:=EP hm f k (afL (ps[k]!).1 l) (cs.erase k) (hn.af _) (by omega) (fun x h=>hx x (List.mem_of_mem_erase h)) (fun i hi=>by
     rw[JQ] at hi
     have h1:=he i hi
     have h2:=NS (ps:=ps) k i cs hin
     rw[G8 hi]
     by_cases hb:bit (ps[k]!).1 i=true
     ·rw[if_pos hb] at h2 ⊢;omega
     ·rw[if_neg hb] at h2 ⊢;omega)
    obtain ⟨a,b,h1,h2⟩:=ih
    refine N0 (.inr ⟨(a,b),h1,?_⟩)
    have h3:=I0 (ps:=ps) k cs hin
    have h4:=List.length_erase_of_mem hin
    have h5:=List.length_pos_of_mem hin
    dsimp only
    omega
  ·have ih:=EP hm f (k+1) l cs hn (by omega) (fun x h=>by
    have h1:=hx x h
    have:x≠k:=fun e=>hin (e ▸ h)
    omega) he
   by_cases ha:afL (ps[k]!).1 l=l
   ·rw[FB hn hz' hk ha];exact ih
   ·rw[FC hn hz' hk ha];exact N0 (.inl ih)
def NY (ps:List Pat) (l:List Int):Bool:=(List.range l.length).any fun i=>decide (gI l i>0) && !((List.range ps.length).any fun k=>bit (ps[k]!).1 i)
theorem few_some (hm:∀ k,k<ps.length→0≤(ps[k]!).2) {l:List Int} (hn:NN l) (h:NY ps l=false):∃ a b,fewV ps 0 l=some (a,b):=by
 have hw:∀ t:Nat,∀ i,YJ ps (List.flatten (List.replicate t (List.range ps.length))) i=t*YJ ps (List.range ps.length) i:=fun t i=>by
  induction t with
  | zero=>simp[YJ]
  | succ t ih =>
   simp only[YJ] at ih ⊢
   rw[List.replicate_succ,List.flatten_cons,List.countP_append,ih,XJ,Nat.add_comm]
 obtain ⟨a,b,h1,_⟩:=EP hm (ps.length-0+sumN l+1) 0 l (List.flatten (List.replicate (sumN l) (List.range ps.length))) hn (by omega) (fun x hx=>by
  rw[List.mem_flatten] at hx
  obtain ⟨y,hy,hxy⟩:=hx
  rw[List.mem_replicate] at hy
  rw[hy.2,ZI] at hxy
  omega) (fun i hi=>by
   rw[hw]
   by_cases h0:gI l i>0
   ·have h2:0<YJ ps (List.range ps.length) i:=by
     unfold NY at h
     rw[W6] at h
     have:=h i (ZI.2 hi)
     simp only[h0,decide_true,XI,Z0,Bool.not_eq_false',Bool.not_eq_true,Bool.not_eq_false,ZZ,ZI] at this
     obtain ⟨k,hk,hb⟩:=this
     exact List.countP_pos_iff.2 ⟨k,ZI.2 hk,hb⟩
    have h3:(gI l i).toNat≤sumN l:=by
     unfold sumN
     have:gI l i=l[i]:=by simp[gI,hi]
     rw[this]
     exact CC (ZP.2 ⟨l[i],Q2 hi,rfl⟩)
    have h4:sumN l*1≤sumN l*YJ ps (List.range ps.length) i:=Nat.mul_le_mul_left _ h2
    omega
   ·have:=hn i hi
    have:gI l i=0:=by omega
    rw[this];exact VV _)
 exact ⟨a,b,h1⟩
end
def UJ (ps:List Pat) (l:List Int):List Nat:=grL ps (ps.length+sumN l+1) 0 l
section
variable {ps:List Pat}
theorem OP (hm:∀ k,k<ps.length→0≤(ps[k]!).2) {l:List Int} {a b:Int} (hn:NN l) (h:fewV ps 0 l=some (a,b)) :
  ((UJ ps l).length:Int)=a∧XX ps (UJ ps l)=b∧OS ps l (UJ ps l)∧(UJ ps l).Pairwise (·≤·)∧∀ x∈UJ ps l,x<ps.length:=by
 obtain ⟨h1,h2,h3,h4,h5⟩:=EM hm (ps.length+sumN l+1) 0 l a b hn (by omega) h
 exact ⟨h1,h2,h3,h4,fun x hx=>(h5 x hx).2⟩
end
def sumI:Nat→(Nat→Int)→Int
 | 0,_=>0
 | n+1,f=>sumI n f+f n
def RO (s:Int) (pr:List Int):Int:=sumI pr.length fun i=>if bit s i then gI pr i else 0
def dotL (pr l:List Int):Int:=sumI pr.length fun i=>gI pr i*gI l i
def OE (ps:List Pat) (pr:List Int):Bool:=(List.range ps.length).all fun k=>decide (RO (ps[k]!).1 pr≤1000)
end Go.Proofs.YtgkidpolomhghaaGreatDoor.Pl
namespace Go.Proofs.YtgkidpolomhghaaGreatDoor.AM
variable [Dr]
open Go Pl
abbrev patC (p:Pat):List CV:=[.int .i64 p.1,.int .i64 p.2]
abbrev patA (p:Pat):AV:=.agg [.i p.1,.i p.2]
def NU (l:List Pat):List CV:=l.flatMap patC
abbrev patR (l:List Pat):CV:=.rsl (NU l) l.length
theorem IY (p:Pat):(patC p).length=2:=rfl
theorem Qef (l:List Pat):(NU l).length=l.length*2:=UG IY l
section
variable {l:List Pat} {k:Nat}
theorem B4 (h:k<l.length) (σ:List AObj):YF 2 [.cv (.rp (NU l) (k*2))] σ=some (patA l[k]!,σ):=by
 have h1:k*2+2≤(NU l).length:=by rw[Qef];omega
 have h2:=G3 IY h
 simp only[YF,h1,if_true]
 unfold NU;rw[h2];rfl
theorem O9 (h:k<l.length) (σ:List AObj):VP 2 [.cv (patR l),.cv (.int .i64 k)] σ=some (.cv (.rp (NU l) (k*2)),σ):=XP h σ
end
def patE (m:Nat) (p:Pat):Int:=if (outF 0 (2 ^ m-1) [p.1]||outF 0 100000 [p.2])=true then 7 else 0
def chkE (ps:List Pat) (l:List Int):Int :=
 if (outF 1 12 [(ps.length:Int)]||outF 1 6 [(l.length:Int)])=true then 3 else if outF 0 3 l=true then 7 else (fndE (fun i=>patE l.length ps[i]!) 0 ps.length).2
structure PsOk (ps:List Pat) (l:List Int):Prop where
 p1:1≤ps.length
 p12:ps.length≤12
 l1:1≤l.length
 l6:l.length≤6
 need:∀ i,i<l.length→0≤gI l i∧gI l i≤3
 pat:∀ k,k<ps.length→(0≤(ps[k]!).1∧(ps[k]!).1<2 ^ l.length)∧0≤(ps[k]!).2∧(ps[k]!).2≤100000
theorem Qcs {l:List Int} {i:Nat} (h:i<l.length):gI l i∈l:=by unfold gI;rw[QI h];exact Q2 h
theorem Qd3 {ps:List Pat} {l:List Int} (h:chkE ps l=0):PsOk ps l:=by
 unfold chkE at h
 split at h
 ·exact absurd h (by decide)
 rename_i h1
 split at h
 ·exact absurd h (by decide)
 rename_i h2
 have h1:outF 1 12 [(ps.length:Int)]=false∧outF 1 6 [(l.length:Int)]=false:=by simpa using h1
 have a1:=VL.1 h1.1 ps.length (by simp)
 have a2:=VL.1 h1.2 l.length (by simp)
 have a3:=VL.1 (show outF 0 3 l=false by simpa using h2)
 refine ⟨by omega,by omega,by omega,by omega,fun i hi=>a3 _ (Qcs hi),fun k hk=>?_⟩
 have h3:patE l.length ps[k]! = 0:=LJ ps.length 0 h k (QF _) (by omega)
 unfold patE at h3
 split at h3
 ·exact absurd h3 (by decide)
 rename_i h4
 revert h4
 generalize ps[k]! = p
 intro h4
 have h4:outF 0 (2 ^ l.length-1) [p.1]=false∧outF 0 100000 [p.2]=false:=by simpa using h4
 have b1:=VL.1 h4.1 p.1 (by simp)
 have b2:=VL.1 h4.2 p.2 (by simp)
 exact ⟨by omega,by omega⟩
abbrev chV (l:List Int) (m:Int):AV:=.agg [ints l,.i m]
def HG (l:List Nat):List Int:=l.map fun (k:Nat)=>(k:Int)
def fewL (ps:List Pat) (l:List Int):List Int × Int × Int :=
 if chkE ps l≠0 then ([],0,chkE ps l) else if NY ps l=true then ([],0,9) else (HG (UJ ps l),XX ps (UJ ps l),0)
abbrev fewA (ps:List Pat) (l:List Int):AV:=.tup [chV (fewL ps l).1 (fewL ps l).2.1,.i (fewL ps l).2.2]
def floL (ps:List Pat) (l pr:List Int):Int × Int :=
 if chkE ps l≠0 then (0,chkE ps l) else if pr.length≠l.length then (0,3) else if outF 0 1000 pr=true then (0,7) else if OE ps pr=false then (0,2) else ((dotL pr l+999) / 1000,0)
abbrev floA (ps:List Pat) (l pr:List Int):AV:=.tup [.i (floL ps l pr).1,.i (floL ps l pr).2]
def folL (d:Dy):List (List Int):=(List.range d.ls.length).map (behL d)
abbrev folA (d:Dy):AV:=.tup [.cv (minR (if (dyE d).2.2≠0 then [] else folL d)),.i (dyE d).2.2]
def nxtL (d:Dy):List Int:=nxL (canB d) d.ls.length d.ls.length 0 (fun _=>false)
def chaL (d:Dy):List (List Int):=(LQ (nxtL d) d.ls.length).map HG
abbrev chaA (d:Dy):AV:=.tup [.cv (minR (if (dyE d).2.2≠0 then [] else chaL d)),.i (dyE d).2.2]
def TH (d:Dy):Nat:=prF (canB d) d.ls.length d.ls.length 0 (fun _=>false)
def covS (d:Dy):Nat:=G7 (canB d) d.ls.length
def cvBef (d:Dy):List Int:=if (dyE d).2.2≠0 then [] else YS d.ls.length (bit (covS d:Nat))
def cvBeh (d:Dy):List Int:=if (dyE d).2.2≠0 then [] else YS d.ls.length (L0 (canB d) d.ls.length (covS d:Nat))
abbrev cvA (d:Dy):AV:=.tup [ints (cvBef d),ints (cvBeh d),.i (dyE d).2.2]
def HT (l:List Int):Bool:=(List.range (l.length-1)).all fun i=>decide (gI l i<gI l (i+1))
def openB (d:Dy) (p q:List Int):Bool:=(List.range d.ls.length).any fun i=>(List.range d.ls.length).any fun k=>canB d i k && !p.contains (i:Int) && !q.contains (k:Int)
def proL (d:Dy) (p q:List Int):Int × Int :=
 if (dyE d).2.2≠0 then (0,(dyE d).2.2)
 else if (outF 0 ((d.ls.length:Int)-1) p||outF 0 ((d.ls.length:Int)-1) q)=true then (0,4)
 else if (HT p&&HT q)=false then (0,5)
 else if openB d p q=true then (0,2)
 else (max 0 ((d.ls.length:Int)-p.length-q.length),0)
abbrev proA (d:Dy) (p q:List Int):AV:=.tup [.i (proL d p q).1,.i (proL d p q).2]
structure Tch where
 rg:List Rt
 b:Int
 e:Int
deriving Inhabited
structure Car where
 cl:Int
 ft:Int
deriving Inhabited
structure Pln where
 sys:Sys
 le:List Int
 te:List Tch
 ca:List Car
 day:Dy
abbrev rgR (l:List Rt):CV:=.rsl (l.flatMap rgC) l.length
abbrev tchC (t:Tch):List CV:=[rgR t.rg,.int .i64 t.b,.int .i64 t.e]
abbrev tchA (t:Tch):AV:=.agg [.cv (rgR t.rg),.i t.b,.i t.e]
def SV (l:List Tch):List CV:=l.flatMap tchC
abbrev tchR (l:List Tch):CV:=.rsl (SV l) l.length
abbrev carC (c:Car):List CV:=[.int .i64 c.cl,.int .i64 c.ft]
abbrev carA (c:Car):AV:=.agg [.i c.cl,.i c.ft]
def QaH (l:List Car):List CV:=l.flatMap carC
abbrev carR (l:List Car):CV:=.rsl (QaH l) l.length
theorem BI (t:Tch):(tchC t).length=3:=rfl
theorem CX (c:Car):(carC c).length=2:=rfl
theorem QeW (l:List Tch):(SV l).length=l.length*3:=UG BI l
theorem Qey (l:List Car):(QaH l).length=l.length*2:=UG CX l
theorem tch_ld {l:List Tch} {k:Nat} (h:k<l.length) (σ:List AObj):YF 3 [.cv (.rp (SV l) (k*3))] σ=some (tchA l[k]!,σ):=by
 have h1:k*3+3≤(SV l).length:=by rw[QeW];omega
 have h2:=G3 BI h
 simp only[YF,h1,if_true]
 unfold SV;rw[h2];rfl
theorem car_ld {l:List Car} {k:Nat} (h:k<l.length) (σ:List AObj):YF 2 [.cv (.rp (QaH l) (k*2))] σ=some (carA l[k]!,σ):=by
 have h1:k*2+2≤(QaH l).length:=by rw[Qey];omega
 have h2:=G3 CX h
 simp only[YF,h1,if_true]
 unfold QaH;rw[h2];rfl
abbrev plnC (p:Pln):List AV:=[.cv (clsR p.sys.cl),.cv (strR p.sys.co),ints p.le,.cv (tchR p.te),.cv (carR p.ca),.cv (minR p.day.mi),.cv (lesR p.day.ls)]
abbrev plnV (p:Pln):AV:=.agg (plnC p)
abbrev plC9 (p:Pln):List AV:=[.cv (clsR p.sys.cl),.cv (strR p.sys.co),ints p.le,.cv (tchR p.te),.cv (carR p.ca),.cv (minR p.day.mi),.cv (lesR p.day.ls),.cv (minR p.day.mi),.cv (lesR p.day.ls)]
abbrev plV9 (p:Pln):AV:=.agg (plC9 p)
def lstE (s:Sys) (l:List Rt):Int:=rdE s (sysE s).2.2 [l]
theorem lst_e (s:Sys) (l:List Rt):∃ L,lstV s l=.tup [rgL L,.i (lstE s l)]:=by
 unfold lstV lstE
 by_cases h:rdE s (sysE s).2.2 [l]=0
 ·rw[if_neg (fun g=>g h),h];exact ⟨_,rfl⟩
 ·rw[if_pos h];exact ⟨_,rfl⟩
def mayE (s:Sys) (l:List Rt) (c f:Int):Int :=
 if lstE s l≠0 then lstE s l else if inB c 0 ((s.cl.length:Int)-1)=false then 4 else if inB f 0 (setN s-1)=false then 7 else 0
theorem may_e (s:Sys) (l:List Rt) (c f:Int):mayV s l c f=.tup [.b (decide (mayE s l c f=0)&&alwB s l c f),.i (mayE s l c f)]:=by
 unfold mayV mayE lstE
 split
 ·rename_i h;rw[decide_eq_false h];rfl
 ·split
  ·rfl
  ·split
   ·rfl
   ·rfl
def tchE (s:Sys) (t:Tch):Int :=
 if lstE s t.rg≠0 then lstE s t.rg else if outF 0 1440 [t.b,t.e]=true then 7 else if t.b>t.e then 2 else 0
def carE (s:Sys) (c:Car):Int:=mayE s [] c.cl c.ft
def whoB (p:Pln) (l:Les):Bool:=decide (l.le≥p.le.length)||decide (l.te≥p.te.length)||decide (l.ca≥p.ca.length)
def plnE (p:Pln):Int :=
 if (sysE p.sys).2.2≠0 then (sysE p.sys).2.2
 else if (dyE p.day).2.2≠0 then (dyE p.day).2.2
 else if (decide ((p.le.length:Int)>8)||decide ((p.te.length:Int)>8)||decide ((p.ca.length:Int)>8))=true then 3
 else if outF 0 ((p.sys.cl.length:Int)-1) p.le=true then 4
 else if (fndE (fun i=>tchE p.sys p.te[i]!) 0 p.te.length).2≠0 then (fndE (fun i=>tchE p.sys p.te[i]!) 0 p.te.length).2
 else if (fndE (fun i=>carE p.sys p.ca[i]!) 0 p.ca.length).2≠0 then (fndE (fun i=>carE p.sys p.ca[i]!) 0 p.ca.length).2
 else if (p.day.ls.any (whoB p))=true then 4 else 0
structure PSz (p:Pln):Prop where
 sys:SSz p.sys
 le:p.le.length<2 ^ 63
 te:p.te.length<2 ^ 63
 ca:p.ca.length<2 ^ 63
 rg:∀ i,i<p.te.length→(p.te[i]!).rg.length<2 ^ 63
 day:DSz p.day
theorem le27 (a b:List (List Int)) (ha:a.length<2 ^ 62) (hb:b.length<2 ^ 63) (hA:∀ i,i<a.length→(a[i]!).length<2 ^ 63) (hB:∀ i,i<b.length→(b[i]!).length<2 ^ 63):PC Tryz.prog 27 [.cv (minR a),.cv (minR b)] (.b (decide (a=b))):=by
 refine ⟨ZF (fok27 true) (QC rfl) ?_,rfl⟩
 by_cases hlen:a.length=b.length
 rotate_left
 ·have hd:decide (a=b)=false:=decide_eq_false fun h=>hlen (by rw[h])
  have hb1:((a.length:Int) != (b.length:Int))=true:=by simp;omega
  rw[hd]
  simp only[ic27,hb1,evA,simprocAttr]
  exact frz
 have hb1:((a.length:Int) != (b.length:Int))=false:=by simp;omega
 simp only[ic27,hb1,evA,simprocAttr]
 refine ZW a.length (fun i s'=>(∀ j,j<i→a[j]! = b[j]!)∧∃ v5 v6,s'=⟨[.cv (minR a),.cv (minR b),.b false,.i i,.b false,v5,v6],[]⟩) ?_ 0 (QF _) ⟨by omega,_,_,rfl⟩
 rintro i s' hi ⟨hall,v5,v6,rfl⟩
 by_cases h:i<a.length
 ·have h':i<b.length:=by omega
  have la:=B7 h
  have lb:=B7 h'
  have c32:=c45 a[i]! b[i]! (hA i h) (hB i h')
  simp only[ic27l0,QJ,h,evA,simprocAttr]
  refine DW_s [8] [] hmix (by kernel_rfl) rfl ?_
  simp only[h,h',XP h,XP h',W3,la,lb,evA,simprocAttr]
  refine YE (c32.call frz ⟨rfl,rfl⟩) rfl ?_
  cases he:decide (a[i]! = b[i]!) with
  | false =>
   have hd:decide (a=b)=false:=decide_eq_false fun hh=>by rw[hh] at he;exact absurd rfl (of_decide_eq_false he)
   rw[hd]
   simp only[he,evA,simprocAttr]
   exact frz
  | true =>
   simp only[he,Q6 (show i+1<2 ^ 63 by omega),evA,simprocAttr]
   refine ZL (by first | trivial | omega) ⟨fun j hj=>?_,_,_,rfl⟩
   rcases QQ.1 hj with hj | rfl
   ·exact hall j hj
   ·exact of_decide_eq_true he
 ·have hd:decide (a=b)=true:=decide_eq_true (by
   apply Y1 hlen
   intro j h1 h2
   have:=hall j (by omega)
   rwa [getElem!_pos a j h1,getElem!_pos b j h2] at this)
  rw[hd]
  simp only[ic27l0,QJ,h,evA,simprocAttr]
  exact frz
theorem le41 (m:Int) (v:AV) (hv:v.isUndef=false∧v.isSc=true∧cellsOf v=[v]) (σ:List AObj) (hl:QR σ.length v=true):AC Tryz.prog 41 [.i m,v] σ fun r τ=>r=.agg [v,.i m]∧τ=σ:=by
 refine AC.cut0 ?_ (by simp[QR,QO,hl])
 refine ZF (fok41 true) (QC rfl) ?_
 simp only[ic41,hv,WW,VW,evA,simprocAttr]
 exact ⟨_,rfl⟩
theorem le19 (a b:List Int) (x y:Int) (ha:a.length<2 ^ 63) (hb:b.length<2 ^ 63):PC Tryz.prog 19 [chV a x,chV b y] (.b (decide (a=b)&&x == y)):=by
 refine ⟨ZF (fok19 true) (QC rfl) ?_,rfl⟩
 simp only[ic19,WI,cellsOf,evA,simprocAttr]
 refine (c45 a b ha hb).call frz ?_
 cases he:decide (a=b) with
 | false =>
  simp only[he,Bool.false_and,evA,simprocAttr]
  exact frz
 | true =>
  simp only[he,XI,evA,simprocAttr]
  exact frz
def exP:List Pat:=[(3,500),(4,200),(6,400),(1,100)]
def exD:Dy:=⟨[[0,10],[10,0]],[⟨0,0,0,60,120,0,0⟩,⟨1,0,1,120,180,0,1⟩,⟨2,0,2,125,170,1,1⟩,⟨3,0,3,190,250,0,0⟩]⟩
def exL:Pln:=⟨exS,[1,1,1,1],[⟨[(1,0)],0,1440⟩],[⟨1,0⟩,⟨1,0⟩,⟨1,0⟩,⟨1,0⟩],exD⟩
theorem le39:PC Tryz.prog 39 [] (.cv (patR exP)):=by
 refine ⟨ZF (fok39 true) (QC rfl) ?_,rfl⟩
 simp only[ic39,evA,simprocAttr]
 (repeat' (first | exact HL.nil | exact KS.nil | exact FrzC.nl | exact FrzC.c _ trivial | apply HL.cons | apply KS.cons | apply FrzV.agg | apply FrzV.tup | apply FrzV.c | refine FrzC.sl _ _ _ _ _ _ rfl (QC rfl) ?_))
theorem le40:PC Tryz.prog 40 [] (dyV exD):=by
 refine ⟨ZF (fok40 true) (QC rfl) ?_,rfl⟩
 simp only[ic40,evA,simprocAttr]
 (repeat' (first | exact HL.nil | exact KS.nil | exact FrzC.nl | exact FrzC.c _ trivial | apply HL.cons | apply KS.cons | apply FrzV.agg | apply FrzV.tup | apply FrzV.c | refine FrzC.sl _ _ _ _ _ _ rfl (QC rfl) ?_))
theorem le65:PA Tryz.prog 65 [] (plnV exL):=by
 refine ⟨ZF (fok65 true) (QC rfl) ?_,rfl,rfl⟩
 simp only[ic65,evA,simprocAttr]
 refine c43.call frz ?_
 simp only[evA,simprocAttr]
 refine le40.call frz ?_
 simp only[evA,simprocAttr]
 (repeat' (first | exact HL.nil | exact KS.nil | exact FrzC.nl | exact FrzC.c _ trivial | apply HL.cons | apply KS.cons | apply FrzV.agg | apply FrzV.tup | apply FrzV.c | refine FrzC.sl _ _ _ _ _ _ rfl (QC rfl) ?_))
theorem EY {α:Type} {l:List α} (h:l.length≤9):l.length<2 ^ 63:=WJ h (by decide)
theorem le118 (z lo hi:Int) (σ:List AObj):AC Tryz.prog 118 [.i z,.cv (.rp [.int .i64 lo] 0),.cv (.rp [.int .i64 hi] 0)] σ fun r τ=>r=.b (decide (z<lo)||decide (z>hi))∧τ=σ:=by
 refine ZF (fok118 true) (QC rfl) ?_
 by_cases h:z<lo <;> simp only[ic118,h,evA,simprocAttr]
theorem le63 (lo hi:Int) (zs:List Int) (hz:zs.length<2 ^ 63):PC Tryz.prog 63 [.i lo,.i hi,ints zs] (.b (outF lo hi zs)):=by
 refine ⟨ZF (fok63 true) (QC rfl) ?_,rfl⟩
 simp only[ic63,evA,simprocAttr]
 refine (c87 zs (.fn (.func 118) [.cv (.rp [.int .i64 lo] 0),.cv (.rp [.int .i64 hi] 0)]) (fun z=>decide (z<lo)||decide (z>hi)) hz (fun z σ=>le118 z lo hi σ)).call frz ?_
 exact frz
theorem le66 (m:List (List Int)) (fv:AV) (f:FuncId) (x:AV) (g:Nat→Int) (hm:m.length<2 ^ 63) (hx:QR 0 x=true) (hf:∀ i,i<m.length→∀ σ,AC Tryz.prog f [x,.i i,ints m[i]!] σ fun r τ=>r=.i (g i)∧τ=σ) :
  PC Tryz.prog 66 [.cv (minR m),.bm f [x]] (.tup [.i (fndE g 0 m.length).1,.i (fndE g 0 m.length).2]):=by
 refine ⟨ZF (fok66 true) (QC rfl) ?_,rfl⟩
 simp only[ic66,evA,simprocAttr]
 refine ZW m.length (fun i s=>(∀ j,j<i→g j=0)∧∃ v2 v3 v4 v5 v9 v10,s=⟨[.cv (minR m),.bm f [x],v2,v3,v4,v5,.cv (minR m),.i m.length,.i i,v9,v10],[]⟩) ?_ 0 (QF _) ⟨by omega,_,_,_,_,_,_,rfl⟩
 rintro i s hi ⟨hall,v2,v3,v4,v5,v9,v10,rfl⟩
 by_cases h:i<m.length
 ·simp only[ic66l0,QJ,h,XP h,W3,B7 h,evA,simprocAttr]
  refine (hf i h _).run ?_
  by_cases hg:g i=0
  ·have hb:(g i != 0)=false:=by simpa using hg
   simp only[hb,Q6 (show i+1<2 ^ 63 by omega),evA,simprocAttr]
   refine ZL (by first | trivial | omega) ⟨fun j hj=>?_,_,_,_,_,_,_,rfl⟩
   rcases QQ.1 hj with hj | rfl
   ·exact hall j hj
   ·exact hg
  ·have hb:(g i != 0)=true:=by simpa using hg
   rw[VO m.length 0 i (QF _) (by omega) (fun j _ hj=>hall j hj) hg]
   simp only[hb,evA,simprocAttr]
   exact frz
 ·have:i=m.length:=by omega
  subst this
  rw[J7 m.length 0 fun j _ hj=>hall j (by omega)]
  simp only[ic66l0,QJ,h,evA,simprocAttr]
  exact frz
theorem le68 (m:List Les) (f:FuncId) (x:AV) (g:Nat→Int) (hm:m.length<2 ^ 63) (hx:QR 0 x=true) (hf:∀ i,i<m.length→∀ σ,AC Tryz.prog f [x,.i i,lesA m[i]!] σ fun r τ=>r=.i (g i)∧τ=σ) :
  PC Tryz.prog 68 [.cv (lesR m),.bm f [x]] (.tup [.i (fndE g 0 m.length).1,.i (fndE g 0 m.length).2]):=by
 refine ⟨ZF (fok68 true) (QC rfl) ?_,rfl⟩
 simp only[ic68,evA,simprocAttr]
 refine ZW m.length (fun i s=>(∀ j,j<i→g j=0)∧∃ v2 v3 v4 v5 v9 v10,s=⟨[.cv (lesR m),.bm f [x],v2,v3,v4,v5,.cv (lesR m),.i m.length,.i i,v9,v10],[]⟩) ?_ 0 (QF _) ⟨by omega,_,_,_,_,_,_,rfl⟩
 rintro i s hi ⟨hall,v2,v3,v4,v5,v9,v10,rfl⟩
 by_cases h:i<m.length
 ·simp only[ic68l0,QJ,h,F5 h,Qcl h,evA,simprocAttr]
  refine (hf i h _).run ?_
  by_cases hg:g i=0
  ·have hb:(g i != 0)=false:=by simpa using hg
   simp only[hb,Q6 (show i+1<2 ^ 63 by omega),evA,simprocAttr]
   refine W1 [] _ rfl (by first | trivial | omega) (QF _) (by simp) ?_
   have hx2:∀ k,QR k (.bm f [x])=true:=fun k=>by simp only[QR,QO,Y8 (QF k) x hx,WH]
   simp only[clip,hx2,if_true]
   refine ⟨fun j hj=>?_,_,_,_,_,_,_,rfl⟩
   rcases QQ.1 hj with hj | rfl
   ·exact hall j hj
   ·exact hg
  ·have hb:(g i != 0)=true:=by simpa using hg
   rw[VO m.length 0 i (QF _) (by omega) (fun j _ hj=>hall j hj) hg]
   simp only[hb,evA,simprocAttr]
   exact frz
 ·have:i=m.length:=by omega
  subst this
  rw[J7 m.length 0 fun j _ hj=>hall j (by omega)]
  simp only[ic68l0,QJ,h,evA,simprocAttr]
  exact frz
theorem le67 (d:Dy) (hd:DSz d) (i:Nat) (hi:i<d.mi.length):PC Tryz.prog 67 [dyV d,.i i,ints d.mi[i]!] (.i (rowE d i)):=by
 refine ⟨ZF (fok67 true) (QC rfl) ?_,rfl⟩
 have hrow:=hd.row i hi
 unfold rowE
 generalize d.mi[i]! = l at *
 simp only[ic67,WI,cellsOf,evA,simprocAttr]
 by_cases h1:l.length=d.mi.length
 ·have hb:((l.length:Int) != d.mi.length)=false:=by rw[h1];simp
  rw[if_neg (fun h=>h h1)]
  simp only[hb,evA,simprocAttr]
  refine (le63 0 120 l hrow).call frz ?_
  cases ho:outF 0 120 l with
  | true =>
   simp only[evA,simprocAttr]
   exact frz
  | false =>
   have hil:i<l.length:=by omega
   simp only[J5 hil,J4 hil,evA,simprocAttr]
   by_cases h2:gI l i=0
   ·have hb2:(l[i]?.getD 0 != 0)=false:=by simpa using h2
    simp only[hb2,h2,ne_eq,not_true,evA,simprocAttr]
    exact frz
   ·have hb2:(l[i]?.getD 0 != 0)=true:=by simpa using h2
    simp only[hb2,h2,ne_eq,not_false_eq_true,evA,simprocAttr]
    exact frz
 ·have hb:((l.length:Int) != d.mi.length)=true:=by simp;omega
  rw[if_pos h1]
  simp only[hb,evA,simprocAttr]
  exact frz
theorem le69 (d:Dy) (hd:DSz d) (i:Int) (l:Les):PC Tryz.prog 69 [dyV d,.i i,lesA l] (.i (lesE d l)):=by
 refine ⟨ZF (fok69 true) (QC rfl) ?_,rfl⟩
 have h63:=hd.mi
 unfold lesE
 have hw:IntKind.i64.wrap ((d.mi.length:Int)-1)=(d.mi.length:Int)-1:=ZC (by omega)
 simp only[ic69,WI,cellsOf,evA,simprocAttr]
 refine (le63 0 1440 [l.b,l.e] (EY (by simp))).call frz ?_
 cases h1:outF 0 1440 [l.b,l.e] with
 | true =>
  simp only[US,evA,simprocAttr]
  exact frz
 | false =>
  simp only[Y3,evA,simprocAttr]
  refine (le63 0 7 [l.le,l.te,l.ca] (EY (by simp))).call frz ?_
  cases h2:outF 0 7 [l.le,l.te,l.ca] with
  | true =>
   simp only[evA,simprocAttr]
   exact frz
  | false =>
   by_cases h3:l.b≥l.e
   ·simp only[h3,evA,simprocAttr]
    exact frz
   ·simp only[h3,hw,evA,simprocAttr]
    refine (le63 0 ((d.mi.length:Int)-1) [l.f,l.o] (EY (by simp))).call frz ?_
    cases h4:outF 0 ((d.mi.length:Int)-1) [l.f,l.o] with
    | true =>
     simp only[evA,simprocAttr]
     exact frz
    | false =>
     simp only[evA,simprocAttr]
     exact frz
abbrev chkA (d:Dy):AV:=.tup [.i (dyE d).1,.i (dyE d).2.1,.i (dyE d).2.2]
theorem le23 (d:Dy) (hd:DSz d):PC Tryz.prog 23 [dyV d] (chkA d):=by
 refine ⟨ZF (fok23 true) (QC rfl) ?_,rfl⟩
 have hc66:=le66 d.mi (.bm 67 [dyV d]) 67 (dyV d) (rowE d) hd.mi rfl (fun i hi σ=>(le67 d hd i hi).call frz ⟨rfl,rfl⟩)
 have hc68:=le68 d.ls 69 (dyV d) (fun i=>lesE d d.ls[i]!) hd.ls rfl (fun i hi σ=>(le69 d hd i d.ls[i]!).call frz ⟨rfl,rfl⟩)
 simp only[ic23,WI,cellsOf,evA,simprocAttr]
 refine (le63 1 16 [(d.mi.length:Int)] (EY (by simp))).call frz ?_
 unfold chkA dyE
 cases h1:outF 1 16 [(d.mi.length:Int)] with
 | true =>
  simp only[US,evA,simprocAttr]
  exact frz
 | false =>
 cases h2:decide ((d.ls.length:Int)>12) with
 | true =>
  simp only[Y3,h2,evA,simprocAttr]
  exact frz
 | false =>
  simp only[Y3,h2,evA,simprocAttr]
  refine hc66.call frz ?_
  generalize fndE (rowE d) 0 d.mi.length=e1
  obtain ⟨a1,b1⟩:=e1
  by_cases h3:b1=0
  ·have hb:(b1 != 0)=false:=by simpa using h3
   simp only[hb,h3,ne_eq,not_true,evA,simprocAttr]
   refine hc68.call frz ?_
   generalize fndE (fun i=>lesE d d.ls[i]!) 0 d.ls.length=e2
   obtain ⟨a2,b2⟩:=e2
   by_cases h4:b2=0
   ·have hb:(b2 != 0)=false:=by simpa using h4
    simp only[hb,h4,ne_eq,not_true,evA,simprocAttr]
    exact frz
   ·have hb:(b2 != 0)=true:=by simpa using h4
    simp only[hb,h4,ne_eq,not_false_eq_true,evA,simprocAttr]
    exact frz
  ·have hb:(b1 != 0)=true:=by simpa using h3
   simp only[hb,h3,ne_eq,not_false_eq_true,evA,simprocAttr]
   exact frz
theorem le72 (d:Dy) (hd:DSz d):PA Tryz.prog 72 [dyV d] (.tup [dyV d,.i (dyE d).2.2]):=by
 refine ⟨ZF (fok72 true) (QC rfl) ?_,rfl,rfl⟩
 have h:=le23 d hd
 unfold chkA at h
 generalize dyE d=e at *
 obtain ⟨e1,e2,e3⟩:=e
 simp only[ic72,WI,cellsOf,evA,simprocAttr]
 refine h.call frz ?_
 simp only[evA,simprocAttr]
 exact frz
theorem ishr (a k:Nat) (hk:k≤64):VK .shr .i64 (a:Int) (k:Int)=some (.cv (.int .i64 ((a >>> k:Nat):Int))):=by
 have h0:¬ ((k:Int)<0):=by omega
 have h1:min (k:Int).toNat IntKind.i64.bits=k:=by rw[Int.toNat_natCast];exact VD hk
 simp only[VK]
 rw[if_neg h0,h1]
 have:(a:Int).fdiv (2 ^ k)=((a >>> k:Nat):Int):=by
  rw[Int.fdiv_eq_ediv_of_nonneg _ (Int.pow_nonneg (by decide)),JR]
  push_cast
  rfl
 rw[this]
theorem iand1 {a:Nat} (ha:a<2 ^ 62):IntKind.i64.wrap ((BitVec.ofInt IntKind.i64.bits (a:Int) &&& BitVec.ofInt IntKind.i64.bits 1).toNat:Int)=((a % 2:Nat):Int):=by
 show IntKind.i64.wrap (((BitVec.ofInt 64 (a:Int) &&& BitVec.ofInt 64 1).toNat:Nat):Int)=_
 have h2:BitVec.ofInt 64 1=BitVec.ofNat 64 1:=by decide
 have hp:(2:Nat) ^ 62=4611686018427387904:=by decide
 rw[h2,BitVec.ofInt_natCast,BitVec.toNat_and,BitVec.toNat_ofNat,BitVec.toNat_ofNat,show 1 % 2 ^ 64=1 from rfl,Nat.and_one_is_mod,Nat.mod_eq_of_lt (show a<2 ^ 64 by omega)]
 exact ZC (by omega)
theorem QbC {s:Int} {a i:Nat} (hs:s=(a:Int)):(a >>> i) % 2=if bit s i=true then 1 else 0:=by
 have h1:bit s i=a.testBit i:=by rw[hs];rfl
 rw[h1]
 have:a.testBit i=((a >>> i) &&& 1 != 0):=by rw[Nat.testBit,Nat.and_comm]
 rw[this,Nat.and_one_is_mod]
 rcases Nat.mod_two_eq_zero_or_one (a >>> i) with h | h <;> rw[h] <;> rfl
theorem ishl1 {k:Nat} (hk:k≤6):VK .shl .i64 1 (k:Int)=some (.cv (.int .i64 (2 ^ k))):=by
 match k,hk with
 | 0,_=>rfl
 | 1,_=>rfl
 | 2,_=>rfl
 | 3,_=>rfl
 | 4,_=>rfl
 | 5,_=>rfl
 | 6,_=>rfl
theorem Qa6 {k:Nat} (hk:k≤6):(1:Int)≤2 ^ k∧(2:Int) ^ k≤64:=by
 match k,hk with
 | 0,_=>decide
 | 1,_=>decide
 | 2,_=>decide
 | 3,_=>decide
 | 4,_=>decide
 | 5,_=>decide
 | 6,_=>decide
theorem le115 (l:List Int) (hl:l.length≤6) (i:Int) (p:Pat):PC Tryz.prog 115 [.i i,patA p,.cv (.rp [.rsl (l.map (.int .i64)) l.length] 0)] (.i (patE l.length p)):=by
 refine ⟨ZF (fok115 true) (QC rfl) ?_,rfl⟩
 have hpw:=Qa6 hl
 have hw:IntKind.i64.wrap ((2:Int) ^ l.length-1)=2 ^ l.length-1:=ZC (by omega)
 unfold patE
 simp only[ic115,WI,cellsOf,evA,simprocAttr]
 refine DW_s [7,12] [(0,6)] hmix (by kernel_rfl) rfl ?_
 simp only[ishl1 hl,hw,evA,simprocAttr]
 refine YE ((le63 0 (2 ^ l.length-1) [p.1] (EY (by simp))).call frz ⟨rfl,rfl⟩) rfl ?_
 cases h1:outF 0 (2 ^ l.length-1) [p.1] with
 | true =>
  simp only[US,evA,simprocAttr]
  exact frz
 | false =>
  simp only[Y3,evA,simprocAttr]
  refine YE ((le63 0 100000 [p.2] (EY (by simp))).call frz ⟨rfl,rfl⟩) rfl ?_
  cases h2:outF 0 100000 [p.2] with
  | true =>
   simp only[evA,simprocAttr]
   exact frz
  | false =>
   simp only[evA,simprocAttr]
   exact frz
theorem le114 (m:List Pat) (fv:AV) (g:Nat→Int) (hm:m.length<2 ^ 63) (hx:QR 0 fv=true) (hf:∀ i,i<m.length→∀ σ,X0 Tryz.prog fv [.i i,patA m[i]!] σ fun r τ=>r=.i (g i)∧τ=σ) :
  PC Tryz.prog 114 [.cv (patR m),fv] (.tup [.i (fndE g 0 m.length).1,.i (fndE g 0 m.length).2]):=by
 refine ⟨ZF (fok114 true) (QC rfl) ?_,rfl⟩
 simp only[ic114,evA,simprocAttr]
 refine ZW m.length (fun i s=>(∀ j,j<i→g j=0)∧∃ v2 v3 v4 v5 v9 v10,s=⟨[.cv (patR m),fv,v2,v3,v4,v5,.cv (patR m),.i m.length,.i i,v9,v10],[]⟩) ?_ 0 (QF _) ⟨by omega,_,_,_,_,_,_,rfl⟩
 rintro i s hi ⟨hall,v2,v3,v4,v5,v9,v10,rfl⟩
 by_cases h:i<m.length
 ·simp only[ic114l0,QJ,h,O9 h,B4 h,evA,simprocAttr]
  refine (hf i h _).run ?_
  by_cases hg:g i=0
  ·have hb:(g i != 0)=false:=by simpa using hg
   simp only[hb,Q6 (show i+1<2 ^ 63 by omega),evA,simprocAttr]
   refine W1 [] _ rfl (by first | trivial | omega) (QF _) (by simp) ?_
   have hx2:∀ k,QR k fv=true:=fun k=>Y8 (QF k) fv hx
   simp only[clip,hx2,if_true]
   refine ⟨fun j hj=>?_,_,_,_,_,_,_,rfl⟩
   rcases QQ.1 hj with hj | rfl
   ·exact hall j hj
   ·exact hg
  ·have hb:(g i != 0)=true:=by simpa using hg
   rw[VO m.length 0 i (QF _) (by omega) (fun j _ hj=>hall j hj) hg]
   simp only[hb,evA,simprocAttr]
   exact frz
 ·have:i=m.length:=by omega
  subst this
  rw[J7 m.length 0 fun j _ hj=>hall j (by omega)]
  simp only[ic114l0,QJ,h,evA,simprocAttr]
  exact frz
theorem le56 (ps:List Pat) (l:List Int) (hp:ps.length<2 ^ 63) (hl:l.length<2 ^ 63):PC Tryz.prog 56 [.cv (patR ps),ints l] (.i (chkE ps l)):=by
 refine ⟨ZF (fok56 true) (QC rfl) ?_,rfl⟩
 unfold chkE
 simp only[ic56,WI,cellsOf,evA,simprocAttr]
 refine (le63 1 12 [(ps.length:Int)] (EY (by simp))).call frz ?_
 cases h1:outF 1 12 [(ps.length:Int)] with
 | true =>
  simp only[US,evA,simprocAttr]
  exact frz
 | false =>
 simp only[Y3,evA,simprocAttr]
 refine (le63 1 6 [(l.length:Int)] (EY (by simp))).call frz ?_
 cases h2:outF 1 6 [(l.length:Int)] with
 | true =>
  simp only[evA,simprocAttr]
  exact frz
 | false =>
 simp only[evA,simprocAttr]
 refine (le63 0 3 l hl).call frz ?_
 cases h3:outF 0 3 l with
 | true =>
  simp only[evA,simprocAttr]
  exact frz
 | false =>
 have hl6:l.length≤6:=by have:=VL.1 h2 l.length (by simp);omega
 simp only[evA,simprocAttr]
 have h114:=le114 ps (.fn (.func 115) [.cv (.rp [.rsl (l.map (.int .i64)) l.length] 0)]) (fun i=>patE l.length ps[i]!) hp rfl (fun i hi σ=>(le115 l hl6 i ps[i]!).call frz ⟨rfl,rfl⟩)
 refine h114.call (.cons (.c (.c _ trivial)) (.cons (.fn (.cons (.c (.ptr 0 0 _ _ rfl (.cons (.c _ trivial) .nil))) .nil)) .nil)) ?_
 generalize fndE (fun i=>patE l.length ps[i]!) 0 ps.length=e
 obtain ⟨e1,e2⟩:=e
 simp only[evA,simprocAttr]
 exact frz
theorem le133 (p:Pln) (hp:PSz p) (i:Int) (t:Tch) (ht:t.rg.length<2 ^ 63):PC Tryz.prog 133 [plV9 p,.i i,tchA t] (.i (tchE p.sys t)):=by
 refine ⟨ZF (fok133 true) (QC rfl) ?_,rfl⟩
 have h31:=p31 p.sys hp.sys t.rg ht
 obtain ⟨L,hL⟩:=lst_e p.sys t.rg
 rw[hL] at h31
 unfold tchE
 simp only[ic133,WI,cellsOf,evA,simprocAttr]
 refine h31.call frz ?_
 by_cases he:lstE p.sys t.rg=0
 ·have hb:(lstE p.sys t.rg != 0)=false:=by simpa using he
  rw[if_neg (fun h=>h he)]
  simp only[hb,evA,simprocAttr]
  refine (le63 0 1440 [t.b,t.e] (EY (by simp))).call frz ?_
  cases h1:outF 0 1440 [t.b,t.e] with
  | true =>
   simp only[evA,simprocAttr]
   exact frz
  | false =>
   by_cases h2:t.b>t.e
   ·simp only[h2,evA,simprocAttr]
    exact frz
   ·simp only[h2,evA,simprocAttr]
    exact frz
 ·have hb:(lstE p.sys t.rg != 0)=true:=by simpa using he
  rw[if_pos he]
  simp only[hb,evA,simprocAttr]
  exact frz
theorem le135 (p:Pln) (hp:PSz p) (i:Int) (c:Car):PC Tryz.prog 135 [plV9 p,.i i,carA c] (.i (carE p.sys c)):=by
 refine ⟨ZF (fok135 true) (QC rfl) ?_,rfl⟩
 have h29:=c29 p.sys hp.sys [] (by decide) c.cl c.ft
 rw[may_e] at h29
 unfold carE
 simp only[ic135,WI,cellsOf,evA,simprocAttr]
 refine h29.call (.cons (GE (k:=0) _ rfl) (.cons (.c .nl) (.cons (.c (.c _ trivial)) (.cons (.c (.c _ trivial)) .nil)))) ?_
 simp only[evA,simprocAttr]
 exact frz
theorem le132 (m:List Tch) (f:FuncId) (x:AV) (g:Nat→Int) (hm:m.length<2 ^ 63) (hx:QR 0 x=true) (hf:∀ i,i<m.length→∀ σ,AC Tryz.prog f [x,.i i,tchA m[i]!] σ fun r τ=>r=.i (g i)∧τ=σ) :
  PC Tryz.prog 132 [.cv (tchR m),.bm f [x]] (.tup [.i (fndE g 0 m.length).1,.i (fndE g 0 m.length).2]):=by
 refine ⟨ZF (fok132 true) (QC rfl) ?_,rfl⟩
 simp only[ic132,evA,simprocAttr]
 refine ZW m.length (fun i s=>(∀ j,j<i→g j=0)∧∃ v2 v3 v4 v5 v9 v10,s=⟨[.cv (tchR m),.bm f [x],v2,v3,v4,v5,.cv (tchR m),.i m.length,.i i,v9,v10],[]⟩) ?_ 0 (QF _) ⟨by omega,_,_,_,_,_,_,rfl⟩
 rintro i s hi ⟨hall,v2,v3,v4,v5,v9,v10,rfl⟩
 by_cases h:i<m.length
 ·simp only[ic132l0,QJ,h,XP h,tch_ld h,evA,simprocAttr]
  refine (hf i h _).run ?_
  by_cases hg:g i=0
  ·have hb:(g i != 0)=false:=by simpa using hg
   simp only[hb,Q6 (show i+1<2 ^ 63 by omega),evA,simprocAttr]
   refine W1 [] _ rfl (by first | trivial | omega) (QF _) (by simp) ?_
   have hx2:∀ k,QR k (.bm f [x])=true:=fun k=>by simp only[QR,QO,Y8 (QF k) x hx,WH]
   simp only[clip,hx2,if_true]
   refine ⟨fun j hj=>?_,_,_,_,_,_,_,rfl⟩
   rcases QQ.1 hj with hj | rfl
   ·exact hall j hj
   ·exact hg
  ·have hb:(g i != 0)=true:=by simpa using hg
   rw[VO m.length 0 i (QF _) (by omega) (fun j _ hj=>hall j hj) hg]
   simp only[hb,evA,simprocAttr]
   exact frz
 ·have:i=m.length:=by omega
  subst this
  rw[J7 m.length 0 fun j _ hj=>hall j (by omega)]
  simp only[ic132l0,QJ,h,evA,simprocAttr]
  exact frz
theorem le134 (m:List Car) (f:FuncId) (x:AV) (g:Nat→Int) (hm:m.length<2 ^ 63) (hx:QR 0 x=true) (hf:∀ i,i<m.length→∀ σ,AC Tryz.prog f [x,.i i,carA m[i]!] σ fun r τ=>r=.i (g i)∧τ=σ) :
  PC Tryz.prog 134 [.cv (carR m),.bm f [x]] (.tup [.i (fndE g 0 m.length).1,.i (fndE g 0 m.length).2]):=by
 refine ⟨ZF (fok134 true) (QC rfl) ?_,rfl⟩
 simp only[ic134,evA,simprocAttr]
 refine ZW m.length (fun i s=>(∀ j,j<i→g j=0)∧∃ v2 v3 v4 v5 v9 v10,s=⟨[.cv (carR m),.bm f [x],v2,v3,v4,v5,.cv (carR m),.i m.length,.i i,v9,v10],[]⟩) ?_ 0 (QF _) ⟨by omega,_,_,_,_,_,_,rfl⟩
 rintro i s hi ⟨hall,v2,v3,v4,v5,v9,v10,rfl⟩
 by_cases h:i<m.length
 ·simp only[ic134l0,QJ,h,XP h,car_ld h,evA,simprocAttr]
  refine (hf i h _).run ?_
  by_cases hg:g i=0
  ·have hb:(g i != 0)=false:=by simpa using hg
   simp only[hb,Q6 (show i+1<2 ^ 63 by omega),evA,simprocAttr]
   refine W1 [] _ rfl (by first | trivial | omega) (QF _) (by simp) ?_
   have hx2:∀ k,QR k (.bm f [x])=true:=fun k=>by simp only[QR,QO,Y8 (QF k) x hx,WH]
   simp only[clip,hx2,if_true]
   refine ⟨fun j hj=>?_,_,_,_,_,_,_,rfl⟩
   rcases QQ.1 hj with hj | rfl
   ·exact hall j hj
   ·exact hg
  ·have hb:(g i != 0)=true:=by simpa using hg
   rw[VO m.length 0 i (QF _) (by omega) (fun j _ hj=>hall j hj) hg]
   simp only[hb,evA,simprocAttr]
   exact frz
 ·have:i=m.length:=by omega
  subst this
  rw[J7 m.length 0 fun j _ hj=>hall j (by omega)]
  simp only[ic134l0,QJ,h,evA,simprocAttr]
  exact frz
theorem max3_gt (a b c:Int):decide ((if c>(if b>a then b else a) then c else if b>a then b else a)>8)=(decide (a>8)||decide (b>8)||decide (c>8)):=by
 rw[Q8]
 simp only[decide_eq_true_eq,WR]
 split <;> split <;> omega
theorem MQ {l:List Les} {k:Nat} (h:k<l.length) (σ:List AObj):YF 7 [.cv (.rp (F0 l) (k*7))] σ=some (.agg [.i (l[k]!).le,.i (l[k]!).te,.i (l[k]!).ca,.i (l[k]!).b,.i (l[k]!).e,.i (l[k]!).f,.i (l[k]!).o],σ):=Qcl h σ
def lkP (p:Pln):AV:=if (sysE p.sys).2.2≠0∨(dyE p.day).2.2≠0 then .agg (List.replicate 9 (.cv .nils)) else plV9 p
theorem le93 (p:Pln) (hp:PSz p):PA Tryz.prog 93 [plnV p] (.tup [lkP p,.i (plnE p)]):=by
 refine ⟨ZF (fok93 true) (QC rfl) ?_,by unfold lkP;split <;> rfl,rfl⟩
 have h53:=c53 p.sys hp.sys
 unfold chkV at h53
 simp only[ic93,WI,cellsOf,evA,simprocAttr]
 refine h53.call frz ?_
 have hlk0:(sysE p.sys).2.2≠0∨(dyE p.day).2.2≠0→lkP p=.agg (List.replicate 9 (.cv .nils)):=fun h=>by unfold lkP;rw[if_pos h]
 have hlk1:¬ ((sysE p.sys).2.2≠0∨(dyE p.day).2.2≠0)→lkP p=plV9 p:=fun h=>by unfold lkP;rw[if_neg h]
 unfold plnE
 by_cases e1:(sysE p.sys).2.2=0
 rotate_left
 ·have hb:((sysE p.sys).2.2 != 0)=true:=by simpa using e1
  rw[if_pos e1,hlk0 (.inl e1)]
  simp only[hb,evA,simprocAttr]
  exact .tup (.cons (.agg (.cons (.c (.c _ trivial)) (.cons (.c (.c _ trivial)) (.cons (.c (.c _ trivial)) (.cons (.c (.c _ trivial)) (.cons (.c (.c _ trivial)) (.cons (.c (.c _ trivial)) (.cons (.c (.c _ trivial)) (.cons (.c (.c _ trivial)) (.cons (.c (.c _ trivial)) .nil)))))))))) (.cons (.c (.c _ trivial)) .nil))
 have hb1:((sysE p.sys).2.2 != 0)=false:=by simpa using e1
 rw[if_neg (fun h=>h e1)]
 simp only[hb1,evA,simprocAttr]
 refine (le72 p.day hp.day).call ?_
 by_cases e2:(dyE p.day).2.2=0
 rotate_left
 ·have hb:((dyE p.day).2.2 != 0)=true:=by simpa using e2
  rw[if_pos e2,hlk0 (.inr e2)]
  simp only[hb,evA,simprocAttr]
  exact .tup (.cons (.agg (.cons (.c (.c _ trivial)) (.cons (.c (.c _ trivial)) (.cons (.c (.c _ trivial)) (.cons (.c (.c _ trivial)) (.cons (.c (.c _ trivial)) (.cons (.c (.c _ trivial)) (.cons (.c (.c _ trivial)) (.cons (.c (.c _ trivial)) (.cons (.c (.c _ trivial)) .nil)))))))))) (.cons (.c (.c _ trivial)) .nil))
 have hb2:((dyE p.day).2.2 != 0)=false:=by simpa using e2
 rw[if_neg (fun h=>h e2),hlk1 (fun h=>h.elim (fun h=>h e1) (fun h=>h e2))]
 have hok:=LO e2
 have fin:∀ {σ:List AObj} {z:Int},FrzV anyC σ (.tup [plV9 p,.i z]) (.tup [plV9 p,.i z]):=fun {σ z}=>GE (k:=0) _ rfl
 simp only[hb2,evA,simprocAttr]
 rw[max3_gt]
 cases h3:(decide ((p.le.length:Int)>8)||decide ((p.te.length:Int)>8)||decide ((p.ca.length:Int)>8)) with
 | true =>
  rw[if_pos rfl]
  simp only[evA,simprocAttr]
  exact fin
 | false =>
 rw[if_neg (by decide)]
 have hlens:p.le.length≤8∧p.te.length≤8∧p.ca.length≤8:=by
  simp only[X8,decide_eq_false_iff_not] at h3
  omega
 have hcl:=hp.sys.cl
 have hw:IntKind.i64.wrap ((p.sys.cl.length:Int)-1)=(p.sys.cl.length:Int)-1:=ZC (by omega)
 simp only[hw,evA,simprocAttr]
 refine (le63 0 ((p.sys.cl.length:Int)-1) p.le hp.le).call frz ?_
 cases h4:outF 0 ((p.sys.cl.length:Int)-1) p.le with
 | true =>
  rw[if_pos rfl]
  simp only[evA,simprocAttr]
  exact fin
 | false =>
 rw[if_neg (by decide)]
 simp only[evA,simprocAttr]
 refine (le132 p.te 133 (plV9 p) (fun i=>tchE p.sys p.te[i]!) hp.te rfl (fun i hi σ=>(le133 p hp i p.te[i]! (hp.rg i hi)).call (KW (k:=0) _ rfl) ⟨rfl,rfl⟩)).call (KW (k:=0) _ rfl) ?_
 generalize fndE (fun i=>tchE p.sys p.te[i]!) 0 p.te.length=f1
 obtain ⟨f1a,f1b⟩:=f1
 simp only
 by_cases h5:f1b=0
 rotate_left
 ·have hb:(f1b != 0)=true:=by simpa using h5
  rw[if_pos h5]
  simp only[hb,evA,simprocAttr]
  exact fin
 have hb5:(f1b != 0)=false:=by simpa using h5
 rw[if_neg (fun h=>h h5)]
 simp only[hb5,evA,simprocAttr]
 refine (le134 p.ca 135 (plV9 p) (fun i=>carE p.sys p.ca[i]!) hp.ca rfl (fun i hi σ=>(le135 p hp i p.ca[i]!).call (KW (k:=0) _ rfl) ⟨rfl,rfl⟩)).call (KW (k:=0) _ rfl) ?_
 generalize fndE (fun i=>carE p.sys p.ca[i]!) 0 p.ca.length=f2
 obtain ⟨f2a,f2b⟩:=f2
 simp only
 by_cases h6:f2b=0
 rotate_left
 ·have hb:(f2b != 0)=true:=by simpa using h6
  rw[if_pos h6]
  simp only[hb,evA,simprocAttr]
  exact fin
 have hb6:(f2b != 0)=false:=by simpa using h6
 rw[if_neg (fun h=>h h6)]
 simp only[hb6,evA,simprocAttr]
 have h12:=hok.l12
 have hob:∀ o∈[AObj.cells (plnC p),.cells (plC9 p),.cells [.cv (minR p.day.mi),.cv (lesR p.day.ls)]],Z3 3 o=true:=by
  intro o ho
  simp only[ZD,WK,or_false] at ho
  rcases ho with rfl | rfl | rfl <;> rfl
 subst h6
 refine ZW p.day.ls.length (fun i s=>(∀ j,j<i→whoB p p.day.ls[j]! = false)∧∃ v5 v15 v16,s=⟨[plnV p,.ptr 0 0,.ptr 1 0,.i 0,.ptr 2 0,v5,.b false,.b false,.b false,.b false,.b false,.b false,.cv (lesR p.day.ls),.i p.day.ls.length,.i i,v15,v16],[.cells (plnC p),.cells (plC9 p),.cells [.cv (minR p.day.mi),.cv (lesR p.day.ls)]]⟩) ?_ 0 (QF _) ⟨by omega,_,_,_,rfl⟩
 rintro i s hi ⟨hall,v5,v15,v16,rfl⟩
 by_cases h:i<p.day.ls.length
 ·have hld:=MQ h
  have hany:whoB p p.day.ls[i]! = true→(p.day.ls.any (whoB p))=true:=fun hw=>ZZ.2 ⟨p.day.ls[i]!,by rw[getElem!_pos p.day.ls i h];exact Q2 _,hw⟩
  have hwho:whoB p p.day.ls[i]! = (decide ((p.day.ls[i]!).le≥p.le.length)||decide ((p.day.ls[i]!).te≥p.te.length)||decide ((p.day.ls[i]!).ca≥p.ca.length)):=rfl
  generalize hll:p.day.ls[i]! = l at *
  obtain ⟨l1,l2,l3,l4,l5,l6,l7⟩:=l
  simp only at hwho hld
  simp only[ic93l0,QJ,h,F5 h,hld,evA,simprocAttr]
  have yes:whoB p ⟨l1,l2,l3,l4,l5,l6,l7⟩=true→(p.day.ls.any (whoB p))=true:=hany
  cases w1:decide (l1≥(p.le.length:Int)) with
  | true =>
   rw[w1] at hwho
   rw[yes (by rw[hwho];rfl),if_pos rfl]
   simp only[evA,simprocAttr]
   exact fin
  | false =>
  cases w2:decide (l2≥(p.te.length:Int)) with
  | true =>
   rw[w1,w2] at hwho
   rw[yes (by rw[hwho];rfl),if_pos rfl]
   simp only[w2,evA,simprocAttr]
   exact fin
  | false =>
  cases w3:decide (l3≥(p.ca.length:Int)) with
  | true =>
   rw[w1,w2,w3] at hwho
   rw[yes (by rw[hwho];rfl),if_pos rfl]
   simp only[w2,w3,evA,simprocAttr]
   exact fin
  | false =>
   rw[w1,w2,w3] at hwho
   simp only[w2,w3,Q6 (show i+1<2 ^ 63 by omega),evA,simprocAttr]
   refine W1 [.cells (plnC p),.cells (plC9 p),.cells [.cv (minR p.day.mi),.cv (lesR p.day.ls)]] _ rfl (by first | trivial | omega) (QF _) hob ⟨fun j hj=>?_,_,_,_,rfl⟩
   rcases QQ.1 hj with hj | rfl
   ·exact hall j hj
   ·rw[hll];exact hwho
 ·have hie:i=p.day.ls.length:=by omega
  have hno:(p.day.ls.any (whoB p))=false:=by
   rw[W6]
   intro x hx
   obtain ⟨j,hj,rfl⟩:=WN.1 hx
   have:=hall j (by omega)
   rw[getElem!_pos p.day.ls j hj] at this
   rw[this];decide
  rw[hno,if_neg (by decide)]
  simp only[ic93l0,QJ,h,evA,simprocAttr]
  exact fin
end Go.Proofs.YtgkidpolomhghaaGreatDoor.AM

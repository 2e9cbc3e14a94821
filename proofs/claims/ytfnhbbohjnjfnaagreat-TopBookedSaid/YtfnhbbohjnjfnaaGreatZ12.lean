/- Parts of the proof, joined: QuD1 to TqC3. -/
import GoSem.Op.String
import Derived.Lib.Strings
import Derived.Test.YtfnhbbohjnjfnaaGreatZ11
set_option linter.unusedVariables false
set_option linter.unusedSimpArgs false
set_option linter.unusedSectionVars false
namespace Go.Proofs.YtfnhbbohjnjfnaaGreat.Qu
open Go Pl
theorem bl_irr:∀ x:List UInt8,Op.bytesLess x x=false
 | []=>rfl
 | a::x=>by
  have:¬ a<a:=UInt8.lt_irrefl a
  simp[Op.bytesLess,bl_irr x]
theorem bl_tr:∀ x y z:List UInt8,Op.bytesLess x y=true→Op.bytesLess y z=true→Op.bytesLess x z=true
 | _,[],_,h,_=>by simp[Op.bytesLess] at h
 | [],_::_,[],_,h=>by simp[Op.bytesLess] at h
 | [],_::_,_::_,_,_=>rfl
 | _::_,_::_,[],_,h=>by simp[Op.bytesLess] at h
 | a::x,b::y,c::z,h,g=>by
  simp only[Op.bytesLess,WR,QD,decide_eq_true_eq,beq_iff_eq] at h g ⊢
  rcases h with h | ⟨rfl,h⟩
  ·rcases g with g | ⟨rfl,g⟩
   ·exact Or.inl (UInt8.lt_trans h g)
   ·exact Or.inl h
  ·rcases g with g | ⟨rfl,g⟩
   ·exact Or.inl g
   ·exact Or.inr ⟨rfl,bl_tr x y z h g⟩
theorem bl_tot:∀ x y:List UInt8,x≠y→Op.bytesLess x y=true∨Op.bytesLess y x=true
 | [],[],h=>absurd rfl h
 | [],_::_,_=>Or.inl rfl
 | _::_,[],_=>Or.inr rfl
 | a::x,b::y,h=>by
  simp only[Op.bytesLess,WR,QD,decide_eq_true_eq,beq_iff_eq]
  by_cases e:a=b
  ·subst e
   rcases bl_tot x y (fun e=>h (by rw[e])) with g | g
   ·exact Or.inl (Or.inr ⟨rfl,g⟩)
   ·exact Or.inr (Or.inr ⟨rfl,g⟩)
  ·rcases UInt8.lt_or_lt_of_ne e with g | g
   ·exact Or.inl (Or.inl g)
   ·exact Or.inr (Or.inl g)
theorem bytes_inj {a b:ByteArray} (h:a.toList=b.toList):a=b:=by
 rw[Lib.toList_data,Lib.toList_data] at h
 cases a;cases b
 simp only at h
 congr
 exact Array.toList_inj.1 h
structure Cen where
 nm:ByteArray
 pl:Int
 ru:List Int
 deriving Inhabited
structure Lea where
 nm:ByteArray
 si:Int
 ho:Int
 fa:Int
 wi:List Int
 deriving Inhabited
structure QL₀ where
 cs:List Cen
 ls:List Lea
def lowB (x:UInt8):Bool:=decide (97≤x.toNat∧x.toNat≤122)
def digB (x:UInt8):Bool:=decide (48≤x.toNat∧x.toNat≤57)
def JH (s:ByteArray):Bool:=decide (1≤s.size∧s.size≤16)&&(match s.data.toList with | []=>false | x::_=>lowB x)&&s.data.toList.all fun x=>lowB x||digB x
def unl (many:Int):List Int→List Int→Int
 | _,[]=>0
 | seen,x::xs=>if x<0∨many≤x then 4 else if x∈seen then 5 else unl many (seen++[x]) xs
def cenE (q:QL₀) (i:Nat):Int :=
 let c:=q.cs[i]!
 if JH c.nm=false then 6 else if ∃ k,k<i∧(q.cs[k]!).nm=c.nm then 5 else if c.pl<0∨6<c.pl then 7 else unl 3 [] c.ru
def leaE (q:QL₀) (i:Nat):Int :=
 let x:=q.ls[i]!
 if JH x.nm=false then 6 else if ∃ k,k<i∧(q.ls[k]!).nm=x.nm then 5 else if (x.si<0∨40000<x.si)∨(x.fa<0∨20<x.fa) then 7 else
  if x.ho < -1∨(q.cs.length:Int)-1<x.ho then 4 else unl q.cs.length [] x.wi
def firstE (f:Nat→Int):Nat→Nat→Option (Nat × Int)
 | 0,_=>none
 | n+1,i=>if f i≠0 then some (i,f i) else firstE f n (i+1)
def checkQ (q:QL₀):Int × Int × Int :=
 if ¬ (1≤q.cs.length∧q.cs.length≤5)∨8<q.ls.length then (1,0,3) else
  match firstE (cenE q) q.cs.length 0 with
  | some (i,e)=>(2,i,e)
  | none=>match firstE (leaE q) q.ls.length 0 with
   | some (i,e)=>(3,i,e)
   | none=>(0,0,0)
theorem firstE_none {f:Nat→Int}:∀ {n i:Nat},firstE f n i=none→∀ k,i≤k→k<i+n→f k=0
 | 0,i,_,k,h1,h2=>by omega
 | n+1,i,h,k,h1,h2=>by
  unfold firstE at h
  by_cases e:f i≠0
  ·rw[if_pos e] at h;exact absurd h (by simp)
  ·rw[if_neg e] at h
   by_cases hk:k=i
   ·subst hk;simpa using e
   ·exact firstE_none h k (by omega) (by omega)
theorem firstE_some {f:Nat→Int}:∀ {n i j:Nat} {e:Int},firstE f n i=some (j,e)→e≠0
 | 0,i,_,_,h=>by simp[firstE] at h
 | n+1,i,j,e,h=>by
  unfold firstE at h
  by_cases e':f i≠0
  ·rw[if_pos e'] at h;simp at h;omega
  ·rw[if_neg e'] at h;exact firstE_some h
def Valid (q:QL₀):Prop:=(checkQ q).2.2=0
theorem valid_iff {q:QL₀}:Valid q→(1≤q.cs.length∧q.cs.length≤5∧q.ls.length≤8)∧(∀ i,i<q.cs.length→cenE q i=0)∧(∀ i,i<q.ls.length→leaE q i=0)∧checkQ q=(0,0,0):=by
 unfold Valid
 intro h
 unfold checkQ at h ⊢
 by_cases h1:¬ (1≤q.cs.length∧q.cs.length≤5)∨8<q.ls.length
 ·rw[if_pos h1] at h;exact absurd h (by decide)
 ·rw[if_neg h1] at h ⊢
  cases h2:firstE (cenE q) q.cs.length 0 with
  | some p=>rw[h2] at h;exact absurd h (firstE_some (j:=p.1) h2)
  | none =>
   rw[h2] at h
   cases h3:firstE (leaE q) q.ls.length 0 with
   | some p=>rw[h3] at h;exact absurd h (firstE_some (j:=p.1) h3)
   | none =>
    exact ⟨by omega,fun i hi=>firstE_none h2 i (by omega) (by omega),fun i hi=>firstE_none h3 i (by omega) (by omega),rfl⟩
theorem unl_ok {many:Int}:∀ {l seen:List Int},unl many seen l=0→(∀ x∈l,0≤x∧x<many)∧l.Nodup∧∀ x∈l,x∉seen
 | [],_,_=>⟨by simp,YU,by simp⟩
 | x :: l,seen,h=>by
  unfold unl at h
  by_cases h1:x<0∨many≤x
  ·rw[if_pos h1] at h;exact absurd h (by decide)
  ·rw[if_neg h1] at h
   by_cases h2:x∈seen
   ·rw[if_pos h2] at h;exact absurd h (by decide)
   ·rw[if_neg h2] at h
    obtain ⟨g1,g2,g3⟩:=unl_ok h
    refine ⟨?_,?_,?_⟩
    ·intro y hy
     rcases ZD.1 hy with rfl | hy
     ·omega
     ·exact g1 y hy
    ·rw[WQ]
     exact ⟨fun hx=>g3 x hx (by simp),g2⟩
    ·intro y hy
     rcases ZD.1 hy with rfl | hy
     ·exact h2
     ·exact fun hs=>g3 y hy (by simp[hs])
structure LeaOk (q:QL₀) (i:Nat):Prop where
 nm:∀ k,k<i→(q.ls[k]!).nm≠(q.ls[i]!).nm
 si:0≤(q.ls[i]!).si∧(q.ls[i]!).si≤40000
 fa:0≤(q.ls[i]!).fa∧(q.ls[i]!).fa≤20
 ho:-1≤(q.ls[i]!).ho∧(q.ls[i]!).ho<q.cs.length
 wi:∀ x∈(q.ls[i]!).wi,0≤x∧x<q.cs.length
 nd:(q.ls[i]!).wi.Nodup
theorem leaE_ok {q:QL₀} {i:Nat} (h:leaE q i=0):LeaOk q i:=by
 unfold leaE at h
 simp only at h
 by_cases h1:JH (q.ls[i]!).nm=false
 ·rw[if_pos h1] at h;exact absurd h (by decide)
 rw[if_neg h1] at h
 by_cases h2:∃ k,k<i∧(q.ls[k]!).nm=(q.ls[i]!).nm
 ·rw[if_pos h2] at h;exact absurd h (by decide)
 rw[if_neg h2] at h
 by_cases h3:((q.ls[i]!).si<0∨40000<(q.ls[i]!).si)∨((q.ls[i]!).fa<0∨20<(q.ls[i]!).fa)
 ·rw[if_pos h3] at h;exact absurd h (by decide)
 rw[if_neg h3] at h
 by_cases h4:(q.ls[i]!).ho < -1∨(q.cs.length:Int)-1<(q.ls[i]!).ho
 ·rw[if_pos h4] at h;exact absurd h (by decide)
 rw[if_neg h4] at h
 obtain ⟨g1,g2,_⟩:=unl_ok h
 exact ⟨fun k hk e=>h2 ⟨k,hk,e⟩,by omega,by omega,by omega,g1,g2⟩
structure CenOk (q:QL₀) (i:Nat):Prop where
 pl:0≤(q.cs[i]!).pl∧(q.cs[i]!).pl≤6
 ru:∀ x∈(q.cs[i]!).ru,0≤x∧x<3
theorem cenE_ok {q:QL₀} {i:Nat} (h:cenE q i=0):CenOk q i:=by
 unfold cenE at h
 simp only at h
 by_cases h1:JH (q.cs[i]!).nm=false
 ·rw[if_pos h1] at h;exact absurd h (by decide)
 rw[if_neg h1] at h
 by_cases h2:∃ k,k<i∧(q.cs[k]!).nm=(q.cs[i]!).nm
 ·rw[if_pos h2] at h;exact absurd h (by decide)
 rw[if_neg h2] at h
 by_cases h3:(q.cs[i]!).pl<0∨6<(q.cs[i]!).pl
 ·rw[if_pos h3] at h;exact absurd h (by decide)
 rw[if_neg h3] at h
 obtain ⟨g1,_,_⟩:=unl_ok h
 exact ⟨by omega,g1⟩
def key (c:Int) (x:Lea) (r:Int):Int:=if r=0 then x.si else if r=1 then (if x.ho=c then 0 else 1) else if r=2 then x.fa else 0
def byRules (c:Int) (a b:Lea):List Int→Bool
 | []=>Op.bytesLess a.nm.toList b.nm.toList
 | r::rs=>if key c a r=key c b r then byRules c a b rs else decide (key c a r<key c b r)
theorem byRules_irr (c:Int) (a:Lea):∀ rs,byRules c a a rs=false
 | []=>bl_irr _
 | r::rs=>by simp[byRules,byRules_irr c a rs]
theorem byRules_tot (c:Int) {a b:Lea} (h:a.nm≠b.nm):∀ rs,byRules c a b rs=true∨byRules c b a rs=true
 | []=>bl_tot _ _ fun e=>h (bytes_inj e)
 | r::rs=>by
  have ih:=byRules_tot c h rs
  unfold byRules
  by_cases h1:key c a r=key c b r
  ·rw[if_pos h1,if_pos h1.symm];exact ih
  ·rw[if_neg h1,if_neg (Ne.symm h1)]
   simp only[decide_eq_true_eq];omega
theorem byRules_tr (c:Int) (x y z:Lea):∀ rs,byRules c x y rs=true→byRules c y z rs=true→byRules c x z rs=true
 | [],h,g=>bl_tr _ _ _ h g
 | r::rs,h,g=>by
  have ih:=byRules_tr c x y z rs
  unfold byRules at h g ⊢
  by_cases e1:key c x r=key c y r
  ·rw[if_pos e1] at h
   by_cases e2:key c y r=key c z r
   ·rw[if_pos e2] at g
    rw[if_pos (e1.trans e2)];exact ih h g
   ·rw[if_neg e2] at g
    rw[if_neg (by rw[e1];exact e2)]
    simp only[decide_eq_true_eq] at g ⊢;omega
  ·rw[if_neg e1] at h
   simp only[decide_eq_true_eq] at h
   by_cases e2:key c y r=key c z r
   ·rw[if_neg (by rw[← e2];exact e1)]
    simp only[decide_eq_true_eq];omega
   ·rw[if_neg e2] at g
    simp only[decide_eq_true_eq] at g
    rw[if_neg (by omega)]
    simp only[decide_eq_true_eq];omega
def bef (q:QL₀) (c i k:Nat):Bool:=byRules c (q.ls[i]!) (q.ls[k]!) (q.cs[c]!).ru
theorem bef_strict {q:QL₀} (h:∀ i,i<q.ls.length→LeaOk q i) (c:Nat):Mk.Strict q.ls.length (bef q c):=by
 refine ⟨fun i _=>byRules_irr _ _ _,fun i j k _ _ _=>byRules_tr _ _ _ _ _,fun i j hi hj e=>?_⟩
 apply byRules_tot
 rcases Nat.lt_or_gt_of_ne e with g | g
 ·exact (h j hj).nm i g
 ·exact Ne.symm ((h i hi).nm j g)
def mk (q:QL₀):Mk:=⟨q.ls.length,fun i=>(q.ls[i]!).wi.map Int.toNat,fun c=>(q.cs[c]!).pl.toNat,fun c i=>Mk.rankOf q.ls.length (bef q c) i⟩
theorem mk_inj {q:QL₀} (h:∀ i,i<q.ls.length→LeaOk q i):(mk q).Inj:=fun c _ _ hi hk e=>Mk.rank_inj (bef_strict h c) hi hk e
theorem mk_lt {q:QL₀} (h:∀ i,i<q.ls.length→LeaOk q i) {c i k:Nat} (hi:i<q.ls.length) (hk:k<q.ls.length):bef q c k i=decide ((mk q).rk c k<(mk q).rk c i):=by
 have:=Mk.rank_lt (bef_strict h c) hi hk
 cases hb:bef q c k i with
 | true=>exact (decide_eq_true (this.1 hb)).symm
 | false =>
  refine (decide_eq_false fun e=>?_).symm
  rw[this.2 e] at hb
  exact absurd hb (by decide)
noncomputable def bestP (q:QL₀):Nat→Nat:=open Classical in if h:∃ p,(mk q).Best p then h.choose else fun _=>0
theorem bestP_best {q:QL₀} (h:∀ i,i<q.ls.length→LeaOk q i):(mk q).Best (bestP q):=by
 have h1:∃ p,(mk q).Best p:=Mk.best_exists (mk_inj h)
 unfold bestP
 rw[dif_pos h1]
 exact h1.choose_spec
def numOf:Option Nat→Int
 | none=>-1
 | some c=>c
noncomputable def giveQ (q:QL₀):List Int:=(List.range q.ls.length).map fun i=>numOf ((mk q).has (bestP q) i)
theorem giveQ_of {q:QL₀} (h:∀ i,i<q.ls.length→LeaOk q i) {p:Nat→Nat} (hp:(mk q).Best p):(List.range q.ls.length).map (fun i=>numOf ((mk q).has p i))=giveQ q:=by
 apply JI
 intro i hi
 have hi:i<q.ls.length:=by simpa using hi
 have:=hp.same (bestP_best h) i hi
 simp only[Mk.has,this]
end Go.Proofs.YtfnhbbohjnjfnaaGreat.Qu
namespace Go.Proofs.YtfnhbbohjnjfnaaGreat.AM
variable [Dr]
open Go Go.Proofs.YtfnhbbohjnjfnaaGreat.Qu
def chk (s:ByteArray) (i:Nat):Bool:=match s.data[i]? with | none=>false | some x=>lowB x||(decide (i≠0)&&digB x)
theorem E3 (s:ByteArray):JH s=true↔(1≤s.size∧s.size≤16)∧∀ i,i<s.size→chk s i=true:=by
 have hsz:s.size=s.data.toList.length:=(Array.length_toList).symm
 have hg:∀ i,s.data[i]? = s.data.toList[i]? := fun i=>(Y7).symm
 unfold JH chk
 simp only[hg,hsz]
 generalize s.data.toList=l
 simp only[QD,decide_eq_true_eq,Q1,and_assoc]
 refine and_congr_right fun h1=>and_congr_right fun h2=>?_
 constructor
 ·rintro ⟨h3,h4⟩ i hi
  rw[QI hi]
  simp only
  cases i with
  | zero =>
   cases l with
   | nil=>simp at h1
   | cons x l=>simpa using h3
  | succ i=>have:=h4 _ (Q2 hi);simpa using this
 ·intro h
  refine ⟨?_,?_⟩
  ·cases l with
   | nil=>simp at h1
   | cons x l=>simpa using h 0 (by simp)
  ·intro x hx
   obtain ⟨i,hi,rfl⟩:=WN.1 hx
   have:=h i hi
   rw[QI hi] at this
   simp only[WR,QD] at this ⊢
   rcases this with h | h
   ·exact .inl h
   ·exact .inr h.2
theorem Qck {s:ByteArray} (h:¬ (1≤s.size∧s.size≤16)):JH s=false:=by
 cases hn:JH s with
 | false=>rfl
 | true=>exact absurd ((E3 s).1 hn).1 h
theorem H3 {s:ByteArray} {i:Nat} (hi:i<s.size) (h:chk s i=false):JH s=false:=by
 cases hn:JH s with
 | false=>rfl
 | true=>rw[((E3 s).1 hn).2 i hi] at h;cases h
theorem CF {s:ByteArray} {i:Nat} (h:i<s.size) (σ:List AObj):G5 [.cv (.str s),.cv (.int .i64 i)] σ=some (.cv (.int .u8 ((s.data[i]'h).toNat:Nat)),σ):=by
 have:s.data[i]? = some (s.data[i]'h):=Q7 h
 simp[G5,this]
theorem Qes {s:ByteArray} (h:0<s.size) (σ:List AObj):G5 [.cv (.str s),.cv (.int .i64 0)] σ=some (.cv (.int .u8 ((s.data[0]'h).toNat:Nat)),σ):=CF h σ
theorem NK {s:ByteArray} {i:Nat} (h:i<s.size):chk s i=(lowB (s.data[i]'h)||(decide (i≠0)&&digB (s.data[i]'h))):=by
 have:s.data[i]? = some (s.data[i]'h):=Q7 h
 simp[chk,this]
theorem Qdk (x:UInt8):inB (x.toNat:Nat) 97 122=lowB x:=by
 unfold inB lowB;rw[Q8];simp;omega
theorem inB_dig (x:UInt8):inB (x.toNat:Nat) 48 57=digB x:=by
 unfold inB digB;rw[Q8];simp;omega
theorem c42 (s:ByteArray) (hs:s.size<2 ^ 63):PC Tryz.prog 42 [.cv (.str s)] (.b (JH s)):=by
 refine ⟨ZF (fok42 true) (QC rfl) ?_,rfl⟩
 have hw:∀ x:UInt8,IntKind.i64.wrap (x.toNat:Nat)=(x.toNat:Nat):=fun x=>ZC (by have:=x.toNat_lt;omega)
 simp only[ic42,evA,simprocAttr]
 refine (c70 s.size 1 16).call frz ?_
 cases h1:inB s.size 1 16
 ·have:JH s=false:=Qck fun h=>by rw[VB.2 (by omega)] at h1;cases h1
  simp only[this,evA,simprocAttr]
  exact frz
 have h1':=VB.1 h1
 have h0:0<s.size:=by omega
 simp only[Qes h0,hw,evA,simprocAttr]
 refine (c70 _ 97 122).call frz ?_
 rw[Qdk]
 cases h2:lowB (s.data[0]'h0)
 ·have:JH s=false:=H3 h0 (by rw[NK h0];simp[h2])
  simp only[this,evA,simprocAttr]
  exact frz
 simp only[evA,simprocAttr]
 refine ZW s.size (fun i s'=>(∀ j,j<i→chk s j=true)∧∃ v3 v4 v5,s'=⟨[.cv (.str s),.b false,.i i,v3,v4,v5],[]⟩) ?_ 0 (QF _) ⟨by omega,_,_,_,rfl⟩
 rintro i s' hi ⟨hall,v3,v4,v5,rfl⟩
 by_cases h:i<s.size
 rotate_left
 ·have:JH s=true:=(E3 s).2 ⟨by omega,fun j hj=>hall j (by omega)⟩
  simp only[ic42l0,QJ,h,this,evA,simprocAttr]
  exact frz
 simp only[ic42l0,QJ,h,CF h,hw,evA,simprocAttr]
 refine (c70 _ 97 122).call frz ?_
 rw[Qdk]
 have hgo:chk s i=true→∀ j,j<i+1→chk s j=true:=fun hc j hj=>by
  rcases QQ.1 hj with hj | rfl
  ·exact hall j hj
  ·exact hc
 cases h3:lowB (s.data[i]'h)
 ·simp only[CF h,hw,evA,simprocAttr]
  refine (c70 _ 48 57).call frz ?_
  rw[inB_dig]
  cases h4:digB (s.data[i]'h)
  ·have:JH s=false:=H3 h (by rw[NK h];simp[h3,h4])
   simp only[this,evA,simprocAttr]
   exact frz
  ·simp only[evA,simprocAttr]
   have hc:chk s i=true:=by
    rw[NK h,h3,h4]
    have:i≠0:=by rintro rfl;rw[h2] at h3;cases h3
    simp[this]
   exact ZL (by first | trivial | omega) ⟨hgo hc,_,_,_,by rw[ZC (by omega)];rfl⟩
 ·simp only[evA,simprocAttr]
  have hc:chk s i=true:=by rw[NK h,h3];rfl
  exact ZL (by first | trivial | omega) ⟨hgo hc,_,_,_,by rw[ZC (by omega)];rfl⟩
theorem Qdr {s:ByteArray} {i:Nat} (h:i<s.size):s.get! i=s.data[i]'h:=by
 show s.data[i]! = _
 exact getElem!_pos s.data i h
theorem QdA {s:ByteArray} {i:Nat} (h:i<s.size) (hb:(s.data[i]'h).toNat<128):Utf8.decode s i=((s.data[i]'h).toNat,1):=by
 unfold Utf8.decode
 simp only[Nat.add_zero,Qdr h]
 rw[if_pos hb]
theorem decode_high {s:ByteArray} {i:Nat} (h:i<s.size) (hb:¬ (s.data[i]'h).toNat<128):128≤(Utf8.decode s i).1:=by
 unfold Utf8.decode Utf8.runeError
 simp only[Nat.add_zero,Qdr h]
 rw[if_neg hb]
 split
 ·split
  ·assumption
  ·decide
 ·split
  ·split
   ·rename_i hc;simp only[QD,decide_eq_true_eq] at hc;omega
   ·decide
  ·split
   ·split
    ·rename_i hc;simp only[QD,decide_eq_true_eq] at hc;omega
    ·decide
   ·decide
theorem QbY {s:ByteArray} {i:Nat} (h:i<s.size):KX [.ptr 0 0] [.siter s i]=some (.tup [.b true,.i i,.cv (.int .i32 ((Utf8.decode s i).1:Nat))],[.siter s (i+(Utf8.decode s i).2)]):=by
 simp[KX,RH,h]
theorem Qe2 {s:ByteArray} {i:Nat} (h:¬ i<s.size):KX [.ptr 0 0] [.siter s i]=some (.tup [.b false],[.siter s i]):=by
 simp[KX,RH,h]
theorem c100 (s:ByteArray) (hs:s.size<2 ^ 63):PC Tryz.prog 100 [.cv (.str s)] (.b (JH s)):=by
 refine ⟨ZF (fok100 true) (QC rfl) ?_,rfl⟩
 simp only[ic100,evA,simprocAttr]
 refine ZW s.size (fun i s'=>(∀ j,j<i→chk s j=true)∧∃ v2 v3 v5 v6 v7,s'=⟨[.cv (.str s),.b false,v2,v3,.ptr 0 0,v5,v6,v7],[.siter s i]⟩) ?_ 0 (QF _) ⟨by omega,_,_,_,_,_,rfl⟩
 rintro i s' hi ⟨hall,v2,v3,v5,v6,v7,rfl⟩
 by_cases h:i<s.size
 rotate_left
 ·simp only[ic100l0,Qe2 h,V4,evA,simprocAttr]
  refine (c122 1 16 [s.size] (by simp)).call frz ?_
  rw[FW]
  have:(!(!inB s.size 1 16))=JH s:=by
   rw[Bool.not_not,Q8,VB,E3]
   exact ⟨fun h1=>⟨by omega,fun j hj=>hall j (by omega)⟩,fun h1=>by omega⟩
  simp only[this,evA,simprocAttr]
  exact frz
 have hgo:chk s i=true→∀ j,j<i+1→chk s j=true:=fun hc j hj=>by
  rcases QQ.1 hj with hj | rfl
  ·exact hall j hj
  ·exact hc
 by_cases hb:(s.data[i]'h).toNat<128
 ·simp only[ic100l0,QbY h,QdA h hb,evA,simprocAttr]
  have hc:=NK h
  generalize s.data[i]'h=x at hb hc ⊢
  by_cases h1:((x.toNat:Nat):Int)<97
  ·simp only[h1,evA,simprocAttr]
   by_cases h0:(i:Int)=0
   ·have:JH s=false:=H3 h (by
     rw[hc]
     have:i=0:=by omega
     simp[this,lowB];omega)
    simp only[h0,this,evA,simprocAttr]
    exact frz
   ·have h0':((i:Int) == 0)=false:=by simp;omega
    simp only[h0',evA,simprocAttr]
    by_cases h2:((x.toNat:Nat):Int)<48
    ·have:JH s=false:=H3 h (by rw[hc];simp[lowB,digB];omega)
     simp only[h2,this,evA,simprocAttr]
     exact frz
    ·simp only[h2,evA,simprocAttr]
     by_cases h3:((x.toNat:Nat):Int)>57
     ·have:JH s=false:=H3 h (by rw[hc];simp[lowB,digB];omega)
      simp only[h3,this,evA,simprocAttr]
      exact frz
     ·simp only[h3,evA,simprocAttr]
      exact ZL (by first | trivial | omega) ⟨hgo (by rw[hc];simp[lowB,digB];omega),_,_,_,_,_,rfl⟩
  ·simp only[h1,evA,simprocAttr]
   by_cases h1b:((x.toNat:Nat):Int)>122
   ·simp only[h1b,evA,simprocAttr]
    have hno:JH s=false:=H3 h (by rw[hc];simp[lowB,digB];omega)
    by_cases h0:(i:Int)=0
    ·simp only[h0,hno,evA,simprocAttr]
     exact frz
    ·have h0':((i:Int) == 0)=false:=by simp;omega
     have h2:¬ ((x.toNat:Nat):Int)<48:=by omega
     have h3:((x.toNat:Nat):Int)>57:=by omega
     simp only[h0',h2,h3,hno,evA,simprocAttr]
     exact frz
   ·simp only[h1b,evA,simprocAttr]
    exact ZL (by first | trivial | omega) ⟨hgo (by rw[hc];simp[lowB,digB];omega),_,_,_,_,_,rfl⟩
 ·have hd:=decode_high h hb
  have hno:JH s=false:=H3 h (by rw[NK h];simp[lowB,digB];omega)
  simp only[ic100l0,QbY h,evA,simprocAttr]
  generalize Utf8.decode s i=p at hd ⊢
  have h1:¬ ((p.1:Nat):Int)<97:=by omega
  have h1b:((p.1:Nat):Int)>122:=by omega
  have h2:¬ ((p.1:Nat):Int)<48:=by omega
  have h3:((p.1:Nat):Int)>57:=by omega
  by_cases h0:(i:Int)=0
  ·simp only[h0,h1,h1b,hno,evA,simprocAttr]
   exact frz
  ·have h0':((i:Int) == 0)=false:=by simp;omega
   simp only[h0',h1,h1b,h2,h3,hno,evA,simprocAttr]
   exact frz
end Go.Proofs.YtfnhbbohjnjfnaaGreat.AM
namespace Go.Proofs.YtfnhbbohjnjfnaaGreat.AM
variable [Dr]
open Go
section
variable {α:Type} [Inhabited α] {f:α→List CV} {e:Nat}
theorem UG (hf:∀ x,(f x).length=e):∀ xs:List α,(xs.flatMap f).length=xs.length*e
 | []=>by simp
 | x::xs=>by simp[UG hf xs,hf,XJ];omega
theorem A3 (hf:∀ x,(f x).length=e):∀ (xs:List α) (k:Nat),(xs.flatMap f).take (k*e)=(xs.take k).flatMap f
 | [],k=>by simp
 | x::xs,0=>by simp
 | x::xs,k+1=>by
  have h:=A3 hf xs k
  rw[YH,List.take_succ_cons,YH,XJ,List.take_append,hf,Nat.add_sub_cancel,h]
  rw[Q5 (by rw[hf];omega)]
theorem A5 (hf:∀ x,(f x).length=e):∀ (xs:List α) (k:Nat),(xs.flatMap f).drop (k*e)=(xs.drop k).flatMap f
 | [],k=>by simp
 | x::xs,0=>by simp
 | x::xs,k+1=>by
  have h:=A5 hf xs k
  rw[YH,List.drop_succ_cons,XJ,List.drop_append,hf,Nat.add_sub_cancel,h]
  rw[List.drop_of_length_le (by rw[hf];omega),List.nil_append]
theorem G3 (hf:∀ x,(f x).length=e) {xs:List α} {k:Nat} (hk:k<xs.length):((xs.flatMap f).drop (k*e)).take e=f xs[k]! := by
 rw[A5 hf]
 have:xs.drop k=xs[k]! :: xs.drop (k+1):=by rw[List.drop_eq_getElem_cons hk];simp[hk]
 rw[this,YH,List.take_append,hf,Nat.sub_self,List.take_zero,ZU,Q5 (by rw[hf];omega)]
theorem flat_get (hf:∀ x,(f x).length=e) {xs:List α} {k:Nat} (hk:k<xs.length) {j:Nat} (hj:j<e):(xs.flatMap f)[k*e+j]? = (f xs[k]!)[j]? := by
 rw[← G3 hf hk,Z7,if_pos hj,X4]
end
theorem XP {e n k:Nat} {cs:List CV} (h:k<n) (σ:List AObj):VP e [.cv (.rsl cs n),.cv (.int .i64 k)] σ=some (.cv (.rp cs (k*e)),σ):=by
 simp[VP,h]
theorem Qc7 {e n k:Nat} {cs:List CV} (h:k≤n) (hl:cs.length=n*e) (σ:List AObj):VG e false true [.cv (.rsl cs n),.cv (.int .i64 k)] σ=some (.cv (.rsl (cs.take (k*e)) k),σ):=by
 simp[VG,bnds,bnd,h,hl]
theorem sl_ints {k:Nat} {kd:IntKind} {zs:List Int} (h:k≤zs.length) (σ:List AObj):VG 1 false true [.cv (.rsl (zs.map (.int kd)) zs.length),.cv (.int .i64 k)] σ=some (.cv (.rsl ((zs.take k).map (.int kd)) k),σ):=by
 rw[Qc7 h (by simp)];simp[List.map_take]
theorem MP {n:Nat} (h:n<2 ^ 40) (σ:List AObj):XB 1 8 [.i 0] [.i n,.i n] σ=some (.sl σ.length 0 n 1,σ++[.cells ((List.replicate n (0:Int)).map AV.i)]):=by
 have e:(2:Int) ^ 46=70368744177664:=by decide
 have e2:(2:Nat) ^ 40=1099511627776:=by decide
 have h1:0≤(n:Int)∧True∧(n:Int)*(8:Nat)≤2 ^ 46∧(n:Int)≤2 ^ 46∧[AV.i 0].length=1:=by
  refine ⟨by omega,trivial,by omega,by omega,rfl⟩
 simp only[XB]
 rw[if_pos h1]
 simp[YW]
theorem BP {l n w:Nat} (h:w<n) (σ:List AObj):VG 1 true false [.sl l 0 n 1,.cv (.int .i64 w)] σ=some (.sl l w (n-w) 1,σ):=by
 have h2:¬ (w=n∧0<w):=by omega
 simp[VG,bnds,bnd,Nat.le_of_lt h,h2]
theorem Qb1 {l n w:Nat} (h:w≤n) (σ:List AObj):VG 1 false true [.sl l 0 n 1,.cv (.int .i64 w)] σ=some (.sl l 0 w 1,σ):=by
 have h2:¬ (0=w∧0<0):=by omega
 simp[VG,bnds,bnd,h]
theorem WW (σ J:List AObj):rowOf (σ++J) σ.length=rowOf J 0:=by
 unfold rowOf;rw[QS (QG _),Nat.sub_self]
theorem X9 (σ J:List AObj) (k:Nat):rowOf (σ++J) (σ.length+k)=rowOf J k:=by
 unfold rowOf;rw[QS (by omega),X6]
theorem VW (σ J:List AObj) (v:AObj):(σ++J).set σ.length v=σ++J.set 0 v:=by
 rw[List.set_append_right _ _ (QG _),Nat.sub_self]
theorem EZ (σ J:List AObj) (k:Nat) (v:AObj):(σ++J).set (σ.length+k) v=σ++J.set k v:=by
 rw[List.set_append_right _ _ (by omega),X6]
theorem Qau (σ J:List AObj):(σ++J)[σ.length]? = J[0]? := by rw[QS (QG _),Nat.sub_self]
theorem CH (σ J:List AObj) (k:Nat):(σ++J)[σ.length+k]? = J[k]? := by rw[QS (by omega),X6]
theorem get_nz (σ:List AObj):σ[σ.length]? = none:=QN (QG _)
theorem get_ns (σ:List AObj) (k:Nat):σ[σ.length+k]? = none:=QN (by omega)
theorem ZH {σ:List AObj} {l:Nat} {cs:List AV} (h:rowOf σ l=some cs) (J:List AObj):rowOf (σ++J) l=some cs:=by
 have h:=WO h
 unfold rowOf;rw[QE (QH.1 h).1,h]
theorem Qdq {σ:List AObj} {l:Nat} {cs:List AV} (h:rowOf σ l=some cs) (J:List AObj):(σ++J)[l]? = some (.cells cs):=by
 have h:=WO h
 rw[QE (QH.1 h).1,h]
theorem str_eq (x y:ByteArray):(x.toList == y.toList)=decide (x=y):=by
 rw[Q8];simp
 constructor
 ·intro h
  rw[Lib.toList_data,Lib.toList_data] at h
  cases x;cases y
  simp only at h
  congr
  exact Array.toList_inj.1 h
 ·rintro rfl;rfl
theorem Q6 {n:Nat} (h:n+1<2 ^ 63):IntKind.i64.wrap ((n:Int)+1)=((n+1:Nat):Int):=by rw[ZC (by omega)];rfl
end Go.Proofs.YtfnhbbohjnjfnaaGreat.AM
namespace Go.Proofs.YtfnhbbohjnjfnaaGreat.Qu
open Go Pl
theorem cnt_range (n:Nat) (P:Nat→Bool):cnt n P=(List.range n).countP P:=by
 induction n with
 | zero=>rfl
 | succ n ih=>rw[WM,List.countP_append,← ih];simp[cnt,K9]
def place (w:List Int) (c:Int):Nat:=w.findIdx (· == c)
theorem place_le (w:List Int) (c:Int):place w c≤w.length:=List.findIdx_le_length
theorem place_get {w:List Int} {c:Int} (h:place w c<w.length):w[place w c]? = some c:=by
 have:(w[place w c] == c)=true:=List.findIdx_getElem (w:=h)
 rw[QI h]
 simpa using this
section
variable {q:QL₀} (hL:∀ i,i<q.ls.length→LeaOk q i)
include hL
def OkG (q:QL₀) (g:List Int):Prop:=g.length=q.ls.length∧∀ i,i<q.ls.length→g[i]! = -1∨g[i]!∈(q.ls[i]!).wi
structure Accepts (q:QL₀) (g:List Int):Prop where
 ok:OkG q g
 cap:∀ c:Nat,c<q.cs.length→(g.count (c:Int):Int)≤(q.cs[c]!).pl
 calm:∀ i,i<q.ls.length→∀ j c,j<place (q.ls[i]!).wi (g[i]!)→(q.ls[i]!).wi[j]? = some c→¬ (g.count c:Int)<(q.cs[c.toNat]!).pl∧∀ k,k<q.ls.length→g[k]! = c→bef q c.toNat i k=false
omit hL in
theorem give_get {i:Nat} (hi:i<q.ls.length):(giveQ q)[i]! = numOf ((mk q).has (bestP q) i):=by
 simp[giveQ,hi]
end
section
variable {q:QL₀} (hL:∀ i,i<q.ls.length→LeaOk q i)
include hL
theorem wish_lt:∀ i,i<(mk q).n→∀ c∈(mk q).w i,c<q.cs.length:=by
 intro i hi c hc
 obtain ⟨x,hx,rfl⟩:=ZP.1 hc
 have:=(hL i hi).wi x hx
 omega
end
def rankQ (q:QL₀) (c i:Nat):Nat:=Mk.rankOf q.ls.length (bef q c) i+1
def HV (q:QL₀) (g:List Int) (c:Nat):Nat→Nat
 | 0=>0
 | n+1=>if g[n]! = (c:Int) then max (HV q g c n) (rankQ q c n) else HV q g c n
noncomputable def cutQ (q:QL₀):List Int:=(List.range q.cs.length).map fun c:Nat =>
 if ((giveQ q).count (c:Int):Int)<(q.cs[c]!).pl then (q.ls.length:Int) else (HV q (giveQ q) c q.ls.length:Nat)
end Go.Proofs.YtfnhbbohjnjfnaaGreat.Qu
namespace Go.Proofs.YtfnhbbohjnjfnaaGreat.AM
variable [Dr]
open Go Go.Proofs.YtfnhbbohjnjfnaaGreat.Qu
def cenC (c:Cen):List CV:=[.str c.nm,.int .i64 c.pl,.rsl (c.ru.map (.int .i64)) c.ru.length]
def leaC (x:Lea):List CV:=[.str x.nm,.int .i64 x.si,.int .i64 x.ho,.int .i64 x.fa,.rsl (x.wi.map (.int .i64)) x.wi.length]
abbrev cenA (c:Cen):AV:=.agg [.cv (.str c.nm),.i c.pl,ints c.ru]
abbrev leaA (x:Lea):AV:=.agg [.cv (.str x.nm),.i x.si,.i x.ho,.i x.fa,ints x.wi]
def cenCs (cs:List Cen):List CV:=cs.flatMap cenC
def leaCs (ls:List Lea):List CV:=ls.flatMap leaC
abbrev cenL (cs:List Cen):AV:=.cv (.rsl (cenCs cs) cs.length)
abbrev leaL (ls:List Lea):AV:=.cv (.rsl (leaCs ls) ls.length)
abbrev qV (q:QL₀):AV:=.agg [cenL q.cs,leaL q.ls]
theorem cenC_len (c:Cen):(cenC c).length=3:=rfl
theorem leaC_len (x:Lea):(leaC x).length=5:=rfl
theorem cenCs_len (cs:List Cen):(cenCs cs).length=cs.length*3:=UG cenC_len cs
theorem leaCs_len (ls:List Lea):(leaCs ls).length=ls.length*5:=UG leaC_len ls
section
variable {cs:List Cen} {ls:List Lea} {k:Nat}
theorem cen_1 (h:k<cs.length):(cenCs cs)[k*3+1]? = some (.int .i64 (cs[k]!).pl):=flat_get cenC_len h (j:=1) (by omega)
theorem cen_2 (h:k<cs.length):(cenCs cs)[k*3+2]? = some (.rsl ((cs[k]!).ru.map (.int .i64)) (cs[k]!).ru.length):=flat_get cenC_len h (j:=2) (by omega)
theorem cen_ld (h:k<cs.length) (σ:List AObj):YF 3 [.cv (.rp (cenCs cs) (k*3))] σ=some (cenA cs[k]!,σ):=by
 have h1:k*3+3≤(cenCs cs).length:=by rw[cenCs_len];omega
 have h2:=G3 cenC_len h
 simp only[YF,h1,if_true]
 unfold cenCs;rw[h2];rfl
theorem cen_sl (h:k≤cs.length) (σ:List AObj):VG 3 false true [cenL cs,.cv (.int .i64 k)] σ=some (cenL (cs.take k),σ):=by
 rw[Qc7 h (cenCs_len cs)];unfold cenCs;rw[A3 cenC_len];simp[h,cenCs]
theorem lea_4 (h:k<ls.length):(leaCs ls)[k*5+4]? = some (.rsl ((ls[k]!).wi.map (.int .i64)) (ls[k]!).wi.length):=flat_get leaC_len h (j:=4) (by omega)
theorem lea_ld (h:k<ls.length) (σ:List AObj):YF 5 [.cv (.rp (leaCs ls) (k*5))] σ=some (leaA ls[k]!,σ):=by
 have h1:k*5+5≤(leaCs ls).length:=by rw[leaCs_len];omega
 have h2:=G3 leaC_len h
 simp only[YF,h1,if_true]
 unfold leaCs;rw[h2];rfl
theorem lea_sl (h:k≤ls.length) (σ:List AObj):VG 5 false true [leaL ls,.cv (.int .i64 k)] σ=some (leaL (ls.take k),σ):=by
 rw[Qc7 h (leaCs_len ls)];unfold leaCs;rw[A3 leaC_len];simp[h,leaCs]
end
structure QSz (q:QL₀):Prop where
 cs:q.cs.length<2 ^ 63
 ls:q.ls.length<2 ^ 63
 nm:∀ i,i<q.cs.length→(q.cs[i]!).nm.size<2 ^ 63
 ru:∀ i,i<q.cs.length→(q.cs[i]!).ru.length<2 ^ 63
 lm:∀ i,i<q.ls.length→(q.ls[i]!).nm.size<2 ^ 63
 wi:∀ i,i<q.ls.length→(q.ls[i]!).wi.length<2 ^ 63
theorem unl_step {many:Int} {l:List Int} {i:Nat} (h:i<l.length):unl many (l.take i) (l.drop i) =
  if inB (l[i]?.getD 0) 0 (many-1)=false then 4 else if (l.take i).any (· == l[i]?.getD 0) then 5 else unl many (l.take (i+1)) (l.drop (i+1)):=by
 rw[List.drop_eq_getElem_cons h]
 have e:l[i]?.getD 0=l[i]:=by simp[h]
 have e2:l.take (i+1)=l.take i++[l[i]]:=by rw[JC,QI h];rfl
 rw[e,e2]
 conv=>lhs;unfold unl
 by_cases h1:l[i]<0∨many≤l[i]
 ·rw[if_pos h1,if_pos (inB_not.2 (by omega))]
 ·rw[if_neg h1,VB.2 (show 0≤l[i]∧l[i]≤many-1 by omega)]
  simp only[Bool.true_eq_false,if_false]
  by_cases h2:l[i]∈l.take i
  ·rw[if_pos h2,if_pos (ZZ.2 ⟨_,h2,by simp⟩)]
  ·rw[if_neg h2,if_neg]
   rw[Bool.not_eq_true,W6]
   intro x hx he
   simp at he;subst he;exact h2 hx
theorem unl_end {many:Int} {l:List Int} {i:Nat} (h:¬ i<l.length):unl many (l.take i) (l.drop i)=0:=by
 rw[List.drop_of_length_le (by omega)];rfl
theorem cenE_name {q:QL₀} {i:Nat} (h:JH (q.cs[i]!).nm=false):cenE q i=6:=by unfold cenE;simp only[h,if_true]
theorem cenE_twice {q:QL₀} {i k:Nat} (h:JH (q.cs[i]!).nm=true) (hk:k<i) (he:(q.cs[k]!).nm=(q.cs[i]!).nm):cenE q i=5:=by
 unfold cenE;simp only[h,Bool.true_eq_false,if_false];rw[if_pos ⟨k,hk,he⟩]
theorem cenE_rest {q:QL₀} {i:Nat} (h:JH (q.cs[i]!).nm=true) (hall:∀ k,k<i→(q.cs[k]!).nm≠(q.cs[i]!).nm):cenE q i=if inB (q.cs[i]!).pl 0 6=false then 7 else unl 3 [] (q.cs[i]!).ru:=by
 unfold cenE;simp only[h,Bool.true_eq_false,if_false]
 rw[if_neg (fun ⟨k,hk,he⟩=>hall k hk he)]
 by_cases h1:(q.cs[i]!).pl<0∨6<(q.cs[i]!).pl
 ·rw[if_pos h1,if_pos (inB_not.2 h1)]
 ·rw[if_neg h1,if_neg (fun h=>h1 (inB_not.1 h))]
end Go.Proofs.YtfnhbbohjnjfnaaGreat.AM

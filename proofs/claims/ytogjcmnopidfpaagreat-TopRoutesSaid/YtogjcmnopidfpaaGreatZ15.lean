/- Parts of the proof, joined: TrC1 to TrF2. -/
import Derived.Test.YtogjcmnopidfpaaGreatChecked
import Derived.Test.YtogjcmnopidfpaaGreatZ14
set_option linter.unusedVariables false
set_option linter.unusedSimpArgs false
set_option linter.unusedSectionVars false
namespace Go.Proofs.YtogjcmnopidfpaaGreat.AM
variable [Dr]
open Go
theorem hmix:Tryz.prog.follows .mixedOrders=true:=Checked.mixed Tryz.checked
abbrev Sd:=Int × Int
def sdC (s:Sd):List CV:=[.int .i64 s.1,.int .i64 s.2]
theorem sdC_len (s:Sd):(sdC s).length=2:=rfl
abbrev sdA (s:Sd):AV:=.agg [.i s.1,.i s.2]
def KeyC (k:Sd):Prop:=(0≤k.1∧k.1<16)∧0≤k.2∧k.2<64
abbrev Sk:={p:Sd // KeyC p}
instance:Inhabited Sk:=⟨⟨(0,0),by unfold KeyC;omega⟩⟩
def skC (s:Sk):List CV:=[.int .i64 s.1.1,.int .i64 s.1.2]
theorem skC_len (s:Sk):(skC s).length=2:=rfl
abbrev skA (s:Sk):AV:=.agg [.i s.1.1,.i s.1.2]
abbrev skX (xs:List Sk):List AV:=(xs.flatMap skC).map .cv
theorem skX_len (xs:List Sk):(skX xs).length=xs.length*2:=by rw[ZK];exact UG skC_len xs
theorem skX_cons (x:Sk) (xs:List Sk):skX (x::xs)=.i x.1.1 :: .i x.1.2::skX xs:=rfl
theorem skX_set (v:Sk):∀ {xs:List Sk} {k:Nat},k<xs.length→((skX xs).set (k*2) (.i v.1.1)).set (k*2+1) (.i v.1.2)=skX (xs.set k v)
 | [],k,h=>by simp at h
 | x::xs,0,h=>rfl
 | x::xs,k+1,h=>by
  have e:(k+1)*2=k*2+2:=by omega
  have ih:=skX_set v (xs:=xs) (k:=k) (by simpa using h)
  rw[e]
  show AV.i x.1.1::AV.i x.1.2::((skX xs).set (k*2) (.i v.1.1)).set (k*2+1) (.i v.1.2)=_
  rw[ih];rfl
section
variable {σ:List AObj} {l:Nat} {pre post:List AV} {xs:List Sk} {k n o:Nat}
theorem sd_ia (h:k<n) (σ:List AObj):VP 2 [.sl l o n 2,.cv (.int .i64 k)] σ=some (.ptr l (o+k*2),σ):=by
 simp only[VP];rw[if_pos (by omega)];simp
theorem sd_ld (hr:rowOf σ l=some (pre++(skX xs++post))) (h:k<xs.length):YF 2 [.ptr l (pre.length+k*2)] σ=some (skA xs[k]!,σ):=by
 have hl:=skX_len xs
 have h1:pre.length+k*2+2≤(pre++(skX xs++post)).length:=by rw[QM,QM];omega
 have h2:((pre++(skX xs++post)).drop (pre.length+k*2)).take 2=[.i (xs[k]!).1.1,.i (xs[k]!).1.2]:=by
  rw[← List.drop_drop,List.drop_left' rfl,List.drop_append_of_le_length (by omega),List.take_append_of_le_length (by rw[List.length_drop];omega),← List.map_drop,← List.map_take,G3 skC_len h]
  rfl
 simp only[YF,hr,Option.bind_some,h1,if_true,h2]
theorem sd_st (hr:rowOf σ l=some (pre++(skX xs++post))) (h:k<xs.length) (v:Sk):UM 2 [.ptr l (pre.length+k*2),skA v] σ=some (.undef,σ.set l (.cells (pre++(skX (xs.set k v)++post)))):=by
 have hl:=skX_len xs
 have h1:(cellsOf (skA v)).length=2∧pre.length+k*2+2≤(pre++(skX xs++post)).length∧(cellsOf (skA v)).all AV.isSc=true:=⟨rfl,by rw[QM,QM];omega,rfl⟩
 simp only[UM,hr,Option.bind_some]
 rw[if_pos h1]
 have h2:setRange (pre++(skX xs++post)) (pre.length+k*2) (cellsOf (skA v))=pre++(skX (xs.set k v)++post):=by
  show ((pre++(skX xs++post)).set (pre.length+k*2) (.i v.1.1)).set (pre.length+k*2+1) (.i v.1.2)=_
  rw[List.set_append_right _ _ (by omega),List.set_append_right _ _ (by omega),show pre.length+k*2-pre.length=k*2 by omega,show pre.length+k*2+1-pre.length=k*2+1 by omega,
   YG _ _ (by omega),YG _ _ (by rw[WE];omega)]
  rw[skX_set v h]
 rw[h2]
def swapL (xs:List Sk) (i j:Nat):List Sk:=(xs.set i xs[j]!).set j xs[i]!
theorem swap_perm {xs:List Sk} {i j:Nat} (hi:i<xs.length) (hj:j<xs.length):(swapL xs i j).Perm xs:=by
 unfold swapL
 rw[getElem!_pos xs i hi,getElem!_pos xs j hj]
 exact List.set_set_perm hi hj
end
structure CmpOk (P:Program) (cmp:AV) (cf:Sk→Sk→Int) (l:Nat) (τ:List AObj):Prop where
 lt:l<τ.length
 un:cmp.isUndef=false
 call:∀ τ':List AObj,(∀ k,k<τ.length→k≠l→τ'[k]? = τ[k]?)→∀ a b:Sk,X0 P cmp [skA a,skA b] τ' fun r τ2=>r=.i (cf a b)∧τ2=τ'
def hpS (τ:List AObj) (l:Nat) (pre post:List AV) (xs:List Sk):List AObj:=τ.set l (.cells (pre++(skX xs++post)))
section
variable {P:Program} {cmp:AV} {cf:Sk→Sk→Int} {l:Nat} {τ:List AObj} {pre post:List AV} {xs ys:List Sk}
theorem hpS_row (h:l<τ.length):rowOf (hpS τ l pre post xs) l=some (pre++(skX xs++post)):=by
 unfold hpS rowOf;rw[Z2 h]
theorem hpS_len:(hpS τ l pre post xs).length=τ.length:=by simp[hpS]
theorem hpS_set:(hpS τ l pre post xs).set l (.cells (pre++(skX ys++post)))=hpS τ l pre post ys:=by simp[hpS]
theorem hpS_push (h:l<τ.length) (J:List AObj):hpS τ l pre post xs++J=hpS (τ++J) l pre post xs:=by
 unfold hpS;rw[YG _ _ h]
theorem CmpOk.hp (h:CmpOk P cmp cf l τ) (xs:List Sk) (a b:Sk):X0 P cmp [skA a,skA b] (hpS τ l pre post xs) fun r τ2=>r=.i (cf a b)∧τ2=hpS τ l pre post xs :=
 h.call _ (fun k hk hne=>by unfold hpS;rw[QU (Ne.symm hne)]) a b
theorem CmpOk.push (h:CmpOk P cmp cf l τ) (J:List AObj):CmpOk P cmp cf l (τ++J) :=
 ⟨by have:=h.lt;simp;omega,h.un,fun τ' hs a b=>h.call τ' (fun k hk hne=>by rw[hs k (by simp;omega) hne,QE hk]) a b⟩
theorem hp_ld (h:l<τ.length) {k:Nat} (hk:k<xs.length):YF 2 [.ptr l (pre.length+k*2)] (hpS τ l pre post xs)=some (skA xs[k]!,hpS τ l pre post xs):=sd_ld (hpS_row h) hk
theorem hp_st (h:l<τ.length) {k:Nat} (hk:k<xs.length) (v:Sk):UM 2 [.ptr l (pre.length+k*2),skA v] (hpS τ l pre post xs)=some (.undef,hpS τ l pre post (xs.set k v)):=by
 rw[sd_st (hpS_row h) hk,hpS_set]
end
structure Stt where
 fr:Int
 to:Int
 me:Int
 lo:Int
 hi:Int
 bo:Bool
 sh:List Int
deriving Inhabited
structure Twn where
 pl:List ByteArray
 sh:List ByteArray
 tm:List ByteArray
 st:List Stt
deriving Inhabited
abbrev sttC (s:Stt):List CV:=[.int .i64 s.fr,.int .i64 s.to,.int .i64 s.me,.int .i64 s.lo,.int .i64 s.hi,.bool s.bo,.rsl (s.sh.map (.int .i64)) s.sh.length]
abbrev sttA (s:Stt):AV:=.agg [.i s.fr,.i s.to,.i s.me,.i s.lo,.i s.hi,.b s.bo,ints s.sh]
def sttCs (l:List Stt):List CV:=l.flatMap sttC
abbrev sttR (l:List Stt):CV:=.rsl (sttCs l) l.length
abbrev twnA (t:Twn):AV:=.agg [.cv (strR t.pl),.cv (strR t.sh),.cv (strR t.tm),.cv (sttR t.st)]
theorem sttC_len (s:Stt):(sttC s).length=7:=rfl
theorem sttCs_len (l:List Stt):(sttCs l).length=l.length*7:=UG sttC_len l
section
variable {l:List Stt} {k:Nat}
theorem stt_2 (h:k<l.length):(sttCs l)[k*7+2]? = some (.int .i64 (l[k]!).me):=flat_get sttC_len h (j:=2) (by omega)
theorem stt_5 (h:k<l.length):(sttCs l)[k*7+5]? = some (.bool (l[k]!).bo):=flat_get sttC_len h (j:=5) (by omega)
theorem stt_6 (h:k<l.length):(sttCs l)[k*7+6]? = some (.rsl ((l[k]!).sh.map (.int .i64)) (l[k]!).sh.length):=flat_get sttC_len h (j:=6) (by omega)
theorem stt_ld (h:k<l.length) (σ:List AObj):YF 7 [.cv (.rp (sttCs l) (k*7))] σ=some (sttA l[k]!,σ):=by
 have h1:k*7+7≤(sttCs l).length:=by rw[sttCs_len];omega
 have h2:=G3 sttC_len h
 simp only[YF,h1,if_true]
 unfold sttCs;rw[h2];rfl
theorem ia_stt (h:k<l.length) (σ:List AObj):VP 7 [.cv (sttR l),.cv (.int .i64 k)] σ=some (.cv (.rp (sttCs l) (k*7)),σ):=XP h σ
end
structure TSz (t:Twn):Prop where
 pl:t.pl.length<2 ^ 63
 sh:t.sh.length<2 ^ 63
 tm:t.tm.length<2 ^ 63
 st:t.st.length<2 ^ 63
 npl:∀ i,i<t.pl.length→(t.pl[i]!).size<2 ^ 63
 nsh:∀ i,i<t.sh.length→(t.sh[i]!).size<2 ^ 63
 ntm:∀ i,i<t.tm.length→(t.tm[i]!).size<2 ^ 63
 ssh:∀ i,i<t.st.length→(t.st[i]!).sh.length<2 ^ 63
def XZ (g:Nat→Int):Nat→Nat→Int × Int
 | _,0=>(0,0)
 | i,k+1=>if g i=0 then XZ g (i+1) k else (i,g i)
theorem JY {g:Nat→Int}:∀ (k i:Nat),(∀ j,i≤j→j<i+k→g j=0)→XZ g i k=(0,0)
 | 0,_,_=>rfl
 | k+1,i,h=>by
  rw[XZ,if_pos (h i (QG _) (by omega))]
  exact JY k (i+1) fun j h1 h2=>h j (by omega) (by omega)
theorem VF {g:Nat→Int}:∀ (k i m:Nat),i≤m→m<i+k→(∀ j,i≤j→j<m→g j=0)→g m≠0→XZ g i k=((m:Int),g m)
 | 0,i,m,h1,h2,_,_=>by omega
 | k+1,i,m,h1,h2,h3,h4=>by
  rcases ZB i m with h | h
  ·rw[XZ,if_pos (h3 i (QG _) h)]
   exact VF k (i+1) m h (by omega) (fun j a b=>h3 j (by omega) b) h4
  ·have:i=m:=by omega
   subst this
   rw[XZ,if_neg h4]
theorem findE_zero {g:Nat→Int}:∀ {k i:Nat},(XZ g i k).2=0→∀ j,i≤j→j<i+k→g j=0
 | 0,_,_,j,h1,h2=>by omega
 | k+1,i,h,j,h1,h2=>by
  rw[XZ] at h
  by_cases hg:g i=0
  ·rw[if_pos hg] at h
   rcases ZB i j with h3 | h3
   ·exact findE_zero h j (by omega) (by omega)
   ·have:i=j:=by omega
    subst this;exact hg
  ·rw[if_neg hg] at h;exact absurd h hg
def nmE (l:List ByteArray) (k:Nat):Int:=if JH l[k]! = false then 6 else if anyN (fun i=>decide ((l.take k)[i]! = l[k]!)) (l.take k).length then 5 else 0
theorem t91 (l:List ByteArray) (k:Nat) (hk:k<l.length) (hl:l.length<2 ^ 63) (hs:(l[k]!).size<2 ^ 63):PC Tryz.prog 91 [.i k,.cv (.str l[k]!),.cv (.rp [strR l] 0)] (.i (nmE l k)):=by
 refine ⟨ZF (fok91 true) (QC rfl) ?_,rfl⟩
 simp only[ic91,evA,simprocAttr]
 refine (o20 l[k]! hs).call frz ?_
 cases h:JH l[k]!
 ·have e:nmE l k=6:=by unfold nmE;rw[if_pos h]
  simp only[e,evA,simprocAttr]
  exact frz
 have htl:(l.take k).length=k:=by simp;omega
 have hsl:=str_sl (show k≤l.length by omega) ([]:List AObj)
 simp only[hsl,evA,simprocAttr]
 refine (o123 (l.take k) l[k]! (by omega)).call frz ?_
 cases h2:anyN (fun i=>decide ((l.take k)[i]! = l[k]!)) (l.take k).length
 ·have e:nmE l k=0:=by simp only[nmE,h,h2];rfl
  simp only[e,evA,simprocAttr]
  exact frz
 ·have e:nmE l k=5:=by simp only[nmE,h,h2];rfl
  simp only[e,evA,simprocAttr]
  exact frz
theorem t90 (l:List ByteArray) (hl:l.length<2 ^ 63) (hs:∀ i,i<l.length→(l[i]!).size<2 ^ 63) :
  PC Tryz.prog 90 [.cv (strR l),.fn (.func 91) [.cv (.rp [strR l] 0)]] (.tup [.i (XZ (nmE l) 0 l.length).1,.i (XZ (nmE l) 0 l.length).2]):=by
 refine ⟨ZF (fok90 true) (QC rfl) ?_,rfl⟩
 simp only[ic90,evA,simprocAttr]
 refine ZW l.length (fun i s=>(∀ j,j<i→nmE l j=0)∧∃ v2 v3 v4 v5 v9 v10,s=⟨[.cv (strR l),.fn (.func 91) [.cv (.rp [strR l] 0)],v2,v3,v4,v5,.cv (strR l),.i l.length,.i i,v9,v10],[]⟩) ?_ 0 (QF _) ⟨by omega,_,_,_,_,_,_,rfl⟩
 rintro i s hi ⟨hall,v2,v3,v4,v5,v9,v10,rfl⟩
 by_cases h:i<l.length
 ·simp only[ic90l0,QJ,h,XP h,BK h,evA,simprocAttr]
  refine (t91 l i h hl (hs i h)).call frz ?_
  by_cases hg:nmE l i=0
  ·have hb:(nmE l i != 0)=false:=by simpa using hg
   simp only[hb,Q6 (show i+1<2 ^ 63 by omega),evA,simprocAttr]
   refine ZL (by first | trivial | omega) ⟨fun j hj=>?_,_,_,_,_,_,_,rfl⟩
   rcases QQ.1 hj with hj | rfl
   ·exact hall j hj
   ·exact hg
  ·have hb:(nmE l i != 0)=true:=by simpa using hg
   rw[VF l.length 0 i (QF _) (by omega) (fun j _ hj=>hall j hj) hg]
   simp only[hb,evA,simprocAttr]
   exact frz
 ·have:i=l.length:=by omega
  subst this
  rw[JY l.length 0 fun j _ hj=>hall j (by omega)]
  simp only[ic90l0,QJ,h,evA,simprocAttr]
  exact frz
theorem t51 (t:Twn) (hm:t.sh.length≤8):PC Tryz.prog 51 [twnA t] (.i (2 ^ t.sh.length)):=by
 refine ⟨ZF (fok51 true) (QC rfl) ?_,rfl⟩
 have hb:=HF hm
 have hsh:VK .shl .i64 1 t.sh.length=some (.cv (.int .i64 (2 ^ t.sh.length))):=by
  unfold VK
  rw[if_neg (by omega),Int.toNat_natCast,show min t.sh.length IntKind.i64.bits=t.sh.length by simp[IntKind.bits];omega,Int.one_mul,ZC (by omega)]
 simp only[ic51,hsh,evA,simprocAttr]
 exact frz
def sttE (t:Twn) (s:Stt):Int :=
 if outF 0 ((t.pl.length:Int)-1) [s.fr,s.to] then 4 else if s.fr=s.to then 2 else if s.sh.length≠t.tm.length then 3
 else if outF 1 10000 [s.me]||(outF 0 60 [s.lo,s.hi]||outF 0 (2 ^ t.sh.length-1) s.sh) then 7 else if s.lo>s.hi then 2 else 0
set_option maxHeartbeats 1000000 in
theorem t95 (t:Twn) (ht:TSz t) (hm:t.sh.length≤8) (i:Int) (s:Stt) (hs:s.sh.length<2 ^ 63):PC Tryz.prog 95 [twnA t,.i i,sttA s] (.i (sttE t s)):=by
 refine ⟨ZF (fok95 true) (QC rfl) ?_,rfl⟩
 have hb:=HF hm
 have hpl:=ht.pl
 have hw1:IntKind.i64.wrap ((t.pl.length:Int)-1)=(t.pl.length:Int)-1:=ZC (by omega)
 have hw2:IntKind.i64.wrap ((2:Int) ^ t.sh.length-1)=2 ^ t.sh.length-1:=ZC (by omega)
 simp only[ic95,hw1,evA,simprocAttr]
 refine (o56_50 0 ((t.pl.length:Int)-1) [s.fr,s.to] (by simp)).call frz ?_
 cases h1:outF 0 ((t.pl.length:Int)-1) [s.fr,s.to]
 rotate_left
 ·have e:sttE t s=4:=by simp[sttE,h1]
  simp only[e,evA,simprocAttr]
  exact frz
 by_cases h2:s.fr=s.to
 ·have e:sttE t s=2:=by simp[sttE,h1,h2] <;> simp[h2] at h1 <;> simp[h1]
  have hb2:(s.fr == s.to)=true:=by simp[h2]
  simp only[e,hb2,evA,simprocAttr]
  exact frz
 have hb2:(s.fr == s.to)=false:=beq_f h2
 by_cases h3:s.sh.length=t.tm.length
 rotate_left
 ·have e:sttE t s=3:=by simp[sttE,h1,h2,h3]
  have hb3:((s.sh.length:Int) != t.tm.length)=true:=bne_t (by omega)
  simp only[e,hb2,hb3,evA,simprocAttr]
  exact frz
 have hb3:((s.sh.length:Int) != t.tm.length)=false:=by simp[h3]
 simp only[hb2,hb3,evA,simprocAttr]
 refine DW_s [3,12,16,20] [] hmix (by kernel_rfl) rfl ?_
 simp only[evA,simprocAttr]
 refine YE ((o56_50 1 10000 [s.me] (by simp)).call frz ⟨rfl,rfl⟩) rfl ?_
 have last:sttE t s=if outF 1 10000 [s.me]||(outF 0 60 [s.lo,s.hi]||outF 0 (2 ^ t.sh.length-1) s.sh) then 7 else if s.lo>s.hi then 2 else 0:=by
  simp[sttE,h1,h2,h3]
 rw[last]
 cases h4:outF 1 10000 [s.me]
 rotate_left
 ·simp only[evA,simprocAttr]
  exact frz
 simp only[evA,simprocAttr]
 refine YE ((o56_50 0 60 [s.lo,s.hi] (by simp)).call frz ⟨rfl,rfl⟩) rfl ?_
 cases h5:outF 0 60 [s.lo,s.hi]
 rotate_left
 ·simp only[evA,simprocAttr]
  exact frz
 simp only[evA,simprocAttr]
 refine YE ((t51 t hm).call frz ⟨rfl,rfl⟩) rfl ?_
 simp only[hw2,evA,simprocAttr]
 refine YE ((o56_50 0 (2 ^ t.sh.length-1) s.sh hs).call frz ⟨rfl,rfl⟩) rfl ?_
 cases h6:outF 0 (2 ^ t.sh.length-1) s.sh
 rotate_left
 ·simp only[evA,simprocAttr]
  exact frz
 by_cases h7:s.lo>s.hi
 ·simp only[h7,evA,simprocAttr]
  exact frz
 ·simp only[h7,evA,simprocAttr]
  exact frz
theorem t94 (t:Twn) (ht:TSz t) (hm:t.sh.length≤8) :
  PC Tryz.prog 94 [.cv (sttR t.st),.bm 95 [twnA t]] (.tup [.i (XZ (fun i=>sttE t t.st[i]!) 0 t.st.length).1,.i (XZ (fun i=>sttE t t.st[i]!) 0 t.st.length).2]):=by
 refine ⟨ZF (fok94 true) (QC rfl) ?_,rfl⟩
 have hl:=ht.st
 have hf:=fun i (h:i<t.st.length)=>t95 t ht hm i t.st[i]! (ht.ssh i h)
 generalize hg:(fun i:Nat=>sttE t t.st[i]!)=g
 have hg':∀ i,sttE t t.st[i]! = g i:=fun i=>by rw[← hg]
 simp only[ic94,evA,simprocAttr]
 refine ZW t.st.length (fun i s=>(∀ j,j<i→g j=0)∧∃ v2 v3 v4 v5 v9 v10,s=⟨[.cv (sttR t.st),.bm 95 [twnA t],v2,v3,v4,v5,.cv (sttR t.st),.i t.st.length,.i i,v9,v10],[]⟩) ?_ 0 (QF _) ⟨by omega,_,_,_,_,_,_,rfl⟩
 rintro i s hi ⟨hall,v2,v3,v4,v5,v9,v10,rfl⟩
 by_cases h:i<t.st.length
 ·simp only[ic94l0,QJ,h,ia_stt h,stt_ld h,evA,simprocAttr]
  refine (hf i h).call frz ?_
  rw[hg']
  by_cases hgi:g i=0
  ·have hb:(g i != 0)=false:=by simpa using hgi
   simp only[hb,Q6 (show i+1<2 ^ 63 by omega),evA,simprocAttr]
   refine W1 [] _ rfl (by first | trivial | omega) (QF _) (by simp) ⟨fun j hj=>?_,_,_,_,_,_,_,rfl⟩
   rcases QQ.1 hj with hj | rfl
   ·exact hall j hj
   ·exact hgi
  ·have hb:(g i != 0)=true:=by simpa using hgi
   rw[VF t.st.length 0 i (QF _) (by omega) (fun j _ hj=>hall j hj) hgi]
   simp only[hb,evA,simprocAttr]
   exact frz
 ·have:i=t.st.length:=by omega
  subst this
  rw[JY t.st.length 0 fun j _ hj=>hall j (by omega)]
  simp only[ic94l0,QJ,h,evA,simprocAttr]
  exact frz
def twnL (t:Twn):Bool:=outF 1 16 [t.pl.length]||(decide ((t.sh.length:Int)>6)||(outF 1 4 [t.tm.length]||decide ((t.st.length:Int)>40)))
def twnV (t:Twn):Int × Int × Int :=
 if twnL t then (1,0,3)
 else if (XZ (nmE t.pl) 0 t.pl.length).2≠0 then (2,XZ (nmE t.pl) 0 t.pl.length)
 else if (XZ (nmE t.sh) 0 t.sh.length).2≠0 then (3,XZ (nmE t.sh) 0 t.sh.length)
 else if (XZ (nmE t.tm) 0 t.tm.length).2≠0 then (4,XZ (nmE t.tm) 0 t.tm.length)
 else if (XZ (fun i=>sttE t t.st[i]!) 0 t.st.length).2≠0 then (5,XZ (fun i=>sttE t t.st[i]!) 0 t.st.length)
 else (0,0,0)
def twnE (t:Twn):Int:=(twnV t).2.2
abbrev triA (x:Int × Int × Int):AV:=.tup [.i x.1,.i x.2.1,.i x.2.2]
set_option maxHeartbeats 1000000 in
theorem t72 (t:Twn) (ht:TSz t):PC Tryz.prog 72 [twnA t] (triA (twnV t)):=by
 refine ⟨ZF (fok72 true) (QC rfl) ?_,rfl⟩
 simp only[ic72,evA,simprocAttr]
 refine (o56_50 1 16 [(t.pl.length:Int)] (by simp)).call frz ?_
 have hbad:∀ b,twnL t=b→b=true→triA (twnV t)=.tup [.i 1,.i 0,.i 3]:=fun b h hb=>by simp[twnV,h,hb]
 cases h1:outF 1 16 [(t.pl.length:Int)]
 rotate_left
 ·have e:twnL t=true:=by simp[twnL,h1]
  rw[hbad _ e rfl]
  simp only[evA,simprocAttr]
  exact frz
 by_cases h2:(t.sh.length:Int)>6
 ·have e:twnL t=true:=by simp[twnL,h2]
  rw[hbad _ e rfl]
  simp only[h2,evA,simprocAttr]
  exact frz
 simp only[h2,evA,simprocAttr]
 refine (o56_50 1 4 [(t.tm.length:Int)] (by simp)).call frz ?_
 cases h3:outF 1 4 [(t.tm.length:Int)]
 rotate_left
 ·have e:twnL t=true:=by simp[twnL,h3]
  rw[hbad _ e rfl]
  simp only[evA,simprocAttr]
  exact frz
 by_cases h4:(t.st.length:Int)>40
 ·have e:twnL t=true:=by simp[twnL,h4]
  rw[hbad _ e rfl]
  simp only[h4,evA,simprocAttr]
  exact frz
 have e:twnL t=false:=by simp only[twnL,h1,h2,h3,h4];rfl
 have ev:twnV t=(if (XZ (nmE t.pl) 0 t.pl.length).2≠0 then (2,XZ (nmE t.pl) 0 t.pl.length)
  else if (XZ (nmE t.sh) 0 t.sh.length).2≠0 then (3,XZ (nmE t.sh) 0 t.sh.length)
  else if (XZ (nmE t.tm) 0 t.tm.length).2≠0 then (4,XZ (nmE t.tm) 0 t.tm.length)
  else if (XZ (fun i=>sttE t t.st[i]!) 0 t.st.length).2≠0 then (5,XZ (fun i=>sttE t t.st[i]!) 0 t.st.length) else (0,0,0)):=by
  unfold twnV;rw[e];rfl
 rw[ev]
 simp only[h4,evA,simprocAttr]
 refine J1 ?_
 simp only[ic72l0,evA,simprocAttr]
 refine (t90 t.pl ht.pl ht.npl).call frz ?_
 generalize XZ (nmE t.pl) 0 t.pl.length=x1
 by_cases g1:x1.2=0
 rotate_left
 ·have hb:(x1.2 != 0)=true:=bne_t g1
  rw[if_pos g1]
  simp only[hb,evA,simprocAttr]
  exact frz
 have hb:(x1.2 != 0)=false:=by simpa using g1
 rw[if_neg (by simpa using g1)]
 simp only[hb,evA,simprocAttr]
 refine J1 ?_
 simp only[ic72l0,evA,simprocAttr]
 refine (t90 t.sh ht.sh ht.nsh).call frz ?_
 generalize XZ (nmE t.sh) 0 t.sh.length=x2
 by_cases g2:x2.2=0
 rotate_left
 ·have hb:(x2.2 != 0)=true:=bne_t g2
  rw[if_pos g2]
  simp only[hb,evA,simprocAttr]
  exact frz
 have hb:(x2.2 != 0)=false:=by simpa using g2
 rw[if_neg (by simpa using g2)]
 simp only[hb,evA,simprocAttr]
 refine J1 ?_
 simp only[ic72l0,evA,simprocAttr]
 refine (t90 t.tm ht.tm ht.ntm).call frz ?_
 generalize XZ (nmE t.tm) 0 t.tm.length=x3
 by_cases g3:x3.2=0
 rotate_left
 ·have hb:(x3.2 != 0)=true:=bne_t g3
  rw[if_pos g3]
  simp only[hb,evA,simprocAttr]
  exact frz
 have hb:(x3.2 != 0)=false:=by simpa using g3
 rw[if_neg (by simpa using g3)]
 simp only[hb,evA,simprocAttr]
 refine J1 ?_
 simp only[ic72l0,evA,simprocAttr]
 refine (t94 t ht (by omega)).call frz ?_
 generalize XZ (fun i=>sttE t t.st[i]!) 0 t.st.length=x4
 by_cases g4:x4.2=0
 rotate_left
 ·have hb:(x4.2 != 0)=true:=bne_t g4
  rw[if_pos g4]
  simp only[hb,evA,simprocAttr]
  exact frz
 have hb:(x4.2 != 0)=false:=by simpa using g4
 rw[if_neg (by simpa using g4)]
 simp only[hb,evA,simprocAttr]
 exact frz
def opnE (t:Twn) (ps:List Int):Int:=if twnE t≠0 then twnE t else if outF 0 ((t.pl.length:Int)-1) ps then 4 else 0
theorem t49 (t:Twn) (ht:TSz t) (ps:List Int) (hp:ps.length<2 ^ 63) {σ:List AObj} {p:Nat} (hr:rowOf σ p=some (ps.map AV.i)) :
  AC Tryz.prog 49 [twnA t,.sl p 0 ps.length 1] σ fun r τ=>r=.tup [twnA t,.i (opnE t ps)]∧τ=σ:=by
 refine AC.cutF ?_ rfl
 refine ZF (fok49 true) (QC rfl) ?_
 have hpl:=ht.pl
 have hw1:IntKind.i64.wrap ((t.pl.length:Int)-1)=(t.pl.length:Int)-1:=ZC (by omega)
 simp only[ic49,evA,simprocAttr,QW,QM,WW,X9,VW,EZ,Qau,CH,get_nz,get_ns]
 refine (t72 t ht).call frz ?_
 unfold opnE
 have he:twnE t=(twnV t).2.2:=rfl
 rw[he]
 generalize twnV t=x
 by_cases h:x.2.2=0
 ·have hb:(x.2.2 != 0)=false:=by simpa using h
  rw[if_neg (by simpa using h)]
  simp only[hb,hw1,evA,simprocAttr,QW,QM,WW,X9,VW,EZ,Qau,CH,get_nz,get_ns]
  refine (o56_50 0 ((t.pl.length:Int)-1) ps hp).call (.cons (.c (.c _ trivial)) (.cons (.c (.c _ trivial)) (.cons (TN (fun _=>trivial) (ZH hr _)) .nil))) ?_
  cases h2:outF 0 ((t.pl.length:Int)-1) ps
  ·simp only[evA,simprocAttr,QW,QM,WW,X9,VW,EZ,Qau,CH,get_nz,get_ns]
   exact ⟨_,rfl⟩
  ·simp only[evA,simprocAttr,QW,QM,WW,X9,VW,EZ,Qau,CH,get_nz,get_ns]
   exact ⟨_,rfl⟩
 ·have hb:(x.2.2 != 0)=true:=bne_t h
  rw[if_pos h]
  simp only[hb,evA,simprocAttr,QW,QM,WW,X9,VW,EZ,Qau,CH,get_nz,get_ns]
  exact ⟨_,rfl⟩
theorem t58 (n lo hi:Int):PC Tryz.prog 58 [.i n,.i lo,.i hi] (.b (inB n lo hi)):=by
 have h:PC Tryz.prog 58 [.i n,.i lo,.i hi] (.b (decide (n≥lo)&&decide (n≤hi))):=by
  refine ⟨ZF (fok58 true) (QC rfl) ?_,rfl⟩
  by_cases h:n≥lo <;> simp only[ic58,h,evA,simprocAttr] <;> exact frz
 exact h
theorem t59 (l:List ByteArray) (hl:l.length<2 ^ 63) (hs:∀ i,i<l.length→(l[i]!).size<2 ^ 63) :
  PC Tryz.prog 59 [.cv (strR l)] (.tup [.i (XZ (nmE l) 0 l.length).1,.i (XZ (nmE l) 0 l.length).2]):=by
 refine ⟨ZF (fok59 true) (QC rfl) ?_,rfl⟩
 simp only[ic59,evA,simprocAttr]
 refine ZW l.length (fun i s=>(∀ j,j<i→nmE l j=0)∧∃ v1 v2 v4 v5 v6,s=⟨[.cv (strR l),v1,v2,.i i,v4,v5,v6],[]⟩) ?_ 0 (QF _) ⟨by omega,_,_,_,_,_,rfl⟩
 rintro i s hi ⟨hall,v1,v2,v4,v5,v6,rfl⟩
 by_cases h:i<l.length
 rotate_left
 ·have:i=l.length:=by omega
  subst this
  rw[JY l.length 0 fun j _ hj=>hall j (by omega)]
  simp only[ic59l0,QJ,h,evA,simprocAttr]
  exact frz
 have some_:nmE l i≠0→XZ (nmE l) 0 l.length=((i:Int),nmE l i):=fun hg=>VF l.length 0 i (QF _) (by omega) (fun j _ hj=>hall j hj) hg
 simp only[ic59l0,QJ,h,XP h,BK h,evA,simprocAttr]
 refine (o21 l[i]! (hs i h)).call frz ?_
 cases hn:JH l[i]!
 ·have e:nmE l i=6:=by unfold nmE;rw[if_pos hn]
  rw[some_ (by rw[e];decide),e]
  simp only[evA,simprocAttr]
  exact frz
 have htl:(l.take i).length=i:=by simp;omega
 have hsl:=str_sl (show i≤l.length by omega) ([]:List AObj)
 simp only[evA,simprocAttr]
 refine DW_s [7] [] hmix (by kernel_rfl) rfl ?_
 simp only[hsl,XP h,BK h,evA,simprocAttr]
 refine YE ((o86 (l.take i) l[i]! (by omega)).call frz ⟨rfl,rfl⟩) rfl ?_
 have hge:=OA (fun j=>decide ((l.take i)[j]! = l[i]!)) (l.take i).length
 unfold FP
 cases h2:anyN (fun j=>decide ((l.take i)[j]! = l[i]!)) (l.take i).length
 ·have e:nmE l i=0:=by unfold nmE;rw[hn,h2];rfl
  rw[h2] at hge
  simp only[hge,Q6 (show i+1<2 ^ 63 by omega),evA,simprocAttr]
  refine ZL (by first | trivial | omega) ⟨fun j hj=>?_,_,_,_,_,_,rfl⟩
  rcases QQ.1 hj with hj | rfl
  ·exact hall j hj
  ·exact e
 ·have e:nmE l i=5:=by unfold nmE;rw[hn,h2];rfl
  rw[some_ (by rw[e];decide),e]
  rw[h2] at hge
  simp only[hge,evA,simprocAttr]
  exact frz
theorem outF_two (lo hi a b:Int):outF lo hi [a,b]=(!inB a lo hi || !inB b lo hi):=by
 have h1:=FW lo hi a
 have h2:=FW lo hi b
 unfold outF at h1 h2 ⊢
 rw[← h1,← h2];simp
set_option maxHeartbeats 2000000 in
theorem t60 (t:Twn) (ht:TSz t) (hm:t.sh.length≤8) (s:Stt) (hs:s.sh.length<2 ^ 63):PC Tryz.prog 60 [twnA t,sttA s] (.i (sttE t s)):=by
 refine ⟨ZF (fok60 true) (QC rfl) ?_,rfl⟩
 have hb:=HF hm
 have hpl:=ht.pl
 have hw1:IntKind.i64.wrap ((t.pl.length:Int)-1)=(t.pl.length:Int)-1:=ZC (by omega)
 have hw2:IntKind.i64.wrap ((2:Int) ^ t.sh.length-1)=2 ^ t.sh.length-1:=ZC (by omega)
 have hd:sttE t s=if (!inB s.fr 0 ((t.pl.length:Int)-1) || !inB s.to 0 ((t.pl.length:Int)-1)) then 4 else if s.fr=s.to then 2 else if s.sh.length≠t.tm.length then 3
  else if !inB s.me 1 10000||((!inB s.lo 0 60 || !inB s.hi 0 60)||outF 0 (2 ^ t.sh.length-1) s.sh) then 7 else if s.lo>s.hi then 2 else 0:=by
  unfold sttE;rw[outF_two,outF_two,FW]
 rw[hd];clear hd
 simp only[ic60,hw1,evA,simprocAttr]
 refine (t58 s.fr 0 ((t.pl.length:Int)-1)).call frz ?_
 cases h1:inB s.fr 0 ((t.pl.length:Int)-1)
 ·simp only[evA,simprocAttr]
  exact frz
 simp only[hw1,evA,simprocAttr]
 refine (t58 s.to 0 ((t.pl.length:Int)-1)).call frz ?_
 cases h1':inB s.to 0 ((t.pl.length:Int)-1)
 ·simp only[evA,simprocAttr]
  exact frz
 by_cases h2:s.fr=s.to
 ·have hb2:(s.fr == s.to)=true:=by simp[h2]
  rw[if_neg (by decide),if_pos h2]
  simp only[hb2,evA,simprocAttr]
  exact frz
 have hb2:(s.fr == s.to)=false:=beq_f h2
 rw[if_neg (by decide),if_neg h2]
 by_cases h3:s.sh.length=t.tm.length
 rotate_left
 ·have hb3:((s.sh.length:Int) != t.tm.length)=true:=bne_t (by omega)
  rw[if_pos h3]
  simp only[hb2,hb3,evA,simprocAttr]
  exact frz
 have hb3:((s.sh.length:Int) != t.tm.length)=false:=by simp[h3]
 rw[if_neg (by simpa using h3)]
 simp only[hb2,hb3,evA,simprocAttr]
 refine (t58 s.me 1 10000).call frz ?_
 cases h4:inB s.me 1 10000
 ·simp only[evA,simprocAttr]
  exact frz
 simp only[evA,simprocAttr]
 refine (t58 s.lo 0 60).call frz ?_
 cases h5:inB s.lo 0 60
 ·simp only[evA,simprocAttr]
  exact frz
 simp only[evA,simprocAttr]
 refine (t58 s.hi 0 60).call frz ?_
 cases h6:inB s.hi 0 60
 ·simp only[evA,simprocAttr]
  exact frz
 simp only[evA,simprocAttr]
 refine ZW s.sh.length (fun i s'=>(∀ j,j<i→inB (s.sh[j]?.getD 0) 0 (2 ^ t.sh.length-1)=true)∧∃ v4 v6 v7 v8 v9 v10 v11 v12,s'=⟨[twnA t,sttA s,.ptr 0 0,.ptr 1 0,v4,.i i,v6,v7,v8,v9,v10,v11,v12],[.cells [.cv (strR t.pl),.cv (strR t.sh),.cv (strR t.tm),.cv (sttR t.st)],.cells [.i s.fr,.i s.to,.i s.me,.i s.lo,.i s.hi,.b s.bo,ints s.sh]]⟩) ?_ 0 (QF _) ⟨by omega,_,_,_,_,_,_,_,_,rfl⟩
 rintro i s' hi ⟨hall,v4,v6,v7,v8,v9,v10,v11,v12,rfl⟩
 by_cases h:i<s.sh.length
 rotate_left
 ·have e:outF 0 (2 ^ t.sh.length-1) s.sh=false:=PW.2 fun j hj=>hall j (by omega)
  rw[e]
  simp only[ic60l0,QJ,h,evA,simprocAttr]
  by_cases h7:s.lo>s.hi
  ·simp only[h7,evA,simprocAttr]
   exact frz
  ·simp only[h7,evA,simprocAttr]
   exact frz
 simp only[ic60l0,QJ,h,evA,simprocAttr]
 refine DW_s [8,10] [] hmix (by kernel_rfl) rfl ?_
 simp only[h,evA,simprocAttr]
 refine YE ((o49 t.sh.length hm).call frz ⟨rfl,rfl⟩) rfl ?_
 simp only[hw2,evA,simprocAttr]
 refine YE ((t58 (s.sh[i]?.getD 0) 0 (2 ^ t.sh.length-1)).call frz ⟨rfl,rfl⟩) rfl ?_
 cases h8:inB (s.sh[i]?.getD 0) 0 (2 ^ t.sh.length-1)
 ·have e:outF 0 (2 ^ t.sh.length-1) s.sh=true:=Qeg h h8
  rw[e]
  simp only[evA,simprocAttr]
  exact frz
 ·simp only[Q6 (show i+1<2 ^ 63 by omega),evA,simprocAttr]
  refine ZL (by first | trivial | omega) ⟨fun j hj=>?_,_,_,_,_,_,_,_,_,rfl⟩
  rcases QQ.1 hj with hj | rfl
  ·exact hall j hj
  ·exact h8
set_option maxHeartbeats 2000000 in
theorem t29 (t:Twn) (ht:TSz t):PC Tryz.prog 29 [twnA t] (triA (twnV t)):=by
 refine ⟨ZF (fok29 true) (QC rfl) ?_,rfl⟩
 simp only[ic29,evA,simprocAttr]
 refine (t58 (t.pl.length:Int) 1 16).call frz ?_
 have hbad:∀ b,twnL t=b→b=true→triA (twnV t)=.tup [.i 1,.i 0,.i 3]:=fun b h hb=>by simp[twnV,h,hb]
 have hd:twnL t=(!inB (t.pl.length:Int) 1 16||(decide ((t.sh.length:Int)>6)||(!inB (t.tm.length:Int) 1 4||decide ((t.st.length:Int)>40)))):=by
  unfold twnL;rw[FW,FW]
 cases h1:inB (t.pl.length:Int) 1 16
 ·have e:twnL t=true:=by simp[hd,h1]
  rw[hbad _ e rfl]
  simp only[evA,simprocAttr]
  exact frz
 by_cases h2:(t.sh.length:Int)>6
 ·have e:twnL t=true:=by simp[hd,h2]
  rw[hbad _ e rfl]
  simp only[h2,evA,simprocAttr]
  exact frz
 simp only[h2,evA,simprocAttr]
 refine (t58 (t.tm.length:Int) 1 4).call frz ?_
 cases h3:inB (t.tm.length:Int) 1 4
 ·have e:twnL t=true:=by simp[hd,h3]
  rw[hbad _ e rfl]
  simp only[evA,simprocAttr]
  exact frz
 by_cases h4:(t.st.length:Int)>40
 ·have e:twnL t=true:=by simp[hd,h4]
  rw[hbad _ e rfl]
  simp only[h4,evA,simprocAttr]
  exact frz
 have e:twnL t=false:=by simp only[hd,h1,h2,h3,h4];rfl
 have ev:twnV t=(if (XZ (nmE t.pl) 0 t.pl.length).2≠0 then (2,XZ (nmE t.pl) 0 t.pl.length)
  else if (XZ (nmE t.sh) 0 t.sh.length).2≠0 then (3,XZ (nmE t.sh) 0 t.sh.length)
  else if (XZ (nmE t.tm) 0 t.tm.length).2≠0 then (4,XZ (nmE t.tm) 0 t.tm.length)
  else if (XZ (fun i=>sttE t t.st[i]!) 0 t.st.length).2≠0 then (5,XZ (fun i=>sttE t t.st[i]!) 0 t.st.length) else (0,0,0)):=by
  unfold twnV;rw[e];rfl
 rw[ev]
 simp only[h4,evA,simprocAttr]
 refine J1 ?_
 simp only[ic29l1,evA,simprocAttr]
 refine (t59 t.pl ht.pl ht.npl).call frz ?_
 generalize XZ (nmE t.pl) 0 t.pl.length=x1
 by_cases g1:x1.2=0
 rotate_left
 ·have hb:(x1.2 != 0)=true:=bne_t g1
  rw[if_pos g1]
  simp only[hb,evA,simprocAttr]
  exact frz
 have hb:(x1.2 != 0)=false:=by simpa using g1
 rw[if_neg (by simpa using g1)]
 simp only[hb,evA,simprocAttr]
 refine J1 ?_
 simp only[ic29l1,evA,simprocAttr]
 refine (t59 t.sh ht.sh ht.nsh).call frz ?_
 generalize XZ (nmE t.sh) 0 t.sh.length=x2
 by_cases g2:x2.2=0
 rotate_left
 ·have hb:(x2.2 != 0)=true:=bne_t g2
  rw[if_pos g2]
  simp only[hb,evA,simprocAttr]
  exact frz
 have hb:(x2.2 != 0)=false:=by simpa using g2
 rw[if_neg (by simpa using g2)]
 simp only[hb,evA,simprocAttr]
 refine J1 ?_
 simp only[ic29l1,evA,simprocAttr]
 refine (t59 t.tm ht.tm ht.ntm).call frz ?_
 generalize XZ (nmE t.tm) 0 t.tm.length=x3
 by_cases g3:x3.2=0
 rotate_left
 ·have hb:(x3.2 != 0)=true:=bne_t g3
  rw[if_pos g3]
  simp only[hb,evA,simprocAttr]
  exact frz
 have hb:(x3.2 != 0)=false:=by simpa using g3
 rw[if_neg (by simpa using g3)]
 simp only[hb,evA,simprocAttr]
 refine J1 ?_
 simp only[ic29l1,evA,simprocAttr]
 have hl:=ht.st
 have hf:=fun i (h:i<t.st.length)=>t60 t ht (by omega) t.st[i]! (ht.ssh i h)
 generalize hg:(fun i:Nat=>sttE t t.st[i]!)=g
 have hg':∀ i,sttE t t.st[i]! = g i:=fun i=>by rw[← hg]
 refine ZW t.st.length (fun i s=>(∀ j,j<i→g j=0)∧∃ v2 v3 v4 v5 v6 v7 v8 v10 v11 v12 v13 v14 v15 J,s=⟨[twnA t,.ptr 0 0,v2,v3,v4,v5,v6,v7,v8,.i i,v10,v11,v12,v13,v14,v15],.cells [.cv (strR t.pl),.cv (strR t.sh),.cv (strR t.tm),.cv (sttR t.st)]::J⟩) ?_ 0 (QF _) ⟨by omega,_,_,_,_,_,_,_,_,_,_,_,_,_,_,rfl⟩
 rintro i s hi ⟨hall,v2,v3,v4,v5,v6,v7,v8,v10,v11,v12,v13,v14,v15,J,rfl⟩
 by_cases h:i<t.st.length
 ·simp only[ic29l0,QJ,h,evA,simprocAttr]
  refine DW_s [6] [] hmix (by kernel_rfl) rfl ?_
  simp only[ia_stt h,stt_ld h,evA,simprocAttr]
  refine YE ((hf i h).call frz ⟨rfl,rfl⟩) rfl ?_
  rw[hg']
  by_cases hgi:g i=0
  ·have hb:(g i != 0)=false:=by simpa using hgi
   simp only[hgi,Q6 (show i+1<2 ^ 63 by omega),evA,simprocAttr]
   refine ZL (by first | trivial | omega) ⟨fun j hj=>?_,_,_,_,_,_,_,_,_,_,_,_,_,_,_,rfl⟩
   rcases QQ.1 hj with hj | rfl
   ·exact hall j hj
   ·exact hgi
  ·have hb:(g i != 0)=true:=by simpa using hgi
   rw[VF t.st.length 0 i (QF _) (by omega) (fun j _ hj=>hall j hj) hgi,if_pos hgi]
   simp only[hb,evA,simprocAttr]
   exact frz
 ·have:i=t.st.length:=by omega
  subst this
  rw[JY t.st.length 0 fun j _ hj=>hall j (by omega)]
  simp only[ic29l0,QJ,h,evA,simprocAttr]
  exact frz
abbrev Stp:=Int × Bool
abbrev stpC (x:Stp):List CV:=[.int .i64 x.1,.bool x.2]
abbrev stpA (x:Stp):AV:=.agg [.i x.1,.b x.2]
abbrev stpR (l:List Stp):CV:=.rsl (l.flatMap stpC) l.length
theorem stpC_len (x:Stp):(stpC x).length=2:=rfl
section
variable {l:List Stp} {k:Nat}
theorem stp_ld (h:k<l.length) (σ:List AObj):YF 2 [.cv (.rp (l.flatMap stpC) (k*2))] σ=some (stpA l[k]!,σ):=by
 have h1:k*2+2≤(l.flatMap stpC).length:=by rw[UG stpC_len];omega
 have h2:=G3 stpC_len h
 simp only[YF,h1,if_true]
 rw[h2];rfl
theorem ia_stp (h:k<l.length) (σ:List AObj):VP 2 [.cv (stpR l),.cv (.int .i64 k)] σ=some (.cv (.rp (l.flatMap stpC) (k*2)),σ):=XP h σ
theorem stp_drop (h:k<l.length):l.drop k=l[k]! :: l.drop (k+1):=by rw[getElem!_pos l k h];exact List.drop_eq_getElem_cons h
end
def ends (t:Twn) (x:Stp):Int × Int:=if x.2 then ((t.st[x.1.toNat]!).to,(t.st[x.1.toNat]!).fr) else ((t.st[x.1.toNat]!).fr,(t.st[x.1.toNat]!).to)
def folF (t:Twn):Int→List Stp→Int × Int
 | at_,[]=>(at_,0)
 | at_,x::l=>if inB x.1 0 ((t.st.length:Int)-1)=false then (0,4) else if x.2=true∧(t.st[x.1.toNat]!).bo=false then (0,2)
  else if (ends t x).1≠at_ then (0,9) else folF t (ends t x).2 l
def folV (t:Twn) (at_:Int) (l:List Stp):Int × Int:=if (l.length:Int)>1100 then (0,3) else folF t at_ l
abbrev twoA (x:Int × Int):AV:=.tup [.i x.1,.i x.2]
theorem t26 (t:Twn) (x:Stp) (hx:0≤x.1) (hx2:x.1<t.st.length) (hl:t.st.length<2 ^ 63):PC Tryz.prog 26 [twnA t,stpA x] (twoA (ends t x)):=by
 refine ⟨ZF (fok26 true) (QC rfl) ?_,rfl⟩
 obtain ⟨k,hk⟩:∃ k:Nat,x.1=(k:Int):=⟨x.1.toNat,by omega⟩
 have h:k<t.st.length:=by omega
 unfold ends
 simp only[hk,Int.toNat_natCast,ic26,ia_stt h,stt_ld h,evA,simprocAttr]
 cases x.2
 ·simp only[evA,simprocAttr]
  refine DW_s [] [] hmix (by kernel_rfl) rfl ?_
  simp only[evA,simprocAttr]
  exact frz
 ·simp only[evA,simprocAttr]
  refine DW_s [] [] hmix (by kernel_rfl) rfl ?_
  simp only[evA,simprocAttr]
  exact frz
set_option maxHeartbeats 1000000 in
theorem t65 (t:Twn) (ht:TSz t) (a:Int) (l:List Stp) (hl:l.length<2 ^ 63):PC Tryz.prog 65 [twnA t,.i a,.cv (stpR l)] (twoA (folV t a l)):=by
 refine ⟨ZF (fok65 true) (QC rfl) ?_,rfl⟩
 have hst:=ht.st
 have hw1:IntKind.i64.wrap ((t.st.length:Int)-1)=(t.st.length:Int)-1:=ZC (by omega)
 by_cases hlen:(l.length:Int)>1100
 ·have e:folV t a l=(0,3):=if_pos hlen
  simp only[ic65,hlen,e,evA,simprocAttr]
  exact frz
 have e:folV t a l=folF t a l:=if_neg hlen
 rw[e]
 simp only[ic65,hlen,evA,simprocAttr]
 have hob:∀ o∈[AObj.cells [.cv (strR t.pl),.cv (strR t.sh),.cv (strR t.tm),.cv (sttR t.st)]],Z3 1 o=true:=by
  intro o ho;simp only[WZ] at ho;subst ho;rfl
 refine ZW l.length (fun i s=>∃ b:Int,folF t a l=folF t b (l.drop i)∧∃ v4 v5 v6 v7 v8 v9 v13 v14 v15 v16,s=⟨[twnA t,.i b,.cv (stpR l),.ptr 0 0,v4,v5,v6,v7,v8,v9,.cv (stpR l),.i l.length,.i i,v13,v14,v15,v16],[.cells [.cv (strR t.pl),.cv (strR t.sh),.cv (strR t.tm),.cv (sttR t.st)]]⟩) ?_ 0 (QF _) ⟨a,rfl,_,_,_,_,_,_,_,_,_,_,rfl⟩
 rintro i s hi ⟨b,hf,v4,v5,v6,v7,v8,v9,v13,v14,v15,v16,rfl⟩
 by_cases h:i<l.length
 rotate_left
 ·have:i=l.length:=by omega
  subst this
  rw[hf,List.drop_length]
  simp only[ic65l0,QJ,h,evA,simprocAttr]
  exact frz
 rw[stp_drop h] at hf
 simp only[folF] at hf
 simp only[ic65l0,QJ,h,ia_stp h,stp_ld h,hw1,evA,simprocAttr]
 generalize l[i]! = x at hf ⊢
 refine (o56_50 0 ((t.st.length:Int)-1) [x.1] (by simp)).call frz ?_
 rw[FW]
 cases h1:inB x.1 0 ((t.st.length:Int)-1)
 ·rw[if_pos h1] at hf
  rw[hf]
  simp only[evA,simprocAttr]
  exact frz
 rw[if_neg (by rw[h1];decide)] at hf
 have hx:=VB.1 h1
 obtain ⟨k,hk⟩:∃ k:Nat,x.1=(k:Int):=⟨x.1.toNat,by omega⟩
 have hkl:k<t.st.length:=by omega
 have h26:PC Tryz.prog 26 [twnA t,.agg [.i x.1,.b x.2]] (twoA (ends t x)):=t26 t x (by omega) (by omega) ht.st
 have hxk:x.1.toNat=k:=by omega
 rw[hxk] at hf
 cases hb2:x.2
 ·rw[if_neg (by rw[hb2];simp)] at hf
  simp only[hb2,evA,simprocAttr]
  rw[hb2] at h26
  refine h26.call frz ?_
  by_cases he:(ends t x).1=b
  ·rw[if_neg (by simpa using he)] at hf
   have hbe:((ends t x).1 != b)=false:=by simpa using he
   simp only[hbe,Q6 (show i+1<2 ^ 63 by omega),evA,simprocAttr]
   exact W1 [AObj.cells [.cv (strR t.pl),.cv (strR t.sh),.cv (strR t.tm),.cv (sttR t.st)]] _ rfl (by first | trivial | omega) (QF _) hob ⟨_,hf,_,_,_,_,_,_,_,_,_,_,rfl⟩
  ·rw[if_pos he] at hf
   have hbe:((ends t x).1 != b)=true:=bne_t he
   rw[hf]
   simp only[hbe,evA,simprocAttr]
   exact frz
 ·rw[hb2] at h26
  cases hbo:(t.st[k]!).bo
  ·rw[if_pos ⟨hb2,hbo⟩] at hf
   rw[hf]
   simp only[hb2,hk,hkl,ia_stt hkl,stt_5 hkl,hbo,evA,simprocAttr]
   exact frz
  ·rw[if_neg (by rw[hbo];simp)] at hf
   simp only[hb2,hk,hkl,ia_stt hkl,stt_5 hkl,hbo,evA,simprocAttr]
   rw[hk] at h26
   refine h26.call frz ?_
   by_cases he:(ends t x).1=b
   ·rw[if_neg (by simpa using he)] at hf
    have hbe:((ends t x).1 != b)=false:=by simpa using he
    simp only[hbe,Q6 (show i+1<2 ^ 63 by omega),evA,simprocAttr]
    exact W1 [AObj.cells [.cv (strR t.pl),.cv (strR t.sh),.cv (strR t.tm),.cv (sttR t.st)]] _ rfl (by first | trivial | omega) (QF _) hob ⟨_,hf,_,_,_,_,_,_,_,_,_,_,rfl⟩
   ·rw[if_pos he] at hf
    have hbe:((ends t x).1 != b)=true:=bne_t he
    rw[hf]
    simp only[hbe,evA,simprocAttr]
    exact frz
theorem stp_app {l:List Stp} (hl:l.length<2 ^ 38) (σ:List AObj):ZX 2 16 [.sl σ.length 0 0 2,.cv (stpR l)] (σ++[AObj.cells []])=some (.sl (σ.length+1) 0 l.length 2,(σ++[AObj.dead])++[.cells ((l.flatMap stpC).map .cv)]):=by
 have hfl:(l.flatMap stpC).length=l.length*2:=UG stpC_len l
 have hr:rowOf (σ++[AObj.cells []]) σ.length=some []:=by rw[WW];rfl
 have hp:(2:Nat) ^ 38=274877906944:=by decide
 have hp2:(2:Nat) ^ 44=17592186044416:=by decide
 simp only[ZX,hr,Z9,hfl,if_true,lenF,Option.bind_some]
 have hc:True∧0*2≤([]:List AV).length∧l.length*2=((l.flatMap stpC).map AV.cv).length∧(0+l.length)*16≤2 ^ 44∧0+l.length≤2 ^ 44∧((l.flatMap stpC).map AV.cv).all AV.isSc=true :=
  ⟨trivial,by simp,by rw[ZK,hfl],by omega,by omega,S2 _⟩
 rw[if_pos hc]
 simp
theorem stp_scl (l:List Stp):∀ c∈l.flatMap stpC,scl c:=by
 intro c hc
 obtain ⟨x,_,hx⟩:=YM.1 hc
 rcases ZD.1 hx with rfl | hx
 ·trivial
 ·rw[WZ] at hx;subst hx;trivial
theorem t57 (l:List Stp) (h0:0<l.length) (hl:l.length<2 ^ 38):PC Tryz.prog 57 [.cv (stpR l)] (.cv (stpR l)):=by
 refine ⟨ZF (fok57 true) (QC rfl) ?_,rfl⟩
 have hn:binF BinOp.eql TK.slc (AV.cv (stpR l)) (AV.cv CV.nils)=some (.b false):=by
  cases l with
  | nil=>simp at h0
  | cons x xs=>rfl
 have hfl:(l.flatMap stpC).length=l.length*2:=UG stpC_len l
 have ha0:=stp_app hl []
 simp only[List.length_nil,List.nil_append,ZV,List.cons_append] at ha0
 simp only[ic57,hn,ha0,evA,simprocAttr]
 exact sl_frz (rest:=[]) (by rw[ZU];rfl) hfl (stp_scl l)
theorem t57n:PC Tryz.prog 57 [.cv .nils] (.cv .nils):=by
 refine ⟨ZF (fok57 true) (QC rfl) ?_,rfl⟩
 simp only[ic57,evA,simprocAttr]
 exact frz
def orW (a b:Int):Int:=IntKind.i64.wrap (BitVec.ofInt IntKind.i64.bits a ||| BitVec.ofInt IntKind.i64.bits b).toNat
abbrev Tor:=Int × Int × Int × Int
def torS (t:Twn) (time:Int) (a:Tor) (x:Stp):Tor :=
 let s:=t.st[x.1.toNat]!
 (IntKind.i64.wrap (a.1+s.me),IntKind.i64.wrap (a.2.1+s.lo),IntKind.i64.wrap (a.2.2.1+s.hi),orW a.2.2.2 (s.sh[time.toNat]?.getD 0))
def torF (t:Twn) (time:Int) (l:List Stp):Tor:=l.foldl (torS t time) (0,0,0,0)
abbrev torA (v:AV) (a:Tor):AV:=.agg [v,.i a.1,.i a.2.1,.i a.2.2.1,.i a.2.2.2]
theorem foldl_take_succ {α β:Type} [Inhabited α] (f:β→α→β) (b:β) {l:List α} {k:Nat} (h:k<l.length):(l.take (k+1)).foldl f b=f ((l.take k).foldl f b) l[k]! := by
 rw[JC,List.foldl_append,QI h,getElem!_pos l k h];rfl
def TorOk (t:Twn) (time:Int) (l:List Stp):Prop:=∀ i,i<l.length→(0≤(l[i]!).1∧(l[i]!).1<t.st.length)∧(0≤time∧time<(t.st[(l[i]!).1.toNat]!).sh.length)
set_option maxHeartbeats 1000000 in
theorem t28 (t:Twn) (ht:TSz t) (time:Int) (l:List Stp) (h0:0<l.length) (hl:l.length<2 ^ 38) (hok:TorOk t time l) :
  PA Tryz.prog 28 [twnA t,.i time,.cv (stpR l)] (torA (.cv (stpR l)) (torF t time l)):=by
 refine ⟨ZF (fok28 true) (QC rfl) ?_,rfl,rfl⟩
 simp only[ic28,evA,simprocAttr]
 refine (t57 l h0 hl).call frz ?_
 simp only[evA,simprocAttr]
 have hob:∀ a:Tor,∀ o∈[AObj.cells [.cv (strR t.pl),.cv (strR t.sh),.cv (strR t.tm),.cv (sttR t.st)],.cells [.cv .nils,.i 0,.i 0,.i 0,.i 0],.cells [.cv (stpR l),.i a.1,.i a.2.1,.i a.2.2.1,.i a.2.2.2]],Z3 3 o=true:=by
  intro a o ho;simp only[ZD,WZ,WK,or_false] at ho;rcases ho with rfl | rfl | rfl <;> rfl
 refine ZW l.length (fun i s=>∃ v6 v7 v11,s=⟨[twnA t,.i time,.cv (stpR l),.ptr 0 0,.ptr 1 0,.ptr 2 0,v6,v7,.cv (stpR l),.i l.length,.i i,v11],[AObj.cells [.cv (strR t.pl),.cv (strR t.sh),.cv (strR t.tm),.cv (sttR t.st)],.cells [.cv .nils,.i 0,.i 0,.i 0,.i 0],.cells [.cv (stpR l),.i (torF t time (l.take i)).1,.i (torF t time (l.take i)).2.1,.i (torF t time (l.take i)).2.2.1,.i (torF t time (l.take i)).2.2.2]]⟩) ?_ 0 (QF _) ⟨_,_,_,rfl⟩
 rintro i s hi ⟨v6,v7,v11,rfl⟩
 by_cases h:i<l.length
 rotate_left
 ·have e:l.take i=l:=Q5 (by omega)
  rw[e]
  simp only[ic28l0,QJ,h,evA,simprocAttr]
  exact frz
 obtain ⟨⟨hx1,hx2⟩,ht1,ht2⟩:=hok i h
 obtain ⟨k,hk⟩:∃ k:Nat,(l[i]!).1=(k:Int):=⟨(l[i]!).1.toNat,by omega⟩
 obtain ⟨q,hq⟩:∃ q:Nat,time=(q:Int):=⟨time.toNat,by omega⟩
 have hkl:k<t.st.length:=by omega
 have hkn:(l[i]!).1.toNat=k:=by omega
 rw[hkn] at ht2
 have hql:q<(t.st[k]!).sh.length:=by omega
 have hqn:time.toNat=q:=by omega
 have hS:torF t time (l.take (i+1))=torS t time (torF t time (l.take i)) l[i]! := foldl_take_succ _ _ h
 have hS2:torF t time (l.take (i+1))=(IntKind.i64.wrap ((torF t time (l.take i)).1+(t.st[k]!).me),IntKind.i64.wrap ((torF t time (l.take i)).2.1+(t.st[k]!).lo),IntKind.i64.wrap ((torF t time (l.take i)).2.2.1+(t.st[k]!).hi),orW (torF t time (l.take i)).2.2.2 ((t.st[k]!).sh[q]?.getD 0)):=by
  rw[hS];unfold torS;rw[hkn,hqn]
 generalize torF t time (l.take (i+1))=T2₀ at hS hS2
 generalize torF t time (l.take i)=T1₀ at hS hS2 ⊢
 subst hS2
 have hor:∀ a b:Int,binI .or .i64 a b=some (.cv (.int .i64 (orW a b))):=fun _ _=>rfl
 simp only[ic28l0,QJ,h,ia_stp h,stp_ld h,hk,ia_stt hkl,stt_ld hkl,evA,simprocAttr]
 refine DW_s [] [] hmix (by kernel_rfl) rfl ?_
 simp only[hq,hql,hor,Q6 (show i+1<2 ^ 63 by omega),evA,simprocAttr]
 exact W1 [AObj.cells [.cv (strR t.pl),.cv (strR t.sh),.cv (strR t.tm),.cv (sttR t.st)],.cells [.cv .nils,.i 0,.i 0,.i 0,.i 0],_] _ rfl (by first | trivial | omega) (QF _) (hob (_,_,_,_)) ⟨_,_,_,rfl⟩
def drvE (t:Twn) (from_ time:Int) (l:List Stp):Int :=
 if opnE t [from_]≠0 then opnE t [from_] else if inB time 0 ((t.tm.length:Int)-1)=false then 4 else (folV t from_ l).2
def drvV (t:Twn) (from_ time:Int) (l:List Stp):AV :=
 if drvE t from_ time l=0 then .tup [torA (.cv (stpR l)) (torF t time l),.i (folV t from_ l).1,.i 0]
 else .tup [torA (.cv .nils) (0,0,0,0),.i 0,.i (drvE t from_ time l)]
theorem folF_ok {t:Twn}:∀ {l:List Stp} {a:Int},(folF t a l).2=0→∀ i,i<l.length→0≤(l[i]!).1∧(l[i]!).1<t.st.length
 | [],_,_,i,h=>by simp at h
 | x :: l,a,hf,i,h=>by
  simp only[folF] at hf
  split at hf
  ·simp at hf
  ·rename_i h1
   split at hf
   ·simp at hf
   ·split at hf
    ·simp at hf
    ·cases i with
     | zero =>
      have:=VB.1 (by simpa using h1:inB x.1 0 ((t.st.length:Int)-1)=true)
      show 0≤x.1∧x.1<_
      omega
     | succ i=>exact folF_ok hf i (by simpa using h)
theorem folV_ok {t:Twn} {a:Int} {l:List Stp} (h:(folV t a l).2=0):l.length≤1100∧∀ i,i<l.length→0≤(l[i]!).1∧(l[i]!).1<t.st.length:=by
 unfold folV at h
 split at h
 ·simp at h
 ·exact ⟨by omega,folF_ok h⟩
theorem twnE_ok {t:Twn} (h:twnE t=0):(1≤t.pl.length∧t.pl.length≤16)∧t.sh.length≤6∧(1≤t.tm.length∧t.tm.length≤4)∧t.st.length≤40∧∀ i,i<t.st.length→sttE t t.st[i]! = 0:=by
 unfold twnE twnV at h
 split at h
 ·simp at h
 rename_i hL
 split at h
 ·contradiction
 split at h
 ·contradiction
 split at h
 ·contradiction
 split at h
 ·contradiction
 rename_i h5
 have h5:(XZ (fun i=>sttE t t.st[i]!) 0 t.st.length).2=0:=by simpa using h5
 simp only[twnL,FW,WR,Z0,decide_eq_true_eq,not_or] at hL
 have h1:=VB.1 (show inB (t.pl.length:Int) 1 16=true by simpa using hL.1)
 have h3:=VB.1 (show inB (t.tm.length:Int) 1 4=true by simpa using hL.2.2.1)
 exact ⟨by omega,by omega,by omega,by omega,fun i hi=>findE_zero h5 i (QF _) (by omega)⟩
theorem sttE_ok {t:Twn} {s:Stt} (h:sttE t s=0):(0≤s.fr∧s.fr<t.pl.length)∧(0≤s.to∧s.to<t.pl.length)∧s.fr≠s.to∧s.sh.length=t.tm.length∧(1≤s.me∧s.me≤10000) ∧
  ((0≤s.lo∧s.lo≤60)∧(0≤s.hi∧s.hi≤60))∧∀ j,j<s.sh.length→0≤s.sh[j]?.getD 0∧s.sh[j]?.getD 0<2 ^ t.sh.length:=by
 unfold sttE at h
 split at h
 ·simp at h
 rename_i h1
 split at h
 ·simp at h
 rename_i h2
 split at h
 ·simp at h
 rename_i h3
 split at h
 ·simp at h
 rename_i h4
 rw[outF_two] at h1
 rw[FW,outF_two] at h4
 simp only[WR,Z0,not_or,Bool.not_eq_false] at h1 h4
 obtain ⟨a1,a2⟩:=h1
 obtain ⟨b1,⟨b2,b3⟩,b4⟩:=h4
 have a1:=VB.1 a1
 have a2:=VB.1 a2
 have b1:=VB.1 b1
 have b2:=VB.1 b2
 have b3:=VB.1 b3
 refine ⟨by omega,by omega,h2,by simpa using h3,by omega,by omega,fun j hj=>?_⟩
 have:=VB.1 (PW.1 (by simpa using b4) j hj)
 omega
theorem opnE_ok {t:Twn} {ps:List Int} (h:opnE t ps=0):twnE t=0∧outF 0 ((t.pl.length:Int)-1) ps=false:=by
 unfold opnE at h
 split at h
 ·contradiction
 rename_i h1
 split at h
 ·simp at h
 rename_i h2
 exact ⟨by simpa using h1,by simpa using h2⟩
theorem torOk_of {t:Twn} {a time:Int} {l:List Stp} (h:twnE t=0) (ht:inB time 0 ((t.tm.length:Int)-1)=true) (hf:(folV t a l).2=0):TorOk t time l:=by
 intro i hi
 have h1:=(folV_ok hf).2 i hi
 have h2:=VB.1 ht
 have h3:=(sttE_ok ((twnE_ok h).2.2.2.2 (l[i]!).1.toNat (by omega))).2.2.2.1
 exact ⟨h1,by omega,by omega⟩
set_option maxHeartbeats 1000000 in
theorem t35 (t:Twn) (ht:TSz t) (from_ time:Int) (l:List Stp) (h0:0<l.length) (hl:l.length<2 ^ 63) :
  PA Tryz.prog 35 [twnA t,.i from_,.i time,.cv (stpR l)] (drvV t from_ time l):=by
 have hcl:QR 0 (drvV t from_ time l)=true:=by unfold drvV;split <;> rfl
 refine ⟨ZF (fok35 true) (QC rfl) ?_,hcl,rfl⟩
 have hp2:(2:Nat) ^ 38=274877906944:=by decide
 have htm:=ht.tm
 have hw1:IntKind.i64.wrap ((t.tm.length:Int)-1)=(t.tm.length:Int)-1:=ZC (by omega)
 have hbad:∀ e:Int,drvE t from_ time l=e→e≠0→drvV t from_ time l=.tup [torA (.cv .nils) (0,0,0,0),.i 0,.i e]:=fun e h he=>by
  unfold drvV;rw[h,if_neg he]
 simp only[ic35,evA,simprocAttr]
 refine (t49 t ht [from_] (by simp) (p:=2) rfl).run ?_
 by_cases h1:opnE t [from_]=0
 rotate_left
 ·rw[hbad (opnE t [from_]) (by unfold drvE;rw[if_pos h1]) h1]
  have hb:(opnE t [from_] != 0)=true:=bne_t h1
  simp only[hb,evA,simprocAttr]
  exact frz
 have hb:(opnE t [from_] != 0)=false:=by simpa using h1
 simp only[hb,hw1,evA,simprocAttr]
 refine (o56_50 0 ((t.tm.length:Int)-1) [time] (by simp)).call frz ?_
 rw[FW]
 have hdE:drvE t from_ time l=if inB time 0 ((t.tm.length:Int)-1)=false then 4 else (folV t from_ l).2:=by unfold drvE;rw[if_neg (by simpa using h1)]
 cases h2:inB time 0 ((t.tm.length:Int)-1)
 ·rw[hbad 4 (by rw[hdE,if_pos h2]) (by decide)]
  simp only[evA,simprocAttr]
  exact frz
 rw[if_neg (by rw[h2];decide)] at hdE
 simp only[evA,simprocAttr]
 refine (t65 t ht from_ l hl).call frz ?_
 by_cases h3:(folV t from_ l).2=0
 rotate_left
 ·rw[hbad _ hdE h3]
  have hb:((folV t from_ l).2 != 0)=true:=bne_t h3
  simp only[hb,evA,simprocAttr]
  exact frz
 have hb:((folV t from_ l).2 != 0)=false:=by simpa using h3
 have hv:drvV t from_ time l=.tup [torA (.cv (stpR l)) (torF t time l),.i (folV t from_ l).1,.i 0]:=by unfold drvV;rw[if_pos (by rw[hdE,h3])]
 rw[hv]
 simp only[hb,evA,simprocAttr]
 have hle:=(folV_ok h3).1
 refine (t28 t ht time l h0 (by omega) (torOk_of (opnE_ok h1).1 h2 h3)).call ?_
 simp only[evA,simprocAttr]
 exact frz
end Go.Proofs.YtogjcmnopidfpaaGreat.AM
namespace Go.Proofs.YtogjcmnopidfpaaGreat.Pl
def bit (a:Int) (k:Nat):Bool:=a.toNat.testBit k
def andI (a b:Int):Int:=((a.toNat &&& b.toNat:Nat):Int)
def orI (a b:Int):Int:=((a.toNat ||| b.toNat:Nat):Int)
def subI (a b:Int):Int:=((BitVec.ofNat 64 a.toNat &&& ~~~BitVec.ofNat 64 b.toNat).toNat:Int)
theorem QbF (a b:Int) (k:Nat):bit (andI a b) k=(bit a k&&bit b k):=by simp[bit,andI,Nat.testBit_and]
theorem QbB (a b:Int) (k:Nat):bit (orI a b) k=(bit a k||bit b k):=by simp[bit,orI,Nat.testBit_or]
theorem toNat_lt {a:Int} {m:Nat} (h:a<2 ^ m):a.toNat<2 ^ m:=by
 rcases Int.lt_or_le a 0 with h0 | h0
 ·have:a.toNat=0:=by omega
  rw[this];exact Nat.two_pow_pos m
 ·have e:((a.toNat:Nat):Int)=a:=VI h0
  have:((a.toNat:Nat):Int)<((2 ^ m:Nat):Int):=by rw[e];push_cast;exact h
  exact QJ.1 this
theorem TY {a:Int} {m k:Nat} (h:a<2 ^ m) (hk:m≤k):bit a k=false:=by
 unfold bit
 exact UQ (Z6 (toNat_lt h) (Nat.pow_le_pow_right (by omega) hk))
theorem M8 {a b:Int} (ha:a<2 ^ 63) (k:Nat):bit (subI a b) k=(bit a k && !bit b k):=by
 unfold subI bit
 have ha':=toNat_lt ha
 rw[Int.toNat_natCast,BitVec.testBit_toNat,BitVec.getLsbD_and,BitVec.getLsbD_not,BitVec.getLsbD_ofNat,BitVec.getLsbD_ofNat]
 by_cases hk:k<64
 ·simp[hk]
 ·have:a.toNat.testBit k=false:=UQ (Z6 ha' (Nat.pow_le_pow_right (by omega) (by omega)))
  simp[hk,this]
theorem QbE {a b:Int} (ha:0≤a) (hb:0≤b) (h:∀ k,bit a k=bit b k):a=b:=by
 have:a.toNat=b.toNat:=Nat.eq_of_testBit_eq h
 omega
theorem OO (k:Nat):bit 0 k=false:=by simp[bit]
theorem QbI (a b:Int):0≤andI a b:=VV _
theorem Qa9 (a b:Int):0≤orI a b:=VV _
theorem MF (a b:Int):0≤subI a b:=VV _
theorem Qae {a:Int} {m:Nat} (h0:0≤a) (h:∀ k,m≤k→bit a k=false):a<2 ^ m:=by
 have:a.toNat<2 ^ m:=Nat.lt_pow_two_of_testBit _ fun k hk=>h k hk
 have e:((a.toNat:Nat):Int)=a:=VI h0
 have h2:((a.toNat:Nat):Int)<((2 ^ m:Nat):Int):=QJ.2 this
 rw[e] at h2;push_cast at h2;exact h2
theorem andI_lt {a b:Int} {m:Nat} (h:a<2 ^ m):andI a b<2 ^ m:=Qae (QbI _ _) fun k hk=>by rw[QbF,TY h hk];rfl
theorem Qcf {a b:Int} {m:Nat} (h:a<2 ^ m) (h2:b<2 ^ m):orI a b<2 ^ m:=Qae (Qa9 _ _) fun k hk=>by rw[QbB,TY h hk,TY h2 hk];rfl
theorem QdS {a b:Int} {m:Nat} (h63:a<2 ^ 63) (h:a<2 ^ m):subI a b<2 ^ m:=Qae (MF _ _) fun k hk=>by rw[M8 h63,TY h hk];rfl
theorem NO {a b:Int}:andI a b=0↔∀ k,¬ (bit a k=true∧bit b k=true):=by
 constructor
 ·intro h k ⟨h1,h2⟩
  have:=QbF a b k
  rw[h,h1,h2,OO] at this
  cases this
 ·intro h
  refine QbE (QbI _ _) (Int.le_refl _) fun k=>?_
  rw[QbF,OO]
  have:=h k
  cases h1:bit a k <;> cases h2:bit b k <;> simp_all
end Go.Proofs.YtogjcmnopidfpaaGreat.Pl
namespace Go.Proofs.YtogjcmnopidfpaaGreat.AM
variable [Dr]
open Go Pl
theorem or_wrap {a b:Int} (ha:0≤a∧a<256) (hb:0≤b∧b<256):IntKind.i64.wrap (BitVec.ofInt IntKind.i64.bits a ||| BitVec.ofInt IntKind.i64.bits b).toNat=orI a b:=by
 have e1:(BitVec.ofInt 64 a).toNat=a.toNat:=by rw[BitVec.toNat_ofInt];omega
 have e2:(BitVec.ofInt 64 b).toNat=b.toNat:=by rw[BitVec.toNat_ofInt];omega
 have e3:(BitVec.ofInt IntKind.i64.bits a ||| BitVec.ofInt IntKind.i64.bits b).toNat=a.toNat ||| b.toNat:=by
  show (BitVec.ofInt 64 a ||| BitVec.ofInt 64 b).toNat=_
  rw[BitVec.toNat_or,e1,e2]
 have h1:=Qcf (a:=a) (b:=b) (m:=8) (by omega) (by omega)
 have h0:=Qa9 a b
 rw[e3]
 have:((a.toNat ||| b.toNat:Nat):Int)=orI a b:=rfl
 rw[this,ZC (by omega)]
theorem sub_wrap {a b:Int} (ha:0≤a∧a<256) (hb:0≤b∧b<9223372036854775808):IntKind.i64.wrap (BitVec.ofInt IntKind.i64.bits a &&& ~~~BitVec.ofInt IntKind.i64.bits b).toNat=subI a b:=by
 have e1:BitVec.ofInt 64 a=BitVec.ofNat 64 a.toNat:=by apply BitVec.eq_of_toNat_eq;rw[BitVec.toNat_ofInt,BitVec.toNat_ofNat];omega
 have e2:BitVec.ofInt 64 b=BitVec.ofNat 64 b.toNat:=by apply BitVec.eq_of_toNat_eq;rw[BitVec.toNat_ofInt,BitVec.toNat_ofNat];omega
 have e3:((BitVec.ofInt IntKind.i64.bits a &&& ~~~BitVec.ofInt IntKind.i64.bits b).toNat:Int)=subI a b:=by
  show ((BitVec.ofInt 64 a &&& ~~~BitVec.ofInt 64 b).toNat:Int)=_
  rw[e1,e2];rfl
 have h1:=QdS (a:=a) (b:=b) (m:=8) (by omega) (by omega)
 have h0:=MF a b
 rw[e3,ZC (by omega)]
def PartS (p:Nat→Bool) (i:Nat) (o:Int):Prop:=0≤o∧o<2 ^ i∧∀ k,bit o k=(decide (k<i)&&p k)
theorem PartS.fin {p:Nat→Bool} {o v:Int} (h:PartS p 6 o) (hv:0≤v) (hb:∀ k,bit v k=p k) (hh:∀ k,6≤k→bit v k=false):o=v:=by
 obtain ⟨h0,h1,h2⟩:=h
 refine QbE h0 hv fun k=>?_
 rw[h2 k,hb k]
 by_cases hk:k<6
 ·simp[hk]
 ·have:=hh k (by omega)
  rw[hb k] at this
  simp[this]
def ShOk (t:Twn) (time:Int) (l:List Stp):Prop:=∀ i,i<l.length→0≤((t.st[(l[i]!).1.toNat]!).sh[time.toNat]?.getD 0)∧((t.st[(l[i]!).1.toNat]!).sh[time.toNat]?.getD 0)<64
theorem pow6 {m:Nat} (h:m≤6):(2:Int) ^ m≤64:=by
 have e:((2:Int) ^ m)=((2 ^ m:Nat):Int):=by push_cast;rfl
 have:=Nat.pow_le_pow_right (n:=2) (by omega) h
 rw[e];omega
theorem shOk_of {t:Twn} {a time:Int} {l:List Stp} (h:twnE t=0) (ht:inB time 0 ((t.tm.length:Int)-1)=true) (hf:(folV t a l).2=0):ShOk t time l:=by
 intro i hi
 have h1:=(folV_ok hf).2 i hi
 have h2:=VB.1 ht
 have hk:=twnE_ok h
 have h3:=sttE_ok (hk.2.2.2.2 (l[i]!).1.toNat (by omega))
 have h4:=h3.2.2.2.2.2.2 time.toNat (by rw[h3.2.2.2.1];omega)
 have:=pow6 hk.2.1
 omega
theorem torF_sh {t:Twn} {time:Int} {l:List Stp} (h:ShOk t time l):∀ i,i≤l.length→0≤(torF t time (l.take i)).2.2.2∧(torF t time (l.take i)).2.2.2<64
 | 0,_=>by simp[torF]
 | i+1,hi=>by
  have ih:=torF_sh h i (by omega)
  have e:torF t time (l.take (i+1))=torS t time (torF t time (l.take i)) l[i]! := foldl_take_succ _ _ (by omega)
  rw[e]
  unfold torS
  have hs:=h i (by omega)
  have ho:orW (torF t time (l.take i)).2.2.2 ((t.st[(l[i]!).1.toNat]!).sh[time.toNat]?.getD 0)=orI _ _:=or_wrap (by omega) (by omega)
  show 0≤orW _ _∧orW _ _<64
  rw[ho]
  exact ⟨Qa9 _ _,Qcf (m:=6) (by omega) (by omega)⟩
structure Hrd where
 ba:Int
 pe:Int
 lo:Int
 hi:Int
deriving Inhabited
structure Crs where
 tw:Twn
 ce:Int
 ha:List Hrd
 ro:List (List Stp)
abbrev hrdC (h:Hrd):List CV:=[.int .i64 h.ba,.int .i64 h.pe,.int .i64 h.lo,.int .i64 h.hi]
abbrev hrdA (h:Hrd):AV:=.agg [.i h.ba,.i h.pe,.i h.lo,.i h.hi]
abbrev hrdR (l:List Hrd):CV:=.rsl (l.flatMap hrdC) l.length
abbrev roR (l:List (List Stp)):CV:=.rsl (l.map stpR) l.length
abbrev crsC (c:Crs):List CV:=[strR c.tw.pl,strR c.tw.sh,strR c.tw.tm,sttR c.tw.st,.int .i64 c.ce,hrdR c.ha,roR c.ro]
abbrev crsA (c:Crs):AV:=.agg [.cv (strR c.tw.pl),.cv (strR c.tw.sh),.cv (strR c.tw.tm),.cv (sttR c.tw.st),.i c.ce,.cv (hrdR c.ha),.cv (roR c.ro)]
theorem hrdC_len (h:Hrd):(hrdC h).length=4:=rfl
section
variable {l:List Hrd} {k:Nat}
theorem hrd_ld (h:k<l.length) (σ:List AObj):YF 4 [.cv (.rp (l.flatMap hrdC) (k*4))] σ=some (hrdA l[k]!,σ):=by
 have h1:k*4+4≤(l.flatMap hrdC).length:=by rw[UG hrdC_len];omega
 have h2:=G3 hrdC_len h
 simp only[YF,h1,if_true]
 rw[h2];rfl
theorem ia_hrd (h:k<l.length) (σ:List AObj):VP 4 [.cv (hrdR l),.cv (.int .i64 k)] σ=some (.cv (.rp (l.flatMap hrdC) (k*4)),σ):=XP h σ
end
theorem ro_ld {l:List (List Stp)} {k:Nat} (h:k<l.length):(l.map stpR)[k]? = some (stpR l[k]!):=by simp[h]
structure CSz (c:Crs):Prop where
 tw:TSz c.tw
 ha:c.ha.length<2 ^ 63
 ro:c.ro.length<2 ^ 63
 rol:∀ i,i<c.ro.length→(c.ro[i]!).length<2 ^ 63
def hrdE (h:Hrd):Int:=if outF 0 1000 [h.ba]||(outF 0 100 [h.pe]||outF 0 100 [h.lo,h.hi]) then 7 else if h.lo>h.hi then 2 else 0
set_option maxHeartbeats 1000000 in
theorem k85 (h:Hrd):PC Tryz.prog 85 [hrdA h] (.i (hrdE h)):=by
 refine ⟨ZF (fok85 true) (QC rfl) ?_,rfl⟩
 unfold hrdE
 simp only[ic85,evA,simprocAttr]
 refine (o56_34 0 1000 [h.ba] (by simp)).call frz ?_
 cases h1:outF 0 1000 [h.ba]
 rotate_left
 ·simp only[evA,simprocAttr]
  exact frz
 simp only[evA,simprocAttr]
 refine (o56_34 0 100 [h.pe] (by simp)).call frz ?_
 cases h2:outF 0 100 [h.pe]
 rotate_left
 ·simp only[evA,simprocAttr]
  exact frz
 simp only[evA,simprocAttr]
 refine (o56_34 0 100 [h.lo,h.hi] (by simp)).call frz ?_
 cases h3:outF 0 100 [h.lo,h.hi]
 rotate_left
 ·simp only[evA,simprocAttr]
  exact frz
 by_cases h4:h.lo>h.hi
 ·simp only[h4,evA,simprocAttr]
  exact frz
 ·simp only[h4,evA,simprocAttr]
  exact frz
theorem k84 (h:Hrd):PC Tryz.prog 84 [hrdA h] (.i (hrdE h)):=by
 refine ⟨ZF (fok84 true) (QC rfl) ?_,rfl⟩
 simp only[ic84,evA,simprocAttr]
 refine (k85 h).call frz ?_
 simp only[evA,simprocAttr]
 exact frz
theorem k83 (l:List Hrd) (hl:l.length<2 ^ 63) :
  PC Tryz.prog 83 [.cv (hrdR l),.fn (.func 84) []] (.tup [.i (XZ (fun i=>hrdE l[i]!) 0 l.length).1,.i (XZ (fun i=>hrdE l[i]!) 0 l.length).2]):=by
 refine ⟨ZF (fok83 true) (QC rfl) ?_,rfl⟩
 have hf:=fun i:Nat=>k84 l[i]!
 generalize hg:(fun i:Nat=>hrdE l[i]!)=g
 have hg':∀ i,hrdE l[i]! = g i:=fun i=>by rw[← hg]
 simp only[ic83,evA,simprocAttr]
 refine ZW l.length (fun i s=>(∀ j,j<i→g j=0)∧∃ v2 v3 v4 v5 v9 v10,s=⟨[.cv (hrdR l),.fn (.func 84) [],v2,v3,v4,v5,.cv (hrdR l),.i l.length,.i i,v9,v10],[]⟩) ?_ 0 (QF _) ⟨by omega,_,_,_,_,_,_,rfl⟩
 rintro i s hi ⟨hall,v2,v3,v4,v5,v9,v10,rfl⟩
 by_cases h:i<l.length
 ·simp only[ic83l0,QJ,h,ia_hrd h,hrd_ld h,evA,simprocAttr]
  refine (hf i).call frz ?_
  rw[hg']
  by_cases hgi:g i=0
  ·have hb:(g i != 0)=false:=by simpa using hgi
   simp only[hb,Q6 (show i+1<2 ^ 63 by omega),evA,simprocAttr]
   refine W1 [] _ rfl (by first | trivial | omega) (QF _) (by simp) ⟨fun j hj=>?_,_,_,_,_,_,_,rfl⟩
   rcases QQ.1 hj with hj | rfl
   ·exact hall j hj
   ·exact hgi
  ·have hb:(g i != 0)=true:=by simpa using hgi
   rw[VF l.length 0 i (QF _) (by omega) (fun j _ hj=>hall j hj) hgi]
   simp only[hb,evA,simprocAttr]
   exact frz
 ·have:i=l.length:=by omega
  subst this
  rw[JY l.length 0 fun j _ hj=>hall j (by omega)]
  simp only[ic83l0,QJ,h,evA,simprocAttr]
  exact frz
def rtE (t:Twn) (ce:Int) (l:List Stp):Int :=
 if inB (l.length:Int) 1 60=false then 3 else if (folV t ce l).2≠0 then (folV t ce l).2 else if (folV t ce l).1≠ce then 9 else 0
def crsV (c:Crs):Int × Int × Int :=
 if twnE c.tw≠0 then (1,0,twnE c.tw)
 else if inB c.ce 0 ((c.tw.pl.length:Int)-1)=false then (1,0,4)
 else if c.ha.length≠c.tw.st.length∨c.ro.length>10 then (1,0,3)
 else if (XZ (fun i=>hrdE c.ha[i]!) 0 c.ha.length).2≠0 then (2,XZ (fun i=>hrdE c.ha[i]!) 0 c.ha.length)
 else if (XZ (fun i=>rtE c.tw c.ce c.ro[i]!) 0 c.ro.length).2≠0 then (3,XZ (fun i=>rtE c.tw c.ce c.ro[i]!) 0 c.ro.length)
 else (0,0,0)
def AccE (E:List Nat) (e:Nat) (H:List AObj) (v:AV) (n:Nat) (cs:List CV):Prop:=(v=.cv .nils∧n=0∧cs=[])∨∃ l,l∉E∧v=.sl l 0 n e∧cs.length=n*e∧rowOf H l=some (cs.map .cv)
theorem AccE.nil (E:List Nat) (e:Nat) (H:List AObj):AccE E e H (.cv .nils) 0 []:=.inl ⟨rfl,rfl,rfl⟩
theorem AccE.nu {E:List Nat} {e:Nat} {H:List AObj} {v:AV} {n:Nat} {cs:List CV} (h:AccE E e H v n cs):v.isUndef=false∧v.isSc=true∧cellsOf v=[v]:=by
 rcases h with ⟨rfl,_⟩ | ⟨l,_,rfl,_⟩ <;> exact ⟨rfl,rfl,rfl⟩
theorem AccE.less {E E2₀:List Nat} {e:Nat} {H:List AObj} {v:AV} {n:Nat} {cs:List CV} (h:AccE E e H v n cs) (he:∀ x∈E2₀,x∈E∨H.length≤x):AccE E2₀ e H v n cs :=
 h.imp id fun ⟨l,h1,h2,h3,h4⟩=>⟨l,fun h=>(he l h).elim h1 fun hl=>by have:=(QH.1 (WO h4)).1;omega,h2,h3,h4⟩
theorem AccE.rows {E:List Nat} {e:Nat} {H H2:List AObj} {v:AV} {n:Nat} {cs:List CV} (h:AccE E e H v n cs) (hr:∀ x,x<H.length→x∉E→rowOf H2 x=rowOf H x):AccE E e H2 v n cs :=
 h.imp id fun ⟨l,h1,h2,h3,h4⟩=>⟨l,h1,h2,h3,by rw[hr l (QH.1 (WO h4)).1 h1];exact h4⟩
theorem AccE.app {E:List Nat} {e:Nat} {H:List AObj} {v:AV} {n:Nat} {cs:List CV} (h:AccE E e H v n cs) (J:List AObj):AccE E e (H++J) v n cs:=h.rows fun x hx _=>by unfold rowOf;rw[QE hx]
theorem AccE.set {E:List Nat} {e:Nat} {H:List AObj} {v:AV} {n:Nat} {cs:List CV} (h:AccE E e H v n cs) {X:Nat} (hX:X∈E) (o:AObj):AccE E e (H.set X o) v n cs:=h.rows fun x hx hn=>QX (fun e:X=x=>hn (by rw[← e];exact hX)) _
theorem AccE.keep {E:List Nat} {e:Nat} {H H2:List AObj} {v:AV} {n:Nat} {cs:List CV} (h:AccE E e H v n cs) (hr:∀ x,x<H.length→x∉E→H2[x]? = H[x]?):AccE E e H2 v n cs:=h.rows fun x hx hn=>by unfold rowOf;rw[hr x hx hn]
theorem accE_append {E:List Nat} {e by_ n:Nat} {H:List AObj} {v:AV} {cs x:List CV} (hE:∀ x∈E,x<H.length) (h:AccE E e H v n cs) (hx:x.length=e) (hb:(n+1)*by_≤2 ^ 44) (hn:n+1≤2 ^ 44) :
  ∃ (v':AV) (H':List AObj),ZX e by_ [v,.sl H.length 0 1 e] (H++[AObj.cells (x.map .cv)])=some (v',H')∧AccE E e H' v' (n+1) (cs++x)∧(∀ i∈E,H'[i]? = H[i]?)∧H'.length=H.length+2∧v'.isUndef=false:=by
 have hsrc:Z9 (H++[AObj.cells (x.map .cv)]) e (.sl H.length 0 1 e)=some (x.map .cv):=by
  have h1:0+1*e≤(x.map AV.cv).length:=by simp[hx]
  simp only[Z9,if_true,XH,Option.bind_some]
  rw[if_pos h1,YO,Q5 (by simp[hx])]
 rcases h with ⟨rfl,rfl,rfl⟩ | ⟨l,hl,rfl,hlen,hr⟩
 ·refine ⟨.sl (H++[AObj.cells (x.map .cv)]).length 0 1 e,(H++[AObj.cells (x.map .cv)])++[AObj.cells (x.map .cv)],?_,.inr ⟨_,fun h=>by have:=hE _ h;simp at this;omega,rfl,by simp[hx],by rw[XH];rfl⟩,fun i hi=>?_,by simp,rfl⟩
  ·have h1:1*e=(x.map AV.cv).length∧1*by_≤2 ^ 44∧1≤2 ^ 44∧(x.map AV.cv).all AV.isSc=true:=⟨by simp[hx],by omega,by omega,S2 x⟩
   simp only[ZX,hsrc,lenF,Option.bind_some]
   rw[if_neg (by omega),if_pos h1]
  ·rw[QW,QE (hE i hi)]
 ·have hr':=FU hr (AObj.cells (x.map .cv))
  have hlt:=(QH.1 (WO hr)).1
  refine ⟨.sl (H++[AObj.cells (x.map .cv)]).length 0 (n+1) e,(H++[AObj.cells (x.map .cv)]).set l AObj.dead++[AObj.cells (cs.map .cv++x.map .cv)],?_,.inr ⟨(H++[AObj.cells (x.map .cv)]).length,fun h=>by have:=hE _ h;simp at this;omega,rfl,by rw[QM,hlen,hx,XJ],?_⟩,fun i hi=>?_,by simp,rfl⟩
  ·have h1:True∧n*e≤(cs.map AV.cv).length∧1*e=(x.map AV.cv).length∧(n+1)*by_≤2 ^ 44∧n+1≤2 ^ 44∧(x.map AV.cv).all AV.isSc=true:=⟨trivial,by simp[hlen],by simp[hx],hb,hn,S2 x⟩
   simp only[ZX,hr',hsrc,lenF,Option.bind_some]
   rw[if_pos h1,Q5 (by simp[hlen])]
  ·have:(H++[AObj.cells (x.map .cv)]).length=((H++[AObj.cells (x.map .cv)]).set l AObj.dead).length:=by simp
   rw[this,XH,ZS]
  ·rw[QE (by simp;have:=hE i hi;omega),QU (fun e:l=i=>hl (by rw[e];exact hi)),QE (hE i hi)]
theorem accE_frz {p:CV→Prop} {E:List Nat} {e n:Nat} {H:List AObj} {v:AV} {cs:List CV} (h:AccE E e H v n cs) (hp:∀ c∈cs,p c):FrzV p H v (.cv (.rsl cs n)):=by
 rcases h with ⟨rfl,rfl,rfl⟩ | ⟨l,_,rfl,hl,hr⟩
 ·exact .c .nl
 ·exact sl_frz (rest:=[]) (by rw[ZU];exact hr) hl hp
def cntS (l:List Stp) (s:Nat):Int:=((l.countP fun x=>x.1 == (s:Int):Nat):Int)
def drvL (l:List Stp):List Int:=(List.range 40).map (cntS l)
theorem drvL_len (l:List Stp):(drvL l).length=40:=by simp[drvL]
theorem drvL_get {l:List Stp} {k:Nat} (h:k<40):(drvL l)[k]?.getD 0=cntS l k:=by simp[drvL,h]
theorem cntS_succ {l:List Stp} {i:Nat} (h:i<l.length) (s:Nat):cntS (l.take (i+1)) s=cntS (l.take i) s+if (l[i]!).1=(s:Int) then 1 else 0:=by
 unfold cntS
 rw[JC,List.countP_append,QI h,getElem!_pos l i h]
 by_cases e:(l[i]).1=(s:Int) <;> simp[e]
theorem drvL_succ {l:List Stp} {i k:Nat} (h:i<l.length) (hk:(l[i]!).1=(k:Int)) (hk2:k<40):drvL (l.take (i+1))=(drvL (l.take i)).set k (cntS (l.take i) k+1):=by
 apply Y1
 ·simp[drvL]
 ·intro j h1 h2
  have hj:j<40:=by simpa[drvL] using h1
  rw[List.getElem_set]
  simp only[drvL,List.getElem_map,List.getElem_range,cntS_succ h,hk]
  by_cases e:k=j
  ·subst e;simp
  ·rw[if_neg e,if_neg (by omega)];simp
theorem cntS_le (l:List Stp) (s:Nat):0≤cntS l s∧cntS l s≤l.length:=by
 unfold cntS
 have:=List.countP_le_length (p:=fun x:Stp=>x.1 == (s:Int)) (l:=l)
 omega
theorem ia_arr {n l off k:Nat} (h:k<n) (σ:List AObj):PD n 1 [.ptr l off,.cv (.int .i64 k)] σ=some (.ptr l (off+k),σ):=by
 simp[PD,h]
abbrev crsX (c:Crs):List AV:=[.cv (strR c.tw.pl),.cv (strR c.tw.sh),.cv (strR c.tw.tm),.cv (sttR c.tw.st),.i c.ce,.cv (hrdR c.ha),.cv (roR c.ro)]
structure OpH (c:Crs) (H:List AObj) (n:Nat) (cs:List CV):Prop where
 h0:rowOf H 0=some (crsX c)
 h1:rowOf H 1=some [.ptr 3 0]
 h3:∃ dv,rowOf H 3=some [.cv (strR c.tw.pl),.cv (strR c.tw.sh),.cv (strR c.tw.tm),.cv (sttR c.tw.st),.i c.ce,.cv (hrdR c.ha),.cv (roR c.ro),dv]∧AccE [0,1,3] 40 H dv n cs
theorem OpH.len {c:Crs} {H:List AObj} {n:Nat} {cs:List CV} (h:OpH c H n cs):3<H.length:=by
 obtain ⟨dv,h3,_⟩:=h.h3
 exact (QH.1 (WO h3)).1
abbrev drvC (l:List Stp):List CV:=(drvL l).map (.int .i64)
theorem drvE_in {t:Twn} {ce:Int} (h:twnE t=0) (hce:inB ce 0 ((t.pl.length:Int)-1)=true) (l:List Stp):drvE t ce 0 l=(folV t ce l).2:=by
 have h1:opnE t [ce]=0:=by unfold opnE;rw[if_neg (by simpa using h),FW,hce];rfl
 have h2:inB 0 0 ((t.tm.length:Int)-1)=true:=VB.2 (by have:=twnE_ok h;omega)
 unfold drvE
 rw[if_neg (by simpa using h1),if_neg (by rw[h2];decide)]
theorem setRange_all {zs vs:List AV} (h:vs.length=zs.length):setRange zs 0 vs=vs:=by
 have:=TB (xs:=([]:List AV)) (ys:=zs) (zs:=[]) (vs:=vs) (by omega)
 simp only[List.nil_append,ZU,List.length_nil] at this
 rw[this,h,List.drop_length,ZU]
theorem bslice_one {e:Nat} {zs cs:List AV} (hz:zs.length=e) (hc:cs.length=e) (σ:List AObj):V4 e 1 zs [(0,e)] [.agg cs] σ=some (.sl σ.length 0 1 e,σ++[.cells cs]):=by
 have h:HW zs [(0,e)] [AV.agg cs]=some cs:=by
  have h1:(cellsOf (AV.agg cs)).length=e∧0+e≤zs.length∧(AV.agg cs).isUndef=false:=⟨hc,by omega,rfl⟩
  simp only[HW]
  rw[if_pos h1]
  show some (setRange zs 0 cs)=some cs
  rw[setRange_all (by omega)]
 simp only[V4,h,Option.map_some]
set_option maxHeartbeats 4000000 in
set_option maxRecDepth 4000 in
theorem k87 (c:Crs) (hc:CSz c) (hw:twnE c.tw=0) (hce:inB c.ce 0 ((c.tw.pl.length:Int)-1)=true) {H:List AObj} {n:Nat} {cs:List CV} (hn:n≤10) (hH:OpH c H n cs) (l:List Stp) (hl:l.length<2 ^ 63) :
  AC Tryz.prog 87 [.cv (stpR l),.ptr 0 0,.ptr 1 0] H fun r τ=>r=.i (rtE c.tw c.ce l)∧rowOf τ 1=some [.ptr 3 0]∧(rtE c.tw c.ce l=0→OpH c τ (n+1) (cs++drvC l)):=by
 refine ZF (fok87 true) (QC rfl) ?_
 have hlen:=hH.len
 have r0:=fun J=>ZH hH.h0 J
 have r1:=fun J=>ZH hH.h1 J
 simp only[ic87,evA,simprocAttr,QW,QM,WW,X9,VW,EZ,Qau,CH,get_nz,get_ns]
 refine (o56_34 1 60 [(l.length:Int)] (by simp)).call (.cons (.c (.c _ trivial)) (.cons (.c (.c _ trivial)) (.cons (frz_one (fun _=>trivial) (XH _ _)) .nil))) ?_
 rw[FW]
 cases h1:inB (l.length:Int) 1 60
 ·have e:rtE c.tw c.ce l=3:=by unfold rtE;rw[if_pos h1]
  rw[e]
  simp only[evA,simprocAttr,QW,QM,WW,X9,VW,EZ,Qau,CH,get_nz,get_ns]
  exact ⟨r1 _,fun h=>by cases h⟩
 have h1':=VB.1 h1
 have e0:rtE c.tw c.ce l=if (folV c.tw c.ce l).2≠0 then (folV c.tw c.ce l).2 else if (folV c.tw c.ce l).1≠c.ce then 9 else 0:=by
  unfold rtE;rw[if_neg (by rw[h1];decide)]
 simp only[r0,evA,simprocAttr,QW,QM,WW,X9,VW,EZ,Qau,CH,get_nz,get_ns]
 refine (t35 c.tw hc.tw c.ce 0 l (by omega) hl).call ?_
 unfold drvV
 rw[drvE_in hw hce]
 by_cases h2:(folV c.tw c.ce l).2=0
 rotate_left
 ·have hb:((folV c.tw c.ce l).2 == 0)=false:=beq_f h2
  rw[if_neg h2]
  rw[if_pos h2] at e0
  have hb2:((folV c.tw c.ce l).2 != 0)=true:=bne_t h2
  rw[e0]
  simp only[hb,hb2,evA,simprocAttr,QW,QM,WW,X9,VW,EZ,Qau,CH,get_nz,get_ns]
  exact ⟨r1 _,fun h=>absurd h h2⟩
 rw[if_pos h2]
 rw[if_neg (by simpa using h2)] at e0
 by_cases h3:(folV c.tw c.ce l).1=c.ce
 rotate_left
 ·have hb:((folV c.tw c.ce l).1 != c.ce)=true:=bne_t h3
  rw[if_pos h3] at e0
  rw[e0]
  simp only[r0,hb,evA,simprocAttr,QW,QM,WW,X9,VW,EZ,Qau,CH,get_nz,get_ns]
  exact ⟨r1 _,fun h=>by cases h⟩
 have hb:((folV c.tw c.ce l).1 != c.ce)=false:=by simpa using h3
 rw[if_neg (by simpa using h3)] at e0
 rw[e0]
 have hst:=(twnE_ok hw).2.2.2.1
 have hok:=(folV_ok h2).2
 simp only[r0,hb,evA,simprocAttr,QW,QM,WW,X9,VW,EZ,Qau,CH,get_nz,get_ns]
 obtain ⟨dv,r3',hdv⟩:=hH.h3
 have r3:=fun J=>ZH r3' J
 have hz:List.replicate 40 (AV.i 0)=(drvL (l.take 0)).map AV.i:=rfl
 refine ZW l.length (fun i s=>∃ v7 v14 o1 J,s=⟨[.cv (stpR l),.ptr 0 0,.ptr 1 0,.i 0,.i c.ce,.i 0,.ptr (H.length+2) 0,v7,.b false,.b false,.b false,.cv (stpR l),.i l.length,.i i,v14],H++(.cells [.i l.length]::o1 :: .cells ((drvL (l.take i)).map AV.i)::J)⟩) ?_ 0 (QF _) ⟨_,_,_,[],by rw[← hz,h3];rfl⟩
 rintro i s hi ⟨v7,v14,o1,J,rfl⟩
 have hdl:=drvL_len (l.take i)
 by_cases h:i<l.length
 ·obtain ⟨hx1,hx2⟩:=hok i h
  obtain ⟨k,hk⟩:∃ k:Nat,(l[i]!).1=(k:Int):=⟨(l[i]!).1.toNat,by omega⟩
  have hk40:k<40:=by omega
  have hS:=drvL_succ h hk hk40
  have hld:((drvL (l.take i)).map AV.i)[k]? = some (.i (cntS (l.take i) k)):=by rw[V1 (by omega),drvL_get hk40]
  have hcl:=cntS_le (l.take i) k
  have htl:(l.take i).length≤60:=by simp;omega
  have hwc:IntKind.i64.wrap (cntS (l.take i) k+1)=cntS (l.take i) k+1:=ZC (by omega)
  have hst:k+1≤(drvL (l.take i)).length:=by omega
  have hws:=Q6 (show i+1<2 ^ 63 by omega)
  simp only[ic87l0,QJ,h,ia_stp h,stp_ld h,hk,ia_arr hk40,hld,hwc,hst,hws,GC,evA,simprocAttr,QW,QM,WW,X9,VW,EZ,Qau,CH,get_nz,get_ns]
  exact ZL (by first | trivial | omega) ⟨_,_,_,_,by rw[hS]⟩
 ·have:i=l.length:=by omega
  subst this
  rw[X7] at hdl ⊢
  have hd40:(drvC l).length=40:=by rw[ZK];exact hdl
  obtain ⟨hu,hs,hce'⟩:=hdv.nu
  simp only[ic87l0,QJ,h,evA,simprocAttr,QW,QM,WW,X9,VW,EZ,Qau,CH,get_nz,get_ns]
  refine DW_s [] [(0,6),(0,7),(1,6),(4,6)] hmix (by kernel_rfl) rfl ?_
  have hge:40≤(drvL l).length:=by omega
  have htk:List.take 40 (List.map AV.i (drvL l))=(drvC l).map .cv:=by rw[Q5 (by rw[ZK];omega),XW];rfl
  have hbs:=fun σ zs (hz:zs.length=40)=>bslice_one (zs:=zs) hz (cs:=(drvC l).map .cv) (by simp[hdl]) σ
  have hbs':=fun σ=>hbs σ [.i 0,.i 0,.i 0,.i 0,.i 0,.i 0,.i 0,.i 0,.i 0,.i 0,.i 0,.i 0,.i 0,.i 0,.i 0,.i 0,.i 0,.i 0,.i 0,.i 0,.i 0,.i 0,.i 0,.i 0,.i 0,.i 0,.i 0,.i 0,.i 0,.i 0,.i 0,.i 0,.i 0,.i 0,.i 0,.i 0,.i 0,.i 0,.i 0,.i 0] rfl
  obtain ⟨dv',H',happ,hacc,hkeep,hle,hu'⟩:=accE_append (by_:=320) (x:=drvC l) (H:=H++AObj.cells [AV.i ↑l.length]::o1::AObj.cells (List.map AV.i (drvL l))::J) (E:=[0,1,3]) (fun x hx=>by simp only[ZD,WK,or_false] at hx;rw[QM];omega) (hdv.app _) hd40 (by omega) (by omega)
  simp only[QM,List.length_cons,QW,List.cons_append] at happ
  obtain ⟨hu2,hs2,hc2⟩:=hacc.nu
  have lowe:∀ J' i,i<4→(H++J')[i]? = H[i]? := fun J' i hi=>QE (by omega)
  have k0:H'[0]? = H[0]? := by rw[hkeep 0 (by simp),lowe _ 0 (by omega)]
  have k1:H'[1]? = H[1]? := by rw[hkeep 1 (by simp),lowe _ 1 (by omega)]
  have k3:H'[3]? = H[3]? := by rw[hkeep 3 (by simp),lowe _ 3 (by omega)]
  have e1:=fun J'=>lowe J' 1 (by omega)
  have e3:=fun J'=>lowe J' 3 (by omega)
  have r3n:rowOf H' 3=some [.cv (strR c.tw.pl),.cv (strR c.tw.sh),.cv (strR c.tw.tm),.cv (sttR c.tw.st),.i c.ce,.cv (hrdR c.ha),.cv (roR c.ro),dv]:=by
   unfold rowOf;rw[k3];exact r3'
  simp only[r1,r3,hge,htk,hbs',happ,r3n,hu2,hs2,hc2,k1,k3,e1,e3,evA,simprocAttr,QW,QM,WW,X9,VW,EZ,Qau,CH,get_nz,get_ns]
  have hl3:3<H'.length:=by rw[hle,QM];omega
  have hr1:rowOf (H'.set 3 (AObj.cells [.cv (strR c.tw.pl),.cv (strR c.tw.sh),.cv (strR c.tw.tm),.cv (sttR c.tw.st),.i c.ce,.cv (hrdR c.ha),.cv (roR c.ro),dv'])) 1=some [.ptr 3 0]:=by
   rw[QX (by omega)];unfold rowOf;rw[k1];exact hH.h1
  refine ⟨hr1,fun _=>?_⟩
  refine ⟨?_,?_,dv',?_,hacc.set (by simp) _⟩
  ·rw[QX (by omega)];unfold rowOf;rw[k0];exact hH.h0
  ·exact hr1
  ·exact W0 r3n
def drvsC (l:List (List Stp)):List CV:=l.flatMap drvC
theorem drvC_len (l:List Stp):(drvC l).length=40:=by rw[ZK];exact drvL_len l
theorem drvsC_len (l:List (List Stp)):(drvsC l).length=l.length*40:=UG drvC_len l
abbrev opnC (c:Crs):List CV:=crsC c++[.rsl (drvsC c.ro) c.ro.length]
abbrev opnP (c:Crs):CV:=.rp (opnC c) 0
def opnV (c:Crs):AV:=.tup [if (crsV c).2.2=0 then .cv (opnP c) else .cv .nilp,.i (crsV c).1,.i (crsV c).2.1,.i (crsV c).2.2]
set_option maxHeartbeats 1000000 in
theorem k86 (c:Crs) (hc:CSz c) (hw:twnE c.tw=0) (hce:inB c.ce 0 ((c.tw.pl.length:Int)-1)=true) (h10:c.ro.length≤10) {H:List AObj} (hH:OpH c H 0 []) :
  AC Tryz.prog 86 [.cv (roR c.ro),.fn (.func 87) [.ptr 0 0,.ptr 1 0]] H fun r τ=>r=.tup [.i (XZ (fun i=>rtE c.tw c.ce c.ro[i]!) 0 c.ro.length).1,.i (XZ (fun i=>rtE c.tw c.ce c.ro[i]!) 0 c.ro.length).2]∧rowOf τ 1=some [.ptr 3 0] ∧
   ((XZ (fun i=>rtE c.tw c.ce c.ro[i]!) 0 c.ro.length).2=0→OpH c τ c.ro.length (drvsC c.ro)):=by
 refine ZF (fok86 true) (QC rfl) ?_
 have hf:=fun (i:Nat) (h:i<c.ro.length) {H n cs} (hn:n≤10) (hH:OpH c H n cs)=>k87 c hc hw hce hn hH c.ro[i]! (hc.rol i h)
 generalize hg:(fun i:Nat=>rtE c.tw c.ce c.ro[i]!)=g
 have hg':∀ i,rtE c.tw c.ce c.ro[i]! = g i:=fun i=>by rw[← hg]
 simp only[ic86,evA,simprocAttr]
 refine ZW c.ro.length (fun i s=>(∀ j,j<i→g j=0)∧∃ v2 v3 v4 v5 v9 v10 H',OpH c H' i (drvsC (c.ro.take i))∧s=⟨[.cv (roR c.ro),.fn (.func 87) [.ptr 0 0,.ptr 1 0],v2,v3,v4,v5,.cv (roR c.ro),.i c.ro.length,.i i,v9,v10],H'⟩) ?_ 0 (QF _) ⟨by omega,_,_,_,_,_,_,H,hH,rfl⟩
 rintro i s hi ⟨hall,v2,v3,v4,v5,v9,v10,H',hH',rfl⟩
 by_cases h:i<c.ro.length
 ·simp only[ic86l0,QJ,h,XP h,ro_ld h,evA,simprocAttr]
  refine (hf i h (by omega) hH').mono ?_
  rw[hg']
  rintro r τ ⟨rfl,hr1,hτ⟩
  by_cases hgi:g i=0
  ·have hb:(g i != 0)=false:=by simpa using hgi
   have hS:drvsC (c.ro.take (i+1))=drvsC (c.ro.take i)++drvC c.ro[i]! := by
    unfold drvsC
    rw[JC,List.flatMap_append,QI h,getElem!_pos c.ro i h];simp
   simp only[hb,Q6 (show i+1<2 ^ 63 by omega),evA,simprocAttr]
   refine ZL (by first | trivial | omega) ⟨fun j hj=>?_,_,_,_,_,_,_,τ,by rw[hS];exact hτ hgi,rfl⟩
   rcases QQ.1 hj with hj | rfl
   ·exact hall j hj
   ·exact hgi
  ·have hb:(g i != 0)=true:=by simpa using hgi
   rw[VF c.ro.length 0 i (QF _) (by omega) (fun j _ hj=>hall j hj) hgi]
   simp only[hb,evA,simprocAttr]
   exact ⟨hr1,fun h=>absurd h hgi⟩
 ·have:i=c.ro.length:=by omega
  subst this
  rw[JY c.ro.length 0 fun j _ hj=>hall j (by omega)]
  rw[X7] at hH'
  simp only[ic86l0,QJ,h,evA,simprocAttr]
  exact ⟨hH'.h1,fun _=>hH'⟩
set_option maxHeartbeats 2000000 in
theorem k62 (c:Crs) (hc:CSz c):PA Tryz.prog 62 [crsA c] (opnV c):=by
 have hcl:QR 0 (opnV c)=true:=by unfold opnV;split <;> rfl
 refine ⟨ZF (fok62 true) (QC rfl) ?_,hcl,rfl⟩
 have hpl:=hc.tw.pl
 have hw1:IntKind.i64.wrap ((c.tw.pl.length:Int)-1)=(c.tw.pl.length:Int)-1:=ZC (by omega)
 have hbad:∀ x:Int × Int × Int,crsV c=x→x.2.2≠0→opnV c=.tup [.cv .nilp,.i x.1,.i x.2.1,.i x.2.2]:=fun x h he=>by unfold opnV;rw[h,if_neg he]
 simp only[ic62,evA,simprocAttr]
 refine (t72 c.tw hc.tw).call frz ?_
 have ht:(twnV c.tw).2.2=twnE c.tw:=rfl
 by_cases h1:twnE c.tw=0
 rotate_left
 ·have e:crsV c=(1,0,twnE c.tw):=by unfold crsV;rw[if_pos h1]
  have hb:(twnE c.tw != 0)=true:=bne_t h1
  rw[hbad _ e h1]
  simp only[ht,hb,evA,simprocAttr]
  exact frz
 have hb:(twnE c.tw != 0)=false:=by simpa using h1
 have e1:crsV c=if inB c.ce 0 ((c.tw.pl.length:Int)-1)=false then (1,0,4)
  else if c.ha.length≠c.tw.st.length∨c.ro.length>10 then (1,0,3)
  else if (XZ (fun i=>hrdE c.ha[i]!) 0 c.ha.length).2≠0 then (2,XZ (fun i=>hrdE c.ha[i]!) 0 c.ha.length)
  else if (XZ (fun i=>rtE c.tw c.ce c.ro[i]!) 0 c.ro.length).2≠0 then (3,XZ (fun i=>rtE c.tw c.ce c.ro[i]!) 0 c.ro.length) else (0,0,0):=by
  unfold crsV;rw[if_neg (by simpa using h1)]
 simp only[ht,hb,hw1,evA,simprocAttr]
 refine (o56_34 0 ((c.tw.pl.length:Int)-1) [c.ce] (by simp)).call frz ?_
 rw[FW]
 cases h2:inB c.ce 0 ((c.tw.pl.length:Int)-1)
 ·rw[if_pos h2] at e1
  rw[hbad _ e1 (by decide)]
  simp only[evA,simprocAttr]
  exact frz
 rw[if_neg (by rw[h2];decide)] at e1
 by_cases h3:c.ha.length=c.tw.st.length
 rotate_left
 ·rw[if_pos (.inl h3)] at e1
  have hb3:((c.ha.length:Int) != c.tw.st.length)=true:=bne_t (by omega)
  rw[hbad _ e1 (by decide)]
  simp only[hb3,evA,simprocAttr]
  exact frz
 have hb3:((c.ha.length:Int) != c.tw.st.length)=false:=by simp[h3]
 by_cases h4:(c.ro.length:Int)>10
 ·rw[if_pos (.inr (by omega))] at e1
  rw[hbad _ e1 (by decide)]
  simp only[hb3,h4,evA,simprocAttr]
  exact frz
 rw[if_neg (by rintro (h | h);exact h h3;omega)] at e1
 simp only[hb3,h4,evA,simprocAttr]
 refine (k83 c.ha hc.ha).call frz ?_
 generalize XZ (fun i=>hrdE c.ha[i]!) 0 c.ha.length=x at e1
 by_cases h5:x.2=0
 rotate_left
 ·rw[if_pos h5] at e1
  have hb5:(x.2 != 0)=true:=bne_t h5
  rw[hbad _ e1 h5]
  simp only[hb5,evA,simprocAttr]
  exact frz
 have hb5:(x.2 != 0)=false:=by simpa using h5
 rw[if_neg (by simpa using h5)] at e1
 simp only[hb5,evA,simprocAttr]
 refine (k86 c hc h1 h2 (by omega) ⟨rfl,rfl,.cv .nils,rfl,AccE.nil _ _ _⟩).mono ?_
 generalize XZ (fun i=>rtE c.tw c.ce c.ro[i]!) 0 c.ro.length=y at e1
 rintro r τ ⟨rfl,r1,hτ⟩
 have r1s:=fun v=>W0 (cs':=[v]) r1
 by_cases h6:y.2=0
 rotate_left
 ·rw[if_pos h6] at e1
  have hb6:(y.2 != 0)=true:=bne_t h6
  rw[hbad _ e1 h6]
  simp only[hb6,r1,r1s,evA,simprocAttr]
  exact frz
 have hb6:(y.2 != 0)=false:=by simpa using h6
 rw[if_neg (by simpa using h6)] at e1
 have hO:=hτ h6
 obtain ⟨dv,r3,hdv⟩:=hO.h3
 have hv:opnV c=.tup [.cv (opnP c),.i 0,.i 0,.i 0]:=by unfold opnV;rw[e1];rfl
 rw[hv]
 simp only[hb6,r1,r1s,evA,simprocAttr]
 have r3s:rowOf (τ.set 1 (AObj.cells [AV.ptr 3 0])) 3=some [.cv (strR c.tw.pl),.cv (strR c.tw.sh),.cv (strR c.tw.tm),.cv (sttR c.tw.st),.i c.ce,.cv (hrdR c.ha),.cv (roR c.ro),dv]:=by rw[QX (by omega)];exact r3
 have hd:=accE_frz (p:=anyC) (hdv.set (X:=1) (by simp) (AObj.cells [AV.ptr 3 0])) fun _ _=>trivial
 refine .tup (.cons (.c ?_) (KW (k:=0) _ rfl))
 cases hd with
 | c hd =>
  exact .ptr 3 0 _ _ r3s (.cons (.c _ trivial) (.cons (.c _ trivial) (.cons (.c _ trivial) (.cons (.c _ trivial) (.cons (.c _ trivial) (.cons (.c _ trivial) (.cons (.c _ trivial) (.cons hd .nil))))))))
def hrdF (h:Hrd) (t:Int):Int:=h.ba+h.pe*t
structure HrdOk (h:Hrd):Prop where
 ba:0≤h.ba∧h.ba≤1000
 pe:0≤h.pe∧h.pe≤100
 lo:0≤h.lo∧h.lo≤h.hi
 hi:h.hi≤100
theorem hrdE_ok {h:Hrd} (he:hrdE h=0):HrdOk h:=by
 unfold hrdE at he
 rw[FW,FW,outF_two] at he
 split at he
 ·simp at he
 rename_i h1
 split at he
 ·simp at he
 simp only[WR,Z0,not_or,Bool.not_eq_false] at h1
 obtain ⟨a,b,c,d⟩:=h1
 have a:=VB.1 a
 have b:=VB.1 b
 have c:=VB.1 c
 have d:=VB.1 d
 exact ⟨by omega,by omega,by omega,by omega⟩
theorem hrdF_bd {h:Hrd} (hk:HrdOk h) {t:Int} (ht:0≤t∧t≤100):0≤hrdF h t∧hrdF h t≤11000:=by
 unfold hrdF
 have h1:0≤h.pe*t:=Int.mul_nonneg hk.pe.1 ht.1
 have h2:h.pe*t≤100*100:=Int.mul_le_mul hk.pe.2 ht.2 ht.1 (by omega)
 have:=hk.ba
 omega
theorem k42 (h:Hrd) (hk:HrdOk h) (t:Int) (ht:0≤t∧t≤100):PC Tryz.prog 42 [hrdA h,.i t] (.i (hrdF h t)):=by
 refine ⟨ZF (fok42 true) (QC rfl) ?_,rfl⟩
 have h1:0≤h.pe*t:=Int.mul_nonneg hk.pe.1 ht.1
 have h2:h.pe*t≤100*100:=Int.mul_le_mul hk.pe.2 ht.2 ht.1 (by omega)
 have h3:=hk.ba
 have w1:IntKind.i64.wrap (h.pe*t)=h.pe*t:=ZC (by omega)
 have w2:IntKind.i64.wrap (h.ba+h.pe*t)=hrdF h t:=ZC (by omega)
 simp only[ic42,w1,w2,evA,simprocAttr]
 exact frz
def lsT (h:Hrd) (n:Int):Int:=if h.pe=0 then h.lo else if n>0 then h.lo else if n<0 then h.hi else h.lo
def grT (h:Hrd) (n:Int):Int:=if h.pe=0 then h.lo else if n>0 then h.hi else h.lo
def dfN (a b:List Stp) (i:Nat):Int:=cntS a i-cntS b i
def apF (ha:List Hrd) (a b:List Stp):Nat→Int × Int
 | 0=>(0,0)
 | i+1=>((apF ha a b i).1+dfN a b i*hrdF ha[i]! (lsT ha[i]! (dfN a b i)),(apF ha a b i).2+dfN a b i*hrdF ha[i]! (grT ha[i]! (dfN a b i)))
theorem lsT_bd {h:Hrd} (hk:HrdOk h) (n:Int):h.lo≤lsT h n∧lsT h n≤h.hi:=by
 have:=hk.lo
 unfold lsT;split
 ·omega
 ·split
  ·omega
  ·split <;> omega
theorem grT_bd {h:Hrd} (hk:HrdOk h) (n:Int):h.lo≤grT h n∧grT h n≤h.hi:=by
 have:=hk.lo
 unfold grT;split
 ·omega
 ·split <;> omega
theorem mul_bd {n x:Int} (hn:-60≤n∧n≤60) (hx:0≤x∧x≤11000):-660000≤n*x∧n*x≤660000:=by
 constructor
 ·have h1:(-60)*x≤n*x:=Int.mul_le_mul_of_nonneg_right hn.1 hx.1
  omega
 ·have h1:n*x≤60*x:=Int.mul_le_mul_of_nonneg_right hn.2 hx.1
  omega
theorem dfN_bd {a b:List Stp} (ha:a.length≤60) (hb:b.length≤60) (i:Nat):-60≤dfN a b i∧dfN a b i≤60:=by
 unfold dfN
 have:=cntS_le a i
 have:=cntS_le b i
 omega
theorem apF_bd {ha:List Hrd} {a b:List Stp} (hh:∀ i,i<ha.length→HrdOk ha[i]!) (h1:a.length≤60) (h2:b.length≤60):∀ i,i≤ha.length→(-660000*(i:Int)≤(apF ha a b i).1∧(apF ha a b i).1≤660000*(i:Int))∧(-660000*(i:Int)≤(apF ha a b i).2∧(apF ha a b i).2≤660000*(i:Int))
 | 0,_=>by simp[apF]
 | i+1,h=>by
  have ih:=apF_bd hh h1 h2 i (by omega)
  have hk:=hh i (by omega)
  have hl:=lsT_bd hk (dfN a b i)
  have hg:=grT_bd hk (dfN a b i)
  have h3:=hk.lo
  have h4:=hk.hi
  have m1:=mul_bd (dfN_bd h1 h2 i) (hrdF_bd hk (t:=lsT ha[i]! (dfN a b i)) (by omega))
  have m2:=mul_bd (dfN_bd h1 h2 i) (hrdF_bd hk (t:=grT ha[i]! (dfN a b i)) (by omega))
  simp only[apF]
  push_cast
  omega
structure CrsOk (c:Crs):Prop where
 tw:twnE c.tw=0
 ce:inB c.ce 0 ((c.tw.pl.length:Int)-1)=true
 hl:c.ha.length=c.tw.st.length
 h40:c.ha.length≤40
 rl:c.ro.length≤10
 hrd:∀ i,i<c.ha.length→HrdOk c.ha[i]!
 rt:∀ i,i<c.ro.length→rtE c.tw c.ce c.ro[i]! = 0
theorem rtE_ok {t:Twn} {ce:Int} {l:List Stp} (h:rtE t ce l=0):(1≤l.length∧l.length≤60)∧(folV t ce l).2=0∧(folV t ce l).1=ce:=by
 unfold rtE at h
 split at h
 ·simp at h
 rename_i h1
 split at h
 ·contradiction
 rename_i h2
 split at h
 ·simp at h
 rename_i h3
 have h1:=VB.1 (show inB (l.length:Int) 1 60=true by simpa using h1)
 exact ⟨by omega,by simpa using h2,by simpa using h3⟩
theorem crsV_ok {c:Crs}:(crsV c).2.2=0↔CrsOk c:=by
 constructor
 ·intro h
  unfold crsV at h
  split at h
  ·contradiction
  rename_i h1
  split at h
  ·simp at h
  rename_i h2
  split at h
  ·simp at h
  rename_i h3
  split at h
  ·contradiction
  rename_i h4
  split at h
  ·contradiction
  rename_i h5
  have h1:twnE c.tw=0:=by simpa using h1
  have h40:=(twnE_ok h1).2.2.2.1
  simp only[not_or] at h3
  have h4:(XZ (fun i=>hrdE c.ha[i]!) 0 c.ha.length).2=0:=by simpa using h4
  have h5:(XZ (fun i=>rtE c.tw c.ce c.ro[i]!) 0 c.ro.length).2=0:=by simpa using h5
  exact ⟨h1,by simpa using h2,by omega,by omega,by omega,fun i hi=>hrdE_ok (findE_zero h4 i (QF _) (by omega)),fun i hi=>findE_zero h5 i (QF _) (by omega)⟩
 ·intro h
  unfold crsV
  have hh:∀ i,i<c.ha.length→hrdE c.ha[i]! = 0:=fun i hi=>by
   have hk:=h.hrd i hi
   have h1:=hk.ba
   have h2:=hk.pe
   have h3:=hk.lo
   have h4:=hk.hi
   unfold hrdE
   rw[FW,FW,outF_two,VB.2 h1,VB.2 h2,VB.2 (show 0≤c.ha[i]!.lo∧c.ha[i]!.lo≤100 by omega),VB.2 (show 0≤c.ha[i]!.hi∧c.ha[i]!.hi≤100 by omega)]
   rw[if_neg (by decide),if_neg (by omega)]
  rw[if_neg (by simpa using h.tw),if_neg (by rw[h.ce];decide),if_neg (by rintro (h' | h');exact h' h.hl;have:=h.rl;omega),
   JY c.ha.length 0 (fun j _ hj=>hh j (by omega)),if_neg (by simp),JY c.ro.length 0 (fun j _ hj=>h.rt j (by omega)),if_neg (by simp)]
theorem ia_arp {n off k:Nat} {cs:List CV} (h:k<n) (σ:List AObj):PD n 1 [.cv (.rp cs off),.cv (.int .i64 k)] σ=some (.cv (.rp cs (off+k)),σ):=by
 simp[PD,h]
theorem drv_ld {l:List (List Stp)} {a i:Nat} (ha:a<l.length) (hi:i<40):(drvsC l)[a*40+i]? = some (.int .i64 (cntS l[a]! i)):=by
 have h:=flat_get drvC_len ha (j:=i) hi
 have h2:(drvC l[a]!)[i]? = some (.int .i64 (cntS l[a]! i)):=by simp[drvC,drvL,hi]
 unfold drvsC
 rw[h,h2]
theorem ia_drv {l:List (List Stp)} {a:Nat} (ha:a<l.length) (σ:List AObj):VP 40 [.cv (.rsl (drvsC l) l.length),.cv (.int .i64 a)] σ=some (.cv (.rp (drvsC l) (a*40)),σ):=XP ha σ
def locs1:AV→List Nat | .sl l _ _ _=>[l] | _=>[]
theorem locs_lt {E:List Nat} {e:Nat} {H:List AObj} {v:AV} {n:Nat} {cs:List CV} (h:AccE E e H v n cs):∀ x∈locs1 v,x<H.length:=by
 rcases h with ⟨rfl,_⟩ | ⟨l,_,rfl,_,hr⟩
 ·intro x hx;simp[locs1] at hx
 ·intro x hx;simp[locs1] at hx;subst hx;exact (QH.1 (WO hr)).1
theorem accE_other {e:Nat} {H H1₀:List AObj} {lv gv:AV} {n m:Nat} {cl cg:List CV} {E:List Nat} (hg:AccE (0::E) e H gv n cg) (hl:AccE (0::locs1 gv) e H1₀ lv m cl) (hk:∀ i∈locs1 gv,H1₀[i]? = H[i]?):AccE (0::locs1 lv) e H1₀ gv n cg:=by
 rcases hg with ⟨rfl,h1,h2⟩ | ⟨q,hq,rfl,hlen,hr⟩
 ·exact .inl ⟨rfl,h1,h2⟩
 ·refine .inr ⟨q,?_,rfl,hlen,by unfold rowOf;rw[hk q (by simp[locs1])];exact hr⟩
  intro hm
  rcases ZD.1 hm with rfl | hm
  ·exact hq (by simp)
  ·rcases hl with ⟨rfl,_⟩ | ⟨p,hp,rfl,_⟩
   ·simp[locs1] at hm
   ·simp[locs1] at hm;subst hm;exact hp (by simp[locs1])
theorem two_append {X:AObj} {T:List AObj} {lv gv:AV} {n:Nat} {cl cg:List CV} (hl:AccE (0::locs1 gv) 1 (X::T) lv n cl) (hg:AccE (0::locs1 lv) 1 (X::T) gv n cg) (hn:n≤40) (L G:Int) :
  ∃ (lv' gv':AV) (T2₀ T3₀:List AObj),ZX 1 8 [lv,.sl (T.length+1) 0 1 1] (X::(T++[.cells [.i L]]))=some (lv',X::T2₀)∧ZX 1 8 [gv,.sl (T2₀.length+1) 0 1 1] (X::(T2₀++[.cells [.i G]]))=some (gv',X::T3₀) ∧
   T2₀.length=T.length+2∧T3₀.length=T2₀.length+2∧(∀ X',AccE (0::locs1 gv') 1 (X'::T3₀) lv' (n+1) (cl++[.int .i64 L])∧AccE (0::locs1 lv') 1 (X'::T3₀) gv' (n+1) (cg++[.int .i64 G])):=by
 obtain ⟨lv',H1₀,e1,a1,k1,n1,_⟩:=accE_append (by_:=8) (x:=[.int .i64 L]) (fun x hx=>by
  rcases ZD.1 hx with rfl | hx
  ·simp
  ·exact locs_lt hg x hx) hl rfl (by omega) (by omega)
 obtain ⟨T2₀,rfl⟩:∃ T2₀,H1₀=X::T2₀:=by
  have:=k1 0 (by simp)
  cases H1₀ with
  | nil=>simp at this
  | cons y T2₀=>simp at this;exact ⟨T2₀,by rw[this]⟩
 have a2:=accE_other hg a1 fun i hi=>k1 i (WU _ hi)
 obtain ⟨gv',H2,e2,a3,k2,n2,_⟩:=accE_append (by_:=8) (x:=[.int .i64 G]) (fun x hx=>by
  rcases ZD.1 hx with rfl | hx
  ·simp
  ·exact locs_lt a1 x hx) a2 rfl (by omega) (by omega)
 obtain ⟨T3₀,rfl⟩:∃ T3₀,H2=X::T3₀:=by
  have:=k2 0 (by simp)
  cases H2 with
  | nil=>simp at this
  | cons y T3₀=>simp at this;exact ⟨T3₀,by rw[this]⟩
 have a4:=accE_other a1 a3 fun i hi=>k2 i (WU _ hi)
 refine ⟨lv',gv',T2₀,T3₀,by simpa using e1,by simpa using e2,by simpa using n1,by simpa using n2,fun X'=>⟨a4.keep fun x hx hn=>?_,a3.keep fun x hx hn=>?_⟩⟩
 ·cases x with
  | zero=>simp at hn
  | succ x=>rfl
 ·cases x with
  | zero=>simp at hn
  | succ x=>rfl
theorem AccE.shape {E:List Nat} {e:Nat} {H:List AObj} {v:AV} {n:Nat} {cs:List CV} (h:AccE E e H v n cs):v=.cv .nils∨∃ p,v=.sl p 0 n e∧p<H.length:=by
 rcases h with ⟨rfl,_⟩ | ⟨l,_,rfl,_,hr⟩
 ·exact .inl rfl
 ·exact .inr ⟨l,rfl,(QH.1 (WO hr)).1⟩
def p47_2_3:IC:=(.block 2 (.seq (.region [jF 1 5,jl 0,jq (.bin .eql .int) [.t 1,jn 0],jm 13 2])
 (.cond 13 .skip
 (.seq (.region [jv 6,jq (.bin .gtr .int) [.t 0,jn 0],jm 14 1])
 (.cond 14 (.region [jF 2 5,jG 1 0,jl 1,jm 8 2])
 (.seq (.region [jv 6,jq (.bin .lss .int) [.t 0,jn 0],jm 15 1])
 (.cond 15 (.region [jF 2 5,jG 1 0,jl 1,jm 7 2])
 .skip)))))))
theorem ic47l0_cut:ic47l0=(.seq (.region [jw 12 (.bin .lss .int) [.v 11,.v 10]]) (.seq (.cond 12 .skip
 (.exit 0)) (.seq (.block 1 (.seq (.region [jv 11,jq (.iaS 4) [.v 9,.v 11],jq (.loadN 4) [.t 1],jw 5 (.alloc [(.cv (.int .i64 0)),(.cv (.int .i64 0)),(.cv (.int .i64 0)),(.cv (.int .i64 0))]) [],jm 4 0,jq (.store 4) [.v 5,.t 2]]) (.seq (.dr [[],[0],[1],[2],[],[],[3,4],[6,5],[7],[],[9],[10],[11],[],[],[12,13],[15,14],[16],[8,17],[18,0,1,2,3,4,5,6,7,8,9,10,11,12,13,14,15,16,17,18]] [jv 0,jc 0,jG 7 1,jl 2,jv 1,jv 4,ja 40 3 4,jq (.iaA 40 1) [.t 6,.t 5],jl 7,jv 0,jc 9,jG 7 10,jl 11,jv 2,jv 4,ja 40 12 13,jq (.iaA 40 1) [.t 15,.t 14],jl 16,jq (.bin .sub .int) [.t 8,.t 17],jm 6 18]) (.seq (.dr [[],[0],[1],[],[3],[4],[2,0,1,2],[5,6,0,1,2,3,4,5,6]] [jF 2 5,jG 0 0,jl 1,jF 2 5,jG 0 3,jl 4,jm 7 2,jm 8 5]) (.seq p47_2_3 (.seq (.dr [[],[0],[1],[],[],[4],[],[5,6],[3,7],[2,8],[0,1,2,3,4,5,6,7,8,9],[10,0,1,2,3,4,5,6,7,8,9],[11,9,7,0,1,2,3,4,5,6,7,8,9]] [jF 0 3,jG 0 0,jl 1,jv 6,jN 4 5,jq (.build [(.cv (.int .i64 0)),(.cv (.int .i64 0)),(.cv (.int .i64 0)),(.cv (.int .i64 0))] [(0,4)]) [.t 4],jv 7,jk 42 [.t 5,.t 6],jq (.bin .mul .int) [.t 3,.t 7],jq (.bin .add .int) [.t 2,.t 8],jF 0 3,jG 0 10,jq (.store 1) [.t 11,.t 9]]) (.seq (.dr [[],[0],[1],[],[],[4],[],[5,6],[3,7],[2,8],[0,1,2,3,4,5,6,7,8,9],[10,0,1,2,3,4,5,6,7,8,9],[11,9,7,0,1,2,3,4,5,6,7,8,9]] [jF 0 3,jG 1 0,jl 1,jv 6,jN 4 5,jq (.build [(.cv (.int .i64 0)),(.cv (.int .i64 0)),(.cv (.int .i64 0)),(.cv (.int .i64 0))] [(0,4)]) [.t 4],jv 8,jk 42 [.t 5,.t 6],jq (.bin .mul .int) [.t 3,.t 7],jq (.bin .add .int) [.t 2,.t 8],jF 0 3,jG 1 10,jq (.store 1) [.t 11,.t 9]]) (.dr [[],[0],[],[2],[1,3],[],[5],[],[7],[6,8,4],[0,1,2,3,4,5,6],[10,4,9,0,1,2,3,4,5,6],[0,1,2,3,4,5,6,7,8,9,10,11],[12,9,11,0,1,2,3,4,5,6,7,8,9,10,11]] [jF 2 3,jl 0,jv 7,jq (.bslice 1 1 [(.cv (.int .i64 0))] [(0,1)]) [.t 2],jq (.append 1 8) [.t 1,.t 3],jF 3 3,jl 5,jv 8,jq (.bslice 1 1 [(.cv (.int .i64 0))] [(0,1)]) [.t 7],jq (.append 1 8) [.t 6,.t 8],jF 2 3,jq (.store 1) [.t 10,.t 4],jF 3 3,jq (.store 1) [.t 12,.t 9]])))))))) (.region [jq (.bin .add .int) [.v 11,jn 1],jm 11 0])))):=rfl
theorem p47_ok {h:Hrd} {n:Int} {q:Nat} {σ:List AObj} (hr:rowOf σ q=some [.i h.ba,.i h.pe,.i h.lo,.i h.hi]) {n0:Nat} {Q:Exit→St→Prop} {v0 v1 v2 v3 v4 v9 v10 v11 v12 v13 v14 v15:AV}
  (hQ:∀ w13 w14 w15,Q .normal ⟨[v0,v1,v2,v3,v4,.ptr q 0,.i n,.i (lsT h n),.i (grT h n),v9,v10,v11,v12,w13,w14,w15],σ⟩) :
  IS Tryz.prog { vars:=vs47,N:=102,r:=none,n0:=n0 } p47_2_3 ⟨[v0,v1,v2,v3,v4,.ptr q 0,.i n,.i h.lo,.i h.lo,v9,v10,v11,v12,v13,v14,v15],σ⟩ Q .mk .mk:=by
 by_cases h0:h.pe=0
 ·have e1:lsT h n=h.lo:=by unfold lsT;rw[if_pos h0]
  have e2:grT h n=h.lo:=by unfold grT;rw[if_pos h0]
  rw[e1,e2] at hQ
  simp only[p47_2_3,hr,h0,evA,simprocAttr]
  exact hQ _ _ _
 have hb:(h.pe == 0)=false:=beq_f h0
 by_cases h1:n>0
 ·have e1:lsT h n=h.lo:=by unfold lsT;rw[if_neg h0,if_pos h1]
  have e2:grT h n=h.hi:=by unfold grT;rw[if_neg h0,if_pos h1]
  rw[e1,e2] at hQ
  simp only[p47_2_3,hr,hb,h1,evA,simprocAttr]
  exact hQ _ _ _
 by_cases h2:n<0
 ·have e1:lsT h n=h.hi:=by unfold lsT;rw[if_neg h0,if_neg h1,if_pos h2]
  have e2:grT h n=h.lo:=by unfold grT;rw[if_neg h0,if_neg h1]
  rw[e1,e2] at hQ
  simp only[p47_2_3,hr,hb,h1,h2,evA,simprocAttr]
  exact hQ _ _ _
 ·have e1:lsT h n=h.lo:=by unfold lsT;rw[if_neg h0,if_neg h1,if_neg h2]
  have e2:grT h n=h.lo:=by unfold grT;rw[if_neg h0,if_neg h1]
  rw[e1,e2] at hQ
  simp only[p47_2_3,hr,hb,h1,h2,evA,simprocAttr]
  exact hQ _ _ _
set_option maxHeartbeats 4000000 in
set_option maxRecDepth 4000 in
theorem k47 (c:Crs) (hc:CSz c) (hk:CrsOk c) (a b:Nat) (ha:a<c.ro.length) (hb:b<c.ro.length) :
  AC Tryz.prog 47 [.cv (opnP c),.i a,.i b] [] fun r τ=>∃ u v:CV,FrzV scl τ r (.agg [.i (apF c.ha c.ro[a]! c.ro[b]! c.ha.length).1,.i (apF c.ha c.ro[a]! c.ro[b]! c.ha.length).2,.cv u,.cv v]):=by
 refine ZF (fok47 true) (QC rfl) ?_
 have hra:=(rtE_ok (hk.rt a ha)).1
 have hrb:=(rtE_ok (hk.rt b hb)).1
 have h40:=hk.h40
 simp only[ic47,evA,simprocAttr]
 refine ZW c.ha.length (fun i s=>∃ v4 v5 v6 v7 v8 v12 v13 v14 v15 lv gv T n cl cg,(∀ x∈cl++cg,scl x)∧AccE (0::locs1 gv) 1 (.cells [.i (apF c.ha c.ro[a]! c.ro[b]! i).1,.i (apF c.ha c.ro[a]! c.ro[b]! i).2,lv,gv]::T) lv n cl∧AccE (0::locs1 lv) 1 (.cells [.i (apF c.ha c.ro[a]! c.ro[b]! i).1,.i (apF c.ha c.ro[a]! c.ro[b]! i).2,lv,gv]::T) gv n cg∧n≤i∧s=⟨[.cv (opnP c),.i a,.i b,.ptr 0 0,v4,v5,v6,v7,v8,.cv (hrdR c.ha),.i c.ha.length,.i i,v12,v13,v14,v15],.cells [.i (apF c.ha c.ro[a]! c.ro[b]! i).1,.i (apF c.ha c.ro[a]! c.ro[b]! i).2,lv,gv]::T⟩) ?_ 0 (QF _) ⟨_,_,_,_,_,_,_,_,_,.cv .nils,.cv .nils,[],0,[],[],by simp,AccE.nil _ _ _,AccE.nil _ _ _,QG _,rfl⟩
 rintro i s hi ⟨v4,v5,v6,v7,v8,v12,v13,v14,v15,lv,gv,T,n,cl,cg,hsc,hlv,hgv,hni,rfl⟩
 by_cases h:i<c.ha.length
 rotate_left
 ·have:i=c.ha.length:=by omega
  subst this
  simp only[ic47l0,QJ,h,hlv.nu.2.1,hgv.nu.2.1,evA,simprocAttr]
  exact ⟨_,_,.agg (.cons (.c (.c _ trivial)) (.cons (.c (.c _ trivial)) (.cons (accE_frz hlv fun x hx=>hsc x (J3 _ hx)) (.cons (accE_frz hgv fun x hx=>hsc x (List.mem_append_right _ hx)) .nil))))⟩
 have hh:=hk.hrd i h
 have hi40:i<40:=by omega
 have hn:=dfN_bd hra.2 hrb.2 i
 have hwn:IntKind.i64.wrap (cntS c.ro[a]! i-cntS c.ro[b]! i)=dfN c.ro[a]! c.ro[b]! i:=ZC (by unfold dfN at hn;omega)
 have hap:=apF_bd hk.hrd hra.2 hrb.2 (i+1) (by omega)
 have hap0:=apF_bd hk.hrd hra.2 hrb.2 i (by omega)
 have hls:=lsT_bd hh (dfN c.ro[a]! c.ro[b]! i)
 have hgr:=grT_bd hh (dfN c.ro[a]! c.ro[b]! i)
 have hlo:=hh.lo
 have hhi:=hh.hi
 have m1:=mul_bd hn (hrdF_bd hh (t:=lsT c.ha[i]! (dfN c.ro[a]! c.ro[b]! i)) (by omega))
 have m2:=mul_bd hn (hrdF_bd hh (t:=grT c.ha[i]! (dfN c.ro[a]! c.ro[b]! i)) (by omega))
 have c1:=k42 c.ha[i]! hh (lsT c.ha[i]! (dfN c.ro[a]! c.ro[b]! i)) (by omega)
 have c2:=k42 c.ha[i]! hh (grT c.ha[i]! (dfN c.ro[a]! c.ro[b]! i)) (by omega)
 simp only[ic47l0_cut,QJ,h,ia_hrd h,hrd_ld h,evA,simprocAttr,QW,QM,WW,X9,VW,EZ,Qau,CH,get_nz,get_ns]
 refine DW_s [] [] hmix (by kernel_rfl) rfl ?_
 simp only[ia_drv ha,ia_drv hb,ia_arp hi40,drv_ld ha hi40,drv_ld hb hi40,hwn,evA,simprocAttr,QW,QM,WW,X9,VW,EZ,Qau,CH,get_nz,get_ns]
 refine DW_s [] [] hmix (by kernel_rfl) rfl ?_
 simp only[evA,simprocAttr,QW,QM,WW,X9,VW,EZ,Qau,CH,get_nz,get_ns]
 refine p47_ok (h:=c.ha[i]!) (by simp only[evA,simprocAttr,QW,QM,WW,X9,VW,EZ,Qau,CH,get_nz,get_ns]) fun w13 w14 w15=>?_
 have hs1:(apF c.ha c.ro[a]! c.ro[b]! (i+1)).1=(apF c.ha c.ro[a]! c.ro[b]! i).1+dfN c.ro[a]! c.ro[b]! i*hrdF c.ha[i]! (lsT c.ha[i]! (dfN c.ro[a]! c.ro[b]! i)):=rfl
 have hs2:(apF c.ha c.ro[a]! c.ro[b]! (i+1)).2=(apF c.ha c.ro[a]! c.ro[b]! i).2+dfN c.ro[a]! c.ro[b]! i*hrdF c.ha[i]! (grT c.ha[i]! (dfN c.ro[a]! c.ro[b]! i)):=rfl
 generalize dfN c.ro[a]! c.ro[b]! i=N at *
 generalize hL:lsT c.ha[i]! N=L at *
 generalize hG:grT c.ha[i]! N=G at *
 generalize hrdF c.ha[i]! L=x1 at *
 generalize hrdF c.ha[i]! G=x2 at *
 have w1:IntKind.i64.wrap (N*x1)=N*x1:=ZC (by omega)
 have w2:IntKind.i64.wrap (N*x2)=N*x2:=ZC (by omega)
 have w3:IntKind.i64.wrap ((apF c.ha c.ro[a]! c.ro[b]! i).1+N*x1)=(apF c.ha c.ro[a]! c.ro[b]! (i+1)).1:=by rw[hs1];exact ZC (by omega)
 have w4:IntKind.i64.wrap ((apF c.ha c.ro[a]! c.ro[b]! i).2+N*x2)=(apF c.ha c.ro[a]! c.ro[b]! (i+1)).2:=by rw[hs2];exact ZC (by omega)
 simp only[evA,simprocAttr,QW,QM,WW,X9,VW,EZ,Qau,CH,get_nz,get_ns]
 refine DW_s [7] [] hmix (by kernel_rfl) rfl ?_
 simp only[evA,simprocAttr,QW,QM,WW,X9,VW,EZ,Qau,CH,get_nz,get_ns]
 refine YE (c1.call frz ⟨rfl,rfl⟩) rfl ?_
 simp only[w1,w3,evA,simprocAttr,QW,QM,WW,X9,VW,EZ,Qau,CH,get_nz,get_ns]
 refine DW_s [7] [] hmix (by kernel_rfl) rfl ?_
 simp only[evA,simprocAttr,QW,QM,WW,X9,VW,EZ,Qau,CH,get_nz,get_ns]
 refine YE (c2.call frz ⟨rfl,rfl⟩) rfl ?_
 simp only[w2,w4,evA,simprocAttr,QW,QM,WW,X9,VW,EZ,Qau,CH,get_nz,get_ns]
 clear m1 m2 hs1 hs2 w1 w2 w3 w4 hn hwn hls hgr hlo hhi c1 c2 hL hG hap hap0
 generalize (apF c.ha c.ro[a]! c.ro[b]! (i+1)).1=y1
 generalize (apF c.ha c.ro[a]! c.ro[b]! (i+1)).2=y2
 generalize hhb:AObj.cells [AV.i c.ha[i]!.ba,AV.i c.ha[i]!.pe,AV.i c.ha[i]!.lo,AV.i c.ha[i]!.hi]=hb
 have keepX:∀ (x:Nat) (E:List Nat),x<(AObj.cells [AV.i (apF c.ha c.ro[a]! c.ro[b]! i).1,AV.i (apF c.ha c.ro[a]! c.ro[b]! i).2,lv,gv]::T).length→x∉0::E→(AObj.cells [AV.i y1,AV.i y2,lv,gv]::(T++[hb]))[x]? = (AObj.cells [AV.i (apF c.ha c.ro[a]! c.ro[b]! i).1,AV.i (apF c.ha c.ro[a]! c.ro[b]! i).2,lv,gv]::T)[x]? := by
  intro x E hx hn
  cases x with
  | zero=>simp at hn
  | succ x=>simp only[List.getElem?_cons_succ];exact QE (by simpa using hx)
 obtain ⟨lv',gv',T2₀,T3₀,f1,f2,n1,n2,hacc⟩:=two_append (hlv.keep fun x hx hn=>keepX x _ hx hn) (hgv.keep fun x hx hn=>keepX x _ hx hn) (by omega) L G
 have shl:=hlv.shape
 have shg:=hgv.shape
 simp only[QM,List.length_cons,List.length_nil,QW,List.cons_append,List.nil_append,ZV] at f1 f2 n1
 have hX:=hacc (AObj.cells [AV.i y1,AV.i y2,lv',gv'])
 have hsc2:∀ x∈(cl++[CV.int .i64 L])++(cg++[CV.int .i64 G]),scl x:=by
  intro x hx
  rcases YV.1 hx with hx | hx <;> rcases YV.1 hx with hx | hx
  ·exact hsc x (J3 _ hx)
  ·rw[WZ] at hx;subst hx;trivial
  ·exact hsc x (List.mem_append_right _ hx)
  ·rw[WZ] at hx;subst hx;trivial
 obtain ⟨u1,s1,c1⟩:=hX.1.nu
 obtain ⟨u2,s2,c2⟩:=hX.2.nu
 have hws:=Q6 (show i+1<2 ^ 63 by omega)
 clear hlv hgv keepX hacc
 have q1:∀ k,k<T2₀.length→(T2₀++[AObj.cells [AV.i G]])[k]? = T2₀[k]? := fun k hk=>QE hk
 have q2:=q1 (T.length+1) (by omega)
 have q3:=q1 (T.length+2) (by omega)
 have q4:(T++[hb,AObj.cells [AV.i L]])[T2₀.length]? = none:=QN (by simp;omega)
 have q5:(T++[hb])[T2₀.length]? = none:=QN (by simp;omega)
 rcases shl with rfl | ⟨p,rfl,hp⟩ <;> rcases shg with rfl | ⟨p',rfl,hp'⟩
 ·refine DW_s [] [(1,3),(1,8),(3,8),(4,8),(6,3),(6,4),(6,8),(8,3),(8,4)] hmix (by kernel_rfl) rfl ?_
  simp only[f1,f2,u1,s1,c1,u2,s2,c2,hws,q2,q3,q4,q5,evA,simprocAttr,QW,QM,WW,X9,VW,EZ,Qau,CH,get_nz,get_ns]
  exact ZL (by first | trivial | omega) ⟨_,_,_,_,_,_,_,_,_,_,_,_,_,_,_,hsc2,hX.1,hX.2,by omega,rfl⟩
 ·refine DW_s [] [(1,3),(1,8),(3,8),(4,8),(6,3),(6,4),(6,8),(8,3),(8,4)] hmix (by kernel_rfl) rfl ?_
  simp only[f1,f2,u1,s1,c1,u2,s2,c2,hws,q2,q3,q4,q5,evA,simprocAttr,QW,QM,WW,X9,VW,EZ,Qau,CH,get_nz,get_ns]
  exact ZL (by first | trivial | omega) ⟨_,_,_,_,_,_,_,_,_,_,_,_,_,_,_,hsc2,hX.1,hX.2,by omega,rfl⟩
 ·have qp:∀ X:AObj,(X::(T2₀++[AObj.cells [AV.i G]]))[p]? = (X::T2₀)[p]? := fun X=>by
   rw[← List.cons_append];exact QE (by simp at hp ⊢;omega)
  refine DW_s [] [(1,3),(1,8),(3,8),(4,8),(6,3),(6,4),(6,8),(8,3),(8,4)] hmix (by kernel_rfl) rfl ?_
  simp only[f1,f2,u1,s1,c1,u2,s2,c2,hws,q2,q3,q4,q5,qp,evA,simprocAttr,QW,QM,WW,X9,VW,EZ,Qau,CH,get_nz,get_ns]
  exact ZL (by first | trivial | omega) ⟨_,_,_,_,_,_,_,_,_,_,_,_,_,_,_,hsc2,hX.1,hX.2,by omega,rfl⟩
 ·have qp:∀ X:AObj,(X::(T2₀++[AObj.cells [AV.i G]]))[p]? = (X::T2₀)[p]? := fun X=>by
   rw[← List.cons_append];exact QE (by simp at hp ⊢;omega)
  refine DW_s [] [(1,3),(1,8),(3,8),(4,8),(6,3),(6,4),(6,8),(8,3),(8,4)] hmix (by kernel_rfl) rfl ?_
  simp only[f1,f2,u1,s1,c1,u2,s2,c2,hws,q2,q3,q4,q5,qp,evA,simprocAttr,QW,QM,WW,X9,VW,EZ,Qau,CH,get_nz,get_ns]
  exact ZL (by first | trivial | omega) ⟨_,_,_,_,_,_,_,_,_,_,_,_,_,_,_,hsc2,hX.1,hX.2,by omega,rfl⟩
def moF (ha:List Hrd) (a b:List Stp):Int:=max (-(apF ha a b ha.length).1) (apF ha a b ha.length).2
theorem k39 (c:Crs) (hc:CSz c) (hk:CrsOk c) (a b:Nat) (ha:a<c.ro.length) (hb:b<c.ro.length) :
  PC Tryz.prog 39 [.cv (opnP c),.i a,.i b] (.i (moF c.ha c.ro[a]! c.ro[b]!)):=by
 refine ⟨ZF (fok39 true) (QC rfl) ?_,rfl⟩
 have hap:=apF_bd hk.hrd (rtE_ok (hk.rt a ha)).1.2 (rtE_ok (hk.rt b hb)).1.2 c.ha.length (QG _)
 have h40:=hk.h40
 have c47:=fun σ=>AC.pureN (R:=fun r=>∃ u v:CV,r=.agg [.i (apF c.ha c.ro[a]! c.ro[b]! c.ha.length).1,.i (apF c.ha c.ro[a]! c.ro[b]! c.ha.length).2,.cv u,.cv v]) (σ:=σ) (k47 c hc hk a b ha hb) (fun r τ ⟨u,v,hf⟩=>⟨_,hf,u,v,rfl⟩) (KW (k:=0) _ rfl)
 unfold moF
 generalize apF c.ha c.ro[a]! c.ro[b]! c.ha.length=x at hap c47
 have hw:IntKind.i64.wrap (0-x.1) = -x.1:=by rw[ZC (by omega)];omega
 have hmx:(if x.2 > -x.1 then x.2 else -x.1)=max (-x.1) x.2:=by rw[Int.max_def];split <;> split <;> omega
 simp only[ic39,evA,simprocAttr]
 refine (c47 _).mono ?_
 rintro r τ ⟨⟨u,v,rfl⟩,rfl⟩
 simp only[hw,hmx,evA,simprocAttr]
 exact frz
def gI (zs:List Int) (i:Nat):Int:=zs[i]?.getD 0
theorem PR {n:Int} (h:-9223372036854775808≤n∧n≤9223372036854775807):(Lit.int .i64 n).wf=true:=by
 simp only[Lit.wf,QD,decide_eq_true_eq,IntKind.min,IntKind.max,IntKind.bits,IntKind.signed]
 simp;omega
theorem LF:∀ {n:Nat} {xs:List Int},xs.length=n→(∀ i,i<n→-9223372036854775808≤gI xs i∧gI xs i≤9223372036854775807)→Y4 (List.replicate n (.int .i64)) (xs.map AV.i)=true
 | 0,[],_,_=>rfl
 | n+1,x::xs,hl,h=>by
  have h0:=h 0 (by omega)
  have hx:gI (x::xs) 0=x:=rfl
  rw[hx] at h0
  show (kkOk (.int .i64) (.i x)&&Y4 (List.replicate n (.int .i64)) (xs.map AV.i))=true
  rw[LF (n:=n) (xs:=xs) (by simpa using hl) fun i hi=>by have:=h (i+1) (by omega);simpa[gI] using this]
  simp[kkOk,PR h0]
theorem cellsEq_iP:∀ (xs ys:List Int),VZ (xs.map AV.i) (ys.map AV.i)=decide (xs=ys)
 | [],[]=>rfl
 | [],_::_=>rfl
 | _::_,[]=>rfl
 | x::xs,y::ys=>by
  show (decide (x=y)&&VZ (xs.map AV.i) (ys.map AV.i))=_
  rw[cellsEq_iP xs ys,Q8]
  simp
theorem eqk_n {n:Nat} {a b:List Int} (ha:a.length=n) (hb:b.length=n) (wa:∀ i,i<n→-9223372036854775808≤gI a i∧gI a i≤9223372036854775807) (wb:∀ i,i<n→-9223372036854775808≤gI b i∧gI b i≤9223372036854775807) :
  JW (true,List.replicate n (.int .i64)) (.agg (a.map AV.i)) (.agg (b.map AV.i))=some (decide (a=b)):=by
 simp only[JW,JK]
 rw[LF ha wa,LF hb wb,cellsEq_iP]
 rfl
theorem drv_ldN {l:List (List Stp)} {a:Nat} (ha:a<l.length) (σ:List AObj):YF 40 [.cv (.rp (drvsC l) (a*40))] σ=some (.agg ((drvL l[a]!).map .i),σ):=by
 have h1:a*40+40≤(drvsC l).length:=by rw[drvsC_len];omega
 have h2:=G3 drvC_len ha
 simp only[YF,h1,if_true]
 unfold drvsC;rw[h2,XW];rfl
theorem ixA_i {zs:List Int} {n k:Nat} (hn:zs.length=n) (h:k<n) (σ:List AObj):A7 n 1 1 false [.agg (zs.map .i),.cv (.int .i64 k)] σ=some (.i (zs[k]?.getD 0),σ):=by
 have h1:0≤(k:Int)∧(k:Int)<(n:Int):=by omega
 simp only[A7]
 rw[if_pos h1,Int.toNat_natCast,W3,V1 (by omega)]
 rfl
def difP (a b:List Stp) (i:Nat):Bool:=decide (cntS a i>0) != decide (cntS b i>0)
def difF (a b:List Stp) (n:Nat):List Int:=((List.range n).filter (difP a b)).map fun i:Nat=>(i:Int)
theorem difF_succ (a b:List Stp) (i:Nat):difF a b (i+1)=if difP a b i then difF a b i++[(i:Int)] else difF a b i:=by
 unfold difF
 rw[WM,List.filter_append]
 cases h:difP a b i <;> simp[h]
theorem difF_len (a b:List Stp) (n:Nat):(difF a b n).length≤n:=by
 unfold difF
 rw[ZK]
 exact YR (HC _ _) (by simp)
theorem difF_same {a b:List Stp} (h:drvL a=drvL b):difF a b 40=[]:=by
 unfold difF
 rw[List.map_eq_nil_iff,List.filter_eq_nil_iff]
 intro i hi
 have hi:i<40:=ZI.1 hi
 have:(drvL a)[i]?.getD 0=(drvL b)[i]?.getD 0:=by rw[h]
 rw[drvL_get hi,drvL_get hi] at this
 unfold difP
 rw[this];simp
abbrev K40:Bool × List KK:=(true,[.int .i64,.int .i64,.int .i64,.int .i64,.int .i64,.int .i64,.int .i64,.int .i64,.int .i64,.int .i64,.int .i64,.int .i64,.int .i64,.int .i64,.int .i64,.int .i64,.int .i64,.int .i64,.int .i64,.int .i64,.int .i64,.int .i64,.int .i64,.int .i64,.int .i64,.int .i64,.int .i64,.int .i64,.int .i64,.int .i64,.int .i64,.int .i64,.int .i64,.int .i64,.int .i64,.int .i64,.int .i64,.int .i64,.int .i64,.int .i64])
theorem eq40 {a b:List Stp} (ha:a.length≤60) (hb:b.length≤60):JW K40 (.agg ((drvL a).map AV.i)) (.agg ((drvL b).map AV.i))=some (decide (drvL a=drvL b)) :=
 eqk_n (n:=40) (drvL_len a) (drvL_len b) (fun i hi=>by have:=cntS_le a i;unfold gI;rw[drvL_get hi];omega) (fun i hi=>by have:=cntS_le b i;unfold gI;rw[drvL_get hi];omega)
set_option maxHeartbeats 1000000 in
theorem k38 (c:Crs) (hc:CSz c) (hk:CrsOk c) (a b:Nat) (ha:a<c.ro.length) (hb:b<c.ro.length) :
  PC Tryz.prog 38 [.cv (opnP c),.i a,.i b] (ints (difF c.ro[a]! c.ro[b]! 40)):=by
 refine ⟨ZF (fok38 true) (QC rfl) ?_,rfl⟩
 have hra:=(rtE_ok (hk.rt a ha)).1
 have hrb:=(rtE_ok (hk.rt b hb)).1
 have he:=eq40 hra.2 hrb.2
 simp only[ic38,evA,simprocAttr]
 refine DW_s [] [] hmix (by kernel_rfl) rfl ?_
 simp only[ia_drv ha,ia_drv hb,drv_ldN ha,drv_ldN hb,he,evA,simprocAttr]
 by_cases hs:drvL c.ro[a]! = drvL c.ro[b]!
 ·rw[difF_same hs]
  simp only[hs,decide_true,evA,simprocAttr]
  exact frz
 have hne:decide (drvL c.ro[a]! = drvL c.ro[b]!)=false:=decide_eq_false hs
 simp only[hne,ia_drv ha,drv_ldN ha,evA,simprocAttr]
 refine ZW 40 (fun i s=>∃ l v4 v5 v9 v10 H,SB H l (difF c.ro[a]! c.ro[b]! i)∧s=⟨[.cv (opnP c),.i a,.i b,l,v4,v5,.b false,.agg ((drvL c.ro[a]!).map .i),.i i,v9,v10],H⟩) ?_ 0 (QF _) ⟨.cv .nils,_,_,_,_,[],SB.nil _,rfl⟩
 rintro i s hi ⟨l,v4,v5,v9,v10,H,hacc,rfl⟩
 by_cases h:(i:Int)<40
 rotate_left
 ·have:i=40:=by omega
  subst this
  simp only[ic38l0,h,evA,simprocAttr]
  exact acc_frz (fun _=>trivial) hacc
 have h40:i<40:=by omega
 have hix:=ixA_i (drvL_len c.ro[a]!) h40
 rw[drvL_get h40] at hix
 have hdp:(!(decide (cntS c.ro[a]! i>0) == decide (cntS c.ro[b]! i>0)))=difP c.ro[a]! c.ro[b]! i:=rfl
 have hS:=difF_succ c.ro[a]! c.ro[b]! i
 have hlen:=difF_len c.ro[a]! c.ro[b]! i
 have hws:=Q6 (show i+1<2 ^ 63 by omega)
 simp only[ic38l0,h,hix,ia_drv hb,ia_arp h40,drv_ld hb h40,hdp,evA,simprocAttr]
 cases hd:difP c.ro[a]! c.ro[b]! i
 ·rw[hd] at hS
  simp only[hws,evA,simprocAttr]
  exact ZL (by first | trivial | omega) ⟨_,_,_,_,_,H,by rw[hS];exact hacc,rfl⟩
 ·rw[hd] at hS
  obtain ⟨l',H',happ,hacc'⟩:=QdK (i:Int) hacc (by omega)
  simp only[happ,hws,evA,simprocAttr]
  exact ZL (by first | trivial | omega) ⟨_,_,_,_,_,H',by rw[hS];exact hacc',rfl⟩
abbrev CM₀:=List (Sd × Sd)
abbrev K2:Bool × List KK:=(true,[.int .i64,.int .i64])
def memC (M:CM₀):List (AV × AV):=M.map fun e=>(sdA e.1,sdA e.2)
def fndC (M:CM₀) (k:Sd):Nat→Option (Nat × Sd):=match M with
 | []=>fun _=>none
 | e::M=>fun i=>if k=e.1 then some (i,e.2) else fndC M k (i+1)
def getC (M:CM₀) (k:Sd):Option Sd:=(fndC M k 0).map (·.2)
def putC (M:CM₀) (k v:Sd):CM₀:=match fndC M k 0 with | some (i,_)=>M.set i (k,v) | none=>M++[(k,v)]
theorem fndC_shift (k:Sd):∀ (M:CM₀) (i:Nat),fndC M k (i+1)=(fndC M k i).map fun r=>(r.1+1,r.2)
 | [],_=>rfl
 | e::M,i=>by
  simp only[fndC]
  split
  ·rfl
  ·exact fndC_shift k M (i+1)
theorem fndC_from (k:Sd):∀ (M:CM₀) (i:Nat),fndC M k i=(fndC M k 0).map fun r=>(r.1+i,r.2)
 | M,0=>by cases h:fndC M k 0 <;> simp
 | M,i+1=>by
  rw[fndC_shift,fndC_from k M i]
  cases h:fndC M k 0 <;> simp
  omega
theorem getC_cons (e:Sd × Sd) (M:CM₀) (k:Sd):getC (e::M) k=if k=e.1 then some e.2 else getC M k:=by
 unfold getC
 simp only[fndC]
 split
 ·rfl
 ·rw[fndC_from];cases fndC M k 0 <;> rfl
theorem putC_cons (e:Sd × Sd) (M:CM₀) (k v:Sd):putC (e::M) k v=if k=e.1 then (k,v)::M else e::putC M k v:=by
 unfold putC
 simp only[fndC]
 by_cases h:k=e.1
 ·rw[if_pos h,if_pos h];rfl
 ·rw[if_neg h,if_neg h,fndC_from]
  cases h2:fndC M k 0 with
  | none=>rfl
  | some r=>rfl
theorem getC_put (k v k':Sd):∀ M:CM₀,getC (putC M k v) k'=if k'=k then some v else getC M k'
 | []=>by
  show getC [(k,v)] k'=_
  rw[getC_cons]
 | e::M=>by
  rw[putC_cons]
  split
  ·rename_i h
   rw[getC_cons,getC_cons]
   by_cases h2:k'=k
   ·simp[h2]
   ·rw[if_neg h2,if_neg h2,if_neg (by rw[← h];exact h2)]
  ·rename_i h
   rw[getC_cons,getC_cons,getC_put k v k' M]
   by_cases h2:k'=e.1
   ·rw[if_pos h2,if_pos h2,if_neg (by rw[h2];exact fun h3=>h h3.symm)]
   ·rw[if_neg h2,if_neg h2]
def KeysOk (M:CM₀):Prop:=∀ e∈M,KeyC e.1
theorem KeysOk.put {M:CM₀} (h:KeysOk M) {k:Sd} (hk:KeyC k) (v:Sd):KeysOk (putC M k v):=by
 induction M with
 | nil=>intro e he;simp[putC,fndC] at he;rw[he];exact hk
 | cons e M ih =>
  rw[putC_cons]
  split
  ·intro x hx
   rcases ZD.1 hx with rfl | hx
   ·exact hk
   ·exact h x (by simp[hx])
  ·intro x hx
   rcases ZD.1 hx with rfl | hx
   ·exact h _ (by simp)
   ·exact ih (fun e he=>h e (by simp[he])) x hx
theorem sdA_is {k:Sd} (h:KeyC k):F4 K2 (sdA k)=true:=LF (n:=2) (xs:=[k.1,k.2]) rfl fun i hi=>by
 obtain ⟨h1,h2⟩:=h
 match i,hi with
 | 0,_=>show -9223372036854775808≤k.1∧k.1≤9223372036854775807;omega
 | 1,_=>show -9223372036854775808≤k.2∧k.2≤9223372036854775807;omega
def SdB (k:Sd):Prop:=(-9223372036854775808≤k.1∧k.1≤9223372036854775807)∧-9223372036854775808≤k.2∧k.2≤9223372036854775807
theorem sdA_eqB {a b:Sd} (ha:SdB a) (hb:SdB b):JW K2 (sdA a) (sdA b)=some (decide (a=b)):=by
 have h:=eqk_n (n:=2) (a:=[a.1,a.2]) (b:=[b.1,b.2]) rfl rfl (fun i hi=>by
  match i,hi with
  | 0,_=>exact ha.1
  | 1,_=>exact ha.2) (fun i hi=>by
  match i,hi with
  | 0,_=>exact hb.1
  | 1,_=>exact hb.2)
 have e:decide ([a.1,a.2]=[b.1,b.2])=decide (a=b):=by
  rw[decide_eq_decide]
  obtain ⟨a1,a2⟩:=a;obtain ⟨b1,b2⟩:=b
  simp
 rw[← e];exact h
theorem KeyC.b {k:Sd} (h:KeyC k):SdB k:=by obtain ⟨h1,h2⟩:=h;exact ⟨by omega,by omega⟩
theorem findC {k:Sd} (hk:KeyC k):∀ (M:CM₀) (i:Nat),KeysOk M→findKey K2 (sdA k) (memC M) i=some ((fndC M k i).map fun r=>(r.1,sdA r.2))
 | [],_,_=>rfl
 | e::M,i,h=>by
  have hq:=sdA_eqB hk.b (h e (by simp)).b
  obtain ⟨e1,e2⟩:=e
  simp only[memC,Q0,findKey,fndC]
  simp only at hq
  rw[hq]
  by_cases he:k=e1
  ·rw[decide_eq_true he,if_pos he];rfl
  ·rw[decide_eq_false he,if_neg he]
   exact findC hk M (i+1) fun t ht=>h t (by simp[ht])
theorem lookC {k:Sd} (hk:KeyC k) {M:CM₀} (h:KeysOk M) {σ:List AObj} {l:Nat} (hm:mapOf σ l=some (memC M)) :
  KL K2 (.agg [.cv (.int .i64 0),.cv (.int .i64 0)]) false [.map l,sdA k] σ=some (sdA ((getC M k).getD (0,0)),σ):=by
 simp only[KL,hm,Option.bind_some,sdA_is hk,findC hk M 0 h,getC]
 cases fndC M k 0 <;> rfl
theorem lookC2 {k:Sd} (hk:KeyC k) {M:CM₀} (h:KeysOk M) {σ:List AObj} {l:Nat} (hm:mapOf σ l=some (memC M)) :
  KL K2 (.agg [.cv (.int .i64 0),.cv (.int .i64 0)]) true [.map l,sdA k] σ=some (.tup [sdA ((getC M k).getD (0,0)),.b (getC M k).isSome],σ):=by
 simp only[KL,hm,Option.bind_some,sdA_is hk,findC hk M 0 h,getC]
 cases fndC M k 0 <;> rfl
theorem setC {k:Sd} (hk:KeyC k) {M:CM₀} (h:KeysOk M) (v:Sd) {σ:List AObj} {l:Nat} (hm:mapOf σ l=some (memC M)) :
  JZ K2 [.map l,sdA k,sdA v] σ=some (.undef,σ.set l (.map (memC (putC M k v)))):=by
 simp only[JZ,hm,Option.bind_some,sdA_is hk,findC hk M 0 h,putC]
 cases fndC M k 0 with
 | none=>simp[XU,memC]
 | some r=>simp[XU,memC,List.map_set]
theorem mapOf_low {σ:List AObj} {l:Nat} {es:List (AV × AV)} (h:mapOf σ l=some es) (J:List AObj):mapOf (σ++J) l=some es:=by
 unfold mapOf at h ⊢
 split at h
 ·rename_i e he
  rw[QE (QH.1 he).1,he];exact h
 ·cases h
theorem mapOf_get {σ:List AObj} {l:Nat} {es:List (AV × AV)} (h:mapOf σ l=some es):σ[l]? = some (.map es):=by
 unfold mapOf at h
 split at h
 ·rename_i e he;cases h;exact he
 ·cases h
abbrev sdR (l:List Sd):CV:=.rsl (l.flatMap sdC) l.length
section
variable {l:List Sd} {k:Nat}
theorem sd_ldc (h:k<l.length) (σ:List AObj):YF 2 [.cv (.rp (l.flatMap sdC) (k*2))] σ=some (sdA l[k]!,σ):=by
 have h1:k*2+2≤(l.flatMap sdC).length:=by rw[UG sdC_len];omega
 have h2:=G3 sdC_len h
 simp only[YF,h1,if_true]
 rw[h2];rfl
theorem ia_sd (h:k<l.length) (σ:List AObj):VP 2 [.cv (sdR l),.cv (.int .i64 k)] σ=some (.cv (.rp (l.flatMap sdC) (k*2)),σ):=XP h σ
end
def idxS (l:List Sd) (x:Sd):Int:=idxN (fun i=>decide (x=l[i]!)) l.length
theorem f78 (l:List Sd) (x:Sd) (hl:l.length<2 ^ 62) (hx:KeyC x) (hk:∀ y∈l,KeyC y):PC Tryz.prog 78 [.cv (sdR l),sdA x] (.i (idxS l x)):=by
 refine ⟨ZF (fok78 true) (QC rfl) ?_,rfl⟩
 simp only[ic78,evA,simprocAttr]
 have hob:∀ o∈[AObj.cells [.i x.1,.i x.2]],Z3 1 o=true:=by intro o ho;simp only[WZ] at ho;subst ho;rfl
 refine ZW l.length (fun i s=>(∀ j,j<i→decide (x=l[j]!)=false)∧∃ v3 v4 v7 v8,s=⟨[.cv (sdR l),sdA x,.ptr 0 0,v3,v4,.i l.length,.i i,v7,v8],[.cells [.i x.1,.i x.2]]⟩) ?_ 0 (QF _) ⟨by omega,_,_,_,_,rfl⟩
 rintro i s hi ⟨hall,v3,v4,v7,v8,rfl⟩
 by_cases h:i<l.length
 ·have hy:l[i]!∈l:=by rw[getElem!_pos l i h];exact Q2 h
  have he:=sdA_eqB hx.b (hk _ hy).b
  simp only[ic78l0,QJ,h,evA,simprocAttr]
  refine DW_s [] [] hmix (by kernel_rfl) rfl ?_
  simp only[ia_sd h,sd_ldc h,he,evA,simprocAttr]
  cases hd:decide (x=l[i]!)
  ·simp only[Q6 (show i+1<2 ^ 63 by omega),evA,simprocAttr]
   refine ZL (by first | trivial | omega) ⟨fun j hj=>?_,_,_,_,_,rfl⟩
   rcases QQ.1 hj with hj | rfl
   ·exact hall j hj
   ·exact hd
  ·have e:idxS l x=i:=EK (p:=fun i=>decide (x=l[i]!)) h hall hd
   rw[e]
   simp only[evA,simprocAttr]
   exact frz
 ·have e:idxS l x = -1:=EL (p:=fun i=>decide (x=l[i]!)) fun j hj=>hall j (by omega)
  rw[e]
  simp only[ic78l0,QJ,h,evA,simprocAttr]
  exact frz
theorem idxS_mem (l:List Sd) (x:Sd):decide (idxS l x≥0)=decide (x∈l):=by
 unfold idxS
 rw[OA,Q8]
 simp only[anyN,ZZ,ZI,decide_eq_true_eq]
 constructor
 ·rintro ⟨i,hi,h⟩
  rw[getElem!_pos l i hi] at h
  rw[h];exact Q2 hi
 ·intro h
  obtain ⟨i,hi,e⟩:=WN.1 h
  exact ⟨i,hi,by rw[getElem!_pos l i hi];exact e.symm⟩
theorem f54 (l:List Sd) (x:Sd) (hl:l.length<2 ^ 62) (hx:KeyC x) (hk:∀ y∈l,KeyC y):PC Tryz.prog 54 [.cv (sdR l),sdA x] (.b (decide (x∈l))):=by
 refine ⟨ZF (fok54 true) (QC rfl) ?_,rfl⟩
 simp only[ic54,evA,simprocAttr]
 refine (f78 l x hl hx hk).call frz ?_
 simp only[idxS_mem,evA,simprocAttr]
 exact frz
structure Tsk where
 fr:Int
 to:Int
 sh:Int
 ti:Int
 cl:List Int
abbrev tskA (k:Tsk):AV:=.agg [.i k.fr,.i k.to,.i k.sh,.i k.ti,ints k.cl]
abbrev jobX (t:Twn) (k:Tsk) (iv mv:AV):List AV:=[.cv (strR t.pl),.cv (strR t.sh),.cv (strR t.tm),.cv (sttR t.st),.i k.fr,.i k.to,.i k.sh,.i k.ti,ints k.cl,iv,mv]
def shwF (t:Twn) (ti:Int) (x:Stp):Int:=(t.st[x.1.toNat]!).sh[ti.toNat]?.getD 0
theorem f27 (t:Twn) (k:Tsk) (x:Stp) (hx:0≤x.1∧x.1<t.st.length) (hti:0≤k.ti∧k.ti<(t.st[x.1.toNat]!).sh.length) {iv mv:AV} {σ:List AObj} {jp:Nat} (hj:rowOf σ jp=some (jobX t k iv mv)) :
  AC Tryz.prog 27 [.ptr jp 0,stpA x] σ fun r τ=>r=.i (shwF t k.ti x)∧τ=σ:=by
 refine AC.cutF ?_ rfl
 refine ZF (fok27 true) (QC rfl) ?_
 obtain ⟨s,hs⟩:∃ s:Nat,x.1=(s:Int):=⟨x.1.toNat,by omega⟩
 obtain ⟨q,hq⟩:∃ q:Nat,k.ti=(q:Int):=⟨k.ti.toNat,by omega⟩
 have hsl:s<t.st.length:=by omega
 have hsn:x.1.toNat=s:=by omega
 rw[hsn] at hti
 have hql:q<(t.st[s]!).sh.length:=by omega
 have e:shwF t k.ti x=(t.st[s]!).sh[q]?.getD 0:=by unfold shwF;rw[hsn,hq];rfl
 have hj':=fun J=>ZH hj J
 rw[e]
 simp only[ic27,evA,simprocAttr,QW,QM,WW,X9,VW,EZ,Qau,CH,get_nz,get_ns]
 refine DW_s [] [] hmix (by kernel_rfl) rfl ?_
 simp only[hj',hs,ia_stt hsl,stt_6 hsl,hq,hql,evA,simprocAttr,QW,QM,WW,X9,VW,EZ,Qau,CH,get_nz,get_ns]
 exact ⟨_,rfl⟩
def cmpC (M:CM₀) (a b:Sd):Int :=
 let x:=(getC M a).getD (0,0);let y:=(getC M b).getD (0,0)
 if cmpN x.1 y.1≠0 then cmpN x.1 y.1 else cmpN x.2 y.2
set_option maxHeartbeats 1000000 in
theorem f53 (t:Twn) (k:Tsk) {iv:AV} {M:CM₀} {σ:List AObj} {jp pm:Nat} (hj:rowOf σ jp=some (jobX t k iv (.map pm))) (hm:mapOf σ pm=some (memC M)) (hM:KeysOk M) (a b:Sd) (ha:KeyC a) (hb:KeyC b) :
  AC Tryz.prog 53 [.ptr jp 0,sdA a,sdA b] σ fun r τ=>r=.i (cmpC M a b)∧τ=σ:=by
 refine AC.cutF ?_ rfl
 refine ZF (fok53 true) (QC rfl) ?_
 have hj':=fun J=>ZH hj J
 have la:=fun J=>lookC ha hM (mapOf_low hm J)
 have lb:=fun J=>lookC hb hM (mapOf_low hm J)
 have hjl:jp<σ.length:=(QH.1 (WO hj)).1
 have hml:pm<σ.length:=(QH.1 (mapOf_get hm)).1
 have gj:=fun J:List AObj=>QE (l₂:=J) hjl
 have gm:=fun J:List AObj=>QE (l₂:=J) hml
 unfold cmpC
 generalize (getC M a).getD (0,0)=x at la ⊢
 generalize (getC M b).getD (0,0)=y at lb ⊢
 simp only[ic53,evA,simprocAttr,QW,QM,WW,X9,VW,EZ,Qau,CH,get_nz,get_ns]
 refine DW_s [] [(3,12),(3,13),(4,12),(4,13),(5,12),(5,13),(9,12),(9,13),(9,14),(10,12),(10,13),(10,14),(11,12),(11,13),(11,14),(12,13),(13,12)] hmix (by kernel_rfl) rfl ?_
 simp only[hj',la,lb,gj,gm,true_and,and_true,evA,simprocAttr,QW,QM,WW,X9,VW,EZ,Qau,CH,get_nz,get_ns]
 refine DW_s [4,9,11] [] hmix (by kernel_rfl) rfl ?_
 simp only[evA,simprocAttr,QW,QM,WW,X9,VW,EZ,Qau,CH,get_nz,get_ns]
 refine YE ((o98 x.1 y.1).call frz ⟨rfl,rfl⟩) rfl ?_
 simp only[evA,simprocAttr,QW,QM,WW,X9,VW,EZ,Qau,CH,get_nz,get_ns]
 refine YE ((o98 x.2 y.2).call frz ⟨rfl,rfl⟩) rfl ?_
 simp only[evA,simprocAttr,QW,QM,WW,X9,VW,EZ,Qau,CH,get_nz,get_ns]
 refine YE ((o97 (cmpN x.1 y.1) (cmpN x.2 y.2)).call (.cons (U4 (zs:=[cmpN x.1 y.1,cmpN x.2 y.2]) (fun _=>trivial) rfl (by first | rfl | (rw[X9];rfl) | (simp[rowOf];done))) .nil) ⟨rfl,rfl⟩) rfl ?_
 simp only[evA,simprocAttr,QW,QM,WW,X9,VW,EZ,Qau,CH,get_nz,get_ns]
 exact ⟨_,rfl⟩
end Go.Proofs.YtogjcmnopidfpaaGreat.AM

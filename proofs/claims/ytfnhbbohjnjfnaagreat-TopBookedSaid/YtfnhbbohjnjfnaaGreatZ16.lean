/- Parts of the proof, joined: BkC2 to BkC3. -/
import Derived.Test.YtfnhbbohjnjfnaaGreatZ15
set_option linter.unusedVariables false
set_option linter.unusedSimpArgs false
set_option linter.unusedSectionVars false
namespace Go.Proofs.YtfnhbbohjnjfnaaGreat.AM
variable [Dr]
open Go Go.Proofs.YtfnhbbohjnjfnaaGreat.Qu Pl
theorem ACd.mono {P:Program} {g:FuncId} {args:List AV} {u:FrameMode} {σ:List AObj} {Q Q':List AObj→Prop} (h:ACd P g args u σ Q) (hq:∀ τ,Q τ→Q' τ):ACd P g args u σ Q' :=
 ⟨h.1,fun m X w cargs ha hh=>CallsDIn.mono (h.2 m X w cargs ha hh) fun e u' w' ⟨h1,h2,σ',m',h3,h4⟩=>⟨h1,h2,σ',m',hq _ h3,h4⟩⟩
end Go.Proofs.YtfnhbbohjnjfnaaGreat.AM
namespace Go.Proofs.YtfnhbbohjnjfnaaGreat.AM
variable [Dr]
open Go Go.Proofs.YtfnhbbohjnjfnaaGreat.Qu
theorem leaE_name {q:QL₀} {i:Nat} (h:JH (q.ls[i]!).nm=false):leaE q i=6:=by unfold leaE;simp only[h,if_true]
theorem leaE_twice {q:QL₀} {i k:Nat} (h:JH (q.ls[i]!).nm=true) (hk:k<i) (he:(q.ls[k]!).nm=(q.ls[i]!).nm):leaE q i=5:=by
 unfold leaE;simp only[h,Bool.true_eq_false,if_false];rw[if_pos ⟨k,hk,he⟩]
theorem leaE_rest {q:QL₀} {i:Nat} (h:JH (q.ls[i]!).nm=true) (hall:∀ k,k<i→(q.ls[k]!).nm≠(q.ls[i]!).nm) :
  leaE q i=if inB (q.ls[i]!).si 0 40000=false then 7 else if inB (q.ls[i]!).fa 0 20=false then 7 else if inB (q.ls[i]!).ho (-1) ((q.cs.length:Int)-1)=false then 4 else unl q.cs.length [] (q.ls[i]!).wi:=by
 unfold leaE;simp only[h,Bool.true_eq_false,if_false]
 rw[if_neg (fun ⟨k,hk,he⟩=>hall k hk he)]
 cases h1:inB (q.ls[i]!).si 0 40000
 ·have:=inB_not.1 h1
  simp only[if_true]
  rw[if_pos (by omega)]
 have h1:=VB.1 h1
 cases h2:inB (q.ls[i]!).fa 0 20
 ·have:=inB_not.1 h2
  simp only[if_true,Bool.true_eq_false,if_false]
  rw[if_pos (by omega)]
 have h2:=VB.1 h2
 rw[if_neg (by omega)]
 simp only[Bool.true_eq_false,if_false]
 cases h3:inB (q.ls[i]!).ho (-1) ((q.cs.length:Int)-1)
 ·have:=inB_not.1 h3
  simp only[if_true]
  rw[if_pos (by omega)]
 ·have:=VB.1 h3
  simp only[if_true,Bool.true_eq_false,if_false]
  rw[if_neg (by omega)]
theorem firstE_at {f:Nat→Int} {i:Nat} (hf:f i≠0):∀ {n s:Nat},(∀ j,s≤j→j<i→f j=0)→s≤i→i<s+n→firstE f n s=some (i,f i)
 | 0,s,_,h1,h2=>by omega
 | n+1,s,h,h1,h2=>by
  unfold firstE
  by_cases e:s=i
  ·subst e;rw[if_pos hf]
  ·rw[if_neg (by rw[Ne,Classical.not_not];exact h s (QG _) (by omega))]
   exact firstE_at hf (fun j hj hj2=>h j (by omega) hj2) (by omega) (by omega)
theorem firstE_all {f:Nat→Int}:∀ {n s:Nat},(∀ j,s≤j→j<s+n→f j=0)→firstE f n s=none
 | 0,s,_=>rfl
 | n+1,s,h=>by
  unfold firstE
  rw[if_neg (by rw[Ne,Classical.not_not];exact h s (QG _) (by omega))]
  exact firstE_all fun j hj hj2=>h j (by omega) (by omega)
theorem chk_size {q:QL₀} (h:¬ (inB q.cs.length 1 5=true∧¬ (q.ls.length:Int)>8)):checkQ q=(1,0,3):=by
 unfold checkQ
 rw[if_pos]
 rw[VB] at h
 omega
theorem chk_cen {q:QL₀} {i:Nat} (h1:inB q.cs.length 1 5=true) (h2:¬ (q.ls.length:Int)>8) (hi:i<q.cs.length) (hall:∀ j,j<i→cenE q j=0) (h:cenE q i≠0):checkQ q=(2,(i:Int),cenE q i):=by
 unfold checkQ
 rw[VB] at h1
 rw[if_neg (by omega),firstE_at h (fun j _ hj=>hall j hj) (by omega) (by omega)]
theorem chk_lea {q:QL₀} {i:Nat} (h1:inB q.cs.length 1 5=true) (h2:¬ (q.ls.length:Int)>8) (hc:∀ j,j<q.cs.length→cenE q j=0) (hi:i<q.ls.length) (hall:∀ j,j<i→leaE q j=0) (h:leaE q i≠0):checkQ q=(3,(i:Int),leaE q i):=by
 unfold checkQ
 rw[VB] at h1
 rw[if_neg (by omega),firstE_all (fun j _ hj=>hc j (by omega)),firstE_at h (fun j _ hj=>hall j hj) (by omega) (by omega)]
theorem chk_ok {q:QL₀} (h1:inB q.cs.length 1 5=true) (h2:¬ (q.ls.length:Int)>8) (hc:∀ j,j<q.cs.length→cenE q j=0) (hl:∀ j,j<q.ls.length→leaE q j=0):checkQ q=(0,0,0):=by
 unfold checkQ
 rw[VB] at h1
 rw[if_neg (by omega),firstE_all (fun j _ hj=>hc j (by omega)),firstE_all (fun j _ hj=>hl j (by omega))]
def chkV (q:QL₀):AV:=.tup [.i (checkQ q).1,.i (checkQ q).2.1,.i (checkQ q).2.2]
theorem chkV_of {q:QL₀} {a b c:Int} (h:checkQ q=(a,b,c)):chkV q=.tup [.i a,.i b,.i c]:=by unfold chkV;rw[h]
end Go.Proofs.YtfnhbbohjnjfnaaGreat.AM
namespace Go.Proofs.YtfnhbbohjnjfnaaGreat.AM
variable [Dr]
open Go Go.Proofs.YtfnhbbohjnjfnaaGreat.Qu Pl
theorem c91 (c:Cen):PC Tryz.prog 91 [cenA c] (.cv (.str c.nm)):=by
 refine ⟨ZF (fok91 true) (QC rfl) ?_,rfl⟩
 simp only[ic91,evA,simprocAttr]
 exact frz
theorem c94 (x:Lea):PC Tryz.prog 94 [leaA x] (.cv (.str x.nm)):=by
 refine ⟨ZF (fok94 true) (QC rfl) ?_,rfl⟩
 simp only[ic94,evA,simprocAttr]
 exact frz
theorem c111 (c:Cen) (s:ByteArray) {σ:List AObj} {l1 l2:Nat} (h1:rowOf σ l1=some [.fn (.func 91) []]) (h2:rowOf σ l2=some [.cv (.str s)]) :
  AC Tryz.prog 111 [cenA c,.ptr l1 0,.ptr l2 0] σ fun r τ=>r=.b (decide (c.nm=s))∧τ=σ:=by
 refine AC.same (ZF (Q:=fun r τ=>r=.b (decide (c.nm=s))∧∃ o,τ=σ++[o]) (fok111 true) (QC rfl) ?_) ?_
 ·have g1:=FU h1 (.cells [.cv (.str c.nm),.i c.pl,ints c.ru])
  have g2:=FU h2 (.cells [.cv (.str c.nm),.i c.pl,ints c.ru])
  have g3:=XH σ [.cv (.str c.nm),.i c.pl,ints c.ru]
  simp only[ic111,evA,simprocAttr]
  refine DW_s [2] [] hmix (by kernel_rfl) rfl ?_
  simp only[g1,g3,evA,simprocAttr]
  refine YE ((c91 c).call frz ⟨rfl,rfl⟩) rfl ?_
  simp only[g2,binS,str_eq,evA,simprocAttr]
  exact ⟨_,rfl⟩
 ·rintro r τ ⟨rfl,o,rfl⟩
  exact ⟨rfl,rfl,fun l o hl=>by rw[QE (QH.1 hl).1];exact hl⟩
theorem c113 (c:Lea) (s:ByteArray) {σ:List AObj} {l1 l2:Nat} (h1:rowOf σ l1=some [.fn (.func 94) []]) (h2:rowOf σ l2=some [.cv (.str s)]) :
  AC Tryz.prog 113 [leaA c,.ptr l1 0,.ptr l2 0] σ fun r τ=>r=.b (decide (c.nm=s))∧τ=σ:=by
 refine AC.same (ZF (Q:=fun r τ=>r=.b (decide (c.nm=s))∧∃ o,τ=σ++[o]) (fok113 true) (QC rfl) ?_) ?_
 ·have g1:=FU h1 (.cells [.cv (.str c.nm),.i c.si,.i c.ho,.i c.fa,ints c.wi])
  have g2:=FU h2 (.cells [.cv (.str c.nm),.i c.si,.i c.ho,.i c.fa,ints c.wi])
  have g3:=XH σ [.cv (.str c.nm),.i c.si,.i c.ho,.i c.fa,ints c.wi]
  simp only[ic113,evA,simprocAttr]
  refine DW_s [2] [] hmix (by kernel_rfl) rfl ?_
  simp only[g1,g3,evA,simprocAttr]
  refine YE ((c94 c).call frz ⟨rfl,rfl⟩) rfl ?_
  simp only[g2,binS,str_eq,evA,simprocAttr]
  exact ⟨_,rfl⟩
 ·rintro r τ ⟨rfl,o,rfl⟩
  exact ⟨rfl,rfl,fun l o hl=>by rw[QE (QH.1 hl).1];exact hl⟩
theorem c136 (cs:List Cen) (fv:AV) (p:Nat→Bool) (hz:cs.length<2 ^ 63) (σ:List AObj) (hf:∀ i,i<cs.length→X0 Tryz.prog fv [cenA cs[i]!] σ fun r τ=>r=.b (p i)∧τ=σ) :
  AC Tryz.prog 136 [cenL cs,fv] σ fun r τ=>r=.i (idxN p cs.length)∧τ=σ:=by
 refine ZF (fok136 true) (QC rfl) ?_
 simp only[ic136,evA,simprocAttr]
 refine ZW cs.length (fun i s=>(∀ j,j<i→p j=false)∧∃ v3 v6 v7,s=⟨[cenL cs,fv,.i 0,v3,.i cs.length,.i i,v6,v7],σ⟩) ?_ 0 (QF _) ⟨by omega,_,_,_,rfl⟩
 rintro i s hi ⟨hall,v3,v6,v7,rfl⟩
 by_cases h:i<cs.length
 ·simp only[ic136l0,QJ,h,XP h,cen_ld h,evA,simprocAttr]
  refine (hf i h).run ?_
  cases hp:p i
  ·simp only[evA,simprocAttr]
   refine ZL (by first | trivial | omega) ⟨fun j hj=>?_,_,_,_,by rw[ZC (by omega)];rfl⟩
   rcases QQ.1 hj with hj | rfl
   ·exact hall j hj
   ·exact hp
  ·simp only[evA,simprocAttr]
   exact (EK h hall hp).symm
 ·simp only[ic136l0,QJ,h,evA,simprocAttr]
  have:i=cs.length:=by omega
  subst this
  exact (EL hall).symm
theorem c110 (cs:List Cen) (fv:AV) (p:Nat→Bool) (hz:cs.length<2 ^ 63) (σ:List AObj) (hf:∀ i,i<cs.length→X0 Tryz.prog fv [cenA cs[i]!] σ fun r τ=>r=.b (p i)∧τ=σ) :
  AC Tryz.prog 110 [cenL cs,fv] σ fun r τ=>r=.b (anyN p cs.length)∧τ=σ:=by
 refine ZF (fok110 true) (QC rfl) ?_
 simp only[ic110,evA,simprocAttr]
 refine (c136 cs fv p hz _ hf).run ?_
 simp only[evA,simprocAttr,OA]
theorem c137 (cs:List Lea) (fv:AV) (p:Nat→Bool) (hz:cs.length<2 ^ 63) (σ:List AObj) (hf:∀ i,i<cs.length→X0 Tryz.prog fv [leaA cs[i]!] σ fun r τ=>r=.b (p i)∧τ=σ) :
  AC Tryz.prog 137 [leaL cs,fv] σ fun r τ=>r=.i (idxN p cs.length)∧τ=σ:=by
 refine ZF (fok137 true) (QC rfl) ?_
 simp only[ic137,evA,simprocAttr]
 refine ZW cs.length (fun i s=>(∀ j,j<i→p j=false)∧∃ v3 v6 v7,s=⟨[leaL cs,fv,.i 0,v3,.i cs.length,.i i,v6,v7],σ⟩) ?_ 0 (QF _) ⟨by omega,_,_,_,rfl⟩
 rintro i s hi ⟨hall,v3,v6,v7,rfl⟩
 by_cases h:i<cs.length
 ·simp only[ic137l0,QJ,h,XP h,lea_ld h,evA,simprocAttr]
  refine (hf i h).run ?_
  cases hp:p i
  ·simp only[evA,simprocAttr]
   refine ZL (by first | trivial | omega) ⟨fun j hj=>?_,_,_,_,by rw[ZC (by omega)];rfl⟩
   rcases QQ.1 hj with hj | rfl
   ·exact hall j hj
   ·exact hp
  ·simp only[evA,simprocAttr]
   exact (EK h hall hp).symm
 ·simp only[ic137l0,QJ,h,evA,simprocAttr]
  have:i=cs.length:=by omega
  subst this
  exact (EL hall).symm
theorem c112 (cs:List Lea) (fv:AV) (p:Nat→Bool) (hz:cs.length<2 ^ 63) (σ:List AObj) (hf:∀ i,i<cs.length→X0 Tryz.prog fv [leaA cs[i]!] σ fun r τ=>r=.b (p i)∧τ=σ) :
  AC Tryz.prog 112 [leaL cs,fv] σ fun r τ=>r=.b (anyN p cs.length)∧τ=σ:=by
 refine ZF (fok112 true) (QC rfl) ?_
 simp only[ic112,evA,simprocAttr]
 refine (c137 cs fv p hz _ hf).run ?_
 simp only[evA,simprocAttr,OA]
def nmE (nm:Nat→ByteArray) (k:Nat):Int:=if JH (nm k)=false then 6 else if anyN (fun j=>decide (nm j=nm k)) k=true then 5 else 0
theorem c90 (cs:List Cen) (k:Nat) (hk:cs.length=k+1) (hz:cs.length<2 ^ 63) (hs:∀ i,i<cs.length→(cs[i]!).nm.size<2 ^ 63) :
  PC Tryz.prog 90 [cenL cs,.fn (.func 91) []] (.i (nmE (fun i=>(cs[i]!).nm) k)):=by
 refine ⟨ZF (fok90 true) (QC rfl) ?_,rfl⟩
 have hw:IntKind.i64.wrap ((cs.length:Int)-1)=(k:Int):=by rw[ZC (by omega)];omega
 have hkl:k<cs.length:=by omega
 simp only[ic90,hw,evA,simprocAttr]
 refine DW_s [5] [(0,6),(4,6),(5,6)] hmix (by kernel_rfl) rfl ?_
 simp only[XP hkl,cen_ld hkl,evA,simprocAttr]
 refine YE ((c91 _).call frz ⟨rfl,rfl⟩) rfl ?_
 simp only[evA,simprocAttr]
 refine (c100 _ (hs k hkl)).call frz ?_
 unfold nmE
 cases h1:JH (cs[k]!).nm
 ·simp only[evA,simprocAttr]
  exact frz
 have hp:=c110 (cs.take k) (.fn (.func 111) [.ptr 0 0,.ptr 1 0]) (fun j=>decide ((cs[j]!).nm=(cs[k]!).nm)) (by simp;omega) [.cells [.fn (.func 91) []],.cells [.cv (.str (cs[k]!).nm)]] (fun i hi=>by
  have hi':i<k:=by simp at hi;omega
  have e:(cs.take k)[i]! = cs[i]! := by simp[hi']
  rw[e]
  exact c111 (cs[i]!) (cs[k]!).nm rfl rfl)
 rw[show (cs.take k).length=k by simp;omega] at hp
 simp only[cen_sl (show k≤cs.length by omega),evA,simprocAttr]
 refine hp.run ?_
 cases h2:anyN (fun j=>decide ((cs[j]!).nm=(cs[k]!).nm)) k
 ·simp only[evA,simprocAttr]
  exact frz
 ·simp only[evA,simprocAttr]
  exact frz
theorem c93 (cs:List Lea) (k:Nat) (hk:cs.length=k+1) (hz:cs.length<2 ^ 63) (hs:∀ i,i<cs.length→(cs[i]!).nm.size<2 ^ 63) :
  PC Tryz.prog 93 [leaL cs,.fn (.func 94) []] (.i (nmE (fun i=>(cs[i]!).nm) k)):=by
 refine ⟨ZF (fok93 true) (QC rfl) ?_,rfl⟩
 have hw:IntKind.i64.wrap ((cs.length:Int)-1)=(k:Int):=by rw[ZC (by omega)];omega
 have hkl:k<cs.length:=by omega
 simp only[ic93,hw,evA,simprocAttr]
 refine DW_s [5] [(0,6),(4,6),(5,6)] hmix (by kernel_rfl) rfl ?_
 simp only[XP hkl,lea_ld hkl,evA,simprocAttr]
 refine YE ((c94 _).call frz ⟨rfl,rfl⟩) rfl ?_
 simp only[evA,simprocAttr]
 refine (c100 _ (hs k hkl)).call frz ?_
 unfold nmE
 cases h1:JH (cs[k]!).nm
 ·simp only[evA,simprocAttr]
  exact frz
 have hp:=c112 (cs.take k) (.fn (.func 113) [.ptr 0 0,.ptr 1 0]) (fun j=>decide ((cs[j]!).nm=(cs[k]!).nm)) (by simp;omega) [.cells [.fn (.func 94) []],.cells [.cv (.str (cs[k]!).nm)]] (fun i hi=>by
  have hi':i<k:=by simp at hi;omega
  have e:(cs.take k)[i]! = cs[i]! := by simp[hi']
  rw[e]
  exact c113 (cs[i]!) (cs[k]!).nm rfl rfl)
 rw[show (cs.take k).length=k by simp;omega] at hp
 simp only[lea_sl (show k≤cs.length by omega),evA,simprocAttr]
 refine hp.run ?_
 cases h2:anyN (fun j=>decide ((cs[j]!).nm=(cs[k]!).nm)) k
 ·simp only[evA,simprocAttr]
  exact frz
 ·simp only[evA,simprocAttr]
  exact frz
theorem c92 (l:List Int) (many:Nat) (hl:l.length<2 ^ 63) (hm:many<2 ^ 63):PC Tryz.prog 92 [ints l,.i many] (.i (unl many [] l)):=by
 refine ⟨ZF (fok92 true) (QC rfl) ?_,rfl⟩
 have hw:IntKind.i64.wrap ((many:Int)-1)=(many:Int)-1:=ZC (by omega)
 simp only[ic92,evA,simprocAttr]
 refine ZW l.length (fun i s=>unl many [] l=unl many (l.take i) (l.drop i)∧∃ σ v3 v4 v8 v9 v10,s=⟨[ints l,.i many,.i 0,v3,v4,ints l,.i l.length,.i i,v8,v9,v10],σ⟩) ?_ 0 (QF _) ⟨rfl,_,_,_,_,_,_,rfl⟩
 rintro i s hi ⟨heq,σ,v3,v4,v8,v9,v10,rfl⟩
 by_cases h:i<l.length
 rotate_left
 ·rw[unl_end h] at heq
  simp only[ic92l0,QJ,h,heq,evA,simprocAttr]
  exact frz
 rw[unl_step h] at heq
 simp only[ic92l0,QJ,h,hw,V4,evA,simprocAttr]
 refine (c35 0 ((many:Int)-1) [l[i]?.getD 0] (by simp)).call (.cons frz (.cons frz (.cons (frz_one (fun _=>trivial) (XH _ _)) .nil))) ?_
 rw[FW]
 cases h1:inB (l[i]?.getD 0) 0 ((many:Int)-1)
 ·rw[if_pos h1] at heq
  simp only[heq,evA,simprocAttr]
  exact frz
 rw[if_neg (by rw[h1];decide)] at heq
 simp only[sl_ints (show i≤l.length by omega),evA,simprocAttr]
 have htl:(l.take i).length=i:=by simp;omega
 have hcon:=c52 (l.take i) (l[i]?.getD 0) (by omega)
 rw[ints,htl] at hcon
 refine hcon.call frz ?_
 cases h2:(l.take i).any (· == l[i]?.getD 0)
 ·rw[if_neg (by rw[h2];decide)] at heq
  simp only[evA,simprocAttr]
  exact ZL (by first | trivial | omega) ⟨heq,_,_,_,_,_,_,by rw[Q6 (by omega)]⟩
 ·rw[if_pos h2] at heq
  simp only[heq,evA,simprocAttr]
  exact frz
theorem nmE_cen {q:QL₀} {i:Nat}:cenE q i=if nmE (fun j=>(q.cs[j]!).nm) i=0 then (if inB (q.cs[i]!).pl 0 6=false then 7 else unl 3 [] (q.cs[i]!).ru) else nmE (fun j=>(q.cs[j]!).nm) i:=by
 unfold nmE
 cases h1:JH (q.cs[i]!).nm
 ·rw[cenE_name h1];rfl
 cases h2:anyN (fun j=>decide ((q.cs[j]!).nm=(q.cs[i]!).nm)) i
 ·rw[cenE_rest h1 fun k hk he=>by
   have:=F8.1 h2 k hk
   rw[he] at this;simp at this]
  rfl
 ·obtain ⟨k,hk,he⟩:=U8.1 h2
  rw[cenE_twice h1 hk (by simpa using he)];rfl
theorem nmE_lea {q:QL₀} {i:Nat}:leaE q i=if nmE (fun j=>(q.ls[j]!).nm) i=0 then (if inB (q.ls[i]!).si 0 40000=false then 7 else if inB (q.ls[i]!).fa 0 20=false then 7 else if inB (q.ls[i]!).ho (-1) ((q.cs.length:Int)-1)=false then 4 else unl q.cs.length [] (q.ls[i]!).wi) else nmE (fun j=>(q.ls[j]!).nm) i:=by
 unfold nmE
 cases h1:JH (q.ls[i]!).nm
 ·rw[leaE_name h1];rfl
 cases h2:anyN (fun j=>decide ((q.ls[j]!).nm=(q.ls[i]!).nm)) i
 ·rw[leaE_rest h1 fun k hk he=>by
   have:=F8.1 h2 k hk
   rw[he] at this;simp at this]
  rfl
 ·obtain ⟨k,hk,he⟩:=U8.1 h2
  rw[leaE_twice h1 hk (by simpa using he)];rfl
theorem nmE_congr {f g:Nat→ByteArray} {k:Nat} (h:∀ i,i≤k→f i=g i):nmE f k=nmE g k:=by
 unfold nmE
 rw[h k (QG _)]
 have:anyN (fun j=>decide (f j=g k)) k=anyN (fun j=>decide (g j=g k)) k:=by
  rw[Q8,U8,U8]
  constructor
  ·rintro ⟨j,hj,h1⟩;exact ⟨j,hj,by rw[← h j (by omega)];exact h1⟩
  ·rintro ⟨j,hj,h1⟩;exact ⟨j,hj,by rw[h j (by omega)];exact h1⟩
 rw[this]
theorem named_cen {q:QL₀} (hq:QSz q) {i:Nat} (hi:i<q.cs.length):PC Tryz.prog 90 [cenL (q.cs.take (i+1)),.fn (.func 91) []] (.i (nmE (fun j=>(q.cs[j]!).nm) i)):=by
 have hcs:=hq.cs
 have hl:(q.cs.take (i+1)).length=i+1:=by simp;omega
 have hget:∀ j,j<i+1→(q.cs.take (i+1))[j]! = q.cs[j]! := fun j hj=>by simp[hj]
 have h:=c90 (q.cs.take (i+1)) i hl (by omega) (fun j hj=>by rw[hget j (by omega)];exact hq.nm j (by omega))
 rw[nmE_congr (g:=fun j=>(q.cs[j]!).nm) (fun j hj=>by show ((q.cs.take (i+1))[j]!).nm=_;rw[hget j (by omega)])] at h
 exact h
theorem named_lea {q:QL₀} (hq:QSz q) {i:Nat} (hi:i<q.ls.length):PC Tryz.prog 93 [leaL (q.ls.take (i+1)),.fn (.func 94) []] (.i (nmE (fun j=>(q.ls[j]!).nm) i)):=by
 have hls:=hq.ls
 have hl:(q.ls.take (i+1)).length=i+1:=by simp;omega
 have hget:∀ j,j<i+1→(q.ls.take (i+1))[j]! = q.ls[j]! := fun j hj=>by simp[hj]
 have h:=c93 (q.ls.take (i+1)) i hl (by omega) (fun j hj=>by rw[hget j (by omega)];exact hq.lm j (by omega))
 rw[nmE_congr (g:=fun j=>(q.ls[j]!).nm) (fun j hj=>by show ((q.ls.take (i+1))[j]!).nm=_;rw[hget j (by omega)])] at h
 exact h
theorem c57 (q:QL₀) (hq:QSz q):PC Tryz.prog 57 [qV q] (chkV q):=by
 refine ⟨ZF (fok57 true) (QC rfl) ?_,rfl⟩
 have hcs:=hq.cs
 have hls:=hq.ls
 have hw:IntKind.i64.wrap ((q.cs.length:Int)-1)=(q.cs.length:Int)-1:=ZC (by omega)
 have hob:∀ o∈[AObj.cells [cenL q.cs,leaL q.ls],AObj.cells [.i q.cs.length]],Z3 2 o=true:=by simp[Z3,QO,QR]
 simp only[ic57,V4,evA,simprocAttr]
 refine (c35 1 5 [q.cs.length] (by simp)).call frz ?_
 rw[FW]
 cases h1:inB q.cs.length 1 5
 ·have hE:=chkV_of (q:=q) (chk_size (by rw[h1];simp))
  simp only[hE,evA,simprocAttr]
  exact frz
 by_cases h2:(q.ls.length:Int)>8
 ·have hE:=chkV_of (q:=q) (chk_size (by simp[h2]))
  simp only[h2,hE,evA,simprocAttr]
  exact frz
 simp only[h2,evA,simprocAttr]
 refine ZW q.cs.length (fun i s=>(∀ j,j<i→cenE q j=0)∧∃ v4 v5 v6 v7 v8 v13 v14 v15 v16 v17 v18 v19 v20 v21 v22 v23 v24,s=⟨[qV q,.ptr 0 0,.i 0,.i 0,v4,v5,v6,v7,v8,.b false,cenL q.cs,.i q.cs.length,.i i,v13,v14,v15,v16,v17,v18,v19,v20,v21,v22,v23,v24],[.cells [cenL q.cs,leaL q.ls],.cells [.i q.cs.length]]⟩) ?_ 0 (QF _) ⟨by omega,_,_,_,_,_,_,_,_,_,_,_,_,_,_,_,_,_,rfl⟩
 rintro i s hi ⟨hall,v4,v5,v6,v7,v8,v13,v14,v15,v16,v17,v18,v19,v20,v21,v22,v23,v24,rfl⟩
 by_cases h:i<q.cs.length
 ·have hgo:cenE q i=0→∀ j,j<i+1→cenE q j=0:=fun hb j hj=>by
   rcases QQ.1 hj with hj | rfl
   ·exact hall j hj
   ·exact hb
  have hE:=nmE_cen (q:=q) (i:=i)
  have hws:IntKind.i64.wrap ((i:Int)+1)=((i+1:Nat):Int):=Q6 (by omega)
  simp only[ic57l1,QJ,h,XP h,cen_ld h,hws,cen_sl (show i+1≤q.cs.length by omega),evA,simprocAttr]
  refine (named_cen hq h).call frz ?_
  have stop:cenE q i≠0→chkV q=.tup [.i 2,.i i,.i (cenE q i)]:=fun hc=>chkV_of (chk_cen h1 h2 h hall hc)
  by_cases hn:nmE (fun j=>(q.cs[j]!).nm) i=0
  rotate_left
  ·rw[if_neg hn] at hE
   have hb:=beq_f hn
   have hb2:=bne_t hn
   have hst:=stop (by rw[hE];exact hn)
   rw[hE] at hst
   simp only[hb,hb2,hst,evA,simprocAttr]
   exact frz
  rw[if_pos hn] at hE
  simp only[hn,V4,evA,simprocAttr]
  refine (c35 0 6 [(q.cs[i]!).pl] (by simp)).call frz ?_
  rw[FW]
  cases h3:inB (q.cs[i]!).pl 0 6
  ·rw[if_pos h3] at hE
   have hst:=stop (by rw[hE];decide)
   rw[hE] at hst
   simp only[hst,evA,simprocAttr]
   exact frz
  rw[if_neg (by rw[h3];decide)] at hE
  simp only[evA,simprocAttr]
  refine (c92 _ 3 (hq.ru i h) (by omega)).call frz ?_
  rw[show unl ((3:Nat):Int) [] (q.cs[i]!).ru=unl 3 [] (q.cs[i]!).ru from rfl]
  by_cases hu:unl 3 [] (q.cs[i]!).ru=0
  ·simp only[hu,hws,evA,simprocAttr]
   exact W1 [.cells [cenL q.cs,leaL q.ls],.cells [.i q.cs.length]] _ rfl (by first | trivial | omega) (QF _) hob ⟨hgo (by rw[hE,hu]),_,_,_,_,_,_,_,_,_,_,_,_,_,_,_,_,_,rfl⟩
  ·have hb2:=bne_t hu
   have hst:=stop (by rw[hE];exact hu)
   rw[hE] at hst
   simp only[hb2,hst,evA,simprocAttr]
   exact frz
 have:i=q.cs.length:=by omega
 subst this
 simp only[ic57l1,QJ,h,evA,simprocAttr]
 refine ZW q.ls.length (fun i s=>(∀ j,j<i→leaE q j=0)∧∃ v4 v5 v6 v7 v8 v10 v11 v12 v13 v14 v15 v16 v20 v21 v22 v23 v24,s=⟨[qV q,.ptr 0 0,.i 0,.i 0,v4,v5,v6,v7,v8,.b false,v10,v11,v12,v13,v14,v15,v16,leaL q.ls,.i q.ls.length,.i i,v20,v21,v22,v23,v24],[.cells [cenL q.cs,leaL q.ls],.cells [.i q.cs.length]]⟩) ?_ 0 (QF _) ⟨by omega,_,_,_,_,_,_,_,_,_,_,_,_,_,_,_,_,_,rfl⟩
 rintro i s hi ⟨hall',v4,v5,v6,v7,v8,v10,v11,v12,v13,v14,v15,v16,v20,v21,v22,v23,v24,rfl⟩
 by_cases h:i<q.ls.length
 ·have hgo:leaE q i=0→∀ j,j<i+1→leaE q j=0:=fun hb j hj=>by
   rcases QQ.1 hj with hj | rfl
   ·exact hall' j hj
   ·exact hb
  have hE:=nmE_lea (q:=q) (i:=i)
  have hws:IntKind.i64.wrap ((i:Int)+1)=((i+1:Nat):Int):=Q6 (by omega)
  simp only[ic57l0,QJ,h,XP h,lea_ld h,hws,lea_sl (show i+1≤q.ls.length by omega),evA,simprocAttr]
  refine (named_lea hq h).call frz ?_
  have stop:leaE q i≠0→chkV q=.tup [.i 3,.i i,.i (leaE q i)]:=fun hc=>chkV_of (chk_lea h1 h2 hall h hall' hc)
  by_cases hn:nmE (fun j=>(q.ls[j]!).nm) i=0
  rotate_left
  ·rw[if_neg hn] at hE
   have hb2:=bne_t hn
   have hst:=stop (by rw[hE];exact hn)
   rw[hE] at hst
   simp only[hb2,hst,evA,simprocAttr]
   exact frz
  rw[if_pos hn] at hE
  simp only[hn,V4,evA,simprocAttr]
  refine (c35 0 40000 [(q.ls[i]!).si] (by simp)).call frz ?_
  rw[FW]
  cases h3:inB (q.ls[i]!).si 0 40000
  ·rw[if_pos h3] at hE
   have hst:=stop (by rw[hE];decide)
   rw[hE] at hst
   simp only[hst,evA,simprocAttr]
   exact frz
  rw[if_neg (by rw[h3];decide)] at hE
  simp only[V4,evA,simprocAttr]
  refine (c35 0 20 [(q.ls[i]!).fa] (by simp)).call frz ?_
  rw[FW]
  cases h4:inB (q.ls[i]!).fa 0 20
  ·rw[if_pos h4] at hE
   have hst:=stop (by rw[hE];decide)
   rw[hE] at hst
   simp only[hst,evA,simprocAttr]
   exact frz
  rw[if_neg (by rw[h4];decide)] at hE
  simp only[V4,hw,evA,simprocAttr]
  refine (c35 (-1) ((q.cs.length:Int)-1) [(q.ls[i]!).ho] (by simp)).call frz ?_
  rw[FW]
  cases h5:inB (q.ls[i]!).ho (-1) ((q.cs.length:Int)-1)
  ·rw[if_pos h5] at hE
   have hst:=stop (by rw[hE];decide)
   rw[hE] at hst
   simp only[hst,evA,simprocAttr]
   exact frz
  rw[if_neg (by rw[h5];decide)] at hE
  simp only[evA,simprocAttr]
  refine (c92 _ q.cs.length (hq.wi i h) hcs).call frz ?_
  by_cases hu:unl q.cs.length [] (q.ls[i]!).wi=0
  ·simp only[hu,hws,evA,simprocAttr]
   exact W1 [.cells [cenL q.cs,leaL q.ls],.cells [.i q.cs.length]] _ rfl (by first | trivial | omega) (QF _) hob ⟨hgo (by rw[hE,hu]),_,_,_,_,_,_,_,_,_,_,_,_,_,_,_,_,_,rfl⟩
  ·have hb2:=bne_t hu
   have hst:=stop (by rw[hE];exact hu)
   rw[hE] at hst
   simp only[hb2,hst,evA,simprocAttr]
   exact frz
 have:i=q.ls.length:=by omega
 subst this
 have hE:=chkV_of (chk_ok h1 h2 hall hall')
 simp only[ic57l0,QJ,h,hE,evA,simprocAttr]
 exact frz
structure Car where
 nm:ByteArray
 km:Int
 ev:Int
 ne:Int
instance:Inhabited Car:=⟨⟨bts [],0,0,0⟩⟩
def carC (c:Car):List CV:=[.str c.nm,.int .i64 c.km,.int .i64 c.ev,.int .i64 c.ne]
abbrev carA (c:Car):AV:=.agg [.cv (.str c.nm),.i c.km,.i c.ev,.i c.ne]
abbrev carL (cs:List Car):AV:=.cv (.rsl (cs.flatMap carC) cs.length)
abbrev namL (ws:List ByteArray):AV:=.cv (.rsl (ws.map CV.str) ws.length)
theorem CX (c:Car):(carC c).length=4:=rfl
section
variable {cs:List Car} {ws:List ByteArray} {k:Nat}
theorem car_ld (h:k<cs.length) (σ:List AObj):YF 4 [.cv (.rp (cs.flatMap carC) (k*4))] σ=some (carA cs[k]!,σ):=by
 have h1:k*4+4≤(cs.flatMap carC).length:=by rw[UG CX];omega
 have h2:=G3 CX h
 simp only[YF,h1,if_true]
 rw[h2];rfl
end
theorem bk75 (z lo hi:Int) (σ:List AObj):AC Tryz.prog 75 [.i z,.cv (.rp [.int .i64 lo] 0),.cv (.rp [.int .i64 hi] 0)] σ fun r τ=>r=.b (decide (z<lo)||decide (z>hi))∧τ=σ:=by
 refine ZF (fok75 true) (QC rfl) ?_
 by_cases h:z<lo <;> simp only[ic75,h,evA,simprocAttr]
theorem bk45 (lo hi:Int) (zs:List Int) (hz:zs.length<2 ^ 63):PC Tryz.prog 45 [.i lo,.i hi,ints zs] (.b (outF lo hi zs)):=by
 have hp:PC Tryz.prog 64 [ints zs,.fn (.func 75) [.cv (.rp [.int .i64 lo] 0),.cv (.rp [.int .i64 hi] 0)]] (.b (outF lo hi zs)):=by
  refine ⟨(c64 zs (.fn (.func 75) [.cv (.rp [.int .i64 lo] 0),.cv (.rp [.int .i64 hi] 0)]) (fun i=>decide (zs[i]?.getD 0<lo)||decide (zs[i]?.getD 0>hi)) hz [] (fun i hi'=>bk75 _ lo hi [])).run ?_,rfl⟩
  rw[anyN_list (fun z=>decide (z<lo)||decide (z>hi))];exact frz
 refine ⟨ZF (fok45 true) (QC rfl) ?_,rfl⟩
 simp only[ic45,evA,simprocAttr]
 refine hp.call frz ?_
 exact frz
theorem out_in (lo hi a:Int) (h:lo≤a∧a≤hi):PC Tryz.prog 45 [.i lo,.i hi,ints [a]] (.b false):=by
 have:=bk45 lo hi [a] (by simp)
 rw[FW,VB.2 h] at this
 exact this
end Go.Proofs.YtfnhbbohjnjfnaaGreat.AM

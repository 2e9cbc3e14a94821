/- Parts of the proof, joined: TqS1 to TqC8. -/
import Derived.Test.YtfnhbbohjnjfnaaGreatChecked
import Derived.Sort.Defs
import Derived.Test.YtfnhbbohjnjfnaaGreatZ20
set_option linter.unusedVariables false
set_option linter.unusedSimpArgs false
set_option linter.unusedSectionVars false
namespace Go.Proofs.YtfnhbbohjnjfnaaGreat.AM
variable [Dr]
open Go
section
set_option linter.unusedSectionVars false
variable {α:Type} [Inhabited α]
abbrev rowA (f:α→AV) (d:Array α):List AV:=d.toList.map f
abbrev putA (f:α→AV) (σ:List AObj) (l:Nat) (d:Array α):List AObj:=σ.set l (.cells (rowA f d))
structure CmpOk (fv:AV) (f:α→AV) (c:α→α→Int) (l:Nat) (E:α→Prop) (I:List AObj→Prop):Prop where
 call:∀ a b σ,E a→E b→I σ→X0 Tryz.prog fv [f a,f b] σ fun r τ=>r=.i (c a b)∧τ=σ
 sc:∀ a,(f a).isSc=true
 one:∀ a,cellsOf (f a)=[f a]
 put:∀ σ d,I σ→I (putA f σ l d)
abbrev ltC (c:α→α→Int):α→α→Bool:=fun a b=>decide (c a b<0)
theorem rowA_len (f:α→AV) (d:Array α):(rowA f d).length=d.size:=by simp
theorem rowA_get (f:α→AV) {d:Array α} {i:Nat} (h:i<d.size):(rowA f d)[i]? = some (f d[i]!):=by
 simp[rowA,h]
theorem swp_size' (d:Array α) (i j:Nat):(Sort.swp d i j).size=d.size:=by simp[Sort.swp]
theorem rowA_swp (f:α→AV) {d:Array α} {i j:Nat} (hi:i<d.size) (hj:j<d.size):((rowA f d).set i (f d[j]!)).set j (f d[i]!)=rowA f (Sort.swp d i j):=by
 simp[rowA,Sort.swp,List.map_set]
theorem swp_all {E:α→Prop} {d:Array α} {i j:Nat} (hi:i<d.size) (hj:j<d.size) (h:∀ k,k<d.size→E d[k]!):∀ k,k<(Sort.swp d i j).size→E (Sort.swp d i j)[k]! := by
 intro k hk
 rw[swp_size'] at hk
 have:=h i hi
 have:=h j hj
 have:=h k hk
 unfold Sort.swp
 simp only[getElem!_def,Array.getElem?_setIfInBounds,Array.size_setIfInBounds] at *
 by_cases h1:j=k
 ·subst h1;simp[hk];simpa[hi] using h i hi
 ·by_cases h2:i=k
  ·subst h2;simp[h1,hk];simpa[hj] using h j hj
  ·simp[h1,h2];simpa[hk] using h k hk
theorem putA_row {f:α→AV} {σ:List AObj} {l:Nat} {d d':Array α} (h:rowOf σ l=some (rowA f d)):rowOf (putA f σ l d') l=some (rowA f d'):=W0 h
theorem putA_same {f:α→AV} {σ:List AObj} {l:Nat} {d:Array α} (h:rowOf σ l=some (rowA f d)):putA f σ l d=σ:=by
 apply Z1
 intro k
 by_cases hk:l=k
 ·subst hk
  rw[Z2 (QH.1 (WO h)).1,WO h]
 ·rw[QU hk]
theorem c126 {fv:AV} {f:α→AV} {c:α→α→Int} {l:Nat} {E:α→Prop} {I:List AObj→Prop} (hC:CmpOk fv f c l E I) {σ:List AObj} (hI:I σ) (d0:Array α) (a b:Nat) (hE:∀ k,k<d0.size→E d0[k]!) (hr:rowOf σ l=some (rowA f d0)) (hn:d0.size<2 ^ 60) (hab:a≤b) (hb:b≤d0.size) :
  AC Tryz.prog 126 [.sl l 0 d0.size 1,.i a,.i b,fv] σ fun r τ=>r=.tup []∧τ=putA f σ l (Sort.insertionSort (ltC c) d0 a b):=by
 refine ZF (fok126 true) (QC rfl) ?_
 have hwa:IntKind.i64.wrap ((a:Int)+1)=((a+1:Nat):Int):=by rw[ZC (by omega)];rfl
 simp only[ic126,hwa,evA,simprocAttr]
 refine ZW (b-a) (fun t s=>∃ d v5 v6 v7,((d.size=d0.size∧∀ k,k<d.size→E d[k]!)∧Sort.insertionSort (ltC c) d0 a b=Sort.insOuter (ltC c) a b (a+1+t) d)∧s=⟨[.sl l 0 d0.size 1,.i a,.i b,fv,.i ((a+1+t:Nat):Int),v5,v6,v7],putA f σ l d⟩) ?_ 0 (QF _) ⟨d0,_,_,_,⟨⟨rfl,hE⟩,rfl⟩,by rw[putA_same hr]⟩
 rintro t s ht ⟨d,v5,v6,v7,⟨⟨hd,hEd⟩,heq⟩,rfl⟩
 rw[Sort.insOuter] at heq
 by_cases h:a+1+t<b
 rotate_left
 ·rw[if_neg h] at heq
  simp only[ic126l1,QJ,h,evA,simprocAttr]
  rw[heq]
 rw[if_pos h] at heq
 obtain ⟨i,hi⟩:∃ i,i=a+1+t:=⟨_,rfl⟩
 rw[← hi] at h heq ⊢
 have hwi:IntKind.i64.wrap ((i:Int)+1)=((i+1:Nat):Int):=by rw[ZC (by omega)];rfl
 simp only[ic126l1,QJ,h,evA,simprocAttr]
 refine ZW i (fun k s=>∃ e v6 v7,((e.size=d0.size∧∀ k,k<e.size→E e[k]!)∧Sort.insInner (ltC c) a i d=Sort.insInner (ltC c) a (i-k) e)∧s=⟨[.sl l 0 d0.size 1,.i a,.i b,fv,.i i,.i ((i-k:Nat):Int),v6,v7],putA f σ l e⟩) ?_ 0 (QF _) ⟨d,_,_,⟨⟨hd,hEd⟩,rfl⟩,rfl⟩
 rintro k s hk ⟨e,w6,w7,⟨⟨he,hEe⟩,heq2⟩,rfl⟩
 have hre:=putA_row (d':=e) hr
 have fin:Sort.insInner (ltC c) a i d=e→Sort.insertionSort (ltC c) d0 a b=Sort.insOuter (ltC c) a b (a+1+(t+1)) e:=fun h1=>by
  rw[heq,h1,hi];rfl
 simp only[ic126l0,evA,simprocAttr]
 refine DW_s [14] [] hmix (by kernel_rfl) rfl ?_
 by_cases hja:i-k>a
 rotate_left
 ·have hgi:(((i-k:Nat):Int)>(a:Int))=False:=eq_false (by omega)
  have h1:Sort.insInner (ltC c) a i d=e:=by
   rw[heq2]
   cases hk':i-k with
   | zero=>rfl
   | succ j=>rw[Sort.insInner,if_neg];simp;omega
  simp only[hgi,hwi,evA,simprocAttr]
  exact ZL (by first | trivial | omega) ⟨e,_,_,_,⟨⟨he,hEe⟩,fin h1⟩,by rw[hi];rfl⟩
 obtain ⟨j,hj⟩:∃ j,i-k=j+1:=⟨i-k-1,by omega⟩
 have hgi:(((i-k:Nat):Int)>(a:Int))=True:=eq_true (by omega)
 have hwj:IntKind.i64.wrap (((i-k:Nat):Int)-1)=(j:Int):=by rw[ZC (by omega)];omega
 rw[hj] at hwj hgi heq2 ⊢
 have hj1:j+1<d0.size:=by omega
 have hj0:j<d0.size:=by omega
 have g1:=rowA_get f (d:=e) (i:=j+1) (by omega)
 have g0:=rowA_get f (d:=e) (i:=j) (by omega)
 simp only[hgi,hwj,hj1,hj0,hre,g1,g0,evA,simprocAttr]
 refine YE (hC.call _ _ _ (hEe _ (by omega)) (hEe _ (by omega)) (hC.put _ _ hI)) rfl ?_
 rw[Sort.insInner] at heq2
 by_cases hlt:c e[j+1]! e[j]! < 0
 rotate_left
 ·have h1:Sort.insInner (ltC c) a i d=e:=by
   rw[heq2,if_neg];simp[ltC,hlt]
  simp only[hlt,hwi,evA,simprocAttr]
  exact ZL (by first | trivial | omega) ⟨e,_,_,_,⟨⟨he,hEe⟩,fin h1⟩,by rw[hi];rfl⟩
 have hcond:(decide (j+1>a)&&ltC c e[j+1]! e[j]!)=true:=by simp[ltC,hlt];omega
 rw[if_pos hcond] at heq2
 simp only[hlt,evA,simprocAttr]
 refine DW_s [] [] hmix (by kernel_rfl) rfl ?_
 have hs:=rowA_swp f (d:=e) (i:=j+1) (j:=j) (by omega) (by omega)
 have hrow2:rowOf (putA f σ l e) l=some (rowA f e):=hre
 have hrs:=fun cs=>W0 (cs':=cs) hre
 have hss:∀ x y:AObj,((putA f σ l e).set l x).set l y=σ.set l y:=fun x y=>by simp
 have hle1:j+1+1≤e.size:=by omega
 have hle0:j+1≤e.size:=by omega
 simp only[hwj,hj1,hj0,hre,hrs,g1,g0,hC.one,hC.sc,hs,hss,hle1,hle0,rowA_len,Array.length_toList,evA,simprocAttr]
 refine ZL (by first | trivial | omega) ⟨Sort.swp e (j+1) j,_,_,⟨⟨by rw[swp_size',he],swp_all (by omega) (by omega) hEe⟩,by rw[heq2,show i-(k+1)=j by omega]⟩,by rw[show i-(k+1)=j by omega]⟩
def bl (n:Nat):Nat:=if n=0 then 0 else Nat.log2 n+1
noncomputable def blTab:List (Nat × FE):=[(108,⟨ic108,vs108,Tryz.f108.ntmps,rs108,true⟩),(135,⟨ic135,vs135,Tryz.f135.ntmps,rs135,true⟩)]
theorem blTab_ok:TOk Tryz.prog blTab:=⟨fok108 _,fok135 _,trivial⟩
noncomputable def TLb:Tb:=⟨tget blTab,[]⟩
theorem TLb_ok:TbOk Tryz.prog TLb:=⟨fun _ _ h=>TOk.get blTab_ok _ _ h,trivial⟩
theorem bitsLen (n:Nat) (hn:n≤12) (σ:List AObj):AC Tryz.prog 108 [.cv (.int .u64 n)] σ fun r τ=>r=.i (bl n)∧τ=σ:=by
 have h:n=0∨n=1∨n=2∨n=3∨n=4∨n=5∨n=6∨n=7∨n=8∨n=9∨n=10∨n=11∨n=12:=by omega
 rcases h with rfl | rfl | rfl | rfl | rfl | rfl | rfl | rfl | rfl | rfl | rfl | rfl | rfl <;> exact AC_run (Checked.mixed Tryz.checked) TLb_ok 1000 40 (by kernel_rfl) rfl σ
theorem c85 {fv:AV} {f:α→AV} {c:α→α→Int} {l:Nat} {E:α→Prop} {I:List AObj→Prop} (hC:CmpOk fv f c l E I) {σ:List AObj} (hI:I σ) (d0:Array α) (hE:∀ k,k<d0.size→E d0[k]!) (hr:rowOf σ l=some (rowA f d0)) (hn:d0.size≤12) :
  AC Tryz.prog 85 [.sl l 0 d0.size 1,fv] σ fun r τ=>r=.tup []∧τ=putA f σ l (Sort.insertionSort (ltC c) d0 0 d0.size):=by
 have hw:IntKind.u64.wrap (d0.size:Int)=(d0.size:Int):=by simp[IntKind.wrap,IntKind.bits,IntKind.signed];omega
 have hw2:IntKind.i64.wrap ((d0.size:Int)-0)=(d0.size:Int):=by rw[ZC (by omega)];omega
 have hle:((d0.size:Int)≤12)=True:=eq_true (by omega)
 have hp:∀ lim:Int,AC Tryz.prog 107 [.sl l 0 d0.size 1,.i 0,.i d0.size,.i lim,fv] σ fun r τ=>r=.tup []∧τ=putA f σ l (Sort.insertionSort (ltC c) d0 0 d0.size):=fun lim=>by
  refine ZF (fok107 true) (QC rfl) ?_
  simp only[ic107,evA,simprocAttr]
  refine J1 ?_
  simp only[ic107l0,hw2,hle,evA,simprocAttr]
  have:=c126 hC hI d0 0 d0.size hE hr (by omega) (QF _) (QG _)
  refine this.run ?_
  simp only[evA,simprocAttr]
 refine ZF (fok85 true) (QC rfl) ?_
 simp only[ic85,hw,evA,simprocAttr]
 refine (bitsLen d0.size hn _).run ?_
 simp only[evA,simprocAttr]
 refine (hp _).run ?_
 simp only[evA,simprocAttr]
end
end Go.Proofs.YtfnhbbohjnjfnaaGreat.AM
namespace Go.Proofs.YtfnhbbohjnjfnaaGreat.AM
variable [Dr]
open Go Go.Proofs.YtfnhbbohjnjfnaaGreat.Qu Pl
def cmpI (x y:Int):Int:=if x<y then -1 else if x>y then 1 else 0
def cmpS (x y:ByteArray):Int:=if Op.bytesLess x.toList y.toList=true then -1 else if x=y then 0 else 1
theorem c95 (x:Int):PC Tryz.prog 95 [.i x] (.b false):=by
 refine ⟨ZF (fok95 true) (QC rfl) ?_,rfl⟩
 simp only[ic95,evA,simprocAttr]
 exact frz
theorem c109 (x:ByteArray):PC Tryz.prog 109 [.cv (.str x)] (.b false):=by
 refine ⟨ZF (fok109 true) (QC rfl) ?_,rfl⟩
 simp only[ic109,binS,str_eq,evA,simprocAttr]
 exact frz
theorem c61 (x y:Int):PC Tryz.prog 61 [.i x,.i y] (.i (cmpI x y)):=by
 refine ⟨ZF (fok61 true) (QC rfl) ?_,rfl⟩
 simp only[ic61,evA,simprocAttr]
 refine (c95 x).call frz ?_
 simp only[evA,simprocAttr]
 refine (c95 y).call frz ?_
 unfold cmpI
 by_cases h1:x<y
 ·simp only[h1,evA,simprocAttr]
  exact frz
 ·by_cases h2:x>y
  ·simp only[h1,h2,evA,simprocAttr]
   exact frz
  ·simp only[h1,h2,evA,simprocAttr]
   exact frz
theorem c87 (x y:ByteArray):PC Tryz.prog 87 [.cv (.str x),.cv (.str y)] (.i (cmpS x y)):=by
 refine ⟨ZF (fok87 true) (QC rfl) ?_,rfl⟩
 simp only[ic87,evA,simprocAttr]
 refine (c109 x).call frz ?_
 simp only[evA,simprocAttr]
 refine (c109 y).call frz ?_
 unfold cmpS
 cases h1:Op.bytesLess x.toList y.toList
 ·by_cases h2:x=y
  ·simp only[h1,h2,bl_irr,binS,str_eq,evA,simprocAttr]
   exact frz
  ·simp only[h1,h2,binS,str_eq,evA,simprocAttr]
   exact frz
 ·simp only[h1,binS,str_eq,evA,simprocAttr]
  exact frz
theorem kept2 {P:Program} {f:FuncId} {args:List AV} {σ:List AObj} {v:AV} (hv:QR 0 v=true) (h:AC P f args σ fun r τ=>r=v∧∃ J,τ=σ++J):AC P f args σ fun r τ=>r=v∧τ=σ:=h.cutF hv
theorem c82 (x:AV) (c:Nat) (a b:Lea) (σ:List AObj):AC Tryz.prog 82 [x,.i c,leaA a,leaA b] σ fun r τ=>r=.i (cmpI (key c a 0) (key c b 0))∧τ=σ:=by
 refine kept2 rfl (ZF (fok82 true) (QC rfl) ?_)
 have g1:=FU (XH σ [.cv (.str a.nm),.i a.si,.i a.ho,.i a.fa,ints a.wi]) (.cells [.cv (.str b.nm),.i b.si,.i b.ho,.i b.fa,ints b.wi])
 have g2:=XH (σ++[.cells [.cv (.str a.nm),.i a.si,.i a.ho,.i a.fa,ints a.wi]]) [.cv (.str b.nm),.i b.si,.i b.ho,.i b.fa,ints b.wi]
 simp only[ic82,g1,g2,evA,simprocAttr]
 refine (c61 _ _).call frz ?_
 simp only[evA,simprocAttr]
 exact ⟨rfl,_,QW ..⟩
theorem c84 (x:AV) (c:Nat) (a b:Lea) (σ:List AObj):AC Tryz.prog 84 [x,.i c,leaA a,leaA b] σ fun r τ=>r=.i (cmpI (key c a 2) (key c b 2))∧τ=σ:=by
 refine kept2 rfl (ZF (fok84 true) (QC rfl) ?_)
 have g1:=FU (XH σ [.cv (.str a.nm),.i a.si,.i a.ho,.i a.fa,ints a.wi]) (.cells [.cv (.str b.nm),.i b.si,.i b.ho,.i b.fa,ints b.wi])
 have g2:=XH (σ++[.cells [.cv (.str a.nm),.i a.si,.i a.ho,.i a.fa,ints a.wi]]) [.cv (.str b.nm),.i b.si,.i b.ho,.i b.fa,ints b.wi]
 simp only[ic84,g1,g2,evA,simprocAttr]
 refine (c61 _ _).call frz ?_
 simp only[evA,simprocAttr]
 exact ⟨rfl,_,QW ..⟩
theorem c83 (x:AV) (c:Nat) (a b:Lea) (σ:List AObj):AC Tryz.prog 83 [x,.i c,leaA a,leaA b] σ fun r τ=>r=.i (cmpI (key c a 1) (key c b 1))∧τ=σ:=by
 refine kept2 rfl (ZF (fok83 true) (QC rfl) ?_)
 have g1:=FU (XH σ [.cv (.str a.nm),.i a.si,.i a.ho,.i a.fa,ints a.wi]) (.cells [.cv (.str b.nm),.i b.si,.i b.ho,.i b.fa,ints b.wi])
 have g2:=XH (σ++[.cells [.cv (.str a.nm),.i a.si,.i a.ho,.i a.fa,ints a.wi]]) [.cv (.str b.nm),.i b.si,.i b.ho,.i b.fa,ints b.wi]
 have hk:∀ y:Lea,key c y 1=if y.ho=c then 0 else 1:=fun y=>by simp only[key,show ¬ ((1:Int)=0) by decide,if_false,if_true]
 rw[hk,hk]
 have fin:∀ (z w:AObj),∃ J,σ++[z]++[w]=σ++J:=fun z w=>⟨_,QW ..⟩
 by_cases ha:a.ho=c
 ·by_cases hb:b.ho=c
  ·have e1:(a.ho == b.ho)=true:=by simp[ha,hb]
   rw[if_pos ha,if_pos hb]
   simp only[ic83,g1,g2,e1,evA,simprocAttr]
   exact ⟨rfl,fin _ _⟩
  ·have e1:(a.ho == b.ho)=false:=beq_f (by rw[ha];exact fun h=>hb h.symm)
   have e2:(a.ho != (c:Int))=false:=by simp[ha]
   have e3:(a.ho == (c:Int))=true:=by simp[ha]
   rw[if_pos ha,if_neg hb]
   simp only[ic83,g1,g2,e1,e2,e3,evA,simprocAttr]
   exact ⟨rfl,fin _ _⟩
 ·have e2:(a.ho != (c:Int))=true:=bne_t ha
  have e3:(a.ho == (c:Int))=false:=beq_f ha
  by_cases hb:b.ho=c
  ·have e1:(a.ho == b.ho)=false:=beq_f (by rw[hb];exact ha)
   have e4:(b.ho != (c:Int))=false:=by simp[hb]
   rw[if_neg ha,if_pos hb]
   simp only[ic83,g1,g2,e1,e2,e3,e4,evA,simprocAttr]
   exact ⟨rfl,fin _ _⟩
  ·have e4:(b.ho != (c:Int))=true:=bne_t hb
   rw[if_neg ha,if_neg hb]
   by_cases hab:a.ho=b.ho
   ·have e1:(a.ho == b.ho)=true:=by simp[hab]
    simp only[ic83,g1,g2,e1,evA,simprocAttr]
    exact ⟨rfl,fin _ _⟩
   ·have e1:(a.ho == b.ho)=false:=beq_f hab
    simp only[ic83,g1,g2,e1,e2,e3,e4,evA,simprocAttr]
    exact ⟨rfl,fin _ _⟩
def cmpR (c:Nat) (a b:Lea):List Int→Int
 | []=>cmpS a.nm b.nm
 | r::rs=>if cmpI (key c a r) (key c b r)=0 then cmpR c a b rs else cmpI (key c a r) (key c b r)
theorem cmpI_0 {x y:Int}:cmpI x y=0↔x=y:=by unfold cmpI;split <;> (try split) <;> omega
theorem cmpI_lt {x y:Int}:cmpI x y<0↔x<y:=by unfold cmpI;split <;> (try split) <;> omega
theorem LP (c:Nat) (a b:Lea):∀ rs,decide (cmpR c a b rs<0)=byRules c a b rs
 | []=>by
  show decide (cmpS a.nm b.nm<0)=Op.bytesLess a.nm.toList b.nm.toList
  unfold cmpS
  cases h:Op.bytesLess a.nm.toList b.nm.toList
  ·by_cases h2:a.nm=b.nm <;> simp[h2]
  ·simp
 | r::rs=>by
  have ih:=LP c a b rs
  unfold cmpR byRules
  by_cases h:key c a r=key c b r
  ·rw[if_pos (cmpI_0.2 h),if_pos h];exact ih
  ·rw[if_neg (fun e=>h (cmpI_0.1 e)),if_neg h]
   rw[Q8,decide_eq_true_eq,decide_eq_true_eq]
   exact cmpI_lt
theorem cmpR_drop {c:Nat} {a b:Lea} {ru:List Int} {r:Nat} (h:r<ru.length) :
  cmpR c a b (ru.drop r)=if cmpI (key c a (ru[r]?.getD 0)) (key c b (ru[r]?.getD 0))=0 then cmpR c a b (ru.drop (r+1)) else cmpI (key c a (ru[r]?.getD 0)) (key c b (ru[r]?.getD 0)):=by
 have e:ru[r]?.getD 0=ru[r]:=by simp[h]
 rw[List.drop_eq_getElem_cons h,e]
 conv=>lhs;unfold cmpR
def cmpQ (q:QL₀) (c i k:Nat):Int:=cmpR c (q.ls[i]!) (q.ls[k]!) (q.cs[c]!).ru
structure OrdAt (q:QL₀) (c:Nat) (b2 b3 b7 L:Nat) (x:AV) (σ:List AObj):Prop where
 h2:rowOf σ b2=some [.ptr L 0]
 h3:rowOf σ b3=some [.i c]
 h7:rowOf σ b7=some [.bm 82 [.ptr L 0],.bm 83 [.ptr L 0],.bm 84 [.ptr L 0]]
 hL:rowOf σ L=some [cenL q.cs,leaL q.ls,x]
theorem c86 (q:QL₀) (hq:QSz q) (c i k:Nat) (hc:c<q.cs.length) (hC:CenOk q c) (hi:i<q.ls.length) (hk:k<q.ls.length) {b2 b3 b7 L:Nat} {x:AV} {σ:List AObj} (h:OrdAt q c b2 b3 b7 L x σ) :
  AC Tryz.prog 86 [.i i,.i k,.ptr b2 0,.ptr b3 0,.ptr b7 0] σ fun r τ=>r=.i (cmpQ q c i k)∧τ=σ:=by
 obtain ⟨h2,h3,h7,hL⟩:=h
 refine kept2 rfl (ZF (fok86 true) (QC rfl) ?_)
 simp only[ic86,evA,simprocAttr]
 refine DW_s [] [(0,16),(0,17),(4,16),(4,17),(7,16),(7,17),(8,16),(8,17),(8,18),(12,16),(12,17),(12,18),(15,16),(15,17),(15,18),(16,17),(17,16)] hmix (by kernel_rfl) rfl ?_
 have g2:=fun J=>ZH h2 J
 have g3:=fun J=>ZH h3 J
 have g7:=fun J=>ZH h7 J
 have gL:=fun J=>ZH hL J
 have k2:=fun J=>Qdq h2 J
 have kL:=fun J=>Qdq hL J
 have w2:=WO h2
 have wL:=WO hL
 simp only[h2,hL,XP hi,XP hk,lea_ld hi,lea_ld hk,QW,QM,WW,X9,VW,EZ,Qau,CH,get_nz,get_ns,k2,kL,w2,wL,evA,simprocAttr]
 refine DW_s [] [] hmix (by kernel_rfl) rfl ?_
 simp only[g2,g3,gL,XP hc,cen_2 hc,evA,simprocAttr]
 have hru:=hq.ru c hc
 have hrr:=hC.ru
 unfold cmpQ
 generalize q.ls[i]! = a
 generalize q.ls[k]! = b
 generalize (q.cs[c]!).ru=ru at hru hrr ⊢
 refine ZW ru.length (fun r s=>cmpR c a b ru=cmpR c a b (ru.drop r)∧∃ v8 v9 v13 v14,s=⟨[.i i,.i k,.ptr b2 0,.ptr b3 0,.ptr b7 0,.i 0,.ptr σ.length 0,.ptr (σ.length+1) 0,v8,v9,ints ru,.i ru.length,.i r,v13,v14],σ++[.cells [.cv (.str a.nm),.i a.si,.i a.ho,.i a.fa,ints a.wi],.cells [.cv (.str b.nm),.i b.si,.i b.ho,.i b.fa,ints b.wi]]⟩) ?_ 0 (QF _) ⟨rfl,_,_,_,_,rfl⟩
 rintro r s hr ⟨heq,v8,v9,v13,v14,rfl⟩
 by_cases hlt:r<ru.length
 rotate_left
 ·have hE:cmpR c a b ru=cmpS a.nm b.nm:=by rw[heq,List.drop_of_length_le (by omega)];rfl
  simp only[ic86l0,QJ,hlt,QW,QM,WW,X9,VW,EZ,Qau,CH,get_nz,get_ns,evA,simprocAttr]
  refine (c87 a.nm b.nm).call frz ?_
  simp only[hE,evA,simprocAttr]
  exact ⟨_,rfl⟩
 rw[cmpR_drop hlt] at heq
 have hmem:ru[r]?.getD 0∈ru:=by rw[QI hlt];exact Q2 hlt
 have hx3:=hrr _ hmem
 obtain ⟨x0,hx0⟩:∃ x,ru[r]?.getD 0=x:=⟨_,rfl⟩
 rw[hx0] at heq hx3
 have fin:∀ n:Int,n=cmpI (key c a x0) (key c b x0)→(n=0→cmpR c a b ru=cmpR c a b (ru.drop (r+1)))∧(n≠0→cmpR c a b ru=n):=fun n hn=>by
  subst hn
  exact ⟨fun h0=>by rw[heq,if_pos h0],fun h0=>by rw[heq,if_neg h0]⟩
 simp only[ic86l0,QJ,hlt,hx0,QW,QM,WW,X9,VW,EZ,Qau,CH,get_nz,get_ns,evA,simprocAttr]
 refine DW_s [6] [] hmix (by kernel_rfl) rfl ?_
 have h012:x0=0∨x0=1∨x0=2:=by omega
 rcases h012 with rfl | rfl | rfl
 all_goals have i0:∀ σ,PD 3 1 [.ptr b7 0,.cv (.int .i64 0)] σ=some (.ptr b7 0,σ):=fun _=>rfl
 all_goals have i1:∀ σ,PD 3 1 [.ptr b7 0,.cv (.int .i64 1)] σ=some (.ptr b7 1,σ):=fun _=>rfl
 all_goals have i2:∀ σ,PD 3 1 [.ptr b7 0,.cv (.int .i64 2)] σ=some (.ptr b7 2,σ):=fun _=>rfl
 all_goals simp only[g3,g7,i0,i1,i2,QW,QM,WW,X9,VW,EZ,Qau,CH,get_nz,get_ns,evA,simprocAttr]
 ·refine YE (c82 _ c a b _) rfl ?_
  obtain ⟨f1,f2⟩:=fin _ rfl
  generalize cmpI (key c a 0) (key c b 0)=n at f1 f2 ⊢
  by_cases h0:n=0
  ·simp only[h0,evA,simprocAttr]
   exact ZL (by first | trivial | omega) ⟨f1 h0,_,_,_,_,by rw[Q6 (by omega)]⟩
  ·have e0:=beq_f h0
   simp only[e0,f2 h0,evA,simprocAttr]
   exact ⟨_,rfl⟩
 ·refine YE (c83 _ c a b _) rfl ?_
  obtain ⟨f1,f2⟩:=fin _ rfl
  generalize cmpI (key c a 1) (key c b 1)=n at f1 f2 ⊢
  by_cases h0:n=0
  ·simp only[h0,evA,simprocAttr]
   exact ZL (by first | trivial | omega) ⟨f1 h0,_,_,_,_,by rw[Q6 (by omega)]⟩
  ·have e0:=beq_f h0
   simp only[e0,f2 h0,evA,simprocAttr]
   exact ⟨_,rfl⟩
 ·refine YE (c84 _ c a b _) rfl ?_
  obtain ⟨f1,f2⟩:=fin _ rfl
  generalize cmpI (key c a 2) (key c b 2)=n at f1 f2 ⊢
  by_cases h0:n=0
  ·simp only[h0,evA,simprocAttr]
   exact ZL (by first | trivial | omega) ⟨f1 h0,_,_,_,_,by rw[Q6 (by omega)]⟩
  ·have e0:=beq_f h0
   simp only[e0,f2 h0,evA,simprocAttr]
   exact ⟨_,rfl⟩
theorem bef_irr (q:QL₀) (c i:Nat):bef q c i i=false:=byRules_irr _ _ _
theorem c31 (xs ys:List Int) (hx:xs.length<2 ^ 63):PC Tryz.prog 31 [ints xs,ints ys] (.b (decide (xs=ys))):=by
 refine ⟨ZF (fok31 true) (QC rfl) ?_,rfl⟩
 simp only[ic31,evA,simprocAttr]
 by_cases hl:xs.length=ys.length
 ·simp only[hl,evA,simprocAttr]
  refine ZW ys.length (fun i s=>(∀ j,j<i→xs[j]?.getD 0=ys[j]?.getD 0)∧∃ v5 v6,s=⟨[ints xs,ints ys,.b false,.i i,.b false,v5,v6],[]⟩) ?_ 0 (QF _) ⟨by omega,_,_,rfl⟩
  rintro i s hi ⟨hall,v5,v6,rfl⟩
  by_cases h:i<ys.length
  ·have hxl:i<xs.length:=by omega
   simp only[ic31l0,QJ,h,hxl,evA,simprocAttr]
   refine DW_s [] [] hmix (by kernel_rfl) rfl ?_
   simp only[h,hxl,evA,simprocAttr]
   by_cases he:xs[i]?.getD 0=ys[i]?.getD 0
   ·have hb:(xs[i]?.getD 0 != ys[i]?.getD 0)=false:=by simp[he]
    simp only[hb,evA,simprocAttr]
    refine ZL (by first | trivial | omega) ⟨fun j hj=>?_,_,_,by rw[ZC (by omega)];rfl⟩
    rcases QQ.1 hj with hj | rfl
    ·exact hall j hj
    ·exact he
   ·have hb:(xs[i]?.getD 0 != ys[i]?.getD 0)=true:=by simp[he]
    have hne:decide (xs=ys)=false:=by simp;intro h;exact he (by rw[h])
    simp only[hb,hne,evA,simprocAttr]
    exact frz
  ·have hi':i=ys.length:=by omega
   have hxl:¬ i<xs.length:=by omega
   have heq:decide (xs=ys)=true:=by
    simp
    apply Y1 (by omega)
    intro j h1 h2
    have:=hall j (by omega)
    simpa[h1,h2] using this
   simp only[ic31l0,QJ,hxl,heq,evA,simprocAttr]
   exact frz
 ·have hb:((xs.length:Int) != ys.length)=true:=by simp;omega
  have hne:decide (xs=ys)=false:=by simp;intro h;exact hl (by rw[h])
  simp only[hb,hne,evA,simprocAttr]
  exact frz
def ordF (q:QL₀) (c:Nat):Nat→List Int
 | 0=>List.replicate q.ls.length 0
 | i+1=>(ordF q c i).set (Mk.rankOf q.ls.length (bef q c) i) i
def ordQ (q:QL₀) (c:Nat):List Int:=ordF q c q.ls.length
theorem ordF_len (q:QL₀) (c:Nat):∀ i,(ordF q c i).length=q.ls.length
 | 0=>by simp[ordF]
 | i+1=>by simp[ordF,ordF_len q c i]
def eQ (q:QL₀):Int:=(checkQ q).2.2
def ordV (q:QL₀) (c:Int):AV:=if eQ q=0 then (if inB c 0 ((q.cs.length:Int)-1)=true then .tup [ints (ordQ q c.toNat),.i 0] else .tup [ints [],.i 4]) else .tup [ints [],.i (eQ q)]
theorem rank_lt_n {q:QL₀} {c i:Nat} (hi:i<q.ls.length):Mk.rankOf q.ls.length (bef q c) i<q.ls.length:=by
 unfold Mk.rankOf
 have h1:cnt q.ls.length (fun k=>bef q c k i)+1≤cnt q.ls.length (fun _=>true):=cnt_lt (k:=i) (fun _ _ _=>rfl) hi (bef_irr q c i) rfl
 have:=P7 (n:=q.ls.length) (P:=fun _=>true)
 omega
def listN (n:Nat) (f:Nat→Int):List Int:=(List.range n).map f
theorem listN_len (n:Nat) (f:Nat→Int):(listN n f).length=n:=by simp[listN]
theorem listN_get {n:Nat} {f:Nat→Int} {i:Nat} (h:i<n):(listN n f)[i]?.getD 0=f i:=by simp[listN,h]
theorem listN_set {n:Nat} {f:Nat→Int} {i:Nat} (h:i<n) (z:Int):(listN n f).set i z=listN n (fun k=>if k=i then z else f k):=by
 apply Y1
 ·simp[listN]
 ·intro k h1 h2
  simp only[listN,List.getElem_set,List.getElem_map,List.getElem_range]
  by_cases e:i=k
  ·subst e;simp
  ·rw[if_neg e,if_neg (Ne.symm e)]
theorem listN_zero (n:Nat):List.replicate n (0:Int)=listN n fun _=>0:=by
 apply Y1 <;> simp[listN]
theorem listN_congr {n:Nat} {f g:Nat→Int} (h:∀ i,i<n→f i=g i):listN n f=listN n g:=by
 unfold listN;exact JI fun i hi=>h i (by simpa using hi)
section
set_option linter.unusedSectionVars false
variable {q:QL₀} (hL:∀ i,i<q.ls.length→LeaOk q i)
include hL
end
abbrev QOk (q:QL₀):Prop:=q.cs.length≤5∧q.ls.length≤8∧(∀ i,i<q.ls.length→LeaOk q i)∧(∀ c,c<q.cs.length→CenOk q c)
theorem val_of {q:QL₀} (h:eQ q=0):q.cs.length≤5∧q.ls.length≤8∧(∀ i,i<q.ls.length→LeaOk q i)∧(∀ c,c<q.cs.length→CenOk q c):=by
 obtain ⟨h1,h2,h3,_⟩:=valid_iff (q:=q) h
 exact ⟨h1.2.1,h1.2.2,fun i hi=>leaE_ok (h3 i hi),fun c hc=>cenE_ok (h2 c hc)⟩
noncomputable def giveV (q:QL₀):AV:=if eQ q=0 then .tup [ints (giveQ q),.i 0] else .tup [ints [],.i (eQ q)]
theorem chkV_e (q:QL₀):chkV q=.tup [.i (checkQ q).1,.i (checkQ q).2.1,.i (eQ q)]:=rfl
def badQ (q:QL₀) (g:List Int) (i n:Nat):Bool :=
 decide ((g.count ((q.ls[i]!).wi[n]?.getD 0):Int)<(q.cs[((q.ls[i]!).wi[n]?.getD 0).toNat]!).pl)||anyN (fun k=>g[k]?.getD 0 == (q.ls[i]!).wi[n]?.getD 0&&bef q ((q.ls[i]!).wi[n]?.getD 0).toNat i k) g.length
def complQ (q:QL₀) (g:List Int) (i:Nat):Int :=
 if idxN (badQ q g i) (place (q.ls[i]!).wi (g[i]?.getD 0))<0 then -1 else (q.ls[i]!).wi[(idxN (badQ q g i) (place (q.ls[i]!).wi (g[i]?.getD 0))).toNat]?.getD 0
theorem complQ_at {q:QL₀} {g:List Int} {i n:Nat} (h:n<place (q.ls[i]!).wi (g[i]?.getD 0)) (hall:∀ j,j<n→badQ q g i j=false) (hb:badQ q g i n=true):complQ q g i=(q.ls[i]!).wi[n]?.getD 0:=by
 unfold complQ
 rw[EK h hall hb,if_neg (by omega),Int.toNat_natCast]
theorem complQ_none {q:QL₀} {g:List Int} {i:Nat} (hall:∀ j,j<place (q.ls[i]!).wi (g[i]?.getD 0)→badQ q g i j=false):complQ q g i = -1:=by
 unfold complQ
 rw[EL hall];rfl
def acc1 (q:QL₀) (g:List Int) (i:Nat):Bool:=g[i]?.getD 0 != -1&&((place (q.ls[i]!).wi (g[i]?.getD 0):Int) == ((q.ls[i]!).wi.length:Int))
def acc2 (q:QL₀) (g:List Int) (c:Nat):Bool:=decide ((g.count (c:Int):Int)>(q.cs[c]!).pl)
def acc3 (q:QL₀) (g:List Int) (i:Nat):Bool:=decide (complQ q g i≥0)
def accQ (q:QL₀) (g:List Int):Int × Int × Int :=
 if eQ q≠0 then (0,0,eQ q) else if g.length≠q.ls.length then (0,0,3) else
 if 0≤idxN (acc1 q g) g.length then (idxN (acc1 q g) g.length,0,4) else
 if 0≤idxN (acc2 q g) q.cs.length then (0,idxN (acc2 q g) q.cs.length,7) else
 if 0≤idxN (acc3 q g) g.length then (idxN (acc3 q g) g.length,complQ q g (idxN (acc3 q g) g.length).toNat,9) else (0,0,0)
def accV (q:QL₀) (g:List Int):AV:=.tup [.i (accQ q g).1,.i (accQ q g).2.1,.i (accQ q g).2.2]
theorem accV_of {q:QL₀} {g:List Int} {a b c:Int} (h:accQ q g=(a,b,c)):accV q g=.tup [.i a,.i b,.i c]:=by unfold accV;rw[h]
section
variable {q:QL₀} {g:List Int}
theorem accQ_e (h:eQ q≠0):accQ q g=(0,0,eQ q):=by unfold accQ;rw[if_pos h]
theorem accQ_l (h:eQ q=0) (hl:g.length≠q.ls.length):accQ q g=(0,0,3):=by unfold accQ;rw[if_neg (by rw[h];simp),if_pos hl]
theorem accQ_1 {i:Nat} (h:eQ q=0) (hl:g.length=q.ls.length) (hi:i<g.length) (hall:∀ j,j<i→acc1 q g j=false) (hb:acc1 q g i=true):accQ q g=((i:Int),0,4):=by
 unfold accQ;rw[if_neg (by rw[h];simp),if_neg (by rw[hl];simp),EK hi hall hb,if_pos (by omega)]
theorem accQ_2 {c:Nat} (h:eQ q=0) (hl:g.length=q.ls.length) (h1:∀ j,j<g.length→acc1 q g j=false) (hi:c<q.cs.length) (hall:∀ j,j<c→acc2 q g j=false) (hb:acc2 q g c=true):accQ q g=(0,(c:Int),7):=by
 unfold accQ;rw[if_neg (by rw[h];simp),if_neg (by rw[hl];simp),EL h1,if_neg (by decide),EK hi hall hb,if_pos (by omega)]
theorem accQ_3 {i:Nat} (h:eQ q=0) (hl:g.length=q.ls.length) (h1:∀ j,j<g.length→acc1 q g j=false) (h2:∀ j,j<q.cs.length→acc2 q g j=false) (hi:i<g.length) (hall:∀ j,j<i→acc3 q g j=false) (hb:acc3 q g i=true):accQ q g=((i:Int),complQ q g i,9):=by
 unfold accQ;rw[if_neg (by rw[h];simp),if_neg (by rw[hl];simp),EL h1,if_neg (by decide),EL h2,if_neg (by decide),EK hi hall hb,if_pos (by omega),Int.toNat_natCast]
theorem accQ_0 (h:eQ q=0) (hl:g.length=q.ls.length) (h1:∀ j,j<g.length→acc1 q g j=false) (h2:∀ j,j<q.cs.length→acc2 q g j=false) (h3:∀ j,j<g.length→acc3 q g j=false):accQ q g=(0,0,0):=by
 unfold accQ;rw[if_neg (by rw[h];simp),if_neg (by rw[hl];simp),EL h1,if_neg (by decide),EL h2,if_neg (by decide),EL h3,if_neg (by decide)]
end
end Go.Proofs.YtfnhbbohjnjfnaaGreat.AM

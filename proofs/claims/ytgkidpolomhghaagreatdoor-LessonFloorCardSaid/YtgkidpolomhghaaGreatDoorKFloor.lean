/- Parts of the proof of Floor. -/
import Derived.Test.YtgkidpolomhghaaGreatDoorProg
import Derived.Test.YtgkidpolomhghaaGreatDoorRows
import Derived.WalkKit
import Derived.ProofKit
import Derived.OpenShut
import Derived.Carry
import Derived.Test.YtgkidpolomhghaaGreatDoorZ27
set_option linter.unusedVariables false
set_option linter.unusedSimpArgs false
set_option linter.unusedSectionVars false
namespace Go.Proofs.YtgkidpolomhghaaGreatDoor.AM
variable [Dr]
open Go
abbrev vs42:List Nat:=[0,1,4,5,6,16,20,28,32,54]
def ic42l0:IC:=(.seq (.seq (.region [jv 4,jv 0,je 1,jw 8 (.bin .lss .int) [.t 0,.t 2]])
 (.cond 8 .skip
 (.exit 2)))
 (.seq (.block 3 (.seq (.dr [[],[],[0,1],[2],[3],[],[5],[6],[7],[4,8,7],[9],[10,9],[11],[11],[12,13,11],[14,11],[15,11],[16,11,11],[17,11],[11,18]] [jv 0,jv 4,ja 2 0 1,jG 0 2,jl 3,jv 1,je 5,jk 83 [.t 6],jq (.bin .sub .int) [.t 7,jn 1],jk 64 [.t 4,jn 0,.t 8],jq .not [.t 9],jt 10,jh 11 false 0,jh 11 false 4,jg 11 false (.iaS 2) [.t 12,.t 13],jg 11 false (.fadd 1) [.t 14],ji 11 false 15,jf 11 false 64 [.t 16,jn 0,jn 100000],jg 11 false .not [.t 17],jw 9 .pick [.t 11,jB true,.t 18]])
 (.cond 9 (.seq (.region [jz 2 7])
 .ret)
 .skip)))
 (.region [jv 4,jq (.bin .add .int) [.t 0,jn 1],jm 4 1])))
def ic42l1:IC:=(.seq (.seq (.region [jv 3,jv 1,je 1,jw 6 (.bin .lss .int) [.t 0,.t 2]])
 (.cond 6 .skip
 (.exit 0)))
 (.seq (.block 1 (.seq (.region [jv 1,jv 3,ja 1 0 1,jl 2,jk 64 [.t 3,jn 0,jn 3],jw 7 .not [.t 4]])
 (.cond 7 (.seq (.region [jz 2 7])
 .ret)
 .skip)))
 (.region [jv 3,jq (.bin .add .int) [.t 0,jn 1],jm 3 1])))
def ic42:IC:=(.seq (.region [jz 2 0])
 (.seq (.seq (.region [jv 0,je 0,jk 64 [.t 1,jn 1,jn 12],jq .not [.t 2],jt 3,jh 4 false 1,jg 4 false (.len false) [.t 5],jf 4 false 64 [.t 6,jn 1,jn 6],jg 4 false .not [.t 7],jw 5 .pick [.t 4,jB true,.t 8]])
 (.cond 5 (.seq (.region [jz 2 3])
 .ret)
 .skip))
 (.seq (.seq (.region [jz 3 0])
 (.block 0 (.loop ic42l1)))
 (.seq (.seq (.region [jz 4 0])
 (.block 2 (.loop ic42l0)))
 (.seq (.region [jz 2 0])
 .ret)))))
abbrev rs42:List RC:=[(.v 2)]
theorem fok42 (p:Bool):FnOk Tryz.prog 42 ⟨ic42,vs42,55,rs42,p⟩:=.mk2 Tryz.func42 (by kernel_rfl) (by kernel_rfl) (by kernel_rfl) (by kernel_rfl) (by kernel_rfl)
abbrev vs45:List Nat:=[0,1,4,5,6,7,8,9,17]
def ic45l0:IC:=(.seq (.seq (.region [jv 6,jv 1,je 1,jq (.bin .lss .int) [.t 0,.t 2],jt 3,jh 4 true 6,jg 4 true (.bin .lss .int) [.t 5,jn 30],jw 8 .pick [.t 4,.t 6,jB false]])
 (.cond 8 .skip
 (.exit 0)))
 (.seq (.block 1 (.seq (.region [jv 1,jv 6,ja 1 0 1,jl 2,jq (.conv .i64) [.t 3],jv 0,je 5,jq (.bin .rem .int) [.t 4,.t 6],jm 7 7])
 (.dr [[],[],[1],[0,2],[],[],[],[5,6],[7],[8],[4,9],[3,3,0,1,2,3],[10,11,0,1,2,3,4,5,6,7,8,9,10,11]] [jv 4,jv 7,jq (.bslice 1 1 [(.cv (.int .i64 0))] [(0,1)]) [.t 1],jq (.append 1 8) [.t 0,.t 2],jv 5,jv 0,jv 7,ja 2 5 6,jG 1 7,jl 8,jq (.bin .add .int) [.t 4,.t 9],jm 4 3,jm 5 10])))
 (.region [jv 6,jq (.bin .add .int) [.t 0,jn 1],jm 6 1])))
def ic45:IC:=(.seq (.region [jw 2 .mv [jS],jz 3 0])
 (.seq (.region [jw 4 .mv [jS]])
 (.seq (.region [jz 5 0])
 (.seq (.seq (.region [jz 6 0])
 (.block 0 (.loop ic45l0)))
 (.seq (.region [jv 4,jv 5,jm 2 0,jm 3 1])
 .ret)))))
abbrev rs45:List RC:=[(.v 2),(.v 3)]
theorem fok45 (p:Bool):FnOk Tryz.prog 45 ⟨ic45,vs45,41,rs45,p⟩:=.mk2 Tryz.func45 (by kernel_rfl) (by kernel_rfl) (by kernel_rfl) (by kernel_rfl) (by kernel_rfl)
abbrev vs46:List Nat:=[0,1,2,6,7,8,9,10,14,20,32]
def ic46l0:IC:=(.seq (.seq (.region [jv 7,jv 2,je 1,jw 9 (.bin .lss .int) [.t 0,.t 2]])
 (.cond 9 .skip
 (.exit 2)))
 (.seq (.block 3 (.seq (.region [jv 0,jv 2,jv 7,ja 1 1 2,jl 3,ja 2 0 4,jG 0 5,jl 6,jv 5,jd 10 43 [.t 7,.t 8]])
 (.cond 10 (.region [jv 6,jq (.bin .add .int) [.t 0,jn 1],jm 6 1])
 .skip)))
 (.region [jv 7,jq (.bin .add .int) [.t 0,jn 1],jm 7 1])))
def ic46l1:IC:=(.seq (.seq (.region [jv 5,jv 1,je 1,jw 8 (.bin .lss .int) [.t 0,.t 2]])
 (.cond 8 .skip
 (.exit 0)))
 (.seq (.block 1 (.seq (.region [jz 6 0])
 (.seq (.seq (.region [jz 7 0])
 (.block 2 (.loop ic46l0)))
 (.region [jv 4,jv 6,jv 1,jv 5,ja 1 2 3,jl 4,jq .min2 [.t 1,.t 5],jq (.bslice 1 1 [(.cv (.int .i64 0))] [(0,1)]) [.t 6],jq (.append 1 8) [.t 0,.t 7],jm 4 8]))))
 (.region [jv 5,jq (.bin .add .int) [.t 0,jn 1],jm 5 1])))
def ic46:IC:=(.seq (.region [jw 3 .mv [jS]])
 (.seq (.region [jw 4 .mv [jS]])
 (.seq (.seq (.region [jz 5 0])
 (.block 0 (.loop ic46l1)))
 (.seq (.region [jv 4,jm 3 0])
 .ret))))
abbrev rs46:List RC:=[(.v 3)]
theorem fok46 (p:Bool):FnOk Tryz.prog 46 ⟨ic46,vs46,45,rs46,p⟩:=.mk2 Tryz.func46 (by kernel_rfl) (by kernel_rfl) (by kernel_rfl) (by kernel_rfl) (by kernel_rfl)
abbrev vs47:List Nat:=[0,1,4,5,6,7,11,17,26,34]
def ic47l0:IC:=(.seq (.seq (.region [jv 5,jv 1,je 1,jw 7 (.bin .lss .int) [.t 0,.t 2]])
 (.cond 7 .skip
 (.exit 2)))
 (.seq (.block 3 (.seq (.region [jv 0,jv 3,ja 2 0 1,jG 0 2,jl 3,jv 5,jd 8 43 [.t 4,.t 5]])
 (.cond 8 (.region [jv 4,jv 1,jv 5,ja 1 1 2,jl 3,jq (.bin .add .int) [.t 0,.t 4],jm 4 5])
 .skip)))
 (.region [jv 5,jq (.bin .add .int) [.t 0,jn 1],jm 5 1])))
def ic47l1:IC:=(.seq (.seq (.region [jv 3,jv 0,je 1,jw 6 (.bin .lss .int) [.t 0,.t 2]])
 (.cond 6 .skip
 (.exit 0)))
 (.seq (.block 1 (.seq (.region [jz 4 0])
 (.seq (.seq (.region [jz 5 0])
 (.block 2 (.loop ic47l0)))
 (.seq (.region [jv 4,jw 9 (.bin .gtr .int) [.t 0,jn 1000]])
 (.cond 9 (.seq (.region [jw 2 .mv [jB false]])
 .ret)
 .skip)))))
 (.region [jv 3,jq (.bin .add .int) [.t 0,jn 1],jm 3 1])))
def ic47:IC:=(.seq (.region [jw 2 .mv [jB false]])
 (.seq (.seq (.region [jz 3 0])
 (.block 0 (.loop ic47l1)))
 (.seq (.region [jw 2 .mv [jB true]])
 .ret)))
abbrev rs47:List RC:=[(.v 2)]
theorem fok47 (p:Bool):FnOk Tryz.prog 47 ⟨ic47,vs47,35,rs47,p⟩:=.mk2 Tryz.func47 (by kernel_rfl) (by kernel_rfl) (by kernel_rfl) (by kernel_rfl) (by kernel_rfl)
abbrev vs64:List Nat:=[0,1,2,6]
def ic64:IC:=(.seq (.region [jw 3 .mv [jB false]])
 (.seq (.region [jv 0,jv 1,jq (.bin .geq .int) [.t 0,.t 1],jt 2,jh 3 true 0,jh 3 true 2,jg 3 true (.bin .leq .int) [.t 4,.t 5],jq .pick [.t 3,.t 6,jB false],jm 3 7])
 .ret))
abbrev rs64:List RC:=[(.v 3)]
theorem fok64 (p:Bool):FnOk Tryz.prog 64 ⟨ic64,vs64,15,rs64,p⟩:=.mk2 Tryz.func64 (by kernel_rfl) (by kernel_rfl) (by kernel_rfl) (by kernel_rfl) (by kernel_rfl)
end Go.Proofs.YtgkidpolomhghaaGreatDoor.AM
namespace Go.Proofs.YtgkidpolomhghaaGreatDoor.AM
variable [Dr]
open Go
variable {P:Program} {fx:Fx} {s:St} {Q:Exit→St→Prop} {f:FuncId}
theorem WB.later {m:LM} {X:Nat→Prop} {en:En} {w:World} {c:Code} {s':St} {m':LM} {w':World} {ac':Act} (h:WB f P fx c s' Q) (hr:rok fx m) (hs':SRel fx m' X en s' ac' w') (hst:Step fx.n0 m X w m' w') :
  InF f (fen m fx.r) 0 P c (Lift fx m X en w Q) ac' w':=by
 rw[← EQ hr hst]
 exact InF.mono (h m' X en ac' w' hs' (EH hr hst)) fun e ac2 w2 ⟨s2,m2,h1,h2,h3⟩=>⟨s2,m2,h1,h2,hst.trans h3⟩
end Go.Proofs.YtgkidpolomhghaaGreatDoor.AM
namespace Go.Proofs.YtgkidpolomhghaaGreatDoor.Pl
section
variable {ps:List Pat}
end
theorem QaW:∀ {n:Nat} {f g:Nat→Int},(∀ i,i<n→f i≤g i)→sumI n f≤sumI n g
 | 0,_,_,_=>Int.le_refl _
 | n+1,f,g,h=>by
  have:=QaW (n:=n) fun i hi=>h i (by omega)
  have:=h n (by omega)
  simp only[sumI];omega
theorem sumI_nn {n:Nat} {f:Nat→Int} (h:∀ i,i<n→0≤f i):0≤sumI n f:=by
 have:=QaW (f:=fun _=>0) h
 have h0:∀ n,sumI n (fun _=>0)=0:=fun n=>by induction n with
  | zero=>rfl
  | succ n ih=>simp[sumI,ih]
 rw[h0] at this;exact this
theorem PS:∀ {n:Nat} {f g:Nat→Int},(∀ i,i<n→f i=g i)→sumI n f=sumI n g
 | 0,_,_,_=>rfl
 | n+1,f,g,h=>by
  simp only[sumI]
  rw[PS fun i hi=>h i (by omega),h n (by omega)]
theorem QbX:∀ {n:Nat} {f g:Nat→Int},sumI n (fun i=>f i+g i)=sumI n f+sumI n g
 | 0,_,_=>rfl
 | n+1,f,g=>by simp only[sumI];rw[QbX];omega
theorem S9 {ps:List Pat} {pr:List Int} (h:OE ps pr=true):∀ cs:List Nat,(∀ x∈cs,x<ps.length)→sumI pr.length (fun i=>gI pr i*YJ ps cs i)≤1000*cs.length
 | [],_=>by
  rw[PS (g:=fun _=>0) fun i _=>by simp[YJ]]
  have h0:∀ n,sumI n (fun _=>0)=0:=fun n=>by induction n with
   | zero=>rfl
   | succ n ih=>simp[sumI,ih]
  rw[h0];simp
 | c::cs,hx=>by
  have ih:=S9 h cs fun x hx'=>hx x (WU _ hx')
  have hc:RO (ps[c]!).1 pr≤1000:=by
   unfold OE at h
   rw[Q1] at h
   simpa using h c (ZI.2 (hx c (List.mem_cons_self ..)))
  have e:sumI pr.length (fun i=>gI pr i*YJ ps (c::cs) i)=sumI pr.length (fun i=>(gI pr i*YJ ps cs i)+(if bit (ps[c]!).1 i then gI pr i else 0)):=PS fun i _=>by
   simp only[YJ,K9]
   by_cases hb:bit (ps[c]!).1 i=true
   ·rw[if_pos hb,if_pos hb];push_cast;rw[Int.mul_add];omega
   ·rw[if_neg hb,if_neg hb];push_cast;simp
  rw[e,QbX]
  have:sumI pr.length (fun i=>if bit (ps[c]!).1 i then gI pr i else 0)≤1000:=hc
  simp only[List.length_cons];push_cast;omega
theorem floor_le {ps:List Pat} {pr l:List Int} (hf:OE ps pr=true) (hp:NN pr) (hl:l.length=pr.length) {cs:List Nat} (hx:∀ x∈cs,x<ps.length) (he:OS ps l cs):dotL pr l≤1000*cs.length:=by
 refine Int.le_trans (QaW fun i hi=>?_) (S9 hf cs hx)
 exact Int.mul_le_mul_of_nonneg_left (he i (by omega)) (hp i hi)
theorem dot_nn {pr l:List Int} (hp:NN pr) (hn:NN l) (hl:l.length=pr.length):0≤dotL pr l:=sumI_nn fun i hi=>Int.mul_nonneg (hp i hi) (hn i (by omega))
end Go.Proofs.YtgkidpolomhghaaGreatDoor.Pl
namespace Go.Proofs.YtgkidpolomhghaaGreatDoor.AM
variable [Dr]
open Go Pl
section
variable {l:List Pat} {k:Nat}
theorem pat_0 (h:k<l.length):(NU l)[k*2]? = some (.int .i64 (l[k]!).1):=flat_get IY h (j:=0) (by omega)
theorem pat_1 (h:k<l.length):(NU l)[k*2+1]? = some (.int .i64 (l[k]!).2):=flat_get IY h (j:=1) (by omega)
end
theorem le64 (n lo hi:Int):PC Tryz.prog 64 [.i n,.i lo,.i hi] (.b (inB n lo hi)):=by
 refine ⟨ZF (fok64 true) (QC rfl) ?_,rfl⟩
 unfold inB
 by_cases h:n≥lo <;> simp only[ic64,h,evA,simprocAttr] <;> exact frz
end Go.Proofs.YtgkidpolomhghaaGreatDoor.AM
namespace Go.Proofs.YtgkidpolomhghaaGreatDoor.AM
variable [Dr]
open Go Go.ChangeShapes Go.WideShapes Go.ChangeAt Go.RowKit
abbrev noO:Nat→Prop:=Own (fun _=>none) (fun _=>False)
theorem not_noO (b:Nat):¬ noO b:=by rintro (h | ⟨l,hl⟩);exact h;cases hl
theorem DG {α:Type} {Q:Nat→α→Prop}:∀ (n:Nat),(∀ i,i<n→∃ l,Q i l)→∃ L:List α,L.length=n∧∀ (i:Nat) (l:α),L[i]? = some l→Q i l
 | 0,_=>⟨[],rfl,by simp⟩
 | n+1,h=>by
  obtain ⟨L,h1,h2⟩:=DG n (fun i hi=>h i (by omega))
  obtain ⟨l,hl⟩:=h n (by omega)
  refine ⟨L++[l],by simp[h1],fun i l' hi=>?_⟩
  rcases ZB i n with hlt | hge
  ·rw[QE (by omega)] at hi;exact h2 i l' hi
  ·rw[QS (by omega),h1] at hi
   have:i=n:=by
    rcases ZB n i with h' | h'
    ·rw[QN (by simp;omega)] at hi;cases hi
    ·omega
   subst this
   simp at hi;subst hi;exact hl
theorem CJ {R:Nat→CV→Prop} {esz:Nat}:∀ (L:List (List CV)) (n:Nat),(∀ (i:Nat) (l:List CV),L[i]? = some l→l.length=esz∧∀ (j:Nat) (c:CV),l[j]? = some c→R (n+i*esz+j) c) →
  L.flatten.length=L.length*esz∧∀ (k:Nat) (c:CV),L.flatten[k]? = some c→R (n+k) c
 | [],n,_=>by simp
 | l::L,n,h=>by
  obtain ⟨h1,h2⟩:=h 0 l (by simp)
  have ih:=CJ L (n+esz) (fun i l' hi=>by
   obtain ⟨g1,g2⟩:=h (i+1) l' (by simpa using hi)
   refine ⟨g1,fun j c hj=>?_⟩
   have:=g2 j c hj
   rwa [WP,Nat.one_mul,← Nat.add_assoc,Nat.add_right_comm n] at this)
  refine ⟨by simp[h1,ih.1,WP,Nat.add_comm],fun k c hk=>?_⟩
  rw[List.flatten_cons] at hk
  rcases ZB k l.length with hlt | hge
  ·rw[QE hlt] at hk
   have:=h2 k c hk
   simpa using this
  ·rw[QS hge] at hk
   have:=ih.2 (k-l.length) c hk
   rwa [show n+esz+(k-l.length)=n+k by omega] at this
theorem A4 {P:Program} {R:Nat→CV→Prop} {N:Nat}:∀ (fs:List Field) (L:List (List CV)) (n:Nat),J8 P fs n=some N→L.length=fs.length →
  (∀ (i:Nat) (f:Field) (l:List CV),fs[i]? = some f→L[i]? = some l→l.length=P.cellsOf f.type∧∀ (j:Nat) (c:CV),l[j]? = some c→R (f.offset+j) c) →
  n+L.flatten.length=N∧∀ (k:Nat) (c:CV),L.flatten[k]? = some c→R (n+k) c
 | [],L,n,he,hl,_=>by
  have:L=[]:=ZT (by simpa using hl)
  subst this
  simp only[J8,Option.some.injEq] at he
  simp[he]
 | f::fs,[],n,_,hl,_=>by simp at hl
 | f::fs,l::L,n,he,hl,h=>by
  simp only[J8] at he
  split at he
  ·rename_i hoff
   obtain ⟨h1,h2⟩:=h 0 f l (by simp) (by simp)
   have ih:=A4 fs L (n+P.cellsOf f.type) he (by simpa using hl) (fun i f' l' hf hl'=>h (i+1) f' l' (by simpa using hf) (by simpa using hl'))
   refine ⟨by rw[← ih.1];simp[h1];omega,fun k c hk=>?_⟩
   rw[List.flatten_cons] at hk
   rcases ZB k l.length with hlt | hge
   ·rw[QE hlt] at hk
    have:=h2 k c hk
    rwa [hoff] at this
   ·rw[QS hge] at hk
    have:=ih.2 (k-l.length) c hk
    rwa [show n+P.cellsOf f.type+(k-l.length)=n+k by omega] at this
  ·cases he
theorem NT {W:World} {a:Addr}:∀ (cs:List CV) (i:Nat),(∀ (j:Nat) (c:CV),cs[j]? = some c→∃ v,W.cell? (a.add (i+j))=some v∧c.rep W noO v)→CV.reps W noO cs a i
 | [],_,_=>by simp[CV.reps]
 | c::cs,i,h=>by
  simp only[CV.reps]
  refine ⟨not_noO _,by simpa using h 0 c (by simp),NT cs (i+1) fun j c' hj=>?_⟩
  have:=h (j+1) c' (by simpa using hj)
  rwa [show i+(j+1)=i+1+j by omega] at this
section
variable {H:Type} {enc:TypeId × Value→H} {P:Program} {W:World}
theorem EW:∀ (n:Nat) (t:TypeId) (cs:List Value) (x:DataW H × List MemPlace) (fuel:Nat),TG P n t=true→DataW.trod enc P W 0 (fun _=>true) true fuel t cs=some x →
  ∃ cvs:List CV,Typed P t cvs∧cvs.length=cs.length∧∀ (i:Nat) (c:CV) (v:Value),cvs[i]? = some c→cs[i]? = some v→c.rep W noO v
 | 0,t,cs,x,fuel,ho,_=>by simp[TG] at ho
 | n + 1,t,cs,x,fuel,ho,h=>by
  simp only[TG] at ho
  split at ho
  ·rename_i ht
   obtain ⟨b,rfl,_⟩:=DataW.trod_bool ht h
   refine ⟨[.bool b],.bool ht b,rfl,fun i c v h1 h2=>?_⟩
   cases i with
   | zero=>simp at h1 h2;subst h1 h2;simp[CV.rep]
   | succ i=>simp at h1
  ·rename_i k ht
   obtain ⟨b,rfl,_,hw⟩:=DataW.trod_int ht h
   refine ⟨[.int k b],.int ht b hw,rfl,fun i c v h1 h2=>?_⟩
   cases i with
   | zero=>simp at h1 h2;subst h1 h2;simp[CV.rep]
   | succ i=>simp at h1
  ·rename_i ht
   obtain ⟨s,rfl,_,hw⟩:=DataW.trod_string ht h
   refine ⟨[.str s],.str ht s hw,rfl,fun i c v h1 h2=>?_⟩
   cases i with
   | zero=>simp at h1 h2;subst h1 h2;simp[CV.rep]
   | succ i=>simp at h1
  ·rename_i e ht
   rcases DataW.trod_slice ht h with ⟨rfl,_⟩ | ⟨a,len,cap,elems,rest,m,_,rfl,_,_,hlc,hcm,hel,hget,_⟩
   ·refine ⟨[.rsl [] 0],by simpa using Typed.slc ht [] (by simp) (by simp) (by simp),rfl,fun i c v h1 h2=>?_⟩
    cases i with
    | zero=>simp at h1 h2;subst h1 h2;simp[CV.rep]
    | succ i=>simp at h1
   ·obtain ⟨L,hL,hQ⟩:=DG (Q:=fun i l=>Typed P e l∧l.length=P.cellsOf e∧∀ (j:Nat) (c:CV),l[j]? = some c→∃ v,W.cell? (a.add (i*P.cellsOf e+j))=some v∧c.rep W noO v) len (fun i hi=>by
     have hg:=hget i hi
     rw[QI (by omega)] at hg
     obtain ⟨ci,h1,h2⟩:=QB.1 hg
     obtain ⟨_,hlen,hcell⟩:=World.cells?_some h1
     obtain ⟨cvs,g1,g2,g3⟩:=EW n e ci _ _ ho h2
     refine ⟨cvs,g1,by omega,fun j c hj=>?_⟩
     have hjl:j<cvs.length:=(QH.1 hj).1
     have hc:=hcell j (by omega)
     rw[QI (by omega)] at hc
     exact ⟨_,by rw[← Addr.add_add];exact hc,g3 j c _ hj (QI _)⟩)
    have hmem:∀ l∈L,∃ i:Nat,L[i]? = some l:=fun l hl=>List.mem_iff_getElem?.1 hl
    have hfl:=CJ (R:=fun k c=>∃ v,W.cell? (a.add k)=some v∧c.rep W noO v) (esz:=P.cellsOf e) L 0 (fun i l hi=>⟨(hQ i l hi).2.1,fun j c hj=>by simpa using (hQ i l hi).2.2 j c hj⟩)
    refine ⟨[.rsl L.flatten L.length],Typed.slc ht L (by omega) (fun l hl=>let ⟨i,hi⟩:=hmem l hl;(hQ i l hi).2.1) (fun l hl=>let ⟨i,hi⟩:=hmem l hl;(hQ i l hi).1),rfl,fun i c v h1 h2=>?_⟩
    cases i with
    | zero =>
     simp at h1 h2;subst h1 h2
     simp only[CV.rep]
     exact .inr ⟨a,cap,by rw[hL],by omega,NT _ 0 (fun j c hj=>hfl.2 j c hj)⟩
    | succ i=>simp at h1
  ·rename_i k e ht
   simp only[QD,decide_eq_true_eq] at ho
   obtain ⟨xs,m,_,_,hlen,hxs,hget⟩:=DataW.trod_array ht h
   obtain ⟨L,hL,hQ⟩:=DG (Q:=fun i l=>Typed P e l∧l.length=P.cellsOf e∧∀ (j:Nat) (c:CV),l[j]? = some c→∀ v,cs[i*P.cellsOf e+j]? = some v→c.rep W noO v) k (fun i hi=>by
     have hg:=hget i hi
     rw[QI (by omega)] at hg
     obtain ⟨cvs,g1,g2,g3⟩:=EW n e _ _ _ ho.1 hg
     have hik:i*P.cellsOf e+P.cellsOf e≤k*P.cellsOf e:=by
      have:=YQ (P.cellsOf e) (show i+1≤k by omega)
      rwa [WP,Nat.one_mul] at this
     have hl2:cvs.length=P.cellsOf e:=by rw[g2];simp;omega
     refine ⟨cvs,g1,hl2,fun j c hj v hv=>?_⟩
     have hjl:j<cvs.length:=(QH.1 hj).1
     exact g3 j c v hj (by rw[Z7,if_pos (by omega),X4];exact hv))
   have hmem:∀ l∈L,∃ i:Nat,L[i]? = some l:=fun l hl=>List.mem_iff_getElem?.1 hl
   have hfl:=CJ (R:=fun k c=>∀ v,cs[k]? = some v→c.rep W noO v) (esz:=P.cellsOf e) L 0 (fun i l hi=>⟨(hQ i l hi).2.1,fun j c hj=>by simpa using (hQ i l hi).2.2 j c hj⟩)
   exact ⟨L.flatten,Typed.arr ht L hL (fun l hl=>let ⟨i,hi⟩:=hmem l hl;(hQ i l hi).2.1) (fun l hl=>let ⟨i,hi⟩:=hmem l hl;(hQ i l hi).1),by rw[hfl.1,hlen,ho.2,hL],fun i c v h1 h2=>hfl.2 i c h1 v (by simpa using h2)⟩
  ·rename_i fs ht
   simp only[QD,decide_eq_true_eq,Q1] at ho
   obtain ⟨xs,m,_,_,hlen,hxs,hget⟩:=DataW.trod_struct ht h
   obtain ⟨L,hL,hQ⟩:=DG (Q:=fun i l=>∀ f,fs[i]? = some f→Typed P f.type l∧l.length=min (P.cellsOf f.type) (cs.length-f.offset)∧∀ (j:Nat) (c:CV),l[j]? = some c→∀ v,cs[f.offset+j]? = some v→c.rep W noO v) fs.size (fun i hi=>by
     have hfi:fs[i]? = some fs[i]:=Q7 hi
     have hg:=hget i fs[i] hfi
     rw[QI (by omega)] at hg
     obtain ⟨cvs,g1,g2,g3⟩:=EW n _ _ _ _ (ho.1 fs[i] (by simp)) hg
     have hl2:cvs.length=min (P.cellsOf fs[i].type) (cs.length-fs[i].offset):=by rw[g2];simp
     refine ⟨cvs,fun f hf=>?_⟩
     rw[hfi] at hf;cases hf
     refine ⟨g1,hl2,fun j c hj v hv=>?_⟩
     have hjl:j<cvs.length:=(QH.1 hj).1
     exact g3 j c v hj (by rw[Z7,if_pos (by omega),X4];exact hv))
   have hoff:∀ (fs:List Field) (n N:Nat),J8 P fs n=some N→n≤N∧∀ (i:Nat) (f:Field),fs[i]? = some f→f.offset+P.cellsOf f.type≤N:=by
    intro fs
    induction fs with
    | nil=>intro n N h;simp only[J8,Option.some.injEq] at h;simp[h]
    | cons f fs ih =>
     intro n N h
     simp only[J8] at h
     split at h
     ·rename_i ho
      obtain ⟨h1,h2⟩:=ih _ _ h
      refine ⟨by omega,fun i f' hi=>?_⟩
      cases i with
      | zero=>simp at hi;subst hi;omega
      | succ i=>exact h2 i f' (by simpa using hi)
     ·cases h
   have hin:=(hoff _ _ _ ho.2).2
   have hl:∀ (i:Nat) (f:Field) (l:List CV),fs[i]? = some f→L[i]? = some l→l.length=P.cellsOf f.type:=by
    intro i f l hf hl
    obtain ⟨_,h2,_⟩:=hQ i l hl f hf
    have:=hin i f (by simpa using hf)
    omega
   have hfl:=A4 (P:=P) (R:=fun k c=>∀ v,cs[k]? = some v→c.rep W noO v) fs.toList L 0 ho.2 (by simpa using hL) (fun i f l hf hl' =>
    ⟨hl i f l (by simpa using hf) hl',fun j c hj=>(hQ i l hl' f (by simpa using hf)).2.2 j c hj⟩)
   exact ⟨L.flatten,Typed.struct ht L hL hl (fun i f l hf hl'=>(hQ i l hl' f hf).1),by have:=hfl.1;omega,fun i c v h1 h2=>hfl.2 i c h1 v (by simpa using h2)⟩
  ·cases ho
theorem DV:∀ (cvs:List CV) (vs:List Value),cvs.length=vs.length→(∀ (i:Nat) (c:CV) (v:Value),cvs[i]? = some c→vs[i]? = some v→c.rep W noO v)→QK nom noX W (cvs.map .cv) vs
 | [],[],_,_=>by simp[QK]
 | c::cvs,v::vs,hl,h=>by
  simp only[Q0,QK,VRel]
  exact ⟨h 0 c v rfl rfl,DV cvs vs (by simpa using hl) fun i c v h1 h2=>h (i+1) c v (by simpa using h1) (by simpa using h2)⟩
 | [],_::_,hl,_=>by simp at hl
 | _::_,[],hl,_=>by simp at hl
theorem QfB {n:Nat} {t:TypeId} {v:Value} {d:DataW H} {ps:List MemPlace} {r:Reach} {base:Nat} (ho:TG P n t=true) (hval:Value.okWide P W r base t v) (h:DataW.Trod enc P W 0 (fun _=>true) true t v d ps) :
  ∃ cs,Typed P t cs∧VRel nom noX W (avOf P t cs) v:=by
 obtain ⟨fuel,h⟩:=h
 obtain ⟨cvs,h1,h2,h3⟩:=EW n t _ _ _ ho h
 refine ⟨cvs,h1,?_⟩
 unfold avOf
 have one:(v.cells.toList=[v])→VRel nom noX W (.cv (cvs.headD .nilp)) v:=by
  intro hv
  rw[hv] at h2 h3
  match cvs,h2 with
  | [c],_=>simp only[List.headD_cons,VRel];exact h3 0 c v rfl rfl
 cases n with
 | zero=>simp[TG] at ho
 | succ n =>
  simp only[TG] at ho
  split at ho
  ·rename_i ht;rw[ht];obtain ⟨b,rfl⟩:=okWide_bool ht hval;exact one rfl
  ·rename_i ht;rw[ht];obtain ⟨b,rfl⟩:=okWide_int ht hval;exact one rfl
  ·rename_i ht;rw[ht];obtain ⟨b,rfl⟩:=okWide_string ht hval;exact one rfl
  ·rename_i ht;rw[ht];obtain ⟨_,_,_,rfl⟩:=okWide_slice ht hval;exact one rfl
  ·rename_i ht;rw[ht]
   simp only[Value.okWide,ht] at hval
   obtain ⟨arr,rfl,_⟩:=hval
   simp only[VRel]
   exact ⟨arr.toList,by simp,DV _ _ h2 h3⟩
  ·rename_i ht;rw[ht]
   simp only[Value.okWide,ht] at hval
   obtain ⟨arr,rfl,_⟩:=hval
   simp only[VRel]
   exact ⟨arr.toList,by simp,DV _ _ h2 h3⟩
  ·cases ho
theorem C1 {n:Nat} {r:Reach} {base:Nat}:∀ {ts:List TypeId} {vs:List Value} {ds:List (DataW H)} {ps:List MemPlace},(ts.all (TG P n))=true →
  (∀ (j:Nat) (t:TypeId) (v:Value),ts[j]? = some t→vs[j]? = some v→Value.okWide P W r base t v)→DataW.TrodAll enc P W 0 (fun _=>true) true ts vs ds ps →
  ds.length=ts.length∧∃ avs,Args P ts avs∧QK nom noX W avs vs
 | [],_,_,_,_,_,h=>by
  obtain ⟨rfl,rfl,rfl⟩:=trodAll_nil h
  exact ⟨rfl,[],.nil,by simp[QK]⟩
 | t::ts,_,_,_,ho,hval,h=>by
  obtain ⟨v,vs1,d,ds1,a,b,rfl,rfl,rfl,h1,h2⟩:=trodAll_cons h
  simp only[List.all_cons,QD] at ho
  obtain ⟨cs,g1,g2⟩:=QfB ho.1 (hval 0 t v rfl rfl) h1
  obtain ⟨hl,avs,g3,g4⟩:=C1 ho.2 (fun j t v h1 h2=>hval (j+1) t v (by simpa using h1) (by simpa using h2)) h2
  exact ⟨by simp[hl],_,.cons g1 g3,by simp only[QK];exact ⟨g2,g4⟩⟩
theorem LU (hl:laidOutB P=true) {W':World} (hb:Below W.heap.size W W'):∀ {ts:List TypeId} {vs:List Value} {ds:List (DataW H)} {ps:List MemPlace},(ts.all fun t=>P.readableRec t&&decide (t<P.types.size))=true →
  DataW.TrodAll enc P W 0 (fun _=>true) true ts vs ds ps→(∀ x∈ps,x.block<W.heap.size)→DataW.TrodAll enc P W' 0 (fun b=>decide (b<W.heap.size)) true ts vs ds ps
 | [],_,_,_,_,h,_=>by
  obtain ⟨rfl,rfl,rfl⟩:=trodAll_nil h
  exact trodAll_mk0
 | t::ts,_,_,_,ho,h,hlt=>by
  obtain ⟨v,vs1,d,ds1,a,b,rfl,rfl,rfl,h1,h2⟩:=trodAll_cons h
  simp only[List.all_cons,QD,decide_eq_true_eq] at ho
  refine trodAll_cons_mk (Below.trod hl ho.1.1 ho.1.2 h1 hb fun x hx=>hlt x (by simp[hx])) (LU hl hb ?_ h2 fun x hx=>hlt x (by simp[hx]))
  simpa using ho.2
theorem law_of_AC {f:FuncId} {fn:Func} {s:ChangeSpec} {n:Nat} {t:TypeId} {base:Nat} {args:Array Value} {ds gs:List (DataW H)} {before:List MemPlace}
  (hl:laidOutB P=true) (hpar:(fn.params.toList.all fun t=>P.readableRec t&&decide (t<P.types.size))=true) (ho:fn.params.toList.all (TG P n)=true)
  (hres:fn.resultTypes = #[t]) (htb:P.underlying t=some .bool) (hsv:s.vars=[]) (hs:∀ ds:List (DataW H),ds.length=fn.params.toList.length→s.fn H ds = { results:=[.lit (.bool true)],args:=ds })
  (hAC:∀ avs,Args P fn.params.toList avs→AC P f avs [] fun r _=>r=.b true)
  (hval:∀ (j:Nat) t v,fn.params[j]? = some t→args[j]? = some v→Value.okWide P W .any base t v) (hgl:GlOk nom noX W)
  (hW:DataW.Whole enc P fn.params.toList s.vars false W args.toList ds gs before) :
  Calls P f args W fun e W'=>∃ v,e=.returned v∧s.post enc P fn false true false false W args v W':=by
 have hW':=hW
 obtain ⟨p,q,hA,hV,rfl,hfz,hnd⟩:=hW
 rw[hsv] at hV
 obtain ⟨rfl,rfl⟩:=trodVars_none hV
 have hlt:∀ x∈p,x.block<W.heap.size:=fun x hx=>hW'.lt x (by simp[hx])
 obtain ⟨hlen,avs,hav,hrel⟩:=C1 ho (fun j t v h1 h2=>hval j t v (by simpa using h1) (by simpa using h2)) hA
 have hcall:=(hAC avs hav).2 nom noX W args.toList hrel ⟨by simp,by simp,by simp,by simp,by simp,hgl⟩
 have hcall:=callsIn_wide.1 hcall
 simp only[Array.toArray_toList] at hcall
 refine hcall.mono fun e W' ⟨c,r,σ',m',he,hq,hr,_,hst,_⟩=>?_
 subst he hq
 simp only[VRel,CV.rep] at hr
 subst hr
 have hb:Below W.heap.size W W':=⟨hst.os,hst.tape,hst.output,hst.size,fun k hk=>hst.fr k hk (.inr (by simp))⟩
 have hsf:s.fn H (ds++[]) = { results:=[.lit (.bool true)],args:=ds }:=by rw[ZU];exact hs ds hlen
 refine ⟨_,rfl,ds,[],p++[],[],p,[],hW',?_,?_,?_,hb.frame _,fun h=>by simp at h⟩
 ·rw[hsf,hres]
  exact trodAll_mk1 (shut_bool htb true)
 ·rw[hsf]
  exact LU hl hb hpar hA hlt
 ·rw[hsf,hsv]
  rfl
end
end Go.Proofs.YtgkidpolomhghaaGreatDoor.AM
namespace Go.Proofs.YtgkidpolomhghaaGreatDoor.AM
variable [Dr]
open Go
theorem QeV {P:Program} {t:TypeId} {k:IntKind} {cs:List CV} (ht:P.underlying t=some (.int k)) (h:Typed P t cs):∃ n,cs=[.int k n]∧(Lit.int k n).wf=true:=by
 cases h with
 | int ht' n hw=>rw[ht] at ht';cases ht';exact ⟨n,rfl,hw⟩
 | bool ht'=>rw[ht] at ht';cases ht'
 | str ht'=>rw[ht] at ht';cases ht'
 | slc ht'=>rw[ht] at ht';cases ht'
 | arr ht'=>rw[ht] at ht';cases ht'
 | struct ht'=>rw[ht] at ht';cases ht'
theorem QeU {P:Program} {t e:TypeId} {cs:List CV} (ht:P.underlying t=some (.slice e)) (h:Typed P t cs):∃ L:List (List CV),cs=[.rsl L.flatten L.length]∧L.length≤maxLen∧(∀ l∈L,l.length=P.cellsOf e)∧∀ l∈L,Typed P e l:=by
 cases h with
 | slc ht' L hn hl h=>rw[ht] at ht';cases ht';exact ⟨L,rfl,hn,hl,h⟩
 | bool ht'=>rw[ht] at ht';cases ht'
 | int ht'=>rw[ht] at ht';cases ht'
 | str ht'=>rw[ht] at ht';cases ht'
 | arr ht'=>rw[ht] at ht';cases ht'
 | struct ht'=>rw[ht] at ht';cases ht'
theorem typed_struct {P:Program} {t:TypeId} {fs:Array Field} {cs:List CV} (ht:P.underlying t=some (.struct fs)) (h:Typed P t cs):∃ L:List (List CV),cs=L.flatten∧L.length=fs.size∧∀ (i:Nat) (f:Field) (l:List CV),fs[i]? = some f→L[i]? = some l→Typed P f.type l:=by
 cases h with
 | struct ht' L hn hl h=>rw[ht] at ht';cases ht';exact ⟨L,rfl,hn,h⟩
 | bool ht'=>rw[ht] at ht';cases ht'
 | int ht'=>rw[ht] at ht';cases ht'
 | str ht'=>rw[ht] at ht';cases ht'
 | slc ht'=>rw[ht] at ht';cases ht'
 | arr ht'=>rw[ht] at ht';cases ht'
theorem Qdi {P:Program} {e:TypeId} {k:IntKind} (he:P.underlying e=some (.int k)):∀ L:List (List CV),(∀ l∈L,Typed P e l)→∃ zs:List Int,L.flatten=zs.map (.int k)∧L.length=zs.length∧∀ z∈zs,(Lit.int k z).wf=true
 | [],_=>⟨[],rfl,rfl,by simp⟩
 | l::L,h=>by
  obtain ⟨n,rfl,hn⟩:=QeV he (h l (by simp))
  obtain ⟨zs,h1,h2,h3⟩:=Qdi he L fun l hl=>h l (by simp[hl])
  exact ⟨n::zs,by simp[h1],by simp[h2],by simpa using ⟨hn,h3⟩⟩
theorem typed_ints {P:Program} {t e:TypeId} {k:IntKind} {cs:List CV} (ht:P.underlying t=some (.slice e)) (he:P.underlying e=some (.int k)) (h:Typed P t cs):∃ zs:List Int,cs=[.rsl (zs.map (.int k)) zs.length]∧zs.length<2 ^ 63∧∀ z∈zs,(Lit.int k z).wf=true:=by
 obtain ⟨L,rfl,hn,_,hl⟩:=QeU ht h
 obtain ⟨zs,h1,h2,h3⟩:=Qdi he L hl
 refine ⟨zs,by rw[h1,h2],?_,h3⟩
 rw[← h2];unfold maxLen at hn;omega
theorem wf_u8 {n:Int} (h:(Lit.int .u8 n).wf=true):0≤n∧n≤255:=by
 simp only[Lit.wf,QD,decide_eq_true_eq,IntKind.min,IntKind.max,IntKind.bits,IntKind.signed] at h
 simp at h;omega
theorem args_cons {P:Program} {t:TypeId} {ts:List TypeId} {avs:List AV} (h:Args P (t::ts) avs):∃ cs avs',avs=avOf P t cs::avs'∧Typed P t cs∧Args P ts avs':=by
 generalize hts:t::ts=u at h
 cases h with
 | nil=>cases hts
 | cons h1 h2=>cases hts;exact ⟨_,_,rfl,h1,h2⟩
theorem args_nil {P:Program} {avs:List AV} (h:Args P [] avs):avs=[]:=by
 generalize hts:([]:List TypeId)=u at h
 cases h with
 | nil=>rfl
 | cons h1 h2=>cases hts
abbrev vs9:List Nat:=[0,1,2,5,6,8,9,11,12,13,14,15,19,53]
def ic9:IC:=(.seq (.region [jb 3 2,jw 4 .mv [jB false]])
 (.seq (.seq (.region [jv 0,jv 1,jk 42 [.t 0,.t 1],jw 12 (.bin .neq .int) [.t 2,jn 0]])
 (.cond 12 (.seq (.region [jv 0,jv 1,jF 0 3,jl 2,jk 20 [.t 0,.t 1,.t 3],jt 4,jx 0 5,jx 1 5,jt 6,jm 5 7])
 (.seq (.region [jv 5,jq (.bin .neq .int) [.t 0,jn 0],jt 1,jf 2 true 22 [],jq .pick [.t 2,.t 3,jB false],jm 4 4])
 .ret))
 .skip))
 (.seq (.region [jv 0,jF 1 3,jl 1,jk 45 [.t 0,.t 2],jt 3,jx 0 4,jx 1 4,jm 6 5,jt 6])
 (.seq (.region [jv 0,jv 1,jv 6,jk 46 [.t 0,.t 1,.t 2],jm 7 3])
 (.seq (.region [jv 0,jv 7,jF 0 3,jl 2,jk 20 [.t 0,.t 1,.t 3],jt 4,jx 0 5,jx 1 5,jm 8 6,jm 9 7])
 (.seq (.seq (.region [jv 9,jw 13 (.bin .neq .int) [.t 0,jn 0]])
 (.cond 13 (.seq (.region [jv 8,jq (.bin .eql .int) [.t 0,jn 0],jt 1,jf 2 true 22 [],jq .pick [.t 2,.t 3,jB false],jm 4 4])
 .ret)
 .skip))
 (.seq (.region [jv 0,jv 7,jk 17 [.t 0,.t 1],jt 2,jx 0 3,jx 1 3,jw 10 (.alloc [(.cv .nils),(.cv (.int .i64 0))]) [],jq (.store 2) [.v 10,.t 4],jm 11 5])
 (.seq (.region [jv 11,jq (.bin .eql .int) [.t 0,jn 0],jt 1,jh 2 true 8,jh 2 true 6,jg 2 true (.len false) [.t 4],jg 2 true (.bin .leq .int) [.t 3,.t 5],jq .pick [.t 2,.t 6,jB false],jt 7,jh 8 true 8,jg 8 true (.fadd 0) [.v 10],ji 8 true 10,jg 8 true (.len false) [.t 11],jg 8 true (.bin .leq .int) [.t 9,.t 12],jq .pick [.t 8,.t 13,jB false],jt 14,jh 15 true 8,jg 15 true (.bin .geq .int) [.t 16,jn 0],jq .pick [.t 15,.t 17,jB false],jt 18,jh 19 true 0,jg 19 true (.fadd 0) [.v 3],ji 19 true 21,jf 19 true 47 [.t 20,.t 22],jq .pick [.t 19,.t 23,jB false],jt 24,jf 25 true 22 [],jq .pick [.t 25,.t 26,jB false],jm 4 27])
 .ret))))))))
abbrev rs9:List RC:=[(.v 4)]
theorem fok9 (p:Bool):FnOk Tryz.prog 9 ⟨ic9,vs9,93,rs9,p⟩:=.mk2 Tryz.func9 (by kernel_rfl) (by kernel_rfl) (by kernel_rfl) (by kernel_rfl) (by kernel_rfl)
end Go.Proofs.YtgkidpolomhghaaGreatDoor.AM
namespace Go.Proofs.YtgkidpolomhghaaGreatDoor.AM
open Go Pl
theorem typed_list {α:Type} {f:α→List CV} {p:α→Prop} {t:TypeId} (h:∀ cs,Typed Tryz.prog t cs→∃ x,cs=f x∧p x):∀ L:List (List CV),(∀ l∈L,Typed Tryz.prog t l)→∃ xs:List α,L.flatten=xs.flatMap f∧L.length=xs.length∧∀ x∈xs,p x
 | [],_=>⟨[],rfl,rfl,by simp⟩
 | l::L,hl=>by
  obtain ⟨x,h1,h2⟩:=h l (hl l (by simp))
  obtain ⟨xs,g1,g2,g3⟩:=typed_list h L fun l hh=>hl l (by simp[hh])
  exact ⟨x::xs,by simp[h1,g1],by simp[g2],by simpa using ⟨h2,g3⟩⟩
theorem typed_i {cs:List CV} (h:Typed Tryz.prog 3 cs):∃ x:Int,cs=[.int .i64 x]:=by
 obtain ⟨n,rfl,_⟩:=QeV Tryz.underlying3 h
 exact ⟨n,rfl⟩
theorem typed_row {cs:List CV} (h:Typed Tryz.prog 23 cs):∃ zs:List Int,cs=[rowC zs]∧zs.length<2 ^ 63:=by
 obtain ⟨zs,h1,h2,_⟩:=typed_ints Tryz.underlying23 Tryz.underlying3 h
 exact ⟨zs,h1,h2⟩
theorem typed_need {cs:List CV} (h:Typed Tryz.prog 23 cs):∃ zs:List Int,avOf Tryz.prog 23 cs=ints zs∧zs.length<2 ^ 63:=by
 obtain ⟨zs,rfl,hz⟩:=typed_row h
 exact ⟨zs,by simp only[avOf,Tryz.underlying23];rfl,hz⟩
theorem typed_pat {cs:List CV} (h:Typed Tryz.prog 73 cs):∃ p:Pat,cs=patC p∧True:=by
 obtain ⟨L,rfl,hn,hf⟩:=typed_struct Tryz.underlying73 h
 match L,hn with
 | [a,b],_ =>
  obtain ⟨n1,rfl⟩:=typed_i (hf 0 _ a rfl rfl)
  obtain ⟨n2,rfl⟩:=typed_i (hf 1 _ b rfl rfl)
  exact ⟨(n1,n2),rfl,trivial⟩
theorem typed_pats {cs:List CV} (h:Typed Tryz.prog 22 cs):∃ l:List Pat,avOf Tryz.prog 22 cs=.cv (patR l)∧l.length<2 ^ 63:=by
 obtain ⟨L1,rfl,n1,_,h1⟩:=QeU Tryz.underlying22 h
 obtain ⟨l,a1,a2,_⟩:=typed_list (fun cs h=>typed_pat h) L1 h1
 have hm:maxLen<2 ^ 63:=by decide
 refine ⟨l,?_,by omega⟩
 simp only[avOf,Tryz.underlying22,a1,a2,List.headD_cons]
 rfl
end Go.Proofs.YtgkidpolomhghaaGreatDoor.AM
namespace Go.Proofs.YtgkidpolomhghaaGreatDoor.AM
variable [Dr]
open Go Pl
theorem outF_alR {lo hi:Int} {zs:List Int} (h:∀ j,j<zs.length→inB (gI zs j) lo hi=true):outF lo hi zs=false:=by
 rw[VL]
 intro z hz
 obtain ⟨j,hj,rfl⟩:=WN.1 hz
 have:=VB.1 (h j hj)
 unfold gI at this
 rwa [QI hj] at this
theorem outF_exR {lo hi:Int} {zs:List Int} {j:Nat} (hj:j<zs.length) (h:inB (gI zs j) lo hi=false):outF lo hi zs=true:=by
 cases hh:outF lo hi zs with
 | true=>rfl
 | false =>
  rw[VB.2 (VL.1 hh _ (Qcs hj))] at h
  cases h
theorem outF_sgR {lo hi z:Int}:outF lo hi [z] = !inB z lo hi:=by
 cases h:inB z lo hi with
 | true =>
  refine outF_alR (zs:=[z]) fun j hj=>?_
  have:j=0:=by simpa using hj
  subst this;exact h
 | false=>exact outF_exR (zs:=[z]) (j:=0) (by simp) h
theorem le42 (ps:List Pat) (l:List Int) (hp:ps.length<2 ^ 63) (hl:l.length<2 ^ 63):PC Tryz.prog 42 [.cv (patR ps),ints l] (.i (chkE ps l)):=by
 refine ⟨ZF (fok42 true) (QC rfl) ?_,rfl⟩
 unfold chkE
 rw[outF_sgR,outF_sgR]
 simp only[ic42,evA,simprocAttr]
 refine (le64 _ 1 12).call frz ?_
 cases h1:inB (ps.length:Int) 1 12 with
 | false =>
  simp only[h1,US,evA,simprocAttr]
  exact frz
 | true =>
 simp only[h1,Y3,evA,simprocAttr]
 refine (le64 _ 1 6).call frz ?_
 cases h2:inB (l.length:Int) 1 6 with
 | false =>
  simp only[h2,evA,simprocAttr]
  exact frz
 | true =>
 have hl6:=(VB.1 h2).2
 have hm8:l.length≤8:=by omega
 have hpw:=HF hm8
 have hw2:IntKind.i64.wrap ((2:Int) ^ l.length-1)=(2:Int) ^ l.length-1:=ZC (by omega)
 simp only[h2,evA,simprocAttr]
 refine ZW l.length (fun k s=>(∀ j,j<k→inB (gI l j) 0 3=true)∧∃ v6 v7,s=⟨[.cv (patR ps),ints l,.i 0,.i k,.undef,.b false,v6,v7,.undef,.undef],[]⟩) ?_ 0 (QF _) ⟨by omega,_,_,rfl⟩
 rintro k s hk ⟨hall,v6,v7,rfl⟩
 by_cases h:k<l.length
 ·simp only[ic42l1,QJ,h,J5 h,J4 h,evA,simprocAttr]
  refine (le64 _ 0 3).call frz ?_
  cases hin:inB (gI l k) 0 3 with
  | true =>
   have hin2:inB (l[k]?.getD 0) 0 3=true:=hin
   simp only[hin2,Q6 (show k+1<2 ^ 63 by omega),evA,simprocAttr]
   refine ZL (by first | trivial | omega) ⟨fun j hj=>?_,_,_,rfl⟩
   rcases QQ.1 hj with hj | rfl
   ·exact hall j hj
   ·exact hin
  | false =>
   have hin2:inB (l[k]?.getD 0) 0 3=false:=hin
   rw[outF_exR h hin]
   simp only[hin2,evA,simprocAttr]
   exact frz
 have hke:k=l.length:=by omega
 subst hke
 rw[outF_alR hall]
 simp only[ic42l1,QJ,h,evA,simprocAttr]
 clear h hk hall
 refine ZW ps.length (fun k s=>(∀ j,j<k→patE l.length ps[j]! = 0)∧∃ v8 v9,s=⟨[.cv (patR ps),ints l,.i 0,.i l.length,.i k,.b false,.b false,v7,v8,v9],[]⟩) ?_ 0 (QF _) ⟨by omega,_,_,rfl⟩
 rintro k s hk ⟨hall,v8,v9,rfl⟩
 by_cases h:k<ps.length
 ·have ld0:=pat_0 h
  have ld1:=pat_1 h
  have hE:patE l.length ps[k]! = if inB (ps[k]!).1 0 ((2:Int) ^ l.length-1)=false∨inB (ps[k]!).2 0 100000=false then 7 else 0:=by
   unfold patE
   rw[outF_sgR,outF_sgR]
   cases inB (ps[k]!).1 0 ((2:Int) ^ l.length-1) <;> cases inB (ps[k]!).2 0 100000 <;> simp
  have hfs:=fun h3=>VO (g:=fun i=>patE l.length ps[i]!) ps.length 0 k (QF _) (by omega) (fun j _ hj=>hall j hj) h3
  have hnext:patE l.length ps[k]! = 0→∀ j,j<k+1→patE l.length ps[j]! = 0:=fun h3 j hj=>by
   rcases QQ.1 hj with hj | rfl
   ·exact hall j hj
   ·exact h3
  generalize ps[k]! = q at *
  obtain ⟨sh,me⟩:=q
  simp only at ld0 ld1 hE
  simp only[ic42l0,QJ,h,evA,simprocAttr]
  cases h4:inB sh 0 ((2:Int) ^ l.length-1) with
  | false =>
   rw[if_pos (.inl h4)] at hE
   rw[hfs (by rw[hE];decide),hE]
   refine DW_s [7,9,17] [] hmix (by kernel_rfl) rfl ?_
   simp only[O9 h,ld0,evA,simprocAttr]
   refine YE ((c49 l.length hm8).call frz ⟨rfl,rfl⟩) rfl ?_
   simp only[hw2,evA,simprocAttr]
   refine YE ((le64 sh 0 _).call frz ⟨rfl,rfl⟩) rfl ?_
   simp only[h4,evA,simprocAttr]
   exact frz
  | true =>
  cases h5:inB me 0 100000 with
  | false =>
   rw[if_pos (.inr h5)] at hE
   rw[hfs (by rw[hE];decide),hE]
   refine DW_s [7,9,17] [] hmix (by kernel_rfl) rfl ?_
   simp only[O9 h,ld0,evA,simprocAttr]
   refine YE ((c49 l.length hm8).call frz ⟨rfl,rfl⟩) rfl ?_
   simp only[hw2,evA,simprocAttr]
   refine YE ((le64 sh 0 _).call frz ⟨rfl,rfl⟩) rfl ?_
   simp only[h4,O9 h,ld1,evA,simprocAttr]
   refine YE ((le64 me 0 _).call frz ⟨rfl,rfl⟩) rfl ?_
   simp only[h5,evA,simprocAttr]
   exact frz
  | true =>
   rw[if_neg (by rw[h4,h5];simp)] at hE
   refine DW_s [7,9,17] [] hmix (by kernel_rfl) rfl ?_
   simp only[O9 h,ld0,evA,simprocAttr]
   refine YE ((c49 l.length hm8).call frz ⟨rfl,rfl⟩) rfl ?_
   simp only[hw2,evA,simprocAttr]
   refine YE ((le64 sh 0 _).call frz ⟨rfl,rfl⟩) rfl ?_
   simp only[h4,O9 h,ld1,evA,simprocAttr]
   refine YE ((le64 me 0 _).call frz ⟨rfl,rfl⟩) rfl ?_
   simp only[h5,Q6 (show k+1<2 ^ 63 by omega),evA,simprocAttr]
   exact ZL (by first | trivial | omega) ⟨hnext hE,_,_,rfl⟩
 ·have hke:k=ps.length:=by omega
  subst hke
  rw[J7 ps.length 0 fun j _ hj=>hall j (by omega)]
  simp only[ic42l0,QJ,h,evA,simprocAttr]
  exact frz
theorem natsI_len' (cs:List Nat):(HG cs).length=cs.length:=by simp[HG]
theorem natsI_get {cs:List Nat} {k:Nat} (h:k<cs.length):(HG cs)[k]?.getD 0=((cs[k]! : Nat):Int):=by
 unfold HG
 rw[ZR,QI h,getElem!_pos cs k h];rfl
theorem shown_take {ps:List Pat} {cs:List Nat} {i k:Nat} (h:k<cs.length):YJ ps (cs.take (k+1)) i=YJ ps (cs.take k) i+if bit (ps[cs[k]!]!).1 i then 1 else 0:=by
 unfold YJ
 rw[JC,List.countP_append,QI h,getElem!_pos cs k h]
 simp[K9]
theorem shown_le {ps:List Pat} {cs:List Nat} {i:Nat}:YJ ps cs i≤cs.length:=List.countP_le_length
structure PtOk (ps:List Pat):Prop where
 p12:ps.length≤12
 sh:∀ k,k<ps.length→0≤(ps[k]!).1∧(ps[k]!).1<9223372036854775808
theorem PsOk.pt {ps:List Pat} {l:List Int} (h:PsOk ps l):PtOk ps:=⟨h.p12,fun k hk=>by
 have h1:=(h.pat k hk).1
 have:=(Qa6 h.l6).2
 omega⟩
def drC (n:Nat) (zs:List Int):Nat→List Nat
 | 0=>[]
 | i+1=>drC n zs i++[(gI zs i).toNat % n]
theorem drC_len (n:Nat) (zs:List Int):∀ i,(drC n zs i).length=i
 | 0=>rfl
 | i+1=>by simp[drC,drC_len n zs i]
theorem drC_lt {n:Nat} (hn:0<n) (zs:List Int):∀ i,∀ x∈drC n zs i,x<n
 | 0,x,h=>by simp[drC] at h
 | i+1,x,h=>by
  rcases YV.1 h with h | h
  ·exact drC_lt hn zs i x h
  ·rw[WZ.1 h];exact Nat.mod_lt _ hn
theorem met_snoc {ps:List Pat} {cs:List Nat} {k:Nat}:XX ps (cs++[k])=XX ps cs+(ps[k]!).2:=by simp[XX]
theorem met_bd {ps:List Pat} (hm:∀ k,k<ps.length→0≤(ps[k]!).2∧(ps[k]!).2≤100000):∀ {cs:List Nat},(∀ x∈cs,x<ps.length)→0≤XX ps cs∧XX ps cs≤100000*cs.length
 | [],_=>by simp[XX]
 | a::cs,h=>by
  have h1:=hm a (h a (by simp))
  have h2:=met_bd hm (cs:=cs) fun x hx=>h x (by simp[hx])
  have:XX ps (a::cs)=(ps[a]!).2+XX ps cs:=by simp[XX]
  rw[this,List.length_cons]
  omega
theorem le45 (ps:List Pat) (zs:List Int) (hp0:0<ps.length) (hp:ps.length≤12) (hm:∀ k,k<ps.length→0≤(ps[k]!).2∧(ps[k]!).2≤100000) (hz:∀ i,i<zs.length→0≤gI zs i∧gI zs i≤255) (hzl:zs.length<2 ^ 63) :
  PC Tryz.prog 45 [.cv (patR ps),.cv (.rsl (zs.map (.int .u8)) zs.length)] (.tup [ints (HG (drC ps.length zs (min zs.length 30))),.i (XX ps (drC ps.length zs (min zs.length 30)))]):=by
 refine ⟨ZF (fok45 true) (QC rfl) ?_,rfl⟩
 have h40:(2:Nat) ^ 40=1099511627776:=by decide
 simp only[ic45,evA,simprocAttr]
 refine ZW (min zs.length 30) (fun i s=>∃ v4 v7 v8 H,SB H v4 (HG (drC ps.length zs i))∧s=⟨[.cv (patR ps),.cv (.rsl (zs.map (.int .u8)) zs.length),.cv .nils,.i 0,v4,.i (XX ps (drC ps.length zs i)),.i i,v7,v8],H⟩) ?_ 0 (QF _) ⟨_,_,_,_,.inl ⟨rfl,rfl⟩,rfl⟩
 rintro i s hi ⟨v4,v7,v8,H,hacc,rfl⟩
 have hlen:=drC_len ps.length zs i
 have hbd:=met_bd hm (drC_lt hp0 zs i)
 have hi30:i≤30:=by omega
 by_cases h:i<min zs.length 30
 ·have hil:i<zs.length:=by omega
  have h30:decide ((i:Int)<30)=true:=decide_eq_true (by omega)
  obtain ⟨q,hq⟩:∃ q,q=(gI zs i).toNat % ps.length:=⟨_,rfl⟩
  have hql:q<ps.length:=by rw[hq];exact Nat.mod_lt _ hp0
  have hzi:=hz i hil
  have hs1:drC ps.length zs (i+1)=drC ps.length zs i++[q]:=by rw[hq];rfl
  have hconv:IntKind.i64.wrap (zs[i]?.getD 0)=zs[i]?.getD 0:=ZC (by unfold gI at hzi;omega)
  have hrem:(zs[i]?.getD 0).tmod (ps.length:Int)=(q:Int):=by
   obtain ⟨z,hz2⟩:∃ z:Nat,zs[i]?.getD 0=(z:Int):=⟨(gI zs i).toNat,by unfold gI at *;omega⟩
   rw[hz2,hq]
   unfold gI
   rw[hz2,Int.toNat_natCast]
   rfl
  have hpl:¬ ((ps.length:Int)=0):=by omega
  have hm1:=hm q hql
  have ld:=pat_1 hql
  have hw:IntKind.i64.wrap (XX ps (drC ps.length zs i)+(ps[q]!).2)=XX ps (drC ps.length zs i++[q]):=by rw[met_snoc];exact ZC (by omega)
  have hlen2:(HG (drC ps.length zs i)).length=i:=by rw[natsI_len',hlen]
  obtain ⟨v',H',ha,hacc'⟩:=QdK (q:Int) hacc (by rw[hlen2];omega)
  have hnew:HG (drC ps.length zs i)++[(q:Int)]=HG (drC ps.length zs i++[q]):=by simp[HG]
  rw[hnew] at hacc'
  rw[hs1]
  simp only[ic45l0,QJ,hil,h30,J5 hil,XP hil,W3,J4 hil,WA,hconv,hpl,hrem,evA,simprocAttr]
  refine DW_s [] [(9,2),(9,3)] hmix (by kernel_rfl) rfl ?_
  simp only[ha,O9 hql,ld,hw,Q6 (show i+1<2 ^ 63 by omega),evA,simprocAttr]
  exact ZL h ⟨_,_,_,_,hacc',rfl⟩
 ·have hie:i=min zs.length 30:=by omega
  rw[← hie]
  by_cases hil:i<zs.length
  ·have h30:decide ((i:Int)<30)=false:=decide_eq_false (by omega)
   simp only[ic45l0,QJ,hil,h30,evA,simprocAttr]
   exact .tup (.cons (acc_frz (fun _=>trivial) hacc) (.cons (.c (.c _ trivial)) .nil))
  ·simp only[ic45l0,QJ,hil,evA,simprocAttr]
   exact .tup (.cons (acc_frz (fun _=>trivial) hacc) (.cons (.c (.c _ trivial)) .nil))
def metL (ps:List Pat) (l:List Int) (cs:List Nat) (i:Nat):List Int:=(List.range i).map fun j=>min (YJ ps cs j:Int) (gI l j)
theorem metL_len (ps:List Pat) (l:List Int) (cs:List Nat) (i:Nat):(metL ps l cs i).length=i:=by simp[metL]
theorem metL_succ (ps:List Pat) (l:List Int) (cs:List Nat) (i:Nat):metL ps l cs (i+1)=metL ps l cs i++[min (YJ ps cs i:Int) (gI l i)]:=by simp[metL,WM]
theorem metL_get {ps:List Pat} {l:List Int} {cs:List Nat} {i j:Nat} (h:j<i):gI (metL ps l cs i) j=min (YJ ps cs j:Int) (gI l j):=by simp[metL,gI,h]
theorem le46 (ps:List Pat) (l:List Int) (cs:List Nat) (hp:PtOk ps) (hl:l.length≤8) (hc:∀ k,k<cs.length→cs[k]! < ps.length) (hcl:cs.length<2 ^ 40):PC Tryz.prog 46 [.cv (patR ps),ints l,ints (HG cs)] (ints (metL ps l cs l.length)):=by
 refine ⟨ZF (fok46 true) (QC rfl) ?_,rfl⟩
 have h40:(2:Nat) ^ 40=1099511627776:=by decide
 have hci:=natsI_len' cs
 simp only[ic46,evA,simprocAttr]
 refine ZW l.length (fun i s=>∃ v4 v6 v7 v8 v9 v10 H,SB H v4 (metL ps l cs i)∧s=⟨[.cv (patR ps),ints l,ints (HG cs),.cv .nils,v4,.i i,v6,v7,v8,v9,v10],H⟩) ?_ 0 (QF _) ⟨_,_,_,_,_,_,_,.inl ⟨rfl,rfl⟩,rfl⟩
 rintro i s hi ⟨v4,v6,v7,v8,v9,v10,H,hacc,rfl⟩
 by_cases h:i<l.length
 ·simp only[ic46l1,QJ,h,evA,simprocAttr]
  refine ZW cs.length (fun k s=>∃ v9 v10,s=⟨[.cv (patR ps),ints l,ints (HG cs),.cv .nils,v4,.i i,.i (YJ ps (cs.take k) i:Nat),.i k,.b true,v9,v10],H⟩) ?_ 0 (QF _) ⟨_,_,rfl⟩
  clear v6 v7 v8 v9 v10
  rintro k s hk ⟨v9,v10,rfl⟩
  by_cases hkc:k<cs.length
  ·have hkn:k<(HG cs).length:=by omega
   have hp1:=hc k hkc
   have hsh:=hp.sh _ hp1
   have hget:=natsI_get hkc
   have ht:=shown_take (ps:=ps) (i:=i) hkc
   have hle:YJ ps (cs.take k) i≤cs.length:=YR shown_le (by simp;omega)
   have hw:IntKind.i64.wrap ((YJ ps (cs.take k) i:Int)+1)=((YJ ps (cs.take k) i+1:Nat):Int):=by rw[ZC (by omega)];omega
   have ld:=pat_0 hp1
   have ia:=O9 hp1
   have h52:=c52 (ps[cs[k]!]!).1 hsh i (by omega)
   rw[ht]
   simp only[ic46l0,QJ,hci,hkc,J5 hkn,J4 hkn,WA,hget,ia,ld,evA,simprocAttr]
   refine h52.call frz ?_
   cases hb:bit (ps[cs[k]!]!).1 i with
   | true =>
    simp only[hb,hw,Q6 (show k+1<2 ^ 63 by omega),evA,simprocAttr]
    exact ZL (by first | trivial | omega) ⟨_,_,rfl⟩
   | false =>
    simp only[hb,Q6 (show k+1<2 ^ 63 by omega),evA,simprocAttr]
    exact ZL (by first | trivial | omega) ⟨_,_,rfl⟩
  ·have hke:k=cs.length:=by omega
   subst hke
   rw[X7]
   have hmin:(if l[i]?.getD 0<((YJ ps cs i:Nat):Int) then l[i]?.getD 0 else ((YJ ps cs i:Nat):Int))=min (YJ ps cs i:Int) (gI l i):=by unfold gI;split <;> omega
   obtain ⟨v',H',ha,hacc'⟩:=QdK (min (YJ ps cs i:Int) (gI l i)) hacc (by rw[metL_len];omega)
   rw[← metL_succ] at hacc'
   simp only[ic46l0,QJ,hci,hkc,J5 h,J4 h,WA,hmin,ha,Q6 (show i+1<2 ^ 63 by omega),evA,simprocAttr]
   exact ZL (by first | trivial | omega) ⟨_,_,_,_,_,_,_,hacc',rfl⟩
 ·have hie:i=l.length:=by omega
  subst hie
  simp only[ic46l1,QJ,h,evA,simprocAttr]
  exact acc_frz (fun _=>trivial) hacc
end Go.Proofs.YtgkidpolomhghaaGreatDoor.AM
namespace Go.Proofs.YtgkidpolomhghaaGreatDoor.AM
open Go Pl
theorem grL_len (ps:List Pat):∀ (f k:Nat) (l:List Int),(grL ps f k l).length≤f
 | 0,_,_=>QG _
 | f+1,k,l=>by
  unfold grL
  split
  ·exact QF _
  ·split
   ·rw[List.length_cons];have:=grL_len ps f k (afL (ps[k]!).1 l);omega
   ·have:=grL_len ps f (k+1) l;omega
structure BcOk (ps:List Pat) (l:List Int):Prop where
 few:fewL ps l=(HG (UJ ps l),XX ps (UJ ps l),0)
 len:(UJ ps l).length≤200
 rng:∀ x∈UJ ps l,x<ps.length
 srt:(UJ ps l).Pairwise (·≤·)
 eno:OS ps l (UJ ps l)
 least:∀ cs:List Nat,(∀ x∈cs,x<ps.length)→OS ps l cs→(UJ ps l).length<cs.length∨(UJ ps l).length=cs.length∧XX ps (UJ ps l)≤XX ps cs
theorem PsOk.n3 {ps:List Pat} {l:List Int} (h:PsOk ps l):N3 l:=fun i hi=>h.need i hi
theorem PsOk.mt {ps:List Pat} {l:List Int} (h:PsOk ps l):∀ k,k<ps.length→0≤(ps[k]!).2∧(ps[k]!).2≤100000:=fun k hk=>(h.pat k hk).2
theorem bc_ok {ps:List Pat} {l:List Int} (hc:chkE ps l=0) (hl:NY ps l=false):BcOk ps l:=by
 have hok:=Qd3 hc
 have hm:∀ k,k<ps.length→0≤(ps[k]!).2:=fun k hk=>(hok.mt k hk).1
 obtain ⟨a,b,hv⟩:=few_some hm hok.n3.nn hl
 obtain ⟨h1,h2,h3,h4,h5⟩:=OP hm hok.n3.nn hv
 have hs:sumN l<100:=by
  have h:=n3_sum (pad6_len hok.l6) (pad6_n3 hok.n3)
  unfold pad6 at h
  rwa [QbW] at h
 refine ⟨?_,?_,h5,h4,h3,fun cs hcs he=>?_⟩
 ·unfold fewL
  rw[if_neg (fun h=>h hc),if_neg (by rw[hl];decide)]
 ·have:=grL_len ps (ps.length+sumN l+1) 0 l
  have:=hok.p12
  unfold UJ
  omega
 ·obtain ⟨a',b',e,h⟩:=EP hm (ps.length+sumN l+1) 0 l cs hok.n3.nn (by omega) (fun x hx=>⟨QF _,hcs x hx⟩) he
  rw[hv] at e
  cases e
  rw[h2]
  omega
theorem chkE_of {ps:List Pat} {l k:List Int} (h:PsOk ps l) (hk:k.length=l.length) (hn:∀ i,i<k.length→0≤gI k i∧gI k i≤3):chkE ps k=0:=by
 have a1:outF 1 12 [(ps.length:Int)]=false:=VL.2 fun z hz=>by
  have:=h.p1;have:=h.p12
  rw[WZ.1 hz];omega
 have a2:outF 1 6 [(k.length:Int)]=false:=VL.2 fun z hz=>by
  have:=h.l1;have:=h.l6
  rw[WZ.1 hz];omega
 have a3:outF 0 3 k=false:=VL.2 fun z hz=>by
  obtain ⟨i,hi,rfl⟩:=WN.1 hz
  have:=hn i hi
  unfold gI at this
  rwa [QI hi] at this
 unfold chkE
 rw[a1,a2,a3,if_neg (by decide),if_neg (by decide),hk,J7]
 intro i _ hi
 have hp:=h.pat i (by omega)
 unfold patE
 rw[VL.2 fun z hz=>by rw[WZ.1 hz];omega,VL.2 fun z hz=>by rw[WZ.1 hz];exact hp.2,if_neg (by decide)]
theorem lack_of {ps:List Pat} {l:List Int} {cs:List Nat} (hc:∀ x∈cs,x<ps.length) (he:OS ps l cs):NY ps l=false:=by
 unfold NY
 rw[W6]
 intro i hi
 have hi:=ZI.1 hi
 simp only[QD,decide_eq_true_eq,Z0,W6,not_and]
 intro h0 hall
 have h1:=he i hi
 have h2:0<YJ ps cs i:=by omega
 obtain ⟨k,hk,hb⟩:=List.countP_pos_iff.1 h2
 exact hall k (ZI.2 (hc k hk)) hb
theorem metL_enough (ps:List Pat) (l:List Int) (cs:List Nat):OS ps (metL ps l cs l.length) cs:=fun i hi=>by
 rw[metL_len] at hi
 rw[metL_get hi]
 omega
theorem metL_chk {ps:List Pat} {l:List Int} (h:PsOk ps l) (cs:List Nat):chkE ps (metL ps l cs l.length)=0 :=
 chkE_of h (metL_len _ _ _ _) fun i hi=>by
  rw[metL_len] at hi
  have:=h.need i hi
  rw[metL_get hi]
  omega
theorem memb_get {α:Type} [Inhabited α] {p:α→Prop} {cs:List α} (h:∀ x∈cs,p x):∀ k,k<cs.length→p cs[k]! := fun k hk=>by
 rw[getElem!_pos cs k hk];exact h _ (Q2 hk)
end Go.Proofs.YtgkidpolomhghaaGreatDoor.AM
namespace Go.Proofs.YtgkidpolomhghaaGreatDoor.AM
variable [Dr]
open Go Pl
theorem le47 (ps:List Pat) (pr:List Int) (hp:PtOk ps) (hl:pr.length≤8) (hpr:∀ i,i<pr.length→0≤gI pr i∧gI pr i≤1000):PC Tryz.prog 47 [.cv (patR ps),ints pr] (.b (OE ps pr)):=by
 refine ⟨ZF (fok47 true) (QC rfl) ?_,rfl⟩
 have h12:=hp.p12
 simp only[ic47,evA,simprocAttr]
 refine ZW ps.length (fun i s=>(∀ k,k<i→RO (ps[k]!).1 pr≤1000)∧∃ v4 v5 v6 v7 v8 v9,s=⟨[.cv (patR ps),ints pr,.b false,.i i,v4,v5,v6,v7,v8,v9],[]⟩) ?_ 0 (QF _) ⟨by omega,_,_,_,_,_,_,rfl⟩
 rintro i s hi ⟨hall,v4,v5,v6,v7,v8,v9,rfl⟩
 by_cases h:i<ps.length
 ·have ld:=pat_0 h
  have hsh:=hp.sh i h
  obtain ⟨f,hf⟩:∃ f:Nat→Int,f=fun j=>if bit (ps[i]!).1 j then gI pr j else 0:=⟨_,rfl⟩
  have hprice:RO (ps[i]!).1 pr=sumI pr.length f:=by rw[hf];rfl
  have hbd:∀ j,j≤pr.length→0≤sumI j f∧sumI j f≤1000*j:=fun j hj=>QaX (by decide) fun k hk=>by
   have:=hpr k (by omega)
   rw[hf]
   simp only
   split <;> omega
  simp only[ic47l1,QJ,h,evA,simprocAttr]
  refine ZW pr.length (fun j s=>∃ v7 v8,s=⟨[.cv (patR ps),ints pr,.b false,.i i,.i (sumI j f),.i j,.b true,v7,v8,v9],[]⟩) ?_ 0 (QF _) ⟨_,_,rfl⟩
  clear v4 v5 v6 v7 v8
  rintro j s hj ⟨v7,v8,rfl⟩
  by_cases hjl:j<pr.length
  ·have h52:=c52 (ps[i]!).1 hsh j (by omega)
   have hb1:=hbd (j+1) hjl
   have hs:sumI (j+1) f=sumI j f+f j:=rfl
   simp only[ic47l0,QJ,hjl,O9 h,ld,evA,simprocAttr]
   refine h52.call frz ?_
   cases hb:bit (ps[i]!).1 j with
   | true =>
    have hfj:f j=pr[j]?.getD 0:=by rw[hf];show (if _ then _ else _)=_;rw[if_pos hb]
    have hw:IntKind.i64.wrap (sumI j f+pr[j]?.getD 0)=sumI (j+1) f:=by rw[hs,hfj];exact ZC (by omega)
    simp only[hb,J5 hjl,J4 hjl,WA,hw,Q6 (show j+1<2 ^ 63 by omega),evA,simprocAttr]
    exact ZL (by first | trivial | omega) ⟨_,_,rfl⟩
   | false =>
    have hfj:f j=0:=by rw[hf];show (if _ then _ else _)=_;rw[if_neg (by rw[hb];decide)]
    have hs2:sumI (j+1) f=sumI j f:=by rw[hs,hfj];omega
    rw[hs2]
    simp only[hb,Q6 (show j+1<2 ^ 63 by omega),evA,simprocAttr]
    exact ZL (by first | trivial | omega) ⟨_,_,rfl⟩
  ·have hje:j=pr.length:=by omega
   subst hje
   rw[← hprice]
   by_cases hg:RO (ps[i]!).1 pr>1000
   ·have hd:decide (RO (ps[i]!).1 pr>1000)=true:=decide_eq_true hg
    have hff:OE ps pr=false:=by
     cases hh:OE ps pr with
     | false=>rfl
     | true=>have:=Qbw.1 hh i h;omega
    rw[hff]
    simp only[ic47l0,QJ,hjl,hd,evA,simprocAttr]
    exact frz
   ·have hd:decide (RO (ps[i]!).1 pr>1000)=false:=decide_eq_false hg
    simp only[ic47l0,QJ,hjl,hd,Q6 (show i+1<2 ^ 63 by omega),evA,simprocAttr]
    refine ZL (by first | trivial | omega) ⟨fun k hk=>?_,_,_,_,_,_,_,rfl⟩
    rcases QQ.1 hk with hk | rfl
    ·exact hall k hk
    ·omega
 ·have hie:i=ps.length:=by omega
  subst hie
  rw[Qbw.2 hall]
  simp only[ic47l1,QJ,h,evA,simprocAttr]
  exact frz
end Go.Proofs.YtgkidpolomhghaaGreatDoor.AM
namespace Go.Proofs.YtgkidpolomhghaaGreatDoor.AM
open Go Pl
theorem floL_or (ps:List Pat) (l pr:List Int):(∃ e,e≠0∧floL ps l pr=(0,e))∨(chkE ps l=0∧pr.length=l.length∧(∀ i,i<pr.length→0≤gI pr i∧gI pr i≤1000)∧OE ps pr=true∧floL ps l pr=((dotL pr l+999) / 1000,0)):=by
 unfold floL
 by_cases h1:chkE ps l=0
 rotate_left
 ·rw[if_pos h1];exact .inl ⟨_,h1,rfl⟩
 rw[if_neg (fun h=>h h1)]
 by_cases h2:pr.length=l.length
 rotate_left
 ·rw[if_pos h2];exact .inl ⟨3,by decide,rfl⟩
 rw[if_neg (fun h=>h h2)]
 cases h3:outF 0 1000 pr with
 | true=>rw[if_pos rfl];exact .inl ⟨7,by decide,rfl⟩
 | false =>
  rw[if_neg (by decide)]
  cases h4:OE ps pr with
  | false=>rw[if_pos rfl];exact .inl ⟨2,by decide,rfl⟩
  | true =>
   rw[if_neg (by decide)]
   exact .inr ⟨h1,h2,fun i hi=>VL.1 h3 _ (Qcs hi),rfl,rfl⟩
theorem law9 (ps:List Pat) (l pr zs:List Int) (hp:ps.length<2 ^ 63) (hl:l.length<2 ^ 63) (hr:pr.length<2 ^ 63) (hzl:zs.length<2 ^ 63) (hz:∀ i,i<zs.length→0≤gI zs i∧gI zs i≤255):PC Tryz.prog 9 [.cv (patR ps),ints l,.agg [ints pr,.cv (.rsl (zs.map (.int .u8)) zs.length)]] (.b true):=by
 have h42:=le42 ps l hp hl
 refine ⟨ZF (fok9 true) (QC rfl) ?_,rfl⟩
 simp only[ic9,WI,cellsOf,evA,simprocAttr]
 by_cases hc:chkE ps l=0
 rotate_left
 ·have hb:(chkE ps l != 0)=true:=by simpa using hc
  have h20:=le20 ps l pr hp hl hr
  unfold floA floL at h20
  rw[if_pos hc] at h20
  refine h42.call frz ?_
  simp only[hb,evA,simprocAttr]
  refine h20.call frz ?_
  simp only[hb,evA,simprocAttr]
  refine awake.call .nil ?_
  simp only[evA,simprocAttr]
  (repeat' (first | exact HL.nil | exact KS.nil | exact FrzC.nl | exact FrzC.c _ trivial | apply HL.cons | apply KS.cons | apply FrzV.agg | apply FrzV.tup | apply FrzV.c | refine FrzC.sl _ _ _ _ _ _ rfl (QC rfl) ?_))
 have hok:=Qd3 hc
 rw[hc] at h42
 have h12:=hok.p12
 have h6:=hok.l6
 have hpt:=hok.pt
 have hp0:0<ps.length:=hok.p1
 have h45:=le45 ps zs hp0 h12 hok.mt hz hzl
 have hdl:=drC_lt hp0 zs (min zs.length 30)
 have hdn:=drC_len ps.length zs (min zs.length 30)
 generalize drC ps.length zs (min zs.length 30)=cs at *
 have hcn:cs.length≤30:=by omega
 have h46:=le46 ps l cs hpt (by omega) (memb_get hdl) (WJ hcn (by decide))
 have hc2:=metL_chk hok cs
 have hen:=metL_enough ps l cs
 have hml:=metL_len ps l cs l.length
 generalize metL ps l cs l.length=l2 at *
 have h20:=le20 ps l2 pr hp (by omega) hr
 unfold floA at h20
 refine h42.call frz ?_
 simp only[evA,simprocAttr]
 refine h45.call frz ?_
 simp only[evA,simprocAttr]
 refine h46.call frz ?_
 simp only[evA,simprocAttr]
 rcases floL_or ps l2 pr with ⟨e,he,hfl⟩ | ⟨_,hlen,hpr,hfair,hfl⟩
 ·rw[hfl] at h20
  have hb:(e != 0)=true:=by simpa using he
  refine h20.call frz ?_
  simp only[hb,evA,simprocAttr]
  refine awake.call .nil ?_
  simp only[evA,simprocAttr]
  (repeat' (first | exact HL.nil | exact KS.nil | exact FrzC.nl | exact FrzC.c _ trivial | apply HL.cons | apply KS.cons | apply FrzV.agg | apply FrzV.tup | apply FrzV.c | refine FrzC.sl _ _ _ _ _ _ rfl (QC rfl) ?_))
 ·rw[hfl] at h20
  have hbc2:=bc_ok hc2 (lack_of hdl hen)
  have h17b:=le17 ps l2 hp (by omega)
  unfold fewA at h17b
  rw[hbc2.few] at h17b
  have hok2:=Qd3 hc2
  have hnn:NN pr:=fun i hi=>(hpr i hi).1
  have f1:=floor_le hfair hnn hlen.symm hdl hen
  have f2:=floor_le hfair hnn hlen.symm hbc2.rng hbc2.eno
  have f3:=dot_nn hnn hok2.n3.nn hlen.symm
  have h47:=le47 ps pr hpt (by omega) hpr
  rw[hfair] at h47
  have n1:=natsI_len' (UJ ps l2)
  have n2:=natsI_len' cs
  have d1:decide ((dotL pr l2+999) / 1000≤((HG cs).length:Int))=true:=decide_eq_true (by omega)
  have d2:decide ((dotL pr l2+999) / 1000≤((HG (UJ ps l2)).length:Int))=true:=decide_eq_true (by omega)
  have d3:decide ((dotL pr l2+999) / 1000≥0)=true:=decide_eq_true (by omega)
  generalize (dotL pr l2+999) / 1000=n at *
  refine h20.call frz ?_
  simp only[evA,simprocAttr]
  refine h17b.call frz ?_
  simp only[d1,d2,d3,evA,simprocAttr]
  refine h47.call frz ?_
  simp only[evA,simprocAttr]
  refine awake.call .nil ?_
  simp only[evA,simprocAttr]
  (repeat' (first | exact HL.nil | exact KS.nil | exact FrzC.nl | exact FrzC.c _ trivial | apply HL.cons | apply KS.cons | apply FrzV.agg | apply FrzV.tup | apply FrzV.c | refine FrzC.sl _ _ _ _ _ _ rfl (QC rfl) ?_))
theorem typed_priced {cs:List CV} (h:Typed Tryz.prog 80 cs):∃ pr zs:List Int,avOf Tryz.prog 80 cs=.agg [ints pr,.cv (.rsl (zs.map (.int .u8)) zs.length)]∧pr.length<2 ^ 63∧zs.length<2 ^ 63∧∀ i,i<zs.length→0≤gI zs i∧gI zs i≤255:=by
 obtain ⟨L,rfl,hn,hf⟩:=typed_struct Tryz.underlying80 h
 match L,hn with
 | [a,b],_ =>
  obtain ⟨pr,rfl,hp⟩:=typed_row (hf 0 _ a rfl rfl)
  obtain ⟨zs,rfl,h1,h2⟩:=typed_ints Tryz.underlying69 Tryz.underlying5 (hf 1 _ b rfl rfl)
  refine ⟨pr,zs,by simp only[avOf,Tryz.underlying80];rfl,hp,h1,fun i hi=>wf_u8 (h2 _ (Qcs hi))⟩
theorem law_LessonFloor (avs:List AV) (h:Args Tryz.prog Tryz.f9.params.toList avs):AC Tryz.prog 9 avs [] fun r _=>r=.b true:=by
 have h:Args Tryz.prog [22,23,80] avs:=h
 obtain ⟨cs1,avs,rfl,h1,h⟩:=args_cons h
 obtain ⟨cs2,avs,rfl,h2,h⟩:=args_cons h
 obtain ⟨cs3,avs,rfl,h3,h⟩:=args_cons h
 cases args_nil h
 obtain ⟨ps,e1,hp⟩:=typed_pats h1
 obtain ⟨l,e2,hl⟩:=typed_need h2
 obtain ⟨pr,zs,e3,hr,hz,hz2⟩:=typed_priced h3
 rw[e1,e2,e3]
 exact (law9 ps l pr zs hp hl hr hz hz2).call (by (repeat' (first | exact HL.nil | exact KS.nil | exact FrzC.nl | exact FrzC.c _ trivial | apply HL.cons | apply KS.cons | apply FrzV.agg | apply FrzV.tup | apply FrzV.c | refine FrzC.sl _ _ _ _ _ _ rfl (QC rfl) ?_))) rfl
end Go.Proofs.YtgkidpolomhghaaGreatDoor.AM

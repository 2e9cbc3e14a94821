/- Parts of the proof of TopKnown. -/
import Derived.Test.YtpmokaefmcffaaaGreatKTopKnown2
set_option linter.unusedVariables false
set_option linter.unusedSimpArgs false
set_option linter.unusedSectionVars false
namespace Go.Proofs.YtpmokaefmcffaaaGreat.AM
variable [Dr]
open Go
def pad6 (ts:List Int):List Int:=ts++List.replicate (6-ts.length) 0
theorem pad6_len {ts:List Int} (h:ts.length≤6):(pad6 ts).length=6:=by simp[pad6];omega
theorem pad6_get {ts:List Int} {i:Nat} (h:i<ts.length):(pad6 ts)[i]? = some (ts[i]?.getD 0):=by
 simp[pad6,QE h,h]
theorem pad6_set {ts:List Int} {i:Nat} (h:i<ts.length) (x:Int):(pad6 ts).set i x=pad6 (ts.set i x):=by
 simp[pad6,YG _ _ h]
abbrev keyCs (t:Nat) (ts:List Int):List AV:=.i t::(pad6 ts).map AV.i
abbrev keyV (t:Nat) (ts:List Int):AV:=.agg (keyCs t ts)
abbrev kk7:Bool × List KK:=(true,[.int .i64,.int .i64,.int .i64,.int .i64,.int .i64,.int .i64,.int .i64])
abbrev Memo:=List ((Nat × List Int) × Int)
def rendK (K:Memo):List (AV × AV):=K.map fun e=>(keyV e.1.1 e.1.2,.i e.2)
def findQ (t:Nat) (ts:List Int):Memo→Nat→Option (Nat × Int)
 | [],_=>none
 | (k,v)::K,i=>if k=(t,ts) then some (i,v) else findQ t ts K (i+1)
def KeyOk (n:Nat) (k:Nat × List Int):Prop:=k.1≤100∧Dig n k.2
def KeysOk (n:Nat) (K:Memo):Prop:=∀ e∈K,KeyOk n e.1
theorem kkOk_i {z:Int} (h:0≤z∧z≤100):kkOk (.int .i64) (.i z)=true:=by
 simp only[kkOk,decide_true,XI,Lit.wf,QD,decide_eq_true_eq,IntKind.min,IntKind.max,IntKind.bits,IntKind.signed,if_true]
 simp;omega
theorem kks_all:∀ (zs:List Int),(∀ z∈zs,0≤z∧z≤100)→Y4 (List.replicate zs.length (.int .i64)) (zs.map AV.i)=true
 | [],_=>rfl
 | z::zs,h=>by
  simp only[List.length_cons,List.replicate_succ,Q0,Y4,QD]
  exact ⟨kkOk_i (h z (by simp)),kks_all zs fun z hz=>h z (by simp[hz])⟩
theorem pad6_mem {ts:List Int} {n:Nat} (h:Dig n ts):∀ z∈pad6 ts,0≤z∧z≤100:=by
 intro z hz
 simp only[pad6,YV,List.mem_replicate] at hz
 rcases hz with hz | ⟨_,rfl⟩
 ·obtain ⟨j,hj,rfl⟩:=WN.1 hz
  have:=h.2 j hj
  simp[hj] at this;omega
 ·omega
theorem keyOk_kks {n t:Nat} {ts:List Int} (hn:n≤6) (h:KeyOk n (t,ts)):Y4 kk7.2 (keyCs t ts)=true:=by
 have:=kks_all ((t:Int)::pad6 ts) (by
  intro z hz
  rcases ZD.1 hz with rfl | hz
  ·have:=h.1;dsimp only at this;omega
  ·exact pad6_mem h.2 z hz)
 rw[List.length_cons,pad6_len (by rw[h.2.1];exact hn)] at this
 exact this
theorem keyIs_ok {n t:Nat} {ts:List Int} (hn:n≤6) (h:KeyOk n (t,ts)):F4 kk7 (keyV t ts)=true:=keyOk_kks hn h
theorem DT:∀ (xs ys:List Int),VZ (xs.map AV.i) (ys.map AV.i)=decide (xs=ys)
 | [],[]=>by simp[VZ]
 | [],_::_=>by simp[VZ]
 | _::_,[]=>by simp[VZ]
 | x::xs,y::ys=>by
  simp only[Q0,VZ,EB,DT xs ys,List.cons.injEq]
  by_cases h:x=y <;> simp[h]
theorem pad6_inj {n:Nat} {xs ys:List Int} (hx:Dig n xs) (hy:Dig n ys) (h:pad6 xs=pad6 ys):xs=ys:=by
 unfold pad6 at h
 exact (List.append_inj h (by rw[hx.1,hy.1])).1
theorem keyEq_ok {n t t':Nat} {ts ts':List Int} (hn:n≤6) (h:KeyOk n (t,ts)) (h':KeyOk n (t',ts')):JW kk7 (keyV t ts) (keyV t' ts')=some (decide ((t',ts')=(t,ts))):=by
 simp only[JW,JK,keyOk_kks hn h,keyOk_kks hn h',Bool.and_self,if_true,Option.some.injEq]
 have:=DT ((t:Int)::pad6 ts) ((t':Int)::pad6 ts')
 simp only[Q0] at this
 rw[this]
 by_cases he:(t',ts')=(t,ts)
 ·cases he;simp
 ·rw[decide_eq_false he]
  simp only[decide_eq_false_iff_not]
  intro hc
  simp only[List.cons.injEq,Int.natCast_inj] at hc
  have h2:ts=ts':=pad6_inj h.2 h'.2 hc.2
  exact he (by rw[hc.1,h2])
theorem findKey_rend {n t:Nat} {ts:List Int} (hn:n≤6) (h:KeyOk n (t,ts)):∀ (K:Memo) (i:Nat),KeysOk n K→findKey kk7 (keyV t ts) (rendK K) i=some ((findQ t ts K i).map fun p=>(p.1,.i p.2))
 | [],_,_=>rfl
 | (k,v)::K,i,hK=>by
  have hk:=hK (k,v) (by simp)
  obtain ⟨t',ts'⟩:=k
  have ih:=findKey_rend hn h K (i+1) fun e he=>hK e (by simp[he])
  simp only[rendK,Q0,findKey,findQ]
  rw[keyEq_ok hn h hk]
  by_cases he:(t',ts')=(t,ts)
  ·simp[he]
  ·simp only[he,decide_false,if_false]
   exact ih
def putQ (K:Memo) (t:Nat) (ts:List Int) (v:Int):Memo :=
 match findQ t ts K 0 with
 | some (i,_)=>K.set i ((t,ts),v)
 | none=>K++[((t,ts),v)]
theorem mapPut_rend (K:Memo) (t:Nat) (ts:List Int) (v:Int):XU (rendK K) (keyV t ts) (.i v) ((findQ t ts K 0).map fun p=>(p.1,.i p.2))=rendK (putQ K t ts v):=by
 unfold putQ
 cases findQ t ts K 0 with
 | none=>simp[XU,rendK]
 | some p=>simp[XU,rendK]
theorem putQ_mem {K:Memo} {t:Nat} {ts:List Int} {v:Int} {e:(Nat × List Int) × Int} (h:e∈putQ K t ts v):e∈K∨e=((t,ts),v):=by
 unfold putQ at h
 split at h
 ·exact List.mem_or_eq_of_mem_set h
 ·simpa using h
theorem findQ_mem {t:Nat} {ts:List Int}:∀ {K:Memo} {i j:Nat} {v:Int},findQ t ts K i=some (j,v)→((t,ts),v)∈K
 | (k,v)::K,i,j,x,h=>by
  simp only[findQ] at h
  split at h
  ·rename_i hk;cases h;simp[hk]
  ·have:=findQ_mem h;simp[this]
def waysQ (ks:List Int):(r:Nat)→(ts:List Int)→(K:Memo)→Int × Memo
 | 0,_,K=>(1,K)
 | r+1,ts,K =>
  match findQ (ks.length-(r+1)) ts K 0 with
  | some (_,x)=>(x,K)
  | none =>
   let p:=(List.range ts.length).foldl (fun p i=>if canB_l ks ts (ks.length-(r+1)) i then let q:=waysQ ks r (ts.set i (ts[i]?.getD 0-1)) p.2;(p.1+q.1,q.2) else p) (0,K)
   (p.1,putQ p.2 (ks.length-(r+1)) ts p.1)
def waysQL (ks:List Int) (r:Nat) (ts:List Int) (K:Memo) (i:Nat):Int × Memo :=
 (List.range i).foldl (fun p i=>if canB_l ks ts (ks.length-(r+1)) i then let q:=waysQ ks r (ts.set i (ts[i]?.getD 0-1)) p.2;(p.1+q.1,q.2) else p) (0,K)
theorem waysQL_succ (ks:List Int) (r:Nat) (ts:List Int) (K:Memo) (i:Nat):waysQL ks r ts K (i+1) =
  if canB_l ks ts (ks.length-(r+1)) i then ((waysQL ks r ts K i).1+(waysQ ks r (ts.set i (ts[i]?.getD 0-1)) (waysQL ks r ts K i).2).1,(waysQ ks r (ts.set i (ts[i]?.getD 0-1)) (waysQL ks r ts K i).2).2) else waysQL ks r ts K i:=by
 unfold waysQL
 rw[WM,List.foldl_append]
 rfl
def RightQ (ks:List Int) (n:Nat) (K:Memo):Prop:=∀ e∈K,e.1.1<ks.length∧Dig n e.1.2∧e.2=waysF ks (ks.length-e.1.1) e.1.2
theorem RightQ.keys {ks:List Int} {n:Nat} {K:Memo} (hk:ks.length≤100) (h:RightQ ks n K):KeysOk n K:=fun e he=>⟨by have:=(h e he).1;omega,(h e he).2.1⟩
theorem waysQ_right {ks:List Int} {n:Nat}:∀ (r:Nat) (ts:List Int) (K:Memo),r≤ks.length→Dig n ts→RightQ ks n K→(waysQ ks r ts K).1=waysF ks r ts∧RightQ ks n (waysQ ks r ts K).2
 | 0,ts,K,hr,hd,hR=>⟨rfl,hR⟩
 | r + 1,ts,K,hr,hd,hR=>by
  have key:∀ i,i≤ts.length→(waysQL ks r ts K i).1=((List.range i).map fun i=>if canB_l ks ts (ks.length-(r+1)) i then waysF ks r (ts.set i (ts[i]?.getD 0-1)) else 0).sum∧RightQ ks n (waysQL ks r ts K i).2:=by
   intro i
   induction i with
   | zero=>intro _;exact ⟨rfl,hR⟩
   | succ i ihi =>
    intro hi
    obtain ⟨h1,h2⟩:=ihi (by omega)
    rw[waysQL_succ,WM,ZS,List.sum_append]
    by_cases hc:canB_l ks ts (ks.length-(r+1)) i=true
    ·rw[if_pos hc]
     obtain ⟨g1,g2⟩:=waysQ_right r (ts.set i (ts[i]?.getD 0-1)) (waysQL ks r ts K i).2 (by omega) (dig_less hd (by omega) hc) h2
     exact ⟨by simp[hc,h1,g1],g2⟩
    ·rw[if_neg hc]
     exact ⟨by simp[hc,h1],h2⟩
  obtain ⟨k1,k2⟩:=key ts.length (QG _)
  simp only[waysQ]
  split
  ·rename_i j x hf
   have:=hR _ (findQ_mem hf)
   dsimp only at this
   refine ⟨?_,hR⟩
   rw[this.2.2,show ks.length-(ks.length-(r+1))=r+1 by omega]
  ·refine ⟨k1,fun e he=>?_⟩
   rcases putQ_mem he with h | rfl
   ·exact k2 e h
   ·dsimp only
    refine ⟨by omega,hd,?_⟩
    rw[show ks.length-(ks.length-(r+1))=r+1 by omega]
    exact k1
theorem sum_le {l:List Nat} {f:Nat→Int} {M:Int} (h:∀ i∈l,0≤f i∧f i≤M):0≤(l.map f).sum∧(l.map f).sum≤l.length*M:=by
 induction l with
 | nil=>simp
 | cons a l ih =>
  have h1:=h a (by simp)
  have h2:=ih fun i hi=>h i (by simp[hi])
  simp only[Q0,List.sum_cons,List.length_cons]
  have:((l.length+1:Nat):Int)*M=l.length*M+M:=by rw[Int.natCast_add];simp[Int.add_mul]
  omega
theorem waysF_bounds (ks:List Int):∀ (r:Nat) (ts:List Int),ts.length≤6→0≤waysF ks r ts∧waysF ks r ts≤(6 ^ r:Nat)
 | 0,ts,_=>by simp[waysF]
 | r+1,ts,h=>by
  have h0:(0:Int)≤((6 ^ r:Nat):Int):=VV _
  have:=sum_le (l:=List.range ts.length) (f:=fun i=>if canB_l ks ts (ks.length-(r+1)) i then waysF ks r (ts.set i (ts[i]?.getD 0-1)) else 0) (M:=(6 ^ r:Nat)) (fun i hi=>by
   split
   ·exact waysF_bounds ks r _ (by simpa using h)
   ·omega)
  rw[List.length_range] at this
  simp only[waysF]
  refine ⟨this.1,Int.le_trans this.2 ?_⟩
  have h2:((6 ^ (r+1):Nat):Int)=6*((6 ^ r:Nat):Int):=by rw[Nat.pow_succ];omega
  rw[h2]
  exact Int.mul_le_mul_of_nonneg_right (by omega) h0
abbrev lessF (us:List Int) (i:Nat):List Int:=us.set i (us[i]?.getD 0-1)
def preF (ks:List Int) (r:Nat) (us:List Int) (i:Nat):Int :=
 ((List.range i).map fun i=>if canB_l ks us (ks.length-(r+1)) i then waysF ks r (us.set i (us[i]?.getD 0-1)) else 0).sum
theorem preF_succ (ks:List Int) (r:Nat) (us:List Int) (i:Nat):preF ks r us (i+1)=preF ks r us i+if canB_l ks us (ks.length-(r+1)) i then waysF ks r (lessF us i) else 0:=by
 unfold preF
 rw[WM,ZS,List.sum_append]
 simp
theorem preF_zero (ks:List Int) (r:Nat) (us:List Int):preF ks r us 0=0:=rfl
theorem preF_full (ks:List Int) (r:Nat) (us:List Int):waysF ks (r+1) us=preF ks r us us.length:=rfl
theorem preF_nonneg (ks:List Int) (r:Nat) (us:List Int) (i:Nat):0≤preF ks r us i:=by
 unfold preF
 refine sum_nonneg fun i _=>?_
 split
 ·exact waysF_nonneg _ _ _
 ·exact Int.le_refl _
theorem preF_mono (ks:List Int) (r:Nat) (us:List Int) {i j:Nat} (h:i≤j):preF ks r us i≤preF ks r us j:=by
 induction j with
 | zero => have:i=0:=by omega
           subst this;exact Int.le_refl _
 | succ j ih =>
  by_cases hij:i≤j
  ·rw[preF_succ]
   have h1:=ih hij
   have:0≤if canB_l ks us (ks.length-(r+1)) j then waysF ks r (lessF us j) else 0:=by
    split
    ·exact waysF_nonneg _ _ _
    ·exact Int.le_refl _
   omega
  ·have:i=j+1:=by omega
   subst this;exact Int.le_refl _
theorem waysQL_pre {ks:List Int} {n r:Nat} {us:List Int} {K:Memo} (hr:r+1≤ks.length) (hd:Dig n us) (hR:RightQ ks n K):∀ i,i≤us.length→(waysQL ks r us K i).1=preF ks r us i∧RightQ ks n (waysQL ks r us K i).2:=by
 intro i
 induction i with
 | zero=>intro _;exact ⟨rfl,hR⟩
 | succ i ih =>
  intro hi
  obtain ⟨h1,h2⟩:=ih (by omega)
  rw[waysQL_succ,preF_succ]
  by_cases hc:canB_l ks us (ks.length-(r+1)) i=true
  ·obtain ⟨g1,g2⟩:=waysQ_right r (us.set i (us[i]?.getD 0-1)) (waysQL ks r us K i).2 (by omega) (dig_less hd (by omega) hc) h2
   rw[if_pos hc,if_pos hc]
   exact ⟨by simp only[h1,g1,lessF],g2⟩
  ·rw[if_neg hc,if_neg hc]
   exact ⟨by rw[h1];simp,h2⟩
def pickF (ks:List Int):(r:Nat)→(us:List Int)→(x:Int)→List Int
 | 0,_,_=>[]
 | r+1,us,x=>match (List.range us.length).find? (fun i=>canB_l ks us (ks.length-(r+1)) i&&decide (x<preF ks r us (i+1))) with
  | some i=>(i:Int)::pickF ks r (lessF us i) (x-preF ks r us i)
  | none=>[]
theorem pick_step {ks:List Int} {r:Nat} {us:List Int} {x:Int} {j:Nat} (hj:j<us.length) (hc:canB_l ks us (ks.length-(r+1)) j=true) (hx:x<preF ks r us (j+1))
  (hb:∀ k,k<j→canB_l ks us (ks.length-(r+1)) k=true→preF ks r us (k+1)≤x):pickF ks (r+1) us x=(j:Int)::pickF ks r (lessF us j) (x-preF ks r us j):=by
 have:(List.range us.length).find? (fun i=>canB_l ks us (ks.length-(r+1)) i&&decide (x<preF ks r us (i+1)))=some j:=by
  rw[List.find?_range_eq_some]
  refine ⟨by simp[hc,hx],by simpa using hj,fun k hk=>?_⟩
  simp only[Z0,Bool.and_eq_false_iff,decide_eq_false_iff_not]
  cases hck:canB_l ks us (ks.length-(r+1)) k with
  | false=>exact .inl rfl
  | true=>exact .inr (by have:=hb k hk hck;omega)
 simp only[pickF,this]
theorem pre_le {ks:List Int} {r:Nat} {us:List Int} {x:Int} (hx:0≤x):∀ (j:Nat),(∀ k,k<j→canB_l ks us (ks.length-(r+1)) k=true→preF ks r us (k+1)≤x)→preF ks r us j≤x
 | 0,_=>hx
 | j+1,h=>by
  by_cases hc:canB_l ks us (ks.length-(r+1)) j=true
  ·exact h j (by omega) hc
  ·rw[preF_succ,if_neg hc]
   have:=pre_le hx j fun k hk=>h k (by omega)
   omega
theorem arr_addr {N:Nat} {l o k:Nat} (h:k<N) (σ:List AObj):PD N 1 [.ptr l o,.cv (.int .i64 k)] σ=some (.ptr l (o+k),σ):=by
 simp[PD,h]
theorem cons_get1 {α:Type} (x:α) (cs:List α) (k:Nat):(x::cs)[1+k]? = cs[k]? := by rw[Nat.add_comm];rfl
theorem cons_set1 {α:Type} (x:α) (cs:List α) (k:Nat) (v:α):(x::cs).set (1+k) v=x::cs.set k v:=by rw[Nat.add_comm];rfl
theorem isSc_ints (zs:List Int):(zs.map AV.i).all AV.isSc=true:=by simp[AV.isSc]
theorem setRange_all:∀ (vs pre cs:List AV),cs.length=vs.length→setRange (pre++cs) pre.length vs=pre++vs
 | [],pre,cs,h=>by
  have:cs=[]:=ZT (by simpa using h)
  subst this;rfl
 | v::vs,pre,[],h=>by simp at h
 | v::vs,pre,c::cs,h=>by
  have e:(pre++c::cs).set pre.length v=(pre++[v])++cs:=by simp
  rw[setRange,e]
  have:=setRange_all vs (pre++[v]) cs (by simpa using h)
  rw[QM] at this
  rw[show pre.length+1=pre.length+[v].length from rfl,this]
  simp
theorem setRange_1 {x:AV} {cs vs:List AV} (h:cs.length=vs.length):setRange (x::cs) 1 vs=x::vs:=setRange_all vs [x] cs h
theorem setRange_0 {cs vs:List AV} (h:cs.length=vs.length):setRange cs 0 vs=vs:=setRange_all vs [] cs h
def apO (n l:Nat) (σ:List AObj) (r:Option (List AV)) (v:Option (List AV)):Option (AV × List AObj) :=
 match r,v with
 | some cs,some (x::_)=>if n≤cs.length∧(n+1)*8≤2 ^ 44∧x.isSc=true then some (.sl σ.length 0 (n+1) 1,σ.set l .dead++[.cells (cs.take n++[x])]) else none
 | _,_=>none
theorem append_O {σ:List AObj} {l n l2:Nat}:ZX 1 8 [.sl l 0 n 1,.sl l2 0 1 1] σ=apO n l σ (rowOf σ l) (rowOf σ l2):=by
 simp only[ZX,Z9,lenF,apO]
 cases rowOf σ l with
 | none=>rfl
 | some cs =>
  cases rowOf σ l2 with
  | none=>rfl
  | some vs =>
   cases vs with
   | nil=>rfl
   | cons x vs =>
    simp only[Option.bind_some,List.length_cons,List.length_nil,W3,List.all_cons,List.all_nil,WH,YO,List.take_succ_cons,List.take_zero,if_true,ZV]
    rw[if_pos (by omega)]
    simp only[Option.bind_some,List.length_cons,List.length_nil,List.all_cons,List.all_nil,WH,ZV]
    by_cases h:n≤cs.length∧(n+1)*8≤2 ^ 44∧x.isSc=true
    ·rw[if_pos h,if_pos ⟨trivial,h.1,trivial,h.2.1,by omega,h.2.2⟩]
    ·rw[if_neg h,if_neg (fun g=>h ⟨g.2.1,g.2.2.2.1,g.2.2.2.2.2⟩)]
theorem apO_ints {zs:List Int} (h:zs.length<2 ^ 40) (l:Nat) (σ:List AObj) (z:Int) (r:List AV):apO zs.length l σ (some (zs.map AV.i)) (some (.cv (.int .i64 z)::r))=some (.sl σ.length 0 (zs.length+1) 1,σ.set l .dead++[.cells ((zs++[z]).map AV.i)]):=by
 have hp:(2:Nat) ^ 40=1099511627776:=by decide
 have hp2:(2:Nat) ^ 44=17592186044416:=by decide
 simp only[apO]
 rw[if_pos ⟨by simp,by omega,rfl⟩,Q5 (by simp)]
 simp
theorem bit_and_l (x i:Nat) (hx:x<2 ^ 62) (hi:i<60):(IntKind.i64.wrap ((BitVec.ofInt IntKind.i64.bits (((x:Nat):Int).fdiv (2 ^ min i IntKind.i64.bits)) &&& BitVec.ofInt IntKind.i64.bits 1).toNat) == 0)=(!x.testBit i):=by
 have hb:IntKind.i64.bits=64:=rfl
 have h1:min i 64=i:=by omega
 rw[hb,h1]
 have h2:((x:Nat):Int).fdiv (2 ^ i)=((x / 2 ^ i:Nat):Int):=by
  rw[Int.fdiv_eq_ediv_of_nonneg _ (by exact_mod_cast QF _)]
  norm_cast
 rw[h2]
 have h3:x / 2 ^ i<2 ^ 62:=WJ (Nat.div_le_self _ _) hx
 rw[Nat.testBit_eq_decide_div_mod_eq]
 generalize x / 2 ^ i=y at h3 ⊢
 have h4:(BitVec.ofInt 64 (y:Int) &&& BitVec.ofInt 64 1).toNat=y % 2:=by
  rw[BitVec.toNat_and]
  have e1:(BitVec.ofInt 64 (y:Int)).toNat=y:=by
   rw[BitVec.toNat_ofInt];omega
  have e2:(BitVec.ofInt 64 1).toNat=1:=by decide
  rw[e1,e2,Nat.and_one_is_mod]
 rw[h4,ZC (by omega)]
 by_cases h:y % 2=1
 ·simp[h]
 ·have:y % 2=0:=by omega
  simp[this]
theorem c60 (d:Nat) (t:Nat) (us:List Int) (σ:List AObj) (hu:us.length≤6):AC Tryz.prog 73 [.ptr d 0,keyV t us] σ fun r τ=>r=.fn (.func 98) [.ptr σ.length 0,.ptr (σ.length+1) 0]∧τ=σ++[AObj.cells [.ptr d 0],AObj.cells (keyCs t us)]:=by
 refine ZF (fok73 true) (QC rfl) ?_
 simp only[ic73,WI,cellsOf,QW,QM,evA,simprocAttr]
theorem set_end (σ:List AObj) (x y:AObj):(σ++[x]).set σ.length y=σ++[y]:=by simp
theorem copy_pad {σ:List AObj} {l:Nat} {ts:List Int} (h:rowOf σ l=some [.i 0,.i 0,.i 0,.i 0,.i 0,.i 0,.i 0]) (ht:ts.length≤6):UE 1 [.sl l 1 6 1,ints ts] σ=some (.i ts.length,σ.set l (.cells (keyCs 0 ts))):=by
 have hsrc:Z9 σ 1 (ints ts)=some (ts.map AV.i):=by simp[Z9]
 have hmin:Nat.min ts.length 6=ts.length:=VD ht
 have htk:(ts.map AV.i).take (ts.length*1)=ts.map AV.i:=Q5 (by simp)
 have hrow:setRange [AV.i 0,.i 0,.i 0,.i 0,.i 0,.i 0,.i 0] 1 (ts.map AV.i)=keyCs 0 ts:=by
  have e:[AV.i 0,.i 0,.i 0,.i 0,.i 0,.i 0,.i 0]=.i 0::(List.replicate ts.length (.i 0)++List.replicate (6-ts.length) (.i 0)):=by
   rw[List.replicate_append_replicate,show ts.length+(6-ts.length)=6 by omega];rfl
  rw[e]
  have key:∀ (vs pre cs rest:List AV),cs.length=vs.length→setRange (pre++(cs++rest)) pre.length vs=pre++(vs++rest):=by
   intro vs
   induction vs with
   | nil=>intro pre cs rest h;have:cs=[]:=ZT (by simpa using h);subst this;rfl
   | cons v vs ih =>
    intro pre cs rest h
    cases cs with
    | nil=>simp at h
    | cons c cs =>
     have e:(pre++(c::cs++rest)).set pre.length v=(pre++[v])++(cs++rest):=by simp
     rw[setRange,e]
     have:=ih (pre++[v]) cs rest (by simpa using h)
     rw[QM] at this
     rw[show pre.length+1=pre.length+[v].length from rfl,this]
     simp
  have:=key (ts.map AV.i) [.i 0] (List.replicate ts.length (.i 0)) (List.replicate (6-ts.length) (.i 0)) (by simp)
  simp only[List.cons_append,List.nil_append,List.length_cons,List.length_nil] at this
  rw[this]
  simp[keyCs,pad6]
 simp only[UE,h,hsrc,lenF,Option.bind_some]
 rw[if_pos ⟨trivial,by simp,by simp,isSc_ints ts⟩,hmin,htk,hrow]
theorem c55 (d:Nat) (ts:List Int) (rest:List AV) (σ:List AObj) (hd:rowOf σ d=some (ints ts::rest)) (ht:ts.length≤6):AC Tryz.prog 36 [.ptr d 0] σ fun r τ=>r=keyV 0 ts∧τ=σ:=by
 refine (AC.cut (σ2:=σ) (v:=keyV 0 ts) (ZF (fok36 true) (QC rfl) ?_) rfl ?_ (fun l o ho=>.inl ho))
 ·have hd1:=fun x=>FU hd x
  have hl:=fun cs=>XH σ cs
  have hcp:=copy_pad (ts:=ts) (hl _) ht
  have h6:=pad6_len ht
  have htk:((pad6 ts).map AV.i).take 6=(pad6 ts).map AV.i:=Q5 (by simp[h6])
  have hsr:∀ x:AV,setRange (x::(pad6 ts).map AV.i) 1 ((pad6 ts).map AV.i)=x::(pad6 ts).map AV.i:=fun x=>setRange_1 rfl
  simp only[ic36,evA,simprocAttr]
  refine DW_s [] [] hmix_l (by kernel_rfl) rfl ?_
  simp only[Nat.reduceLT,OG,bnds,hl,hd1,hcp,set_end,h6,htk,hsr,cellsOf,isSc_ints,evA,simprocAttr]
  exact ⟨rfl,_,rfl⟩
 ·simp only[keyV,QR]
  rw[Z8]
  intro v hv
  rcases ZD.1 hv with rfl | hv
  ·rfl
  ·obtain ⟨z,_,rfl⟩:=ZP.1 hv;rfl
theorem key_cl (k t:Nat) (ts:List Int):QR k (keyV t ts)=true:=by
 simp only[keyV,QR]
 rw[Z8]
 intro v hv
 rcases ZD.1 hv with rfl | hv
 ·rfl
 ·obtain ⟨z,_,rfl⟩:=ZP.1 hv;rfl
theorem objIn_key (k t:Nat) (ts:List Int):Z3 k (AObj.cells (keyCs t ts))=true:=by
 simpa only[Z3,keyV,QR] using key_cl k t ts
theorem c75_l (ts0 ks us:List Int) (M:AV) (a b D l t:Nat) (H F:Nat→List AObj) (go:Nat→Bool) (hok:DrawOk ts0 ks) (hu:us.length=ts0.length) (hd:∀ j,j<us.length→0≤us[j]?.getD 0∧us[j]?.getD 0≤4) (ht:t<ks.length)
  (hH:∀ i,i≤us.length→(H i).length=(H 0).length∧rowOf (H i) a=some [.ptr D 0]∧rowOf (H i) D=some [ints ts0,ints ks,M]∧rowOf (H i) b=some (keyCs t us)∧∀ o∈H i,Z3 (H 0).length o=true)
  (hll:l<(H 0).length)
  (hn:∀ i,i<us.length→canB_l ks us t i=false→H (i+1)=H i)
  (hy:∀ i,i<us.length→canB_l ks us t i=true→(∀ j,j<i→canB_l ks us t j=true→go j=true)→YC Tryz.prog l [.i i,keyV (t+1) (us.set i (us[i]?.getD 0-1))] (H i++[AObj.cells (keyCs (t+1) (us.set i (us[i]?.getD 0-1)))]) fun v τ=>v=.b (go i)∧τ=if go i then H (i+1)++[AObj.cells (keyCs (t+1) (us.set i (us[i]?.getD 0-1)))] else F i)
  (hF:∀ i,i<us.length→canB_l ks us t i=true→(∀ j,j<i→canB_l ks us t j=true→go j=true)→go i=false→HM (H i++[AObj.cells (keyCs (t+1) (us.set i (us[i]?.getD 0-1)))]) (.b false) (F i)) :
  AC Tryz.prog 98 [.yld l,.ptr a 0,.ptr b 0] (H 0) fun v τ =>
   (∃ J,τ=H us.length++J∧∀ j,j<us.length→canB_l ks us t j=true→go j=true)∨∃ j,τ=F j∧j<us.length∧canB_l ks us t j=true∧go j=false∧∀ k,k<j→canB_l ks us t k=true→go k=true:=by
 refine ZF (fok98 true) (QC rfl) ?_
 have h0:=hH 0 (QF _)
 have h6:=hok.tl
 have hu6:us.length≤6:=by omega
 have hp6:=pad6_len hu6
 have htk:((pad6 us).map AV.i).take 6=(pad6 us).map AV.i:=Q5 (by simp[hp6])
 have hsr:∀ x:AV,setRange [x,.cv (.int .i64 0),.cv (.int .i64 0),.cv (.int .i64 0),.cv (.int .i64 0),.cv (.int .i64 0),.cv (.int .i64 0)] 1 ((pad6 us).map AV.i)=x::(pad6 us).map AV.i:=fun x=>setRange_1 (by simp[hp6])
 have hkt:=hok.kr t ht
 have hks8:=hok.kl
 obtain ⟨S,hS⟩:∃ S:Nat,ks[t]?.getD 0=(S:Int):=⟨(ks[t]?.getD 0).toNat,(VI hkt.1).symm⟩
 have hS62:S<2 ^ 62:=by
  have h2:=hkt.2
  rw[hS] at h2
  unfold capF at h2
  have hp:(2:Nat) ^ ts0.length≤2 ^ 6:=Nat.pow_le_pow_right (by omega) (by omega)
  generalize 2 ^ ts0.length=q at *
  omega
 have hloc:∀ i,i≤us.length→a<(H i).length∧b<(H i).length:=fun i hi =>
  ⟨(QH.1 (WO (hH i hi).2.1)).1,(QH.1 (WO (hH i hi).2.2.2.1)).1⟩
 have hw1:IntKind.i64.wrap ((t:Int)+1)=((t+1:Nat):Int):=by rw[ZC (by omega)];rfl
 simp only[ic98,h0.2.1,h0.2.2.1,evA,simprocAttr]
 rw[← hu]
 refine ZW us.length (fun i s=>(∀ j,j<i→canB_l ks us t j=true→go j=true)∧∃ v3 v4 v7 v8,s=⟨[.yld l,.ptr a 0,.ptr b 0,v3,v4,.i us.length,.i i,v7,v8],H i⟩) ?_ 0 (QF _) ⟨fun j hj=>absurd hj (W5 _),_,_,_,_,rfl⟩
 rintro i s hi ⟨hall,v3,v4,v7,v8,rfl⟩
 by_cases h:i<us.length
 rotate_left
 ·have hie:i=us.length:=by omega
  simp only[ic98l0,QJ,h,evA,simprocAttr]
  subst hie
  exact .inl ⟨[],by simp,hall⟩
 have hHi:=hH i hi
 obtain ⟨g1,g2,g3,g4,g5⟩:=hHi
 have hHs:=hH (i+1) h
 have q2:=fun x=>FU g2 x
 have q3:=fun x=>FU g3 x
 have q4:=fun x=>FU g4 x
 have ql:=fun cs=>XH (H i) cs
 have hi6:i<6:=by omega
 have hi7:1+i≤6:=by omega
 have hget:((pad6 us).map AV.i)[i]? = some (.i (us[i]?.getD 0)):=by rw[ZR,pad6_get h];rfl
 have hdi:=hd i h
 have hw2:IntKind.i64.wrap (us[i]?.getD 0-1)=us[i]?.getD 0-1:=ZC (by omega)
 have hst:((pad6 us).map AV.i).set i (.cv (.int .i64 (us[i]?.getD 0-1)))=(pad6 (us.set i (us[i]?.getD 0-1))).map AV.i:=by rw[GC,pad6_set h]
 have hget2:((pad6 (us.set i (us[i]?.getD 0-1))).map AV.i)[i]? = some (.i (us[i]?.getD 0-1)):=by rw[ZR,pad6_get (by simpa using h)];simp[h]
 have hp62:(pad6 (us.set i (us[i]?.getD 0-1))).length=6:=pad6_len (by simpa using hu6)
 have htk2:((pad6 (us.set i (us[i]?.getD 0-1))).map AV.i).take 6=(pad6 (us.set i (us[i]?.getD 0-1))).map AV.i:=Q5 (by simp[hp62])
 have hbit:=bit_and_l S i hS62 (by omega)
 have hcan:canB_l ks us t i=(decide (us[i]?.getD 0>0) && !S.testBit i):=by unfold canB_l;rw[hS];rfl
 have hge:decide (us[i]?.getD 0-1≥0)=decide (us[i]?.getD 0>0):=by
  rw[decide_eq_decide];omega
 have hyi:=hy i h
 have hFi:=hF i h
 have hni:=hn i h
 have hi0:¬ ((i:Int)<0):=by omega
 generalize hus':us.set i (us[i]?.getD 0-1)=us' at *
 simp only[ic98l0,QJ,h,hi7,g2,g3,g4,q2,q3,q4,ql,htk,hsr,hw1,hp6,cellsOf,isSc_ints,set_end,arr_addr hi6,cons_get1,cons_set1,hget,hw2,hst,evA,simprocAttr]
 refine DW_s [] [] hmix_l (by kernel_rfl) rfl ?_
 have hsub:∀ (J:List AObj) (y3 y4 y7 y8:AV),Weak ⟨vs98,56,none,(H 0).length⟩ ⟨[.yld l,.ptr a 0,.ptr b 0,y3,y4,.i us.length,.i ((i+1:Nat):Int),y7,y8],H (i+1)++J⟩ ⟨[.yld l,.ptr a 0,.ptr b 0,.undef,.undef,.i us.length,.i ((i+1:Nat):Int),.undef,.undef],H (i+1)⟩:=fun J y3 y4 y7 y8 =>
  Weak.cut ⟨.inl rfl,.inl rfl,.inl rfl,.inr rfl,.inr rfl,.inl rfl,.inl rfl,.inr rfl,.inr rfl,trivial⟩ (by rw[hHs.1];exact QG _) (by
   have:=hloc (i+1) h
   rw[hHs.1] at this
   simp[QO,QR,this.1,this.2,hHs.1,hll]) (fun o ho=>by rw[hHs.1];exact hHs.2.2.2.2 o ho)
 have hwi:IntKind.i64.wrap ((i:Int)+1)=((i+1:Nat):Int):=by rw[ZC (by omega)];rfl
 cases hbt:S.testBit i
 ·rw [hbt] at hbit hcan
  simp only[ZY,WH] at hbit hcan
  rw[← hge] at hcan
  by_cases hpos:us[i]?.getD 0-1≥0
  ·rw[decide_eq_true hpos] at hcan
   simp only[h,hi7,g2,g3,g4,q2,q3,q4,ql,htk,htk2,hsr,hw1,hp6,hp62,cellsOf,isSc_ints,set_end,arr_addr hi6,cons_get1,cons_set1,hget,hget2,hw2,hst,ht,hS,VK,hi0,hbit,hpos,evA,simprocAttr]
   have hyc:=hyi hcan hall
   cases hgo:go i
   ·rw[hgo] at hyc
    simp only[QT,if_false] at hyc
    refine MS hyc (hFi hcan hall hgo) ?_
    simp only[evA,simprocAttr]
    exact .inr ⟨i,rfl,h,hcan,hgo,hall⟩
   ·rw[hgo] at hyc
    simp only[if_true] at hyc
    refine MS hyc (GH (by simp[g1,hHs.1]) rfl (fun l o ho hne=>?_)) ?_
    ·rcases YV.1 (QZ ho) with hm | hm
     ·exact H1 _ _ _ (by simp[hHs.1]) (hHs.2.2.2.2 o hm)
     ·simp only[WZ] at hm;subst hm;exact objIn_key _ _ _
    ·simp only[hwi,evA,simprocAttr]
     refine AS (by first | trivial | omega) (hsub _ _ _ _ _) ⟨fun j hj hcj=>?_,_,_,_,_,rfl⟩
     rcases QQ.1 hj with hj | rfl
     ·exact hall j hj hcj
     ·exact hgo
  ·rw[decide_eq_false hpos] at hcan
   simp only[h,hi7,g2,g3,g4,q2,q3,q4,ql,htk,htk2,hsr,hw1,hp6,hp62,cellsOf,isSc_ints,set_end,arr_addr hi6,cons_get1,cons_set1,hget,hget2,hw2,hst,ht,hS,VK,hi0,hbit,hpos,hwi,evA,simprocAttr]
   rw[← hni hcan]
   refine AS (by first | trivial | omega) (hsub _ _ _ _ _) ⟨fun j hj hcj=>?_,_,_,_,_,rfl⟩
   rcases QQ.1 hj with hj | rfl
   ·exact hall j hj hcj
   ·rw[hcan] at hcj;cases hcj
 ·rw[hbt] at hbit hcan
  simp only[Y2,UA] at hbit hcan
  simp only[h,hi7,g2,g3,g4,q2,q3,q4,ql,htk,htk2,hsr,hw1,hp6,hp62,cellsOf,isSc_ints,set_end,arr_addr hi6,cons_get1,cons_set1,hget,hget2,hw2,hst,ht,hS,VK,hi0,hbit,hwi,evA,simprocAttr]
  rw[← hni hcan]
  refine AS (by first | trivial | omega) (hsub _ _ _ _ _) ⟨fun j hj hcj=>?_,_,_,_,_,rfl⟩
  rcases QQ.1 hj with hj | rfl
  ·exact hall j hj hcj
  ·rw[hcan] at hcj;cases hcj
theorem ren_key (g:Nat→Nat) (t:Nat) (ts:List Int):ren g (keyV t ts)=keyV t ts:=by
 simp only[keyV,ren,rens,rens_ints]
theorem ren_rend (g:Nat→Nat) (K:Memo):(rendK K).map (fun e=>(ren g e.1,ren g e.2))=rendK K:=by
 simp only[rendK,XW]
 apply JI
 intro e _
 show (ren g (keyV e.1.1 e.1.2),ren g (.i e.2))=_
 rw[ren_key];rfl
theorem objIn_rend (k:Nat) (K:Memo):Z3 k (.map (rendK K))=true:=by
 simp only[Z3,Q1,QD]
 intro e he
 simp only[rendK,ZP] at he
 obtain ⟨x,_,rfl⟩:=he
 exact ⟨key_cl _ _ _,rfl⟩
theorem look_rend {σ:List AObj} {l n t:Nat} {us:List Int} {K:Memo} (h:mapOf σ l=some (rendK K)) (hn:n≤6) (hk:KeyOk n (t,us)) (hK:KeysOk n K) :
  KL kk7 (.i 0) true [.map l,keyV t us] σ=some (.tup [.i (((findQ t us K 0).map (·.2)).getD 0),.b (findQ t us K 0).isSome],σ):=by
 simp only[KL,h,Option.bind_some,keyIs_ok hn hk,findKey_rend hn hk K 0 hK,Option.map_some]
 cases findQ t us K 0 <;> rfl
theorem put_rend {σ:List AObj} {l n t:Nat} {us:List Int} {K:Memo} {v:Int} (h:mapOf σ l=some (rendK K)) (hn:n≤6) (hk:KeyOk n (t,us)) (hK:KeysOk n K) :
  JZ kk7 [.map l,keyV t us,.i v] σ=some (.undef,σ.set l (.map (rendK (putQ K t us v)))):=by
 simp only[JZ,h,Option.bind_some,keyIs_ok hn hk,findKey_rend hn hk K 0 hK,Option.map_some,mapPut_rend]
 rfl
abbrev hp4 (ts0 ks:List Int) (K:Memo):List AObj:=[.cells [.ptr 1 0],.cells [ints ts0,ints ks,.map 2],.map (rendK K),.cells [.fn (.func 85) [.ptr 0 0,.ptr 3 0]]]
theorem set_same {σ:List AObj} {a:Nat} {o:AObj} (h:σ[a]? = some o):σ.set a o=σ:=by
 apply Z1
 intro l
 by_cases hl:a=l
 ·subst hl;rw[Z2 (QH.1 h).1,h]
 ·rw[QU hl]
theorem at74 {ts0 ks:List Int} {K K':Memo} {t:Nat} {us:List Int} {n:Int} (h:AC Tryz.prog 85 [keyV t us,.ptr 0 0,.ptr 3 0] (hp4 ts0 ks K) fun v τ=>v=.i n∧τ=hp4 ts0 ks K') {σ:List AObj} (a b c d:Nat) (hnd:[a,b,c,d].Nodup)
  (h0:σ[a]? = some (.cells [.ptr b 0])) (h1:σ[b]? = some (.cells [ints ts0,ints ks,.map c])) (h2:σ[c]? = some (.map (rendK K))) (h3:σ[d]? = some (.cells [.fn (.func 85) [.ptr a 0,.ptr d 0]])) :
  AC Tryz.prog 85 [keyV t us,.ptr a 0,.ptr d 0] σ fun v τ=>v=.i n∧τ=σ.set c (.map (rendK K')):=by
 have hr:=AC.at (σ:=σ) [a,b,c,d] h hnd (by show (QR _ (keyV t us)&&_)=true;rw[key_cl];rfl) (by
  refine ⟨⟨trivial,rfl,?_⟩,⟨trivial,rfl,?_⟩,⟨trivial,objIn_rend _ _,?_⟩,⟨trivial,rfl,?_⟩,trivial⟩
  ·rw[h0];rfl
  ·rw[h1];rfl
  ·rw[h2];simp only[renO,ren_rend]
  ·rw[h3];rfl)
 have he:rens (atF [a,b,c,d] σ.length) [keyV t us,.ptr 0 0,.ptr 3 0]=[keyV t us,.ptr a 0,.ptr d 0]:=by
  simp only[rens,ren_key];rfl
 rw[he] at hr
 refine hr.mono ?_
 rintro r τ ⟨r0,τ0,⟨rfl,rfl⟩,_,rfl,rfl⟩
 refine ⟨rfl,?_⟩
 have e:(hp4 ts0 ks K').map (renO (atF [a,b,c,d] σ.length))=[.cells [.ptr b 0],.cells [ints ts0,ints ks,.map c],.map (rendK K'),.cells [.fn (.func 85) [.ptr a 0,.ptr d 0]]]:=by
  simp only[Q0,WS,renO,ren_rend];rfl
 rw[e]
 simp only[putL]
 rw[set_same h0,set_same h1]
 have hcd:c≠d:=by simp at hnd;exact hnd.2.2
 have h3':(σ.set c (.map (rendK K')))[d]? = some (.cells [.fn (.func 85) [.ptr a 0,.ptr d 0]]):=by rw[QU hcd];exact h3
 rw[set_same h3',ZU]
def ia74:IC:=(.region [jw 6 (.alloc [(.cv (.int .i64 0)),(.cv (.int .i64 0)),(.cv (.int .i64 0)),(.cv (.int .i64 0)),(.cv (.int .i64 0)),(.cv (.int .i64 0)),(.cv (.int .i64 0))]) [],jq (.store 7) [.v 6,.v 11]])
def ib74:IC:=(.block 1 (.dr [[],[],[],[1,2],[0,3],[4,3,0,1,2,3,4]] [jL 4,jL 2,jN 7 6,⟨none,none,.call,[(.t 1),(.t 2)]⟩,jq (.bin .add .int) [.t 0,.t 3],jq (.store 1) [.v 4,.t 4]]))
theorem ca74:QL Tryz.prog vs85 45 (nav [1,1,1,1,0,1,0,2] (Tryz.f85.body.getD .skip))=some ia74:=by kernel_rfl
theorem cb74:QL Tryz.prog vs85 45 (nav [1,1,1,1,0,1,0,3] (Tryz.f85.body.getD .skip))=some ib74:=by kernel_rfl
theorem waysQ_step (ks:List Int) (r:Nat) (us:List Int) (K:Memo):waysQ ks (r+1) us K=match findQ (ks.length-(r+1)) us K 0 with
  | some (_,x)=>(x,K)
  | none=>((waysQL ks r us K us.length).1,putQ (waysQL ks r us K us.length).2 (ks.length-(r+1)) us (waysQL ks r us K us.length).1):=by
 simp only[waysQ]
 cases findQ (ks.length-(r+1)) us K 0 <;> rfl
theorem waysQL_right {ks:List Int} {n r:Nat} {us:List Int} {K:Memo} (hr:r+1≤ks.length) (hd:Dig n us) (hn:n≤6) (hR:RightQ ks n K):∀ i,i≤us.length→RightQ ks n (waysQL ks r us K i).2∧0≤(waysQL ks r us K i).1∧(waysQL ks r us K i).1≤((i*6 ^ r:Nat):Int):=by
 intro i
 induction i with
 | zero=>intro _;exact ⟨hR,Int.le_refl _,by simp[waysQL]⟩
 | succ i ih =>
  intro hi
  obtain ⟨h1,h2,h3⟩:=ih (by omega)
  rw[waysQL_succ]
  have hs:((i+1)*6 ^ r:Nat)=i*6 ^ r+6 ^ r:=XJ i (6 ^ r)
  split
  ·rename_i hc
   have hd':=dig_less hd (by omega) hc
   obtain ⟨g1,g2⟩:=waysQ_right r (us.set i (us[i]?.getD 0-1)) (waysQL ks r us K i).2 (by omega) hd' h1
   have g3:=waysF_bounds ks r (us.set i (us[i]?.getD 0-1)) (by rw[hd'.1];exact hn)
   rw[← g1] at g3
   refine ⟨g2,?_,?_⟩
   ·simp only;omega
   ·simp only
    rw[hs]
    generalize 6 ^ r=p at *
    generalize i*p=q at *
    omega
  ·refine ⟨h1,h2,?_⟩
   rw[hs]
   generalize 6 ^ r=p at *
   generalize i*p=q at *
   omega
theorem c74 (ts0 ks:List Int) (hok:DrawOk ts0 ks):∀ (r:Nat) (us:List Int) (K:Memo),r≤ks.length→Dig ts0.length us→RightQ ks ts0.length K →
  AC Tryz.prog 85 [keyV (ks.length-r) us,.ptr 0 0,.ptr 3 0] (hp4 ts0 ks K) fun v τ=>v=.i (waysQ ks r us K).1∧τ=hp4 ts0 ks (waysQ ks r us K).2
 | 0,us,K,hr,hd,hR=>by
  refine AC.cut (ZF (fok85 true) (QC rfl) ?_) rfl rfl (fun l o ho=>.inl ho)
  simp only[ic85,Nat.sub_zero,WI,cellsOf,waysQ,evA,simprocAttr]
  refine DW_s [] [] hmix_l (by kernel_rfl) rfl ?_
  simp only[WI,cellsOf,waysQ,evA,simprocAttr]
  exact Exists.intro _ rfl
 | r + 1,us,K,hr,hd,hR=>by
  obtain ⟨t,ht⟩:∃ t,t=ks.length-(r+1):=⟨_,rfl⟩
  have htl:t<ks.length:=by omega
  have h6:=hok.tl
  have hk8:=hok.kl
  have hu6:us.length≤6:=by rw[hd.1];exact h6.2
  have hkey:KeyOk ts0.length (t,us):=⟨by show t≤100;omega,hd⟩
  have hKs:=hR.keys (by omega)
  have hne:(((t:Nat):Int) == (ks.length:Int))=false:=by simp;omega
  have hlook:=fun (o0 o1:AObj) (σ:List AObj)=>look_rend (σ:=o0::o1::AObj.map (rendK K)::σ) (l:=2) rfl h6.2 hkey hKs
  have hp6:=pad6_len hu6
  have htk:((pad6 us).map AV.i).take 6=(pad6 us).map AV.i:=Q5 (by simp[hp6])
  have hstep:=waysQ_step ks r us K
  rw[← ht] at hstep ⊢
  generalize hX:waysQ ks (r+1) us K=X at hstep ⊢
  refine AC.cut (σ2:=hp4 ts0 ks X.2) (v:=.i X.1) (ZF (fok85 true) (QC rfl) ?_) rfl rfl (fun l o ho=>?_)
  rotate_left
  ·match l,ho with
   | 0,ho=>exact .inl ho
   | 1,ho=>exact .inl ho
   | 2,ho=>cases ho;exact .inr (objIn_rend _ _)
   | 3,ho=>exact .inl ho
  simp only[ic85,WI,cellsOf,evA,simprocAttr]
  refine DW_s [] [] hmix_l (by kernel_rfl) rfl ?_
  simp only[hne,WI,cellsOf,evA,simprocAttr]
  refine DW_s [] [] hmix_l (by kernel_rfl) rfl ?_
  cases hf:findQ t us K 0 with
  | some p =>
   obtain ⟨j,x⟩:=p
   rw[hf] at hstep hlook
   simp only at hstep
   subst hstep
   simp only[Option.map_some,Option.getD_some,Option.isSome_some] at hlook
   simp only[hlook,hp6,htk,WI,cellsOf,evA,simprocAttr]
   exact Exists.intro _ rfl
  | none =>
   rw[hf] at hstep hlook
   simp only at hstep
   simp only[Option.map_none,Option.getD_none,Option.isSome_none] at hlook
   simp only[hlook,hp6,htk,WI,cellsOf,evA,simprocAttr]
   refine AC.run (c60 1 t us _ hu6) ?_
   simp only[hlook,hp6,htk,WI,cellsOf,evA,simprocAttr]
   refine RW_s (gf:=98) (cap:=[.ptr 6 0,.ptr 7 0]) rfl (QC rfl) (fun l h=>by cases h) ?_
   generalize hRR:VJ _ _ _ _ _=R
   simp only[evA,simprocAttr]
   have e1:R.vars=vs85:=by rw[← hRR];rfl
   have e2:R.ntmps=45:=by rw[← hRR];rfl
   have e3:R.params=[31,32]:=by rw[← hRR];rfl
   have e4:R.vals=[keyV t us,.ptr 0 0,.ptr 3 0,.ptr 4 0,.ptr 5 0,.b false,.undef,.b false,.b false,.fn (.func 98) [.ptr 6 0,.ptr 7 0],.undef,.undef]:=by rw[← hRR];rfl
   have e5:R.state=.ready:=by rw[← hRR];rfl
   have e6:R.pending=none:=by rw[← hRR];rfl
   have e7:QL Tryz.prog vs85 45 R.assign=some ia74:=by rw[← hRR];exact ca74
   have e8:QL Tryz.prog vs85 45 R.body=some ib74:=by rw[← hRR];exact cb74
   have e9:({ { R with state:=.busy,pending:=none } with state:=.ready,pending:=none }:XC)=R:=by
    clear hRR;cases R;simp_all
   have e10:Z3 9 (AObj.loop R)=true:=by
    simp only[Z3,e4,QO,key_cl];rfl
   clear hRR
   have hQL:=waysQL_right (ks:=ks) (r:=r) (us:=us) hr hd h6.2 hR
   have hsm:6 ^ r≤6 ^ 8:=Nat.pow_le_pow_right (by omega) (by omega)
   have htr:ks.length-r=t+1:=by omega
   obtain ⟨H,hH⟩:∃ H:Nat→List AObj,∀ i,H i=[AObj.cells [.ptr 1 0],AObj.cells [ints ts0,ints ks,.map 2],AObj.map (rendK (waysQL ks r us K i).2),AObj.cells [.fn (.func 85) [.ptr 0 0,.ptr 3 0]],AObj.cells (keyCs t us),AObj.cells [.i (waysQL ks r us K i).1],AObj.cells [.ptr 1 0],AObj.cells (keyCs t us),AObj.loop R]:=⟨_,fun i=>rfl⟩
   have hH0:H 0=[AObj.cells [.ptr 1 0],AObj.cells [ints ts0,ints ks,.map 2],AObj.map (rendK K),AObj.cells [.fn (.func 85) [.ptr 0 0,.ptr 3 0]],AObj.cells (keyCs t us),AObj.cells [.i 0],AObj.cells [.ptr 1 0],AObj.cells (keyCs t us),AObj.loop R]:=hH 0
   rw[← hH0]
   refine (c75_l ts0 ks us (.map 2) 6 7 1 8 t H (fun _=>[]) (fun _=>true) hok hd.1 hd.2 htl (fun i hi=>?_) (by rw[hH0];exact QC rfl) (fun i hi hc=>?_) (fun i hi hc _=>?_) (fun i hi hc _ h=>by cases h)).mono ?_
   ·rw[hH0,hH i]
    refine ⟨rfl,rfl,rfl,rfl,fun o ho=>?_⟩
    simp only[ZD,WK,or_false] at ho
    rcases ho with rfl | rfl | rfl | rfl | rfl | rfl | rfl | rfl | rfl
    ·rfl
    ·rfl
    ·exact objIn_rend _ _
    ·rfl
    ·exact objIn_key _ _ _
    ·rfl
    ·rfl
    ·exact objIn_key _ _ _
    ·exact e10
   ·rw[hH,hH,waysQL_succ,ht] at *
    rw[hc];rfl
   ·have hdi:=dig_less hd hi hc
    have hQi:=hQL i (by omega)
    have ih:=c74 ts0 ks hok r (us.set i (us[i]?.getD 0-1)) (waysQL ks r us K i).2 (by omega) hdi hQi.1
    have hW:=waysQ_right r (us.set i (us[i]?.getD 0-1)) (waysQL ks r us K i).2 (by omega) hdi hQi.1
    have hWb:=waysF_bounds ks r (us.set i (us[i]?.getD 0-1)) (by rw[hdi.1];exact h6.2)
    rw[← hW.1] at hWb
    have hsucc:=waysQL_succ ks r us K i
    rw[← ht,hc,if_pos rfl] at hsucc
    have hsum:IntKind.i64.wrap ((waysQL ks r us K i).1+(waysQ ks r (us.set i (us[i]?.getD 0-1)) (waysQL ks r us K i).2).1)=(waysQL ks r us K (i+1)).1:=by
     have h1:=hQi.2
     have h3:i*6 ^ r≤6*6 ^ 8:=Nat.mul_le_mul (by omega) hsm
     rw[hsucc]
     generalize i*6 ^ r=p1 at *
     generalize 6 ^ r=p2 at *
     rw[ZC (by omega)]
    have hK':(waysQ ks r (us.set i (us[i]?.getD 0-1)) (waysQL ks r us K i).2).2=(waysQL ks r us K (i+1)).2:=by rw[hsucc]
    rw[htr,hK'] at ih
    generalize us.set i (us[i]?.getD 0-1)=us' at *
    have hp62:(pad6 us').length=6:=pad6_len (by rw[hdi.1];exact h6.2)
    have htk2:((pad6 us').map AV.i).take 6=(pad6 us').map AV.i:=Q5 (by simp[hp62])
    have hsr:∀ x:AV,setRange [x,.cv (.int .i64 0),.cv (.int .i64 0),.cv (.int .i64 0),.cv (.int .i64 0),.cv (.int .i64 0),.cv (.int .i64 0)] 1 ((pad6 us').map AV.i)=x::(pad6 us').map AV.i:=fun x=>setRange_1 (by simp[hp62])
    generalize (waysQ ks r us' (waysQL ks r us K i).2).1=m at *
    rw[hH,hH]
    generalize (waysQL ks r us K i).1=A1₀ at *
    generalize (waysQL ks r us K i).2=A2₀ at *
    generalize (waysQL ks r us K (i+1)).1=B1₀ at *
    generalize (waysQL ks r us K (i+1)).2=B2₀ at *
    simp only[if_true]
    refine YC.cut (QeH (r:=R) ia74 ib74 rfl e5 (by rw[e3];rfl) (by rw[e1,e2,e3];rfl) (by rw[e1,e2];exact e7) (by rw[e1,e2];exact e8) ?_) rfl rfl (fun l o ho=>?_)
    ·rw[e1,e2,e3,e4]
     have x31:vs85.idxOf? 31=some 10:=by decide
     have x32:vs85.idxOf? 32=some 11:=by decide
     simp only[ia74,JM,x31,x32,cellsOf,hp62,isSc_ints,hsr,Qam,evA,simprocAttr]
     refine ⟨R,rfl,e5,?_⟩
     simp only[ib74,setLoop,evA,simprocAttr]
     refine DW_s [] [(0,3)] hmix_l (by kernel_rfl) rfl ?_
     simp only[htk2,hp62,cellsOf,evA,simprocAttr]
     refine MS (at74 ih 0 1 2 3 (by decide) rfl rfl rfl rfl) (callOk_set rfl (objIn_rend _ _)) ?_
     simp only[hsum,P0,evA,simprocAttr]
     refine ⟨_,rfl,[AObj.cells (keyCs (t+1) us')],?_⟩
     simp only[setLoop,e6,evA,simprocAttr]
     rw[e9]
    ·match l,ho with
     | 2,ho=>cases ho;exact .inr (objIn_rend _ _)
     | 5,ho=>cases ho;exact .inr rfl
     | 0,ho | 1,ho | 3,ho | 4,ho | 6,ho | 7,ho | 8,ho | 9,ho=>exact .inl ho
   ·rintro v τ (⟨J,rfl,_⟩ | ⟨j,_,_,_,hf2,_⟩)
    rotate_left
    ·cases hf2
    rw[hH]
    refine ⟨R,rfl,(by rw[e5];intro h;cases h),?_⟩
    rw[e6]
    have hput:=fun (o0 o1:AObj) (σ:List AObj) (v:Int)=>put_rend (σ:=o0::o1::AObj.map (rendK (waysQL ks r us K us.length).2)::σ) (l:=2) (v:=v) rfl h6.2 hkey ((hQL us.length (QG _)).1.keys (by omega))
    simp only[setLoop,evA,simprocAttr]
    refine DW_s [] [] hmix_l (by kernel_rfl) rfl ?_
    simp only[hput,hp6,htk,cellsOf,hstep,evA,simprocAttr]
    exact Exists.intro _ rfl
abbrev hp2 (ts0 ks:List Int) (K:Memo):List AObj:=[.cells [ints ts0,ints ks,.map 1],.map (rendK K)]
theorem c54_l (ts0 ks:List Int) (hok:DrawOk ts0 ks) (r:Nat) (us:List Int) (K:Memo) (hr:r≤ks.length) (hd:Dig ts0.length us) (hR:RightQ ks ts0.length K) :
  AC Tryz.prog 35 [.ptr 0 0,keyV (ks.length-r) us] (hp2 ts0 ks K) fun v τ=>v=.i (waysQ ks r us K).1∧τ=hp2 ts0 ks (waysQ ks r us K).2:=by
 have h74:=c74 ts0 ks hok r us K hr hd hR
 have hu6:us.length≤6:=by rw[hd.1];exact hok.tl.2
 have hp6:=pad6_len hu6
 have htk:((pad6 us).map AV.i).take 6=(pad6 us).map AV.i:=Q5 (by simp[hp6])
 generalize waysQ ks r us K=X at *
 generalize ks.length-r=t at *
 refine AC.cut (σ2:=hp2 ts0 ks X.2) (v:=.i X.1) (ZF (fok35 true) (QC rfl) ?_) rfl rfl (fun l o ho=>?_)
 ·simp only[ic35,WI,hp6,htk,cellsOf,isSc_ints,evA,simprocAttr]
  refine AC.run (at74 h74 2 0 1 4 (by decide) rfl rfl rfl rfl) ?_
  simp only[evA,simprocAttr]
  exact Exists.intro _ rfl
 ·match l,ho with
  | 0,ho=>exact .inl ho
  | 1,ho=>cases ho;exact .inr (objIn_rend _ _)
theorem c54f (ts0 ks:List Int) (hok:DrawOk ts0 ks) (r:Nat) (us:List Int) (K:Memo) (hr:r≤ks.length) (hd:Dig ts0.length us) (hR:RightQ ks ts0.length K) {σ:List AObj} (d c:Nat) (hne:d≠c)
  (h0:σ[d]? = some (.cells [ints ts0,ints ks,.map c])) (h1:σ[c]? = some (.map (rendK K))) :
  AC Tryz.prog 35 [.ptr d 0,keyV (ks.length-r) us] σ fun v τ=>v=.i (waysF ks r us)∧τ=σ.set c (.map (rendK (waysQ ks r us K).2)):=by
 have h:=c54_l ts0 ks hok r us K hr hd hR
 rw[(waysQ_right r us K hr hd hR).1] at h
 generalize (waysQ ks r us K).2=K' at *
 generalize waysF ks r us=n at *
 generalize ks.length-r=t at *
 have hr:=AC.at (σ:=σ) [d,c] h (by simpa using hne) (by show (true&&(QR _ (keyV t us)&&_))=true;rw[key_cl];rfl) (by
  refine ⟨⟨trivial,rfl,?_⟩,⟨trivial,objIn_rend _ _,?_⟩,trivial⟩
  ·rw[h0];rfl
  ·rw[h1];simp only[renO,ren_rend])
 have he:rens (atF [d,c] σ.length) [.ptr 0 0,keyV t us]=[.ptr d 0,keyV t us]:=by
  simp only[rens,ren_key];rfl
 rw[he] at hr
 refine hr.mono ?_
 rintro r τ ⟨r0,τ0,⟨rfl,rfl⟩,_,rfl,rfl⟩
 refine ⟨rfl,?_⟩
 have e:(hp2 ts0 ks K').map (renO (atF [d,c] σ.length))=[.cells [ints ts0,ints ks,.map c],.map (rendK K')]:=by
  simp only[Q0,WS,renO,ren_rend];rfl
 rw[e]
 simp only[putL]
 rw[set_same h0,ZU]
theorem right_nil (ks:List Int) (n:Nat):RightQ ks n []:=fun e he=>absurd he (WK)
theorem c53_l (ts ks:List Int) (ht:ts.length<2 ^ 63) (hk:ks.length<2 ^ 63) {x y e:Int} (hv:checkV ts ks=tup3 x y e) :
  AC Tryz.prog 33 [drw ts ks] [] fun v τ=>v=.tup [.ptr 2 0,.i e]∧τ=[.cells [ints ts,ints ks],.map [],.cells [ints ts,ints ks,.map 1]]:=by
 refine ZF (fok33 true) (QC rfl) ?_
 simp only[ic33,WI,cellsOf,evA,simprocAttr]
 refine (c24 ts ks ht hk).call frz ?_
 simp only[hv,WI,KY,cellsOf,evA,simprocAttr]
theorem c53f (ts ks:List Int) (ht:ts.length<2 ^ 63) (hk:ks.length<2 ^ 63) {x y e:Int} (hv:checkV ts ks=tup3 x y e) (σ:List AObj) :
  AC Tryz.prog 33 [drw ts ks] σ fun v τ=>v=.tup [.ptr (σ.length+2) 0,.i e]∧τ=σ++[.cells [ints ts,ints ks],.map [],.cells [ints ts,ints ks,.map (σ.length+1)]]:=by
 refine (AC.frame rfl (c53_l ts ks ht hk hv) σ).mono ?_
 rintro v τ ⟨r0,τ0,⟨rfl,rfl⟩,rfl,rfl⟩
 refine ⟨by simp only[ren,rens,sh,Nat.add_comm],?_⟩
 simp only[Q0,WS,renO,ren,rens,sh,Nat.add_comm]
theorem Weak.undef {fx:Fx} {vals vals':List AV} {τ:List AObj} (hv:Subs vals vals'):Weak fx ⟨vals,τ⟩ ⟨vals',τ⟩:=by
 intro m X en ac w hs
 refine ⟨m,⟨hs.size,fun i t hi=>?_,hs.defs,hs.heap,hs.base,hs.entry⟩,Step.refl _ _ _ _⟩
 have hrel:=hs.vars i t hi
 rcases hv.get i with h1 | h1
 ·dsimp only at h1 ⊢;rw[h1];exact hrel
 ·dsimp only at h1 ⊢;rw[h1];simp[VRel]
theorem Cl.mem {σ:List AObj} (h:Cl σ):∀ o∈σ,Z3 σ.length o=true:=fun o ho=>by
 obtain ⟨j,hj⟩:=List.getElem?_of_mem ho
 exact h j o hj
def killF (v:AV) (σ:List AObj):List AObj:=match v with | .sl p _ _ _=>σ.set p .dead | _=>σ
theorem killF_len (v:AV) (σ:List AObj):(killF v σ).length=σ.length:=by cases v <;> simp[killF]
theorem killF_cl {v:AV} {σ:List AObj} (h:Cl σ):Cl (killF v σ):=by
 cases v with
 | sl p _ _ _=>exact h.set p rfl
 | _=>exact h
theorem acc_kill {b:Nat} {σ:List AObj} {v:AV} {zs:List Int} (z:Int) (h:G9 b σ v zs) (hl:zs.length<2 ^ 40) {τ:List AObj} {q:Nat} (hq:rowOf τ q=some [.i z]) (hτ:∀ l cs,b≤l→rowOf σ l=some cs→rowOf τ l=some cs) :
  ZX 1 8 [v,.sl q 0 1 1] τ=some (.sl τ.length 0 (zs.length+1) 1,killF v τ++[.cells ((zs++[z]).map .i)]):=by
 rcases h.2 with ⟨rfl,rfl⟩ | ⟨l,hbl,rfl,hr⟩
 ·have hsrc:Z9 τ 1 (.sl q 0 1 1)=some [.i z]:=by simp[Z9,hq]
  simp only[ZX,hsrc,lenF,Option.bind_some]
  rfl
 ·have hr':=hτ l _ hbl hr
  rw[append_O,hr',hq]
  exact apO_ints hl l τ z []
theorem killF_get {b:Nat} {σ:List AObj} {v:AV} {zs:List Int} (h:G9 b σ v zs) (τ:List AObj) {l:Nat} (hl:l<b∨∀ cs,rowOf σ l≠some cs):(killF v τ)[l]? = τ[l]? := by
 rcases h.2 with ⟨rfl,rfl⟩ | ⟨p,hbl,rfl,hr⟩
 ·rfl
 ·simp only[killF]
  refine QU ?_
  rintro rfl
  rcases hl with hl | hl
  ·omega
  ·exact hl _ hr
def ia58:IC:=(.seq (.region [jw 6 .mv [.v 13]])
 (.region [jw 7 (.alloc [(.cv (.int .i64 0)),(.cv (.int .i64 0)),(.cv (.int .i64 0)),(.cv (.int .i64 0)),(.cv (.int .i64 0)),(.cv (.int .i64 0)),(.cv (.int .i64 0))]) [],jq (.store 7) [.v 7,.v 14]]))
def ib58:IC:=(.block 3 (.seq (.seq (.region [jL 2,jN 7 7,jk 35 [.t 0,.t 1],jm 8 2])
 (.seq (.region [jL 3,jv 8,jw 15 (.bin .geq .int) [.t 0,.t 1]])
 (.cond 15 (.seq (.region [jL 3,jv 8,jq (.bin .sub .int) [.t 0,.t 1],jq (.store 1) [.v 3,.t 2]])
 (.exit 3))
 .skip)))
 (.seq (.dr [[],[],[1],[0,2],[],[3,3,0,1,2,3],[4,5,0,1,2,3,4,5]] [jL 4,jv 6,jq (.bslice 1 1 [(.cv (.int .i64 0))] [(0,1)]) [.t 1],jq (.append 1 8) [.t 0,.t 2],jN 7 7,jq (.store 1) [.v 4,.t 3],jq (.store 7) [.v 5,.t 4]])
 (.exit 1))))
theorem ca58:QL Tryz.prog vs37 40 (nav [1,0,1,1,0,1,0,0,1,1,0,0,1,0,2] (Tryz.f37.body.getD .skip))=some ia58:=by kernel_rfl
theorem cb58:QL Tryz.prog vs37 40 (nav [1,0,1,1,0,1,0,0,1,1,0,0,1,0,3] (Tryz.f37.body.getD .skip))=some ib58:=by kernel_rfl
structure PSt (ts0 ks:List Int) (x:Int) (t:Nat) (σ:List AObj) (K:Memo) (us zs:List Int) (x':Int) (v:AV):Prop where
 o0:σ[0]? = some (.cells [ints ts0,ints ks,.map 1])
 o1:σ[1]? = some (.map (rendK K))
 o2:σ[2]? = some (.cells [.ptr 0 0])
 o3:σ[3]? = some (.cells [.i x'])
 o4:σ[4]? = some (.cells [v])
 o5:σ[5]? = some (.cells (keyCs t us))
 acc:G9 6 σ v zs
 cl:Cl σ
 kr:RightQ ks ts0.length K
 ud:Dig ts0.length us
 xb:0≤x'∧x'<waysF ks (ks.length-t) us
 eq:zs++pickF ks (ks.length-t) us x'=pickF ks ks.length ts0 x
 zl:zs.length=t
theorem rowOf_get {σ:List AObj} {l:Nat} {cs:List AV} (h:σ[l]? = some (.cells cs)):rowOf σ l=some cs:=by unfold rowOf;rw[h]
theorem c58 (ts0 ks:List Int) (hok:DrawOk ts0 ks) (K:Memo) (hR:RightQ ks ts0.length K) (x:Int) (hx:0≤x∧x<waysF ks ks.length ts0) :
  AC Tryz.prog 37 [.ptr 0 0,.i x] (hp2 ts0 ks K) fun v τ=>∃ K',RightQ ks ts0.length K'∧τ[0]? = some (.cells [ints ts0,ints ks,.map 1])∧τ[1]? = some (.map (rendK K'))∧G9 2 τ v (pickF ks ks.length ts0 x):=by
 refine ZF (fok37 true) (QC rfl) ?_
 have h6:=hok.tl
 have hk8:=hok.kl
 simp only[ic37,WI,cellsOf,evA,simprocAttr]
 refine AC.run (c55 0 ts0 [ints ks,.map 1] _ rfl h6.2) ?_
 have hp6:=pad6_len h6.2
 have hsr:∀ x:AV,setRange [x,.cv (.int .i64 0),.cv (.int .i64 0),.cv (.int .i64 0),.cv (.int .i64 0),.cv (.int .i64 0),.cv (.int .i64 0)] 1 ((pad6 ts0).map AV.i)=x::(pad6 ts0).map AV.i:=fun x=>setRange_1 (by simp[hp6])
 simp only[cellsOf,hp6,isSc_ints,hsr,evA,simprocAttr]
 refine ZW ks.length (fun t s=>∃ σ K us zs x' v,PSt ts0 ks x t σ K us zs x' v∧s=⟨[.ptr 0 0,.i x,.ptr 2 0,.ptr 3 0,.ptr 4 0,.ptr 5 0,.undef,.undef,.undef,.i ks.length,.i t,.undef,.undef,.undef,.undef,.undef],σ⟩) ?_ 0 (QF _) ⟨_,K,ts0,[],x,.cv .nils,⟨rfl,rfl,rfl,rfl,rfl,rfl,G9.nil (by simp),?_,hR,⟨rfl,hok.tr⟩,hx,rfl,rfl⟩,rfl⟩
 rotate_left
 ·intro l o ho
  match l,ho with
  | 0,ho | 2,ho | 3,ho | 4,ho=>cases ho;rfl
  | 1,ho=>cases ho;exact objIn_rend _ _
  | 5,ho=>cases ho;exact objIn_key _ 0 ts0
 rintro t s htl ⟨σ,K,us,zs,x',v,hP,rfl⟩
 by_cases h:t<ks.length
 rotate_left
 ·have hte:t=ks.length:=by omega
  subst hte
  have r4:=rowOf_get hP.o4
  have heq:zs=pickF ks ks.length ts0 x:=by
   have:=hP.eq
   rw[Nat.sub_self] at this
   simpa[pickF] using this
  have hst:=set_same hP.o4
  have hac:=hP.acc
  rw[heq] at hac
  have hfin:∃ K',RightQ ks ts0.length K'∧σ[0]? = some (.cells [ints ts0,ints ks,.map 1])∧σ[1]? = some (.map (rendK K'))∧G9 2 σ v (pickF ks ks.length ts0 x) :=
   ⟨K,hP.kr,hP.o0,hP.o1,by have:=hac.1;omega,hac.2.imp id fun ⟨l,h1,h2⟩=>⟨l,by omega,h2⟩⟩
  rcases hac.2 with ⟨hv,_⟩ | ⟨l,_,hv,_⟩
  ·subst hv
   simp only[ic37l0,QJ,h,r4,cellsOf,hst,evA,simprocAttr]
   exact hfin
  ·subst hv
   simp only[ic37l0,QJ,h,r4,cellsOf,hst,evA,simprocAttr]
   exact hfin
 obtain ⟨r,hr⟩:∃ r,ks.length-t=r+1:=⟨ks.length-t-1,by omega⟩
 have hrt:ks.length-(r+1)=t:=by omega
 have hu6:us.length≤6:=by rw[hP.ud.1];exact h6.2
 have hup6:=pad6_len hu6
 have hutk:((pad6 us).map AV.i).take 6=(pad6 us).map AV.i:=Q5 (by simp[hup6])
 have r2:=rowOf_get hP.o2
 have r5:=rowOf_get hP.o5
 simp only[ic37l0,QJ,h,r2,r5,hup6,hutk,evA,simprocAttr]
 refine AC.run (c60 0 t us σ hu6) ?_
 simp only[evA,simprocAttr]
 refine RW_s (gf:=98) (cap:=[.ptr σ.length 0,.ptr (σ.length+1) 0]) rfl (QC rfl) (fun l h=>by cases h) ?_
 generalize hRR:VJ _ _ _ _ _=R
 have e1:R.vars=vs37:=by rw[← hRR];rfl
 have e2:R.ntmps=40:=by rw[← hRR];rfl
 have e3:R.params=[22,23]:=by rw[← hRR];rfl
 have e4:R.vals=[.ptr 0 0,.i x,.ptr 2 0,.ptr 3 0,.ptr 4 0,.ptr 5 0,.undef,.undef,.undef,.i ks.length,.i t,.b true,.fn (.func 98) [.ptr σ.length 0,.ptr (σ.length+1) 0],.undef,.undef,.undef]:=by rw[← hRR];rfl
 have e5:R.state=.ready:=by rw[← hRR];rfl
 have e6:R.pending=none:=by rw[← hRR];rfl
 have e7:QL Tryz.prog vs37 40 R.assign=some ia58:=by rw[← hRR];exact ca58
 have e8:QL Tryz.prog vs37 40 R.body=some ib58:=by rw[← hRR];exact cb58
 have e9:({ { R with state:=.busy,pending:=none } with state:=.ready,pending:=none }:XC)=R:=by
  clear hRR;cases R;simp_all
 clear hRR
 have hN6:6≤σ.length:=hP.acc.1
 have hlen2:(σ++[AObj.cells [.ptr 0 0],AObj.cells (keyCs t us)]).length=σ.length+2:=by simp
 have hrk:r+1≤ks.length:=by omega
 have hQL:=waysQL_pre (ks:=ks) (r:=r) (us:=us) (K:=K) hrk hP.ud hP.kr
 obtain ⟨X,hX⟩:∃ X:Nat→AObj,∀ i,X i=.cells (keyCs (t+1) (lessF us i)):=⟨_,fun _=>rfl⟩
 obtain ⟨G,hG⟩:∃ G:Nat→List AObj,∀ i,G i=(σ.set 1 (.map (rendK (waysQL ks r us K i).2))).set 3 (.cells [.i (x'-preF ks r us i)]):=⟨_,fun _=>rfl⟩
 obtain ⟨H,hH⟩:∃ H:Nat→List AObj,∀ i,H i=G i++[AObj.cells [.ptr 0 0],.cells (keyCs t us),.loop R]:=⟨_,fun _=>rfl⟩
 have hG0:G 0=σ:=by
  rw[hG,preF_zero,Int.sub_zero]
  have:(waysQL ks r us K 0).2=K:=rfl
  rw[this,set_same hP.o1,set_same hP.o3]
 have hGl:∀ i,(G i).length=σ.length:=fun i=>by rw[hG];simp
 have hHl:∀ i,(H i).length=σ.length+3:=fun i=>by rw[hH];simp[hGl]
 have hGn:∀ i l,l≠1→l≠3→(G i)[l]? = σ[l]? := fun i l h1 h3=>by
  rw[hG,QU (by omega),QU (by omega)]
 have hHlo:∀ i l,l<σ.length→(H i)[l]? = (G i)[l]? := fun i l hl=>by rw[hH,QE (by rw[hGl];exact hl)]
 have hHhi:∀ i k,(H i)[σ.length+k]? = [AObj.cells [.ptr 0 0],.cells (keyCs t us),.loop R][k]? := fun i k=>by
  rw[hH,QS (by rw[hGl];omega),hGl,X6]
 have hap2:∀ (n:Nat) (L:List AObj) (k:Nat),σ.length+3≤k→(H n++L)[k]? = L[k-(σ.length+3)]? := fun n L k h=>by rw[QS (by rw[hHl];exact h),hHl]
 have hG1:∀ i,(G i)[1]? = some (.map (rendK (waysQL ks r us K i).2)):=fun i=>by
  rw[hG,QU (by omega),Z2 (by omega)]
 have hG3:∀ i,(G i)[3]? = some (.cells [.i (x'-preF ks r us i)]):=fun i=>by
  rw[hG,Z2 (by simp;omega)]
 have hRin:∀ n,σ.length+3≤n→Z3 n (.loop R)=true:=fun n hn=>by
  simp[Z3,e4,QO,QR]
  omega
 have hGcl:∀ i,Cl (G i):=fun i=>by
  rw[hG]
  exact (hP.cl.set 1 (objIn_rend _ _)).set 3 rfl
 have hHcl:∀ i,Cl (H i):=fun i=>by
  rw[hH,show [AObj.cells [.ptr 0 0],.cells (keyCs t us),.loop R]=[AObj.cells [.ptr 0 0]]++[AObj.cells (keyCs t us)]++[AObj.loop R] from rfl,← QW,← QW]
  refine (((hGcl i).push ?_).push (objIn_key _ _ _)).push (hRin _ (by simp[hGl]))
  simp[Z3,QO,QR]
 have hG0':(σ++[AObj.cells [.ptr 0 0],AObj.cells (keyCs t us)])++[AObj.loop R]=H 0:=by rw[hH,hG0];simp
 rw[hG0',hlen2]
 obtain ⟨go,hgo⟩:∃ go:Nat→Bool,∀ i,go i=decide (x'-preF ks r us i≥waysF ks r (lessF us i)):=⟨_,fun _=>rfl⟩
 obtain ⟨T2₀,hT2⟩:∃ T2₀:Nat→List AObj,∀ i,T2₀ i=(((H i++[X i])++[X i]).set (σ.length+2) (.loop { R with state:=.busy,pending:=none })).set 1 (.map (rendK (waysQL ks r us K (i+1)).2)):=⟨_,fun _=>rfl⟩
 obtain ⟨F,hF⟩:∃ F:Nat→List AObj,∀ i,F i=((((killF v (T2₀ i++[AObj.cells [.i i]]))++[AObj.cells ((zs++[(i:Int)]).map .i)]).set 4 (.cells [.sl (σ.length+6) 0 (zs.length+1) 1])).set 5 (X i)).set (σ.length+2) (.loop { R with state:=.done,pending:=some (.exit 1) }):=⟨_,fun _=>rfl⟩
 have hT2l:∀ i,(T2₀ i).length=σ.length+5:=fun i=>by rw[hT2];simp[hHl]
 have hT2cl:∀ i,Cl (T2₀ i):=fun i=>by
  rw[hT2]
  refine Cl.set (Cl.set (Cl.push (Cl.push (hHcl i) ?_) ?_) (σ.length+2) ?_) 1 (objIn_rend _ _)
  ·rw[hX];exact objIn_key _ _ _
  ·rw[hX];exact objIn_key _ _ _
  ·simp only[QM,List.length_cons,List.length_nil,hHl]
   exact hRin _ (by omega)
 have hFcl:∀ i,Cl (F i):=fun i=>by
  rw[hF]
  refine Cl.set (Cl.set (Cl.set (Cl.push (killF_cl (Cl.push (hT2cl i) (show Z3 _ (AObj.cells [.i i])=true from rfl))) (objIn_ints _ _)) 4 ?_) 5 ?_) (σ.length+2) ?_
  ·simp[Z3,QO,QR,killF_len,hT2l]
  ·rw[hX];exact objIn_key _ _ _
  ·simp only[WE,QM,List.length_cons,List.length_nil,killF_len,hT2l]
   exact hRin _ (by omega)
 have hFl:∀ i,(F i).length=σ.length+7:=fun i=>by rw[hF];simp[killF_len,hT2l]
 refine (c75_l ts0 ks us (.map 1) σ.length (σ.length+1) 0 (σ.length+2) t H F go hok hP.ud.1 hP.ud.2 (by omega) (fun i hi=>?_) (by rw[hHl];omega) (fun i hi hc=>?_) (fun i hi hc hb=>?_) (fun i hi hc hb hg=>?_)).mono ?_
 ·refine ⟨by rw[hHl,hHl],rowOf_get (hHhi i 0),rowOf_get ?_,rowOf_get (hHhi i 1),fun o ho=>?_⟩
  ·rw[hHlo i 0 (by omega),hGn i 0 (by omega) (by omega)];exact hP.o0
  ·have:=(hHcl i).mem o ho
   rwa [hHl i,← hHl 0] at this
 ·rw[hH,hH,hG,hG,waysQL_succ,preF_succ,hrt,hc]
  simp
 ·have hdi:=dig_less hP.ud hi hc
  have hQi:=hQL i (by omega)
  have h54:=fun (τ:List AObj) h1 h2=>c54f ts0 ks hok r (lessF us i) (waysQL ks r us K i).2 (by omega) hdi hQi.2 (σ:=τ) 0 1 (by omega) h1 h2
  have hsucc:=waysQL_succ ks r us K i
  rw[hrt,hc,if_pos rfl] at hsucc
  have hK':(waysQ ks r (lessF us i) (waysQL ks r us K i).2).2=(waysQL ks r us K (i+1)).2:=by rw[hsucc]
  rw[hK',show ks.length-r=t+1 by omega] at h54
  have hgi:=hgo i
  have hXi:=hX i
  have hT2i:=hT2 i
  have hps:=preF_succ ks r us i
  rw[hrt,hc,if_pos rfl] at hps
  have hHn:H (i+1)=G (i+1)++[AObj.cells [.ptr 0 0],.cells (keyCs t us),.loop R]:=hH _
  have hGn1:=hG (i+1)
  have hFi:=hF i
  have hwb:=waysF_bounds ks r (lessF us i) (by simpa using hu6)
  have hk68:6 ^ r≤6 ^ 8:=Nat.pow_le_pow_right (by omega) (by omega)
  rw[hXi] at hT2i hFi
  show YC _ _ [.i i,keyV (t+1) (lessF us i)] (H i++[.cells (keyCs (t+1) (lessF us i))]) fun v τ=>v=.b (go i)∧τ=if go i then H (i+1)++[AObj.cells (keyCs (t+1) (lessF us i))] else F i
  have hp62:(pad6 (lessF us i)).length=6:=pad6_len (by simpa using hu6)
  generalize lessF us i=us' at *
  have body:∀ Q:AV→List AObj→Prop,(go i=true→Q (.b true) (H (i+1)++[AObj.cells (keyCs (t+1) us')]++[AObj.cells (keyCs (t+1) us')]))→(go i=false→Q (.b false) (F i))→YC Tryz.prog (σ.length+2) [.i i,keyV (t+1) us'] (H i++[AObj.cells (keyCs (t+1) us')]) Q:=by
   intro Q q1 q2
   have x22:vs37.idxOf? 22=some 13:=by decide
   have x23:vs37.idxOf? 23=some 14:=by decide
   have htk2:((pad6 us').map AV.i).take 6=(pad6 us').map AV.i:=Q5 (by simp[hp62])
   have hsr2:∀ x:AV,setRange [x,.cv (.int .i64 0),.cv (.int .i64 0),.cv (.int .i64 0),.cv (.int .i64 0),.cv (.int .i64 0),.cv (.int .i64 0)] 1 ((pad6 us').map AV.i)=x::(pad6 us').map AV.i:=fun x=>setRange_1 (by simp[hp62])
   have hsr3:∀ x y:AV,∀ zs':List Int,zs'.length=6→setRange (x::zs'.map AV.i) 0 (y::(pad6 us').map AV.i)=y::(pad6 us').map AV.i:=fun x y zs' hz=>setRange_0 (by simp[hp62,hz])
   obtain ⟨B,hB⟩:∃ B,B=H i++[AObj.cells (keyCs (t+1) us')]:=⟨_,rfl⟩
   have hBl:B.length=σ.length+4:=by rw[hB];simp[hHl]
   have hBH:∀ l,l<σ.length+3→B[l]? = (H i)[l]? := fun l hl=>by rw[hB,QE (by rw[hHl];exact hl)]
   have hBr:B[σ.length+2]? = some (.loop R):=by rw[hBH _ (by omega),hHhi i 2];rfl
   rw[← hB]
   refine QeH (r:=R) ia58 ib58 hBr e5 (by rw[e3];rfl) (by rw[e1,e2,e3];rfl) (by rw[e1,e2];exact e7) (by rw[e1,e2];exact e8) ?_
   rw[e1,e2,e3,e4]
   have ql:=fun cs=>XH B cs
   simp only[ia58,JM,x22,x23,cellsOf,hp62,isSc_ints,hsr2,ql,set_end,Qam,evA,simprocAttr]
   refine ⟨R,by rw[QE (by omega)];exact hBr,e5,?_⟩
   rw[e6]
   obtain ⟨T1₀,hT1⟩:∃ T1₀,T1₀=setLoop (B++[AObj.cells (keyCs (t+1) us')]) (σ.length+2) R .busy none:=⟨_,rfl⟩
   have hT1':T1₀=(B++[AObj.cells (keyCs (t+1) us')]).set (σ.length+2) (.loop { R with state:=.busy,pending:=none }):=hT1
   have tlo:∀ l,l<σ.length→T1₀[l]? = (G i)[l]? := fun l hl=>by
    rw[hT1',QU (by omega),QE (by omega),hBH l (by omega),hHlo i l hl]
   have ty:T1₀[σ.length+4]? = some (.cells (keyCs (t+1) us')):=by
    rw[hT1',QU (by omega),QS (by omega),hBl,Nat.sub_self];rfl
   have tr:T1₀[σ.length+2]? = some (.loop { R with state:=.busy,pending:=none }):=by
    rw[hT1',Z2 (by simp[hBl])]
   have t2:=rowOf_get ((tlo 2 (by omega)).trans ((hGn i 2 (by omega) (by omega)).trans hP.o2))
   have ty':=rowOf_get ty
   rw[← hT1]
   simp only[ib58,t2,ty',hBl,hp62,htk2,evA,simprocAttr]
   refine AC.run (h54 T1₀ ((tlo 0 (by omega)).trans ((hGn i 0 (by omega) (by omega)).trans hP.o0)) ((tlo 1 (by omega)).trans (hG1 i))) ?_
   have hT2e:T1₀.set 1 (.map (rendK (waysQL ks r us K (i+1)).2))=T2₀ i:=by rw[hT2i,hT1',hB]
   rw[hT2e]
   have slo:∀ l,l≠1→(T2₀ i)[l]? = T1₀[l]? := fun l hl=>by rw[← hT2e,QU (by omega)]
   have s3:=rowOf_get ((slo 3 (by omega)).trans ((tlo 3 (by omega)).trans (hG3 i)))
   have s4:=rowOf_get ((slo 4 (by omega)).trans ((tlo 4 (by omega)).trans ((hGn i 4 (by omega) (by omega)).trans hP.o4)))
   have sy:=rowOf_get ((slo (σ.length+4) (by omega)).trans ty)
   have sr:=(slo (σ.length+2) (by omega)).trans tr
   simp only[s3,evA,simprocAttr]
   cases hgi2:go i
   ·rw[hgi2] at hgi
    have hge:¬ (x'-preF ks r us i≥waysF ks r us'):=by simpa using hgi.symm
    have q2:=q2 hgi2
    simp only[hge,evA,simprocAttr]
    refine DW_s [] [(0,2),(4,2),(4,3),(4,5)] hmix_l (by kernel_rfl) rfl ?_
    have hτl:(T2₀ i++[AObj.cells [AV.i i]]).length=σ.length+6:=by simp[hT2l]
    have hap:=acc_kill (i:Int) hP.acc (by rw[hP.zl];omega) (τ:=T2₀ i++[AObj.cells [AV.i i]]) (q:=(T2₀ i).length) (XH _ _) (fun l cs hl hcs=>by
     have hln:=(QH.1 (WO hcs)).1
     refine rowOf_get ?_
     rw[QE (by rw[hT2l];omega),slo l (by omega),tlo l hln,hGn i l (by omega) (by omega)]
     exact WO hcs)
    rw[hτl] at hap
    simp only[s4,hap,evA,simprocAttr]
    obtain ⟨Z,hZ⟩:∃ Z,Z=killF v (T2₀ i++[AObj.cells [AV.i i]])++[AObj.cells ((zs++[(i:Int)]).map .i)]:=⟨_,rfl⟩
    have hZl:Z.length=σ.length+7:=by rw[hZ];simp[killF_len,hT2l]
    have hZg:∀ l,l<σ.length+6→(l<6∨σ.length≤l)→Z[l]? = (T2₀ i++[AObj.cells [AV.i i]])[l]? := fun l hl hc=>by
     rw[hZ,QE (by rw[killF_len,hτl];exact hl)]
     refine killF_get hP.acc _ (hc.imp id fun h cs hcs=>?_)
     have:=(QH.1 (WO hcs)).1
     omega
    have hZ2:∀ l,l<σ.length+5→(l<6∨σ.length≤l)→Z[l]? = (T2₀ i)[l]? := fun l hl hc=>by
     rw[hZg l (by omega) hc,QE (by rw[hT2l];exact hl)]
    have zy:=rowOf_get ((hZ2 (σ.length+4) (by omega) (by omega)).trans (WO sy))
    have z4:=rowOf_get ((hZ2 4 (by omega) (by omega)).trans (WO s4))
    have z5:=rowOf_get ((hZ2 5 (by omega) (by omega)).trans ((slo 5 (by omega)).trans ((tlo 5 (by omega)).trans ((hGn i 5 (by omega) (by omega)).trans hP.o5))))
    have z5':∀ y,rowOf (Z.set 4 y) 5=some (keyCs t us):=fun y=>by rw[QX (by omega)];exact z5
    have hsr5:setRange (.i ((t+1:Nat):Int)::(pad6 us).map AV.i) 1 ((pad6 us').map AV.i)=.i ((t+1:Nat):Int)::(pad6 us').map AV.i:=setRange_1 (by simp[hp62,hup6])
    rw[← hZ]
    simp only[zy,z4,z5',hp62,htk2,cellsOf,isSc_ints,hsr5,hup6,evA,simprocAttr]
    have zr:((Z.set 4 (AObj.cells [AV.sl (σ.length+6) 0 (zs.length+1) 1])).set 5 (AObj.cells (.i ((t+1:Nat):Int)::(pad6 us').map AV.i)))[σ.length+2]? = some (.loop { R with state:=.busy,pending:=none }):=by
     rw[QU (by omega),QU (by omega),hZ2 _ (by omega) (by omega)];exact sr
    refine ⟨⟨?_,?_,?_,?_⟩,?_⟩
    ·rw[QE (by rw[hT2l];omega)]
    ·rw[QE (by rw[hT2l];omega)]
    ·exact hZg _ (by omega) (by omega)
    ·rw[QU (by omega)]
    ·rw[kRnd_x]
     refine ⟨_,zr,?_⟩
     rw[hFi,← hZ] at q2
     exact q2
   ·rw [hgi2] at hgi
    have hge:x'-preF ks r us i≥waysF ks r us':=by simpa using hgi.symm
    have q1:=q1 hgi2
    have hwr:IntKind.i64.wrap (x'-preF ks r us i-waysF ks r us')=x'-preF ks r us (i+1):=by
     have h1:=preF_nonneg ks r us i
     have h2:=hP.xb
     have h3:=waysF_bounds ks (ks.length-t) us hu6
     have h4:6 ^ (ks.length-t)≤6 ^ 8:=Nat.pow_le_pow_right (by omega) (by omega)
     rw[hps]
     generalize 6 ^ (ks.length-t)=p1 at *
     generalize 6 ^ r=p2 at *
     rw[ZC (by omega)];omega
    simp only[hge,s3,hwr,evA,simprocAttr]
    rw[P0]
    refine ⟨_,by rw[QU (by omega)];exact sr,?_⟩
    have hend:setLoop ((T2₀ i).set 3 (AObj.cells [.i (x'-preF ks r us (i+1))])) (σ.length+2) { R with state:=.busy,pending:=none } .ready none=H (i+1)++[AObj.cells (keyCs (t+1) us')]++[AObj.cells (keyCs (t+1) us')]:=by
     have e9':({ { R with state:=.busy,pending:=none } with state:=.ready,pending:=none }:XC)=R:=e9
     show ((T2₀ i).set 3 _).set (σ.length+2) (.loop { { R with state:=.busy,pending:=none } with state:=.ready,pending:=none })=_
     rw[e9']
     apply Z1
     intro k
     rcases Nat.lt_trichotomy k (σ.length+2) with hk | rfl | hk
     ·rw[QU (by omega),QE (by simp[hHl];omega),QE (by simp[hHl];omega)]
      rcases ZB k σ.length with hk2 | hk2
      ·rw[hHlo _ k hk2]
       by_cases k3:k=3
       ·subst k3;rw[Z2 (by rw[hT2l];omega),hG3]
       ·rw[QU (by omega)]
        by_cases k1:k=1
        ·subst k1;rw[← hT2e,Z2 (by rw[hT1'];simp;omega),hG1]
        ·rw[slo k k1,tlo k hk2,hGn _ k k1 k3,hGn _ k k1 k3]
      ·rw[QU (by omega),slo k (by omega),hT1',QU (by omega),QE (by omega),hBH k (by omega)]
       obtain ⟨k',rfl⟩:∃ k',k=σ.length+k':=⟨k-σ.length,by omega⟩
       rw[hHhi,hHhi]
     ·rw[Z2 (by simp[hT2l]),QE (by simp[hHl]),QE (by simp[hHl]),hHhi];rfl
     ·rw[QU (by omega),QU (by omega),slo k (by omega),hT1',QU (by omega),hB,QW,QW,hap2 _ _ k (by omega),hap2 _ _ k (by omega)]
    rw[hend]
    exact q1
  cases hgi2:go i
  ·simp only[QT,if_false]
   exact body _ (fun h=>by rw[hgi2] at h;cases h) (fun _=>⟨rfl,rfl⟩)
  ·simp only[if_true]
   refine YC.cut (body _ (fun _=>⟨rfl,_,rfl⟩) (fun h=>by rw[hgi2] at h;cases h)) (by simp[hHl]) rfl (fun l o ho=>?_)
   refine .inr ?_
   have hcl2:Cl (H (i+1)++[AObj.cells (keyCs (t+1) us')]):=Cl.push (hHcl _) (objIn_key _ _ _)
   have:=hcl2 l o ho
   simpa[hHl] using this
 · -- the round that stops
  refine ⟨rfl,by rw[hFl];simp[hHl],fun l o ho _=>⟨hFcl i l o ho,fun hl=>?_⟩⟩
  simp only[QM,List.length_cons,List.length_nil,hHl] at hl
  have hlt:=(QH.1 ho).1
  rw[hFl] at hlt
  rw[hF,QU (by omega),QU (by omega),QU (by omega)] at ho
  rcases ZB l (σ.length+6) with h1 | h1
  ·rw[QE (by simp[killF_len,hT2l];omega),killF_get hP.acc _ (.inr fun cs hcs=>by
    have:=(QH.1 (WO hcs)).1;omega)] at ho
   rcases ZB l (σ.length+5) with h2 | h2
   ·rw[QE (by rw[hT2l];omega),hT2,QU (by omega),QU (by omega),hX,QW,hap2 _ _ l (by omega)] at ho
    have:l=σ.length+3+1:=by omega
    subst this
    rw[X6] at ho
    cases ho;trivial
   ·have:l=(T2₀ i).length:=by rw[hT2l];omega
    subst this
    simp at ho;subst ho;trivial
  ·rw[QS (by simp[killF_len,hT2l];omega)] at ho
   have:=QZ ho
   simp at this;subst this;trivial
 ·rintro vv τ (⟨J,rfl,hall⟩ | ⟨j,rfl,hj,hcj,hgj,hbj⟩)
  ·exfalso
   have:=pre_le (ks:=ks) (r:=r) (us:=us) hP.xb.1 us.length fun k hk hck=>by
    rw[hrt] at hck
    have h1:=hall k hk hck
    have h2:=hgo k
    rw[h1] at h2
    have h3:=preF_succ ks r us k
    rw[hrt,if_pos hck] at h3
    have h4:x'-preF ks r us k≥waysF ks r (lessF us k):=by simpa using h2.symm
    omega
   have h5:=hP.xb.2
   rw[hr,preF_full] at h5
   omega
  ·have hFlo:∀ l,l<4→(F j)[l]? = (T2₀ j)[l]? := fun l hl=>by
    rw[hF,QU (by omega),QU (by omega),QU (by omega),QE (by simp[killF_len,hT2l];omega),killF_get hP.acc _ (.inl (by omega)),QE (by rw[hT2l];omega)]
   have hT2lo:∀ l,l<σ.length→l≠1→(T2₀ j)[l]? = (G j)[l]? := fun l hl h1=>by
    rw[hT2,QU (by omega),QU (by omega),QW,QE (by rw[hHl];omega),hHlo j l hl]
   have hT21:(T2₀ j)[1]? = some (.map (rendK (waysQL ks r us K (j+1)).2)):=by
    rw[hT2,Z2 (by simp[hHl])]
   have hFr:(F j)[σ.length+2]? = some (.loop { R with state:=.done,pending:=some (.exit 1) }):=by
    rw[hF,Z2 (by simp[killF_len,hT2l])]
   have hF4:(F j)[4]? = some (.cells [.sl (σ.length+6) 0 (zs.length+1) 1]):=by
    rw[hF,QU (by omega),QU (by omega),Z2 (by simp[killF_len,hT2l])]
   have hF5:(F j)[5]? = some (X j):=by
    rw[hF,QU (by omega),Z2 (by simp[killF_len,hT2l])]
   have hFa:(F j)[σ.length+6]? = some (.cells ((zs++[(j:Int)]).map .i)):=by
    rw[hF,QU (by omega),QU (by omega),QU (by omega),QS (by simp[killF_len,hT2l])]
    simp[killF_len,hT2l]
   refine ⟨_,hFr,by simp,?_⟩
   show W _ _ (.exit 1) _ _
   refine QbM ?_
   have hwt:IntKind.i64.wrap ((t:Int)+1)=((t+1:Nat):Int):=by rw[ZC (by omega)];rfl
   simp only[hwt,evA,simprocAttr]
   have hgx:x'-preF ks r us j<waysF ks r (lessF us j):=by
    have h2:=hgo j
    rw[hgj] at h2
    have:¬ (x'-preF ks r us j≥waysF ks r (lessF us j)):=by simpa using h2.symm
    omega
   have hps:=preF_succ ks r us j
   rw[hrt,if_pos hcj] at hps
   have hbk:∀ k,k<j→canB_l ks us (ks.length-(r+1)) k=true→preF ks r us (k+1)≤x':=fun k hk hck=>by
    rw[hrt] at hck
    have h2:=hgo k
    rw[hbj k hk hck] at h2
    have h3:=preF_succ ks r us k
    rw[hrt,if_pos hck] at h3
    have h4:x'-preF ks r us k≥waysF ks r (lessF us k):=by simpa using h2.symm
    omega
   have hpj:=pre_le (ks:=ks) (r:=r) (us:=us) hP.xb.1 j hbk
   refine AS (by first | trivial | omega) (Weak.undef (vals':=[.ptr 0 0,.i x,.ptr 2 0,.ptr 3 0,.ptr 4 0,.ptr 5 0,.undef,.undef,.undef,.i ks.length,.i ((t+1:Nat):Int),.undef,.undef,.undef,.undef,.undef]) ⟨.inl rfl,.inl rfl,.inl rfl,.inl rfl,.inl rfl,.inl rfl,.inr rfl,.inr rfl,.inr rfl,.inl rfl,.inl rfl,.inr rfl,.inr rfl,.inr rfl,.inr rfl,.inr rfl,trivial⟩)
    ⟨_,(waysQL ks r us K (j+1)).2,lessF us j,zs++[(j:Int)],x'-preF ks r us j,.sl (σ.length+6) 0 (zs.length+1) 1,⟨?_,?_,?_,?_,?_,?_,⟨?_,.inr ⟨σ.length+6,by omega,by simp,?_⟩⟩,?_,(hQL (j+1) (by omega)).2,dig_less hP.ud hj hcj,?_,?_,?_⟩,rfl⟩
   ·simp only[setLoop];rw[QU (by omega),hFlo 0 (by omega),hT2lo 0 (by omega) (by omega),hGn j 0 (by omega) (by omega)];exact hP.o0
   ·simp only[setLoop];rw[QU (by omega),hFlo 1 (by omega)];exact hT21
   ·simp only[setLoop];rw[QU (by omega),hFlo 2 (by omega),hT2lo 2 (by omega) (by omega),hGn j 2 (by omega) (by omega)];exact hP.o2
   ·simp only[setLoop];rw[QU (by omega),hFlo 3 (by omega),hT2lo 3 (by omega) (by omega)];exact hG3 j
   ·simp only[setLoop];rw[QU (by omega)];exact hF4
   ·simp only[setLoop];rw[QU (by omega),← hX];exact hF5
   ·simp only[setLoop,WE,hFl];omega
   ·refine rowOf_get ?_
    simp only[setLoop];rw[QU (by omega)];exact hFa
   ·refine Cl.set (hFcl j) _ ?_
    rw[hFl]
    exact hRin _ (by omega)
   ·rw[show ks.length-(t+1)=r by omega]
    exact ⟨by omega,hgx⟩
   ·rw[show ks.length-(t+1)=r by omega,← hP.eq,hr,pick_step hj (by rw[hrt];exact hcj) (by omega) hbk]
    simp
   ·simp[hP.zl]
theorem c58f (ts0 ks:List Int) (hok:DrawOk ts0 ks) (K:Memo) (hR:RightQ ks ts0.length K) (x:Int) (hx:0≤x∧x<waysF ks ks.length ts0) {σ:List AObj} (d c:Nat) (hne:d≠c)
  (h0:σ[d]? = some (.cells [ints ts0,ints ks,.map c])) (h1:σ[c]? = some (.map (rendK K))) :
  AC Tryz.prog 37 [.ptr d 0,.i x] σ fun v τ=>G9 σ.length τ v (pickF ks ks.length ts0 x):=by
 have hr:=AC.at (σ:=σ) [d,c] (c58 ts0 ks hok K hR x hx) (by simpa using hne) rfl (by
  refine ⟨⟨trivial,rfl,?_⟩,⟨trivial,objIn_rend _ _,?_⟩,trivial⟩
  ·rw[h0];rfl
  ·rw[h1];simp only[renO,ren_rend])
 refine AC.mono (show AC Tryz.prog 37 [.ptr d 0,.i x] σ _ from hr) ?_
 rintro v τ ⟨r0,τ0,⟨K',_,_,_,hl0,hacc⟩,hle,rfl,rfl⟩
 have hlt:∀ l∈[d,c],l<σ.length:=by
  intro l hl
  simp only[ZD,WK,or_false] at hl
  rcases hl with rfl | rfl
  ·exact (QH.1 h0).1
  ·exact (QH.1 h1).1
 obtain ⟨p1,p2,p3,p4⟩:=Qbb [d,c] (τ0.map (renO (atF [d,c] σ.length))) σ (by simpa using hne) hlt (by simpa using hle)
 refine ⟨by rw[p1];omega,?_⟩
 rcases hacc with ⟨rfl,hz⟩ | ⟨l,hl,rfl,hrow⟩
 ·exact .inl ⟨rfl,hz⟩
 ·refine .inr ⟨σ.length+(l-2),by omega,?_,?_⟩
  ·simp only[ren,atF,List.length_cons,List.length_nil]
   rw[if_neg (by omega)]
  ·refine rowOf_get ?_
   rw[p4,ZR,show [d,c].length+(l-2)=l by simp;omega,WO hrow]
   simp only[Option.map_some,renO,rens_ints]
def pickV (ts ks:List Int) (n:Int):AV :=
 if n<0∨n>2147483646 then .tup [ints [],.i 7]
 else if waysF ks ks.length ts=0 then .tup [ints [],.i 9]
 else .tup [ints (pickF ks ks.length ts (n % waysF ks ks.length ts)),.i 0]
theorem pickV_cl (ts ks:List Int) (n:Int):QR 0 (pickV ts ks n)=true:=by
 unfold pickV;split
 ·rfl
 ·split <;> rfl
theorem mod_in {n m:Int} (hn:0≤n) (hm:0<m):n.tmod m=n % m∧0≤n % m∧n % m<m :=
 ⟨Int.tmod_eq_emod_of_nonneg hn,Int.emod_nonneg _ (by omega),Int.emod_lt_of_pos _ hm⟩
theorem c28_ok (ts ks:List Int) (n:Int) (ht:ts.length<2 ^ 63) (hk:ks.length<2 ^ 63) (hok:DrawOk ts ks):PC Tryz.prog 9 [drw ts ks,.i n] (pickV ts ks n):=by
 refine ⟨ZF (fok9 true) (QC rfl) ?_,pickV_cl ts ks n⟩
 simp only[ic9,WI,cellsOf,evA,simprocAttr]
 refine AC.run (c53f ts ks ht hk (checkV_ok hok) _) ?_
 simp only[evA,simprocAttr]
 refine (c47 0 2147483646 [n] (by simp)).call frz ?_
 rw[FW]
 by_cases hb:n<0∨n>2147483646
 ·have hbb:inB n 0 2147483646=false:=by
   cases hi:inB n 0 2147483646 with
   | false=>rfl
   | true=>have:=VB.1 hi;omega
  simp only[pickV,hb,hbb,evA,simprocAttr]
  exact frz
 ·have hbb:inB n 0 2147483646=true:=VB.2 (by omega)
  simp only[pickV,hb,hbb,evA,simprocAttr]
  refine AC.run (c55 3 ts [ints ks,.map 2] [AObj.cells [ints ts,ints ks],AObj.cells [ints ts,ints ks],AObj.map [],AObj.cells [ints ts,ints ks,.map 2],AObj.cells [.i n]] rfl hok.tl.2) ?_
  have h:=c54f ts ks hok ks.length ts [] (QG _) ⟨rfl,hok.tr⟩ (right_nil _ _) (σ:=[AObj.cells [ints ts,ints ks],AObj.cells [ints ts,ints ks],AObj.map [],AObj.cells [ints ts,ints ks,.map 2],AObj.cells [.i n]]) 3 2 (by decide) rfl rfl
  have hKr:=(waysQ_right (ks:=ks) ks.length ts [] (QG _) ⟨rfl,hok.tr⟩ (right_nil _ _)).2
  have hwn:=waysF_nonneg ks ks.length ts
  have h58:=c58f ts ks hok _ hKr
  rw[Nat.sub_self] at h
  generalize (waysQ ks ks.length ts []).2=K' at h h58
  generalize hm:waysF ks ks.length ts=m at h hwn h58 ⊢
  simp only[evA,simprocAttr]
  refine AC.run h ?_
  by_cases hm0:m=0
  ·have he:(m == 0)=true:=by simpa using hm0
   simp only[he,hm0,evA,simprocAttr]
   exact frz
  ·have he:(m == 0)=false:=by simpa using hm0
   obtain ⟨g1,g2,g3⟩:=mod_in (n:=n) (m:=m) (by omega) (by omega)
   simp only[he,hm0,g1,evA,simprocAttr]
   refine AC.mono (h58 (n % m) ⟨g2,g3⟩ 3 2 (by decide) rfl rfl) fun v τ hacc=>?_
   simp only[evA,simprocAttr]
   exact .tup (.cons (acc_frz (fun _=>trivial) hacc.acc) (.cons (.c (.c _ trivial)) .nil))
structure TabR (ts0 ks:List Int) (σ:List AObj) (b:Nat) (K:List (List Int)):Prop where
 tab:TabAt σ b ks.length (5 ^ ts0.length) K
 mem:MemoB ks.length (5 ^ ts0.length) K
 rgt:Right ks ts0.length K
def AllowA (ks:List Int):Nat→List Int→List Int→Prop
 | 0,_,l=>l=[]
 | r+1,us,l=>∃ (i:Nat) (l':List Int),l=(i:Int)::l'∧i<us.length∧canB_l ks us (ks.length-(r+1)) i=true∧AllowA ks r (lessF us i) l'
def indexF (ks:List Int):Nat→List Int→List Int→Int
 | 0,_,_=>0
 | _+1,_,[]=>0
 | r+1,us,z::l=>preF ks r us z.toNat+indexF ks r (lessF us z.toNat) l
theorem AllowA.length {ks:List Int}:∀ {r:Nat} {us l:List Int},AllowA ks r us l→l.length=r
 | 0,us,l,h=>by simp[AllowA] at h;simp[h]
 | r+1,us,l,h=>by
  obtain ⟨i,l',rfl,_,_,h⟩:=h
  simp[h.length]
theorem index_in {ks:List Int}:∀ (r:Nat) (us l:List Int),AllowA ks r us l→0≤indexF ks r us l∧indexF ks r us l<waysF ks r us∧pickF ks r us (indexF ks r us l)=l
 | 0,us,l,h=>by simp[AllowA] at h;simp[indexF,waysF,pickF,h]
 | r+1,us,l,h=>by
  obtain ⟨i,l',rfl,hi,hc,h⟩:=h
  obtain ⟨h1,h2,h3⟩:=index_in r (lessF us i) l' h
  have hp:=preF_nonneg ks r us i
  have hs:=preF_succ ks r us i
  rw[if_pos hc] at hs
  have hm:=preF_mono ks r us (show i+1≤us.length from hi)
  simp only[indexF,Int.toNat_natCast]
  refine ⟨by omega,by rw[preF_full];omega,?_⟩
  rw[pick_step hi hc (by omega) (fun k hk _=>by have:=preF_mono ks r us (show k+1≤i from hk);omega)]
  rw[show preF ks r us i+indexF ks r (lessF us i) l'-preF ks r us i=indexF ks r (lessF us i) l' by omega,h3]
theorem pick_A {ks:List Int}:∀ (r:Nat) (us:List Int) (x:Int),0≤x→x<waysF ks r us→AllowA ks r us (pickF ks r us x)∧indexF ks r us (pickF ks r us x)=x
 | 0,us,x,h0,h1=>by simp[waysF] at h1;simp[pickF,AllowA,indexF];omega
 | r+1,us,x,h0,h1=>by
  rw[preF_full] at h1
  have hex:∃ j,j<us.length∧canB_l ks us (ks.length-(r+1)) j=true∧x<preF ks r us (j+1)∧∀ k,k<j→canB_l ks us (ks.length-(r+1)) k=true→preF ks r us (k+1)≤x:=by
   cases hf:(List.range us.length).find? (fun i=>canB_l ks us (ks.length-(r+1)) i&&decide (x<preF ks r us (i+1))) with
   | some j =>
    rw[List.find?_range_eq_some] at hf
    obtain ⟨h2,h3,h4⟩:=hf
    simp only[QD,decide_eq_true_eq] at h2
    refine ⟨j,by simpa using h3,h2.1,h2.2,fun k hk hck=>?_⟩
    have:=h4 k hk
    simp only[hck,XI,Z0,decide_eq_false_iff_not] at this
    omega
   | none =>
    exfalso
    simp only[List.find?_eq_none,ZI,QD,decide_eq_true_eq,not_and] at hf
    have:=pre_le (ks:=ks) (r:=r) (us:=us) h0 us.length fun k hk hck=>by have:=hf k hk hck;omega
    omega
  obtain ⟨j,hj,hc,hx,hb⟩:=hex
  have hpj:=pre_le (ks:=ks) (r:=r) (us:=us) h0 j hb
  have hs:=preF_succ ks r us j
  rw[if_pos hc] at hs
  obtain ⟨g1,g2⟩:=pick_A (ks:=ks) r (lessF us j) (x-preF ks r us j) (by omega) (by omega)
  rw[pick_step hj hc hx hb]
  refine ⟨⟨j,_,rfl,hj,hc,g1⟩,?_⟩
  simp only[indexF,Int.toNat_natCast,g2]
  omega
end Go.Proofs.YtpmokaefmcffaaaGreat.AM
namespace Go.Proofs.YtpmokaefmcffaaaGreat.AM
variable [Dr]
open Go Go.Sort Go.Shelf
section
variable {α:Type} [Inhabited α] (enc:α→Value) (w:World) (b q:Nat) (d:Array α) (os:Array Obj)
theorem so1_at {c:Array Value} {e:TypeId} {fr:Nat × Nat} (hb:w.heap[b]? = some (.cells c e fr)):(sortWorld enc w b 0 q d os).heap[b]? = some (.cells (putCells enc 0 d c) e fr):=by
 have hlt:b<w.heap.size:=(Q3.1 hb).1
 unfold sortWorld grow putRow mapBlock Sort.ahead
 simp only
 rw[JF (by simpa using hlt),W8,if_pos rfl,hb]
 rfl
theorem so1_other {x:Nat} (hx:x≠b) (hlt:x<w.heap.size):(sortWorld enc w b 0 q d os).heap[x]? = w.heap[x]? := by
 unfold sortWorld grow putRow mapBlock Sort.ahead
 simp only
 rw[JF (by simpa using hlt),W8,if_neg (Ne.symm hx)]
theorem so1_size:w.heap.size≤(sortWorld enc w b 0 q d os).heap.size:=by
 unfold sortWorld grow putRow mapBlock Sort.ahead
 simp
theorem so1_step {m:LM} {X:Nat→Prop} {n0 l:Nat} (hl:m l=some b) (hx:¬ X b):Step n0 m X w m (sortWorld enc w b 0 q d os) where
 keep _ _:=rfl
 new x c hc:=.inl ⟨x,hc⟩
 size:=so1_size enc w b q d os
 fr x hx' hno:=so1_other enc w b q d os (fun h=>by
  subst h
  rcases hno with h | h
  ·exact hx h
  ·exact h l hl) hx'
 shp x c e hc:=by
  by_cases h:x=b
  ·subst h;exact ⟨_,so1_at enc w x q d os hc,by simp[putCells]⟩
  ·exact ⟨c,by rw[so1_other enc w b q d os h (Q3.1 hc).1];exact hc,rfl⟩
 os:=rfl
 tape:=rfl
 output:=rfl
 drawn _:=by unfold sortWorld grow putRow mapBlock Sort.ahead;simp
end
theorem putCells1_list {α:Type} [Inhabited α] (enc:α→Value) (d:Array α) (c:Array Value) (h:d.size≤c.size):(putCells enc 0 d c).toList=d.toList.map enc++c.toList.drop d.size:=by
 apply Z1
 intro t
 rw[Y7]
 unfold putCells
 rw[Array.getElem?_mapIdx]
 by_cases ht:t<d.size
 ·rw[QE (by simpa using ht),Q7 (by omega)]
  simp[ht]
 ·rw[QS (by simpa using ht),X4]
  simp[ht]
  congr 1
  omega
theorem QK.map1 {m:LM} {X:Nat→Prop} {w:World} {A:Nat→CV} {V:Nat→Value}:∀ {p:List Nat},(∀ i∈p,VRel m X w (.cv (A i)) (V i))→QK m X w (p.map fun i=>AV.cv (A i)) (p.map V)
 | [],_=>by simp[QK]
 | i::p,h=>by
  simp only[Q0,QK]
  exact ⟨h i (by simp),QK.map1 fun j hj=>h j (by simp[hj])⟩
theorem AC_sort1 {P:Program} {ρ:Ren} (L:SlLaysF.n6 P ρ) (hf:PI P (ρ.f 6)) {g:Nat} {cap:List AV} {n:Nat} (hn:0<n) (hn2:n<4611686018427387904)
  {A:Nat→CV} {cf:Nat→Nat→Int} (hO:SWO (ltOf cf)) (hcl:QO 0 cap=true) (hcmp:∀ i j,i<n→j<n→@AC drOn P g (.cv (A i) :: .cv (A j)::cap) [] fun r _=>r=.i (cf i j))
  {σ:List AObj} {l:Nat} {rest:List AV} (hr:rowOf σ l=some (((List.range n).map fun i=>AV.cv (A i))++rest)) :
  AC P (ρ.f 6) [.sl l 0 n 1,.fn (.func g) cap] σ fun r τ=>r=.tup []∧∃ p:List Nat,p.Perm (List.range n)∧p.Pairwise (fun i j=>¬ cf j i<0)∧τ=σ.set l (.cells ((p.map fun i=>AV.cv (A i))++rest)):=by
 refine ⟨hf,fun m X w cargs ha hh=>?_⟩
 obtain ⟨v1,us,rfl,h1,k1⟩:=QK.cons ha
 obtain ⟨v2,us,rfl,h2,k2⟩:=QK.cons k1
 have k3:=QK.nil' k2
 subst k3
 simp only[VRel] at h1 h2
 obtain ⟨b,capn,hmb,rfl,hcapn,c0,e0,hb0,hsz0⟩:=h1
 obtain ⟨vs,rfl,hvs⟩:=h2
 have hσ:=WO hr
 have hob:=hh.obj l _ hσ
 rw[hmb] at hob
 obtain ⟨c,e,hb,hcs,hrels⟩:=hob
 have hrl:(((List.range n).map fun i=>AV.cv (A i))++rest).length=n+rest.length:=by simp
 rw[hrl] at hcs hrels
 have hblk:b<w.heap.size:=(hh.dom l b hmb).2
 have hxb:¬ X b:=hh.own l b _ hmb hσ trivial
 let V:Nat→Value:=fun i=>c[i]!
 have hV:∀ i,i<n→VRel m X w (.cv (A i)) (V i):=fun i hi=>by
  obtain ⟨v,hv1,hv2⟩:=hrels.get i (.cv (A i)) (by rw[QE (by simpa using hi)];simp[hi])
  rw[List.getElem?_take_of_lt (by omega),Y7,Q7 (by omega)] at hv1
  have:V i=v:=by
   show c[i]! = v
   rw[getElem!_pos c i (by omega)]
   simpa using hv1
  rw[this];exact hv2
 let cl:Nat→Nat:=fun i=>if i<n then i else 0
 have hcl1:∀ i,cl i<n:=fun i=>by show (if i<n then i else 0)<n;split <;> omega
 have hcl2:∀ i,i<n→cl i=i:=fun i hi=>by show (if i<n then i else 0)=i;rw[if_pos hi]
 let enc:Nat→Value:=fun i=>V (cl i)
 have hone:OneCell enc:=fun x=>by
  have h:QK m X w [.cv (A (cl x))] [V (cl x)]:=by simp only[QK];exact ⟨hV _ (hcl1 x),trivial⟩
  exact QK.one_cells h rfl _ (by simp[enc])
 have hds:(Array.range n).size=n:=by simp
 have hH:Holds enc w b 0 (Array.range n):=by
  intro j hj
  rw[hds] at hj
  have h3:(Array.range n)[j]! = j:=by simp[hj]
  rw[h3]
  refine ⟨?_,by simp[World.frozen?,hb]⟩
  show w.cell? _=some (V (cl j))
  rw[hcl2 j hj]
  simp only[World.cell?,ZV,hb,V]
  rw[getElem!_pos c j (by omega)]
  simp[show j<c.size by omega]
 have hown:∀ b,Own nom (Own m X) b↔Own m X b:=fun b=>⟨fun h=>h.elim id (fun ⟨l,hl⟩=>by cases hl),.inl⟩
 have hcmp':CmpLays1 P g vs.toArray enc (fun x y=>cf (cl x) (cl y)) b 0 (Array.range n).size w:=by
  intro mm os dk hsz x y
  have hmono:Mono nom (Own m X) w nom (Own m X) (sortWorld enc w b 0 mm dk os):=by
   refine ⟨fun l b hl=>hl,fun b' hb' hc=>?_,(so1_step enc w b mm dk os (n0:=0) hmb hxb).shp⟩
   obtain ⟨c1,e1,fr1,hc1⟩:=hc
   have hne:b'≠b:=fun h=>hb' ((hown b').2 (.inr ⟨l,by rw[h];exact hmb⟩))
   exact ⟨so1_other enc w b mm dk os hne (Q3.1 hc1).1,hb'⟩
  have a0:QK m X w (.cv (A (cl x)) :: .cv (A (cl y))::cap) (enc x::enc y::vs):=by
   simp only[QK]
   exact ⟨hV _ (hcl1 x),hV _ (hcl1 y),hvs⟩
  have a1:=QK.less (k:=0) (m':=nom) (X':=Own m X) (fun l hl=>absurd hl (W5 _)) (fun b hb=>(hown b).1 hb) _ _ (by simp only[QO,QR,hcl,Bool.and_self]) a0
  have a2:=a1.mono hmono
  have hh0:HRel nom (Own m X) [] (sortWorld enc w b 0 mm dk os):=⟨fun b' hb'=>by
    have hs:=so1_size enc w b mm dk os
    rcases hb' with h | ⟨l',h⟩
    ·have:=hh.xb b' h;omega
    ·have:=(hh.dom l' b' h).2;omega,fun l b hl=>(by cases hl),fun l b o hl=>(by cases hl),fun l l' b o hl=>(by cases hl),fun l o ho=>(by cases (List.getElem?_nil.symm.trans ho)),(hh.gl.less fun b hb=>(hown b).1 hb).mono hmono⟩
  have hcall:=callsIn_wide.1 ((hcmp (cl x) (cl y) (hcl1 x) (hcl1 y)).2 nom (Own m X) _ _ a2 (@HRel.mk drOn _ _ _ _ hh0.xb hh0.dom hh0.own hh0.inj hh0.obj hh0.gl))
  have hargs:(#[enc x,enc y]++vs.toArray)=(enc x::enc y::vs).toArray:=by simp
  rw[hargs]
  refine hcall.mono ?_
  rintro e' w' ⟨cv,r,σ',m',rfl,rfl,hv,hh',hst,_⟩
  simp only[VRel,CV.rep] at hv
  subst hv
  exact ⟨rfl,Qe0 (d:=drOn) trivial hst⟩
 have heg:∀ args w,(callFunc g args).run P w=.ok (.enter g args) w:=(hcmp 0 0 hn hn).1
 have hO':=swo_pull cl hO
 refine callsIn_wide.2 ((Any.slices_SortFunc L enc hone _ hO' g vs.toArray b 0 capn (Array.range n) w heg hcmp' hH hblk (by rw[hds];exact hn2)).mono ?_) |> fun h=>by rw[hds] at h;exact h
 rintro e' w' ⟨rfl,d',nn,os,hperm,hsort,rfl⟩
 rw[hds] at hperm hsort
 obtain ⟨hps,_,hpp⟩:=hperm
 have hp1:d'.toList.Perm (List.range n):=by
  have e1:d'.extract 0 n=d':=by rw[← hds,← hps];simp
  have e2:(Array.range n).extract 0 n=Array.range n:=by simp
  rw[e1,e2] at hpp
  simpa using hpp
 have hlt:∀ i∈d'.toList,i<n:=fun i hi=>by simpa using (hp1.mem_iff (a:=i)).1 hi
 have hdl:d'.toList.length=n:=by have:=hp1.length_eq;simpa using this
 have hdz:d'.size=n:=by rw[hps,hds]
 have hst:=so1_step enc w b nn d' os (n0:=σ.length) hmb hxb
 refine ⟨.tuple #[],.tup [],σ.set l (.cells ((d'.toList.map fun i=>AV.cv (A i))++rest)),m,rfl,⟨rfl,d'.toList,hp1,?_,rfl⟩,?_,?_,hst,by simp⟩
 ·rw[List.pairwise_iff_getElem]
  intro i j hi hj hij
  have:=hsort i j (QF _) hij (by omega)
  unfold ltOf at this
  have:=of_decide_eq_false this
  rw[getElem!_pos d' j (by simpa using hj),getElem!_pos d' i (by simpa using hi)] at this
  have g1:d'.toList[i]=d'[i]'(by simpa using hi):=by simp
  have g2:d'.toList[j]=d'[j]'(by simpa using hj):=by simp
  rw[g1,g2]
  have f1:=hcl2 (d'[i]'(by simpa using hi)) (hlt _ (by rw[← g1];exact Q2 hi))
  have f2:=hcl2 (d'[j]'(by simpa using hj)) (hlt _ (by rw[← g2];exact Q2 hj))
  have this:¬ cf (cl (d'[j]'(by simpa using hj))) (cl (d'[i]'(by simpa using hi)))<0:=this
  rw[f1,f2] at this
  exact this
 ·simp only[VRel];exact ⟨[],rfl,by simp[QK]⟩
 ·refine hh.turnG hmb hσ trivial hst (fun x hx hlt=>so1_other enc w b nn d' os hx hlt) fun hm=>?_
  refine ⟨_,e,so1_at enc w b nn d' os hb,?_,?_⟩
  ·rw[QM,ZK,hdl]
   simp[putCells];omega
  ·have hlen2:((d'.toList.map fun i=>AV.cv (A i))++rest).length=n+rest.length:=by rw[QM,ZK,hdl]
   rw[hlen2,putCells1_list _ _ _ (by rw[hdz];omega),hdz]
   have e1:d'.toList.map enc=d'.toList.map V:=by
    apply JI
    intro i hi
    show V (cl i)=V i
    rw[hcl2 i (hlt i hi)]
   have e2:(d'.toList.map V).length=n:=by rw[ZK,hdl]
   rw[e1,List.take_append,e2,Q5 (by omega),show n+rest.length-n=rest.length by omega]
   refine QK.append (QK.map1 fun i hi=>(hV i (hlt i hi)).mono hm) ?_
   have h:=hrels.drop n
   rw[List.drop_left' (by simp),List.drop_take,show n+rest.length-n=rest.length by omega] at h
   exact h.mono hm
end Go.Proofs.YtpmokaefmcffaaaGreat.AM
namespace Go.Proofs.YtpmokaefmcffaaaGreat.AM
open Go Go.Shelf
def sort1L_ren:Go.Shelf.Ren:=⟨fun | 6=>38 | 15=>87 | 14=>86 | 28=>113 | 29=>114 | 20=>105 | 21=>106 | 22=>107 | 23=>108 | 24=>109 | 25=>110 | 26=>111 | 27=>112 | 46=>134 | 47=>135 | 48=>136 | 49=>137 | 50=>138 | 57=>160 | n=>n,fun | 22=>29 | 24=>26 | 25=>109 | 3=>3 | 39=>165 | 0=>0 | 53=>36 | 55=>197 | 4=>4 | 46=>190 | 45=>189 | 50=>134 | 5=>5 | 9=>9 | 66=>216 | 70=>220 | 76=>241 | 77=>242 | n=>n,fun | n=>n⟩
theorem sort1L:Go.Proofs.SlLaysF.n6 Tryz.prog sort1L_ren:={
 mixed:=by kernel_rfl
 f6:=⟨Tryz.f38.name,by decide,Tryz.func38.trans (congrArg some (by kernel_rfl))⟩
 f14:=⟨Tryz.f86.name,by decide,Tryz.func86.trans (congrArg some (by kernel_rfl))⟩
 f15:=Tryz.func87.trans (congrArg some (by kernel_rfl))
 f20:=⟨Tryz.f105.name,by decide,Tryz.func105.trans (congrArg some (by kernel_rfl))⟩
 f21:=⟨Tryz.f106.name,by decide,Tryz.func106.trans (congrArg some (by kernel_rfl))⟩
 f22:=⟨Tryz.f107.name,by decide,Tryz.func107.trans (congrArg some (by kernel_rfl))⟩
 f23:=⟨Tryz.f108.name,by decide,Tryz.func108.trans (congrArg some (by kernel_rfl))⟩
 f24:=⟨Tryz.f109.name,by decide,Tryz.func109.trans (congrArg some (by kernel_rfl))⟩
 f25:=⟨Tryz.f110.name,by decide,Tryz.func110.trans (congrArg some (by kernel_rfl))⟩
 f26:=⟨Tryz.f111.name,by decide,Tryz.func111.trans (congrArg some (by kernel_rfl))⟩
 f27:=⟨Tryz.f112.name,by decide,Tryz.func112.trans (congrArg some (by kernel_rfl))⟩
 f28:=Tryz.func113.trans (congrArg some (by kernel_rfl))
 f29:=Tryz.func114.trans (congrArg some (by kernel_rfl))
 f46:=⟨Tryz.f134.name,by decide,Tryz.func134.trans (congrArg some (by kernel_rfl))⟩
 f47:=Tryz.func135.trans (congrArg some (by kernel_rfl))
 f48:=Tryz.func136.trans (congrArg some (by kernel_rfl))
 f49:=⟨Tryz.f137.name,by decide,Tryz.func137.trans (congrArg some (by kernel_rfl))⟩
 f50:=⟨Tryz.f138.name,by decide,Tryz.func138.trans (congrArg some (by kernel_rfl))⟩
 f57:=⟨Tryz.f160.name,by decide,Tryz.func160.trans (congrArg some (by kernel_rfl))⟩
 t0:=Tryz.underlying0
 a0:=Tryz.isAgg0
 z0:=Tryz.sizeOf0
 v0:=Tryz.zeroValue0
 t3:=Tryz.underlying3
 a3:=Tryz.isAgg3
 z3:=Tryz.sizeOf3
 v3:=Tryz.zeroValue3
 t4:=Tryz.underlying4
 a4:=Tryz.isAgg4
 z4:=Tryz.sizeOf4
 v4:=Tryz.zeroValue4
 t5:=Tryz.underlying5
 a5:=Tryz.isAgg5
 z5:=Tryz.sizeOf5
 v5:=Tryz.zeroValue5
 t9:=Tryz.underlying9
 a9:=Tryz.isAgg9
 z9:=Tryz.sizeOf9
 v9:=Tryz.zeroValue9
 t22:=Tryz.underlying29
 a22:=Tryz.isAgg29
 z22:=Tryz.sizeOf29
 v22:=Tryz.zeroValue29
 a24:=Tryz.isAgg26
 z24:=Tryz.sizeOf26
 t25:=Tryz.underlying109
 a25:=Tryz.isAgg109
 z25:=Tryz.sizeOf109
 v25:=Tryz.zeroValue109
 t39:=Tryz.underlying165
 a39:=Tryz.isAgg165
 z39:=Tryz.sizeOf165
 v39:=Tryz.zeroValue165
 t45:=Tryz.underlying189
 a45:=Tryz.isAgg189
 z45:=Tryz.sizeOf189
 v45:=Tryz.zeroValue189
 t46:=Tryz.underlying190
 a46:=Tryz.isAgg190
 z46:=Tryz.sizeOf190
 v46:=Tryz.zeroValue190
 t50:=Tryz.underlying134
 a50:=Tryz.isAgg134
 z50:=Tryz.sizeOf134
 v50:=Tryz.zeroValue134
 t53:=Tryz.underlying36
 a53:=Tryz.isAgg36
 z53:=Tryz.sizeOf36
 v53:=Tryz.zeroValue36
 t55:=Tryz.underlying197
 a55:=Tryz.isAgg197
 z55:=Tryz.sizeOf197
 v55:=Tryz.zeroValue197
 t66:=Tryz.underlying216
 a66:=Tryz.isAgg216
 z66:=Tryz.sizeOf216
 v66:=Tryz.zeroValue216
 t70:=Tryz.underlying220
 a70:=Tryz.isAgg220
 z70:=Tryz.sizeOf220
 v70:=Tryz.zeroValue220
 t76:=Tryz.underlying241
 a76:=Tryz.isAgg241
 z76:=Tryz.sizeOf241
 v76:=Tryz.zeroValue241
 t77:=Tryz.underlying242
 a77:=Tryz.isAgg242
 z77:=Tryz.sizeOf242
 v77:=Tryz.zeroValue242 }
end Go.Proofs.YtpmokaefmcffaaaGreat.AM
namespace Go.Proofs.YtpmokaefmcffaaaGreat.AM
variable [Dr]
open Go
def setL (n s:Nat):List Int:=((List.range n).filter fun t=>s.testBit t).map fun t=>((t:Nat):Int)
theorem setL_succ (n s:Nat):setL (n+1) s=setL n s++if s.testBit n=true then [(n:Int)] else []:=by
 unfold setL
 rw[WM,List.filter_append,ZS]
 congr 1
 by_cases h:s.testBit n=true <;> simp[h]
theorem setL_len (n s:Nat):(setL n s).length≤n:=by
 unfold setL
 rw[ZK]
 have:=HC (fun t=>s.testBit t) (List.range n)
 simpa using this
theorem setL_mem {n s:Nat} {x:Int}:x∈setL n s↔∃ t:Nat,t<n∧s.testBit t=true∧x=(t:Int):=by
 unfold setL
 rw[ZP]
 constructor
 ·rintro ⟨t,ht,rfl⟩
  rw[YB,ZI] at ht
  exact ⟨t,ht.1,ht.2,rfl⟩
 ·rintro ⟨t,h1,h2,rfl⟩
  exact ⟨t,by rw[YB,ZI];exact ⟨h1,h2⟩,rfl⟩
theorem setL_zero (n:Nat):setL n 0=[]:=by
 unfold setL
 have:(List.range n).filter (fun t=>(0:Nat).testBit t)=[]:=by
  rw[List.filter_eq_nil_iff];intro t _;simp
 rw[this];rfl
def cmpN_l (x y:Int):Int:=if x<y then -1 else if x>y then 1 else 0
def cmpLx:List Int→List Int→Int
 | [],[]=>0
 | [],_::_=>-1
 | _::_,[]=>1
 | x::xs,y::ys=>if cmpN_l x y≠0 then cmpN_l x y else cmpLx xs ys
def cmpS (a b:List Int):Int:=if cmpN_l a.length b.length≠0 then cmpN_l a.length b.length else cmpLx a b
theorem cmpN_self (x:Int):cmpN_l x x=0:=by unfold cmpN_l;rw[if_neg (by omega),if_neg (by omega)]
theorem cmpN_eq {x y:Int} (h:cmpN_l x y=0):x=y:=by
 unfold cmpN_l at h
 by_cases h1:x<y
 ·rw[if_pos h1] at h;omega
 ·rw[if_neg h1] at h
  by_cases h2:x>y
  ·rw[if_pos h2] at h;omega
  ·omega
theorem cmpN_swap (x y:Int):cmpN_l y x = - cmpN_l x y:=by
 unfold cmpN_l
 rcases Int.lt_trichotomy x y with h | h | h
 ·rw[if_neg (show ¬ y<x by omega),if_pos (show y>x by omega),if_pos h];rfl
 ·subst h;simp
 ·rw[if_pos h,if_neg (show ¬ x<y by omega),if_pos (show x>y by omega)]
theorem cmpN_lt {x y:Int}:cmpN_l x y<0↔x<y:=by
 unfold cmpN_l
 by_cases h1:x<y
 ·rw[if_pos h1];simp[h1]
 ·rw[if_neg h1]
  by_cases h2:x>y
  ·rw[if_pos h2];simp;omega
  ·rw[if_neg h2];simp;omega
theorem cmpLx_self:∀ a,cmpLx a a=0
 | []=>rfl
 | x::a=>by unfold cmpLx;rw[cmpN_self,if_neg (by simp),cmpLx_self a]
theorem cmpLx_eq:∀ {a b},cmpLx a b=0→a=b
 | [],[],_=>rfl
 | [],_::_,h=>by unfold cmpLx at h;omega
 | _::_,[],h=>by unfold cmpLx at h;omega
 | x::a,y::b,h=>by
  unfold cmpLx at h
  by_cases h1:cmpN_l x y≠0
  ·rw[if_pos h1] at h;exact absurd h h1
  ·rw[if_neg h1] at h
   rw[cmpN_eq (x:=x) (y:=y) (by omega),cmpLx_eq h]
theorem cmpLx_swap:∀ a b,cmpLx b a = - cmpLx a b
 | [],[]=>rfl
 | [],_::_=>rfl
 | _::_,[]=>rfl
 | x::a,y::b=>by
  unfold cmpLx
  have h:=cmpN_swap x y
  by_cases h1:cmpN_l x y≠0
  ·rw[if_pos h1,if_pos (by omega),h]
  ·rw[if_neg h1,if_neg (by omega),cmpLx_swap a b]
theorem cmpLx_trans:∀ {a b c},cmpLx a b<0→cmpLx b c<0→cmpLx a c<0
 | [],[],_,h,_=>by unfold cmpLx at h;omega
 | [],_::_,[],_,h=>by unfold cmpLx at h;omega
 | [],_::_,_::_,_,_=>by unfold cmpLx;omega
 | _::_,[],_,h,_=>by unfold cmpLx at h;omega
 | _::_,_::_,[],_,h=>by unfold cmpLx at h;omega
 | x::a,y::b,z::c,h,k=>by
  unfold cmpLx at h k ⊢
  by_cases h1:cmpN_l x y≠0
  ·rw[if_pos h1] at h
   have hxy:=cmpN_lt.1 h
   by_cases h2:cmpN_l y z≠0
   ·rw[if_pos h2] at k
    have hyz:=cmpN_lt.1 k
    have:cmpN_l x z<0:=cmpN_lt.2 (by omega)
    rw[if_pos (by omega)];exact this
   ·have:=cmpN_eq (x:=y) (y:=z) (by omega)
    subst this
    rw[if_pos h1];exact h
  ·rw[if_neg h1] at h
   have:=cmpN_eq (x:=x) (y:=y) (by omega)
   subst this
   by_cases h2:cmpN_l x z≠0
   ·rw[if_pos h2] at k ⊢;exact k
   ·rw[if_neg h2] at k ⊢;exact cmpLx_trans h k
theorem cmpS_self (a:List Int):cmpS a a=0:=by unfold cmpS;rw[cmpN_self,if_neg (by simp),cmpLx_self]
theorem cmpS_eq {a b:List Int} (h:cmpS a b=0):a=b:=by
 unfold cmpS at h
 by_cases h1:cmpN_l a.length b.length≠0
 ·rw[if_pos h1] at h;exact absurd h h1
 ·rw[if_neg h1] at h;exact cmpLx_eq h
theorem cmpS_swap (a b:List Int):cmpS b a = - cmpS a b:=by
 unfold cmpS
 have h:=cmpN_swap a.length b.length
 by_cases h1:cmpN_l a.length b.length≠0
 ·rw[if_pos h1,if_pos (by omega),h]
 ·rw[if_neg h1,if_neg (by omega),cmpLx_swap]
theorem cmpS_trans {a b c:List Int} (h:cmpS a b<0) (k:cmpS b c<0):cmpS a c<0:=by
 unfold cmpS at h k ⊢
 by_cases h1:cmpN_l a.length b.length≠0
 ·rw[if_pos h1] at h
  have hxy:=cmpN_lt.1 h
  by_cases h2:cmpN_l b.length c.length≠0
  ·rw[if_pos h2] at k
   have hyz:=cmpN_lt.1 k
   have:cmpN_l a.length c.length<0:=cmpN_lt.2 (by omega)
   rw[if_pos (by omega)];exact this
  ·have:=cmpN_eq (x:=b.length) (y:=c.length) (by omega)
   rw[← this,if_pos h1];exact h
 ·rw[if_neg h1] at h
  have:=cmpN_eq (x:=a.length) (y:=b.length) (by omega)
  rw[this]
  by_cases h2:cmpN_l b.length c.length≠0
  ·rw[if_pos h2] at k ⊢;exact k
  ·rw[if_neg h2] at k ⊢;exact cmpLx_trans h k
theorem cmpS_tri {a b:List Int} (h1:¬ cmpS a b<0) (h2:¬ cmpS b a<0):a=b:=by
 rw[cmpS_swap a b] at h2
 exact cmpS_eq (by omega)
theorem swoS {α:Type} (f:α→List Int):Go.Sort.SWO fun x y=>decide (cmpS (f x) (f y)<0):=by
 refine ⟨fun x=>?_,fun x y z h k=>?_,fun x y z h k=>?_⟩
 ·rw[cmpS_self];rfl
 ·exact decide_eq_true (cmpS_trans (of_decide_eq_true h) (of_decide_eq_true k))
 ·have h:=of_decide_eq_false h
  have k:=of_decide_eq_false k
  refine decide_eq_false fun hz=>?_
  by_cases e:cmpS (f y) (f x)<0
  ·exact k (cmpS_trans e hz)
  ·rw[cmpS_tri h e] at hz
   exact k hz
def bestF (n:Nat) (L:Nat→Bool):Nat→List Int
 | 0=>[]
 | k+1=>if (1≤k∧L k=true)∧(bestF n L k=[]∨cmpS (setL n k) (bestF n L k)<0) then setL n k else bestF n L k
theorem bestF_is {n:Nat} {L:Nat→Bool} (hL:∀ s,L s=true→setL n s≠[]):∀ k,(bestF n L k=[]∧∀ s,1≤s→s<k→L s=false)∨∃ s,s<k∧L s=true∧bestF n L k=setL n s∧∀ s',1≤s'→s'<k→L s'=true→¬ cmpS (setL n s') (setL n s)<0
 | 0=>.inl ⟨rfl,fun s _ h=>by omega⟩
 | k + 1=>by
  have ih:=bestF_is (n:=n) hL k
  unfold bestF
  by_cases h1:1≤k∧L k=true
  ·by_cases h2:bestF n L k=[]∨cmpS (setL n k) (bestF n L k)<0
   ·rw [if_pos ⟨h1,h2⟩]
    refine .inr ⟨k,by omega,h1.2,rfl,fun s' a b c=>?_⟩
    by_cases e:s'=k
    ·subst e;rw[cmpS_self];omega
    ·rcases ih with ⟨i1,i2⟩ | ⟨s,j1,j2,j3,j4⟩
     ·have:=i2 s' a (by omega);rw[c] at this;cases this
     ·rcases h2 with h2 | h2
      ·rw[j3] at h2;exact absurd h2 (hL s j2)
      ·rw[j3] at h2
       intro hlt
       exact j4 s' a (by omega) c (cmpS_trans hlt h2)
   ·rw[if_neg (by intro h;exact h2 h.2)]
    rcases ih with ⟨i1,i2⟩ | ⟨s,j1,j2,j3,j4⟩
    ·exact absurd (.inl i1) h2
    ·refine .inr ⟨s,by omega,j2,j3,fun s' a b c=>?_⟩
     by_cases e:s'=k
     ·subst e;rw[j3] at h2;intro hh;exact h2 (.inr hh)
     ·exact j4 s' a (by omega) c
  ·rw[if_neg (by intro h;exact h1 h.1)]
   rcases ih with ⟨i1,i2⟩ | ⟨s,j1,j2,j3,j4⟩
   ·refine .inl ⟨i1,fun s a b=>?_⟩
    by_cases e:s=k
    ·subst e
     cases hl:L s with
     | false=>rfl
     | true=>exact absurd ⟨a,hl⟩ h1
    ·exact i2 s a (by omega)
   ·refine .inr ⟨s,by omega,j2,j3,fun s' a b c=>?_⟩
    by_cases e:s'=k
    ·subst e;exact absurd ⟨a,c⟩ h1
    ·exact j4 s' a (by omega) c
theorem first_best {n N:Nat} {L:Nat→Bool} (hL:∀ s,L s=true→setL n s≠[]) (h0:L 0=false) {p:List Nat} (hp:p.Perm (List.range N)) (hs:p.Pairwise fun i j=>¬ cmpS (setL n j) (setL n i)<0) :
  ((p.find? L).map (setL n)).getD []=bestF n L N:=by
 have hb:=bestF_is hL N
 have hmem:∀ s,s∈p↔s<N:=fun s=>by rw[hp.mem_iff];simp
 cases hf:p.find? L with
 | none =>
  rw[List.find?_eq_none] at hf
  rcases hb with ⟨i1,_⟩ | ⟨s,j1,j2,_,_⟩
  ·rw[i1];rfl
  ·exact absurd j2 (hf s ((hmem s).2 j1))
 | some s0 =>
  obtain ⟨h1,a,b,rfl,h2⟩:=List.find?_eq_some_iff_append.1 hf
  have hN:s0<N:=(hmem s0).1 (by simp)
  have h00:1≤s0:=by
   rcases XF s0 with e | e
   ·subst e;rw[h0] at h1;cases h1
   ·exact e
  rcases hb with ⟨_,i2⟩ | ⟨s,j1,j2,j3,j4⟩
  ·have:=i2 s0 h00 hN;rw[h1] at this;cases this
  ·rw [j3]
   show setL n s0=setL n s
   have k1:=j4 s0 h00 hN h1
   have k2:¬ cmpS (setL n s) (setL n s0)<0:=by
    have hm:=(hmem s).2 j1
    rw[YV] at hm
    rcases hm with hm | hm
    ·have:=h2 s hm;rw[j2] at this;cases this
    ·rcases ZD.1 hm with rfl | hm
     ·rw[cmpS_self];omega
     ·rw[List.pairwise_append] at hs
      have:=(List.pairwise_cons.1 hs.2.1).1 s hm
      exact this
   exact cmpS_tri k1 k2
def orF:List Int→Int
 | []=>0
 | z::zs=>if z≠0 then z else orF zs
theorem orF_cons (z:Int) (zs:List Int):orF (z::zs)=if z≠0 then z else orF zs:=rfl
theorem cmpLx_nc (y:Int) (ys:List Int):cmpLx [] (y::ys) = -1:=rfl
theorem cmpLx_cn (y:Int) (ys:List Int):cmpLx (y::ys) []=1:=rfl
theorem cmpLx_cc (x y:Int) (xs ys:List Int):cmpLx (x::xs) (y::ys)=if cmpN_l x y≠0 then cmpN_l x y else cmpLx xs ys:=rfl
theorem orF_drop:∀ {zs:List Int} {i:Nat},(∀ j,j<i→zs[j]?.getD 0=0)→orF zs=orF (zs.drop i)
 | [],i,_=>by simp
 | z::zs,0,_=>rfl
 | z::zs,i+1,h=>by
  have h0:=h 0 (by omega)
  simp at h0
  rw[List.drop_succ_cons,← orF_drop (zs:=zs) (i:=i) fun j hj=>by simpa using h (j+1) (by omega)]
  rw[orF_cons,h0,if_neg (by simp)]
theorem c64_l (zs:List Int) (hz:zs.length<2 ^ 63):PC Tryz.prog 40 [ints zs] (.i (orF zs)):=by
 refine ⟨ZF (fok40 true) (QC rfl) ?_,rfl⟩
 simp only[ic40,evA,simprocAttr]
 refine ZW zs.length (fun i s=>(∀ j,j<i→zs[j]?.getD 0=0)∧∃ v3 v7 v8,s=⟨[ints zs,.i 0,.i 0,v3,ints zs,.i zs.length,.i i,v7,v8],[]⟩) ?_ 0 (QF _) ⟨by omega,_,_,_,rfl⟩
 rintro i s hi ⟨hall,v3,v7,v8,rfl⟩
 have hd:=orF_drop hall
 by_cases h:i<zs.length
 ·have hg:zs[i]?.getD 0=zs[i]:=by rw[QI h];rfl
  rw[List.drop_eq_getElem_cons h,orF_cons] at hd
  cases hz0:(zs[i]?.getD 0 != 0) with
  | true =>
   rw[if_pos (by rw[← hg];simpa using hz0),← hg] at hd
   simp only[ic40l0,QJ,h,hz0,hd,evA,simprocAttr]
   exact frz
  | false =>
   have hws:IntKind.i64.wrap ((i:Int)+1)=((i+1:Nat):Int):=Q6 (by omega)
   simp only[ic40l0,QJ,h,hz0,hws,evA,simprocAttr]
   refine ZL (by first | trivial | omega) ⟨fun j hj=>?_,_,_,_,rfl⟩
   rcases QQ.1 hj with hj | rfl
   ·exact hall j hj
   ·simpa using hz0
 ·rw[List.drop_eq_nil_of_le (by omega)] at hd
  simp only[ic40l0,QJ,h,hd,orF,evA,simprocAttr]
  exact frz
theorem c78 (x:Int):PC Tryz.prog 88 [.i x] (.b false):=by
 refine ⟨ZF (fok88 true) (QC rfl) ?_,rfl⟩
 simp only[ic88,evA,simprocAttr]
 exact frz
theorem c65_l (x y:Int):PC Tryz.prog 41 [.i x,.i y] (.i (cmpN_l x y)):=by
 refine ⟨ZF (fok41 true) (QC rfl) ?_,rfl⟩
 simp only[ic41,evA,simprocAttr]
 refine (c78 x).call frz ?_
 simp only[evA,simprocAttr]
 refine (c78 y).call frz ?_
 unfold cmpN_l
 by_cases h1:x<y
 ·simp only[h1,evA,simprocAttr]
  exact frz
 ·by_cases h2:x>y
  ·simp only[h1,h2,evA,simprocAttr]
   exact frz
  ·simp only[h1,h2,evA,simprocAttr]
   exact frz
theorem cmpLx_drop:∀ {xs ys:List Int} {i:Nat},i≤xs.length→i≤ys.length→(∀ j,j<i→xs[j]?.getD 0=ys[j]?.getD 0)→cmpLx xs ys=cmpLx (xs.drop i) (ys.drop i)
 | xs,ys,0,_,_,_=>rfl
 | [],_,i+1,h,_,_=>by simp at h
 | _::_,[],i+1,_,h,_=>by simp at h
 | x::xs,y::ys,i+1,h1,h2,h=>by
  have h0:x=y:=by simpa using h 0 (by omega)
  subst h0
  rw[List.drop_succ_cons,List.drop_succ_cons,← cmpLx_drop (xs:=xs) (ys:=ys) (i:=i) (by simpa using h1) (by simpa using h2) fun j hj=>by simpa using h (j+1) (by omega)]
  rw[cmpLx_cc,cmpN_self,if_neg (by simp)]
theorem c66 (xs ys:List Int) (hx:xs.length<2 ^ 63):PC Tryz.prog 42 [ints xs,ints ys] (.i (cmpLx xs ys)):=by
 refine ⟨ZF (fok42 true) (QC rfl) ?_,rfl⟩
 simp only[ic42,evA,simprocAttr]
 refine ZW xs.length (fun i s=>(i≤ys.length∧∀ j,j<i→xs[j]?.getD 0=ys[j]?.getD 0)∧∃ v3 v4 v5 v6 v10 v11 v12 v13,s=⟨[ints xs,ints ys,.i 0,v3,v4,v5,v6,ints xs,.i xs.length,.i i,v10,v11,v12,v13],[]⟩) ?_ 0 (QF _) ⟨⟨QF _,by omega⟩,_,_,_,_,_,_,_,_,rfl⟩
 rintro i s hi ⟨⟨hiy,hall⟩,v3,v4,v5,v6,v10,v11,v12,v13,rfl⟩
 have hd:=cmpLx_drop hi hiy hall
 by_cases h:i<xs.length
 rotate_left
 ·rw[List.drop_eq_nil_of_le (by omega)] at hd
  by_cases hl:xs.length<ys.length
  ·rw[List.drop_eq_getElem_cons (show i<ys.length by omega),cmpLx_nc] at hd
   simp only[ic42l0,QJ,h,hl,hd,evA,simprocAttr]
   exact frz
  ·rw[List.drop_eq_nil_of_le (show ys.length≤i by omega)] at hd
   replace hd:cmpLx xs ys=0:=hd
   simp only[ic42l0,QJ,h,hl,hd,evA,simprocAttr]
   exact frz
 rw[List.drop_eq_getElem_cons h] at hd
 by_cases hy:i<ys.length
 rotate_left
 ·rw[List.drop_eq_nil_of_le (show ys.length≤i by omega),cmpLx_cn] at hd
  have hge:decide ((i:Int)≥(ys.length:Int))=true:=decide_eq_true (by omega)
  simp only[ic42l0,QJ,h,hge,hd,evA,simprocAttr]
  exact frz
 have hge:decide ((i:Int)≥(ys.length:Int))=false:=decide_eq_false (by omega)
 rw[List.drop_eq_getElem_cons hy,cmpLx_cc] at hd
 have hgx:xs[i]?.getD 0=xs[i]:=by rw[QI h];rfl
 have hgy:ys[i]?.getD 0=ys[i]:=by rw[QI hy];rfl
 rw[← hgx,← hgy] at hd
 have hws:IntKind.i64.wrap ((i:Int)+1)=((i+1:Nat):Int):=Q6 (by omega)
 simp only[ic42l0,QJ,h,hge,hy,evA,simprocAttr]
 refine (c65_l (xs[i]?.getD 0) (ys[i]?.getD 0)).call frz ?_
 cases hz0:(cmpN_l (xs[i]?.getD 0) (ys[i]?.getD 0) != 0) with
 | true =>
  rw[if_pos (by simpa using hz0)] at hd
  simp only[hz0,hd,evA,simprocAttr]
  exact frz
 | false =>
  simp only[hz0,hws,evA,simprocAttr]
  refine ZL (by first | trivial | omega) ⟨⟨by omega,fun j hj=>?_⟩,_,_,_,_,_,_,_,_,rfl⟩
  rcases QQ.1 hj with hj | rfl
  ·exact hall j hj
  ·exact cmpN_eq (by simpa using hz0)
theorem c63_l (xs ys:List Int) (hx:xs.length<2 ^ 63):PC Tryz.prog 39 [ints xs,ints ys] (.i (cmpS xs ys)):=by
 refine ⟨ZF (fok39 true) (QC rfl) ?_,rfl⟩
 have ho:orF [cmpN_l xs.length ys.length,cmpLx xs ys]=cmpS xs ys:=by
  unfold cmpS
  simp only[orF]
  by_cases h1:cmpN_l xs.length ys.length≠0
  ·rw[if_pos h1,if_pos h1]
  ·rw[if_neg h1,if_neg h1]
   by_cases h2:cmpLx xs ys≠0
   ·rw[if_pos h2]
   ·rw[if_neg h2];omega
 simp only[ic39,evA,simprocAttr]
 refine (c65_l xs.length ys.length).call frz ?_
 simp only[evA,simprocAttr]
 refine (c66 xs ys hx).call frz ?_
 simp only[evA,simprocAttr]
 refine (c64_l [cmpN_l xs.length ys.length,cmpLx xs ys] (by simp)).call (.cons (U4 (zs:=[cmpN_l xs.length ys.length,cmpLx xs ys]) (fun _=>trivial) rfl rfl) .nil) ?_
 rw[ho]
 simp only[evA,simprocAttr]
 exact frz
end Go.Proofs.YtpmokaefmcffaaaGreat.AM
namespace Go.Proofs.YtpmokaefmcffaaaGreat.AM
variable [Dr]
open Go Go.Sort Go.Shelf
abbrev intsC (zs:List Int):CV:=.rsl (zs.map (.int .i64)) zs.length
theorem FnOk.entero {P:Program} {f:FuncId} {fe:FE} (hf:FnOk P f fe):PI P f:=by
 obtain ⟨fn,c,h1,h2,h3,_⟩:=hf.ok
 exact RE h1 h3 h2
theorem c63n {n:Nat} (hn:n<2 ^ 60) (i j:Nat):AC Tryz.prog 39 [.cv (intsC (setL n i)),.cv (intsC (setL n j))] [] fun r _=>r=.i (cmpS (setL n i) (setL n j)) :=
 (c63_l (setL n i) (setL n j) (by have:=setL_len n i;omega)).ac.mono fun r τ h=>by
  cases h with
  | c h=>cases h;rfl
theorem c62 {n N:Nat} (hN:0<N) (hN2:N<2 ^ 60) (hn:n<2 ^ 60) {σ:List AObj} {l:Nat} (hr:rowOf σ l=some ((List.range N).map fun s=>AV.cv (intsC (setL n s)))) :
  AC Tryz.prog 38 [.sl l 0 N 1,.fn (.func 39) []] σ fun r τ=>r=.tup []∧∃ p:List Nat,p.Perm (List.range N)∧p.Pairwise (fun i j=>¬ cmpS (setL n j) (setL n i)<0)∧τ=σ.set l (.cells (p.map fun s=>AV.cv (intsC (setL n s)))):=by
 have h:=AC_sort1 (P:=Tryz.prog) (ρ:=sort1L_ren) sort1L (fok38 true).entero (g:=39) (cap:=[]) (n:=N) hN (by omega) (A:=fun s=>intsC (setL n s)) (cf:=fun i j=>cmpS (setL n i) (setL n j)) (swoS (setL n)) rfl (fun i j _ _=>@c63n drOn n hn i j) (σ:=σ) (l:=l) (rest:=[]) (by rw[ZU];exact hr)
 simp only[ZU] at h
 exact h
end Go.Proofs.YtpmokaefmcffaaaGreat.AM
namespace Go.Proofs.YtpmokaefmcffaaaGreat.AM
variable [Dr]
open Go
theorem c81o (zs:List Int) (fv:AV) (p:Nat→Bool) (hz:zs.length<2 ^ 63) (σ:List AObj) (hf:∀ i,i<zs.length→X0 Tryz.prog fv [.i (zs[i]?.getD 0)] σ fun r τ=>r=.b (p i)∧τ=σ) :
  AC Tryz.prog 104 [ints zs,fv] σ fun r τ=>r=.i (idxN p zs.length)∧τ=σ:=by
 refine ZF (fok104 true) (QC rfl) ?_
 simp only[ic104,evA,simprocAttr]
 refine ZW zs.length (fun i s=>(∀ j,j<i→p j=false)∧∃ v3 v6 v7,s=⟨[ints zs,fv,.i 0,v3,.i zs.length,.i i,v6,v7],σ⟩) ?_ 0 (QF _) ⟨by omega,_,_,_,rfl⟩
 rintro i s hi ⟨hall,v3,v6,v7,rfl⟩
 by_cases h:i<zs.length
 ·simp only[ic104l0,QJ,h,evA,simprocAttr]
  refine (hf i h).run ?_
  cases hp:p i
  ·simp only[evA,simprocAttr]
   refine ZL (by first | trivial | omega) ⟨fun j hj=>?_,_,_,_,by rw[ZC (by omega)];rfl⟩
   rcases QQ.1 hj with hj | rfl
   ·exact hall j hj
   ·exact hp
  ·simp only[evA,simprocAttr]
   exact (EK h hall hp).symm
 ·simp only[ic104l0,QJ,h,evA,simprocAttr]
  have:i=zs.length:=by omega
  subst this
  exact (EL hall).symm
theorem c72o (zs:List Int) (fv:AV) (p:Nat→Bool) (hz:zs.length<2 ^ 63) (σ:List AObj) (hf:∀ i,i<zs.length→X0 Tryz.prog fv [.i (zs[i]?.getD 0)] σ fun r τ=>r=.b (p i)∧τ=σ) :
  AC Tryz.prog 83 [ints zs,fv] σ fun r τ=>r=.b (anyN p zs.length)∧τ=σ:=by
 refine ZF (fok83 true) (QC rfl) ?_
 simp only[ic83,evA,simprocAttr]
 refine (c81o zs fv p hz _ hf).run ?_
 simp only[evA,simprocAttr,OA]
def canT (ks:List Int) (t i:Nat):Bool:=!(ks[t]?.getD 0).toNat.testBit i
theorem c80 {ts ks:List Int} (hok:DrawOk ts ks) {t i:Nat} (ht:t<ks.length) (hi:i<ts.length) {x:AV} {σ:List AObj} {b d e:Nat} (hb:rowOf σ b=some [.ptr d 0]) (hd:rowOf σ d=some [ints ts,ints ks,x]) (he:rowOf σ e=some [.i i]) :
  AC Tryz.prog 90 [.i t,.ptr b 0,.ptr e 0] σ fun r τ=>r=.b (canT ks t i)∧τ=σ:=by
 refine ZF (fok90 true) (QC rfl) ?_
 have hkr:=hok.kr t ht
 obtain ⟨S,hS⟩:∃ S:Nat,ks[t]?.getD 0=(S:Int):=⟨(ks[t]?.getD 0).toNat,(VI hkr.1).symm⟩
 have hi6:i<6:=by have:=hok.tl;omega
 have hS62:S<2 ^ 62:=by
  have h2:=hkr.2
  rw[hS] at h2
  unfold capF at h2
  have h3:=hok.tl
  have hp:(2:Nat) ^ ts.length≤2 ^ 6:=Nat.pow_le_pow_right (by omega) (by omega)
  generalize 2 ^ ts.length=q at *
  omega
 have hbit:=bit_and_l S i hS62 (by omega)
 have hi0:¬ ((i:Int)<0):=by omega
 have hv:(!S.testBit i)=canT ks t i:=by unfold canT;rw[hS];rfl
 rw[hv] at hbit
 simp only[ic90,hb,hd,he,evA,simprocAttr]
 refine DW_s [] [] hmix_l (by kernel_rfl) rfl ?_
 simp only[hb,hd,he,ht,hS,VK,hi0,hbit,evA,simprocAttr]
def leftS (ts ks:List Int) (zs:List Int):Nat→Int
 | 0=>zs.length
 | i+1=>if anyN (fun j=>canT ks (zs[j]?.getD 0).toNat i) zs.length=true then leftS ts ks zs i-ts[i]?.getD 0 else leftS ts ks zs i
def shortB (ts ks zs:List Int):Bool:=decide (leftS ts ks zs ts.length>0)
theorem left_ran {ts ks zs:List Int} (hok:DrawOk ts ks) (hz:zs.length≤8):∀ i,i≤ts.length→-(4*(i:Int))≤leftS ts ks zs i∧leftS ts ks zs i≤8
 | 0,_=>by simp only[leftS];omega
 | i+1,h=>by
  have ih:=left_ran hok hz i (by omega)
  have:=hok.tr i (by omega)
  unfold leftS
  split <;> omega
theorem c68 {ts ks:List Int} (hok:DrawOk ts ks) (zs:List Int) (hz:zs.length≤8) (hzs:∀ j,j<zs.length→∃ t:Nat,zs[j]?.getD 0=(t:Int)∧t<ks.length) {x:AV} {σ:List AObj} {d:Nat} (hd:rowOf σ d=some [ints ts,ints ks,x]) :
  AC Tryz.prog 44 [.ptr d 0,ints zs] σ fun r τ=>r=.b (shortB ts ks zs)∧τ=σ:=by
 refine AC.cut0 (ZF (fok44 true) (QC rfl) ?_) rfl
 have htl:=hok.tl
 have hdl:d<σ.length:=(QH.1 (WO hd)).1
 have e1:∀ J:List AObj,rowOf (σ++J) d=some [ints ts,ints ks,x]:=fun J=>ZH hd J
 have e2:∀ J:List AObj,rowOf (σ++AObj.cells [.ptr d 0]::J) σ.length=some [.ptr d 0]:=fun J=>by rw[WW];rfl
 simp only[ic44,e1,e2,evA,simprocAttr]
 refine ZW ts.length (fun i s=>∃ v5 v6 v10 v11 J,s=⟨[.ptr d 0,ints zs,.ptr σ.length 0,.b false,.i (leftS ts ks zs i),v5,v6,ints ts,.i ts.length,.i i,v10,v11],σ++AObj.cells [.ptr d 0]::J⟩) ?_ 0 (QF _) ⟨_,_,_,_,[],rfl⟩
 rintro i s hi ⟨v5,v6,v10,v11,J,rfl⟩
 by_cases h:i<ts.length
 rotate_left
 ·have:i=ts.length:=by omega
  subst this
  simp only[ic44l0,QJ,h,evA,simprocAttr]
  exact ⟨rfl,_,rfl⟩
 have hws:IntKind.i64.wrap ((i:Int)+1)=((i+1:Nat):Int):=Q6 (by omega)
 have e3:∀ (J:List AObj) (x:AObj),rowOf (σ++AObj.cells [.ptr d 0]::(J++[x])) (σ++AObj.cells [.ptr d 0]::J).length=rowOf [x] 0:=fun J x=>by
  rw[show σ++AObj.cells [.ptr d 0]::(J++[x])=(σ++AObj.cells [.ptr d 0]::J)++[x] by simp,WW]
 have e4:∀ (J:List AObj) (x y:AObj),(σ++AObj.cells [.ptr d 0]::(J++[x])).set (σ++AObj.cells [.ptr d 0]::J).length y=σ++AObj.cells [.ptr d 0]::(J++[y]):=fun J x y=>by
  rw[show σ++AObj.cells [.ptr d 0]::(J++[x])=(σ++AObj.cells [.ptr d 0]::J)++[x] by simp,VW]
  simp
 simp only[ic44l0,QJ,h,QW,List.cons_append,e3,e4,evA,simprocAttr]
 refine AC.run (c72o zs _ (fun j=>canT ks (zs[j]?.getD 0).toNat i) (by omega) _ fun j hj=>?_) ?_
 ·obtain ⟨t,h1,h2⟩:=hzs j hj
  rw[h1]
  exact c80 hok h2 h (e2 _) (e1 _) (e3 J _)
 have hr:=left_ran (ks:=ks) hok hz (i+1) (by omega)
 unfold leftS at hr
 cases hc:anyN (fun j=>canT ks (zs[j]?.getD 0).toNat i) zs.length with
 | false =>
  simp only[hws,evA,simprocAttr]
  have hl:leftS ts ks zs (i+1)=leftS ts ks zs i:=by rw[leftS,if_neg (by rw[hc];decide)]
  exact ZL (by first | trivial | omega) ⟨_,_,_,_,J++[.cells [.i i]],by rw[hl]⟩
 | true =>
  rw[if_pos hc] at hr
  have hsub:IntKind.i64.wrap (leftS ts ks zs i-ts[i]?.getD 0)=leftS ts ks zs i-ts[i]?.getD 0:=ZC (by omega)
  simp only[hws,hsub,evA,simprocAttr]
  have hl:leftS ts ks zs (i+1)=leftS ts ks zs i-ts[i]?.getD 0:=by rw[leftS,if_pos hc]
  exact ZL (by first | trivial | omega) ⟨_,_,_,_,J++[.cells [.i i]],by rw[hl]⟩
abbrev lls (ls:List (List Int)):AV:=.cv (.rsl (ls.map intsC) ls.length)
theorem c79_l (ls:List (List Int)) (fv:AV) (p:Nat→Bool) (hz:ls.length<2 ^ 63) (σ:List AObj) (hf:∀ i,i<ls.length→X0 Tryz.prog fv [ints (ls[i]?.getD [])] σ fun r τ=>r=.b (p i)∧τ=σ) :
  AC Tryz.prog 89 [lls ls,fv] σ fun r τ=>r=.i (idxN p ls.length)∧τ=σ:=by
 refine ZF (fok89 true) (QC rfl) ?_
 simp only[ic89,evA,simprocAttr]
 refine ZW ls.length (fun i s=>(∀ j,j<i→p j=false)∧∃ v3 v6 v7,s=⟨[lls ls,fv,.i 0,v3,.i ls.length,.i i,v6,v7],σ⟩) ?_ 0 (QF _) ⟨by omega,_,_,_,rfl⟩
 rintro i s hi ⟨hall,v3,v6,v7,rfl⟩
 by_cases h:i<ls.length
 ·have hld:(ls.map intsC)[i]? = some (intsC (ls[i]?.getD [])):=by simp[h]
  simp only[ic89l0,QJ,h,XP h,hld,evA,simprocAttr]
  refine (hf i h).run ?_
  cases hp:p i
  ·simp only[evA,simprocAttr]
   refine ZL (by first | trivial | omega) ⟨fun j hj=>?_,_,_,_,by rw[ZC (by omega)];rfl⟩
   rcases QQ.1 hj with hj | rfl
   ·exact hall j hj
   ·exact hp
  ·simp only[evA,simprocAttr]
   exact (EK h hall hp).symm
 ·simp only[ic89l0,QJ,h,evA,simprocAttr]
  have:i=ls.length:=by omega
  subst this
  exact (EL hall).symm
theorem c67_l (ls:List (List Int)) (fv:AV) (p:Nat→Bool) (hz:ls.length<2 ^ 63) (σ:List AObj) (hf:∀ i,i<ls.length→X0 Tryz.prog fv [ints (ls[i]?.getD [])] σ fun r τ=>r=.b (p i)∧τ=σ) :
  AC Tryz.prog 43 [lls ls,fv] σ fun r τ=>((∃ i,i<ls.length∧p i=true∧(∀ j,j<i→p j=false)∧r=ints (ls[i]?.getD []))∨((∀ j,j<ls.length→p j=false)∧r=.cv .nils))∧τ=σ:=by
 refine ZF (fok43 true) (QC rfl) ?_
 simp only[ic43,evA,simprocAttr]
 refine (c79_l ls fv p hz _ hf).run ?_
 by_cases hx:∃ i,i<ls.length∧p i=true∧∀ j,j<i→p j=false
 ·obtain ⟨i,hi,hp,hall⟩:=hx
  have hix:=EK hi hall hp
  have hld:(ls.map intsC)[i]? = some (intsC (ls[i]?.getD [])):=by simp[hi]
  have hge:decide ((i:Int)≥0)=true:=decide_eq_true (by omega)
  simp only[hix,hge,XP hi,hld,evA,simprocAttr]
  exact .inl ⟨i,hi,hp,hall,rfl⟩
 ·have hall:∀ j,j<ls.length→p j=false:=by
   have key:∀ n,n≤ls.length→∀ j,j<n→p j=false:=by
    intro n
    induction n with
    | zero=>intro _ j hj;omega
    | succ n ih =>
     intro hn j hj
     rcases QQ.1 hj with hj | rfl
     ·exact ih (by omega) j hj
     ·cases hpj:p j with
      | false=>rfl
      | true=>exact absurd ⟨j,by omega,hpj,fun k hk=>ih (by omega) k hk⟩ hx
   exact key _ (QG _)
  have hix:=EL hall
  simp only[hix,evA,simprocAttr]
  exact .inr hall
def lackB_l (ts ks:List Int) (s:Nat):Bool:=shortB ts ks (setL ks.length s)
def shortQ (ts ks:List Int):List Int:=if waysF ks ks.length ts=0 then bestF ks.length (lackB_l ts ks) (2 ^ ks.length) else []
theorem left_nil (ts ks:List Int):∀ i,leftS ts ks [] i=0
 | 0=>rfl
 | i+1=>by
  unfold leftS
  have:anyN (fun j=>canT ks (([]:List Int)[j]?.getD 0).toNat i) ([]:List Int).length=false:=rfl
  rw[this,if_neg (by decide)];exact left_nil ts ks i
theorem lack_ne {ts ks:List Int}:∀ s,lackB_l ts ks s=true→setL ks.length s≠[]:=fun s h e=>by
 unfold lackB_l shortB at h
 rw[e,left_nil] at h
 exact absurd h (by decide)
theorem lack_0 (ts ks:List Int):lackB_l ts ks 0=false:=by
 unfold lackB_l shortB
 rw[setL_zero,left_nil];rfl
theorem setL_get {n s j:Nat} (h:j<(setL n s).length):∃ t:Nat,(setL n s)[j]?.getD 0=(t:Int)∧t<n:=by
 have hm:(setL n s)[j]∈setL n s:=Q2 h
 obtain ⟨t,h1,_,h2⟩:=setL_mem.1 hm
 exact ⟨t,by rw[QI h];exact h2,h1⟩
abbrev allR (n k:Nat):List AV:=(List.range k).map fun s=>AV.cv (intsC (setL n s))
theorem allR_succ (n k:Nat):allR n (k+1)=allR n k++[.cv (intsC (setL n k))]:=by simp[allR,WM]
theorem allR_len (n k:Nat):(allR n k).length=k:=by simp
abbrev shD (ts ks:List Int):AObj:=.cells [ints ts,ints ks,.undef]
theorem cvs_moves {g:Nat→Nat} {k:Nat} {σ:List AObj} {a b:AV} (h:Move1 g k σ a b):∀ cs:List CV,PH g k σ (cs.map .cv++[a]) (cs.map .cv++[b])
 | []=>.cons h .nil
 | c::cs=>.cons (.inl ⟨rfl,rfl⟩) (cvs_moves h cs)
theorem sh_weak {vars:List Nat} {N n s k:Nat} {ts ks:List Int} {v8:AV} {heap:List AObj} {vals vals2:List AV} (h0:heap[0]? = some (shD ts ks)) (hk:heap[k]? = some (.cells (allR n s++[v8]))) (hk0:0<k)
  (hv8:(v8=.cv .nils∧setL n s=[])∨∃ l,l≠0∧l≠k∧v8=.sl l 0 (setL n s).length 1∧rowOf heap l=some ((setL n s).map AV.i))
  (hv:PH (fun l=>if l=0 then 0 else k) 2 ((heap.set 0 .dead).set k .dead) vals vals2) :
  Weak ⟨vars,N,none,0⟩ ⟨vals,heap⟩ ⟨vals2,[shD ts ks,.cells (allR n (s+1))]⟩:=by
 refine Weak.move (σf:=(heap.set 0 .dead).set k .dead) (g:=fun l=>if l=0 then 0 else k) rfl ?_ (by simp) ?_ hv ?_
 ·intro a b hab hb
  have:b<2:=hb
  have ha:a=0:=by omega
  have hb:b≠0:=by omega
  simp only[ha,hb,if_true,if_false];exact hk0
 ·intro l o ho
  rw[ZO] at ho
  by_cases e1:k=l
  ·rw[if_pos e1] at ho
   split at ho
   ·left;simpa using ho.symm
   ·cases ho
  ·rw[if_neg e1,ZO] at ho
   by_cases e2:0=l
   ·rw[if_pos e2] at ho
    split at ho
    ·left;simpa using ho.symm
    ·cases ho
   ·rw[if_neg e2] at ho
    right
    refine ⟨ho,fun l2 hl2=>?_⟩
    split <;> omega
 ·intro l o2 ho
  match l,ho with
  | 0,ho=>cases ho;exact ⟨_,h0,trivial,.inl ⟨rfl,rfl⟩⟩
  | 1,ho =>
   cases ho
   refine ⟨_,hk,trivial,.inr ⟨_,_,rfl,rfl,?_⟩⟩
   rw[allR_succ]
   have e:allR n s=((List.range s).map fun s=>intsC (setL n s)).map AV.cv:=by simp[allR]
   rw[e]
   refine cvs_moves (.inr ?_) _
   rcases hv8 with ⟨rfl,hz⟩ | ⟨l,h1,h2,rfl,hr⟩
   ·rw[hz];exact .c .nl
   ·refine TN (fun _=>trivial) ?_
    rw[QX (Ne.symm h2),QX (Ne.symm h1)]
    exact hr
theorem bit_and1 (x i:Nat) (hx:x<2 ^ 62) (hi:i<60):(IntKind.i64.wrap ((BitVec.ofInt IntKind.i64.bits (((x:Nat):Int).fdiv (2 ^ min i IntKind.i64.bits)) &&& BitVec.ofInt IntKind.i64.bits 1).toNat) == 1)=x.testBit i:=by
 have hb:IntKind.i64.bits=64:=rfl
 have h1:min i 64=i:=by omega
 rw[hb,h1]
 have h2:((x:Nat):Int).fdiv (2 ^ i)=((x / 2 ^ i:Nat):Int):=by
  rw[Int.fdiv_eq_ediv_of_nonneg _ (by exact_mod_cast QF _)]
  norm_cast
 rw[h2]
 have h3:x / 2 ^ i<2 ^ 62:=WJ (Nat.div_le_self _ _) hx
 rw[Nat.testBit_eq_decide_div_mod_eq]
 generalize x / 2 ^ i=y at h3 ⊢
 have h4:(BitVec.ofInt 64 (y:Int) &&& BitVec.ofInt 64 1).toNat=y % 2:=by
  rw[BitVec.toNat_and]
  have e1:(BitVec.ofInt 64 (y:Int)).toNat=y:=by
   rw[BitVec.toNat_ofInt];omega
  have e2:(BitVec.ofInt 64 1).toNat=1:=by decide
  rw[e1,e2,Nat.and_one_is_mod]
 rw[h4,ZC (by omega)]
 by_cases h:y % 2=1
 ·simp[h]
 ·have:y % 2=0:=by omega
  simp[this]
theorem append_row {by_ l n:Nat} {σ:List AObj} {cs:List AV} {x:AV} (hr:rowOf σ l=some cs) (hc:cs.length=n) (hx:x.isSc=true) (h1:(n+1)*by_≤2 ^ 44) (h2:n+1≤2 ^ 44) :
  ZX 1 by_ [.sl l 0 n 1,.sl σ.length 0 1 1] (σ++[.cells [x]])=some (.sl (σ.length+1) 0 (n+1) 1,(σ++[AObj.cells [x]]).set l AObj.dead++[AObj.cells (cs++[x])]):=by
 have hr':=FU hr (AObj.cells [x])
 have hs:Z9 (σ++[AObj.cells [x]]) 1 (.sl σ.length 0 1 1)=some [x]:=by simp[Z9,rowOf]
 have hl:lenF (.sl σ.length 0 1 1)=some 1:=rfl
 simp only[ZX,hr',hs,hl,Option.bind_some]
 rw[if_pos ⟨trivial,by omega,rfl,h1,h2,by simp[hx]⟩,Q5 (by omega)]
 simp
theorem append_row0 {by_:Nat} {σ:List AObj} {x:AV} (hx:x.isSc=true) (h1:1*by_≤2 ^ 44) :
  ZX 1 by_ [.cv .nils,.sl σ.length 0 1 1] (σ++[.cells [x]])=some (.sl (σ.length+1) 0 1 1,(σ++[AObj.cells [x]])++[AObj.cells [x]]):=by
 have hs:Z9 (σ++[AObj.cells [x]]) 1 (.sl σ.length 0 1 1)=some [x]:=by simp[Z9,rowOf]
 have hl:lenF (.sl σ.length 0 1 1)=some 1:=rfl
 simp only[ZX,hs,hl,Option.bind_some]
 rw[if_neg (by omega),if_pos ⟨rfl,h1,by omega,by simp[hx]⟩]
 simp
theorem c32_err (ts ks:List Int) (ht:ts.length<2 ^ 63) (hk:ks.length<2 ^ 63) {x y e:Int} (hv:checkV ts ks=tup3 x y e) (he:e≠0):PA Tryz.prog 10 [drw ts ks] (.tup [ints [],.i e]):=by
 refine ⟨ZF (fok10 true) (QC rfl) ?_,rfl,rfl⟩
 have hb:(e != 0)=true:=by simpa using he
 simp only[ic10,WI,cellsOf,evA,simprocAttr]
 refine AC.run (c53f ts ks ht hk hv _) ?_
 simp only[hb,evA,simprocAttr]
 exact .tup (.cons (.c .nl) (.cons (.c (.c _ trivial)) .nil))
def shI (ts ks:List Int) (N s:Nat) (st:St):Prop:=∃ v6 heap,((s=0∧v6=.cv .nils∧heap=[shD ts ks])∨(0<s∧v6=.sl 1 0 s 1∧heap=[shD ts ks,.cells (allR ks.length s)])) ∧
 st=⟨[.undef,.undef,.cv .nils,.i 0,.ptr 0 0,.undef,v6,.undef,.undef,.undef,.undef,.undef,.i N,.i s,.undef,.undef,.undef,.undef,.undef],heap⟩
theorem c32_ok (ts ks:List Int) (ht:ts.length<2 ^ 63) (hk:ks.length<2 ^ 63) (hv:checkV ts ks=tup3 0 0 0) (hok:DrawOk ts ks):PA Tryz.prog 10 [drw ts ks] (.tup [ints (shortQ ts ks),.i 0]):=by
 refine ⟨AC_SW (fok10 true) (QC rfl) ?_,rfl,rfl⟩
 simp only[ic10]
 refine SW_seq ?_
 simp only[WI,cellsOf,kSW_n,evA,simprocAttr]
 refine SW_seq ?_
 simp only[kSW_n,evA,simprocAttr]
 refine AC.run (c53f ts ks ht hk hv _) ?_
 simp only[kSW_n,evA,simprocAttr]
 refine SW_seq ?_
 simp only[kSW_n,evA,simprocAttr]
 refine SW_seq ?_
 simp only[kSW_n,evA,simprocAttr]
 refine AC.run (c55 3 ts [ints ks,.map 2] _ rfl hok.tl.2) ?_
 have h:=c54f ts ks hok ks.length ts [] (QG _) ⟨rfl,hok.tr⟩ (right_nil _ _) (σ:=[AObj.cells [ints ts,ints ks],AObj.cells [ints ts,ints ks],AObj.map [],AObj.cells [ints ts,ints ks,.map 2]]) 3 2 (by decide) rfl rfl
 rw[Nat.sub_self] at h
 have hw0:=(waysF_bounds ks ks.length ts hok.tl.2).1
 unfold shortQ
 generalize (waysQ ks ks.length ts []).2=K' at h
 generalize waysF ks ks.length ts=nw at h hw0 ⊢
 simp only[evA,simprocAttr]
 refine AC.run h ?_
 by_cases hz:nw=0
 rotate_left
 ·have hgt:decide (nw>0)=true:=decide_eq_true (by omega)
  rw[if_neg hz]
  simp only[hgt,kSW_n,kSW_r,evA,simprocAttr]
  exact .tup (.cons (.c .nl) (.cons (.c (.c _ trivial)) .nil))
 subst hz
 rw[if_pos rfl]
 simp only[kSW_n,kSW_r,evA,simprocAttr]
 refine SW_seq ?_
 simp only[kSW_n,evA,simprocAttr]
 refine SW.weak (Weak.move (vals2:=[.undef,.undef,.cv .nils,.i 0,.ptr 0 0,.undef,.cv .nils,.undef,.undef,.undef,.undef,.undef,.undef,.undef,.undef,.undef,.undef,.undef,.undef]) (σ2:=[shD ts ks]) (σf:=[AObj.dead,.dead,.dead,.dead]) (g:=fun l=>l+3) rfl (fun a b h _=>by omega) rfl ?_ ?_ ?_) ?_
 ·intro l o ho
  left
  match l,ho with
  | 0,ho=>cases ho;rfl
  | 1,ho=>cases ho;rfl
  | 2,ho=>cases ho;rfl
  | 3,ho=>cases ho;rfl
  | l+4,ho=>cases ho
 ·have u:∀ a:AV,Move1 (fun l=>l+3) 1 [AObj.dead,.dead,.dead,.dead] a .undef:=fun a=>.inr (.un _)
  exact .cons (u _) (.cons (u _) (.cons (.inl ⟨rfl,rfl⟩) (.cons (.inl ⟨rfl,rfl⟩) (.cons (.inl ⟨rfl,rfl⟩) (.cons (u _) (.cons (.inl ⟨rfl,rfl⟩) (.cons (u _) (.cons (u _) (.cons (u _) (.cons (u _) (.cons (u _) (.cons (u _) (.cons (u _) (.cons (u _) (.cons (u _) (.cons (u _) (.cons (u _) (.cons (u _) .nil))))))))))))))))))
 ·intro l o ho
  match l,ho with
  | 0,ho =>
   cases ho
   exact ⟨_,rfl,trivial,.inr ⟨_,_,rfl,rfl,.cons (.inl ⟨rfl,rfl⟩) (.cons (.inl ⟨rfl,rfl⟩) (.cons (.inr (.un _)) .nil))⟩⟩
  | l+1,ho=>cases ho
 have hkl:=hok.kl
 obtain ⟨N,hN⟩:∃ N:Nat,N=2 ^ ks.length:=⟨_,rfl⟩
 have hN8:1≤N∧N≤256:=by
  have h1:(2:Nat) ^ ks.length≤2 ^ 8:=Nat.pow_le_pow_right (by omega) hkl
  have h2:0<(2:Nat) ^ ks.length:=Nat.pow_pos (by omega)
  rw[hN]
  constructor
  ·exact h2
  ·exact h1
 have hsh:IntKind.i64.wrap (1*2 ^ min ks.length IntKind.i64.bits)=(N:Int):=by
  have h64:IntKind.i64.bits=64:=rfl
  have h2:(2:Int) ^ ks.length=((2 ^ ks.length:Nat):Int):=by simp
  rw[h64,VD (by omega),Int.one_mul,h2,← hN]
  exact ZC (by omega)
 rw[← hN]
 have hn0:¬ ((ks.length:Int)<0):=by omega
 refine SW_seq ?_
 simp only[kSW_n,VK,hn0,hsh,evA,simprocAttr]
 refine ZW N (shI ts ks N) ?_ 0 (QF _) ⟨_,_,.inl ⟨rfl,rfl,rfl⟩,rfl⟩
 rintro s st hs ⟨v6,heap,hc,rfl⟩
 by_cases h:s<N
 rotate_left
 ·have:s=N:=by omega
  subst this
  obtain ⟨_,rfl,rfl⟩:0<s∧v6=.sl 1 0 s 1∧heap=[shD ts ks,.cells (allR ks.length s)]:=by
   rcases hc with ⟨h0,_,_⟩ | h1
   ·omega
   ·exact h1
  simp only[ic10l1,QJ,h,kSW_n,evA,simprocAttr]
  refine SW_seq ?_
  simp only[kSW_n,evA,simprocAttr]
  refine (c62 (n:=ks.length) (N:=s) (by omega) (by omega) (by omega) (σ:=[shD ts ks,.cells (allR ks.length s)]) (l:=1) rfl).mono ?_
  rintro r τ ⟨rfl,p,hp,hps,rfl⟩
  simp only[List.set_cons_zero,List.set_cons_succ,kSW_n,evA,simprocAttr]
  have hlen:p.length=s:=by rw[hp.length_eq];simp
  have hfin:=first_best (lack_ne (ts:=ts) (ks:=ks)) (lack_0 ts ks) hp hps
  rw[← hfin]
  refine SW.weak (Weak.move (vals2:=[.undef,.undef,.cv .nils,.i 0,.ptr 0 0,.undef,lls (p.map (setL ks.length)),.undef,.undef,.undef,.undef,.undef,.undef,.undef,.undef,.undef,.undef,.undef,.undef]) (σ2:=[shD ts ks]) (σf:=[AObj.dead,.cells (p.map fun s=>AV.cv (intsC (setL ks.length s)))]) (g:=fun l=>l) rfl (fun a b h _=>h) rfl ?_ ?_ ?_) ?_
  ·intro l o ho
   match l,ho with
   | 0,ho=>cases ho;left;rfl
   | 1,ho=>cases ho;right;exact ⟨rfl,fun l2 h2=>by simp at h2;omega⟩
   | l+2,ho=>cases ho
  ·have u:∀ a:AV,Move1 (fun l=>l) 1 [AObj.dead,.cells (p.map fun s=>AV.cv (intsC (setL ks.length s)))] a .undef:=fun a=>.inr (.un _)
   refine .cons (u _) (.cons (u _) (.cons (.inl ⟨rfl,rfl⟩) (.cons (.inl ⟨rfl,rfl⟩) (.cons (.inl ⟨rfl,rfl⟩) (.cons (u _) (.cons (.inr ?_) (.cons (u _) (.cons (u _) (.cons (u _) (.cons (u _) (.cons (u _) (.cons (u _) (.cons (u _) (.cons (u _) (.cons (u _) (.cons (u _) (.cons (u _) (.cons (u _) .nil))))))))))))))))))
   rw[← hlen]
   have hl2:(p.map (setL ks.length)).length=p.length:=by simp
   show FrzV anyC _ _ (.cv (.rsl ((p.map (setL ks.length)).map intsC) (p.map (setL ks.length)).length))
   rw[hl2]
   refine .c (.sl 1 0 p.length 1 _ _ rfl (by simp) ?_)
   rw[YO,Q5 (by simp),XW]
   have key:∀ q:List Nat,HL anyC [AObj.dead,.cells (p.map fun s=>AV.cv (intsC (setL ks.length s)))] (q.map fun s=>AV.cv (intsC (setL ks.length s))) (q.map (intsC ∘ setL ks.length)):=by
    intro q
    induction q with
    | nil=>exact .nil
    | cons a q ih=>exact .cons (.c _ trivial) ih
   exact key p
  ·intro l o ho
   match l,ho with
   | 0,ho =>
    cases ho
    exact ⟨_,rfl,trivial,.inl ⟨rfl,rfl⟩⟩
   | l+1,ho=>cases ho
  refine SW_seq ?_
  simp only[kSW_n,evA,simprocAttr]
  refine (c67_l (p.map (setL ks.length)) _ (fun i=>lackB_l ts ks (p[i]?.getD 0)) (by simp;omega) [shD ts ks] fun i hi=>?_).mono ?_
  ·have hi':i<p.length:=by simpa using hi
   have e:(p.map (setL ks.length))[i]?.getD []=setL ks.length (p[i]?.getD 0):=by simp[hi']
   rw[e]
   exact c68 hok (setL ks.length (p[i]?.getD 0)) (by have:=setL_len ks.length (p[i]?.getD 0);omega) (fun j hj=>setL_get hj) rfl
  rintro r τ ⟨hr,rfl⟩
  simp only[kSW_n,evA,simprocAttr]
  refine SW_of ?_
  simp only[evA,simprocAttr]
  rcases hr with ⟨i,hi,hpi,hall,rfl⟩ | ⟨hall,rfl⟩
  ·have hi':i<p.length:=by simpa using hi
   have e:(p.map (setL ks.length))[i]?.getD []=setL ks.length (p[i]?.getD 0):=by simp[hi']
   have hf:p.find? (lackB_l ts ks)=some (p[i]?.getD 0):=by
    rw[List.find?_eq_some_iff_getElem]
    refine ⟨hpi,i,hi',by simp[hi'],fun j hj=>?_⟩
    have:=hall j hj
    rw[QI (by omega)] at this
    simpa using this
   rw[e,hf]
   exact .tup (.cons (.c (.c _ trivial)) (.cons (.c (.c _ trivial)) .nil))
  ·have hf:p.find? (lackB_l ts ks)=none:=by
    rw[List.find?_eq_none]
    intro x hx
    obtain ⟨j,hj,rfl⟩:=List.getElem_of_mem hx
    have:=hall j (by simpa using hj)
    rw[QI hj] at this
    simpa using this
   rw[hf]
   exact .tup (.cons (.c .nl) (.cons (.c (.c _ trivial)) .nil))
 have hr0:rowOf heap 0=some [ints ts,ints ks,.undef]:=by
  rcases hc with ⟨_,_,rfl⟩ | ⟨_,_,rfl⟩ <;> rfl
 simp only[ic10l1,QJ,h,hr0,evA,simprocAttr]
 refine ZW ks.length (fun t st=>∃ v8 σ' v9 v17 v18,G9 heap.length σ' v8 (setL t s)∧(∀ l,l<heap.length→rowOf σ' l=rowOf heap l) ∧
  st=⟨[.undef,.undef,.cv .nils,.i 0,.ptr 0 0,.undef,v6,.i s,v8,v9,.undef,.undef,.i N,.i s,.b true,.i ks.length,.i t,v17,v18],σ'⟩) ?_ 0 (QF _) ⟨_,heap,_,_,_,by rw[show setL 0 s=[] from rfl];exact G9.nil (QG _),fun l _=>rfl,rfl⟩
 rintro t st ht2 ⟨v8,σ',v9,v17,v18,hA,hrows,rfl⟩
 by_cases h2:t<ks.length
 ·have hbit:=bit_and1 s t (by omega) (by omega)
  have ht0:¬ ((t:Int)<0):=by omega
  have hws:IntKind.i64.wrap ((t:Int)+1)=((t+1:Nat):Int):=Q6 (by omega)
  simp only[ic10l0,QJ,h2,VK,ht0,hbit,evA,simprocAttr]
  cases hb:s.testBit t with
  | false =>
   simp only[hws,evA,simprocAttr]
   refine ZL (by first | trivial | omega) ⟨_,_,_,_,_,?_,hrows,rfl⟩
   rw[setL_succ,hb,if_neg (by decide),ZU];exact hA
  | true =>
   obtain ⟨v',σ2,hap,hacc,hrow2⟩:=accFrom_append (t:Int) hA (by have:=setL_len t s;omega)
   simp only[hap,hws,evA,simprocAttr]
   refine ZL (by first | trivial | omega) ⟨_,_,_,_,_,?_,fun l hl=>(hrow2 l hl).trans (hrows l hl),rfl⟩
   rw[setL_succ,hb,if_pos rfl];exact hacc
 ·have:t=ks.length:=by omega
  subst this
  have hcv:cellsOf v8=[v8]:=by rcases hA.2 with ⟨rfl,_⟩ | ⟨l,_,rfl,_⟩ <;> rfl
  have hud:v8.isUndef=false:=by rcases hA.2 with ⟨rfl,_⟩ | ⟨l,_,rfl,_⟩ <;> rfl
  have hsc:v8.isSc=true:=by rcases hA.2 with ⟨rfl,_⟩ | ⟨l,_,rfl,_⟩ <;> rfl
  have hsr:setRange [AV.cv CV.nils] 0 [v8]=[v8]:=rfl
  have hlen1:([v8]:List AV).length=1:=rfl
  have hws:IntKind.i64.wrap ((s:Int)+1)=((s+1:Nat):Int):=Q6 (by omega)
  have hmv:∀ (D:List AObj) (k:Nat) (a5 a7 a8 a9 a10 a11 a14 a15 a16 a17 a18:AV),0<k→PH (fun l=>if l=0 then 0 else k) 2 D [.undef,.undef,.cv .nils,.i 0,.ptr 0 0,a5,.sl k 0 (s+1) 1,a7,a8,a9,a10,a11,.i N,.i ((s+1:Nat):Int),a14,a15,a16,a17,a18] [.undef,.undef,.cv .nils,.i 0,.ptr 0 0,.undef,.sl 1 0 (s+1) 1,.undef,.undef,.undef,.undef,.undef,.i N,.i ((s+1:Nat):Int),.undef,.undef,.undef,.undef,.undef]:=by
   intro D k a5 a7 a8 a9 a10 a11 a14 a15 a16 a17 a18 hk
   have u:∀ a:AV,Move1 (fun l=>if l=0 then 0 else k) 2 D a .undef:=fun a=>.inr (.un _)
   exact .cons (u _) (.cons (u _) (.cons (.inl ⟨rfl,rfl⟩) (.cons (.inl ⟨rfl,rfl⟩) (.cons (.inl ⟨rfl,rfl⟩) (.cons (u _) (.cons (.inl ⟨rfl,rfl⟩) (.cons (u _) (.cons (u _) (.cons (u _) (.cons (u _) (.cons (u _) (.cons (.inl ⟨rfl,rfl⟩) (.cons (.inl ⟨rfl,rfl⟩) (.cons (u _) (.cons (u _) (.cons (u _) (.cons (u _) (.cons (u _) .nil))))))))))))))))))
  rcases hc with ⟨rfl,rfl,rfl⟩ | ⟨hs0,rfl,rfl⟩
  ·have happ:=append_row0 (by_:=24) (σ:=σ') hsc (by decide)
   have h0:σ'[0]? = some (shD ts ks):=WO ((hrows 0 (by simp)).trans rfl)
   simp only[ic10l0,QJ,h2,hcv,hud,hlen1,hsr,happ,hws,evA,simprocAttr]
   refine AS trivial (sh_weak (v8:=v8) (s:=0) (k:=σ'.length+1) ?_ ?_ (by omega) ?_ (hmv _ _ _ _ _ _ _ _ _ _ _ _ _ (by omega))) ⟨_,_,.inr ⟨by omega,rfl,rfl⟩,rfl⟩
   ·have h0l:=(QH.1 h0).1
    rw[QW,QE h0l];exact h0
   ·simp[allR]
   ·rcases hA.2 with ⟨rfl,hz⟩ | ⟨l,hl,rfl,hr⟩
    ·exact .inl ⟨rfl,hz⟩
    ·have hll:=(QH.1 (WO hr)).1
     simp at hl
     exact .inr ⟨l,by omega,by omega,rfl,ZH (FU hr _) _⟩
  ·have hr1:rowOf σ' 1=some (allR ks.length s):=(hrows 1 (by simp)).trans rfl
   have happ:=append_row (by_:=24) (σ:=σ') hr1 (allR_len _ _) hsc (by omega) (by omega)
   have h0:σ'[0]? = some (shD ts ks):=WO ((hrows 0 (by simp)).trans rfl)
   simp only[ic10l0,QJ,h2,hcv,hud,hlen1,hsr,happ,hws,evA,simprocAttr]
   refine AS trivial (sh_weak (v8:=v8) (s:=s) (k:=σ'.length+1) ?_ ?_ (by omega) ?_ (hmv _ _ _ _ _ _ _ _ _ _ _ _ _ (by omega))) ⟨_,_,.inr ⟨by omega,rfl,rfl⟩,rfl⟩
   ·have h0l:=(QH.1 h0).1
    rw[QE (by simp),QU (by decide),QE h0l];exact h0
   ·simp
   ·rcases hA.2 with ⟨rfl,hz⟩ | ⟨l,hl,rfl,hr⟩
    ·exact .inl ⟨rfl,hz⟩
    ·have hll:=(QH.1 (WO hr)).1
     simp at hl
     refine .inr ⟨l,by omega,by omega,rfl,?_⟩
     refine ZH ?_ _
     rw[QX (by omega)]
     exact FU hr _
def timesD (ts ks:List Int) (s:Nat):Nat→Int
 | 0=>0
 | i+1=>if anyN (fun t=>s.testBit t&&canT ks t i) ks.length=true then timesD ts ks s i+ts[i]?.getD 0 else timesD ts ks s i
def lackD (ts ks:List Int) (s:Nat):Bool:=decide (timesD ts ks s ts.length<((setL ks.length s).length:Int))
theorem times_ran {ts ks:List Int} (hok:DrawOk ts ks) (s:Nat):∀ i,i≤ts.length→0≤timesD ts ks s i∧timesD ts ks s i≤4*(i:Int)
 | 0,_=>by simp[timesD]
 | i+1,h=>by
  have ih:=times_ran hok s i (by omega)
  have:=hok.tr i (by omega)
  unfold timesD
  split <;> omega
theorem any_set {ks:List Int} {s i:Nat}:anyN (fun j=>canT ks ((setL ks.length s)[j]?.getD 0).toNat i) (setL ks.length s).length=anyN (fun t=>s.testBit t&&canT ks t i) ks.length:=by
 rw[Q8,U8,U8]
 constructor
 ·rintro ⟨j,hj,h⟩
  have hm:(setL ks.length s)[j]∈setL ks.length s:=Q2 hj
  obtain ⟨t,h1,h2,h3⟩:=setL_mem.1 hm
  rw[QI hj,h3] at h
  exact ⟨t,h1,by simp only[h2,XI];exact h⟩
 ·rintro ⟨t,ht,h⟩
  rw[QD] at h
  obtain ⟨j,hj,he⟩:=List.getElem_of_mem (setL_mem.2 ⟨t,ht,h.1,rfl⟩)
  refine ⟨j,hj,?_⟩
  rw[QI hj,he]
  exact h.2
theorem left_times (ts ks:List Int) (s:Nat):∀ i,leftS ts ks (setL ks.length s) i=(setL ks.length s).length-timesD ts ks s i
 | 0=>by simp[leftS,timesD]
 | i+1=>by
  rw[leftS,timesD,any_set,left_times ts ks s i]
  split <;> omega
theorem lack_eq (ts ks:List Int) (s:Nat):lackB_l ts ks s=lackD ts ks s:=by
 unfold lackB_l lackD shortB
 rw[left_times]
 exact decide_eq_decide.2 (by omega)
theorem c43 {ts ks:List Int} (hok:DrawOk ts ks) (s:Nat) (hs:s<2 ^ 62):PC Tryz.prog 11 [drw ts ks,.i s] (.b (lackD ts ks s)):=by
 refine ⟨ZF (fok11 true) (QC rfl) ?_,rfl⟩
 have htl:=hok.tl
 have hkl:=hok.kl
 simp only[ic11,WI,cellsOf,evA,simprocAttr]
 refine ZW ks.length (fun t st=>∃ v10 v11,st=⟨[drw ts ks,.i s,.ptr 0 0,.b false,.i (setL t s).length,.i 0,.i t,.undef,.undef,.undef,v10,v11,.undef,.undef,.undef],[.cells [ints ts,ints ks]]⟩) ?_ 0 (QF _) ⟨_,_,rfl⟩
 rintro t st ht ⟨v10,v11,rfl⟩
 by_cases h:t<ks.length
 ·have hws:IntKind.i64.wrap ((t:Int)+1)=((t+1:Nat):Int):=Q6 (by omega)
  simp only[ic11l2,QJ,h,evA,simprocAttr]
  refine (c45 s t hs (by omega)).call frz ?_
  cases hb:s.testBit t with
  | false =>
   have hl:(setL (t+1) s).length=(setL t s).length:=by rw[setL_succ,hb];simp
   simp only[hws,evA,simprocAttr]
   exact ZL (by first | trivial | omega) ⟨_,_,by rw[hl]⟩
  | true =>
   have hl:(setL (t+1) s).length=(setL t s).length+1:=by rw[setL_succ,hb];simp
   have hw2:IntKind.i64.wrap (((setL t s).length:Int)+1)=(((setL t s).length+1:Nat):Int):=Q6 (by have:=setL_len t s;omega)
   simp only[hws,hw2,evA,simprocAttr]
   exact ZL (by first | trivial | omega) ⟨_,_,by rw[hl]⟩
 have:t=ks.length:=by omega
 subst this
 simp only[ic11l2,QJ,h,evA,simprocAttr]
 refine ZW ts.length (fun i st=>∃ v8 v9 v12 v13 v14,st=⟨[drw ts ks,.i s,.ptr 0 0,.b false,.i (setL ks.length s).length,.i (timesD ts ks s i),.i ks.length,.i i,v8,v9,.b false,v11,v12,v13,v14],[.cells [ints ts,ints ks]]⟩) ?_ 0 (QF _) ⟨_,_,_,_,_,rfl⟩
 rintro i st hi ⟨v8,v9,v12,v13,v14,rfl⟩
 by_cases h2:i<ts.length
 rotate_left
 ·have:i=ts.length:=by omega
  subst this
  simp only[ic11l1,QJ,h2,evA,simprocAttr]
  exact frz
 have hws:IntKind.i64.wrap ((i:Int)+1)=((i+1:Nat):Int):=Q6 (by omega)
 simp only[ic11l1,QJ,h2,evA,simprocAttr]
 refine ZW ks.length (fun t st=>∃ v13,st=⟨[drw ts ks,.i s,.ptr 0 0,.b false,.i (setL ks.length s).length,.i (timesD ts ks s i),.i ks.length,.i i,.b (anyN (fun t=>s.testBit t&&canT ks t i) t),.i t,.b false,v11,.b true,v13,v14],[.cells [ints ts,ints ks]]⟩) ?_ 0 (QF _) ⟨_,rfl⟩
 rintro t st ht2 ⟨v13,rfl⟩
 by_cases h3:t<ks.length
 ·have hws2:IntKind.i64.wrap ((t:Int)+1)=((t+1:Nat):Int):=Q6 (by omega)
  have hkr:=hok.kr t h3
  obtain ⟨S,hS⟩:∃ S:Nat,ks[t]?.getD 0=(S:Int):=⟨(ks[t]?.getD 0).toNat,(VI hkr.1).symm⟩
  have hS62:S<2 ^ 62:=by
   have h2:=hkr.2
   rw[hS] at h2
   unfold capF at h2
   have hp:(2:Nat) ^ ts.length≤2 ^ 6:=Nat.pow_le_pow_right (by omega) (by omega)
   generalize 2 ^ ts.length=q at *
   omega
  have hv:canT ks t i = !S.testBit i:=by unfold canT;rw[hS];rfl
  have hany:=QfC (fun t=>s.testBit t&&canT ks t i) t
  cases hcan:anyN (fun t=>s.testBit t&&canT ks t i) t with
  | true =>
   rw[hcan,US] at hany
   simp only[ic11l0,QJ,h3,hws2,evA,simprocAttr]
   exact ZL (by first | trivial | omega) ⟨_,by rw[hany]⟩
  | false =>
   rw[hcan,Y3] at hany
   simp only[ic11l0,QJ,h3,evA,simprocAttr]
   refine (c45 s t hs (by omega)).call frz ?_
   cases hb:s.testBit t with
   | false =>
    rw[hb,Bool.false_and] at hany
    simp only[hws2,evA,simprocAttr]
    exact ZL (by first | trivial | omega) ⟨_,by rw[hany]⟩
   | true =>
    rw[hb,XI,hv] at hany
    simp only[h3,hS,QJ,evA,simprocAttr]
    refine (c45 S i hS62 (by omega)).call frz ?_
    simp only[hws2,evA,simprocAttr]
    exact ZL (by first | trivial | omega) ⟨_,by rw[hany]⟩
 have:t=ks.length:=by omega
 subst this
 have hr:=times_ran hok s i (by omega)
 have hti:=hok.tr i h2
 cases hcan:anyN (fun t=>s.testBit t&&canT ks t i) ks.length with
 | false =>
  have hl:timesD ts ks s (i+1)=timesD ts ks s i:=by rw[timesD,hcan,if_neg (by decide)]
  simp only[ic11l0,QJ,h3,hcan,hws,evA,simprocAttr]
  exact ZL (by first | trivial | omega) ⟨_,_,_,_,_,by rw[hl]⟩
 | true =>
  have hl:timesD ts ks s (i+1)=timesD ts ks s i+ts[i]?.getD 0:=by rw[timesD,hcan,if_pos rfl]
  have hadd:IntKind.i64.wrap (timesD ts ks s i+ts[i]?.getD 0)=timesD ts ks s i+ts[i]?.getD 0:=ZC (by omega)
  simp only[ic11l0,QJ,h3,hcan,h2,hadd,hws,evA,simprocAttr]
  exact ZL (by first | trivial | omega) ⟨_,_,_,_,_,by rw[hl]⟩
end Go.Proofs.YtpmokaefmcffaaaGreat.AM
namespace Go.Proofs.YtpmokaefmcffaaaGreat.Pl
theorem cnt_pos_of {n k:Nat} {P:Nat→Bool} (hk:k<n) (h:P k=true):0<cnt n P:=by
 by_cases h0:cnt n P=0
 ·have:=cnt_lt (P:=fun _=>false) (Q:=P) (n:=n) (fun _ _ h=>by simp at h) hk rfl h
  omega
 ·omega
theorem cnt_or {n:Nat} {P Q:Nat→Bool} (h:∀ i,i<n→P i=true→Q i=false):cnt n (fun i=>P i||Q i)=cnt n P+cnt n Q:=by
 induction n with
 | zero=>rfl
 | succ n ih =>
  have h1:=ih (fun i hi=>h i (by omega))
  have h2:=h n (by omega)
  simp only[cnt,h1]
  have key:∀ a b:Bool,(a=true→b=false)→(if (a||b)=true then 1 else 0)=(if a=true then 1 else 0)+(if b=true then 1 else 0):=by decide
  have:=key (P n) (Q n) h2
  omega
theorem sum_pos {m:Nat} {f:Nat→Nat} (h:0<sumTo m f):∃ i,i<m∧0<f i:=by
 induction m with
 | zero=>simp[sumTo] at h
 | succ m ih =>
  simp only[sumTo] at h
  by_cases h1:0<f m
  ·exact ⟨m,by omega,h1⟩
  ·obtain ⟨i,hi,h2⟩:=ih (by omega)
   exact ⟨i,by omega,h2⟩
theorem sum_congr {m:Nat} {f g:Nat→Nat} (h:∀ c,c<m→f c=g c):sumTo m f=sumTo m g :=
 Nat.le_antisymm (Qc0 fun c hc=>Nat.le_of_eq (h c hc)) (Qc0 fun c hc=>Nat.le_of_eq (h c hc).symm)
theorem sum_less {m x:Nat} {f g:Nat→Nat} (h:∀ c,c<m→c≠x→f c=g c) (hx:f x≤g x+1):sumTo m f≤sumTo m g+1:=by
 induction m with
 | zero=>simp[sumTo]
 | succ m ih =>
  have:=ih (fun c hc=>h c (by omega))
  simp only[sumTo]
  by_cases e:m=x
  ·subst e
   have:sumTo m f=sumTo m g:=sum_congr fun c hc=>h c (by omega) (by omega)
   omega
  ·have:=h m (by omega) e;omega
def nb (N:Nat) (can:Nat→Nat→Bool) (S:Nat→Bool) (i:Nat):Bool:=decide (0<cnt N fun t=>S t&&can t i)
def capOf (E:Nat) (k:Nat→Nat) (B:Nat→Bool):Nat:=sumTo E fun i=>if B i then k i else 0
theorem nb_iff {N:Nat} {can:Nat→Nat→Bool} {S:Nat→Bool} {i:Nat}:nb N can S i=true↔∃ t,t<N∧S t=true∧can t i=true:=by
 unfold nb
 rw[decide_eq_true_eq]
 constructor
 ·intro h
  obtain ⟨t,ht,h1⟩:=M5 h
  simp only[QD] at h1
  exact ⟨t,ht,h1⟩
 ·rintro ⟨t,ht,h1,h2⟩
  exact cnt_pos_of ht (by simp[h1,h2])
def Serves (N E:Nat) (can:Nat→Nat→Bool) (T:Nat→Bool) (k:Nat→Nat) (f:Nat→Nat):Prop :=
 (∀ t,t<N→T t=true→f t<E∧can t (f t)=true)∧∀ i,i<E→cnt N (fun t=>T t&&f t == i)≤k i
theorem hall {N E:Nat} {can:Nat→Nat→Bool}:∀ m (T:Nat→Bool) (k:Nat→Nat),cnt N T≤m→(∀ S:Nat→Bool,(∀ t,t<N→S t=true→T t=true)→cnt N S≤capOf E k (nb N can S))→∃ f,Serves N E can T k f:=by
 intro m
 induction m with
 | zero =>
  intro T k hm _
  refine ⟨fun _=>0,fun t ht h=>?_,fun i _=>?_⟩
  ·have:=cnt_pos_of ht h;omega
  ·have:cnt N (fun t=>T t&&(0 == i))≤cnt N T:=cnt_mono fun t _ h=>by simp only[QD] at h;exact h.1
   have e:cnt N (fun t=>T t&&((fun _=>0) t == i))=cnt N (fun t=>T t&&(0 == i)):=rfl
   omega
 | succ m ih =>
  intro T k hm hS
  by_cases hx:∃ S0₀:Nat→Bool,(∀ t,t<N→S0₀ t=true→T t=true)∧0<cnt N S0₀∧cnt N S0₀<cnt N T∧capOf E k (nb N can S0₀)≤cnt N S0₀
  ·obtain ⟨S0₀,h1,h2,h3,h4⟩:=hx
   obtain ⟨f0,a1,a2⟩:=ih S0₀ k (by omega) (fun S h=>hS S fun t ht hs=>h1 t ht (h t ht hs))
   have hsplit:cnt N T=cnt N S0₀+cnt N (fun t=>T t && !S0₀ t):=by
    rw[← cnt_or (fun t _ h=>by simp[h])]
    apply K1
    intro t ht
    cases hs:S0₀ t with
    | true=>simp[h1 t ht hs]
    | false=>simp
   obtain ⟨f1,b1,b2⟩:=ih (fun t=>T t && !S0₀ t) (fun i=>if nb N can S0₀ i then 0 else k i) (by omega) (by
    intro S h
    have g1:=hS (fun t=>S t||S0₀ t) (fun t ht hs=>by
     simp only[WR] at hs
     rcases hs with hs | hs
     ·have:=h t ht hs;simp only[QD] at this;exact this.1
     ·exact h1 t ht hs)
    rw[cnt_or (fun t ht hs=>by have:=h t ht hs;simp only[QD,Z0] at this;exact this.2)] at g1
    have g2:capOf E k (nb N can fun t=>S t||S0₀ t)≤capOf E k (nb N can S0₀)+capOf E (fun i=>if nb N can S0₀ i then 0 else k i) (nb N can S):=by
     unfold capOf
     rw[← sum_add]
     apply Qc0
     intro i _
     by_cases e:nb N can S0₀ i=true
     ·simp only[e,if_true];split <;> omega
     ·simp only[if_neg e]
      by_cases e2:nb N can (fun t=>S t||S0₀ t) i=true
      ·have:nb N can S i=true:=by
        obtain ⟨t,ht,hs,hc⟩:=nb_iff.1 e2
        simp only[WR] at hs
        rcases hs with hs | hs
        ·exact nb_iff.2 ⟨t,ht,hs,hc⟩
        ·exact absurd (nb_iff.2 ⟨t,ht,hs,hc⟩) e
       simp[e2,this]
      ·simp[e2]
    omega)
   refine ⟨fun t=>if S0₀ t then f0 t else f1 t,fun t ht h=>?_,fun i hi=>?_⟩
   ·cases hs:S0₀ t with
    | true=>simpa[hs] using a1 t ht hs
    | false=>simpa[hs] using b1 t ht (by simp[h,hs])
   ·have e1:cnt N (fun t=>T t&&(if S0₀ t then f0 t else f1 t) == i)=cnt N (fun t=>S0₀ t&&f0 t == i)+cnt N (fun t=>(T t && !S0₀ t)&&f1 t == i):=by
     rw[← cnt_or (fun t _ h=>by simp only[QD] at h;simp[h.1])]
     apply K1
     intro t ht
     cases hs:S0₀ t with
     | true=>simp[h1 t ht hs]
     | false=>simp
    rw[e1]
    have c1:=a2 i hi
    have c2:=b2 i hi
    by_cases e:nb N can S0₀ i=true
    ·simp only[e,if_true] at c2;omega
    ·simp only[if_neg e] at c2
     have:cnt N (fun t=>S0₀ t&&f0 t == i)=0:=KN fun t ht=>by
      cases hs:S0₀ t with
      | false=>rfl
      | true =>
       cases hf:f0 t == i with
       | false=>rfl
       | true =>
        have hf:f0 t=i:=by simpa using hf
        exact absurd (nb_iff.2 ⟨t,ht,hs,hf ▸ (a1 t ht hs).2⟩) e
     omega
  ·by_cases hT:0<cnt N T
   ·obtain ⟨t0,ht0,hT0⟩:=M5 hT
    have g := hS (fun t => t == t0) (fun t _ h => by have:t=t0:=by simpa using h
                                                     rw[this];exact hT0)
    have g1:=cnt_pos_of (P:=fun t=>t == t0) ht0 (by simp)
    obtain ⟨i0,hi0,g2⟩:=sum_pos (m:=E) (f:=fun i=>if nb N can (fun t=>t == t0) i then k i else 0) (by unfold capOf at g;omega)
    have hn:nb N can (fun t=>t == t0) i0=true:=by
     by_cases e:nb N can (fun t=>t == t0) i0=true
     ·exact e
     ·rw[if_neg e] at g2;omega
    rw[if_pos hn] at g2
    have hcan:can t0 i0=true:=by
     obtain ⟨t,_,h1,h2⟩:=nb_iff.1 hn
     have:t=t0:=by simpa using h1
     rw[← this];exact h2
    have hsplit:cnt N T=cnt N (fun t=>T t && !(t == t0))+1:=JU ht0 (by simp) hT0 (fun i _ e=>by simp[e])
    obtain ⟨f1,b1,b2⟩:=ih (fun t=>T t && !(t == t0)) (fun i=>if i=i0 then k i-1 else k i) (by omega) (by
     intro S h
     by_cases hs0:0<cnt N S
     ·have hST:∀ t,t<N→S t=true→T t=true:=fun t ht hs=>by have:=h t ht hs;simp only[QD] at this;exact this.1
      have h5:cnt N S≤cnt N (fun t=>T t && !(t == t0)):=cnt_mono h
      have h6:¬ capOf E k (nb N can S)≤cnt N S:=fun e=>hx ⟨S,hST,hs0,by omega,e⟩
      have h7:capOf E k (nb N can S)≤capOf E (fun i=>if i=i0 then k i-1 else k i) (nb N can S)+1:=by
       apply sum_less (x:=i0)
       ·intro c _ e;simp only[if_neg e]
       ·simp only[if_true];split <;> omega
      omega
     ·omega)
    refine ⟨fun t=>if t=t0 then i0 else f1 t,fun t ht h=>?_,fun i hi=>?_⟩
    ·by_cases e:t=t0
     ·subst e;simp only[if_true];exact ⟨hi0,hcan⟩
     ·simp only[if_neg e];exact b1 t ht (by simp[h,e])
    ·have c2:=b2 i hi
     show cnt N (fun t=>T t&&(if t=t0 then i0 else f1 t) == i)≤k i
     by_cases e:i=i0
     ·subst e
      simp only[if_true] at c2
      have:cnt N (fun t=>T t&&(if t=t0 then i else f1 t) == i)≤cnt N (fun t=>(T t && !(t == t0))&&f1 t == i)+1:=by
       apply cnt_one
       intro a b _ _ p1 q1 p2 q2
       have key:∀ a,((T a && !(a == t0))&&f1 a == i)=false→(T a&&(if a=t0 then i else f1 a) == i)=true→a=t0:=by
        intro a p q
        by_cases e:a=t0
        ·exact e
        ·simp[e] at p q
         exact absurd q.2 (p q.1)
       rw[key a p1 q1,key b p2 q2]
      omega
     ·simp only[if_neg e] at c2
      have:cnt N (fun t=>T t&&(if t=t0 then i0 else f1 t) == i)≤cnt N (fun t=>(T t && !(t == t0))&&f1 t == i):=by
       apply cnt_mono
       intro t _ h
       by_cases e2:t=t0
       ·simp[e2] at h;exact absurd h.2.symm e
       ·simpa[e2] using h
      omega
   ·refine ⟨fun _=>0,fun t ht h=>?_,fun i _=>?_⟩
    ·have:=cnt_pos_of ht h;omega
    ·have:cnt N (fun t=>T t&&((fun _=>0) t == i))≤cnt N T:=cnt_mono fun t _ h=>by simp only[QD] at h;exact h.1
     omega
theorem served {N E:Nat} {can:Nat→Nat→Bool} {T:Nat→Bool} {k f:Nat→Nat} (h:Serves N E can T k f) {S:Nat→Bool} (hS:∀ t,t<N→S t=true→T t=true):cnt N S≤capOf E k (nb N can S):=by
 have e:=sum_num (n:=N) (m:=E) (fun t=>if S t then some (f t) else none) (fun t ht c hc=>by
  cases hs:S t with
  | false=>simp[hs] at hc
  | true=>simp[hs] at hc;rw[← hc];exact (h.1 t ht (hS t ht hs)).1)
 have e2:cnt N (fun t=>(if S t then some (f t) else none).isSome)=cnt N S:=K1 fun t _=>by cases S t <;> rfl
 rw[← e2,← e]
 apply Qc0
 intro i hi
 by_cases hn:nb N can S i=true
 ·rw[if_pos hn]
  refine YR (cnt_mono fun t ht hs=>?_) (h.2 i hi)
  cases hst:S t with
  | false=>simp[hst] at hs
  | true=>simp[hst] at hs;simp[hS t ht hst,hs]
 ·rw[if_neg hn]
  apply Nat.le_of_eq
  apply KN
  intro t ht
  cases hst:S t with
  | false=>simp
  | true =>
   have:¬ f t=i:=fun e=>hn (nb_iff.2 ⟨t,ht,hst,e ▸ (h.1 t ht (hS t ht hst)).2⟩)
   simpa[hst] using this
end Go.Proofs.YtpmokaefmcffaaaGreat.Pl
namespace Go.Proofs.YtpmokaefmcffaaaGreat.AM
variable [Dr]
open Go Go.Proofs.YtpmokaefmcffaaaGreat.Pl
abbrev kN (us:List Int) (i:Nat):Nat:=(us[i]?.getD 0).toNat
abbrev lastN (n r:Nat):Nat→Bool:=fun t=>decide (n-r≤t)
theorem kN_less {us:List Int} {i:Nat} (hi:i<us.length):kN (lessF us i) i=kN us i-1:=by
 unfold kN lessF
 rw[Z2 hi]
 simp only[Option.getD_some]
 omega
theorem kN_less_ne {us:List Int} {i j:Nat} (h:i≠j):kN (lessF us i) j=kN us j:=by
 unfold kN lessF
 rw[QU h]
theorem allow_serves {ks:List Int}:∀ (r:Nat) (us l:List Int),r≤ks.length→AllowA ks r us l→Serves ks.length us.length (canT ks) (lastN ks.length r) (kN us) fun t=>(l[t-(ks.length-r)]?.getD 0).toNat
 | 0,us,l,hr,h=>by
  refine ⟨fun t ht h2=>?_,fun i hi=>?_⟩
  ·simp only[lastN,decide_eq_true_eq] at h2;omega
  ·rw[KN fun t ht=>?_]
   ·exact QF _
   ·have:lastN ks.length 0 t=false:=decide_eq_false (by omega)
    rw[this,Bool.false_and]
 | r + 1,us,l,hr,h=>by
  obtain ⟨i,l',rfl,hi,hc,h⟩:=h
  have ih:=allow_serves r (lessF us i) l' (by omega) h
  have hl:(lessF us i).length=us.length:=by simp[lessF]
  rw[hl] at ih
  simp only[canB_l,QD,decide_eq_true_eq] at hc
  have hf0:∀ t,t=ks.length-(r+1)→(((i:Int)::l')[t-(ks.length-(r+1))]?.getD 0).toNat=i:=fun t ht=>by
   subst ht;simp
  have hf1:∀ t,ks.length-r≤t→(((i:Int)::l')[t-(ks.length-(r+1))]?.getD 0).toNat=(l'[t-(ks.length-r)]?.getD 0).toNat:=fun t ht=>by
   rw[show t-(ks.length-(r+1))=(t-(ks.length-r))+1 by omega,List.getElem?_cons_succ]
  refine ⟨fun t ht h2=>?_,fun j hj=>?_⟩
  ·dsimp only
   simp only[lastN,decide_eq_true_eq] at h2
   by_cases e:t=ks.length-(r+1)
   ·rw[hf0 t e]
    refine ⟨hi,?_⟩
    unfold canT
    rw[e];exact hc.2
   ·have h3:ks.length-r≤t:=by omega
    rw[hf1 t h3]
    exact ih.1 t ht (decide_eq_true h3)
  ·have h1:=ih.2 j hj
   dsimp only at h1 ⊢
   by_cases e:i=j
   ·subst e
    rw[kN_less hi] at h1
    have h2:0<kN us i:=by unfold kN;omega
    refine YR (cnt_one (P:=fun t=>lastN ks.length r t&&(l'[t-(ks.length-r)]?.getD 0).toNat == i) fun a b ha hb p1 q1 p2 q2=>?_) (by omega)
    have key:∀ t,(lastN ks.length r t&&(l'[t-(ks.length-r)]?.getD 0).toNat == i)=false→(lastN ks.length (r+1) t&&(((i:Int)::l')[t-(ks.length-(r+1))]?.getD 0).toNat == i)=true→t=ks.length-(r+1):=by
     intro t p q
     rw[QD] at q
     have q1:=of_decide_eq_true q.1
     by_cases e:t=ks.length-(r+1)
     ·exact e
     ·have h3:ks.length-r≤t:=by omega
      have q2:=q.2
      rw[hf1 t h3] at q2
      have h4:lastN ks.length r t=true:=decide_eq_true h3
      rw[h4,q2] at p
      cases p
    rw[key a p1 q1,key b p2 q2]
   ·rw[kN_less_ne e] at h1
    refine YR (cnt_mono fun t ht h2=>?_) h1
    rw[QD] at h2 ⊢
    have q1:=of_decide_eq_true h2.1
    have q2:=h2.2
    by_cases e2:t=ks.length-(r+1)
    ·rw[hf0 t e2] at q2
     exact absurd (by simpa using q2) e
    ·have h3:ks.length-r≤t:=by omega
     rw[hf1 t h3] at q2
     exact ⟨decide_eq_true h3,q2⟩
theorem serves_allow {ks:List Int} {f:Nat→Nat}:∀ (r:Nat) (us:List Int),r≤ks.length→Serves ks.length us.length (canT ks) (lastN ks.length r) (kN us) f→∃ l,AllowA ks r us l
 | 0,us,hr,h=>⟨[],rfl⟩
 | r + 1,us,hr,h=>by
  have ht0:ks.length-(r+1)<ks.length:=by omega
  obtain ⟨hi,hc⟩:=h.1 (ks.length-(r+1)) ht0 (decide_eq_true (QG _))
  generalize hif:f (ks.length-(r+1))=i at hi hc
  have hpos:=cnt_pos_of (P:=fun t=>lastN ks.length (r+1) t&&f t == i) ht0 (by simp[hif])
  have hk:=h.2 i hi
  have hl:(lessF us i).length=us.length:=by simp[lessF]
  have hS:Serves ks.length (lessF us i).length (canT ks) (lastN ks.length r) (kN (lessF us i)) f:=by
   rw[hl]
   refine ⟨fun t ht h2=>h.1 t ht ?_,fun j hj=>?_⟩
   ·have:=of_decide_eq_true h2
    exact decide_eq_true (by omega)
   ·by_cases e:i=j
    ·subst e
     have h3:=cnt_lt (P:=fun t=>lastN ks.length r t&&f t == i) (Q:=fun t=>lastN ks.length (r+1) t&&f t == i) (n:=ks.length) (k:=ks.length-(r+1)) (fun t ht h2=>by
      rw[QD] at h2 ⊢
      have:=of_decide_eq_true h2.1
      exact ⟨decide_eq_true (by omega),h2.2⟩) ht0 (by
      have:lastN ks.length r (ks.length-(r+1))=false:=decide_eq_false (by omega)
      rw[this,Bool.false_and]) (by simp[hif])
     rw[kN_less hi];omega
    ·rw[kN_less_ne e]
     refine YR (cnt_mono fun t ht h2=>?_) (h.2 j hj)
     rw[QD] at h2 ⊢
     have:=of_decide_eq_true h2.1
     exact ⟨decide_eq_true (by omega),h2.2⟩
  obtain ⟨l,hA⟩:=serves_allow r (lessF us i) (by omega) hS
  refine ⟨(i:Int)::l,i,l,rfl,hi,?_,hA⟩
  simp only[canB_l,QD,decide_eq_true_eq]
  refine ⟨?_,hc⟩
  have:0<kN us i:=by omega
  unfold kN at this
  omega
def ofB:Nat→(Nat→Bool)→Nat
 | 0,_=>0
 | n+1,S=>(if S n then 2 ^ n else 0)+ofB n S
theorem ofB_lt (S:Nat→Bool):∀ n,ofB n S<2 ^ n
 | 0=>by simp[ofB]
 | n+1=>by
  have:=ofB_lt S n
  unfold ofB
  rw[Nat.pow_succ]
  split <;> omega
theorem ofB_bit (S:Nat→Bool):∀ n j,j<n→(ofB n S).testBit j=S j
 | 0,j,h=>by omega
 | n+1,j,h=>by
  have hlt:=ofB_lt S n
  unfold ofB
  by_cases e:j=n
  ·subst e
   by_cases hs:S j=true
   ·rw[if_pos hs,Nat.testBit_two_pow_add_eq,UQ hlt,hs];rfl
   ·rw[if_neg hs,ZV,UQ hlt]
    simpa using hs
  ·by_cases hs:S n=true
   ·rw[if_pos hs,Nat.testBit_two_pow_add_gt (by omega)];exact ofB_bit S n j (by omega)
   ·rw[if_neg hs,ZV];exact ofB_bit S n j (by omega)
theorem ofB_congr {S T:Nat→Bool}:∀ n,(∀ j,j<n→S j=T j)→ofB n S=ofB n T
 | 0,_=>rfl
 | n+1,h=>by
  unfold ofB
  rw[h n (by omega),ofB_congr n fun j hj=>h j (by omega)]
theorem ofB_self {n s:Nat} (h:s<2 ^ n):ofB n s.testBit=s:=by
 refine Nat.eq_of_testBit_eq fun j=>?_
 by_cases hj:j<n
 ·exact ofB_bit _ n j hj
 ·have hp:2 ^ n≤2 ^ j:=Nat.pow_le_pow_right (by omega) (by omega)
  rw[UQ (Z6 (ofB_lt _ n) hp),UQ (Z6 h hp)]
theorem ofB_less (S:Nat→Bool):∀ n t,t<n→S t=true→ofB n S=ofB n (fun j=>S j&&j != t)+2 ^ t
 | 0,t,h,_=>by omega
 | n+1,t,h,hs=>by
  unfold ofB
  by_cases e:t=n
  ·subst e
   rw[if_pos hs,if_neg (by simp),ofB_congr (S:=S) (T:=fun j=>S j&&j != t) t fun j hj=>by
    have:(j != t)=true:=by simpa using (by omega:j≠t)
    rw[this,WH]]
   omega
  ·have:(n != t)=true:=by simpa using (Ne.symm e)
   simp only[this,WH]
   rw[ofB_less S n t (by omega) hs]
   omega
theorem setL_cnt (s:Nat):∀ n,(setL n s).length=cnt n s.testBit
 | 0=>rfl
 | n+1=>by
  rw[setL_succ,QM,setL_cnt s n]
  simp only[cnt]
  split <;> rfl
theorem any_nb {ks:List Int} {s i:Nat}:anyN (fun t=>s.testBit t&&canT ks t i) ks.length=nb ks.length (canT ks) s.testBit i:=by
 rw[Q8,U8,nb_iff]
 constructor
 ·rintro ⟨t,h1,h2⟩
  rw[QD] at h2
  exact ⟨t,h1,h2.1,h2.2⟩
 ·rintro ⟨t,h1,h2,h3⟩
  exact ⟨t,h1,by rw[h2,h3];rfl⟩
theorem times_cap {ts ks:List Int} (h0:∀ j,j<ts.length→0≤ts[j]?.getD 0) (s:Nat):∀ i,i≤ts.length→timesD ts ks s i=(capOf i (kN ts) (nb ks.length (canT ks) s.testBit):Nat)
 | 0,_=>rfl
 | i+1,h=>by
  have ih:=times_cap (ks:=ks) h0 s i (by omega)
  have:=h0 i (by omega)
  unfold capOf at ih
  unfold timesD capOf
  simp only[sumTo]
  rw[ih,any_nb]
  split
  ·unfold kN;omega
  ·omega
theorem lack_iff {ts ks:List Int} (hok:DrawOk ts ks) (s:Nat):lackB_l ts ks s=true↔capOf ts.length (kN ts) (nb ks.length (canT ks) s.testBit)<cnt ks.length s.testBit:=by
 rw[lack_eq]
 unfold lackD
 rw[times_cap (fun j hj=>(hok.tr j hj).1) s ts.length (QG _),setL_cnt,decide_eq_true_eq]
 omega
theorem capOf_congr {E:Nat} {k:Nat→Nat} {A B:Nat→Bool} (h:∀ i,A i=B i):capOf E k A=capOf E k B:=by
 have:A=B:=funext h
 rw[this]
theorem nb_congr {n:Nat} {can:Nat→Nat→Bool} {S T:Nat→Bool} (h:∀ t,t<n→S t=T t) (i:Nat):nb n can S i=nb n can T i:=by
 unfold nb
 rw[K1 fun t ht=>by rw[h t ht]]
theorem ways_lack {ts ks:List Int} (hok:DrawOk ts ks):waysF ks ks.length ts≠0↔∀ s,s<2 ^ ks.length→lackB_l ts ks s=false:=by
 have hall1:∀ t,lastN ks.length ks.length t=true:=fun t=>decide_eq_true (by omega)
 constructor
 ·intro hw s hs
  have h0:=(waysF_bounds ks ks.length ts hok.tl.2).1
  obtain ⟨hA,_⟩:=pick_A (ks:=ks) ks.length ts 0 (Int.le_refl _) (by omega)
  have hS:=allow_serves _ _ _ (QG _) hA
  have:=Pl.served hS (S:=s.testBit) fun t _ _=>hall1 t
  cases hl:lackB_l ts ks s with
  | false=>rfl
  | true=>have:=(lack_iff hok s).1 hl;omega
 ·intro h hz
  have hc:∀ S:Nat→Bool,(∀ t,t<ks.length→S t=true→lastN ks.length ks.length t=true)→cnt ks.length S≤capOf ts.length (kN ts) (nb ks.length (canT ks) S):=by
   intro S _
   have h1:=h (ofB ks.length S) (ofB_lt S _)
   have hb:=fun t ht=>ofB_bit S ks.length t ht
   rw[← K1 hb,← capOf_congr (A:=nb ks.length (canT ks) (ofB ks.length S).testBit) fun i=>nb_congr hb i]
   by_cases hh:capOf ts.length (kN ts) (nb ks.length (canT ks) (ofB ks.length S).testBit)<cnt ks.length (ofB ks.length S).testBit
   ·have:=(lack_iff hok _).2 hh
    rw[h1] at this;cases this
   ·omega
  obtain ⟨f,hf⟩:=hall ks.length (lastN ks.length ks.length) (kN ts) P7 hc
  obtain ⟨l,hl⟩:=serves_allow _ _ (QG _) hf
  have:=index_in _ _ _ hl
  omega
theorem short_min {ts ks:List Int} (hok:DrawOk ts ks) (hw:waysF ks ks.length ts=0):∃ s,s<2 ^ ks.length∧shortQ ts ks=setL ks.length s∧lackB_l ts ks s=true∧∀ t,t<ks.length→s.testBit t=true→2 ^ t≤s∧lackB_l ts ks (s-2 ^ t)=false:=by
 unfold shortQ
 rw[if_pos hw]
 rcases bestF_is (n:=ks.length) (lack_ne (ts:=ts) (ks:=ks)) (2 ^ ks.length) with ⟨_,h⟩ | ⟨s,h1,h2,h3,h4⟩
 ·exfalso
  refine (ways_lack hok).2 (fun s hs=>?_) hw
  rcases XF s with rfl | hp
  ·exact lack_0 ts ks
  ·exact h s hp hs
 ·refine ⟨s,h1,h3,h2,fun t ht hb=>?_⟩
  have he:=ofB_less s.testBit ks.length t ht hb
  rw[ofB_self h1] at he
  have hsub:s-2 ^ t=ofB ks.length fun j=>s.testBit j&&j != t:=by omega
  refine ⟨by omega,?_⟩
  cases hl:lackB_l ts ks (s-2 ^ t) with
  | false=>rfl
  | true =>
   exfalso
   have hne:1≤s-2 ^ t:=by
    rcases XF (s-2 ^ t) with e | e
    ·rw[e,lack_0] at hl;cases hl
    ·exact e
   refine h4 (s-2 ^ t) hne (WJ (Nat.sub_le _ _) h1) hl ?_
   have hlt:(setL ks.length (s-2 ^ t)).length<(setL ks.length s).length:=by
    rw[setL_cnt,setL_cnt]
    have:=cnt_lt (P:=(s-2 ^ t).testBit) (Q:=s.testBit) (n:=ks.length) (k:=t) (fun j hj h=>by
     rw[hsub,ofB_bit _ _ j hj,QD] at h;exact h.1) ht (by rw[hsub,ofB_bit _ _ t ht];simp) hb
    omega
   unfold cmpS
   have hn:cmpN_l ((setL ks.length (s-2 ^ t)).length:Int) (setL ks.length s).length<0:=cmpN_lt.2 (by omega)
   rw[if_pos (by omega)]
   exact hn
theorem setL_pair (n s:Nat):(setL n s).Pairwise (· < ·):=by
 unfold setL
 rw[List.pairwise_map]
 refine (List.Pairwise.filter _ List.pairwise_lt_range).imp ?_
 intro a b h;omega
theorem setL_less {n s i j:Nat} (hj:j<i) (hi:i<(setL n s).length):(setL n s)[j]?.getD 0<(setL n s)[i]?.getD 0:=by
 have h:=List.pairwise_iff_getElem.1 (setL_pair n s) j i (by omega) hi hj
 rw[QI hi,QI (by omega)]
 exact h
def sumT (zs:List Int) (i:Nat):Nat:=((zs.take i).map fun z=>2 ^ z.toNat).sum
theorem sumT_succ {zs:List Int} {i:Nat} (h:i<zs.length):sumT zs (i+1)=sumT zs i+2 ^ (zs[i]?.getD 0).toNat:=by
 unfold sumT
 rw[JC,QI h,ZS,List.sum_append]
 rfl
theorem sumT_le (zs:List Int) (i:Nat):sumT zs i≤sumT zs zs.length:=by
 unfold sumT
 rw[X7]
 conv=>rhs;rw[← List.take_append_drop i zs]
 rw[ZS,List.sum_append]
 omega
theorem sum_setL (s:Nat):∀ n,((setL n s).map fun z=>2 ^ z.toNat).sum=ofB n s.testBit
 | 0=>rfl
 | n+1=>by
  rw[setL_succ,ZS,List.sum_append,sum_setL s n]
  rw[ofB]
  by_cases h:s.testBit n=true
  ·rw[if_pos h,if_pos h];simp;omega
  ·rw[if_neg h,if_neg h];simp
theorem sumT_set {n s:Nat} (h:s<2 ^ n):sumT (setL n s) (setL n s).length=s:=by
 unfold sumT
 rw[X7,sum_setL,ofB_self h]
end Go.Proofs.YtpmokaefmcffaaaGreat.AM
namespace Go.Proofs.YtpmokaefmcffaaaGreat.AM
variable [Dr]
open Go Pl
theorem fndE_zero {g:Nat→Int}:∀ (k i:Nat),(∀ j,i≤j→j<i+k→g j=0)→(fndE g i k).2=0
 | 0,i,h=>rfl
 | k+1,i,h=>by
  unfold fndE
  rw[if_pos (h i (by omega) (by omega))]
  exact fndE_zero k (i+1) fun j h1 h2=>h j (by omega) (by omega)
theorem dyE_of {d:Dy} (h:DyOk d):(dyE d).2.2=0:=by
 unfold dyE
 have h1:=h.n1
 have h2:=h.n2
 have h3:=h.l12
 rw[if_neg,if_neg,if_neg]
 ·intro g
  refine g (fndE_zero _ _ fun j _ hj=>?_)
  obtain ⟨b0,be,e1,le,te,ca,f,o⟩:=h.les j (by omega)
  show lesE d d.ls[j]! = 0
  unfold lesE
  rw[if_neg,if_neg (by omega),if_neg]
  ·rw[Bool.not_eq_true,VL]
   intro z hz
   simp only[ZD,WK,or_false] at hz
   rcases hz with rfl | rfl <;> omega
  ·rw[Bool.not_eq_true,X8,VL,VL]
   refine ⟨fun z hz=>?_,fun z hz=>?_⟩
   ·simp only[ZD,WK,or_false] at hz
    rcases hz with rfl | rfl <;> omega
   ·simp only[ZD,WK,or_false] at hz
    rcases hz with rfl | rfl | rfl <;> omega
 ·intro g
  refine g (fndE_zero _ _ fun j _ hj=>?_)
  have hj:j<d.mi.length:=by omega
  unfold rowE
  rw[if_neg (by rw[h.row j hj];exact fun g=>g rfl),if_neg,if_neg (by rw[h.diag j hj];exact fun g=>g rfl)]
  rw[Bool.not_eq_true,VL]
  intro z hz
  obtain ⟨k,hk,rfl⟩:=WN.1 hz
  have:=h.rng j k hj (by rw[← h.row j hj];exact hk)
  unfold gI at this
  rwa [QI hk] at this
 ·rw[Bool.not_eq_true,X8,VL]
  refine ⟨fun z hz=>?_,decide_eq_false (by omega)⟩
  simp only[ZD,WK,or_false] at hz
  omega
theorem dsz_of {d:Dy} (h:DyOk d):DSz d:=by
 have h2:=h.n2
 have h3:=h.l12
 have h63:(2:Nat) ^ 63=9223372036854775808:=by decide
 exact ⟨by omega,by omega,fun i hi=>by rw[h.row i hi];omega⟩
def onL (ls:List Les) (t n:Nat):List Les:=(ls.take n).filter fun l=>l.te == (t:Int)
theorem onL_succ {ls:List Les} {t n:Nat} (h:n<ls.length):onL ls t (n+1)=if ((ls[n]!).te == (t:Int))=true then onL ls t n++[ls[n]!] else onL ls t n:=by
 unfold onL
 rw[JC,List.filter_append,QI h,getElem!_pos ls n h]
 simp only[Option.toList_some,XK,List.filter_nil]
 split <;> simp
theorem onL_len (ls:List Les) (t n:Nat):(onL ls t n).length≤n:=by
 unfold onL
 have h1:=HC (fun l:Les=>l.te == (t:Int)) (ls.take n)
 have h2:(ls.take n).length≤n:=by rw[List.length_take];omega
 omega
theorem onL_len2 (ls:List Les) (t n:Nat):(onL ls t n).length≤ls.length:=by
 unfold onL
 have h1:=HC (fun l:Les=>l.te == (t:Int)) (ls.take n)
 have h2:(ls.take n).length≤ls.length:=by rw[List.length_take];omega
 omega
theorem onL_mem {ls:List Les} {t n:Nat} {l:Les} (h:l∈onL ls t n):l∈ls:=List.mem_of_mem_take (YB.1 h).1
def oneP (p:Pln) (t:Nat):Pln:=⟨p.sys,p.le,p.te,p.ca,⟨p.day.mi,onL p.day.ls t p.day.ls.length⟩⟩
theorem one_dy {p:Pln} (h:DyOk p.day) (t:Nat):DyOk (oneP p t).day:=by
 refine ⟨h.n1,h.n2,YR (onL_len2 _ _ _) h.l12,h.row,h.rng,h.diag,fun i hi=>?_⟩
 have hi:i<(onL p.day.ls t p.day.ls.length).length:=hi
 show LesOk p.day.mi.length (onL p.day.ls t p.day.ls.length)[i]!
 rw[getElem!_pos _ i hi]
 obtain ⟨j,hj,e⟩:=WN.1 (onL_mem (Q2 hi))
 have:=h.les j hj
 rw[getElem!_pos _ j hj,e] at this
 exact this
theorem one_ok {p:Pln} (h:plnE p=0) (t:Nat):plnE (oneP p t)=0:=by
 have hok:=Qdc h
 have h2:=h
 rw[plnE_eq] at h2 ⊢
 rw[if_neg (fun g=>g hok.sys),if_neg (fun g=>g hok.dy0)] at h2
 have hd:(dyE (oneP p t).day).2.2=0:=dyE_of (one_dy hok.day t)
 have hs:(sysE (oneP p t).sys).2.2=0:=hok.sys
 rw[if_neg (fun g=>g hs),if_neg (fun g=>g hd)]
 have hpp:pplE (oneP p t)=pplE p:=rfl
 rw[hpp]
 split at h2
 ·rename_i g;exact absurd h2 g
 rename_i g
 rw[if_neg g,if_neg]
 rw[Bool.not_eq_true,W6]
 intro l hl
 have hl:l∈onL p.day.ls t p.day.ls.length:=hl
 obtain ⟨j,hj,e⟩:=WN.1 (onL_mem hl)
 have:=hok.who j hj
 rw[getElem!_pos _ j hj,e] at this
 have hw:whoB (oneP p t) l=whoB p l:=rfl
 rw[hw]
 unfold whoB
 simp only[WR,decide_eq_true_eq]
 omega
theorem one_sz {p:Pln} (hp:PSz p) (h:DyOk p.day) (t:Nat):PSz (oneP p t):=⟨hp.sys,hp.le,hp.te,hp.ca,hp.rg,dsz_of (one_dy h t)⟩
def hkB (p:Pln) (k t:Nat):Bool:=decide (gI (hrF (·.le) p.le.length (onL p.day.ls t p.day.ls.length) (onL p.day.ls t p.day.ls.length).length) k>0)
theorem hr_pos {f:Les→Int} {n:Nat} {ls:List Les} (h:∀ i,i<ls.length→0<(ls[i]!).e-(ls[i]!).b∧(ls[i]!).e-(ls[i]!).b≤1440) {k:Nat} (hk:k<n):∀ m,m≤ls.length→(∃ i,i<m∧f ls[i]! = (k:Int))→0<gI (hrF f n ls m) k
 | 0,_,⟨i,hi,_⟩=>by omega
 | m+1,hm,⟨i,hi,e⟩=>by
  have hb:=Qar (f:=f) (n:=n) (fun i hi=>⟨Int.le_of_lt (h i hi).1,(h i hi).2⟩) m (by omega)
  have hl:=DC f n ls m
  have hm1:=(h m (by omega)).1
  unfold hrF
  by_cases hc:(f ls[m]!).toNat<n
  ·rw[JO (by omega)]
   by_cases e2:k=(f ls[m]!).toNat
   ·rw[if_pos e2]
    have:=(hb (f ls[m]!).toNat).1
    omega
   ·rw[if_neg e2]
    refine hr_pos h hk m (by omega) ⟨i,?_,e⟩
    rcases QQ.1 hi with g | rfl
    ·exact g
    ·exfalso;apply e2;rw[e];rfl
  ·rw[KE (by omega)]
   refine hr_pos h hk m (by omega) ⟨i,?_,e⟩
   rcases QQ.1 hi with g | rfl
   ·exact g
   ·exfalso;apply hc;rw[e];exact hk
theorem hk_of {p:Pln} (hok:LkOk p) {n k t:Nat} (hn:n<p.day.ls.length) (hk:(p.day.ls[n]!).le=(k:Int)) (ht:(p.day.ls[n]!).te=(t:Int)):hkB p k t=true:=by
 have hd:=one_dy hok.day t
 have hm:p.day.ls[n]!∈onL p.day.ls t p.day.ls.length:=by
  unfold onL
  rw[X7,YB]
  refine ⟨by rw[getElem!_pos _ n hn];exact Q2 hn,?_⟩
  rw[ht];exact beq_self_eq_true _
 obtain ⟨i,hi,e⟩:=WN.1 hm
 have hw:=(hok.who n hn).1
 refine decide_eq_true (hr_pos (f:=(·.le)) (fun i hi=>?_) (by omega) _ (QG _) ⟨i,hi,?_⟩)
 ·have:=hd.les i hi
  have h1:=this.be
  have h2:=this.b0
  have h3:=this.e1
  have e3:(oneP p t).day.ls=onL p.day.ls t p.day.ls.length:=rfl
  rw[e3] at h1 h2 h3
  omega
 ·rw[getElem!_pos _ i hi,e];exact hk
def ofF (f:Nat→Bool):Nat→Nat
 | 0=>0
 | n+1=>ofF f n+if f n=true then 2 ^ n else 0
theorem ofF_lt (f:Nat→Bool):∀ n,ofF f n<2 ^ n
 | 0=>by simp[ofF]
 | n+1=>by
  have:=ofF_lt f n
  unfold ofF
  rw[Nat.pow_succ]
  split <;> omega
theorem ofF_bit (f:Nat→Bool):∀ n j,(ofF f n).testBit j=(decide (j<n)&&f j)
 | 0,j=>by simp[ofF]
 | n + 1,j=>by
  have ih:=ofF_bit f n
  have hlt:=ofF_lt f n
  unfold ofF
  by_cases hf:f n=true
  ·rw[if_pos hf]
   rcases Nat.lt_trichotomy j n with h | rfl | h
   ·rw[Nat.add_comm,Nat.testBit_two_pow_add_gt h,ih j]
    have h1:j<n+1:=by omega
    simp[h,h1]
   ·rw[Nat.add_comm,Nat.testBit_two_pow_add_eq,UQ hlt]
    simp[hf]
   ·have h1:ofF f n+2 ^ n<2 ^ j:=by
     have:2 ^ (n+1)≤2 ^ j:=Nat.pow_le_pow_right (by decide) h
     rw[Nat.pow_succ] at this
     omega
    rw[UQ h1]
    have h2:¬ j<n+1:=by omega
    simp[h2]
  ·have hf:f n=false:=by simpa using hf
   rw[if_neg (by rw[hf];decide),Nat.add_zero,ih j]
   rcases Nat.lt_trichotomy j n with h | rfl | h
   ·have h1:j<n+1:=by omega
    simp[h,h1]
   ·simp[hf]
   ·have h1:¬ j<n:=by omega
    have h2:¬ j<n+1:=by omega
    simp[h1,h2]
def tmE (zs:List Int) (i:Nat):Int:=if zs.length=0 then 1 else gI zs (i % zs.length) % 5
def tmL (zs:List Int) (m:Nat):List Int:=(List.range m).map (tmE zs)
theorem tmL_len (zs:List Int) (m:Nat):(tmL zs m).length=m:=by simp[tmL]
theorem tmL_succ (zs:List Int) (m:Nat):tmL zs (m+1)=tmL zs m++[tmE zs m]:=by simp[tmL,WM]
theorem tmE_bd {zs:List Int} (i:Nat):0≤tmE zs i∧tmE zs i≤4:=by
 unfold tmE
 split
 ·omega
 ·omega
def knL (p:Pln) (m k:Nat):List Int:=(List.range k).map fun j=>((ofF (hkB p j) m:Nat):Int)
theorem knL_len (p:Pln) (m k:Nat):(knL p m k).length=k:=by simp[knL]
theorem knL_succ (p:Pln) (m k:Nat):knL p m (k+1)=knL p m k++[((ofF (hkB p k) m:Nat):Int)]:=by simp[knL,WM]
theorem knL_get {p:Pln} {m k j:Nat} (h:j<k):(knL p m k)[j]?.getD 0=((ofF (hkB p j) m:Nat):Int):=by simp[knL,h]
theorem draw_ok (p:Pln) (zs:List Int) {m k:Nat} (h1:1≤m) (h6:m≤6) (h8:k≤8):DrawOk (tmL zs m) (knL p m k):=by
 refine ⟨by rw[tmL_len];exact ⟨h1,h6⟩,by rw[knL_len];exact h8,fun j hj=>?_,fun j hj=>?_⟩
 ·rw[tmL_len] at hj
  have:(tmL zs m)[j]?.getD 0=tmE zs j:=by simp[tmL,hj]
  rw[this]
  exact tmE_bd j
 ·rw[knL_len] at hj
  rw[knL_get hj,tmL_len]
  have:=ofF_lt (hkB p j) m
  unfold capF
  omega
theorem allow_at {ks:List Int}:∀ {r:Nat} {us l:List Int},AllowA ks r us l→r≤ks.length→∀ t,t<r→∃ i:Nat,l[t]? = some (i:Int)∧i<us.length∧((ks[ks.length-r+t]?.getD 0).toNat.testBit i)=false
 | 0,_,_,_,_,t,ht=>by omega
 | r+1,us,l,h,hr,t,ht=>by
  obtain ⟨i,l',rfl,hi,hc,h⟩:=h
  cases t with
  | zero =>
   refine ⟨i,rfl,hi,?_⟩
   unfold canB_l at hc
   simp only[QD,Z0] at hc
   exact hc.2
  | succ t =>
   obtain ⟨j,h1,h2,h3⟩:=allow_at h (by omega) t (by omega)
   refine ⟨j,h1,?_,?_⟩
   ·have:(lessF us i).length=us.length:=by simp[lessF]
    omega
   ·have e:ks.length-(r+1)+(t+1)=ks.length-r+t:=by omega
    rw[e];exact h3
theorem accF_rows {b e n:Nat} {cs:List CV} {σ τ:List AObj} {v:AV} (h:VH b e σ v n cs) (hr:∀ x,x<σ.length→b≤x→rowOf τ x=rowOf σ x):VH b e τ v n cs :=
 h.imp id fun ⟨l,h1,h2,h3,h4⟩=>⟨l,h1,h2,h3,by rw[hr l (QH.1 (WO h4)).1 h1];exact h4⟩
theorem accF_set {b e n:Nat} {cs:List CV} {σ:List AObj} {v:AV} (h:VH b e σ v n cs) {X:Nat} (hx:X<b) (x:AObj):VH b e (σ.set X x) v n cs:=h.imp id fun ⟨l,h1,h2,h3,h4⟩=>⟨l,h1,h2,h3,by rw[QX (by omega)];exact h4⟩
theorem accF_frz {p:CV→Prop} (hp:∀ z,p (.int .i64 z)) {b:Nat} {σ:List AObj} {v:AV} {C:List Int} (h:VH b 1 σ v C.length (C.map (.int .i64))):FrzC p σ v (rowC C):=QfD h.acc fun c hc=>by
 obtain ⟨z,_,rfl⟩:=ZP.1 hc
 exact hp z
theorem lesM_snoc (l:List Les) (y:Les):F0 (l++[y])=F0 l++lesC y:=by simp[F0]
abbrev V3₀ (p:Pln) (x:AV) (m:Nat) (v7 v8 v9 v10 v11 v12 v13 v14 v15 v16 v17 v18 v19 v20 v21 v22 v23 v24 v25 v26 v27 v28 v29 v30 v31 v32 v33 v34 v35 v36 v37 v38 v39:AV):List AV :=
 [plnV p,x,.ptr 0 0,.ptr 1 0,.b false,.ptr 2 0,.i m,v7,v8,v9,v10,v11,v12,v13,v14,v15,v16,v17,v18,v19,v20,v21,v22,v23,v24,v25,v26,v27,v28,v29,v30,v31,v32,v33,v34,v35,v36,v37,v38,v39]
abbrev stV (zs:List Int) (L:Int):AV:=.agg [.cv (.rsl (zs.map (.int .u8)) zs.length),.cv (.int .u32 L)]
structure KtH (p:Pln) (zs:List Int) (L:Int) (H:List AObj) (vT:AV) (ts:List Int):Prop where
 r0:rowOf H 0=some (plnC p)
 r1:rowOf H 1=some [.cv (.rsl (zs.map (.int .u8)) zs.length),.cv (.int .u32 L)]
 r2:rowOf H 2=some [vT,.cv .nils]
 aT:VH 3 1 H vT ts.length (ts.map (.int .i64))
 len:3≤H.length
theorem lo5 {Q:Exit→St→Prop} (p:Pln) (zs:List Int) (L:Int) (hzl:zs.length<2 ^ 63) (hz:∀ i,i<zs.length→0≤gI zs i∧gI zs i≤255) (m:Nat) (hm:m≤6) (H0₀:List AObj) (h0:KtH p zs L H0₀ (.cv .nils) [])
  (hend:∀ v8 v26 H vT,KtH p zs L H vT (tmL zs m)→Q (.exit 0) ⟨V3₀ p (stV zs L) m (.i m) v8 .undef .undef .undef .undef .undef .undef .undef .undef .undef .undef .undef .undef .undef .undef .undef (.b false) (.b false) v26 .undef .undef .undef .undef .undef .undef .undef .undef .undef .undef .undef .undef .undef,H⟩) :
  IL Tryz.prog ⟨vs3,254,none,0⟩ ic3l5 ⟨V3₀ p (stV zs L) m (.i 0) .undef .undef .undef .undef .undef .undef .undef .undef .undef .undef .undef .undef .undef .undef .undef .undef (.b false) .undef .undef .undef .undef .undef .undef .undef .undef .undef .undef .undef .undef .undef .undef .undef,H0₀⟩ Q:=by
 refine ZW m (fun i s=>∃ v8 v25 v26 H vT,KtH p zs L H vT (tmL zs i)∧s=⟨V3₀ p (stV zs L) m (.i i) v8 .undef .undef .undef .undef .undef .undef .undef .undef .undef .undef .undef .undef .undef .undef .undef (.b false) v25 v26 .undef .undef .undef .undef .undef .undef .undef .undef .undef .undef .undef .undef .undef,H⟩) ?_ 0 (QF _) ⟨_,_,_,_,_,h0,rfl⟩
 rintro i s hi ⟨v8,v25,v26,H,vT,hH,rfl⟩
 by_cases h:i<m
 rotate_left
 ·have:i=m:=by omega
  subst this
  simp only[V3₀,ic3l5,QJ,h,evA,simprocAttr]
  exact hend _ _ _ _ hH
 have hl:=hH.len
 have hwk:=Q6 (show i+1<2 ^ 63 by omega)
 obtain ⟨v',σ',a1,a2,a3,a4⟩:=K3 (by_:=8) (x:=[.int .i64 (tmE zs i)]) hl hH.aT rfl (by rw[tmL_len];omega) (by rw[tmL_len];omega)
 have anu:=a2.nu
 simp only[Q0,WS] at a1
 have g0:rowOf σ' 0=some (plnC p):=by rw[rowOf,a3 0 (by decide)];exact hH.r0
 have g1:rowOf σ' 1=some [.cv (.rsl (zs.map (.int .u8)) zs.length),.cv (.int .u32 L)]:=by rw[rowOf,a3 1 (by decide)];exact hH.r1
 have g2:rowOf σ' 2=some [vT,.cv .nils]:=by rw[rowOf,a3 2 (by decide)];exact hH.r2
 have hfin:KtH p zs L (σ'.set 2 (.cells [v',.cv .nils])) v' (tmL zs (i+1)):=by
  refine ⟨by rw[QX (by decide)];exact g0,by rw[QX (by decide)];exact g1,W0 g2,accF_set ?_ (by decide) _,by simp;omega⟩
  rw[tmL_succ,QM,ZS]
  exact a2
 by_cases hz0:zs.length=0
 ·have hd:decide ((zs.length:Int)>0)=false:=decide_eq_false (by omega)
  have ht:tmE zs i=1:=by unfold tmE;rw[if_pos hz0]
  rw[ht] at a1
  simp only[V3₀,ic3l5,QJ,h,hH.r1,hH.r2,hd,a1,g2,anu,hwk,evA,simprocAttr]
  exact ZL (by first | trivial | omega) ⟨_,_,_,_,_,hfin,rfl⟩
 ·have hd:decide ((zs.length:Int)>0)=true:=decide_eq_true (by omega)
  have ht:tmE zs i=gI zs (i % zs.length) % 5:=by unfold tmE;rw[if_neg hz0]
  have hml:i % zs.length<zs.length:=Nat.mod_lt _ (by omega)
  have hnz:¬ ((zs.length:Int)=0):=by omega
  have hrem:(i:Int).tmod (zs.length:Int)=((i % zs.length:Nat):Int):=rfl
  have hb:=hz _ hml
  have hcv:IntKind.i64.wrap (zs[i % zs.length]?.getD 0)=gI zs (i % zs.length):=ZC (by
   have:zs[i % zs.length]?.getD 0=gI zs (i % zs.length):=rfl
   omega)
  have hr5:(gI zs (i % zs.length)).tmod 5=tmE zs i:=by
   rw[ht,Int.tmod_eq_emod_of_nonneg hb.1]
  have h50:¬ ((5:Int)=0):=by decide
  simp only[V3₀,ic3l5,QJ,h,hH.r1,hd,evA,simprocAttr]
  refine DW_s [] [] hmix (by kernel_rfl) rfl ?_
  simp only[hH.r1,hnz,h50,hrem,J5 hml,J4 hml,WA,hcv,hr5,hH.r2,a1,g2,anu,hwk,evA,simprocAttr]
  exact ZL (by first | trivial | omega) ⟨_,_,_,_,_,hfin,rfl⟩
theorem lo2 {Q:Exit→St→Prop} (p:Pln) (hok:DyOk p.day) (x:AV) (m t o:Nat) (v7 v8 v9 v10 v14 v15 v24 v25 v26 v27 v28 v29 v30 v31 v32:AV) (G:List AObj) (hlen:o<G.length) (h0:0<o) (r0:rowOf G 0=some (plnC p)) (ro:rowOf G o=some [.cv (clsR p.sys.cl),.cv (strR p.sys.co),ints p.le,.cv (tchR p.te),.cv (carR p.ca),.cv (minR p.day.mi),.cv .nils])
  (hend:∀ v29 v30 G' v,(∀ i,i<o→G'[i]? = G[i]?)→G.length≤G'.length→rowOf G' o=some [.cv (clsR p.sys.cl),.cv (strR p.sys.co),ints p.le,.cv (tchR p.te),.cv (carR p.ca),.cv (minR p.day.mi),v]→VH (o+1) 7 G' v (onL p.day.ls t p.day.ls.length).length (F0 (onL p.day.ls t p.day.ls.length)) →
   Q (.exit 6) ⟨V3₀ p x m v7 v8 v9 v10 (.i t) (.ptr o 0) (.i p.day.ls.length) v14 v15 .undef .undef .undef .undef .undef .undef .undef .undef v24 v25 v26 v27 v28 v29 v30 v31 v32 .undef .undef .undef .undef .undef .undef .undef,G'⟩) :
  IL Tryz.prog ⟨vs3,254,none,0⟩ ic3l2 ⟨V3₀ p x m v7 v8 v9 v10 (.i t) (.ptr o 0) (.i 0) v14 v15 .undef .undef .undef .undef .undef .undef .undef .undef v24 v25 v26 v27 v28 v29 v30 v31 v32 .undef .undef .undef .undef .undef .undef .undef,G⟩ Q:=by
 have h12:=hok.l12
 refine ZW p.day.ls.length (fun n s=>∃ v29 v30 G' v,(∀ i,i<o→G'[i]? = G[i]?)∧G.length≤G'.length∧rowOf G' o=some [.cv (clsR p.sys.cl),.cv (strR p.sys.co),ints p.le,.cv (tchR p.te),.cv (carR p.ca),.cv (minR p.day.mi),v]∧VH (o+1) 7 G' v (onL p.day.ls t n).length (F0 (onL p.day.ls t n)) ∧
  s=⟨V3₀ p x m v7 v8 v9 v10 (.i t) (.ptr o 0) (.i n) v14 v15 .undef .undef .undef .undef .undef .undef .undef .undef v24 v25 v26 v27 v28 v29 v30 v31 v32 .undef .undef .undef .undef .undef .undef .undef,G'⟩) ?_ 0 (QF _) ⟨_,_,_,_,fun _ _=>rfl,QG _,ro,.inl ⟨rfl,rfl,rfl⟩,rfl⟩
 rintro n s hn ⟨v29,v30,G',v,k1,k2,k3,k4,rfl⟩
 have q0:rowOf G' 0=some (plnC p):=by rw[rowOf,k1 0 h0];exact r0
 by_cases h:n<p.day.ls.length
 rotate_left
 ·have:n=p.day.ls.length:=by omega
  subst this
  simp only[V3₀,ic3l2,QJ,h,q0,evA,simprocAttr]
  exact hend _ _ _ _ k1 k2 k3 k4
 have hwk:=Q6 (show n+1<2 ^ 63 by omega)
 have ia:=F5 h
 have hl1:=les_1 h
 have hld:=MR h
 have hsucc:=onL_succ (t:=t) h
 have hle:=onL_len p.day.ls t n
 generalize p.day.ls[n]! = y at *
 obtain ⟨y1,y2,y3,y4,y5,y6,y7⟩:=y
 simp only at hl1 hld hsucc
 cases hc:(y2 == (t:Int)) with
 | false =>
  rw[hc,if_neg (by decide)] at hsucc
  simp only[V3₀,ic3l2,QJ,h,q0,ia,hl1,hc,hwk,evA,simprocAttr]
  exact ZL (by first | trivial | omega) ⟨_,_,G',v,k1,k2,k3,by rw[hsucc];exact k4,rfl⟩
 | true =>
  rw[hc,if_pos rfl] at hsucc
  obtain ⟨v',σ',a1,a2,a3,a4⟩:=K3 (by_:=56) (x:=lesC ⟨y1,y2,y3,y4,y5,y6,y7⟩) (show o+1≤G'.length by omega) k4 rfl (by omega) (by omega)
  have anu:=a2.nu
  simp only[Q0,WS] at a1
  have g0:rowOf σ' o=some [.cv (clsR p.sys.cl),.cv (strR p.sys.co),ints p.le,.cv (tchR p.te),.cv (carR p.ca),.cv (minR p.day.mi),v]:=by rw[rowOf,a3 o (by omega)];exact k3
  have k3J:∀ J,rowOf (G'++J) o=some [.cv (clsR p.sys.cl),.cv (strR p.sys.co),ints p.le,.cv (tchR p.te),.cv (carR p.ca),.cv (minR p.day.mi),v]:=fun J=>ZH k3 J
  have eo:∀ J:List AObj,(G'++J)[o]? = G'[o]? := fun J=>QE (by omega)
  simp only[V3₀,ic3l2,QJ,h,q0,ia,hl1,hc,evA,simprocAttr]
  refine DW_s [] [(2,9)] hmix (by kernel_rfl) rfl ?_
  simp only[q0,k3,ia,hld,a1,g0,anu,eo,hwk,evA,simprocAttr]
  refine ZL (by first | trivial | omega) ⟨_,_,σ'.set o (.cells [.cv (clsR p.sys.cl),.cv (strR p.sys.co),ints p.le,.cv (tchR p.te),.cv (carR p.ca),.cv (minR p.day.mi),v']),v',fun i hi=>?_,by simp;omega,W0 g0,accF_set ?_ (by omega) _,rfl⟩
  ·rw[QU (by omega),a3 i (by omega)]
   exact k1 i hi
  ·rw[hsucc,QM,lesM_snoc]
   exact a2
structure KnH (p:Pln) (zs:List Int) (L:Int) (B:Nat) (H:List AObj) (vT:AV) (ts:List Int) (vK:AV) (ks:List Int):Prop where
 r0:rowOf H 0=some (plnC p)
 r1:rowOf H 1=some [.cv (.rsl (zs.map (.int .u8)) zs.length),.cv (.int .u32 L)]
 r2:rowOf H 2=some [vT,vK]
 bl:3≤B
 len:B≤H.length
 aT:(vT=.cv .nils∧ts=[])∨∃ l,l<B∧3≤l∧vT=.sl l 0 ts.length 1∧rowOf H l=some (ts.map AV.i)
 aK:VH B 1 H vK ks.length (ks.map (.int .i64))
section
variable {p:Pln} {zs:List Int} {L:Int} {B:Nat} {H G:List AObj} {vT:AV} {ts:List Int} {vK:AV} {ks:List Int}
theorem KnH.low (h:KnH p zs L B H vT ts vK ks) (hl:H.length≤G.length) (hi:∀ i,i<H.length→G[i]? = H[i]?):KnH p zs L B G vT ts vK ks:=by
 have hr:∀ i,i<H.length→rowOf G i=rowOf H i:=fun i h=>by unfold rowOf;rw[hi i h]
 have hb:=h.bl
 have hle:=h.len
 exact ⟨by rw[hr 0 (by omega)];exact h.r0,by rw[hr 1 (by omega)];exact h.r1,by rw[hr 2 (by omega)];exact h.r2,hb,by omega,h.aT.imp id fun ⟨l,a,b,c,d⟩=>⟨l,a,b,c,by rw[hr l (by omega)];exact d⟩,accF_rows h.aK fun x hx _=>hr x hx⟩
theorem KtH.kn (h:KtH p zs L H vT ts):KnH p zs L H.length H vT ts (.cv .nils) []:=by
 refine ⟨h.r0,h.r1,h.r2,h.len,QG _,?_,.inl ⟨rfl,rfl,rfl⟩⟩
 rcases h.aT with ⟨h1,h2,_⟩ | ⟨l,h1,h2,_,h4⟩
 ·exact .inl ⟨h1,ZT h2⟩
 ·refine .inr ⟨l,(QH.1 (WO h4)).1,h1,h2,?_⟩
  rw[h4,XW];rfl
theorem KnH.frzT (h:KnH p zs L B H vT ts vK ks):FrzC anyC H vT (rowC ts):=by
 rcases h.aT with ⟨rfl,rfl⟩ | ⟨l,_,_,rfl,h4⟩
 ·exact .nl
 ·have:=TN (p:=anyC) (fun _=>trivial) h4
  cases this with
  | c h=>exact h
end
set_option maxHeartbeats 1000000 in
theorem lo3 {Q:Exit→St→Prop} (p:Pln) (hp:PSz p) (he:plnE p=0) (zs:List Int) (L:Int) (m:Nat) (hm:m≤6) (B:Nat) (H0₀:List AObj) (vT:AV) (ts:List Int) (vK:AV) (ks:List Int) (h0:KnH p zs L B H0₀ vT ts vK ks) (k:Nat) (hk:k<p.le.length)
  (v8 v12 v13 v14 v15 v26 v28 v29 v30 v31 v32:AV)
  (hend:∀ v12 v13 v14 v15 v29 v30 v31 v32 G,KnH p zs L B G vT ts vK ks→Q (.exit 4) ⟨V3₀ p (stV zs L) m (.i m) v8 (.i k) (.i (ofF (hkB p k) m:Nat)) (.i m) v12 v13 v14 v15 .undef .undef .undef .undef .undef .undef .undef .undef (.b false) (.b false) v26 (.b true) (.b false) v29 v30 v31 v32 .undef .undef .undef .undef .undef .undef .undef,G⟩) :
  IL Tryz.prog ⟨vs3,254,none,0⟩ ic3l3 ⟨V3₀ p (stV zs L) m (.i m) v8 (.i k) (.i 0) (.i 0) v12 v13 v14 v15 .undef .undef .undef .undef .undef .undef .undef .undef (.b false) (.b false) v26 (.b true) v28 v29 v30 v31 v32 .undef .undef .undef .undef .undef .undef .undef,H0₀⟩ Q:=by
 have hok:=Qdc he
 refine ZW m (fun t s=>∃ v12 v13 v14 v15 v28 v29 v30 v31 v32 G,KnH p zs L B G vT ts vK ks∧s=⟨V3₀ p (stV zs L) m (.i m) v8 (.i k) (.i (ofF (hkB p k) t:Nat)) (.i t) v12 v13 v14 v15 .undef .undef .undef .undef .undef .undef .undef .undef (.b false) (.b false) v26 (.b true) v28 v29 v30 v31 v32 .undef .undef .undef .undef .undef .undef .undef,G⟩) ?_ 0 (QF _) ⟨_,_,_,_,_,_,_,_,_,_,h0,rfl⟩
 clear v12 v13 v14 v15 v28 v29 v30 v31 v32
 rintro t s ht ⟨v12,v13,v14,v15,v28,v29,v30,v31,v32,G,hG,rfl⟩
 by_cases h:t<m
 rotate_left
 ·have:t=m:=by omega
  subst this
  simp only[V3₀,ic3l3,QJ,h,evA,simprocAttr]
  exact hend _ _ _ _ _ _ _ _ _ hG
 have hwk:=Q6 (show t+1<2 ^ 63 by omega)
 have hB:=hG.bl
 have hBl:=hG.len
 simp only[V3₀,ic3l3,QJ,h,hG.r0,WW,VW,evA,simprocAttr]
 have r0:=fun J=>ZH hG.r0 J
 refine lo2 p hok.day (stV zs L) m t G.length _ _ _ _ _ _ _ _ _ _ _ _ _ _ _ (G++[.cells [.cv (clsR p.sys.cl),.cv (strR p.sys.co),ints p.le,.cv (tchR p.te),.cv (carR p.ca),.cv (minR p.day.mi),.cv .nils]]) (by simp) (by omega) (r0 _) (XH _ _) ?_
 intro v29 v30 G2₀ v k1 k2 k3 k4
 have hG2:KnH p zs L B G2₀ vT ts vK ks:=hG.low (by simp at k2;omega) fun i hi=>by rw[k1 i hi,QE hi]
 have h7:=le37 (oneP p t) (one_sz hp hok.day t)
 unfold hrsA at h7
 rw[if_neg (fun g=>g (one_ok he t))] at h7
 have hfz:FrzV anyC G2₀ v (.cv (lesR (onL p.day.ls t p.day.ls.length))):=GI k4.acc fun _ _=>trivial
 have hAl:(hrF (·.le) p.le.length (onL p.day.ls t p.day.ls.length) (onL p.day.ls t p.day.ls.length).length).length=p.le.length:=DC _ _ _ _
 have hdec:decide ((hrF (·.le) p.le.length (onL p.day.ls t p.day.ls.length) (onL p.day.ls t p.day.ls.length).length)[k]?.getD 0>0)=hkB p k t:=rfl
 have knu:=k4.nu
 unfold hrsV at h7
 have e7:(oneP p t).le=p.le:=rfl
 have e8:(oneP p t).day.ls=onL p.day.ls t p.day.ls.length:=rfl
 have e9:(oneP p t).te=p.te:=rfl
 have e10:(oneP p t).ca=p.ca:=rfl
 simp only[e7,e8,e9,e10] at h7
 generalize hrF (·.le) p.le.length (onL p.day.ls t p.day.ls.length) (onL p.day.ls t p.day.ls.length).length=A at *
 generalize hrF (·.te) p.te.length (onL p.day.ls t p.day.ls.length) (onL p.day.ls t p.day.ls.length).length=A2₀ at *
 generalize hrF (·.ca) p.ca.length (onL p.day.ls t p.day.ls.length) (onL p.day.ls t p.day.ls.length).length=A3₀ at *
 have hkA:k<A.length:=by omega
 have hne:(((A.length:Nat):Int) != (p.le.length:Int))=false:=by rw[hAl];simp
 have r02:=fun J=>ZH hG2.r0 J
 simp only[V3₀,k3,evA,simprocAttr]
 refine h7.call (.cons (.agg (.cons (.c (.c _ trivial)) (.cons (.c (.c _ trivial)) (.cons (.c (.c _ trivial)) (.cons (.c (.c _ trivial)) (.cons (.c (.c _ trivial)) (.cons (.c (.c _ trivial)) (.cons hfz .nil)))))))) .nil) ?_
 have n0:((0:Int) != 0)=false:=by decide
 simp only[n0,r02,hne,J5 hkA,J4 hkA,WA,hdec,WW,VW,evA,simprocAttr]
 have hlow:∀ x,KnH p zs L B (G2₀++[x]) vT ts vK ks:=fun x=>hG2.low (by simp) fun i hi=>QE hi
 have hsucc:ofF (hkB p k) (t+1)=ofF (hkB p k) t+if hkB p k t=true then 2 ^ t else 0:=rfl
 cases hh:hkB p k t with
 | false =>
  have hsucc:ofF (hkB p k) (t+1)=ofF (hkB p k) t:=by rw[hsucc,hh];rfl
  simp only[hwk,evA,simprocAttr]
  exact ZL (by first | trivial | omega) ⟨_,_,_,_,_,_,_,_,_,_,hlow _,by rw[hsucc]⟩
 | true =>
  rw[hh,if_pos rfl] at hsucc
  have h44:=c44 t (by omega)
  have hlt:=ofF_lt (hkB p k) t
  have hp6:2 ^ t≤2 ^ 6:=Nat.pow_le_pow_right (by decide) (by omega)
  have e64:(2:Nat) ^ 6=64:=by decide
  have hw:IntKind.i64.wrap (((ofF (hkB p k) t:Nat):Int)+((2 ^ t:Nat):Int))=((ofF (hkB p k) (t+1):Nat):Int):=by
   rw[hsucc]
   generalize 2 ^ t=q at *
   rw[ZC (by omega)];push_cast;rfl
  generalize 2 ^ t=q at *
  simp only[evA,simprocAttr]
  refine h44.call frz ?_
  simp only[hw,hwk,evA,simprocAttr]
  exact ZL (by first | trivial | omega) ⟨_,_,_,_,_,_,_,_,_,_,hlow _,rfl⟩
theorem lo4 {Q:Exit→St→Prop} (p:Pln) (hp:PSz p) (he:plnE p=0) (zs:List Int) (L:Int) (m:Nat) (hm:m≤6) (B:Nat) (H0₀:List AObj) (vT:AV) (ts:List Int) (h0:KnH p zs L B H0₀ vT ts (.cv .nils) []) (v8 v26:AV)
  (hend:∀ v10 v11 v12 v13 v14 v15 v28 v29 v30 v31 v32 G vK,KnH p zs L B G vT ts vK (knL p m p.le.length)→Q (.exit 2) ⟨V3₀ p (stV zs L) m (.i m) v8 (.i p.le.length) v10 v11 v12 v13 v14 v15 .undef .undef .undef .undef .undef .undef .undef .undef (.b false) (.b false) v26 (.b false) v28 v29 v30 v31 v32 .undef .undef .undef .undef .undef .undef .undef,G⟩) :
  IL Tryz.prog ⟨vs3,254,none,0⟩ ic3l4 ⟨V3₀ p (stV zs L) m (.i m) v8 (.i 0) .undef .undef .undef .undef .undef .undef .undef .undef .undef .undef .undef .undef .undef .undef (.b false) (.b false) v26 .undef .undef .undef .undef .undef .undef .undef .undef .undef .undef .undef .undef .undef,H0₀⟩ Q:=by
 have hok:=Qdc he
 have hl8:=hok.le
 refine ZW p.le.length (fun k s=>∃ v10 v11 v12 v13 v14 v15 v27 v28 v29 v30 v31 v32 G vK,KnH p zs L B G vT ts vK (knL p m k)∧s=⟨V3₀ p (stV zs L) m (.i m) v8 (.i k) v10 v11 v12 v13 v14 v15 .undef .undef .undef .undef .undef .undef .undef .undef (.b false) (.b false) v26 v27 v28 v29 v30 v31 v32 .undef .undef .undef .undef .undef .undef .undef,G⟩) ?_ 0 (QF _) ⟨_,_,_,_,_,_,_,_,_,_,_,_,_,_,h0,rfl⟩
 rintro k s hk ⟨v10,v11,v12,v13,v14,v15,v27,v28,v29,v30,v31,v32,G,vK,hG,rfl⟩
 by_cases h:k<p.le.length
 rotate_left
 ·have:k=p.le.length:=by omega
  subst this
  simp only[V3₀,ic3l4,QJ,h,hG.r0,evA,simprocAttr]
  exact hend _ _ _ _ _ _ _ _ _ _ _ _ _ hG
 have hwk:=Q6 (show k+1<2 ^ 63 by omega)
 simp only[V3₀,ic3l4,QJ,h,hG.r0,evA,simprocAttr]
 refine lo3 p hp he zs L m hm B G vT ts vK _ hG k h _ _ _ _ _ _ _ _ _ _ _ ?_
 clear hG
 intro v12 v13 v14 v15 v29 v30 v31 v32 G hG
 have hB:=hG.bl
 obtain ⟨v',σ',a1,a2,a3,a4⟩:=K3 (by_:=8) (x:=[.int .i64 (ofF (hkB p k) m:Nat)]) hG.len hG.aK rfl (by rw[knL_len];omega) (by rw[knL_len];omega)
 have anu:=a2.nu
 simp only[Q0,WS] at a1
 have hlr:∀ i,i<B→rowOf σ' i=rowOf G i:=fun i hi=>by unfold rowOf;rw[a3 i hi]
 have g2:rowOf σ' 2=some [vT,vK]:=by rw[hlr 2 (by omega)];exact hG.r2
 have hfin:KnH p zs L B (σ'.set 2 (.cells [vT,v'])) vT ts v' (knL p m (k+1)):=by
  refine ⟨by rw[QX (by decide),hlr 0 (by omega)];exact hG.r0,by rw[QX (by decide),hlr 1 (by omega)];exact hG.r1,W0 g2,hB,by have:=hG.len;simp;omega,hG.aT.imp id fun ⟨l,a,b,c,d⟩=>⟨l,a,b,c,by rw[QX (by omega),hlr l a];exact d⟩,accF_set ?_ (by omega) _⟩
  rw[knL_succ,QM,ZS]
  exact a2
 simp only[V3₀,hG.r2,a1,g2,anu,hwk,evA,simprocAttr]
 exact ZL (by first | trivial | omega) ⟨_,_,_,_,_,_,_,_,_,_,_,_,_,_,hfin,rfl⟩
end Go.Proofs.YtpmokaefmcffaaaGreat.AM
namespace Go.Proofs.YtpmokaefmcffaaaGreat.AM
variable [Dr]
open Go Go.ChangeShapes Go.WideShapes Go.ChangeAt Go.RowKit
inductive Typed (P:Program):TypeId→List CV→Prop
 | bool {t:TypeId} (ht:P.underlying t=some .bool) (b:Bool):Typed P t [.bool b]
 | int {t:TypeId} {k:IntKind} (ht:P.underlying t=some (.int k)) (n:Int) (hw:(Lit.int k n).wf=true):Typed P t [.int k n]
 | str {t:TypeId} (ht:P.underlying t=some .string) (s:ByteArray) (hs:s.size≤maxLen):Typed P t [.str s]
 | slc {t e:TypeId} (ht:P.underlying t=some (.slice e)) (L:List (List CV)) (hn:L.length≤maxLen) (hl:∀ l∈L,l.length=P.cellsOf e) (h:∀ l∈L,Typed P e l):Typed P t [.rsl L.flatten L.length]
 | arr {t e:TypeId} {n:Nat} (ht:P.underlying t=some (.array n e)) (L:List (List CV)) (hn:L.length=n) (hl:∀ l∈L,l.length=P.cellsOf e) (h:∀ l∈L,Typed P e l):Typed P t L.flatten
 | struct {t:TypeId} {fs:Array Field} (ht:P.underlying t=some (.struct fs)) (L:List (List CV)) (hn:L.length=fs.size)
   (hl:∀ (i:Nat) (f:Field) (l:List CV),fs[i]? = some f→L[i]? = some l→l.length=P.cellsOf f.type)
   (h:∀ (i:Nat) (f:Field) (l:List CV),fs[i]? = some f→L[i]? = some l→Typed P f.type l):Typed P t L.flatten
def TG (P:Program):Nat→TypeId→Bool
 | 0,_=>false
 | n+1,t =>
  match P.underlying t with
  | some .bool | some (.int _) | some .string=>true
  | some (.slice e)=>TG P n e
  | some (.array k e)=>TG P n e&&decide (P.cellsOf t=k*P.cellsOf e)
  | some (.struct fs)=>fs.toList.all (fun f=>TG P n f.type)&&decide (J8 P fs.toList 0=some (P.cellsOf t))
  | _=>false
abbrev noO:Nat→Prop:=Own (fun _=>none) (fun _=>False)
theorem not_noO (b:Nat):¬ noO b:=by rintro (h | ⟨l,hl⟩);exact h;cases hl
theorem DG {α:Type} {Q:Nat→α→Prop}:∀ (n:Nat),(∀ i,i<n→∃ l,Q i l)→∃ L:List α,L.length=n∧∀ (i:Nat) (l:α),L[i]? = some l→Q i l
 | 0,_=>⟨[],rfl,by simp⟩
 | n+1,h=>by
  obtain ⟨L,h1,h2⟩:=DG n (fun i hi=>h i (by omega))
  obtain ⟨l,hl⟩:=h n (by omega)
  refine ⟨L++[l],by simp[h1],fun i l' hi=>?_⟩
  rcases ZB i n with hlt | hge
  ·rw[QE (by omega)] at hi;exact h2 i l' hi
  ·rw[QS (by omega),h1] at hi
   have:i=n:=by
    rcases ZB n i with h' | h'
    ·rw[QN (by simp;omega)] at hi;cases hi
    ·omega
   subst this
   simp at hi;subst hi;exact hl
theorem CJ {R:Nat→CV→Prop} {esz:Nat}:∀ (L:List (List CV)) (n:Nat),(∀ (i:Nat) (l:List CV),L[i]? = some l→l.length=esz∧∀ (j:Nat) (c:CV),l[j]? = some c→R (n+i*esz+j) c) →
  L.flatten.length=L.length*esz∧∀ (k:Nat) (c:CV),L.flatten[k]? = some c→R (n+k) c
 | [],n,_=>by simp
 | l::L,n,h=>by
  obtain ⟨h1,h2⟩:=h 0 l (by simp)
  have ih:=CJ L (n+esz) (fun i l' hi=>by
   obtain ⟨g1,g2⟩:=h (i+1) l' (by simpa using hi)
   refine ⟨g1,fun j c hj=>?_⟩
   have:=g2 j c hj
   rwa [WP,Nat.one_mul,← Nat.add_assoc,Nat.add_right_comm n] at this)
  refine ⟨by simp[h1,ih.1,WP,Nat.add_comm],fun k c hk=>?_⟩
  rw[List.flatten_cons] at hk
  rcases ZB k l.length with hlt | hge
  ·rw[QE hlt] at hk
   have:=h2 k c hk
   simpa using this
  ·rw[QS hge] at hk
   have:=ih.2 (k-l.length) c hk
   rwa [show n+esz+(k-l.length)=n+k by omega] at this
theorem A4 {P:Program} {R:Nat→CV→Prop} {N:Nat}:∀ (fs:List Field) (L:List (List CV)) (n:Nat),J8 P fs n=some N→L.length=fs.length →
  (∀ (i:Nat) (f:Field) (l:List CV),fs[i]? = some f→L[i]? = some l→l.length=P.cellsOf f.type∧∀ (j:Nat) (c:CV),l[j]? = some c→R (f.offset+j) c) →
  n+L.flatten.length=N∧∀ (k:Nat) (c:CV),L.flatten[k]? = some c→R (n+k) c
 | [],L,n,he,hl,_=>by
  have:L=[]:=ZT (by simpa using hl)
  subst this
  simp only[J8,Option.some.injEq] at he
  simp[he]
 | f::fs,[],n,_,hl,_=>by simp at hl
 | f::fs,l::L,n,he,hl,h=>by
  simp only[J8] at he
  split at he
  ·rename_i hoff
   obtain ⟨h1,h2⟩:=h 0 f l (by simp) (by simp)
   have ih:=A4 fs L (n+P.cellsOf f.type) he (by simpa using hl) (fun i f' l' hf hl'=>h (i+1) f' l' (by simpa using hf) (by simpa using hl'))
   refine ⟨by rw[← ih.1];simp[h1];omega,fun k c hk=>?_⟩
   rw[List.flatten_cons] at hk
   rcases ZB k l.length with hlt | hge
   ·rw[QE hlt] at hk
    have:=h2 k c hk
    rwa [hoff] at this
   ·rw[QS hge] at hk
    have:=ih.2 (k-l.length) c hk
    rwa [show n+P.cellsOf f.type+(k-l.length)=n+k by omega] at this
  ·cases he
theorem NT {W:World} {a:Addr}:∀ (cs:List CV) (i:Nat),(∀ (j:Nat) (c:CV),cs[j]? = some c→∃ v,W.cell? (a.add (i+j))=some v∧c.rep W noO v)→CV.reps W noO cs a i
 | [],_,_=>by simp[CV.reps]
 | c::cs,i,h=>by
  simp only[CV.reps]
  refine ⟨not_noO _,by simpa using h 0 c (by simp),NT cs (i+1) fun j c' hj=>?_⟩
  have:=h (j+1) c' (by simpa using hj)
  rwa [show i+(j+1)=i+1+j by omega] at this
section
variable {H:Type} {enc:TypeId × Value→H} {P:Program} {W:World}
theorem EW:∀ (n:Nat) (t:TypeId) (cs:List Value) (x:DataW H × List MemPlace) (fuel:Nat),TG P n t=true→DataW.trod enc P W 0 (fun _=>true) true fuel t cs=some x →
  ∃ cvs:List CV,Typed P t cvs∧cvs.length=cs.length∧∀ (i:Nat) (c:CV) (v:Value),cvs[i]? = some c→cs[i]? = some v→c.rep W noO v
 | 0,t,cs,x,fuel,ho,_=>by simp[TG] at ho
 | n + 1,t,cs,x,fuel,ho,h=>by
  simp only[TG] at ho
  split at ho
  ·rename_i ht
   obtain ⟨b,rfl,_⟩:=DataW.trod_bool ht h
   refine ⟨[.bool b],.bool ht b,rfl,fun i c v h1 h2=>?_⟩
   cases i with
   | zero=>simp at h1 h2;subst h1 h2;simp[CV.rep]
   | succ i=>simp at h1
  ·rename_i k ht
   obtain ⟨b,rfl,_,hw⟩:=DataW.trod_int ht h
   refine ⟨[.int k b],.int ht b hw,rfl,fun i c v h1 h2=>?_⟩
   cases i with
   | zero=>simp at h1 h2;subst h1 h2;simp[CV.rep]
   | succ i=>simp at h1
  ·rename_i ht
   obtain ⟨s,rfl,_,hw⟩:=DataW.trod_string ht h
   refine ⟨[.str s],.str ht s hw,rfl,fun i c v h1 h2=>?_⟩
   cases i with
   | zero=>simp at h1 h2;subst h1 h2;simp[CV.rep]
   | succ i=>simp at h1
  ·rename_i e ht
   rcases DataW.trod_slice ht h with ⟨rfl,_⟩ | ⟨a,len,cap,elems,rest,m,_,rfl,_,_,hlc,hcm,hel,hget,_⟩
   ·refine ⟨[.rsl [] 0],by simpa using Typed.slc ht [] (by simp) (by simp) (by simp),rfl,fun i c v h1 h2=>?_⟩
    cases i with
    | zero=>simp at h1 h2;subst h1 h2;simp[CV.rep]
    | succ i=>simp at h1
   ·obtain ⟨L,hL,hQ⟩:=DG (Q:=fun i l=>Typed P e l∧l.length=P.cellsOf e∧∀ (j:Nat) (c:CV),l[j]? = some c→∃ v,W.cell? (a.add (i*P.cellsOf e+j))=some v∧c.rep W noO v) len (fun i hi=>by
     have hg:=hget i hi
     rw[QI (by omega)] at hg
     obtain ⟨ci,h1,h2⟩:=QB.1 hg
     obtain ⟨_,hlen,hcell⟩:=World.cells?_some h1
     obtain ⟨cvs,g1,g2,g3⟩:=EW n e ci _ _ ho h2
     refine ⟨cvs,g1,by omega,fun j c hj=>?_⟩
     have hjl:j<cvs.length:=(QH.1 hj).1
     have hc:=hcell j (by omega)
     rw[QI (by omega)] at hc
     exact ⟨_,by rw[← Addr.add_add];exact hc,g3 j c _ hj (QI _)⟩)
    have hmem:∀ l∈L,∃ i:Nat,L[i]? = some l:=fun l hl=>List.mem_iff_getElem?.1 hl
    have hfl:=CJ (R:=fun k c=>∃ v,W.cell? (a.add k)=some v∧c.rep W noO v) (esz:=P.cellsOf e) L 0 (fun i l hi=>⟨(hQ i l hi).2.1,fun j c hj=>by simpa using (hQ i l hi).2.2 j c hj⟩)
    refine ⟨[.rsl L.flatten L.length],Typed.slc ht L (by omega) (fun l hl=>let ⟨i,hi⟩:=hmem l hl;(hQ i l hi).2.1) (fun l hl=>let ⟨i,hi⟩:=hmem l hl;(hQ i l hi).1),rfl,fun i c v h1 h2=>?_⟩
    cases i with
    | zero =>
     simp at h1 h2;subst h1 h2
     simp only[CV.rep]
     exact .inr ⟨a,cap,by rw[hL],by omega,NT _ 0 (fun j c hj=>hfl.2 j c hj)⟩
    | succ i=>simp at h1
  ·rename_i k e ht
   simp only[QD,decide_eq_true_eq] at ho
   obtain ⟨xs,m,_,_,hlen,hxs,hget⟩:=DataW.trod_array ht h
   obtain ⟨L,hL,hQ⟩:=DG (Q:=fun i l=>Typed P e l∧l.length=P.cellsOf e∧∀ (j:Nat) (c:CV),l[j]? = some c→∀ v,cs[i*P.cellsOf e+j]? = some v→c.rep W noO v) k (fun i hi=>by
     have hg:=hget i hi
     rw[QI (by omega)] at hg
     obtain ⟨cvs,g1,g2,g3⟩:=EW n e _ _ _ ho.1 hg
     have hik:i*P.cellsOf e+P.cellsOf e≤k*P.cellsOf e:=by
      have:=YQ (P.cellsOf e) (show i+1≤k by omega)
      rwa [WP,Nat.one_mul] at this
     have hl2:cvs.length=P.cellsOf e:=by rw[g2];simp;omega
     refine ⟨cvs,g1,hl2,fun j c hj v hv=>?_⟩
     have hjl:j<cvs.length:=(QH.1 hj).1
     exact g3 j c v hj (by rw[Z7,if_pos (by omega),X4];exact hv))
   have hmem:∀ l∈L,∃ i:Nat,L[i]? = some l:=fun l hl=>List.mem_iff_getElem?.1 hl
   have hfl:=CJ (R:=fun k c=>∀ v,cs[k]? = some v→c.rep W noO v) (esz:=P.cellsOf e) L 0 (fun i l hi=>⟨(hQ i l hi).2.1,fun j c hj=>by simpa using (hQ i l hi).2.2 j c hj⟩)
   exact ⟨L.flatten,Typed.arr ht L hL (fun l hl=>let ⟨i,hi⟩:=hmem l hl;(hQ i l hi).2.1) (fun l hl=>let ⟨i,hi⟩:=hmem l hl;(hQ i l hi).1),by rw[hfl.1,hlen,ho.2,hL],fun i c v h1 h2=>hfl.2 i c h1 v (by simpa using h2)⟩
  ·rename_i fs ht
   simp only[QD,decide_eq_true_eq,Q1] at ho
   obtain ⟨xs,m,_,_,hlen,hxs,hget⟩:=DataW.trod_struct ht h
   obtain ⟨L,hL,hQ⟩:=DG (Q:=fun i l=>∀ f,fs[i]? = some f→Typed P f.type l∧l.length=min (P.cellsOf f.type) (cs.length-f.offset)∧∀ (j:Nat) (c:CV),l[j]? = some c→∀ v,cs[f.offset+j]? = some v→c.rep W noO v) fs.size (fun i hi=>by
     have hfi:fs[i]? = some fs[i]:=Q7 hi
     have hg:=hget i fs[i] hfi
     rw[QI (by omega)] at hg
     obtain ⟨cvs,g1,g2,g3⟩:=EW n _ _ _ _ (ho.1 fs[i] (by simp)) hg
     have hl2:cvs.length=min (P.cellsOf fs[i].type) (cs.length-fs[i].offset):=by rw[g2];simp
     refine ⟨cvs,fun f hf=>?_⟩
     rw[hfi] at hf;cases hf
     refine ⟨g1,hl2,fun j c hj v hv=>?_⟩
     have hjl:j<cvs.length:=(QH.1 hj).1
     exact g3 j c v hj (by rw[Z7,if_pos (by omega),X4];exact hv))
   have hoff:∀ (fs:List Field) (n N:Nat),J8 P fs n=some N→n≤N∧∀ (i:Nat) (f:Field),fs[i]? = some f→f.offset+P.cellsOf f.type≤N:=by
    intro fs
    induction fs with
    | nil=>intro n N h;simp only[J8,Option.some.injEq] at h;simp[h]
    | cons f fs ih =>
     intro n N h
     simp only[J8] at h
     split at h
     ·rename_i ho
      obtain ⟨h1,h2⟩:=ih _ _ h
      refine ⟨by omega,fun i f' hi=>?_⟩
      cases i with
      | zero=>simp at hi;subst hi;omega
      | succ i=>exact h2 i f' (by simpa using hi)
     ·cases h
   have hin:=(hoff _ _ _ ho.2).2
   have hl:∀ (i:Nat) (f:Field) (l:List CV),fs[i]? = some f→L[i]? = some l→l.length=P.cellsOf f.type:=by
    intro i f l hf hl
    obtain ⟨_,h2,_⟩:=hQ i l hl f hf
    have:=hin i f (by simpa using hf)
    omega
   have hfl:=A4 (P:=P) (R:=fun k c=>∀ v,cs[k]? = some v→c.rep W noO v) fs.toList L 0 ho.2 (by simpa using hL) (fun i f l hf hl' =>
    ⟨hl i f l (by simpa using hf) hl',fun j c hj=>(hQ i l hl' f (by simpa using hf)).2.2 j c hj⟩)
   exact ⟨L.flatten,Typed.struct ht L hL hl (fun i f l hf hl'=>(hQ i l hl' f hf).1),by have:=hfl.1;omega,fun i c v h1 h2=>hfl.2 i c h1 v (by simpa using h2)⟩
  ·cases ho
def avOf (P:Program) (t:TypeId) (cs:List CV):AV :=
 match P.underlying t with
 | some (.struct _) | some (.array _ _)=>.agg (cs.map .cv)
 | _=>.cv (cs.headD .nilp)
theorem DV:∀ (cvs:List CV) (vs:List Value),cvs.length=vs.length→(∀ (i:Nat) (c:CV) (v:Value),cvs[i]? = some c→vs[i]? = some v→c.rep W noO v)→QK nom noX W (cvs.map .cv) vs
 | [],[],_,_=>by simp[QK]
 | c::cvs,v::vs,hl,h=>by
  simp only[Q0,QK,VRel]
  exact ⟨h 0 c v rfl rfl,DV cvs vs (by simpa using hl) fun i c v h1 h2=>h (i+1) c v (by simpa using h1) (by simpa using h2)⟩
 | [],_::_,hl,_=>by simp at hl
 | _::_,[],hl,_=>by simp at hl
theorem QfB {n:Nat} {t:TypeId} {v:Value} {d:DataW H} {ps:List MemPlace} {r:Reach} {base:Nat} (ho:TG P n t=true) (hval:Value.okWide P W r base t v) (h:DataW.Trod enc P W 0 (fun _=>true) true t v d ps) :
  ∃ cs,Typed P t cs∧VRel nom noX W (avOf P t cs) v:=by
 obtain ⟨fuel,h⟩:=h
 obtain ⟨cvs,h1,h2,h3⟩:=EW n t _ _ _ ho h
 refine ⟨cvs,h1,?_⟩
 unfold avOf
 have one:(v.cells.toList=[v])→VRel nom noX W (.cv (cvs.headD .nilp)) v:=by
  intro hv
  rw[hv] at h2 h3
  match cvs,h2 with
  | [c],_=>simp only[List.headD_cons,VRel];exact h3 0 c v rfl rfl
 cases n with
 | zero=>simp[TG] at ho
 | succ n =>
  simp only[TG] at ho
  split at ho
  ·rename_i ht;rw[ht];obtain ⟨b,rfl⟩:=okWide_bool ht hval;exact one rfl
  ·rename_i ht;rw[ht];obtain ⟨b,rfl⟩:=okWide_int ht hval;exact one rfl
  ·rename_i ht;rw[ht];obtain ⟨b,rfl⟩:=okWide_string ht hval;exact one rfl
  ·rename_i ht;rw[ht];obtain ⟨_,_,_,rfl⟩:=okWide_slice ht hval;exact one rfl
  ·rename_i ht;rw[ht]
   simp only[Value.okWide,ht] at hval
   obtain ⟨arr,rfl,_⟩:=hval
   simp only[VRel]
   exact ⟨arr.toList,by simp,DV _ _ h2 h3⟩
  ·rename_i ht;rw[ht]
   simp only[Value.okWide,ht] at hval
   obtain ⟨arr,rfl,_⟩:=hval
   simp only[VRel]
   exact ⟨arr.toList,by simp,DV _ _ h2 h3⟩
  ·cases ho
inductive Args (P:Program):List TypeId→List AV→Prop
 | nil:Args P [] []
 | cons {t:TypeId} {ts:List TypeId} {cs:List CV} {avs:List AV} (h:Typed P t cs) (hs:Args P ts avs):Args P (t::ts) (avOf P t cs::avs)
theorem C1 {n:Nat} {r:Reach} {base:Nat}:∀ {ts:List TypeId} {vs:List Value} {ds:List (DataW H)} {ps:List MemPlace},(ts.all (TG P n))=true →
  (∀ (j:Nat) (t:TypeId) (v:Value),ts[j]? = some t→vs[j]? = some v→Value.okWide P W r base t v)→DataW.TrodAll enc P W 0 (fun _=>true) true ts vs ds ps →
  ds.length=ts.length∧∃ avs,Args P ts avs∧QK nom noX W avs vs
 | [],_,_,_,_,_,h=>by
  obtain ⟨rfl,rfl,rfl⟩:=trodAll_nil h
  exact ⟨rfl,[],.nil,by simp[QK]⟩
 | t::ts,_,_,_,ho,hval,h=>by
  obtain ⟨v,vs1,d,ds1,a,b,rfl,rfl,rfl,h1,h2⟩:=trodAll_cons h
  simp only[List.all_cons,QD] at ho
  obtain ⟨cs,g1,g2⟩:=QfB ho.1 (hval 0 t v rfl rfl) h1
  obtain ⟨hl,avs,g3,g4⟩:=C1 ho.2 (fun j t v h1 h2=>hval (j+1) t v (by simpa using h1) (by simpa using h2)) h2
  exact ⟨by simp[hl],_,.cons g1 g3,by simp only[QK];exact ⟨g2,g4⟩⟩
theorem LU (hl:laidOutB P=true) {W':World} (hb:Below W.heap.size W W'):∀ {ts:List TypeId} {vs:List Value} {ds:List (DataW H)} {ps:List MemPlace},(ts.all fun t=>P.readableRec t&&decide (t<P.types.size))=true →
  DataW.TrodAll enc P W 0 (fun _=>true) true ts vs ds ps→(∀ x∈ps,x.block<W.heap.size)→DataW.TrodAll enc P W' 0 (fun b=>decide (b<W.heap.size)) true ts vs ds ps
 | [],_,_,_,_,h,_=>by
  obtain ⟨rfl,rfl,rfl⟩:=trodAll_nil h
  exact trodAll_mk0
 | t::ts,_,_,_,ho,h,hlt=>by
  obtain ⟨v,vs1,d,ds1,a,b,rfl,rfl,rfl,h1,h2⟩:=trodAll_cons h
  simp only[List.all_cons,QD,decide_eq_true_eq] at ho
  refine trodAll_cons_mk (Below.trod hl ho.1.1 ho.1.2 h1 hb fun x hx=>hlt x (by simp[hx])) (LU hl hb ?_ h2 fun x hx=>hlt x (by simp[hx]))
  simpa using ho.2
theorem law_of_AC {f:FuncId} {fn:Func} {s:ChangeSpec} {n:Nat} {t:TypeId} {base:Nat} {args:Array Value} {ds gs:List (DataW H)} {before:List MemPlace}
  (hl:laidOutB P=true) (hpar:(fn.params.toList.all fun t=>P.readableRec t&&decide (t<P.types.size))=true) (ho:fn.params.toList.all (TG P n)=true)
  (hres:fn.resultTypes = #[t]) (htb:P.underlying t=some .bool) (hsv:s.vars=[]) (hs:∀ ds:List (DataW H),ds.length=fn.params.toList.length→s.fn H ds = { results:=[.lit (.bool true)],args:=ds })
  (hAC:∀ avs,Args P fn.params.toList avs→AC P f avs [] fun r _=>r=.b true)
  (hval:∀ (j:Nat) t v,fn.params[j]? = some t→args[j]? = some v→Value.okWide P W .any base t v) (hgl:GlOk nom noX W)
  (hW:DataW.Whole enc P fn.params.toList s.vars false W args.toList ds gs before) :
  Calls P f args W fun e W'=>∃ v,e=.returned v∧s.post enc P fn false true false false W args v W':=by
 have hW':=hW
 obtain ⟨p,q,hA,hV,rfl,hfz,hnd⟩:=hW
 rw[hsv] at hV
 obtain ⟨rfl,rfl⟩:=trodVars_none hV
 have hlt:∀ x∈p,x.block<W.heap.size:=fun x hx=>hW'.lt x (by simp[hx])
 obtain ⟨hlen,avs,hav,hrel⟩:=C1 ho (fun j t v h1 h2=>hval j t v (by simpa using h1) (by simpa using h2)) hA
 have hcall:=(hAC avs hav).2 nom noX W args.toList hrel ⟨by simp,by simp,by simp,by simp,by simp,hgl⟩
 have hcall:=callsIn_wide.1 hcall
 simp only[Array.toArray_toList] at hcall
 refine hcall.mono fun e W' ⟨c,r,σ',m',he,hq,hr,_,hst,_⟩=>?_
 subst he hq
 simp only[VRel,CV.rep] at hr
 subst hr
 have hb:Below W.heap.size W W':=⟨hst.os,hst.tape,hst.output,hst.size,fun k hk=>hst.fr k hk (.inr (by simp))⟩
 have hsf:s.fn H (ds++[]) = { results:=[.lit (.bool true)],args:=ds }:=by rw[ZU];exact hs ds hlen
 refine ⟨_,rfl,ds,[],p++[],[],p,[],hW',?_,?_,?_,hb.frame _,fun h=>by simp at h⟩
 ·rw[hsf,hres]
  exact trodAll_mk1 (shut_bool htb true)
 ·rw[hsf]
  exact LU hl hb hpar hA hlt
 ·rw[hsf,hsv]
  rfl
end
end Go.Proofs.YtpmokaefmcffaaaGreat.AM
namespace Go.Proofs.YtpmokaefmcffaaaGreat.AM
variable [Dr]
open Go
theorem QeV {P:Program} {t:TypeId} {k:IntKind} {cs:List CV} (ht:P.underlying t=some (.int k)) (h:Typed P t cs):∃ n,cs=[.int k n]∧(Lit.int k n).wf=true:=by
 cases h with
 | int ht' n hw=>rw[ht] at ht';cases ht';exact ⟨n,rfl,hw⟩
 | bool ht'=>rw[ht] at ht';cases ht'
 | str ht'=>rw[ht] at ht';cases ht'
 | slc ht'=>rw[ht] at ht';cases ht'
 | arr ht'=>rw[ht] at ht';cases ht'
 | struct ht'=>rw[ht] at ht';cases ht'
theorem typed_str {P:Program} {t:TypeId} {cs:List CV} (ht:P.underlying t=some .string) (h:Typed P t cs):∃ s:ByteArray,cs=[.str s]∧s.size≤maxLen:=by
 cases h with
 | str ht' s hs=>exact ⟨s,rfl,hs⟩
 | bool ht'=>rw[ht] at ht';cases ht'
 | int ht'=>rw[ht] at ht';cases ht'
 | slc ht'=>rw[ht] at ht';cases ht'
 | arr ht'=>rw[ht] at ht';cases ht'
 | struct ht'=>rw[ht] at ht';cases ht'
theorem QeU {P:Program} {t e:TypeId} {cs:List CV} (ht:P.underlying t=some (.slice e)) (h:Typed P t cs):∃ L:List (List CV),cs=[.rsl L.flatten L.length]∧L.length≤maxLen∧(∀ l∈L,l.length=P.cellsOf e)∧∀ l∈L,Typed P e l:=by
 cases h with
 | slc ht' L hn hl h=>rw[ht] at ht';cases ht';exact ⟨L,rfl,hn,hl,h⟩
 | bool ht'=>rw[ht] at ht';cases ht'
 | int ht'=>rw[ht] at ht';cases ht'
 | str ht'=>rw[ht] at ht';cases ht'
 | arr ht'=>rw[ht] at ht';cases ht'
 | struct ht'=>rw[ht] at ht';cases ht'
theorem typed_struct {P:Program} {t:TypeId} {fs:Array Field} {cs:List CV} (ht:P.underlying t=some (.struct fs)) (h:Typed P t cs):∃ L:List (List CV),cs=L.flatten∧L.length=fs.size∧∀ (i:Nat) (f:Field) (l:List CV),fs[i]? = some f→L[i]? = some l→Typed P f.type l:=by
 cases h with
 | struct ht' L hn hl h=>rw[ht] at ht';cases ht';exact ⟨L,rfl,hn,h⟩
 | bool ht'=>rw[ht] at ht';cases ht'
 | int ht'=>rw[ht] at ht';cases ht'
 | str ht'=>rw[ht] at ht';cases ht'
 | slc ht'=>rw[ht] at ht';cases ht'
 | arr ht'=>rw[ht] at ht';cases ht'
theorem Qdi {P:Program} {e:TypeId} {k:IntKind} (he:P.underlying e=some (.int k)):∀ L:List (List CV),(∀ l∈L,Typed P e l)→∃ zs:List Int,L.flatten=zs.map (.int k)∧L.length=zs.length∧∀ z∈zs,(Lit.int k z).wf=true
 | [],_=>⟨[],rfl,rfl,by simp⟩
 | l::L,h=>by
  obtain ⟨n,rfl,hn⟩:=QeV he (h l (by simp))
  obtain ⟨zs,h1,h2,h3⟩:=Qdi he L fun l hl=>h l (by simp[hl])
  exact ⟨n::zs,by simp[h1],by simp[h2],by simpa using ⟨hn,h3⟩⟩
theorem typed_ints {P:Program} {t e:TypeId} {k:IntKind} {cs:List CV} (ht:P.underlying t=some (.slice e)) (he:P.underlying e=some (.int k)) (h:Typed P t cs):∃ zs:List Int,cs=[.rsl (zs.map (.int k)) zs.length]∧zs.length<2 ^ 63∧∀ z∈zs,(Lit.int k z).wf=true:=by
 obtain ⟨L,rfl,hn,_,hl⟩:=QeU ht h
 obtain ⟨zs,h1,h2,h3⟩:=Qdi he L hl
 refine ⟨zs,by rw[h1,h2],?_,h3⟩
 rw[← h2];unfold maxLen at hn;omega
theorem wf_u8 {n:Int} (h:(Lit.int .u8 n).wf=true):0≤n∧n≤255:=by
 simp only[Lit.wf,QD,decide_eq_true_eq,IntKind.min,IntKind.max,IntKind.bits,IntKind.signed] at h
 simp at h;omega
theorem wf_u32 {n:Int} (h:(Lit.int .u32 n).wf=true):0≤n∧n≤4294967295:=by
 simp only[Lit.wf,QD,decide_eq_true_eq,IntKind.min,IntKind.max,IntKind.bits,IntKind.signed] at h
 simp at h;omega
theorem args_cons {P:Program} {t:TypeId} {ts:List TypeId} {avs:List AV} (h:Args P (t::ts) avs):∃ cs avs',avs=avOf P t cs::avs'∧Typed P t cs∧Args P ts avs':=by
 generalize hts:t::ts=u at h
 cases h with
 | nil=>cases hts
 | cons h1 h2=>cases hts;exact ⟨_,_,rfl,h1,h2⟩
theorem args_nil {P:Program} {avs:List AV} (h:Args P [] avs):avs=[]:=by
 generalize hts:([]:List TypeId)=u at h
 cases h with
 | nil=>rfl
 | cons h1 h2=>cases hts
end Go.Proofs.YtpmokaefmcffaaaGreat.AM
namespace Go.Proofs.YtpmokaefmcffaaaGreat.AM
variable [Dr]
open Go Pl
theorem typed_list {α:Type} {f:α→List CV} {p:α→Prop} {t:TypeId} (h:∀ cs,Typed Tryz.prog t cs→∃ x,cs=f x∧p x):∀ L:List (List CV),(∀ l∈L,Typed Tryz.prog t l)→∃ xs:List α,L.flatten=xs.flatMap f∧L.length=xs.length∧∀ x∈xs,p x
 | [],_=>⟨[],rfl,rfl,by simp⟩
 | l::L,hl=>by
  obtain ⟨x,h1,h2⟩:=h l (hl l (by simp))
  obtain ⟨xs,g1,g2,g3⟩:=typed_list h L fun l hh=>hl l (by simp[hh])
  exact ⟨x::xs,by simp[h1,g1],by simp[g2],by simpa using ⟨h2,g3⟩⟩
theorem get_of {α:Type} [Inhabited α] {p:α→Prop} {l:List α} (h:∀ x∈l,p x) (i:Nat) (hi:i<l.length):p l[i]! := by
 rw[getElem!_pos l i hi]
 exact h _ (Q2 hi)
theorem typed_i {cs:List CV} (h:Typed Tryz.prog 3 cs):∃ x:Int,cs=[.int .i64 x]:=by
 obtain ⟨n,rfl,_⟩:=QeV Tryz.underlying3 h
 exact ⟨n,rfl⟩
theorem typed_row {cs:List CV} (h:Typed Tryz.prog 26 cs):∃ zs:List Int,cs=[rowC zs]∧zs.length<2 ^ 63:=by
 obtain ⟨zs,h1,h2,_⟩:=typed_ints Tryz.underlying26 Tryz.underlying3 h
 exact ⟨zs,h1,h2⟩
theorem typed_les {cs:List CV} (h:Typed Tryz.prog 45 cs):∃ l:Les,cs=lesC l∧True:=by
 obtain ⟨L,rfl,hn,hf⟩:=typed_struct Tryz.underlying45 h
 match L,hn with
 | [a,b,c,d,e,f,g],_ =>
  obtain ⟨n1,rfl⟩:=typed_i (hf 0 _ a rfl rfl)
  obtain ⟨n2,rfl⟩:=typed_i (hf 1 _ b rfl rfl)
  obtain ⟨n3,rfl⟩:=typed_i (hf 2 _ c rfl rfl)
  obtain ⟨n4,rfl⟩:=typed_i (hf 3 _ d rfl rfl)
  obtain ⟨n5,rfl⟩:=typed_i (hf 4 _ e rfl rfl)
  obtain ⟨n6,rfl⟩:=typed_i (hf 5 _ f rfl rfl)
  obtain ⟨n7,rfl⟩:=typed_i (hf 6 _ g rfl rfl)
  exact ⟨⟨n1,n2,n3,n4,n5,n6,n7⟩,rfl,trivial⟩
theorem typed_dyc {cs:List CV} (h:Typed Tryz.prog 32 cs):∃ d:Dy,cs=[minR d.mi,lesR d.ls]∧DSz d:=by
 obtain ⟨L,rfl,hn,hf⟩:=typed_struct Tryz.underlying32 h
 match L,hn with
 | [a,b],_ =>
  obtain ⟨L1,rfl,n1,_,h1⟩:=QeU Tryz.underlying29 (hf 0 _ a rfl rfl)
  obtain ⟨L2,rfl,n2,_,h2⟩:=QeU Tryz.underlying30 (hf 1 _ b rfl rfl)
  obtain ⟨m,a1,a2,a3⟩:=typed_list (f:=fun zs:List Int=>[rowC zs]) (p:=fun zs=>zs.length<2 ^ 63) (fun cs h=>typed_row h) L1 h1
  obtain ⟨ls,b1,b2,_⟩:=typed_list (fun cs h=>typed_les h) L2 h2
  have hm:maxLen<2 ^ 63:=by decide
  refine ⟨⟨m,ls⟩,?_,⟨by show m.length<_;omega,by show ls.length<_;omega,get_of a3⟩⟩
  simp only[minR,lesR,F0,a1,b1,a2,b2,List.map_eq_flatMap,List.flatten_cons,List.flatten_nil,ZU,List.cons_append,List.nil_append]
theorem typed_cls {cs:List CV} (h:Typed Tryz.prog 140 cs):∃ c:Cls,cs=clsC c∧c.nm.size<2 ^ 63∧c.inc.length<2 ^ 63:=by
 obtain ⟨L,rfl,hn,hf⟩:=typed_struct Tryz.underlying140 h
 match L,hn with
 | [a,b,c,d,e],_ =>
  obtain ⟨s,rfl,h1⟩:=typed_str Tryz.underlying9 (hf 0 _ a rfl rfl)
  obtain ⟨zs,rfl,hz⟩:=typed_row (hf 1 _ b rfl rfl)
  obtain ⟨n1,rfl⟩:=typed_i (hf 2 _ c rfl rfl)
  obtain ⟨n2,rfl⟩:=typed_i (hf 3 _ d rfl rfl)
  obtain ⟨n3,rfl⟩:=typed_i (hf 4 _ e rfl rfl)
  have hm:maxLen<2 ^ 63:=by decide
  exact ⟨⟨s,zs,n1,n2,n3⟩,rfl,by show s.size<_;omega,hz⟩
theorem typed_sysc {cs:List CV} (h:Typed Tryz.prog 25 cs):∃ s:Sys,cs=[clsR s.cl,strR s.co]∧SSz s:=by
 obtain ⟨L,rfl,hn,hf⟩:=typed_struct Tryz.underlying25 h
 match L,hn with
 | [a,b],_ =>
  obtain ⟨L1,rfl,n1,_,h1⟩:=QeU Tryz.underlying22 (hf 0 _ a rfl rfl)
  obtain ⟨L2,rfl,n2,_,h2⟩:=QeU Tryz.underlying23 (hf 1 _ b rfl rfl)
  obtain ⟨cs,a1,a2,a3⟩:=typed_list (fun cs h=>typed_cls h) L1 h1
  obtain ⟨co,b1,b2,b3⟩:=typed_list (f:=fun x:ByteArray=>[CV.str x]) (p:=fun x=>x.size<2 ^ 63) (fun cs h=>by
   obtain ⟨x,rfl,hx⟩:=typed_str Tryz.underlying9 h
   have hm:maxLen<2 ^ 63:=by decide
   exact ⟨x,rfl,by omega⟩) L2 h2
  have hm:maxLen<2 ^ 63:=by decide
  refine ⟨⟨cs,co⟩,?_,⟨by show cs.length<_;omega,by show co.length<_;omega,fun i hi=>(get_of a3 i hi).1,fun i hi=>(get_of a3 i hi).2,fun i hi=>?_⟩⟩
  ·simp only[clsR,strR,DZ,a1,b1,a2,b2,List.map_eq_flatMap,List.flatten_cons,List.flatten_nil,ZU,List.cons_append,List.nil_append]
  ·have hi:i<co.length:=hi
   show (co[i]!).size<_
   rw[getElem!_pos co i hi]
   exact b3 _ (Q2 hi)
theorem typed_rg {cs:List CV} (h:Typed Tryz.prog 179 cs):∃ r:Rt,cs=rgC r∧True:=by
 obtain ⟨L,rfl,hn,hf⟩:=typed_struct Tryz.underlying179 h
 match L,hn with
 | [a,b],_ =>
  obtain ⟨n1,rfl⟩:=typed_i (hf 0 _ a rfl rfl)
  obtain ⟨n2,rfl⟩:=typed_i (hf 1 _ b rfl rfl)
  exact ⟨(n1,n2),rfl,trivial⟩
theorem typed_tch {cs:List CV} (h:Typed Tryz.prog 147 cs):∃ t:Tch,cs=tchC t∧t.rg.length<2 ^ 63:=by
 obtain ⟨L,rfl,hn,hf⟩:=typed_struct Tryz.underlying147 h
 match L,hn with
 | [a,b,c],_ =>
  obtain ⟨L1,rfl,n1,_,h1⟩:=QeU Tryz.underlying145 (hf 0 _ a rfl rfl)
  obtain ⟨l,a1,a2,_⟩:=typed_list (fun cs h=>typed_rg h) L1 h1
  obtain ⟨n1,rfl⟩:=typed_i (hf 1 _ b rfl rfl)
  obtain ⟨n2,rfl⟩:=typed_i (hf 2 _ c rfl rfl)
  have hm:maxLen<2 ^ 63:=by decide
  refine ⟨⟨l,n1,n2⟩,?_,by show l.length<_;omega⟩
  rw[a1,a2];rfl
theorem typed_car {cs:List CV} (h:Typed Tryz.prog 150 cs):∃ c:Car,cs=carC c∧True:=by
 obtain ⟨L,rfl,hn,hf⟩:=typed_struct Tryz.underlying150 h
 match L,hn with
 | [a,b],_ =>
  obtain ⟨n1,rfl⟩:=typed_i (hf 0 _ a rfl rfl)
  obtain ⟨n2,rfl⟩:=typed_i (hf 1 _ b rfl rfl)
  exact ⟨⟨n1,n2⟩,rfl,trivial⟩
theorem typed_pln {cs:List CV} (h:Typed Tryz.prog 34 cs):∃ p:Pln,avOf Tryz.prog 34 cs=plnV p∧PSz p:=by
 obtain ⟨L,rfl,hn,hf⟩:=typed_struct Tryz.underlying34 h
 match L,hn with
 | [a,b,c,d,e],_ =>
  obtain ⟨s,rfl,hs⟩:=typed_sysc (hf 0 _ a rfl rfl)
  obtain ⟨le,rfl,hle⟩:=typed_row (hf 1 _ b rfl rfl)
  obtain ⟨L1,rfl,n1,_,h1⟩:=QeU Tryz.underlying27 (hf 2 _ c rfl rfl)
  obtain ⟨L2,rfl,n2,_,h2⟩:=QeU Tryz.underlying28 (hf 3 _ d rfl rfl)
  obtain ⟨y,rfl,hy⟩:=typed_dyc (hf 4 _ e rfl rfl)
  obtain ⟨te,a1,a2,a3⟩:=typed_list (fun cs h=>typed_tch h) L1 h1
  obtain ⟨ca,b1,b2,_⟩:=typed_list (fun cs h=>typed_car h) L2 h2
  have hm:maxLen<2 ^ 63:=by decide
  refine ⟨⟨s,le,te,ca,y⟩,?_,⟨hs,hle,by show te.length<_;omega,by show ca.length<_;omega,get_of a3,hy⟩⟩
  simp only[avOf,Tryz.underlying34,a1,b1,a2,b2]
  rfl
theorem typed_sta {cs:List CV} (h:Typed Tryz.prog 38 cs):∃ (zs:List Int) (L:Int),avOf Tryz.prog 38 cs=stV zs L∧zs.length<2 ^ 63∧(∀ i,i<zs.length→0≤gI zs i∧gI zs i≤255)∧0≤L∧L≤4294967295:=by
 obtain ⟨L,rfl,hn,hf⟩:=typed_struct Tryz.underlying38 h
 match L,hn with
 | [a,b],_ =>
  obtain ⟨zs,rfl,h1,h2⟩:=typed_ints Tryz.underlying35 Tryz.underlying5 (hf 0 _ a rfl rfl)
  obtain ⟨n,rfl,hw⟩:=QeV Tryz.underlying36 (hf 1 _ b rfl rfl)
  refine ⟨zs,n,by simp only[avOf,Tryz.underlying38];rfl,h1,fun i hi=>?_,?_⟩
  ·have:=wf_u8 (h2 _ (Qcs hi))
   exact this
  ·exact wf_u32 hw
theorem frz_get {q:CV→Prop} {σ:List AObj}:∀ {as_ bs:List AV},KS q σ as_ bs→∀ i,FrzV q σ (as_.getD i .undef) (bs.getD i .undef)
 | _,_,.nil,i=>by simp only[List.getD_nil];exact .un _
 | _,_,.cons h hs,0=>by simpa[List.getD] using h
 | _,_,.cons h hs,i+1=>by simpa[List.getD] using frz_get hs i
abbrev plnR (p:Pln):List CV:=[clsR p.sys.cl,strR p.sys.co,rowC p.le,tchR p.te,carR p.ca,minR p.day.mi,lesR p.day.ls]
abbrev xR (zs:List Int) (L:Int):List CV:=[.rsl (zs.map (.int .u8)) zs.length,.int .u32 L]
abbrev F3₀ (p:Pln) (zs:List Int) (L:Int) (m:Nat) (ts ks:List Int):List AV :=
 [plnV p,stV zs L,.cv (.rp (plnR p) 0),.cv (.rp (xR zs L) 0),.b false,.cv (.rp [rowC ts,rowC ks] 0),.i m,.undef,.undef,.undef,.undef,.undef,.undef,.undef,.undef,.undef,.undef,.undef,.undef,.undef,.undef,.undef,.undef,.undef,.undef,.undef,.undef,.undef,.undef,.undef,.undef,.undef,.undef,.undef,.undef,.undef,.undef,.undef,.undef,.undef]
set_option maxHeartbeats 1000000 in
theorem law3 (p:Pln) (hp:PSz p) (zs:List Int) (L:Int) (hzl:zs.length<2 ^ 63) (hz:∀ i,i<zs.length→0≤gI zs i∧gI zs i≤255) (hL:0≤L∧L≤4294967295):AC Tryz.prog 3 [plnV p,stV zs L] [] fun r _=>r=.b true:=by
 refine AC_SW (fok3 true) (QC rfl) ?_
 simp only[ic3]
 refine SW_seq ?_
 simp only[WI,cellsOf,kSW_n,evA,simprocAttr]
 refine SW_seq ?_
 simp only[kSW_n,evA,simprocAttr]
 refine (le52 p hp).call frz ?_
 by_cases he:plnE p=0
 rotate_left
 ·have hb:(plnE p != 0)=true:=by simpa using he
  simp only[hb,kSW_n,kSW_r,evA,simprocAttr]
  refine (awake _).run ?_
  simp only[kSW_n,kSW_r,evA,simprocAttr]
 have hok:=Qdc he
 have n0:((0:Int) != 0)=false:=by decide
 by_cases hte:p.te.length=0
 ·have hb:((p.te.length:Int) == 0)=true:=by rw[hte];rfl
  simp only[he,n0,hb,kSW_n,kSW_r,evA,simprocAttr]
  refine (awake _).run ?_
  simp only[kSW_n,kSW_r,evA,simprocAttr]
 have hb:((p.te.length:Int) == 0)=false:=beq_eq_false_iff_ne.2 (by omega)
 simp only[he,n0,hb,kSW_n,kSW_r,evA,simprocAttr]
 refine SW_seq ?_
 simp only[kSW_n,evA,simprocAttr]
 refine SW_seq ?_
 obtain ⟨m,hm⟩:∃ m,m=min 6 p.te.length:=⟨_,rfl⟩
 have hmin:(if (p.te.length:Int)<6 then (p.te.length:Int) else 6)=(m:Int):=by
  split <;> omega
 simp only[DJ,hmin,kSW_n,evA,simprocAttr]
 refine SW_seq ?_
 simp only[kSW_n,evA,simprocAttr]
 refine lo5 p zs L hzl hz m (by omega) _ ⟨rfl,rfl,rfl,.inl ⟨rfl,rfl,rfl⟩,by simp⟩ ?_
 intro v8 v26 H vT hH
 have hK:=hH.kn
 clear hH
 generalize H.length=B at hK
 simp only[V3₀,kSW_n,evA,simprocAttr]
 refine SW_seq ?_
 simp only[kSW_n,evA,simprocAttr]
 refine lo4 p hp he zs L m (by omega) B H vT _ hK v8 v26 ?_
 clear hK H
 intro v10 v11 v12 v13 v14 v15 v28 v29 v30 v31 v32 G vK hG
 have hd:=draw_ok p zs (m:=m) (k:=p.le.length) (by omega) (by omega) hok.le
 simp only[V3₀,kSW_n,evA,simprocAttr]
 have hkl:(knL p m p.le.length).length=p.le.length:=knL_len _ _ _
 have htl:(tmL zs m).length=m:=tmL_len _ _
 have hkg:∀ j,j<p.le.length→(knL p m p.le.length)[j]?.getD 0=((ofF (hkB p j) m:Nat):Int):=fun j hj=>knL_get hj
 generalize tmL zs m=ts at *
 generalize knL p m p.le.length=ks at *
 refine SW.weak (s':=⟨F3₀ p zs L m ts ks,[]⟩) (Weak.freeze rfl (frz_get (.cons (GE (k:=0) _ rfl) (.cons (GE (k:=0) _ rfl) (.cons (.c (.ptr 0 0 _ _ hG.r0 (.cons (.c _ trivial) (.cons (.c _ trivial) (.cons (.c _ trivial) (.cons (.c _ trivial) (.cons (.c _ trivial) (.cons (.c _ trivial) (.cons (.c _ trivial) .nil))))))))) (.cons (.c (.ptr 1 0 _ _ hG.r1 (.cons (.c _ trivial) (.cons (.c _ trivial) .nil)))) (.cons (.c (.c _ trivial)) (.cons (.c (.ptr 2 0 _ _ hG.r2 (.cons hG.frzT (.cons (accF_frz (fun _=>trivial) hG.aK) .nil)))) (.cons (.c (.c _ trivial)) (.cons (.un _) (.cons (.un _) (.cons (.un _) (.cons (.un _) (.cons (.un _) (.cons (.un _) (.cons (.un _) (.cons (.un _) (.cons (.un _) (.cons (.un _) (.cons (.un _) (.cons (.un _) (.cons (.un _) (.cons (.un _) (.cons (.un _) (.cons (.un _) (.cons (.un _) (.cons (.un _) (.cons (.un _) (.cons (.un _) (.cons (.un _) (.cons (.un _) (.cons (.un _) (.cons (.un _) (.cons (.un _) (.cons (.un _) (.cons (.un _) (.cons (.un _) (.cons (.un _) (.cons (.un _) (.cons (.un _) (.cons (.un _) (.cons (.un _) .nil)))))))))))))))))))))))))))))))))))))))))) ?_
 clear hG
 have h28:=fun n=>c28_ok ts ks n (by omega) (by have:=hok.le;omega) hd
 have h32:=c32_ok ts ks (by omega) (by have:=hok.le;omega) (checkV_ok hd) hd
 have hcv:IntKind.i64.wrap L=L:=ZC (by omega)
 obtain ⟨n,hn,hn2⟩:∃ n:Int,L.tmod 2147483647=n∧0≤n∧n≤2147483646:=by
  refine ⟨_,rfl,Int.tmod_nonneg _ hL.1,?_⟩
  have:=Int.tmod_lt_of_pos L (show (0:Int)<2147483647 by decide)
  omega
 have h28:=h28 n
 unfold pickV at h28
 rw[if_neg (by omega)] at h28
 have hnz:¬ ((2147483647:Int)=0):=by decide
 refine SW_of ?_
 have e90:((9:Int) != 0)=true:=by decide
 have e99:((9:Int) != 9)=false:=by decide
 have e9z:((9:Int) == 0)=false:=by decide
 have hl8:=hok.le
 have hkl8:ks.length≤8:=by omega
 by_cases hw:waysF ks ks.length ts=0
 ·obtain ⟨s,hs,hsq,hls,_⟩:=short_min hd hw
  rw[if_pos hw] at h28
  rw[hsq] at h32
  have hp8:(2:Nat) ^ ks.length≤2 ^ 8:=Nat.pow_le_pow_right (by omega) hkl8
  have hsl:=setL_len ks.length s
  have hne:=lack_ne s hls
  have hln:0<(setL ks.length s).length:=List.length_pos_iff.2 hne
  have hfull:=sumT_set hs
  have hsle:=fun i=>sumT_le (setL ks.length s) i
  rw[hfull] at hsle
  have hget:∀ i,i<(setL ks.length s).length→∃ t:Nat,(setL ks.length s)[i]?.getD 0=(t:Int)∧t<ks.length∧s.testBit t=true:=fun i hi=>by
   have hm:(setL ks.length s)[i]∈setL ks.length s:=Q2 hi
   obtain ⟨t,h1,h2,h3⟩:=setL_mem.1 hm
   exact ⟨t,by rw[QI hi];exact h3,h1,h2⟩
  have hlt:=fun i j (hj:j<i) (hi:i<(setL ks.length s).length)=>setL_less hj hi
  have hsucc:=fun i (hi:i<(setL ks.length s).length)=>sumT_succ hi
  have hs0:sumT (setL ks.length s) 0=0:=by simp[sumT]
  have h43:=c43 hd s (by omega)
  rw[lack_eq] at hls
  rw[hls] at h43
  generalize setL ks.length s=zz at *
  have hz0:((zz.length:Int) == 0)=false:=beq_eq_false_iff_ne.2 (by omega)
  have bff:(false != false)=false:=rfl
  simp only[hcv,hnz,hn,evA,simprocAttr]
  refine h28.call frz ?_
  simp only[evA,simprocAttr]
  refine h32.call ?_
  simp only[n0,e90,e99,e9z,hz0,bff,evA,simprocAttr]
  refine ZW zz.length (fun i st=>∃ v35 v36,st=⟨[plnV p,stV zs L,.cv (.rp (plnR p) 0),.cv (.rp (xR zs L) 0),.b false,.cv (.rp [rowC ts,rowC ks] 0),.i m,.undef,.undef,.undef,.undef,.undef,.undef,.undef,.undef,.undef,ints [],.i 9,ints zz,.i 0,.i (sumT zz i:Nat),.i i,.undef,.undef,.undef,.undef,.undef,.undef,.undef,.undef,.undef,.undef,.undef,.b false,.b true,v35,v36,.undef,.undef,.undef],[]⟩) ?_ 0 (QF _) ⟨_,_,by rw[hs0];rfl⟩
  rintro i st hi ⟨v35,v36,rfl⟩
  by_cases h:i<zz.length
  ·obtain ⟨t,hzt,htk,htb⟩:=hget i h
   have hws:IntKind.i64.wrap ((i:Int)+1)=((i+1:Nat):Int):=Q6 (by omega)
   have hst:=hsucc i h
   rw[hzt,Int.toNat_natCast] at hst
   have hle1:=hsle (i+1)
   have hadd:IntKind.i64.wrap ((sumT zz i:Int)+((2 ^ t:Nat):Int))=((sumT zz (i+1):Nat):Int):=by
    rw[hst]
    generalize 2 ^ t=p at *
    rw[ZC (by omega)];rfl
   have ht0:¬ ((t:Int)<0):=by omega
   have htg:decide ((t:Int)≥(ks.length:Int))=false:=decide_eq_false (by omega)
   simp only[ic3l1,QJ,h,evA,simprocAttr]
   refine DW_s [] [] hmix (by kernel_rfl) rfl ?_
   by_cases hi0:i=0
   ·have hg0:decide ((i:Int)>0)=false:=decide_eq_false (by omega)
    simp only[QJ,h,J5 h,J4 h,WA,hzt,ht0,htg,hg0,evA,simprocAttr]
    refine (c44 t (by omega)).call frz ?_
    simp only[hadd,hws,evA,simprocAttr]
    exact ZL (by first | trivial | omega) ⟨_,_,rfl⟩
   ·have hg0:decide ((i:Int)>0)=true:=decide_eq_true (by omega)
    obtain ⟨u,hu,_,_⟩:=hget (i-1) (by omega)
    have hul:=hlt i (i-1) (by omega) h
    rw[hzt,hu] at hul
    have hle:decide ((t:Int)≤(u:Int))=false:=decide_eq_false (by omega)
    have hwm:IntKind.i64.wrap ((i:Int)-1)=((i-1:Nat):Int):=by rw[ZC (by omega)];omega
    have h':i-1<zz.length:=by omega
    simp only[QJ,h,h',J5 h,J4 h,J5 h',J4 h',WA,hzt,hu,hle,hwm,ht0,htg,hg0,evA,simprocAttr]
    refine (c44 t (by omega)).call frz ?_
    simp only[hadd,hws,evA,simprocAttr]
    exact ZL (by first | trivial | omega) ⟨_,_,rfl⟩
  have:i=zz.length:=by omega
  subst this
  simp only[ic3l1,QJ,h,hfull,evA,simprocAttr]
  refine h43.call frz ?_
  simp only[evA,simprocAttr]
  refine (awake _).run ?_
  simp only[evA,simprocAttr]
 ·have hwb:=(waysF_bounds ks ks.length ts hd.tl.2).1
  rw[if_neg hw] at h28
  have hsq:shortQ ts ks=[]:=by unfold shortQ;rw[if_neg hw]
  rw[hsq] at h32
  have hn0:0≤n % waysF ks ks.length ts:=Int.emod_nonneg _ hw
  have hnl:n % waysF ks ks.length ts<waysF ks ks.length ts:=Int.emod_lt_of_pos _ (by omega)
  obtain ⟨hA,_⟩:=pick_A (ks:=ks) ks.length ts (n % waysF ks ks.length ts) hn0 hnl
  have hAl:=hA.length
  have hat:=allow_at hA (QG _)
  generalize pickF ks ks.length ts (n % waysF ks ks.length ts)=ls at *
  have z0:((0:Int) == 0)=true:=rfl
  have btt:(true != true)=false:=rfl
  have hll:((ls.length:Int) != (p.le.length:Int))=false:=by rw[hAl,hkl];simp
  simp only[hcv,hnz,hn,evA,simprocAttr]
  refine h28.call frz ?_
  simp only[evA,simprocAttr]
  refine h32.call ?_
  simp only[n0,z0,btt,hll,evA,simprocAttr]
  refine ZW p.day.ls.length (fun i st=>∃ v23 v38 v39 H,st=⟨[plnV p,stV zs L,.cv (.rp (plnR p) 0),.cv (.rp (xR zs L) 0),.b false,.cv (.rp [rowC ts,rowC ks] 0),.i m,.undef,.undef,.undef,.undef,.undef,.undef,.undef,.undef,.undef,ints ls,.i 0,ints [],.i 0,.undef,.undef,.i i,v23,.undef,.undef,.undef,.undef,.undef,.undef,.undef,.undef,.undef,.b false,.b false,.undef,.undef,.b false,v38,v39],H⟩) ?_ 0 (QF _) ⟨_,_,_,_,rfl⟩
  rintro i st hi ⟨v23,v38,v39,H,rfl⟩
  by_cases h:i<p.day.ls.length
  rotate_left
  ·simp only[ic3l0,QJ,h,evA,simprocAttr]
   refine (awake _).run ?_
   simp only[evA,simprocAttr]
  have h12:=hok.day.l12
  have hws:IntKind.i64.wrap ((i:Int)+1)=((i+1:Nat):Int):=Q6 (by omega)
  have hwho:=hok.who i h
  have hlo:=hok.day.les i h
  have hkof:=fun k t=>hk_of hok h (k:=k) (t:=t)
  have ia:=F5 h
  have hld:=MR h
  generalize p.day.ls[i]! = y at *
  obtain ⟨y1,y2,y3,y4,y5,y6,y7⟩:=y
  have hb1:=hlo.le
  have hb2:=hlo.te
  simp only at hwho hb1 hb2 hkof hld
  obtain ⟨a,ha⟩:∃ a:Nat,y1=(a:Int):=⟨y1.toNat,by omega⟩
  obtain ⟨b,hb⟩:∃ b:Nat,y2=(b:Int):=⟨y2.toNat,by omega⟩
  subst ha hb
  have hal:a<ls.length:=by omega
  obtain ⟨j,hj1,hj2,hj3⟩:=hat a (by omega)
  rw[Nat.sub_self,ZV,hkg a (by omega),Int.toNat_natCast,ofF_bit] at hj3
  have hjm:j<m:=by omega
  rw[decide_eq_true hjm,XI] at hj3
  have hne:(((j:Nat):Int) == ((b:Nat):Int))=false:=by
   rw[beq_eq_false_iff_ne]
   intro e
   have e:j=b:=by omega
   subst e
   rw[hkof a j rfl rfl] at hj3
   cases hj3
  have hlg:ls[a]?.getD 0=(j:Int):=by rw[hj1];rfl
  simp only[ic3l0,QJ,h,ia,hld,WW,VW,evA,simprocAttr]
  refine DW_s [] [] hmix (by kernel_rfl) rfl ?_
  simp only[WW,J5 hal,J4 hal,WA,hlg,hne,hws,evA,simprocAttr]
  exact ZL (by first | trivial | omega) ⟨_,_,_,_,rfl⟩
theorem law_TopKnown (avs:List AV) (h:Args Tryz.prog Tryz.f3.params.toList avs):AC Tryz.prog 3 avs [] fun r _=>r=.b true:=by
 have h:Args Tryz.prog [34,38] avs:=h
 obtain ⟨cs1,avs,rfl,h1,h⟩:=args_cons h
 obtain ⟨cs2,avs,rfl,h2,h⟩:=args_cons h
 cases args_nil h
 obtain ⟨p,e1,hp⟩:=typed_pln h1
 obtain ⟨zs,L,e2,hzl,hz,hL⟩:=typed_sta h2
 rw[e1,e2]
 exact law3 p hp zs L hzl hz hL
end Go.Proofs.YtpmokaefmcffaaaGreat.AM

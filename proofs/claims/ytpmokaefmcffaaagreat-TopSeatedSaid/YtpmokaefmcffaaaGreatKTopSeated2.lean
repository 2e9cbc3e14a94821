/- Parts of the proof of TopSeated. -/
import Derived.Test.YtpmokaefmcffaaaGreatKTopSeated1
set_option linter.unusedVariables false
set_option linter.unusedSimpArgs false
set_option linter.unusedSectionVars false
namespace Go.Proofs.YtpmokaefmcffaaaGreat.Pl
theorem cnt_pos_of {n k:Nat} {P:Nat→Bool} (hk:k<n) (h:P k=true):0<cnt n P:=by
 by_cases h0:cnt n P=0
 ·have:=cnt_lt (P:=fun _=>false) (Q:=P) (n:=n) (fun _ _ h=>by simp at h) hk rfl h
  omega
 ·omega
theorem cnt_or {n:Nat} {P Q:Nat→Bool} (h:∀ i,i<n→P i=true→Q i=false):cnt n (fun i=>P i||Q i)=cnt n P+cnt n Q:=by
 induction n with
 | zero=>rfl
 | succ n ih =>
  have h1:=ih (fun i hi=>h i (by omega))
  have h2:=h n (by omega)
  simp only[cnt,h1]
  have key:∀ a b:Bool,(a=true→b=false)→(if (a||b)=true then 1 else 0)=(if a=true then 1 else 0)+(if b=true then 1 else 0):=by decide
  have:=key (P n) (Q n) h2
  omega
theorem sum_pos {m:Nat} {f:Nat→Nat} (h:0<sumTo m f):∃ i,i<m∧0<f i:=by
 induction m with
 | zero=>simp[sumTo] at h
 | succ m ih =>
  simp only[sumTo] at h
  by_cases h1:0<f m
  ·exact ⟨m,by omega,h1⟩
  ·obtain ⟨i,hi,h2⟩:=ih (by omega)
   exact ⟨i,by omega,h2⟩
theorem sum_congr {m:Nat} {f g:Nat→Nat} (h:∀ c,c<m→f c=g c):sumTo m f=sumTo m g :=
 Nat.le_antisymm (Qc0 fun c hc=>Nat.le_of_eq (h c hc)) (Qc0 fun c hc=>Nat.le_of_eq (h c hc).symm)
theorem sum_less {m x:Nat} {f g:Nat→Nat} (h:∀ c,c<m→c≠x→f c=g c) (hx:f x≤g x+1):sumTo m f≤sumTo m g+1:=by
 induction m with
 | zero=>simp[sumTo]
 | succ m ih =>
  have:=ih (fun c hc=>h c (by omega))
  simp only[sumTo]
  by_cases e:m=x
  ·subst e
   have:sumTo m f=sumTo m g:=sum_congr fun c hc=>h c (by omega) (by omega)
   omega
  ·have:=h m (by omega) e;omega
def nb (N:Nat) (can:Nat→Nat→Bool) (S:Nat→Bool) (i:Nat):Bool:=decide (0<cnt N fun t=>S t&&can t i)
def capOf (E:Nat) (k:Nat→Nat) (B:Nat→Bool):Nat:=sumTo E fun i=>if B i then k i else 0
theorem nb_iff {N:Nat} {can:Nat→Nat→Bool} {S:Nat→Bool} {i:Nat}:nb N can S i=true↔∃ t,t<N∧S t=true∧can t i=true:=by
 unfold nb
 rw[decide_eq_true_eq]
 constructor
 ·intro h
  obtain ⟨t,ht,h1⟩:=M5 h
  simp only[QD] at h1
  exact ⟨t,ht,h1⟩
 ·rintro ⟨t,ht,h1,h2⟩
  exact cnt_pos_of ht (by simp[h1,h2])
def Serves (N E:Nat) (can:Nat→Nat→Bool) (T:Nat→Bool) (k:Nat→Nat) (f:Nat→Nat):Prop :=
 (∀ t,t<N→T t=true→f t<E∧can t (f t)=true)∧∀ i,i<E→cnt N (fun t=>T t&&f t == i)≤k i
theorem hall {N E:Nat} {can:Nat→Nat→Bool}:∀ m (T:Nat→Bool) (k:Nat→Nat),cnt N T≤m→(∀ S:Nat→Bool,(∀ t,t<N→S t=true→T t=true)→cnt N S≤capOf E k (nb N can S))→∃ f,Serves N E can T k f:=by
 intro m
 induction m with
 | zero =>
  intro T k hm _
  refine ⟨fun _=>0,fun t ht h=>?_,fun i _=>?_⟩
  ·have:=cnt_pos_of ht h;omega
  ·have:cnt N (fun t=>T t&&(0 == i))≤cnt N T:=cnt_mono fun t _ h=>by simp only[QD] at h;exact h.1
   have e:cnt N (fun t=>T t&&((fun _=>0) t == i))=cnt N (fun t=>T t&&(0 == i)):=rfl
   omega
 | succ m ih =>
  intro T k hm hS
  by_cases hx:∃ S0₀:Nat→Bool,(∀ t,t<N→S0₀ t=true→T t=true)∧0<cnt N S0₀∧cnt N S0₀<cnt N T∧capOf E k (nb N can S0₀)≤cnt N S0₀
  ·obtain ⟨S0₀,h1,h2,h3,h4⟩:=hx
   obtain ⟨f0,a1,a2⟩:=ih S0₀ k (by omega) (fun S h=>hS S fun t ht hs=>h1 t ht (h t ht hs))
   have hsplit:cnt N T=cnt N S0₀+cnt N (fun t=>T t && !S0₀ t):=by
    rw[← cnt_or (fun t _ h=>by simp[h])]
    apply K1
    intro t ht
    cases hs:S0₀ t with
    | true=>simp[h1 t ht hs]
    | false=>simp
   obtain ⟨f1,b1,b2⟩:=ih (fun t=>T t && !S0₀ t) (fun i=>if nb N can S0₀ i then 0 else k i) (by omega) (by
    intro S h
    have g1:=hS (fun t=>S t||S0₀ t) (fun t ht hs=>by
     simp only[WR] at hs
     rcases hs with hs | hs
     ·have:=h t ht hs;simp only[QD] at this;exact this.1
     ·exact h1 t ht hs)
    rw[cnt_or (fun t ht hs=>by have:=h t ht hs;simp only[QD,Z0] at this;exact this.2)] at g1
    have g2:capOf E k (nb N can fun t=>S t||S0₀ t)≤capOf E k (nb N can S0₀)+capOf E (fun i=>if nb N can S0₀ i then 0 else k i) (nb N can S):=by
     unfold capOf
     rw[← sum_add]
     apply Qc0
     intro i _
     by_cases e:nb N can S0₀ i=true
     ·simp only[e,if_true];split <;> omega
     ·simp only[if_neg e]
      by_cases e2:nb N can (fun t=>S t||S0₀ t) i=true
      ·have:nb N can S i=true:=by
        obtain ⟨t,ht,hs,hc⟩:=nb_iff.1 e2
        simp only[WR] at hs
        rcases hs with hs | hs
        ·exact nb_iff.2 ⟨t,ht,hs,hc⟩
        ·exact absurd (nb_iff.2 ⟨t,ht,hs,hc⟩) e
       simp[e2,this]
      ·simp[e2]
    omega)
   refine ⟨fun t=>if S0₀ t then f0 t else f1 t,fun t ht h=>?_,fun i hi=>?_⟩
   ·cases hs:S0₀ t with
    | true=>simpa[hs] using a1 t ht hs
    | false=>simpa[hs] using b1 t ht (by simp[h,hs])
   ·have e1:cnt N (fun t=>T t&&(if S0₀ t then f0 t else f1 t) == i)=cnt N (fun t=>S0₀ t&&f0 t == i)+cnt N (fun t=>(T t && !S0₀ t)&&f1 t == i):=by
     rw[← cnt_or (fun t _ h=>by simp only[QD] at h;simp[h.1])]
     apply K1
     intro t ht
     cases hs:S0₀ t with
     | true=>simp[h1 t ht hs]
     | false=>simp
    rw[e1]
    have c1:=a2 i hi
    have c2:=b2 i hi
    by_cases e:nb N can S0₀ i=true
    ·simp only[e,if_true] at c2;omega
    ·simp only[if_neg e] at c2
     have:cnt N (fun t=>S0₀ t&&f0 t == i)=0:=KN fun t ht=>by
      cases hs:S0₀ t with
      | false=>rfl
      | true =>
       cases hf:f0 t == i with
       | false=>rfl
       | true =>
        have hf:f0 t=i:=by simpa using hf
        exact absurd (nb_iff.2 ⟨t,ht,hs,hf ▸ (a1 t ht hs).2⟩) e
     omega
  ·by_cases hT:0<cnt N T
   ·obtain ⟨t0,ht0,hT0⟩:=M5 hT
    have g := hS (fun t => t == t0) (fun t _ h => by have:t=t0:=by simpa using h
                                                     rw[this];exact hT0)
    have g1:=cnt_pos_of (P:=fun t=>t == t0) ht0 (by simp)
    obtain ⟨i0,hi0,g2⟩:=sum_pos (m:=E) (f:=fun i=>if nb N can (fun t=>t == t0) i then k i else 0) (by unfold capOf at g;omega)
    have hn:nb N can (fun t=>t == t0) i0=true:=by
     by_cases e:nb N can (fun t=>t == t0) i0=true
     ·exact e
     ·rw[if_neg e] at g2;omega
    rw[if_pos hn] at g2
    have hcan:can t0 i0=true:=by
     obtain ⟨t,_,h1,h2⟩:=nb_iff.1 hn
     have:t=t0:=by simpa using h1
     rw[← this];exact h2
    have hsplit:cnt N T=cnt N (fun t=>T t && !(t == t0))+1:=JU ht0 (by simp) hT0 (fun i _ e=>by simp[e])
    obtain ⟨f1,b1,b2⟩:=ih (fun t=>T t && !(t == t0)) (fun i=>if i=i0 then k i-1 else k i) (by omega) (by
     intro S h
     by_cases hs0:0<cnt N S
     ·have hST:∀ t,t<N→S t=true→T t=true:=fun t ht hs=>by have:=h t ht hs;simp only[QD] at this;exact this.1
      have h5:cnt N S≤cnt N (fun t=>T t && !(t == t0)):=cnt_mono h
      have h6:¬ capOf E k (nb N can S)≤cnt N S:=fun e=>hx ⟨S,hST,hs0,by omega,e⟩
      have h7:capOf E k (nb N can S)≤capOf E (fun i=>if i=i0 then k i-1 else k i) (nb N can S)+1:=by
       apply sum_less (x:=i0)
       ·intro c _ e;simp only[if_neg e]
       ·simp only[if_true];split <;> omega
      omega
     ·omega)
    refine ⟨fun t=>if t=t0 then i0 else f1 t,fun t ht h=>?_,fun i hi=>?_⟩
    ·by_cases e:t=t0
     ·subst e;simp only[if_true];exact ⟨hi0,hcan⟩
     ·simp only[if_neg e];exact b1 t ht (by simp[h,e])
    ·have c2:=b2 i hi
     show cnt N (fun t=>T t&&(if t=t0 then i0 else f1 t) == i)≤k i
     by_cases e:i=i0
     ·subst e
      simp only[if_true] at c2
      have:cnt N (fun t=>T t&&(if t=t0 then i else f1 t) == i)≤cnt N (fun t=>(T t && !(t == t0))&&f1 t == i)+1:=by
       apply cnt_one
       intro a b _ _ p1 q1 p2 q2
       have key:∀ a,((T a && !(a == t0))&&f1 a == i)=false→(T a&&(if a=t0 then i else f1 a) == i)=true→a=t0:=by
        intro a p q
        by_cases e:a=t0
        ·exact e
        ·simp[e] at p q
         exact absurd q.2 (p q.1)
       rw[key a p1 q1,key b p2 q2]
      omega
     ·simp only[if_neg e] at c2
      have:cnt N (fun t=>T t&&(if t=t0 then i0 else f1 t) == i)≤cnt N (fun t=>(T t && !(t == t0))&&f1 t == i):=by
       apply cnt_mono
       intro t _ h
       by_cases e2:t=t0
       ·simp[e2] at h;exact absurd h.2.symm e
       ·simpa[e2] using h
      omega
   ·refine ⟨fun _=>0,fun t ht h=>?_,fun i _=>?_⟩
    ·have:=cnt_pos_of ht h;omega
    ·have:cnt N (fun t=>T t&&((fun _=>0) t == i))≤cnt N T:=cnt_mono fun t _ h=>by simp only[QD] at h;exact h.1
     omega
end Go.Proofs.YtpmokaefmcffaaaGreat.Pl
namespace Go.Proofs.YtpmokaefmcffaaaGreat.AM
variable [Dr]
open Go Pl
theorem accF_rows {b e n:Nat} {cs:List CV} {σ τ:List AObj} {v:AV} (h:VH b e σ v n cs) (hr:∀ x,x<σ.length→b≤x→rowOf τ x=rowOf σ x):VH b e τ v n cs :=
 h.imp id fun ⟨l,h1,h2,h3,h4⟩=>⟨l,h1,h2,h3,by rw[hr l (QH.1 (WO h4)).1 h1];exact h4⟩
theorem accF_set {b e n:Nat} {cs:List CV} {σ:List AObj} {v:AV} (h:VH b e σ v n cs) {X:Nat} (hx:X<b) (x:AObj):VH b e (σ.set X x) v n cs:=h.imp id fun ⟨l,h1,h2,h3,h4⟩=>⟨l,h1,h2,h3,by rw[QX (by omega)];exact h4⟩
theorem accF_frz {p:CV→Prop} (hp:∀ z,p (.int .i64 z)) {b:Nat} {σ:List AObj} {v:AV} {C:List Int} (h:VH b 1 σ v C.length (C.map (.int .i64))):FrzC p σ v (rowC C):=QfD h.acc fun c hc=>by
 obtain ⟨z,_,rfl⟩:=ZP.1 hc
 exact hp z
structure KtH (p:Pln) (zs:List Int) (L:Int) (H:List AObj) (vT:AV) (ts:List Int):Prop where
 r0:rowOf H 0=some (plnC p)
 r1:rowOf H 1=some [.cv (.rsl (zs.map (.int .u8)) zs.length),.cv (.int .u32 L)]
 r2:rowOf H 2=some [vT,.cv .nils]
 aT:VH 3 1 H vT ts.length (ts.map (.int .i64))
 len:3≤H.length
structure KnH (p:Pln) (zs:List Int) (L:Int) (B:Nat) (H:List AObj) (vT:AV) (ts:List Int) (vK:AV) (ks:List Int):Prop where
 r0:rowOf H 0=some (plnC p)
 r1:rowOf H 1=some [.cv (.rsl (zs.map (.int .u8)) zs.length),.cv (.int .u32 L)]
 r2:rowOf H 2=some [vT,vK]
 bl:3≤B
 len:B≤H.length
 aT:(vT=.cv .nils∧ts=[])∨∃ l,l<B∧3≤l∧vT=.sl l 0 ts.length 1∧rowOf H l=some (ts.map AV.i)
 aK:VH B 1 H vK ks.length (ks.map (.int .i64))
section
variable {p:Pln} {zs:List Int} {L:Int} {B:Nat} {H G:List AObj} {vT:AV} {ts:List Int} {vK:AV} {ks:List Int}
end
def wgt (q:Qn):Int:=if q.sk>0 then (q.wr*1000).tdiv q.sk else 500
def wgL (qs:List Qn) (n:Nat):List Int:=(qs.take n).map wgt
theorem wgL_len {qs:List Qn} {n:Nat} (h:n≤qs.length):(wgL qs n).length=n:=by simp[wgL];omega
theorem wgL_succ {qs:List Qn} {n:Nat} (h:n<qs.length):wgL qs (n+1)=wgL qs n++[wgt qs[n]!]:=by
 unfold wgL
 rw[List.take_succ_eq_append_getElem h,ZS]
 simp[h]
theorem wgt_bd {q:Qn} (h:0≤q.wr∧q.wr≤q.sk):0≤wgt q∧wgt q≤1000:=by
 unfold wgt
 split
 ·rename_i hs
  rw[Int.tdiv_eq_ediv_of_nonneg (by omega)]
  refine ⟨Int.ediv_nonneg (by omega) (by omega),?_⟩
  have:q.wr*1000≤1000*q.sk:=by omega
  exact Int.ediv_le_of_le_mul hs this
 ·omega
abbrev opC (b:Bk) (W:AV) (D:Nat):List AV:=[.cv (qnR b.qs),ints b.wt,.i b.lo,.i b.hi,W,.map D]
abbrev opH (b:Bk):List AObj:=[.map [],.cells (opC b (ints (wgL b.qs b.qs.length)) 0)]
theorem take3 {X:List AObj} {a b c:AObj} (h0:X[0]? = some a) (h1:X[1]? = some b) (h2:X[2]? = some c):X=[a,b,c]++X.drop 3:=by
 match X,h0,h1,h2 with
 | x::y::z::L,h0,h1,h2 =>
  simp only[List.getElem?_cons_zero,List.getElem?_cons_succ,Option.some.injEq] at h0 h1 h2
  subst h0 h1 h2
  rfl
structure OpH (b:Bk) (H:List AObj) (v:AV) (n:Nat):Prop where
 r0:H[0]? = some (.cells (bkC b))
 r1:H[1]? = some (.map [])
 r2:rowOf H 2=some (opC b v 1)
 a:VH 3 1 H v (wgL b.qs n).length ((wgL b.qs n).map (.int .i64))
theorem tp91' (b:Bk) (hb:BkOk b):AC Tryz.prog 91 [bkV b] [] fun r τ=>r=.tup [.ptr 2 0,.i 0]∧τ=[.cells (bkC b),.map [],.cells (opC b (ints (wgL b.qs b.qs.length)) 1)]:=by
 have h1:=hb.n1
 have h2:=hb.n16
 refine ZF (fok91 true) (QC rfl) ?_
 simp only[ic91,WI,cellsOf,evA,simprocAttr]
 refine (tp115 b hb).call frz ?_
 simp only[KY,evA,simprocAttr]
 refine ZW b.qs.length (fun i s=>∃ v6 v7 v12 v13 H,s=⟨[bkV b,.ptr 0 0,.cv .nilp,.i 0,.i 0,.ptr 2 0,v6,v7,.b false,.cv (qnR b.qs),.i b.qs.length,.i i,v12,v13],H⟩ ∧
  ((i<b.qs.length∧∃ v,OpH b H v i)∨i=b.qs.length∧H=[.cells (bkC b),.map [],.cells (opC b (ints (wgL b.qs b.qs.length)) 1)])) ?_ 0 (QF _)
  ⟨_,_,_,_,_,rfl,.inl ⟨by omega,.cv .nils,rfl,rfl,rfl,.inl ⟨rfl,rfl,rfl⟩⟩⟩
 rintro i s hi ⟨v6,v7,v12,v13,H,rfl,hH⟩
 by_cases h:i<b.qs.length
 rotate_left
 ·rcases hH with ⟨h1,_⟩ | ⟨rfl,rfl⟩
  ·exact absurd h1 h
  simp only[ic91l0,QJ,h,evA,simprocAttr]
 rcases hH with ⟨_,v,hH⟩ | ⟨h1,_⟩
 rotate_left
 ·omega
 obtain ⟨r0,r1,r2,ha⟩:=hH
 have r2J:=fun J=>ZH r2 J
 have hlen:3≤H.length:=(QH.1 (WO r2)).1
 have hwk:=Q6 (show i+1<2 ^ 63 by omega)
 have hld:=qn_ld h
 have hia:=ia_qn h
 have hq:=(hb.qu i h).2
 have hsu:=wgL_succ h
 have hwl:=wgL_len (Nat.le_of_lt h)
 generalize b.qs[i]! = q at *
 obtain ⟨pa,sk,wr⟩:=q
 simp only at hld hq
 have haB:VH 3 1 (H++[AObj.cells [.i pa,.i sk,.i wr]]) v (wgL b.qs i).length ((wgL b.qs i).map (.int .i64)):=accF_rows ha fun x hx _=>by unfold rowOf;rw[QE hx]
 have hwd:wgt ⟨pa,sk,wr⟩=if sk>0 then (wr*1000).tdiv sk else 500:=rfl
 generalize hw:wgt ⟨pa,sk,wr⟩=w at *
 obtain ⟨v',σ',a1,a2,a3,a4⟩:=K3 (by_:=8) (x:=[.int .i64 w]) (show 3≤(H++[AObj.cells [.i pa,.i sk,.i wr]]).length by simp;omega) haB rfl (by omega) (by omega)
 have anu:=a2.nu
 have s0:σ'[0]? = some (.cells (bkC b)):=by rw[a3 0 (by decide),QE (by omega)];exact r0
 have s1:σ'[1]? = some (.map []):=by rw[a3 1 (by decide),QE (by omega)];exact r1
 have s2:rowOf σ' 2=some (opC b v 1):=by unfold rowOf;rw[a3 2 (by decide)];exact r2J _
 have hfin:OpH b (σ'.set 2 (.cells (opC b v' 1))) v' (i+1):=by
  refine ⟨by rw[QU (by decide)];exact s0,by rw[QU (by decide)];exact s1,W0 s2,accF_set ?_ (by decide) _⟩
  rw[hsu,QM,ZS]
  exact a2
 simp only[Q0,WS,QW,List.cons_append,List.nil_append,QM,List.length_cons,List.length_nil,ZV] at a1
 have hend:∀ {Q:Exit→St→Prop} (v12:Bool) (v13:Bool) (v7':CV) (v6':AV),kFor ⟨vs91,52,none,0⟩ True (fun s =>
    ∃ v6 v7 v12 v13 H,s=⟨[bkV b,.ptr 0 0,.cv .nilp,.i 0,.i 0,.ptr 2 0,v6,v7,.b false,.cv (qnR b.qs),.i b.qs.length,.i ((i+1:Nat):Int),v12,v13],H⟩ ∧
     ((i+1<b.qs.length∧∃ v,OpH b H v (i+1))∨i+1=b.qs.length∧H=[.cells (bkC b),.map [],.cells (opC b (ints (wgL b.qs b.qs.length)) 1)])) Q .normal
   ⟨[bkV b,.ptr 0 0,.cv .nilp,.i 0,.i 0,.ptr 2 0,v6',.cv v7',.b false,.cv (qnR b.qs),.i b.qs.length,.i ((i+1:Nat):Int),.b v12,.b v13],σ'.set 2 (.cells (opC b v' 1))⟩:=by
  intro Q v12 v13 v7' v6'
  by_cases hn:i+1<b.qs.length
  ·exact ZL trivial ⟨_,_,_,_,_,rfl,.inl ⟨hn,_,hfin⟩⟩
  ·have hn':i+1=b.qs.length:=by omega
   obtain ⟨f0,f1,f2,f3⟩:=hfin
   generalize σ'.set 2 (.cells (opC b v' 1))=X at *
   have hX:=take3 f0 f1 (WO f2)
   generalize X.drop 3=J at hX
   subst hX
   have hfz:FrzV anyC (List.replicate 3 .dead++J) v' (ints (wgL b.qs b.qs.length)):=by
    rw[← hn']
    refine .c (accF_frz (b:=3) (fun _=>trivial) ?_)
    refine f3.imp id fun ⟨l,g1,g2,g3,g4⟩=>⟨l,g1,g2,g3,?_⟩
    obtain ⟨r,rfl⟩:∃ r,l=r+3:=⟨l-3,by omega⟩
    exact g4
   refine kFor_turn [.cells (bkC b),.map [],.cells (opC b v' 1)] [.cells (bkC b),.map [],.cells (opC b (ints (wgL b.qs b.qs.length)) 1)] J rfl trivial rfl rfl ?_ ?_ ⟨.undef,.cv v7',.b v12,.b v13,_,rfl,.inr ⟨hn',rfl⟩⟩
   ·have u:∀ v,Turn1 3 (List.replicate 3 .dead++J) v .undef:=fun v=>.inr (.un _)
    have c:∀ v,QR 3 v=true→Turn1 3 (List.replicate 3 .dead++J) v v:=fun v hv=>.inl ⟨rfl,hv⟩
    exact .cons (c _ rfl) (.cons (c _ rfl) (.cons (c _ rfl) (.cons (c _ rfl) (.cons (c _ rfl) (.cons (c _ rfl) (.cons (u _) (.cons (c _ rfl) (.cons (c _ rfl) (.cons (c _ rfl) (.cons (c _ rfl) (.cons (c _ rfl) (.cons (c _ rfl) (.cons (c _ rfl) .nil)))))))))))))
   ·intro l o2 ho
    match l,ho with
    | 0,ho=>cases ho;exact ⟨_,rfl,trivial,.inl ⟨rfl,rfl⟩⟩
    | 1,ho=>cases ho;exact ⟨_,rfl,trivial,.inl ⟨rfl,rfl⟩⟩
    | 2,ho =>
     cases ho
     refine ⟨_,rfl,trivial,.inr ⟨_,_,rfl,rfl,?_⟩⟩
     exact .cons (.inl ⟨rfl,rfl⟩) (.cons (.inl ⟨rfl,rfl⟩) (.cons (.inl ⟨rfl,rfl⟩) (.cons (.inl ⟨rfl,rfl⟩) (.cons (.inr hfz) (.cons (.inl ⟨rfl,rfl⟩) .nil)))))
 have hs0:decide (sk>0)=true∨decide (sk>0)=false:=by cases decide (sk>0) <;> simp
 rcases hs0 with hs | hs
 ·have hs':=of_decide_eq_true hs
  rw[if_pos hs'] at hwd
  have hw1:IntKind.i64.wrap (wr*1000)=wr*1000:=ZC (by omega)
  have hnz:¬ sk=0:=by omega
  have hw2:IntKind.i64.wrap ((wr*1000).tdiv sk)=w:=by
   rw[← hwd]
   have:=wgt_bd (q:=⟨pa,sk,wr⟩) hq.2
   unfold wgt at this
   rw[if_pos hs'] at this
   simp only at this
   exact ZC (by omega)
  simp only[ic91l0,QJ,h,hia,hld,hs,WW,X9,VW,EZ,QW,List.cons_append,List.nil_append,QM,hw1,hnz,hw2,r2J,a1,s2,anu,hwk,evA,simprocAttr]
  exact hend _ _ _ _
 ·have hs':=of_decide_eq_false hs
  rw[if_neg hs'] at hwd
  subst hwd
  simp only[ic91l0,QJ,h,hia,hld,hs,WW,X9,VW,EZ,QW,List.cons_append,List.nil_append,QM,r2J,a1,s2,anu,hwk,evA,simprocAttr]
  exact hend _ _ _ _
theorem tp91 (b:Bk) (hb:BkOk b):AC Tryz.prog 91 [bkV b] [] fun r τ=>r=.tup [.ptr 1 0,.i 0]∧τ=opH b:=by
 refine (tp91' b hb).tidy ?_
 rintro r τ ⟨rfl,rfl⟩
 refine ⟨fun l=>l+1,.tup [.ptr 1 0,.i 0],opH b,⟨fun l h=>absurd h (W5 _),fun a c h _=>Nat.add_lt_add_right h 1,QF _,rfl,rfl,fun l o ho=>.inr ?_⟩,rfl,rfl⟩
 match l,ho with
 | 0,ho=>cases ho;exact ⟨rfl,rfl⟩
 | 1,ho=>cases ho;exact ⟨rfl,rfl⟩
def pad4 (l:List Int):List Int:=l++List.replicate (4-l.length) 0
theorem pad4_len {l:List Int} (h:l.length≤4):(pad4 l).length=4:=by simp[pad4];omega
theorem setR4 {l:List Int} (h:l.length≤4):setRange [.i 0,.i 0,.i 0,.i 0,.i 0,.i 0] 2 (l.map AV.i)=.i 0 :: .i 0::(pad4 l).map AV.i:=by
 match l,h with
 | [],_=>rfl
 | [a],_=>rfl
 | [a,b],_=>rfl
 | [a,b,c],_=>rfl
 | [a,b,c,d],_=>rfl
theorem copy4 {l:List Int} (h:l.length≤4) {σ:List AObj} {L:Nat} (hr:rowOf σ L=some [.i 0,.i 0,.i 0,.i 0,.i 0,.i 0]) :
  UE 1 [.sl L 2 4 1,ints l] σ=some (.i l.length,σ.set L (.cells (.i 0 :: .i 0::(pad4 l).map AV.i))):=by
 have hsrc:Z9 σ 1 (ints l)=some (l.map AV.i):=by simp[Z9]
 have hmin:Nat.min l.length 4=l.length:=VD h
 have hsc:(l.map AV.i).all AV.isSc=true:=by rw[Q1];intro v hv;obtain ⟨z,_,rfl⟩:=ZP.1 hv;rfl
 have h1:True∧2+4*1≤([.i 0,.i 0,.i 0,.i 0,.i 0,.i 0]:List AV).length∧l.length*1=(l.map AV.i).length∧(l.map AV.i).all AV.isSc=true:=⟨trivial,by decide,by simp,hsc⟩
 simp only[UE,hr,hsrc,lenF,Option.bind_some]
 rw[if_pos h1,hmin,W3,Q5 (by simp),setR4 h]
theorem four_of:∀ {l:List Int},l.length=4→∃ a b c d,l=[a,b,c,d]
 | [a,b,c,d],_=>⟨a,b,c,d,rfl⟩
abbrev sttV (k:Nat) (lev:Int) (nd:List Int):AV:=kyQ (stK k lev nd)
abbrev wG (b:Bk):List Int:=wgL b.qs b.qs.length
theorem tp59 (b:Bk) (hb:BkOk b) {σ:List AObj} {A D:Nat} (hA:rowOf σ A=some (opC b (ints (wG b)) D)):AC Tryz.prog 59 [.ptr A 0] σ fun r τ=>r=sttV 0 0 (pad4 b.wt)∧τ=σ:=by
 have h4:=hb.m4
 refine AC.cutF ?_ (Qbf 0 _)
 obtain ⟨a,c,d,e,hp⟩:=four_of (pad4_len h4)
 have hAJ:=fun J=>ZH hA J
 have hcp:=fun σ L (hr:rowOf σ L=some [.i 0,.i 0,.i 0,.i 0,.i 0,.i 0])=>copy4 h4 hr
 rw[hp] at hcp
 simp only[Q0,WS] at hcp
 refine ZF (fok59 true) (QC rfl) ?_
 simp only[ic59,evA,simprocAttr]
 refine DW_s [] [] hmix (by kernel_rfl) rfl ?_
 rw[hp]
 have hc1:=hcp (σ++[.cells [.i 0,.i 0,.i 0,.i 0,.i 0,.i 0]]) σ.length (by rw[WW];rfl)
 have hsl:OG 4 1 false false [.ptr σ.length 2] (σ++[.cells [.i 0,.i 0,.i 0,.i 0,.i 0,.i 0]])=some (.sl σ.length 2 4 1,σ++[.cells [.i 0,.i 0,.i 0,.i 0,.i 0,.i 0]]):=by simp[OG,WW,rowOf,bnds,bnd]
 simp only[hAJ,hsl,hc1,WW,VW,QW,List.cons_append,List.nil_append,evA,simprocAttr]
 exact ⟨rfl,_,rfl⟩
theorem tp93 (b:Bk) (hb:BkOk b) {σ:List AObj} {A D:Nat} (hA:rowOf σ A=some (opC b (ints (wG b)) D)) (k:Nat) (lev:Int) (nd:List Int) (q p:Nat) (hq:q<b.qs.length) (hp:(b.qs[q]!).pa=(p:Int)) (hp4:p<4)
  (hk:k≤16) (hl:0≤lev∧lev≤16000) (hn:N4₀ nd) :
  AC Tryz.prog 93 [.ptr A 0,sttV k lev nd,.i q] σ fun r τ=>r=.tup [sttV (q+1) (lev+wgt b.qs[q]!) (dec4 nd p),.b (decide (0≤gI nd p-1))]∧τ=σ:=by
 have hl2:QR 0 (.tup [sttV (q+1) (lev+wgt b.qs[q]!) (dec4 nd p),.b (decide (0≤gI nd p-1))])=true:=by
  have:=Qbf 0 (stK (q+1) (lev+wgt b.qs[q]!) (dec4 nd p))
  simp only[Z3] at this
  simp only[QR,QO,this,Bool.and_self]
 refine AC.cutF ?_ hl2
 have h16:=hb.n16
 have hbn:=hn.2 p hp4
 have hwb:=wgt_bd (hb.qu q hq).2.2
 have hdg:gI (dec4 nd p) p=gI nd p-1:=by simp only[dec4,gI,Z2 (show p<nd.length by rw[hn.1];exact hp4),Option.getD_some]
 have hd4:(dec4 nd p).length=4:=by simp[dec4,hn.1]
 obtain ⟨a',c',d',e',hnd'⟩:=four_of hd4
 have hAJ:=fun J=>ZH hA J
 have hL:(stK k lev nd).length=6:=by simp[stK,hn.1]
 have hle:2+p+1≤(stK k lev nd).length:=by omega
 have la:=V1 (zs:=stK k lev nd) (k:=2+p) (by omega)
 have hg:(stK k lev nd)[2+p]?.getD 0=gI nd p:=by rw[Nat.add_comm 2 p];rfl
 rw[hg] at la
 have hw1:IntKind.i64.wrap (gI nd p-1)=gI nd p-1:=ZC (by omega)
 have hset:(stK k lev nd).set (2+p) (gI nd p-1)=stK k lev (dec4 nd p):=by rw[Nat.add_comm 2 p];rfl
 have hr2:(stK k lev (dec4 nd p)).map AV.i=[.i k,.i lev,.i a',.i c',.i d',.i e']:=by rw[stK,hnd'];rfl
 have la2:∀ x y,[AV.i x,.i y,.i a',.i c',.i d',.i e'][2+p]? = some (.i (gI nd p-1)):=fun x y=>by
  have:(List.map AV.i (dec4 nd p))[p]? = some (.i (gI nd p-1)):=by
   rw[V1 (by rw[hd4];exact hp4)]
   show some (AV.i (gI (dec4 nd p) p))=_
   rw[hdg]
  rw[hnd'] at this
  rw[Nat.add_comm 2 p]
  exact this
 have hwq:=Q6 (show q+1<2 ^ 63 by omega)
 have hia:=ia_qn hq
 have hq0:=qn_0 hq
 rw[hp] at hq0
 have hwlen:q<(wG b).length:=by rw[wgL_len (QG _)];exact hq
 have hwi:=J5 (kd:=.i64) (zs:=wG b) (n:=(wG b).length) hwlen
 have hwld:=J4 (kd:=.i64) hwlen
 have hwg:(wG b).getD q 0=wgt b.qs[q]! := by simp[wgL,List.getD,hq]
 rw[hwg] at hwld
 generalize wgt b.qs[q]! = w at *
 have hw2:IntKind.i64.wrap (lev+w)=lev+w:=ZC (by omega)
 refine ZF (fok93 true) (QC rfl) ?_
 simp only[ic93,WI,cellsOf,hAJ,hia,hq0,WW,X9,VW,EZ,QW,List.cons_append,List.nil_append,QM,ia_arr hp4,la,hw1,ZK,hle,GC,hset,hr2,evA,simprocAttr]
 refine DW_s [] [(7,13),(10,13)] hmix (by kernel_rfl) rfl ?_
 simp only[hAJ,hwi,hwld,hwq,hw2,WW,X9,VW,EZ,QW,List.cons_append,List.nil_append,QM,evA,simprocAttr]
 have hAl:A<σ.length:=(QH.1 (WO hA)).1
 have hAe:∀ J K:List AObj,(σ++J)[A]? = (σ++K)[A]? := fun J K=>by rw[QE hAl,QE hAl]
 refine ⟨hAe _ _,?_⟩
 refine DW_s [] [(4,6)] hmix (by kernel_rfl) rfl ?_
 simp only[la2,ia_arr hp4,WW,X9,VW,EZ,QW,List.cons_append,List.nil_append,QM,evA,simprocAttr]
 refine ⟨by simp,?_,_,rfl⟩
 have hr3:(stK (q+1) (lev+w) (dec4 nd p)).map AV.i=[.i ((q+1:Nat):Int),.i (lev+w),.i a',.i c',.i d',.i e']:=by rw[stK,hnd'];rfl
 rw[sttV,kyQ,hr3]
def quP (b:Bk):List Qu:=b.qs.map fun q=>(q.pa.toNat,wgt q)
theorem quP_len (b:Bk):(quP b).length=b.qs.length:=by simp[quP]
theorem quP_drop {b:Bk} {k:Nat} (h:k<b.qs.length):(quP b).drop k=((b.qs[k]!).pa.toNat,wgt b.qs[k]!)::(quP b).drop (k+1):=by
 rw[List.drop_eq_getElem_cons (by rw[quP_len];exact h)]
 simp[quP,h]
abbrev cntB (b:Bk) (k:Nat) (lev:Int) (nd:List Int):Nat:=cntP b.lo b.hi ((quP b).drop k) lev nd
theorem cntB_le (b:Bk) (hb:BkOk b) (k:Nat) (lev:Int) (nd:List Int):cntB b k lev nd≤65536:=by
 have h1:=cntP_le (lo:=b.lo) (hi:=b.hi) ((quP b).drop k) lev nd
 have h2:((quP b).drop k).length≤16:=by rw[List.length_drop,quP_len];have:=hb.n16;omega
 have h3:2 ^ ((quP b).drop k).length≤2 ^ 16:=Nat.pow_le_pow_right (by omega) h2
 exact YR h1 h3
theorem eq4 {a b:List Int} (ha:a.length=4) (hb:b.length=4) (wa:∀ i,i<4→0≤gI a i∧gI a i≤16) (wb:∀ i,i<4→0≤gI b i∧gI b i≤16):JW K4 (.agg (a.map AV.i)) (.agg (b.map AV.i))=some (decide (a=b)) :=
 eqk_n (n:=4) ha hb (fun i hi=>by have:=wa i (by omega);omega) (fun i hi=>by have:=wb i (by omega);omega)
theorem z4_ok:∀ i,i<4→0≤gI [0,0,0,0] i∧gI [0,0,0,0] i≤16
 | 0,_=>by decide
 | 1,_=>by decide
 | 2,_=>by decide
 | 3,_=>by decide
 | i+4,h=>absurd h (by omega)
theorem tp58 (b:Bk) (hb:BkOk b) {A D:Nat} (hAD:A≠D):∀ (f k:Nat) (lev:Int) (nd:List Int) (M:MemP) (σ:List AObj),rowOf σ A=some (opC b (ints (wG b)) D)→D<σ.length→k≤b.qs.length→b.qs.length-k<f→0≤lev∧lev≤1000*k→N4₀ nd→MemPOk b.lo b.hi (quP b) M →
  AC Tryz.prog 58 [.ptr A 0,sttV k lev nd] (mpH D σ M) fun r τ=>r=.i (cntB b k lev nd:Nat)∧∃ M',MemPOk b.lo b.hi (quP b) M'∧τ=mpH D σ M'
 | 0,_,_,_,_,_,_,_,_,h,_,_,_=>absurd h (W5 _)
 | f + 1,k,lev,nd,M,σ,hA,hd,hk,hf,hl,hn,hM=>by
  have h16:=hb.n16
  have rA:=fun M J=>MO hd hA hAD M J
  have mD:=fun M J=>mpH_map hd M J
  have sD:=fun M M' J=>mpH_set hd M M' J
  have hz:=fun M J=>mpH_z (D:=D) (σ:=σ) M J
  have hs':=fun M J k=>mpH_s (D:=D) (σ:=σ) M J k
  have hsz:=fun M J v=>mpH_sz (D:=D) (σ:=σ) M J v
  have hzs:=fun M J v k=>mpH_zs (D:=D) (σ:=σ) M J v k
  have hlen:=fun M=>HH (D:=D) (σ:=σ) M
  have hAl:A<σ.length:=(QH.1 (WO hA)).1
  have hAe:∀ M (J:List AObj),(mpH D σ M++J)[A]? = (mpH D σ M)[A]? := fun M J=>QE (by rw[HH];exact hAl)
  have hkey:=keyP_of (k:=k) (by omega) hl hn
  have hzero:JW K4 (.agg (nd.map AV.i)) (.agg ([0,0,0,0].map AV.i))=some (zer4 nd):=eq4 (b:=[0,0,0,0]) hn.1 rfl hn.2 z4_ok
  refine AC.cutM (p:=MemPOk b.lo b.hi (quP b)) ?_ rfl
  obtain ⟨x0,x1,x2,x3,hx⟩:=four_of hn.1
  have hlE:nd.map AV.i=[.i x0,.i x1,.i x2,.i x3]:=by rw[hx];rfl
  have hsE:(stK k lev nd).map AV.i=[.i k,.i lev,.i x0,.i x1,.i x2,.i x3]:=by rw[stK,hx];rfl
  have hkw:=fun e he=>(hM e he).1
  rw[hlE] at hzero
  simp only[Q0,WS] at hzero
  refine ZF (fok58 true) (QC rfl) ?_
  simp only[ic58,WI,cellsOf,kyQ,hsE,hlen,hzero,QW,QM,List.cons_append,List.nil_append,hz,hs',evA,simprocAttr]
  cases hzl:zer4 nd with
  | true =>
   have hc0:cntB b k lev nd=if b.lo≤lev∧lev≤b.hi then 1 else 0:=cntP_zero hzl
   rw[hc0]
   simp only[evA,simprocAttr]
   refine DW_s [15] [(5,14),(11,14)] hmix (by kernel_rfl) rfl ?_
   simp only[rA,hAe,hlen,hz,hs',QW,QM,List.cons_append,List.nil_append,evA,simprocAttr]
   refine YE ((out1 b.lo b.hi lev).call (frz_out (by simp only[hs'];rfl)) ⟨rfl,rfl⟩) rfl ?_
   cases hi:inB lev b.lo b.hi with
   | true =>
    have:=VB.1 hi
    rw[if_pos ⟨this.1,this.2⟩]
    simp only[hAe,hlen,hz,hs',hsz,hzs,QW,QM,List.cons_append,List.nil_append,evA,simprocAttr]
    exact ⟨M,hM,_,rfl⟩
   | false =>
    rw[if_neg (fun h=>by rw[VB.2 h] at hi;cases hi)]
    simp only[hAe,hlen,hz,hs',hsz,hzs,QW,QM,List.cons_append,List.nil_append,evA,simprocAttr]
    exact ⟨M,hM,_,rfl⟩
  | false =>
   simp only[evA,simprocAttr]
   refine DW_s [] [] hmix (by kernel_rfl) rfl ?_
   have hkE:kyQ (stK k lev nd)=.agg [.i k,.i lev,.i x0,.i x1,.i x2,.i x3]:=by rw[kyQ,hsE]
   cases hfd:fndP M (stK k lev nd) 0 with
   | some r =>
    obtain ⟨j,v⟩:=r
    have hget:=fun J=>mem_get hkey hkw (mD M J) hfd
    have hv:=memP_get hM hfd
    rw[hkE] at hget
    simp only[rA,hget,hlen,QW,QM,List.cons_append,List.nil_append,hz,hs',hzs,hsz,evA,simprocAttr]
    exact ⟨by rw[hv],M,hM,_,rfl⟩
   | none =>
    have hget:=fun J=>mem_get0 hkey hkw (mD M J) hfd
    rw[hkE] at hget
    simp only[rA,hget,hlen,QW,QM,List.cons_append,List.nil_append,hz,hs',hzs,hsz,evA,simprocAttr]
    refine ZW b.qs.length (fun i s=>k≤i∧∃ c:Nat,∃ v6 v7 v11 v12 M' J,c+cntB b i lev nd=cntB b k lev nd∧MemPOk b.lo b.hi (quP b) M' ∧
     s=⟨[.ptr A 0,sttV k lev nd,.ptr σ.length 0,.i c,.b false,.i i,v6,v7,.b false,.undef,.b false,v11,v12],mpH D σ M'++(AObj.cells [AV.i k,AV.i lev,AV.i x0,AV.i x1,AV.i x2,AV.i x3]::J)⟩) ?_ k hk
     ⟨QG _,0,_,_,_,_,M,[],by simp,hM,rfl⟩
    rintro i s hi ⟨hki,c,v6,v7,v11,v12,M',J,hc,hM',rfl⟩
    have hcl:=cntB_le b hb k lev nd
    by_cases h:i<b.qs.length
    ·have hqi:=hb.qu i h
     obtain ⟨p,hp⟩:∃ p:Nat,(b.qs[i]!).pa=p:=⟨(b.qs[i]!).pa.toNat,by omega⟩
     have hm4:=hb.m4
     have hp4:p<4:=by omega
     have h93:=fun τ (hτ:rowOf τ A=some (opC b (ints (wG b)) D))=>tp93 b hb hτ k lev nd i p h hp hp4 (by omega) (by omega) hn
     have hst:cntB b i lev nd=tkP b.lo b.hi p (wgt b.qs[i]!) ((quP b).drop (i+1)) lev nd+cntB b (i+1) lev nd:=by
      show cntP _ _ _ _ _=_
      rw[quP_drop h,cntP_step hzl,hp];rfl
     have hwb:=wgt_bd hqi.2.2
     have hwk:=Q6 (show i+1<2 ^ 63 by omega)
     have hd4:(dec4 nd p).length=4:=by simp[dec4,hn.1]
     obtain ⟨y0,y1,y2,y3,hy⟩:=four_of hd4
     generalize wgt b.qs[i]! = w at *
     have hyE:(stK (i+1) (lev+w) (dec4 nd p)).map AV.i=[.i ((i+1:Nat):Int),.i (lev+w),.i y0,.i y1,.i y2,.i y3]:=by rw[stK,hy];rfl
     simp only[sttV,kyQ,hyE,hsE] at h93
     have hX:∀ K,mpH D σ M'++(AObj.cells [AV.i k,AV.i lev,AV.i x0,AV.i x1,AV.i x2,AV.i x3]::J)++K=mpH D (σ++(AObj.cells [AV.i k,AV.i lev,AV.i x0,AV.i x1,AV.i x2,AV.i x3]::J++K)) M':=fun K=>by
      rw[QW,E4 hd]
     have rXA:=fun K=>ZH (rA M' (AObj.cells [AV.i k,AV.i lev,AV.i x0,AV.i x1,AV.i x2,AV.i x3]::J)) K
     have rXs:rowOf (mpH D σ M'++(AObj.cells [AV.i k,AV.i lev,AV.i x0,AV.i x1,AV.i x2,AV.i x3]::J)) σ.length=some [AV.i k,AV.i lev,AV.i x0,AV.i x1,AV.i x2,AV.i x3]:=by rw[hz];rfl
     have rX0:=rA M' (AObj.cells [AV.i k,AV.i lev,AV.i x0,AV.i x1,AV.i x2,AV.i x3]::J)
     have ih:=fun (hcan:0≤gI nd p-1) K=>tp58 b hb hAD f (i+1) (lev+w) (dec4 nd p) M' (σ++(AObj.cells [AV.i k,AV.i lev,AV.i x0,AV.i x1,AV.i x2,AV.i x3]::J++K)) (ZH hA _) (by simp;omega) (by omega) (by omega) (by omega) (n4_dec hn hp4 hcan) hM'
     simp only[← hX] at ih
     simp only[sttV,kyQ,hyE] at ih
     generalize hXX:mpH D σ M'++(AObj.cells [AV.i k,AV.i lev,AV.i x0,AV.i x1,AV.i x2,AV.i x3]::J)=X at *
     simp only[ic58l0,QJ,h,rX0,rXs,evA,simprocAttr]
     refine (h93 _ rX0).run ?_
     simp only[WW,VW,evA,simprocAttr]
     cases hcan:decide (0≤gI nd p-1) with
     | true =>
      have hcan':=of_decide_eq_true hcan
      have htk:tkP b.lo b.hi p w ((quP b).drop (i+1)) lev nd=cntB b (i+1) (lev+w) (dec4 nd p):=by unfold tkP;rw[if_pos hcan']
      simp only[WW,evA,simprocAttr]
      refine (ih hcan' _).mono ?_
      rintro r τ ⟨rfl,M2,hM2,rfl⟩
      have hw:IntKind.i64.wrap ((c:Int)+(cntB b (i+1) (lev+w) (dec4 nd p):Nat))=((c+cntB b (i+1) (lev+w) (dec4 nd p):Nat):Int):=by rw[ZC (by omega)];rfl
      simp only[hw,hwk,evA,simprocAttr]
      rw[← E4 hd]
      exact ZL (by first | trivial | omega) ⟨by omega,c+cntB b (i+1) (lev+w) (dec4 nd p),_,_,_,_,M2,J++[AObj.cells [AV.i ((i+1:Nat):Int),AV.i (lev+w),AV.i y0,AV.i y1,AV.i y2,AV.i y3]],by omega,hM2,rfl⟩
     | false =>
      have htk:tkP b.lo b.hi p w ((quP b).drop (i+1)) lev nd=0:=by unfold tkP;rw[if_neg (of_decide_eq_false hcan)]
      simp only[hwk,evA,simprocAttr]
      rw[show X++[AObj.cells [AV.i ((i+1:Nat):Int),AV.i (lev+w),AV.i y0,AV.i y1,AV.i y2,AV.i y3]]=mpH D σ M'++(AObj.cells [AV.i k,AV.i lev,AV.i x0,AV.i x1,AV.i x2,AV.i x3]::(J++[AObj.cells [AV.i ((i+1:Nat):Int),AV.i (lev+w),AV.i y0,AV.i y1,AV.i y2,AV.i y3]])) by rw[← hXX,QW];rfl]
      exact ZL (by first | trivial | omega) ⟨by omega,c,_,_,_,_,M',J++[AObj.cells [AV.i ((i+1:Nat):Int),AV.i (lev+w),AV.i y0,AV.i y1,AV.i y2,AV.i y3]],by omega,hM',rfl⟩
    ·have hin:i=b.qs.length:=by omega
     subst hin
     have hc0:cntB b b.qs.length lev nd=0:=by
      show cntP _ _ _ _ _=_
      rw[List.drop_of_length_le (by rw[quP_len];exact QG _)]
      exact cntP_end hzl
     have hcc:c=cntB b k lev nd:=by omega
     have hput:=fun J=>Qac hkey (fun e he=>(hM' e he).1) (c:Int) (mD M' J)
     rw[hkE] at hput
     simp only[ic58l0,QJ,h,rA,hlen,QW,QM,List.cons_append,List.nil_append,hz,hs',hzs,hsz,evA,simprocAttr]
     refine DW_s [] [] hmix (by kernel_rfl) rfl ?_
     simp only[rA,hput,sD,hlen,QW,QM,List.cons_append,List.nil_append,hz,hs',hzs,hsz,evA,simprocAttr]
     refine ⟨by rw[hcc],_,memP_put hM' hkey ?_,_,rfl⟩
     rw[hcc]
     rfl
theorem AC.madeE {P:Program} {f:FuncId} {args:List AV} {σ:List AObj} {Q Q':AV→List AObj→Prop} (h:AC P f args σ Q)
  (hq:∀ r τ,Q r τ→∃ σ2 J v,τ=σ2++J∧FrzV scl (List.replicate σ2.length .dead++J) r v∧σ2.length=σ.length ∧
   (∀ (l:Nat) (o:AObj),σ2[l]? = some o→σ[l]? = some o∨Z3 σ.length o=true)∧(∀ o∈σ2,o.live)∧Q' v σ2):AC P f args σ Q':=by
 refine ⟨h.1,fun m X w cargs ha hh=>(h.2 m X w cargs ha hh).mono ?_⟩
 rintro e w' ⟨c,r,σ',m',rfl,hQ,hr,hh',hst,hle⟩
 obtain ⟨σ2,J,v,rfl,hf,hl,ho,hlv,hQ2⟩:=hq r σ' hQ
 let m2:LM:=fun l=>if l<σ.length then m' l else none
 have hm2:∀ l,l<σ.length→m2 l=m' l:=fun l hl=>by simp only[m2];rw[if_pos hl]
 have hm2s:∀ l b,m2 l=some b→l<σ.length∧m' l=some b:=fun l b hl=>by
  simp only[m2] at hl
  split at hl
  ·rename_i h;exact ⟨h,hl⟩
  ·cases hl
 have how:∀ b,Own m2 X b→Own m' X b:=by
  rintro b (hx | ⟨l,hl⟩)
  ·exact .inl hx
  ·exact .inr ⟨l,(hm2s l b hl).2⟩
 have hin:∀ (l:Nat) o,σ2[l]? = some o→(σ2++J)[l]? = some o:=fun l o hlo=>by rw[QE (QH.1 hlo).1];exact hlo
 refine ⟨c,v,σ2,m2,rfl,hQ2,?_,⟨hh'.xb,?_,?_,?_,?_,hh'.gl.less how⟩,⟨?_,?_,hst.size,hst.fr,hst.shp,hst.os,hst.tape,hst.output,hst.drawn⟩,by omega⟩
 ·refine RX (HRel.forget hh') (fun c v hp h=>Qa2 c v hp h) ?_ hf c hr
  intro l b o hb hlo hlive hown
  have hge:σ2.length≤l:=by
   rcases ZB l σ2.length with hlt | hge
   ·rw[QE (by simpa using hlt)] at hlo
    have:=QZ hlo
    rw[List.mem_replicate] at this
    rw[this.2] at hlive;exact hlive.elim
   ·exact hge
  have hlo':(σ2++J)[l]? = some o:=by
   rw[QS (by simpa using hge)] at hlo
   rw[QS hge]
   simpa using hlo
  rcases hown with hx | ⟨l2,h2⟩
  ·exact hh'.own l b o hb hlo' hlive hx
  ·obtain ⟨h3,h4⟩:=hm2s l2 b h2
   have hlt:l2<σ2.length:=by omega
   have h6:(σ2++J)[l2]? = some σ2[l2]:=by rw[QE hlt,QI hlt]
   have:=hh'.inj l l2 b _ hb h4 h6 (hlv _ (Q2 hlt))
   omega
 ·intro l b hl';obtain ⟨h1,h2⟩:=hm2s l b hl';exact ⟨by omega,(hh'.dom _ b h2).2⟩
 ·intro l b o hl' hlo hv
  exact hh'.own l b _ (hm2s l b hl').2 (hin l o hlo) hv
 ·intro l l' b o' hl1 hl2 hlo hv
  exact hh'.inj l l' b _ (hm2s l b hl1).2 (hm2s l' b hl2).2 (hin l' o' hlo) hv
 ·intro l o hlo
  have hlt:l<σ.length:=by have:=(QH.1 hlo).1;omega
  rw[hm2 l hlt]
  have hcl:Z3 σ.length o=true:=by
   rcases ho l o hlo with h1 | h1
   ·exact hh.closed l o h1
   ·exact h1
  have hob:=hh'.obj l o (hin l o hlo)
  refine ORel.ren (g:=id) hm2 how hcl ?_
  rw[E1 (g:=id) (k:=σ.length) (fun _ _=>rfl) hcl]
  exact hob
 ·intro l hl';rw[hm2 l hl'];exact hst.keep l hl'
 ·intro l b hl';exact hst.new _ b (hm2s l b hl').2
def AccX (E:List Nat) (H:List AObj) (v:AV) (zs:List Int):Prop:=(v=.cv .nils∧zs=[])∨∃ l,l∉E∧v=.sl l 0 zs.length 1∧rowOf H l=some (zs.map AV.i)
theorem AccX.nu {E:List Nat} {H:List AObj} {v:AV} {zs:List Int} (h:AccX E H v zs):v.isUndef=false∧v.isSc=true∧cellsOf v=[v]:=by
 rcases h with ⟨rfl,_⟩ | ⟨l,_,rfl,_⟩ <;> exact ⟨rfl,rfl,rfl⟩
theorem AccX.less {E E2₀:List Nat} {H:List AObj} {v:AV} {zs:List Int} (h:AccX E H v zs) (he:∀ x∈E2₀,x∈E∨H.length≤x):AccX E2₀ H v zs :=
 h.imp id fun ⟨l,h1,h2,h3⟩=>⟨l,fun h=>(he l h).elim h1 fun hl=>by have:=(QH.1 (WO h3)).1;omega,h2,h3⟩
theorem AccX.rows {E:List Nat} {H H2:List AObj} {v:AV} {zs:List Int} (h:AccX E H v zs) (hr:∀ x,x<H.length→x∉E→rowOf H2 x=rowOf H x):AccX E H2 v zs :=
 h.imp id fun ⟨l,h1,h2,h3⟩=>⟨l,h1,h2,by rw[hr l (QH.1 (WO h3)).1 h1];exact h3⟩
theorem AccX.app {E:List Nat} {H:List AObj} {v:AV} {zs:List Int} (h:AccX E H v zs) (J:List AObj):AccX E (H++J) v zs:=h.rows fun x hx _=>by unfold rowOf;rw[QE hx]
theorem AccX.set {E:List Nat} {H:List AObj} {v:AV} {zs:List Int} (h:AccX E H v zs) {X:Nat} (hX:X∈E) (o:AObj):AccX E (H.set X o) v zs:=h.rows fun x hx hn=>QX (fun e:X=x=>hn (by rw[← e];exact hX)) _
theorem accX_append {E:List Nat} {by_:Nat} {H:List AObj} {v:AV} {zs:List Int} (hE:∀ x∈E,x<H.length) (h:AccX E H v zs) (z:Int) (hb:(zs.length+1)*by_≤2 ^ 44) (hn:zs.length+1≤2 ^ 44) :
  ∃ (v':AV) (H':List AObj),ZX 1 by_ [v,.sl H.length 0 1 1] (H++[AObj.cells [.i z]])=some (v',H')∧AccX E H' v' (zs++[z])∧(∀ i∈E,H'[i]? = H[i]?)∧H.length≤H'.length:=by
 have hsrc:Z9 (H++[AObj.cells [.i z]]) 1 (.sl H.length 0 1 1)=some [.i z]:=by
  simp only[Z9,if_true,XH,Option.bind_some]
  rfl
 rcases h with ⟨rfl,rfl⟩ | ⟨l,hl,rfl,hr⟩
 ·refine ⟨.sl (H++[AObj.cells [.i z]]).length 0 1 1,(H++[AObj.cells [.i z]])++[AObj.cells [.i z]],?_,.inr ⟨_,fun h=>by have:=hE _ h;simp at this;omega,rfl,by rw[XH];rfl⟩,fun i hi=>?_,by simp⟩
  ·have h1:1*1=([.i z]:List AV).length∧1*by_≤2 ^ 44∧1≤2 ^ 44∧([.i z]:List AV).all AV.isSc=true:=⟨rfl,by simpa using hb,by omega,rfl⟩
   simp only[ZX,hsrc,lenF,Option.bind_some]
   rw[if_neg (by omega),if_pos h1]
  ·rw[QW,QE (hE i hi)]
 ·have hr':=FU hr (AObj.cells [.i z])
  have hlt:=(QH.1 (WO hr)).1
  refine ⟨.sl (H++[AObj.cells [.i z]]).length 0 (zs.length+1) 1,(H++[AObj.cells [.i z]]).set l AObj.dead++[AObj.cells (zs.map AV.i++[.i z])],?_,.inr ⟨(H++[AObj.cells [.i z]]).length,fun h=>by have:=hE _ h;simp at this;omega,by simp,?_⟩,fun i hi=>?_,by simp;omega⟩
  ·have hsc:([.i z]:List AV).all AV.isSc=true:=rfl
   have h1:True∧zs.length*1≤(zs.map AV.i).length∧1*1=([.i z]:List AV).length∧(zs.length+1)*by_≤2 ^ 44∧zs.length+1≤2 ^ 44∧([.i z]:List AV).all AV.isSc=true:=⟨trivial,by simp,rfl,hb,hn,hsc⟩
   simp only[ZX,hr',hsrc,lenF,Option.bind_some]
   rw[if_pos h1,Q5 (by simp)]
  ·have:(H++[AObj.cells [.i z]]).length=((H++[AObj.cells [.i z]]).set l AObj.dead).length:=by simp
   rw[this,XH,ZS];rfl
  ·rw[QE (by simp;have:=hE i hi;omega),QU (fun e:l=i=>hl (by rw[e];exact hi)),QE (hE i hi)]
theorem pad4_ok (b:Bk) (hb:BkOk b):N4₀ (pad4 b.wt):=by
 refine ⟨pad4_len hb.m4,fun i hi=>?_⟩
 by_cases h:i<b.wt.length
 ·have h1:=hb.wa i h
  have h2:=mnyC_bd b.qs b.qs.length i
  have h3:=hb.n16
  have:gI (pad4 b.wt) i=gI b.wt i:=by simp[pad4,gI,QE h]
  rw[this];omega
 ·have:gI (pad4 b.wt) i=0:=by
   simp only[pad4,gI]
   rw[QS (by omega),YN]
   split <;> rfl
  rw[this];omega
abbrev iL (l:List Nat):List Int:=l.map fun x:Nat=>(x:Int)
abbrev nthB (b:Bk) (k:Nat) (lev:Int) (nd:List Int) (n:Nat):List Nat:=nthP b.lo b.hi ((quP b).drop k) k lev nd n
abbrev okM (b:Bk) (M:MemP):Prop:=MemPOk b.lo b.hi (quP b) M
theorem mpH_op (b:Bk) (M:MemP):mpH 0 (opH b) M=[.map (memE M),.cells (opC b (ints (wG b)) 0)]:=rfl
theorem take2 {X:List AObj} {a b:AObj} (h0:X[0]? = some a) (h1:X[1]? = some b):X=[a,b]++X.drop 2:=by
 match X,h0,h1 with
 | x::y::L,h0,h1 =>
  simp only[List.getElem?_cons_zero,List.getElem?_cons_succ,Option.some.injEq] at h0 h1
  subst h0 h1
  rfl
def BkH (b:Bk) (H:List AObj):Prop:=H[1]? = some (.cells (opC b (ints (wG b)) 0))∧∃ M,okM b M∧H[0]? = some (.map (memE M))
theorem BkH.mp {b:Bk} {H:List AObj} (h:BkH b H):∃ M J,okM b M∧H=mpH 0 (opH b) M++J:=by
 obtain ⟨h1,M,hM,h0⟩:=h
 exact ⟨M,H.drop 2,hM,take2 h0 h1⟩
theorem BkH.of {b:Bk} {M:MemP} (hM:okM b M) (J:List AObj):BkH b (mpH 0 (opH b) M++J):=⟨rfl,M,hM,rfl⟩
theorem BkH.low {b:Bk} {H H2:List AObj} (h:BkH b H) (h0:H2[0]? = H[0]?) (h1:H2[1]? = H[1]?):BkH b H2:=⟨by rw[h1];exact h.1,by rw[h0];exact h.2⟩
theorem BkH.len {b:Bk} {H:List AObj} (h:BkH b H):2≤H.length:=(QH.1 h.1).1
theorem BkH.app {b:Bk} {H:List AObj} (h:BkH b H) (K:List AObj):BkH b (H++K):=h.low (QE (by have:=h.len;omega)) (QE (by have:=h.len;omega))
theorem BkH.row {b:Bk} {H:List AObj} (h:BkH b H):rowOf H 1=some (opC b (ints (wG b)) 0):=by unfold rowOf;rw[h.1]
theorem BkH.cnt {b:Bk} (hb:BkOk b) {H:List AObj} (h:BkH b H) (k:Nat) (lev:Int) (nd:List Int) (hk:k≤b.qs.length) (hl:0≤lev∧lev≤1000*k) (hn:N4₀ nd) :
  AC Tryz.prog 58 [.ptr 1 0,sttV k lev nd] H fun r τ=>r=.i (cntB b k lev nd:Nat)∧BkH b τ∧τ.length=H.length∧∀ x,x≠0→τ[x]? = H[x]? := by
 obtain ⟨M,J,hM,rfl⟩:=h.mp
 have h0:(0:Nat)<(opH b).length:=by show 0<2;decide
 have hr:rowOf (opH b++J) 1=some (opC b (ints (wG b)) 0):=ZH (σ:=opH b) rfl J
 have:=tp58 b hb (A:=1) (D:=0) (by decide) (b.qs.length+1) k lev nd M (opH b++J) hr (by simp) hk (by omega) hl hn hM
 rw[← E4 h0] at this
 refine this.mono ?_
 rintro r τ ⟨rfl,M',hM',rfl⟩
 refine ⟨rfl,by rw[← E4 h0];exact BkH.of hM' J,by simp[mpH],fun x hx=>?_⟩
 rw[E4 h0]
 unfold mpH
 rw[QU (Ne.symm hx),QU (Ne.symm hx)]
structure NtH (b:Bk) (H:List AObj) (s:Nat) (k:Nat) (lev:Int) (nd:List Int) (v:AV) (L:List Int) (E:List Nat):Prop where
 bk:BkH b H
 s2:2≤s
 rs:rowOf H s=some ((stK k lev nd).map AV.i)
 acc:AccX ([0,1,s]++E) H v L
 e:∀ x∈E,2≤x∧x≠s∧x<H.length
section
variable {b:Bk} {H:List AObj} {s k:Nat} {lev:Int} {nd:List Int} {v:AV} {L:List Int} {E:List Nat}
theorem NtH.lt (h:NtH b H s k lev nd v L E):s<H.length:=(QH.1 (WO h.rs)).1
theorem NtH.box (h:NtH b H s k lev nd v L []) (o:AObj):NtH b (H++[o]) s k lev nd v L [H.length]:=by
 have hl:=h.lt
 refine ⟨h.bk.app _,h.s2,ZH h.rs _,(h.acc.less fun x hx=>?_).app _,fun x hx=>?_⟩
 ·simp only[ZU,YV,WZ] at hx ⊢
  rcases hx with hx | rfl
  ·exact .inl hx
  ·exact .inr (QG _)
 ·simp only[WZ] at hx
  subst hx
  have:=h.s2
  exact ⟨by omega,by omega,by simp⟩
theorem NtH.drop (h:NtH b H s k lev nd v L E):NtH b H s k lev nd v L []:=⟨h.bk,h.s2,h.rs,h.acc.less fun x hx=>.inl (by simp only[ZU] at hx;exact J3 _ hx),fun x hx=>by simp at hx⟩
theorem NtH.cnt (hb:BkOk b) (h:NtH b H s k lev nd v L E) (k':Nat) (lev':Int) (nd':List Int) (hk:k'≤b.qs.length) (hl:0≤lev'∧lev'≤1000*k') (hn:N4₀ nd') :
  AC Tryz.prog 58 [.ptr 1 0,sttV k' lev' nd'] H fun r τ=>r=.i (cntB b k' lev' nd':Nat)∧NtH b τ s k lev nd v L E∧∀ x,x≠0→rowOf τ x=rowOf H x:=by
 refine (h.bk.cnt hb k' lev' nd' hk hl hn).mono ?_
 rintro r τ ⟨rfl,h1,h2,h3⟩
 have hr:∀ x,x≠0→rowOf τ x=rowOf H x:=fun x hx=>by unfold rowOf;rw[h3 x hx]
 refine ⟨rfl,⟨h1,h.s2,?_,h.acc.rows fun x _ hx=>hr x (fun e=>hx (by simp[e])),fun x hx=>by rw[h2];exact h.e x hx⟩,hr⟩
 rw[hr s (by have:=h.s2;omega)];exact h.rs
theorem NtH.add {t:Nat} (h:NtH b H s k lev nd v L [t]) (hL:L.length≤100) (z:Int) {k':Nat} {lev':Int} {nd':List Int} (hn:nd.length=4) (hn':nd'.length=4) (rt:rowOf H t=some ((stK k' lev' nd').map AV.i)) :
  ∃ (v':AV) (H':List AObj),ZX 1 8 [v,.sl H.length 0 1 1] (H++[AObj.cells [.i z]])=some (v',H')∧rowOf H' t=some ((stK k' lev' nd').map AV.i)∧rowOf H' s=some ((stK k lev nd).map AV.i)∧H.length≤H'.length ∧
   (∀ i∈[t,s],H'[i]? = (H++[AObj.cells [.i z]])[i]?) ∧
   NtH b (H'.set s (.cells ((stK k' lev' nd').map AV.i))) s k' lev' nd' v' (L++[z]) []∧(v'.isUndef=false∧v'.isSc=true∧cellsOf v'=[v']):=by
 have hs:=h.lt
 have hs2:=h.s2
 have ht:=h.e t (by simp)
 have hE:∀ x∈[0,1,s]++[t],x<H.length:=fun x hx=>by
  simp only[List.cons_append,List.nil_append,ZD,WK,or_false] at hx
  rcases hx with rfl | rfl | rfl | rfl <;> omega
 obtain ⟨v',H',a1,a2,a3,a4⟩:=accX_append (by_:=8) hE h.acc z (by omega) (by omega)
 have r:∀ x∈[0,1,s]++[t],rowOf H' x=rowOf H x:=fun x hx=>by unfold rowOf;rw[a3 x hx]
 refine ⟨v',H',a1,by rw[r t (by simp)];exact rt,by rw[r s (by simp)];exact h.rs,a4,fun i hi=>?_,⟨?_,hs2,W0 (by rw[r s (by simp)];exact h.rs),?_,fun x hx=>by simp at hx⟩,a2.nu⟩
 ·simp only[ZD,WK,or_false] at hi
  rw[a3 i (by simp;rcases hi with rfl | rfl <;> simp),QE (hE i (by simp;rcases hi with rfl | rfl <;> simp))]
 ·refine h.bk.low ?_ ?_
  ·rw[QU (by omega),a3 0 (by simp)]
  ·rw[QU (by omega),a3 1 (by simp)]
 ·exact (a2.less fun x hx=>.inl (by simp only[ZU] at hx;exact J3 _ hx)).set (by simp) _
end
theorem stv_of (k:Nat) (lev:Int) {nd:List Int} (h:nd.length=4):∃ y0 y1 y2 y3:Int,nd.map AV.i=[.i y0,.i y1,.i y2,.i y3]∧(stK k lev nd).map AV.i=[.i k,.i lev,.i y0,.i y1,.i y2,.i y3]:=by
 obtain ⟨a,c,d,e,rfl⟩:=four_of h
 exact ⟨a,c,d,e,rfl,rfl⟩
theorem NtH.turn {b:Bk} {H:List AObj} {s k:Nat} {lev:Int} {nd:List Int} {v:AV} {L:List Int} (h:NtH b H s k lev nd v L []):NtH b (H++[.cells ((stK k lev nd).map AV.i)]) H.length k lev nd v L []:=by
 have hl:=h.bk.len
 refine ⟨h.bk.app _,hl,XH _ _,(h.acc.less fun x hx=>?_).app _,fun x hx=>by simp at hx⟩
 simp only[ZU,ZD,WK,or_false] at hx
 rcases hx with rfl | rfl | rfl
 ·exact .inl (by simp)
 ·exact .inl (by simp)
 ·exact .inr (QG _)
theorem tp60 (b:Bk) (hb:BkOk b) (M:MemP) (hM:okM b M) (num:Nat) (hnum:num<cntB b 0 0 (pad4 b.wt)) :
  AC Tryz.prog 60 [.ptr 1 0,.i num] (mpH 0 (opH b) M) fun r τ=>r=ints (iL (nthB b 0 0 (pad4 b.wt) num))∧∃ M',okM b M'∧τ=mpH 0 (opH b) M':=by
 have h16:=hb.n16
 have hpw:=pad4_ok b hb
 refine AC.madeE (Q:=fun r τ=>BkH b τ∧∃ s,AccX [0,1,s] τ r (iL (nthB b 0 0 (pad4 b.wt) num))) ?_ ?_
 rotate_left
 ·rintro r τ ⟨hB,s,hA⟩
  obtain ⟨M',J,hM',rfl⟩:=hB.mp
  refine ⟨mpH 0 (opH b) M',J,ints (iL (nthB b 0 0 (pad4 b.wt) num)),rfl,?_,rfl,fun l o h=>Qd7 M M' h,?_,rfl,M',hM',rfl⟩
  ·rcases hA with ⟨rfl,h0⟩ | ⟨l,hl,rfl,hr⟩
   ·rw[h0];exact RY
   ·refine U4 (fun _=>trivial) rfl ?_
    have h2:2≤l:=by
     simp only[ZD,WK,or_false,not_or] at hl
     omega
    obtain ⟨l,rfl⟩:∃ l',l=l'+2:=⟨l-2,by omega⟩
    exact hr
  ·intro o ho
   rw[mpH_op] at ho
   simp only[ZD,WK,or_false] at ho
   rcases ho with rfl | rfl <;> trivial
 have hB0:BkH b (mpH 0 (opH b) M):=by have:=BkH.of hM [];rwa [ZU] at this
 obtain ⟨z0,z1,z2,z3,hz4,hzE⟩:=stv_of 0 0 hpw.1
 have h59:=tp59 b hb hB0.row
 simp only[sttV,kyQ,hzE] at h59
 have hlen0:(mpH 0 (opH b) M).length=2:=rfl
 have hrA:∀ J,rowOf (mpH 0 (opH b) M++J) 2=rowOf J 0:=fun J=>mpH_z (D:=0) (σ:=opH b) M J
 have hsA:∀ J v,(mpH 0 (opH b) M++J).set 2 v=mpH 0 (opH b) M++J.set 0 v:=fun J v=>mpH_sz (D:=0) (σ:=opH b) M J v
 refine ZF (fok60 true) (QC rfl) ?_
 simp only[ic60,evA,simprocAttr]
 refine h59.run ?_
 simp only[hlen0,hrA,hsA,evA,simprocAttr]
 have hN0:NtH b (mpH 0 (opH b) M++[AObj.cells [AV.i 0,AV.i 0,AV.i z0,AV.i z1,AV.i z2,AV.i z3]]) 2 0 0 (pad4 b.wt) (.cv .nils) [] []:=by
  refine ⟨hB0.app _,QG _,by rw[hrA,hzE];rfl,.inl ⟨rfl,rfl⟩,fun x hx=>by simp at hx⟩
 refine ZW b.qs.length (fun j st=>∃ k num':Nat,∃ lev:Int,∃ nd s v4 v5 v6 v7 v8 v9 v10 v11 v12 v L H,j≤k∧k≤b.qs.length∧(0≤lev∧lev≤1000*k)∧N4₀ nd∧num'<cntB b k lev nd∧L++iL (nthB b k lev nd num')=iL (nthB b 0 0 (pad4 b.wt) num)∧L.length≤k ∧
  NtH b H s k lev nd v L []∧st=⟨[.ptr 1 0,.i num',v,.ptr s 0,v4,v5,v6,v7,v8,v9,v10,v11,v12],H⟩) ?_ 0 (QF _)
  ⟨0,num,0,pad4 b.wt,2,_,_,_,_,_,_,_,_,_,_,[],_,QG _,QF _,by decide,hpw,hnum,rfl,QG _,hN0,rfl⟩
 rintro j st hj ⟨k,num',lev,nd,s,v4,v5,v6,v7,v8,v9,v10,v11,v12,v,L,H,hjk,hk,hl,hn,hnm,htg,hLk,hN,rfl⟩
 obtain ⟨x0,x1,x2,x3,hlE,hsE⟩:=stv_of k lev hn.1
 have hzero:JW K4 (.agg (nd.map AV.i)) (.agg ([0,0,0,0].map AV.i))=some (zer4 nd):=eq4 (b:=[0,0,0,0]) hn.1 rfl hn.2 z4_ok
 rw[hlE] at hzero
 simp only[Q0,WS] at hzero
 have hrs:=hN.rs
 rw[hsE] at hrs
 cases hzl:zer4 nd with
 | true =>
  simp only[ic60l1,hrs,hzero,hzl,evA,simprocAttr]
  refine ⟨hN.bk,s,?_⟩
  have:nthB b k lev nd num'=[]:=nthP_zero hzl
  rw[this] at htg
  simp only[iL,WS,ZU] at htg
  rw[iL,← htg]
  exact hN.acc
 | false =>
  simp only[ic60l1,hrs,hzero,hzl,evA,simprocAttr]
  have hnu:=hN.acc.nu
  refine ZW b.qs.length (fun i st=>∃ n2:Nat,∃ v5 v6 v7 v9 v10 v11 H,k≤i∧n2<cntB b i lev nd∧nthB b i lev nd n2=nthB b k lev nd num'∧NtH b H s k lev nd v L [] ∧
   st=⟨[.ptr 1 0,.i n2,v,.ptr s 0,.i i,v5,v6,v7,.b true,v9,v10,v11,v12],H⟩) ?_ k hk ⟨num',_,_,_,_,_,_,_,QG _,hnm,rfl,hN,rfl⟩
  clear hN hrs
  rintro i st hi ⟨n2,v5,v6,v7,v9,v10,v11,H,hki,hn2,hnt,hN,rfl⟩
  have h:i<b.qs.length:=by
   rcases ZB i b.qs.length with h | h
   ·exact h
   ·have:cntB b i lev nd=0:=by
     show cntP _ _ _ _ _=_
     rw[List.drop_of_length_le (by rw[quP_len];exact h)]
     exact cntP_end hzl
    omega
  have hqi:=hb.qu i h
  obtain ⟨p,hp⟩:∃ p:Nat,(b.qs[i]!).pa=p:=⟨(b.qs[i]!).pa.toNat,by omega⟩
  have hm4:=hb.m4
  have hp4:p<4:=by omega
  have h93:=tp93 b hb hN.bk.row k lev nd i p h hp hp4 (by omega) (by omega) hn
  have hst:cntB b i lev nd=tkP b.lo b.hi p (wgt b.qs[i]!) ((quP b).drop (i+1)) lev nd+cntB b (i+1) lev nd:=by
   show cntP _ _ _ _ _=_
   rw[quP_drop h,cntP_step hzl,hp];rfl
  have hn_t:n2<tkP b.lo b.hi p (wgt b.qs[i]!) ((quP b).drop (i+1)) lev nd→nthB b i lev nd n2=i::nthB b (i+1) (lev+wgt b.qs[i]!) (dec4 nd p) n2:=fun hlt=>by
   show nthP _ _ _ _ _ _ _=_
   rw[quP_drop h]
   rw[hp] at *
   exact nthP_take hzl hlt
  have hn_s:¬ n2<tkP b.lo b.hi p (wgt b.qs[i]!) ((quP b).drop (i+1)) lev nd→nthB b i lev nd n2=nthB b (i+1) lev nd (n2-tkP b.lo b.hi p (wgt b.qs[i]!) ((quP b).drop (i+1)) lev nd):=fun hlt=>by
   show nthP _ _ _ _ _ _ _=_
   rw[quP_drop h]
   rw[hp] at *
   exact nthP_skip hzl hlt
  have hwb:=wgt_bd hqi.2.2
  have hwk:=Q6 (show i+1<2 ^ 63 by omega)
  have hd4:(dec4 nd p).length=4:=by simp[dec4,hn.1]
  generalize wgt b.qs[i]! = w at *
  obtain ⟨y0,y1,y2,y3,hyd,hyE⟩:=stv_of (i+1) (lev+w) hd4
  simp only[sttV,kyQ,hyE,hsE] at h93
  have hrs:=hN.rs
  rw[hsE] at hrs
  have hN1:=hN.box (AObj.cells [.i ((i+1:Nat):Int),.i (lev+w),.i y0,.i y1,.i y2,.i y3])
  simp only[ic60l0,QJ,h,hN.bk.row,hrs,evA,simprocAttr]
  refine h93.run ?_
  simp only[WW,VW,evA,simprocAttr]
  cases hcan:decide (0≤gI nd p-1) with
  | false =>
   have htk:tkP b.lo b.hi p w ((quP b).drop (i+1)) lev nd=0:=by unfold tkP;rw[if_neg (of_decide_eq_false hcan)]
   rw[htk] at hn_s hst
   simp only[hwk,evA,simprocAttr]
   exact ZL (by first | trivial | omega) ⟨n2,_,_,_,_,_,_,_,by omega,by omega,by rw[← hnt,hn_s (by omega)];rfl,hN1.drop,rfl⟩
  | true =>
   have hcan':=of_decide_eq_true hcan
   have htk:tkP b.lo b.hi p w ((quP b).drop (i+1)) lev nd=cntB b (i+1) (lev+w) (dec4 nd p):=by unfold tkP;rw[if_pos hcan']
   rw[htk] at hn_s hn_t hst
   have hcl:=cntB_le b hb (i+1) (lev+w) (dec4 nd p)
   simp only[WW,evA,simprocAttr]
   have hc:=hN1.cnt hb (i+1) (lev+w) (dec4 nd p) (by omega) (by omega) (n4_dec hn hp4 hcan')
   simp only[sttV,kyQ,hyE] at hc
   refine hc.mono ?_
   clear hc
   rintro r τ ⟨rfl,hN2,hrw⟩
   have hl2:=hN.bk.len
   have rt2:rowOf τ H.length=some ((stK (i+1) (lev+w) (dec4 nd p)).map AV.i):=by rw[hrw _ (by omega),XH,hyE]
   have hcl2:=cntB_le b hb i lev nd
   by_cases hlt:n2<cntB b (i+1) (lev+w) (dec4 nd p)
   ·obtain ⟨v',H',a1,a2,a3,a4,a5,hN3,anu⟩:=hN2.add (by omega) (i:Int) hn.1 hd4 rt2
    rw[hyE] at a2 hN3 rt2
    rw[hsE] at a3
    have ht1:H.length<τ.length:=(QH.1 (WO rt2)).1
    have ha5:=a5 H.length (by simp)
    simp only[QJ,hlt,evA,simprocAttr]
    refine DW_s [] [(4,2),(4,3)] hmix (by kernel_rfl) rfl ?_
    simp only[hnu,a1,a2,a3,anu,evA,simprocAttr]
    refine ⟨⟨QE ht1,ha5⟩,?_⟩
    generalize H'.set s (AObj.cells [AV.i ((i+1:Nat):Int),AV.i (lev+w),AV.i y0,AV.i y1,AV.i y2,AV.i y3])=H2 at hN3 ⊢
    have hrs3:=hN3.rs
    rw[hyE] at hrs3
    have hN4:=hN3.turn
    rw[hyE] at hN4
    simp only[hrs3,WW,VW,evA,simprocAttr]
    refine ZL (by omega) ⟨i+1,n2,lev+w,dec4 nd p,_,_,_,_,_,_,_,_,_,_,v',L++[(i:Int)],_,by omega,by omega,by omega,n4_dec hn hp4 hcan',hlt,?_,by simp;omega,hN4,rfl⟩
    rw[← htg,← hnt,hn_t hlt]
    simp[iL]
   ·have hw:IntKind.i64.wrap ((n2:Int)-(cntB b (i+1) (lev+w) (dec4 nd p):Nat))=((n2-cntB b (i+1) (lev+w) (dec4 nd p):Nat):Int):=by rw[ZC (by omega)];omega
    simp only[QJ,hlt,hw,hwk,evA,simprocAttr]
    exact ZL (by first | trivial | omega) ⟨n2-cntB b (i+1) (lev+w) (dec4 nd p),_,_,_,_,_,_,_,by omega,by omega,by rw[← hnt,hn_s hlt],hN2.drop,rfl⟩
theorem tp148 (zs:List Int) (x:Int) (hz:zs.length<2 ^ 63):PC Tryz.prog 148 [ints zs,.i x] (.i (idxF_l (fun z=>x == z) zs)):=by
 refine ⟨ZF (fok148 true) (QC rfl) ?_,rfl⟩
 simp only[ic148,evA,simprocAttr]
 refine ZW zs.length (fun i s=>(∀ j,j<i→(x == zs[j]?.getD 0)=false)∧∃ v3 v6 v7,s=⟨[ints zs,.i x,.i 0,v3,.i zs.length,.i i,v6,v7],[]⟩) ?_ 0 (QF _) ⟨by omega,_,_,_,rfl⟩
 rintro i s hi ⟨hall,v3,v6,v7,rfl⟩
 by_cases h:i<zs.length
 ·simp only[ic148l0,QJ,h,J5 h,J4 h,WA,evA,simprocAttr]
  cases hp:(x == zs[i]?.getD 0)
  ·simp only[hp,evA,simprocAttr]
   refine ZL (by first | trivial | omega) ⟨fun j hj=>?_,_,_,_,by rw[ZC (by omega)];rfl⟩
   rcases QQ.1 hj with hj | rfl
   ·exact hall j hj
   ·exact hp
  ·simp only[hp,evA,simprocAttr]
   rw[idxF_some_l (p:=fun z=>x == z) h hall hp]
   exact frz
 ·simp only[ic148l0,QJ,h,evA,simprocAttr]
  have:i=zs.length:=by omega
  subst this
  rw[idxF_none_l (p:=fun z=>x == z) hall]
  exact frz
theorem tp118 (zs:List Int) (x:Int) (hz:zs.length<2 ^ 63):PC Tryz.prog 118 [ints zs,.i x] (.b (zs.any fun z=>x == z)):=by
 refine ⟨ZF (fok118 true) (QC rfl) ?_,rfl⟩
 simp only[ic118,evA,simprocAttr]
 refine (tp148 zs x hz).call frz ?_
 simp only[evA,simprocAttr,idxF_ge_l]
 exact frz
def comN (a b:List Int) (n:Nat):Nat:=(a.take n).countP fun x=>b.any fun z=>x == z
theorem comN_succ {a b:List Int} {n:Nat} (h:n<a.length):comN a b (n+1)=comN a b n+if (b.any fun z=>a[n]?.getD 0 == z)=true then 1 else 0:=by
 unfold comN
 rw[List.take_succ_eq_append_getElem h,List.countP_append]
 simp[K9,h]
theorem comN_le (a b:List Int) (n:Nat):comN a b n≤n:=YR (List.countP_le_length) (by simp;omega)
theorem tp97 (a b:List Int) (ha:a.length<2 ^ 62) (hb:b.length<2 ^ 62):PC Tryz.prog 97 [ints a,ints b] (.i (comN a b a.length:Nat)):=by
 refine ⟨ZF (fok97 true) (QC rfl) ?_,rfl⟩
 simp only[ic97,evA,simprocAttr]
 refine ZW a.length (fun i s=>∃ v3 v7 v8,s=⟨[ints a,ints b,.i (comN a b i:Nat),v3,ints a,.i a.length,.i i,v7,v8],[]⟩) ?_ 0 (QF _) ⟨_,_,_,rfl⟩
 rintro i s hi ⟨v3,v7,v8,rfl⟩
 by_cases h:i<a.length
 ·have hwk:=Q6 (show i+1<2 ^ 63 by omega)
  have hcl:=comN_le a b i
  have hsu:=comN_succ (b:=b) h
  simp only[ic97l0,QJ,h,J5 h,J4 h,WA,evA,simprocAttr]
  refine (tp118 b (a[i]?.getD 0) (by omega)).call frz ?_
  cases hp:(b.any fun z=>a[i]?.getD 0 == z) with
  | true =>
   rw[hp,if_pos rfl] at hsu
   have hw:IntKind.i64.wrap ((comN a b i:Int)+1)=((comN a b (i+1):Nat):Int):=by rw[hsu];exact Q6 (by omega)
   simp only[hw,hwk,evA,simprocAttr]
   exact ZL (by first | trivial | omega) ⟨_,_,_,rfl⟩
  | false =>
   rw[hp,if_neg (by decide)] at hsu
   simp only[hwk,evA,simprocAttr]
   exact ZL (by first | trivial | omega) ⟨_,_,_,by rw[hsu];rfl⟩
 ·simp only[ic97l0,QJ,h,evA,simprocAttr]
  have:i=a.length:=by omega
  subst this
  exact frz
structure Hal where
 r:Nat
 s:Nat
 c:Nat
structure HalOk (h:Hal):Prop where
 r1:1≤h.r
 r5:h.r≤5
 s1:1≤h.s
 s6:h.s≤6
 c16:h.c≤16
abbrev haC (h:Hal):List AV:=[.i h.r,.i h.s,.i h.c]
abbrev haV (h:Hal):AV:=.agg (haC h)
def nbB (h:Hal) (pl:List (List Int)) (pa:List Int) (n:Nat):Bool:=decide (comN pl[n]! pa pl[n]!.length≤h.c)
def apB (h:Hal) (pl:List (List Int)) (seat:Nat) (pa:List Int):Bool :=
 (!decide (h.s≤seat)||nbB h pl pa (seat-h.s))&&(!decide (0<seat % h.s)||nbB h pl pa (seat-1))
theorem tp96 (h:Hal) (seat:Nat) (σ:List AObj):AC Tryz.prog 96 [haV h,.i seat] σ fun r τ=>r=.fn (.func 117) [.ptr (σ.length+1) 0,.ptr σ.length 0]∧τ=σ++[.cells (haC h),.cells [.i seat]]:=by
 refine ZF (fok96 true) (QC rfl) ?_
 simp only[ic96,WI,cellsOf,QW,List.cons_append,List.nil_append,QM,evA,simprocAttr]
def ia61:IC:=(.region [jw 8 .mv [.v 10]])
def ib61:IC:=(.block 1 (.seq (.dr [[],[],[0,1],[2],[],[3,4],[],[6],[5,7]] [jL 5,jv 8,ja 1 0 1,jl 2,jL 6,jk 97 [.t 3,.t 4],jF 2 4,jl 6,jw 11 (.bin .gtr .int) [.t 5,.t 7]])
 (.cond 11 (.seq (.region [jq (.store 1) [.v 7,jB false]])
 .ret)
 .skip)))
theorem ca61:QL Tryz.prog vs61 23 (nav [1,0,1,0,2] (Tryz.f61.body.getD .skip))=some ia61:=by kernel_rfl
theorem cb61:QL Tryz.prog vs61 23 (nav [1,0,1,0,3] (Tryz.f61.body.getD .skip))=some ib61:=by kernel_rfl
abbrev apH (h:Hal) (pl:List (List Int)) (seat:Nat) (pa:List Int) (R:XC):List AObj :=
 [.cells (haC h),.cells [.cv (minR pl)],.cells [ints pa],.cells [.cv (.bool false)],.cells (haC h),.cells [.i seat],.loop R]
abbrev apV (h:Hal) (pl:List (List Int)) (seat:Nat) (pa:List Int):List AV :=
 [haV h,.cv (minR pl),.i seat,ints pa,.ptr 0 0,.ptr 1 0,.ptr 2 0,.ptr 3 0,.undef,.fn (.func 117) [.ptr 5 0,.ptr 4 0],.undef,.undef]
theorem nb_round (h:Hal) (pl:List (List Int)) (seat:Nat) (pa:List Int) (hp:∀ n,n<pl.length→pl[n]!.length<2 ^ 62) (hpa:pa.length<2 ^ 62) {R:XC} (hR:IA Tryz.prog vs61 23 [13] (apV h pl seat pa) ia61 ib61 R)
  (n:Nat) (hn:n<pl.length):YC Tryz.prog 6 [.i n] (apH h pl seat pa R) fun r τ=>r=.b (nbB h pl pa n)∧τ=apH h pl seat pa (if nbB h pl pa n=true then R else retL R):=by
 refine YC_g hR rfl rfl (by decide) ?_
 have x13:vs61.idxOf? 13=some 10:=by decide
 have hia:∀ σ,VP 1 [.cv (minR pl),.cv (.int .i64 n)] σ=some (.cv (.rp (pl.map rowC) (n*1)),σ):=fun σ=>XP hn σ
 have hld:=B7 hn
 have hc97:=tp97 pl[n]! pa (hp n hn) hpa
 have hnb:nbB h pl pa n=decide (comN pl[n]! pa pl[n]!.length≤h.c):=rfl
 rw[hnb]
 generalize pl[n]! = q at *
 simp only[ia61,JM,x13,evA,simprocAttr]
 refine Qan hR rfl ?_
 simp only[ib61,evA,simprocAttr]
 refine DW_s [5] [] hmix (by kernel_rfl) rfl ?_
 simp only[hia,W3,hld,evA,simprocAttr]
 refine YE (hc97.call frz ⟨rfl,rfl⟩) rfl ?_
 by_cases hc:comN q pa q.length≤h.c
 ·have hd:decide ((comN q pa q.length:Int)>h.c)=false:=decide_eq_false (by omega)
  rw[decide_eq_true hc,if_pos rfl]
  simp only[hd,evA,simprocAttr]
  exact RU hR rfl ⟨rfl,rfl⟩
 ·have hd:decide ((comN q pa q.length:Int)>h.c)=true:=decide_eq_true (by omega)
  rw[decide_eq_false hc,if_neg (by decide)]
  simp only[hd,evA,simprocAttr]
  exact Qdh (R:=R) rfl ⟨rfl,rfl⟩
theorem tp61 (h:Hal) (hh:HalOk h) (pl:List (List Int)) (seat:Nat) (pa:List Int) (hs:seat≤pl.length) (hpl:pl.length≤1000) (hp:∀ n,n<pl.length→pl[n]!.length<2 ^ 62) (hpa:pa.length<2 ^ 62) :
  PC Tryz.prog 61 [haV h,.cv (minR pl),.i seat,ints pa] (.b (apB h pl seat pa)):=by
 refine ⟨ZF (fok61 true) (QC rfl) ?_,rfl⟩
 simp only[ic61,WI,cellsOf,evA,simprocAttr]
 refine (tp96 h seat _).run ?_
 simp only[List.length_cons,List.length_nil,List.cons_append,List.nil_append,evA,simprocAttr]
 refine RW_g ia61 ib61 (gf:=117) (cap:=[.ptr 5 0,.ptr 4 0]) rfl (QC rfl) (fun l h=>by cases h) ca61 cb61 ?_
 intro R hR
 have hrd:=fun n hn=>nb_round h pl seat pa hp hpa (R:=R) hR n hn
 refine AC.mono (Q:=fun _ τ=>τ=apH h pl seat pa (if apB h pl seat pa=true then R else retL R)) ?_ ?_
 ·refine ZF (fok117 true) (QC rfl) ?_
  have hs6:=hh.s6
  have hs1:=hh.s1
  have hnz:¬ ((h.s:Int)=0):=by omega
  have hrem:(seat:Int).tmod (h.s:Int)=((seat % h.s:Nat):Int):=rfl
  have hd2:decide (((seat % h.s:Nat):Int)>0)=decide (0<seat % h.s):=by
   by_cases e:0<seat % h.s
   ·rw[decide_eq_true e,decide_eq_true (by omega)]
   ·rw[decide_eq_false e,decide_eq_false (by omega)]
  have hsl:seat % h.s≤seat:=Nat.mod_le _ _
  have hap:apB h pl seat pa=((!decide (h.s≤seat)||nbB h pl pa (seat-h.s))&&(!decide (0<seat % h.s)||nbB h pl pa (seat-1))):=rfl
  simp only[ic117,evA,simprocAttr]
  by_cases hge:h.s≤seat
  ·have hd:decide ((seat:Int)≥h.s)=true:=decide_eq_true (by omega)
   have hw:IntKind.i64.wrap ((seat:Int)-h.s)=((seat-h.s:Nat):Int):=by rw[ZC (by omega)];omega
   simp only[hd,hw,evA,simprocAttr]
   refine (hrd (seat-h.s) (by omega)).mono ?_
   rintro r τ ⟨rfl,rfl⟩
   cases h1:nbB h pl pa (seat-h.s) with
   | false =>
    have hv:apB h pl seat pa=false:=by rw[hap,h1,decide_eq_true hge];rfl
    rw[hv]
    simp only[QT,if_false,evA,simprocAttr]
   | true =>
    simp only[if_true,hnz,hrem,hd2,evA,simprocAttr]
    cases h2:decide (0<seat % h.s) with
    | false =>
     have hv:apB h pl seat pa=true:=by rw[hap,h1,h2,decide_eq_true hge];rfl
     rw[hv]
     simp only[if_true,evA,simprocAttr]
    | true =>
     have h2':=of_decide_eq_true h2
     have hw1:IntKind.i64.wrap ((seat:Int)-1)=((seat-1:Nat):Int):=by rw[ZC (by omega)];omega
     simp only[hw1,evA,simprocAttr]
     refine (hrd (seat-1) (by omega)).mono ?_
     rintro r τ ⟨rfl,rfl⟩
     have hv:apB h pl seat pa=nbB h pl pa (seat-1):=by rw[hap,h1,h2,decide_eq_true hge];cases nbB h pl pa (seat-1) <;> rfl
     rw[hv]
     simp only[evA,simprocAttr]
  ·have hd:decide ((seat:Int)≥h.s)=false:=decide_eq_false (by omega)
   simp only[hd,hnz,hrem,hd2,evA,simprocAttr]
   cases h2:decide (0<seat % h.s) with
   | false =>
    have hv:apB h pl seat pa=true:=by rw[hap,h2,decide_eq_false hge];rfl
    rw[hv]
    simp only[if_true,evA,simprocAttr]
   | true =>
    have h2':=of_decide_eq_true h2
    have hw1:IntKind.i64.wrap ((seat:Int)-1)=((seat-1:Nat):Int):=by rw[ZC (by omega)];omega
    simp only[hw1,evA,simprocAttr]
    refine (hrd (seat-1) (by omega)).mono ?_
    rintro r τ ⟨rfl,rfl⟩
    have hv:apB h pl seat pa=nbB h pl pa (seat-1):=by rw[hap,h2,decide_eq_false hge];cases nbB h pl pa (seat-1) <;> rfl
    rw[hv]
    simp only[evA,simprocAttr]
 ·rintro r τ rfl
  cases hv:apB h pl seat pa with
  | true =>
   rw[if_pos rfl]
   refine M9 hR rfl ?_
   simp only[evA,simprocAttr]
   exact frz
  | false =>
   rw[if_neg (by decide)]
   refine after_r (R:=R) rfl (QcP ?_)
   simp only[evA,simprocAttr]
   exact frz
theorem tp56 (b:Bk) (hb:BkOk b) (h:Hal) (hh:HalOk h):AC Tryz.prog 56 [bkV b,haV h,.i ((h.r*h.s:Nat):Int)] [] fun r τ=>r=.tup [.ptr 1 0,.i 0]∧τ=opH b:=by
 obtain ⟨hr,hs,hc⟩:=h
 have e1:=hh.r1
 have e2:=hh.r5
 have e3:=hh.s1
 have e4:=hh.s6
 have e5:=hh.c16
 simp only at e1 e2 e3 e4 e5 ⊢
 refine AC.tidy (Q:=fun r τ=>r=.tup [.ptr 3 0,.i 0]∧∃ J,τ=[.cells (bkC b),.cells (haC ⟨hr,hs,hc⟩),.map [],.cells (opC b (ints (wG b)) 2)]++J) ?_ ?_
 rotate_left
 ·rintro r τ ⟨rfl,J,rfl⟩
  refine ⟨fun l=>l+2,.tup [.ptr 1 0,.i 0],opH b,⟨fun l h=>absurd h (W5 _),fun a c h _=>Nat.add_lt_add_right h 2,QF _,rfl,rfl,fun l o ho=>.inr ?_⟩,rfl,rfl⟩
  match l,ho with
  | 0,ho=>cases ho;exact ⟨rfl,rfl⟩
  | 1,ho=>cases ho;exact ⟨rfl,rfl⟩
 refine ZF (fok56 true) (QC rfl) ?_
 simp only[ic56,WI,cellsOf,evA,simprocAttr]
 refine (AC.frame (by simp[QO,QR]) (tp91 b hb) _).mono ?_
 rintro r τ ⟨r0,τ0,⟨rfl,rfl⟩,rfl,rfl⟩
 simp only[opH,Q0,WS,List.length_cons,List.length_nil,renO,ren,rens,sh,evA,simprocAttr]
 refine (out_in (lo:=1) (hi:=5) (a:=hr) (by omega)).call frz ?_
 simp only[evA,simprocAttr]
 refine (out_in (lo:=1) (hi:=6) (a:=hs) (by omega)).call frz ?_
 simp only[evA,simprocAttr]
 refine (out_in (lo:=0) (hi:=16) (a:=hc) (by omega)).call frz ?_
 have hm:hr*hs≤30:=Nat.mul_le_mul e2 e4
 have hw:IntKind.i64.wrap ((hr:Int)*(hs:Int))=((hr*hs:Nat):Int):=by rw[ZC (by rw[← Int.natCast_mul];omega)];rfl
 have hne:(((hr*hs:Nat):Int) != ((hr*hs:Nat):Int))=false:=by simp
 simp only[hw,hne,evA,simprocAttr]
 exact ⟨_,rfl⟩
theorem out_no {lo hi a:Int} (h:¬ (lo≤a∧a≤hi)):PC Tryz.prog 57 [.i lo,.i hi,ints [a]] (.b true):=by
 have:=out1 lo hi a
 have hf:inB a lo hi=false:=by
  cases hi2:inB a lo hi with
  | false=>rfl
  | true=>exact absurd (VB.1 hi2) h
 rwa [hf] at this
theorem tp56e (b:Bk) (hb:BkOk b) (hr hs:Nat) (hc:Int) (n:Int) (e1:1≤hr) (e2:hr≤5) (e3:1≤hs) (e4:hs≤6) (e5:¬ (0≤hc∧hc≤16)):PC Tryz.prog 56 [bkV b,.agg [.i hr,.i hs,.i hc],.i n] (.tup [.cv .nilp,.i 7]):=by
 refine ⟨ZF (fok56 true) (QC rfl) ?_,rfl⟩
 simp only[ic56,WI,cellsOf,evA,simprocAttr]
 refine (AC.frame (by simp[QO,QR]) (tp91 b hb) _).mono ?_
 rintro r τ ⟨r0,τ0,⟨rfl,rfl⟩,rfl,rfl⟩
 simp only[opH,Q0,WS,List.length_cons,List.length_nil,renO,ren,rens,sh,evA,simprocAttr]
 refine (out_in (lo:=1) (hi:=5) (a:=hr) (by omega)).call frz ?_
 simp only[evA,simprocAttr]
 refine (out_in (lo:=1) (hi:=6) (a:=hs) (by omega)).call frz ?_
 simp only[evA,simprocAttr]
 refine (out_no (lo:=0) (hi:=16) (a:=hc) e5).call frz ?_
 simp only[evA,simprocAttr]
 exact frz
abbrev manyB (b:Bk):Nat:=cntB b 0 0 (pad4 b.wt)
def papB (b:Bk) (n:Nat):List Int:=iL (nthB b 0 0 (pad4 b.wt) n)
def pkB (b:Bk) (h:Hal) (pl:List (List Int)) (n k:Nat):Bool:=apB h pl pl.length (papB b ((n+k) % manyB b))
def drP (b:Bk) (h:Hal):List Nat→List (List Int)→Option (List (List Int))
 | [],pl=>some pl
 | n::ns,pl=>match (List.range (manyB b)).find? (pkB b h pl n) with
  | some k=>drP b h ns (pl++[papB b ((n+k) % manyB b)])
  | none=>none
def drO:Option (List (List Int))→AV
 | some pl=>.tup [.cv (minR pl),.i 0]
 | none=>.tup [.cv (minR []),.i 9]
def drV (b:Bk) (h:Hal) (ns:List Nat):AV:=if manyB b=0 then .tup [.cv (minR []),.i 4] else drO (drP b h ns [])
theorem drV_cl (b:Bk) (h:Hal) (ns:List Nat):QR 0 (drV b h ns)=true:=by
 unfold drV
 split
 ·rfl
 ·cases drP b h ns [] <;> rfl
theorem find_some {p:Nat→Bool} {n k:Nat} (hk:k<n) (hp:p k=true) (hall:∀ j,j<k→p j=false):(List.range n).find? p=some k:=by
 rw[List.find?_range_eq_some]
 exact ⟨hp,by simpa using hk,fun j hj=>by simp[hall j hj]⟩
theorem find_none {p:Nat→Bool} {n:Nat} (hall:∀ j,j<n→p j=false):(List.range n).find? p=none:=by
 rw[List.find?_eq_none]
 intro x hx
 simp[hall x (ZI.1 hx)]
theorem memE_ren (g:Nat→Nat) (M:MemP):renO g (.map (memE M))=.map (memE M):=E1 (g:=g) (k:=0) (fun l hl=>absurd hl (W5 _)) (memE_in 0 M)
structure DrH (b:Bk) (h:Hal) (H:List AObj) (v:AV) (pl:List (List Int)):Prop where
 r0:H[0]? = some (.cells (bkC b))
 r1:H[1]? = some (.cells (haC h))
 r3:H[3]? = some (.cells (opC b (ints (wG b)) 2))
 m:∃ M,okM b M∧H[2]? = some (.map (memE M))
 a:VH 4 1 H v pl.length (pl.map rowC)
section
variable {b:Bk} {h:Hal} {H:List AObj} {v:AV} {pl:List (List Int)}
theorem DrH.len (d:DrH b h H v pl):4≤H.length:=(QH.1 d.r3).1
theorem DrH.nth (hb:BkOk b) (d:DrH b h H v pl) (n:Nat) (hn:n<manyB b):AC Tryz.prog 60 [.ptr 3 0,.i n] H fun r τ=>r=ints (papB b n)∧DrH b h τ v pl:=by
 obtain ⟨M,hM,hm⟩:=d.m
 have hl:=d.len
 have:=AC.at (σ:=H) [2,3] (tp60 b hb M hM n hn) (by decide) rfl ?_
 ·refine this.mono ?_
  rintro r τ ⟨r0,τ0,⟨rfl,M',hM',rfl⟩,_,rfl,rfl⟩
  refine ⟨rfl,?_⟩
  have he:putL H [2,3] (List.map (renO (atF [2,3] H.length)) (mpH 0 (opH b) M'))=(H.set 2 (.map (memE M'))).set 3 (.cells (opC b (ints (wG b)) 2)):=by
   rw[mpH_op,Q0,Q0,memE_ren]
   show putL H [2,3] [_,_]=_
   simp only[putL,ZU]
   rfl
  rw[he]
  refine ⟨?_,?_,?_,⟨M',hM',?_⟩,accF_set (accF_set d.a (by decide) _) (by decide) _⟩
  ·rw[QU (by decide),QU (by decide)];exact d.r0
  ·rw[QU (by decide),QU (by decide)];exact d.r1
  ·rw[Z2 (by simp;omega)]
  ·rw[QU (by decide),Z2 (by omega)]
 ·rw[mpH_op]
  refine ⟨⟨trivial,memE_in _ M,?_⟩,⟨trivial,rfl,?_⟩,trivial⟩
  ·rw[memE_ren];exact hm
  ·exact d.r3
end
theorem nthP_len {lo hi:Int}:∀ (qs:List Qu) (k:Nat) (lev:Int) (nd:List Int) (n:Nat),(nthP lo hi qs k lev nd n).length≤qs.length
 | [],_,_,_,_=>by simp[nthP]
 | (p,w)::qs,k,lev,nd,n=>by
  cases hz:zer4 nd with
  | true=>rw[nthP_zero hz];simp
  | false =>
   by_cases hn:n<tkP lo hi p w qs lev nd
   ·rw[nthP_take hz hn]
    have:=nthP_len (lo:=lo) (hi:=hi) qs (k+1) (lev+w) (dec4 nd p) n
    simp only[List.length_cons];omega
   ·rw[nthP_skip hz hn]
    have:=nthP_len (lo:=lo) (hi:=hi) qs (k+1) lev nd (n-tkP lo hi p w qs lev nd)
    simp only[List.length_cons];omega
theorem papB_len (b:Bk) (hb:BkOk b) (n:Nat):(papB b n).length≤16:=by
 have:=nthP_len (lo:=b.lo) (hi:=b.hi) ((quP b).drop 0) 0 0 (pad4 b.wt) n
 rw[YO,quP_len] at this
 have h16:=hb.n16
 unfold papB
 simp only[iL,ZK]
 simp only[nthB,YO]
 omega
theorem frz_pl {b:Nat} {H:List AObj} {v:AV} {pl:List (List Int)} (h:VH b 1 H v pl.length (pl.map rowC)):FrzV anyC H v (.cv (minR pl)):=.c (QfD h.acc fun _ _=>trivial)
theorem tp19 (b:Bk) (hb:BkOk b) (h:Hal) (hh:HalOk h) (ns:List Nat) (hl:ns.length=h.r*h.s) (hns:∀ n∈ns,n≤1000000000):PA Tryz.prog 19 [bkV b,haV h,ints (iL ns)] (drV b h ns):=by
 refine ⟨ZF (fok19 true) (QC rfl) ?_,drV_cl b h ns,rfl⟩
 have hm30:h.r*h.s≤30:=Nat.mul_le_mul hh.r5 hh.s6
 have hln:(iL ns).length=ns.length:=by simp
 simp only[ic19,WI,cellsOf,ZK,evA,simprocAttr]
 rw[hl]
 refine (AC.frame (by simp[QO,QR]) (tp56 b hb h hh) _).mono ?_
 rintro r τ ⟨r0,τ0,⟨rfl,rfl⟩,rfl,rfl⟩
 simp only[opH,Q0,WS,List.length_cons,List.length_nil,renO,ren,rens,sh,evA,simprocAttr]
 have hout:PC Tryz.prog 57 [.i 0,.i 1000000000,ints (iL ns)] (.b false):=by
  have:=tp57 0 1000000000 (iL ns) (by rw[hln];omega)
  rwa [VL.2 (by intro z hz;obtain ⟨n,hn,rfl⟩:=ZP.1 hz;have:=hns n hn;omega)] at this
 refine hout.call frz ?_
 simp only[evA,simprocAttr]
 have hpw:=pad4_ok b hb
 have h59:=tp59 b hb (A:=3) (D:=2) (σ:=[.cells (bkC b),.cells (haC h),.map [],.cells (opC b (ints (wG b)) 2)]) rfl
 have h58:=tp58 b hb (A:=3) (D:=2) (by decide) (b.qs.length+1) 0 0 (pad4 b.wt) [] [.cells (bkC b),.cells (haC h),.map [],.cells (opC b (ints (wG b)) 2)] rfl (by show 2<4;decide) (QF _) (by omega) (by decide) hpw memP_nil
 refine h59.run ?_
 simp only[evA,simprocAttr]
 refine h58.mono ?_
 rintro r τ ⟨rfl,M',hM',rfl⟩
 have hD0:DrH b h (mpH 2 [.cells (bkC b),.cells (haC h),.map [],.cells (opC b (ints (wG b)) 2)] M') (.cv .nils) []:=⟨rfl,rfl,rfl,⟨M',hM',rfl⟩,.inl ⟨rfl,rfl,rfl⟩⟩
 generalize mpH 2 [.cells (bkC b),.cells (haC h),.map [],.cells (opC b (ints (wG b)) 2)] M'=H0₀ at hD0 ⊢
 have hmb:cntB b 0 0 (pad4 b.wt)=manyB b:=rfl
 have hml:=cntB_le b hb 0 0 (pad4 b.wt)
 rw[hmb] at hml ⊢
 generalize hmany:manyB b=many at *
 by_cases hm0:many=0
 ·subst hm0
  have hv:drV b h ns=.tup [.cv (minR []),.i 4]:=by unfold drV;rw[if_pos hmany]
  rw[hv]
  simp only[evA,simprocAttr]
  exact frz
 have hb0:((many:Int) == 0)=false:=by rw[beq_eq_false_iff_ne];omega
 have hv:drV b h ns=drO (drP b h ns []):=by unfold drV;rw[if_neg (by omega)]
 rw[hv]
 simp only[hb0,ZK,evA,simprocAttr]
 refine ZW ns.length (fun i s=>∃ v9 v10 v11 v12 v19 v20 v21 v22 v23 v pl H,pl.length=i∧drP b h (ns.drop i) pl=drP b h ns []∧(∀ n,n<pl.length→pl[n]!.length≤16)∧DrH b h H v pl ∧
  s=⟨[bkV b,haV h,ints (iL ns),.ptr 0 0,.ptr 1 0,v,.i 0,.ptr 3 0,.i many,v9,v10,v11,v12,.b false,.b false,.b false,ints (iL ns),.i ns.length,.i i,v19,v20,v21,v22,v23],H⟩) ?_ 0 (QF _)
  ⟨_,_,_,_,_,_,_,_,_,_,[],H0₀,rfl,rfl,fun n hn=>absurd hn (by simp),hD0,rfl⟩
 rintro i s hi ⟨v9,v10,v11,v12,v19,v20,v21,v22,v23,v,pl,H,hpl,hdr,hpn,hD,rfl⟩
 by_cases hin:i<ns.length
 rotate_left
 ·have:i=ns.length:=by omega
  subst this
  rw[List.drop_of_length_le (QG _)] at hdr
  rw[← hdr]
  have hnu:=hD.a.nu
  simp only[ic19l1,QJ,hin,hnu,drP,drO,evA,simprocAttr]
  exact .tup (.cons (frz_pl hD.a) (.cons (.c (.c _ trivial)) .nil))
 have hil:i<(iL ns).length:=by rw[hln];exact hin
 have hgi:(iL ns)[i]?.getD 0=(ns[i]:Int):=by simp[hin]
 have hni:=hns ns[i] (Q2 hin)
 have hdi:ns.drop i=ns[i]::ns.drop (i+1):=List.drop_eq_getElem_cons hin
 rw[hdi] at hdr
 have hwk:=Q6 (show i+1<2 ^ 63 by omega)
 simp only[ic19l1,QJ,hin,J5 (show i<ns.length from hin),J4 hil,WA,hgi,evA,simprocAttr]
 generalize ns[i]=n at *
 refine ZW many (fun k s=>(∀ j,j<k→pkB b h pl n j=false)∧∃ v11 v12 v22 v23 H,DrH b h H v pl ∧
  s=⟨[bkV b,haV h,ints (iL ns),.ptr 0 0,.ptr 1 0,v,.i 0,.ptr 3 0,.i many,.i i,.i n,v11,v12,.b false,.b false,.b false,ints (iL ns),.i ns.length,.i i,.b true,.i many,.i k,v22,v23],H⟩) ?_ 0 (QF _)
  ⟨fun j hj=>absurd hj (W5 _),_,_,_,_,_,hD,rfl⟩
 clear hD H
 rintro k s hk ⟨hall,v11,v12,v22,v23,H,hD,rfl⟩
 by_cases hkm:k<many
 rotate_left
 ·have:k=many:=by omega
  subst this
  have hno:drP b h ns []=none:=by
   rw[← hdr,drP,find_none (by rw[hmany];exact hall)]
  rw[hno]
  simp only[ic19l0,QJ,hkm,drO,evA,simprocAttr]
  exact frz
 have hnk:(n+k) % many<many:=Nat.mod_lt _ (by omega)
 have hwn:IntKind.i64.wrap ((n:Int)+(k:Int))=((n+k:Nat):Int):=by rw[ZC (by omega)];rfl
 have hnz:¬ ((many:Int)=0):=by omega
 have hrem:((n+k:Nat):Int).tmod (many:Int)=(((n+k) % many:Nat):Int):=rfl
 have hwk2:=Q6 (show k+1<2 ^ 63 by omega)
 have h60:=hD.nth hb ((n+k) % many) (by rw[hmany];exact hnk)
 simp only[ic19l0,QJ,hkm,hwn,hnz,hrem,evA,simprocAttr]
 refine h60.mono ?_
 rintro r τ ⟨rfl,hD2⟩
 have hpk:pkB b h pl n k=apB h pl pl.length (papB b ((n+k) % many)):=by unfold pkB;rw[hmany]
 have hpl2:=papB_len b hb ((n+k) % many)
 have hr1:rowOf τ 1=some (haC h):=by unfold rowOf;rw[hD2.r1]
 have hlt:=hD2.len
 obtain ⟨v',σ',a1,a2,a3,a4⟩:=K3 (by_:=24) (x:=[rowC (papB b ((n+k) % many))]) hlt hD2.a rfl (by omega) (by omega)
 simp only[Q0,WS] at a1
 have hstep:apB h pl pl.length (papB b ((n+k) % many))=true→drP b h (ns.drop (i+1)) (pl++[papB b ((n+k) % many)])=drP b h ns []:=fun ht=>by
  rw[← hdr,drP,hmany,find_some (p:=pkB b h pl n) hkm (by rw[hpk];exact ht) hall]
 generalize papB b ((n+k) % many)=pa at *
 simp only[hr1,evA,simprocAttr]
 refine (tp61 h hh pl i pa (by omega) (by omega) (fun n hn=>by have:=hpn n hn;omega) (by omega)).call (.cons (GE (k:=0) _ rfl) (.cons (frz_pl hD2.a) (.cons (GE (k:=0) _ rfl) (.cons (GE (k:=0) _ rfl) .nil)))) ?_
 rw[hpl] at hpk hstep
 cases hap:apB h pl i pa with
 | false =>
  simp only[hwk2,evA,simprocAttr]
  refine ZL (by first | trivial | omega) ⟨fun j hj=>?_,_,_,_,_,_,hD2,rfl⟩
  rcases QQ.1 hj with hj | rfl
  ·exact hall j hj
  ·rw[hpk];exact hap
 | true =>
  have anu:=a2.nu
  have hD3:DrH b h σ' v' (pl++[pa]):=by
   obtain ⟨M2,hM2,hm2⟩:=hD2.m
   exact ⟨by rw[a3 0 (by decide)];exact hD2.r0,by rw[a3 1 (by decide)];exact hD2.r1,by rw[a3 3 (by decide)];exact hD2.r3,⟨M2,hM2,by rw[a3 2 (by decide)];exact hm2⟩,by rw[QM,ZS];exact a2⟩
  simp only[a1,anu,hwk,evA,simprocAttr]
  refine ZL (by first | trivial | omega) ⟨_,_,_,_,_,_,_,_,_,v',pl++[pa],σ',by simp[hpl],hstep hap,fun j hj=>?_,hD3,rfl⟩
  by_cases hj2:j<pl.length
  ·have:=hpn j hj2
   rwa [show (pl++[pa])[j]! = pl[j]! by simp[QE hj2]]
  ·have hje:j=pl.length:=by simp at hj;omega
   subst hje
   rw[show (pl++[pa])[pl.length]! = pa by simp]
   exact hpl2
structure FoH (b:Bk) (h:Hal) (H:List AObj):Prop where
 r0:H[0]? = some (.cells (bkC b))
 r1:H[1]? = some (.cells (haC h))
 r3:H[3]? = some (.cells (opC b (ints (wG b)) 2))
 m:∃ M,okM b M∧H[2]? = some (.map (memE M))
section
variable {b:Bk} {h:Hal} {H:List AObj}
theorem FoH.len (d:FoH b h H):4≤H.length:=(QH.1 d.r3).1
theorem FoH.row (d:FoH b h H):rowOf H 3=some (opC b (ints (wG b)) 2):=by unfold rowOf;rw[d.r3]
theorem FoH.app (d:FoH b h H) (J:List AObj):FoH b h (H++J):=by
 have hl:=d.len
 obtain ⟨M,hM,hm⟩:=d.m
 exact ⟨by rw[QE (by omega)];exact d.r0,by rw[QE (by omega)];exact d.r1,by rw[QE (by omega)];exact d.r3,M,hM,by rw[QE (by omega)];exact hm⟩
theorem FoH.set (d:FoH b h H) {s:Nat} (hs:4≤s) (o:AObj):FoH b h (H.set s o):=by
 obtain ⟨M,hM,hm⟩:=d.m
 exact ⟨by rw[QU (by omega)];exact d.r0,by rw[QU (by omega)];exact d.r1,by rw[QU (by omega)];exact d.r3,M,hM,by rw[QU (by omega)];exact hm⟩
theorem FoH.cnt (hb:BkOk b) (d:FoH b h H) (k:Nat) (lev:Int) (nd:List Int) (hk:k≤b.qs.length) (hl:0≤lev∧lev≤1000*k) (hn:N4₀ nd) :
  AC Tryz.prog 58 [.ptr 3 0,sttV k lev nd] H fun r τ=>r=.i (cntB b k lev nd:Nat)∧FoH b h τ∧∀ s,4≤s→rowOf τ s=rowOf H s:=by
 obtain ⟨M,hM,hm⟩:=d.m
 have hlen:=d.len
 have hself:mpH 2 H M=H:=by
  unfold mpH
  apply Z1
  intro j
  rw[ZO]
  by_cases hj:2=j
  ·subst hj
   rw[if_pos rfl,if_pos (by omega)];exact hm.symm
  ·rw[if_neg hj]
 have:=tp58 b hb (A:=3) (D:=2) (by decide) (b.qs.length+1) k lev nd M H d.row (by omega) hk (by omega) hl hn hM
 rw[hself] at this
 refine this.mono ?_
 rintro r τ ⟨rfl,M',hM',rfl⟩
 unfold mpH
 refine ⟨rfl,⟨by rw[QU (by decide)];exact d.r0,by rw[QU (by decide)];exact d.r1,by rw[QU (by decide)];exact d.r3,M',hM',by rw[Z2 (by omega)]⟩,fun s hs=>QX (by omega) _⟩
end
theorem folP_head {lo hi:Int}:∀ (qs:List Qu) (k:Nat) (lev:Int) (nd:List Int) (q:Nat) (l:List Nat),folP lo hi qs k lev nd (q::l)=true →
  k≤q∧q<k+qs.length∧∀ p w,qs[q-k]? = some (p,w)→0≤gI nd p-1∧folP lo hi (qs.drop (q-k+1)) (q+1) (lev+w) (dec4 nd p) l=true
 | [],k,lev,nd,q,l,h=>by simp[folP] at h
 | (p,w)::qs,k,lev,nd,q,l,h=>by
  rw[folP] at h
  by_cases e:q=k
  ·rw[if_pos e,QD,decide_eq_true_eq] at h
   subst e
   refine ⟨QG _,by simp,fun p' w' hp=>?_⟩
   rw[Nat.sub_self] at hp ⊢
   simp only[List.getElem?_cons_zero,Option.some.injEq,Prod.mk.injEq] at hp
   obtain ⟨rfl,rfl⟩:=hp
   exact h
  ·rw[if_neg e] at h
   obtain ⟨h1,h2,h3⟩:=folP_head qs (k+1) lev nd q l h
   refine ⟨by omega,by simp;omega,fun p' w' hp=>?_⟩
   obtain ⟨m,rfl⟩:∃ m,q=k+1+m:=⟨q-(k+1),by omega⟩
   rw[show k+1+m-k=m+1 by omega] at hp ⊢
   rw[List.getElem?_cons_succ] at hp
   have:=h3 p' w' (by rw[show k+1+m-(k+1)=m by omega];exact hp)
   rw[show k+1+m-(k+1)+1=m+1 by omega] at this
   exact this
theorem folB_head {b:Bk} {k:Nat} {lev:Int} {nd:List Int} {q:Nat} {l:List Nat} (h:folP b.lo b.hi ((quP b).drop k) k lev nd (q::l)=true) (hk:k≤b.qs.length) :
  k≤q∧q<b.qs.length∧∀ p:Nat,(b.qs[q]!).pa=p→0≤gI nd p-1∧folP b.lo b.hi ((quP b).drop (q+1)) (q+1) (lev+wgt b.qs[q]!) (dec4 nd p) l=true:=by
 obtain ⟨h1,h2,h3⟩:=folP_head _ _ _ _ _ _ h
 rw[List.length_drop,quP_len] at h2
 have hq:q<b.qs.length:=by omega
 refine ⟨h1,hq,fun p hp=>?_⟩
 have:=h3 p (wgt b.qs[q]!) (by
  rw[X4,show k+(q-k)=q by omega]
  simp only[quP,ZR,QI hq,Option.map_some]
  rw[getElem!_pos b.qs q hq] at hp ⊢
  rw[hp];rfl)
 rw[List.drop_drop,show k+(q-k+1)=q+1 by omega] at this
 exact this
theorem folP_nil {lo hi:Int} {qs:List Qu} {k:Nat} {lev:Int} {nd:List Int} (h:folP lo hi qs k lev nd []=true):zer4 nd=true∧lo≤lev∧lev≤hi:=by
 cases qs with
 | nil=>simpa[folP,and_assoc] using h
 | cons a qs=>obtain ⟨p,w⟩:=a;simpa[folP,and_assoc] using h
theorem tp62 (b:Bk) (hb:BkOk b) (h:Hal) {H0₀:List AObj} (hF:FoH b h H0₀) (l:List Nat) (hl16:l.length≤16) (hl:folP b.lo b.hi (quP b) 0 0 (pad4 b.wt) l=true) :
  AC Tryz.prog 62 [.ptr 3 0,ints (iL l)] H0₀ fun r τ=>∃ z,r=.tup [.i z,.b true]∧FoH b h τ:=by
 have h16:=hb.n16
 have hpw:=pad4_ok b hb
 have hln:(iL l).length=l.length:=by simp
 have hl4:=hF.len
 obtain ⟨z0,z1,z2,z3,hz4,hzE⟩:=stv_of 0 0 hpw.1
 have h59:=tp59 b hb hF.row
 simp only[sttV,kyQ,hzE] at h59
 refine ZF (fok62 true) (QC rfl) ?_
 simp only[ic62,evA,simprocAttr]
 refine h59.run ?_
 simp only[WW,VW,ZK,evA,simprocAttr]
 obtain ⟨S,hS⟩:∃ S,S=H0₀.length:=⟨_,rfl⟩
 have hF1:=hF.app [AObj.cells [AV.i 0,AV.i 0,AV.i z0,AV.i z1,AV.i z2,AV.i z3]]
 have hr1:rowOf (H0₀++[AObj.cells [AV.i 0,AV.i 0,AV.i z0,AV.i z1,AV.i z2,AV.i z3]]) S=some ((stK 0 0 (pad4 b.wt)).map AV.i):=by rw[hS,XH,hzE];rfl
 refine ZW l.length (fun j st=>∃ k:Nat,∃ lev:Int,∃ nd v5 v6 v7 v8 v9 v10 v14 v15 v16 v17 v18 H,∃ z:Int,k≤b.qs.length∧(0≤lev∧lev≤1000*k)∧N4₀ nd∧folP b.lo b.hi ((quP b).drop k) k lev nd (l.drop j)=true ∧
  FoH b h H∧rowOf H S=some ((stK k lev nd).map AV.i) ∧
  st=⟨[.ptr 3 0,ints (iL l),.i z,.b false,.ptr S 0,v5,v6,v7,v8,v9,v10,ints (iL l),.i l.length,.i j,v14,v15,v16,v17,v18],H⟩) ?_ 0 (QF _)
  ⟨0,0,pad4 b.wt,_,_,_,_,_,_,_,_,_,_,_,_,0,QF _,by decide,hpw,hl,hF1,hr1,by rw[hS];rfl⟩
 rintro j st hj ⟨k,lev,nd,v5,v6,v7,v8,v9,v10,v14,v15,v16,v17,v18,H,z,hk,hlv,hn,hfo,hFH,hrs,rfl⟩
 obtain ⟨x0,x1,x2,x3,hlE,hsE⟩:=stv_of k lev hn.1
 rw[hsE] at hrs
 by_cases hjl:j<l.length
 rotate_left
 ·have:j=l.length:=by omega
  subst this
  rw[List.drop_of_length_le (QG _)] at hfo
  obtain ⟨hz,hlo,hhi⟩:=folP_nil hfo
  have hzero:JW K4 (.agg (nd.map AV.i)) (.agg ([0,0,0,0].map AV.i))=some (zer4 nd):=eq4 (b:=[0,0,0,0]) hn.1 rfl hn.2 z4_ok
  rw[hlE,hz] at hzero
  simp only[Q0,WS] at hzero
  have hc:=hFH.cnt hb k lev nd hk hlv hn
  have hc1:cntB b k lev nd=1:=by
   show cntP _ _ _ _ _=_
   rw[cntP_zero hz,if_pos ⟨hlo,hhi⟩]
  rw[hc1] at hc
  simp only[sttV,kyQ,hsE] at hc
  simp only[ic62l1,QJ,hjl,hrs,hzero,evA,simprocAttr]
  refine hc.mono ?_
  rintro r τ ⟨rfl,hF2,_⟩
  simp only[evA,simprocAttr]
  exact ⟨z,rfl,hF2⟩
 have hjl2:j<(iL l).length:=by rw[hln];exact hjl
 have hgi:(iL l)[j]?.getD 0=(l[j]:Int):=by simp[hjl]
 rw[List.drop_eq_getElem_cons hjl] at hfo
 obtain ⟨hkq,hqn,htl⟩:=folB_head hfo hk
 have hwk:=Q6 (show j+1<2 ^ 63 by omega)
 simp only[ic62l1,QJ,hjl,J5 (show j<l.length from hjl),J4 hjl2,WA,hgi,evA,simprocAttr]
 generalize l[j]=q at *
 refine DW_s [11] [(1,10),(6,10)] hmix (by kernel_rfl) rfl ?_
 have hw1:IntKind.i64.wrap ((b.qs.length:Int)-1)=(b.qs.length:Int)-1:=ZC (by omega)
 have hlt:S<H.length:=(QH.1 (WO hrs)).1
 have hl4':=hFH.len
 simp only[hrs,hFH.row,hw1,evA,simprocAttr]
 refine YE ((out_in (lo:=k) (hi:=b.qs.length-1) (a:=q) (by omega)).call (frz_out (by rw[XH])) ⟨rfl,rfl⟩) rfl ?_
 have hF2:=hFH.app [AObj.cells [AV.cv (CV.int IntKind.i64 (q:Int))]]
 have hrs2:=ZH hrs [AObj.cells [AV.cv (CV.int IntKind.i64 (q:Int))]]
 have heS:(H++[AObj.cells [AV.cv (CV.int IntKind.i64 (q:Int))]])[S]? = H[S]? := QE hlt
 have he3:(H++[AObj.cells [AV.cv (CV.int IntKind.i64 (q:Int))]])[3]? = H[3]? := QE (by omega)
 simp only[heS,he3,hrs2,evA,simprocAttr]
 generalize H++[AObj.cells [AV.cv (CV.int IntKind.i64 (q:Int))]]=H1₀ at hF2 hrs2 ⊢
 clear hFH hrs hlt hl4' heS he3 H
 refine ZW q (fun i st=>k≤i∧∃ z:Int,∃ v7 v8 v16 v17 H,FoH b h H∧rowOf H S=some [AV.i k,AV.i lev,AV.i x0,AV.i x1,AV.i x2,AV.i x3] ∧
  st=⟨[.ptr 3 0,ints (iL l),.i z,.b false,.ptr S 0,.i q,.i i,v7,v8,v9,v10,ints (iL l),.i l.length,.i j,.b true,.b false,v16,v17,v18],H⟩) ?_ k hkq ⟨QG _,z,_,_,_,_,H1₀,hF2,hrs2,rfl⟩
 clear hF2 hrs2 H1₀
 have hstep:∀ i,k≤i→i<b.qs.length→∃ p:Nat,(b.qs[i]!).pa=p∧p<4:=fun i _ hi=>by
  have h1:=hb.qu i hi
  have h2:=hb.m4
  exact ⟨(b.qs[i]!).pa.toNat,by omega,by omega⟩
 rintro i st hi ⟨hki,z,v7,v8,v16,v17,H,hFH,hrs,rfl⟩
 have hwi:=wgt_bd (hb.qu i (by omega)).2.2
 obtain ⟨p,hp,hp4⟩:=hstep i hki (by omega)
 have h93:=tp93 b hb hFH.row k lev nd i p (by omega) hp hp4 (by omega) (by omega) hn
 have hd4:(dec4 nd p).length=4:=by simp[dec4,hn.1]
 have htp:=htl p
 by_cases hiq:i<q
 ·have hwk2:=Q6 (show i+1<2 ^ 63 by omega)
  generalize wgt b.qs[i]! = w at *
  obtain ⟨y0,y1,y2,y3,hyd,hyE⟩:=stv_of (i+1) (lev+w) hd4
  simp only[sttV,kyQ,hyE,hsE] at h93
  simp only[ic62l0,QJ,hiq,hrs,evA,simprocAttr]
  refine h93.run ?_
  have hFB:=hFH.app [AObj.cells [.i ((i+1:Nat):Int),.i (lev+w),.i y0,.i y1,.i y2,.i y3]]
  have hrB:=ZH hrs [AObj.cells [.i ((i+1:Nat):Int),.i (lev+w),.i y0,.i y1,.i y2,.i y3]]
  simp only[WW,VW,evA,simprocAttr]
  cases hcan:decide (0≤gI nd p-1) with
  | false =>
   simp only[hwk2,evA,simprocAttr]
   exact ZL (by first | trivial | omega) ⟨by omega,z,_,_,_,_,_,hFB,hrB,rfl⟩
  | true =>
   have hcan':=of_decide_eq_true hcan
   have hc:=hFB.cnt hb (i+1) (lev+w) (dec4 nd p) (by omega) (by omega) (n4_dec hn hp4 hcan')
   simp only[sttV,kyQ,hyE] at hc
   simp only[WW,evA,simprocAttr]
   refine hc.mono ?_
   rintro r τ ⟨rfl,hF3,hr3⟩
   have hSl:4≤S:=by omega
   simp only[hwk2,evA,simprocAttr]
   exact ZL (by first | trivial | omega) ⟨by omega,_,_,_,_,_,τ,hF3,by rw[hr3 S hSl];exact hrB,rfl⟩
 ·have hie:i=q:=by omega
  subst hie
  obtain ⟨hcan',hfo2⟩:=htl p hp
  generalize wgt b.qs[i]! = w at *
  obtain ⟨y0,y1,y2,y3,hyd,hyE⟩:=stv_of (i+1) (lev+w) hd4
  simp only[sttV,kyQ,hyE,hsE,decide_eq_true hcan'] at h93
  simp only[ic62l0,QJ,hiq,hrs,evA,simprocAttr]
  refine h93.run ?_
  have hFB:=hFH.app [AObj.cells [.i ((i+1:Nat):Int),.i (lev+w),.i y0,.i y1,.i y2,.i y3]]
  have hrB:=ZH hrs [AObj.cells [.i ((i+1:Nat):Int),.i (lev+w),.i y0,.i y1,.i y2,.i y3]]
  have hSl:4≤S:=by omega
  have hwk:=Q6 (show j+1<2 ^ 63 by omega)
  simp only[WW,VW,hrB,hwk,evA,simprocAttr]
  refine ZL (by first | trivial | omega) ⟨i+1,lev+w,dec4 nd p,_,_,_,_,_,_,_,_,_,_,_,_,z,by omega,by omega,n4_dec hn hp4 hcan',hfo2,hFB.set hSl _,?_,rfl⟩
  rw[hyE]
  exact W0 hrB
structure AccOk (b:Bk) (h:Hal) (pl:List (List Int)):Prop where
 len:pl.length=h.r*h.s
 fol:∀ i,i<pl.length→∃ l:List Nat,pl[i]! = iL l∧l.length≤16∧folP b.lo b.hi (quP b) 0 0 (pad4 b.wt) l=true
 ap:∀ i,i<pl.length→apB h pl i pl[i]! = true
theorem tp21 (b:Bk) (hb:BkOk b) (h:Hal) (hh:HalOk h) (pl:List (List Int)) (hp:AccOk b h pl):PC Tryz.prog 21 [bkV b,haV h,.cv (minR pl)] (.tup [.i 0,.i 0]):=by
 refine ⟨ZF (fok21 true) (QC rfl) ?_,rfl⟩
 have hm30:h.r*h.s≤30:=Nat.mul_le_mul hh.r5 hh.s6
 have hlen:=hp.len
 have hpn:∀ n,n<pl.length→pl[n]!.length≤16:=fun n hn=>by
  obtain ⟨l,h1,h2,_⟩:=hp.fol n hn
  rw[h1];simpa using h2
 simp only[ic21,WI,cellsOf,evA,simprocAttr]
 rw[hlen]
 refine (AC.frame (by simp[QO,QR]) (tp56 b hb h hh) _).mono ?_
 rintro r τ ⟨r0,τ0,⟨rfl,rfl⟩,rfl,rfl⟩
 simp only[opH,Q0,WS,List.length_cons,List.length_nil,renO,ren,rens,sh,evA,simprocAttr]
 refine ZW pl.length (fun i s=>∃ v8 v9 v10 v15 v16 v17 H,FoH b h H ∧
  s=⟨[bkV b,haV h,.cv (minR pl),.ptr 0 0,.ptr 1 0,.i 0,.i 0,.ptr 3 0,v8,v9,v10,.b false,.cv (minR pl),.i pl.length,.i i,v15,v16,v17],H⟩) ?_ 0 (QF _)
  ⟨_,_,_,_,_,_,_,⟨rfl,rfl,rfl,[],memP_nil,rfl⟩,rfl⟩
 rintro i s hi ⟨v8,v9,v10,v15,v16,v17,H,hF,rfl⟩
 by_cases hin:i<pl.length
 rotate_left
 ·have:i=pl.length:=by omega
  subst this
  simp only[ic21l0,QJ,hin,evA,simprocAttr]
  exact frz
 obtain ⟨l,hl1,hl2,hl3⟩:=hp.fol i hin
 have hap:=hp.ap i hin
 have hia:∀ σ,VP 1 [.cv (minR pl),.cv (.int .i64 i)] σ=some (.cv (.rp (pl.map rowC) (i*1)),σ):=fun σ=>XP hin σ
 have hld:=B7 hin
 have h61:=tp61 h hh pl i pl[i]! (by omega) (by omega) (fun n hn=>by have:=hpn n hn;omega) (by have:=hpn i hin;omega)
 rw[hap] at h61
 rw[hl1] at h61 hld
 have hwk:=Q6 (show i+1<2 ^ 63 by omega)
 simp only[ic21l0,QJ,hin,hia,W3,hld,evA,simprocAttr]
 refine (tp62 b hb h hF l hl2 hl3).mono ?_
 rintro r τ ⟨z,rfl,hF2⟩
 have hr1:rowOf τ 1=some (haC h):=by unfold rowOf;rw[hF2.r1]
 simp only[hr1,evA,simprocAttr]
 refine h61.call frz ?_
 simp only[hwk,evA,simprocAttr]
 exact ZL (by first | trivial | omega) ⟨_,_,_,_,_,_,_,hF2,rfl⟩
theorem lotP_step {x y c:Int} (hx:0≤x∧x<2147483647) (hy:0≤y∧y<2147483647) (h:(x*1000003+c+1) % 2147483647=(y*1000003+c+1) % 2147483647):x=y:=by
 have d:(2147483647:Int) ∣ (x*1000003+c+1)-(y*1000003+c+1):=Int.dvd_of_emod_eq_zero (Int.emod_eq_emod_iff_emod_sub_eq_zero.1 h)
 obtain ⟨q,hq⟩:=d
 clear h
 have e1:(x-y)*1000003=2147483647*q:=by omega
 have au:(1000003:Int)*1523789695=2147483647*709572+1:=by decide
 have e3:(x-y)*(1000003*1523789695)=2147483647*q*1523789695:=by rw[← Int.mul_assoc,e1]
 rw[au] at e3
 have e4:x-y=2147483647*(q*1523789695-(x-y)*709572):=by
  rw[Int.mul_add,Int.mul_one,Int.mul_left_comm,Int.mul_assoc] at e3
  rw[Int.mul_sub]
  have g:∀ A d B:Int,A+d=B→d=B-A:=by intros;omega
  exact g _ _ _ e3
 generalize q*1523789695-(x-y)*709572=m at e4
 clear e1 e3 au hq
 omega
theorem lotP_low {zs ys:List Int}:∀ i,(∀ j,j<i→zs[j]?.getD 0=ys[j]?.getD 0)→lotF zs i=lotF ys i
 | 0,_=>rfl
 | i+1,h=>by
  simp only[lotF]
  rw[lotP_low i fun j hj=>h j (by omega),h i (by omega)]
theorem lotP_inj {zs ys:List Int} {k:Nat} (hr:0≤zs[k]?.getD 0∧zs[k]?.getD 0≤1000000000) (hr':0≤ys[k]?.getD 0∧ys[k]?.getD 0≤1000000000) (hne:∀ j,j≠k→zs[j]?.getD 0=ys[j]?.getD 0) :
  ∀ i,k<i→(lotF zs i=lotF ys i↔zs[k]?.getD 0=ys[k]?.getD 0)
 | 0,h=>by omega
 | i+1,h=>by
  by_cases hk:i=k
  ·subst hk
   simp only[lotF]
   rw[lotP_low i fun j hj=>hne j (by omega)]
   have:=lotF_bounds ys i
   generalize zs[i]?.getD 0=a at hr ⊢
   generalize ys[i]?.getD 0=b at hr' ⊢
   constructor
   ·intro h;omega
   ·intro h;rw[h]
  ·have ih:=lotP_inj hr hr' hne i (by omega)
   rw[← ih]
   simp only[lotF]
   rw[hne i hk]
   constructor
   ·intro h;exact lotP_step (lotF_bounds zs i) (lotF_bounds ys i) h
   ·intro h;rw[h]
theorem apcopy {σ:List AObj} {l:Nat} {zs:List Int} (h:rowOf σ l=some []) (hl:zs.length<2 ^ 40) :
  ZX 1 8 [.sl l 0 0 1,ints zs] σ=some (.sl σ.length 0 zs.length 1,σ.set l AObj.dead++[AObj.cells (zs.map AV.i)]):=by
 have hsrc:Z9 σ 1 (ints zs)=some (zs.map AV.i):=by simp[Z9,XW,Function.comp_def]
 simp only[ZX,h,hsrc,lenF,Option.bind_some]
 have hp:(2:Nat) ^ 40=1099511627776:=by decide
 have hp2:(2:Nat) ^ 44=17592186044416:=by decide
 have hall:(zs.map AV.i).all AV.isSc=true:=by simp[List.all_map,Function.comp_def,AV.isSc]
 have hc:(True∧0*1≤([]:List AV).length∧zs.length*1=(zs.map AV.i).length∧(0+zs.length)*8≤2 ^ 44∧0+zs.length≤2 ^ 44∧(zs.map AV.i).all AV.isSc=true):=by
  refine ⟨trivial,by simp,by simp,by omega,by omega,hall⟩
 rw[if_pos hc]
 simp
def seL (zs:List Int) (n:Nat):List Int:=(List.range n).map fun s:Nat=>lotF (zs++[(s:Int)]) (zs.length+1)
theorem seL_len (zs:List Int) (n:Nat):(seL zs n).length=n:=by simp[seL]
theorem seL_succ (zs:List Int) (n:Nat):seL zs (n+1)=seL zs n++[lotF (zs++[(n:Int)]) (zs.length+1)]:=by simp[seL,WM]
theorem seL_get {zs:List Int} {n i:Nat} (h:i<n):(seL zs n)[i]?.getD 0=lotF (zs++[(i:Int)]) (zs.length+1):=by simp[seL,h]
structure NmOk (zs:List Int):Prop where
 l1:1≤zs.length
 l7:zs.length≤7
 r:∀ j,j<zs.length→0≤gI zs j∧gI zs j≤1000000000
theorem numE0 {zs:List Int} (h1:1≤zs.length) (h8:zs.length≤8) (h:∀ z∈zs,0≤z∧z≤1000000000):numErr zs=0:=by
 have h2:inB (zs.length:Int) 1 8=true:=VB.2 (by omega)
 simp[numErr,h2,VL.2 h]
theorem NmOk.mem {zs:List Int} (h:NmOk zs):∀ z∈zs,0≤z∧z≤1000000000:=fun z hz=>by
 obtain ⟨j,hj,rfl⟩:=WN.1 hz
 have:=h.r j hj
 simpa[gI,hj] using this
theorem tp15 (r s:Nat) (c:Int) (zs:List Int) (hr:r≤5) (hs:s≤6) (hz:NmOk zs):PC Tryz.prog 15 [.agg [.i r,.i s,.i c],ints zs] (.tup [ints (seL zs (r*s)),.i 0]):=by
 refine ⟨ZF (fok15 true) (QC rfl) ?_,rfl⟩
 have hm30:r*s≤30:=Nat.mul_le_mul hr hs
 have h7:=hz.l7
 simp only[ic15,WI,cellsOf,evA,simprocAttr]
 refine ZW (r*s) (fun i st=>∃ v7 v8 v9 v10 v H,rowOf H 0=some [.i r,.i s,.i c]∧VH 1 1 H v (seL zs i).length ((seL zs i).map (.int .i64)) ∧
  st=⟨[.agg [.i r,.i s,.i c],ints zs,.ptr 0 0,.cv .nils,.i 0,v,.i i,v7,v8,v9,v10],H⟩) ?_ 0 (QF _) ⟨_,_,_,_,_,_,rfl,.inl ⟨rfl,rfl,rfl⟩,rfl⟩
 rintro i st hi ⟨v7,v8,v9,v10,v,H,hr0,hA,rfl⟩
 have hw:IntKind.i64.wrap ((r:Int)*(s:Int))=((r*s:Nat):Int):=by rw[ZC (by rw[← Int.natCast_mul];omega)];rfl
 have hnu:=hA.nu
 by_cases hin:i<r*s
 rotate_left
 ·have:i=r*s:=by omega
  subst this
  simp only[ic15l0,hr0,hw,QJ,hin,hnu,evA,simprocAttr]
  exact .tup (.cons (.c (accF_frz (b:=1) (fun _=>trivial) hA)) (.cons (.c (.c _ trivial)) .nil))
 have hlH:1≤H.length:=(QH.1 (WO hr0)).1
 have hwk:=Q6 (show i+1<2 ^ 63 by omega)
 have hac:ZX 1 8 [.sl H.length 0 0 1,ints zs] (H++[AObj.cells []])=some (.sl (H.length+1) 0 zs.length 1,(H++[AObj.dead])++[AObj.cells (zs.map AV.i)]):=by
  rw[apcopy (by rw[WW];rfl) (by omega),VW]
  simp
 have hac0:VH H.length 1 ((H++[AObj.dead])++[AObj.cells (zs.map AV.i)]) (.sl (H.length+1) 0 zs.length 1) zs.length (zs.map (.int .i64)):=by
  refine .inr ⟨H.length+1,by omega,rfl,by simp,?_⟩
  have:H.length+1=(H++[AObj.dead]).length:=by simp
  rw[this,XH,XW];rfl
 obtain ⟨w,σ',b1,b2,b3,b4⟩:=K3 (by_:=8) (x:=[.int .i64 (i:Int)]) (show H.length≤((H++[AObj.dead])++[AObj.cells (zs.map AV.i)]).length by simp) hac0 rfl (by omega) (by omega)
 have bnu:=b2.nu
 have hl2:(zs++[(i:Int)]).length=zs.length+1:=by simp
 have hb5:VH H.length 1 σ' w (zs++[(i:Int)]).length ((zs++[(i:Int)]).map (.int .i64)):=by rw[hl2,ZS];exact b2
 have hlo:∀ x,x<H.length→σ'[x]? = H[x]? := fun x hx=>by rw[b3 x hx,QW,QE hx]
 have hcall:=c21_l (zs++[(i:Int)]) (by omega)
 have hv:lotV (zs++[(i:Int)])=.tup [.i (lotF (zs++[(i:Int)]) (zs.length+1)),.i 0]:=by
  unfold lotV
  rw[if_pos (numE0 (by omega) (by omega) fun z hz'=>?_),hl2]
  rcases YV.1 hz' with h1 | h1
  ·exact hz.mem z h1
  ·rw[WZ.1 h1];omega
 rw[hv] at hcall
 have hsu:=seL_succ zs i
 have hsl:=seL_len zs i
 generalize lotF (zs++[(i:Int)]) (zs.length+1)=L at *
 have hA2:VH 1 1 σ' v (seL zs i).length ((seL zs i).map (.int .i64)):=accF_rows hA fun x hx _=>by unfold rowOf;rw[hlo x hx]
 have hlσ:H.length≤σ'.length:=by simp at b4;omega
 obtain ⟨w2,σ2,d1,d2,d3,d4⟩:=K3 (by_:=8) (x:=[.int .i64 L]) (show 1≤σ'.length by omega) hA2 rfl (by omega) (by omega)
 have dnu:=d2.nu
 have hA3:VH 1 1 σ2 w2 (seL zs (i+1)).length ((seL zs (i+1)).map (.int .i64)):=by rw[hsu,QM,ZS];exact d2
 have hr2:rowOf σ2 0=some [.i r,.i s,.i c]:=by unfold rowOf;rw[d3 0 (by decide),hlo 0 (by omega)];exact hr0
 simp only[Q0,WS,QM,List.length_cons,List.length_nil,ZV] at b1 d1
 simp only[ic15l0,hr0,hw,QJ,hin,hac,b1,bnu,QM,List.length_cons,List.length_nil,ZV,evA,simprocAttr]
 refine hcall.call (.cons (.c (accF_frz (b:=H.length) (fun _=>trivial) hb5)) .nil) ?_
 simp only[d1,dnu,hnu,hwk,evA,simprocAttr]
 exact ZL (by first | trivial | omega) ⟨_,_,_,_,_,_,hr2,hA3,rfl⟩
theorem tp18 (a:List Int) (ha:a.length<2 ^ 63):PC Tryz.prog 18 [ints a,ints a] (.b true):=by
 refine ⟨ZF (fok18 true) (QC rfl) ?_,rfl⟩
 simp only[ic18,bne_self_eq_false,evA,simprocAttr]
 refine ZW a.length (fun i s=>∃ v5 v6,s=⟨[ints a,ints a,.b false,.i i,.b false,v5,v6],[]⟩) ?_ 0 (QF _) ⟨_,_,rfl⟩
 rintro i s hi ⟨v5,v6,rfl⟩
 by_cases h:i<a.length
 ·have hwk:=Q6 (show i+1<2 ^ 63 by omega)
  simp only[ic18l0,QJ,h,evA,simprocAttr]
  refine DW_s [] [] hmix (by kernel_rfl) rfl ?_
  simp only[J5 h,J4 h,bne_self_eq_false,hwk,evA,simprocAttr]
  exact ZL (by first | trivial | omega) ⟨_,_,rfl⟩
 ·simp only[ic18l0,QJ,h,evA,simprocAttr]
  exact frz
theorem tp20 (pl:List (List Int)) (hl:pl.length<2 ^ 63) (hp:∀ n,n<pl.length→pl[n]!.length≤16):PC Tryz.prog 20 [.cv (minR pl),.cv (minR pl)] (.b true):=by
 refine ⟨ZF (fok20 true) (QC rfl) ?_,rfl⟩
 simp only[ic20,bne_self_eq_false,evA,simprocAttr]
 refine ZW pl.length (fun i s=>∃ v5 v6,s=⟨[.cv (minR pl),.cv (minR pl),.b false,.i i,.b false,v5,v6],[]⟩) ?_ 0 (QF _) ⟨_,_,rfl⟩
 rintro i s hi ⟨v5,v6,rfl⟩
 by_cases h:i<pl.length
 ·have hwk:=Q6 (show i+1<2 ^ 63 by omega)
  have hia:∀ σ,VP 1 [.cv (minR pl),.cv (.int .i64 i)] σ=some (.cv (.rp (pl.map rowC) (i*1)),σ):=fun σ=>XP h σ
  have hld:=B7 h
  have h16:=hp i h
  generalize pl[i]! = q at *
  simp only[ic20l0,QJ,h,evA,simprocAttr]
  refine DW_s [8] [] hmix (by kernel_rfl) rfl ?_
  simp only[hia,W3,hld,evA,simprocAttr]
  refine YE ((tp18 q (by omega)).call frz ⟨rfl,rfl⟩) rfl ?_
  simp only[hwk,evA,simprocAttr]
  exact ZL (by first | trivial | omega) ⟨_,_,rfl⟩
 ·simp only[ic20l0,QJ,h,evA,simprocAttr]
  exact frz
theorem tp19e (b:Bk) (hb:BkOk b) (hr hs:Nat) (hc:Int) (ns:List Nat) (hln:ns.length<2 ^ 62) (e1:1≤hr) (e2:hr≤5) (e3:1≤hs) (e4:hs≤6) (e5:¬ (0≤hc∧hc≤16)) :
  PC Tryz.prog 19 [bkV b,.agg [.i hr,.i hs,.i hc],ints (iL ns)] (.tup [.cv (minR []),.i 7]):=by
 refine ⟨ZF (fok19 true) (QC rfl) ?_,rfl⟩
 simp only[ic19,WI,cellsOf,ZK,evA,simprocAttr]
 refine (tp56e b hb hr hs hc ns.length e1 e2 e3 e4 e5).call frz ?_
 simp only[evA,simprocAttr]
 exact frz
theorem apB_take {h:Hal} (hh:HalOk h) {pl:List (List Int)} {seat:Nat} {pa:List Int} (hs:seat≤pl.length):apB h (pl.take seat) seat pa=apB h pl seat pa:=by
 have hn:∀ n,n<seat→nbB h (pl.take seat) pa n=nbB h pl pa n:=fun n hn=>by
  have:(pl.take seat)[n]! = pl[n]! := by
   simp only[List.getElem!_eq_getElem?_getD,Z7]
   rw[if_pos hn]
  unfold nbB
  rw[this]
 have h1:=hh.s1
 unfold apB
 by_cases g1:h.s≤seat
 ·rw[hn (seat-h.s) (by omega)]
  by_cases g2:0<seat % h.s
  ·have:=Nat.mod_le seat h.s
   rw[hn (seat-1) (by omega)]
  ·rw[decide_eq_false g2];rfl
 ·rw[decide_eq_false g1]
  by_cases g2:0<seat % h.s
  ·have:=Nat.mod_le seat h.s
   rw[hn (seat-1) (by omega)]
   rfl
  ·rw[decide_eq_false g2];rfl
theorem drP_ok (b:Bk) (hb:BkOk b) (h:Hal) (hh:HalOk h):∀ (ns:List Nat) (p0 pl:List (List Int)),drP b h ns p0=some pl →
  (∀ i,i<p0.length→(∃ n,n<manyB b∧p0[i]! = papB b n)∧apB h p0 i p0[i]! = true) →
  pl.length=p0.length+ns.length∧∀ i,i<pl.length→(∃ n,n<manyB b∧pl[i]! = papB b n)∧apB h pl i pl[i]! = true
 | [],p0,pl,hd,h0=>by
  simp only[drP,Option.some.injEq] at hd
  subst hd
  exact ⟨rfl,h0⟩
 | n :: ns,p0,pl,hd,h0=>by
  rw[drP] at hd
  cases hf:(List.range (manyB b)).find? (pkB b h p0 n) with
  | none=>rw[hf] at hd;simp at hd
  | some k =>
   rw[hf] at hd
   simp only at hd
   have hk:=List.find?_some hf
   have hm:=ZI.1 (List.mem_of_find?_eq_some hf)
   have hlt:(n+k) % manyB b<manyB b:=Nat.mod_lt _ (by omega)
   have hap:apB h p0 p0.length (papB b ((n+k) % manyB b))=true:=hk
   obtain ⟨g1,g2⟩:=drP_ok b hb h hh ns _ pl hd fun i hi=>by
    have htk:(p0++[papB b ((n+k) % manyB b)]).take p0.length=p0:=by simp
    by_cases hi2:i<p0.length
    ·have he:(p0++[papB b ((n+k) % manyB b)])[i]! = p0[i]! := by simp[QE hi2]
     rw[he]
     refine ⟨(h0 i hi2).1,?_⟩
     have h1:=apB_take hh (pl:=p0) (seat:=i) (pa:=p0[i]!) (by omega)
     have h2:=apB_take hh (pl:=p0++[papB b ((n+k) % manyB b)]) (seat:=i) (pa:=p0[i]!) (by simp;omega)
     have h3:(p0++[papB b ((n+k) % manyB b)]).take i=p0.take i:=by rw[List.take_append_of_le_length (by omega)]
     rw[← h2,h3,h1]
     exact (h0 i hi2).2
    ·have hie:i=p0.length:=by simp at hi;omega
     subst hie
     have he:(p0++[papB b ((n+k) % manyB b)])[p0.length]! = papB b ((n+k) % manyB b):=by simp
     rw[he]
     refine ⟨⟨_,hlt,rfl⟩,?_⟩
     have h2:=apB_take hh (pl:=p0++[papB b ((n+k) % manyB b)]) (seat:=p0.length) (pa:=papB b ((n+k) % manyB b)) (by simp)
     rw[← h2,htk]
     exact hap
   refine ⟨by rw[g1];simp;omega,g2⟩
theorem dr_acc (b:Bk) (hb:BkOk b) (h:Hal) (hh:HalOk h) (ns:List Nat) (hl:ns.length=h.r*h.s) {pl:List (List Int)} (hd:drP b h ns []=some pl):AccOk b h pl:=by
 obtain ⟨g1,g2⟩:=drP_ok b hb h hh ns [] pl hd fun i hi=>absurd hi (by simp)
 refine ⟨by rw[g1,← hl];simp,fun i hi=>?_,fun i hi=>(g2 i hi).2⟩
 obtain ⟨n,hn,he⟩:=(g2 i hi).1
 have hp:=papB_len b hb n
 have hfo:=fol_nth (lo:=b.lo) (hi:=b.hi) ((quP b).drop 0) 0 0 (pad4 b.wt) n hn
 refine ⟨nthB b 0 0 (pad4 b.wt) n,he,?_,?_⟩
 ·unfold papB at hp;simpa using hp
 ·exact hfo
def Two (H:List AObj) (v:AV) (zs:List Int) (w:AV) (ws:List Int):Prop :=
 ∃ lw,AccX [lw] H v zs∧((w=.cv .nils∧ws=[])∨(w=.sl lw 0 ws.length 1∧rowOf H lw=some (ws.map AV.i)))
theorem Two.nil (H:List AObj):Two H (.cv .nils) [] (.cv .nils) []:=⟨0,.inl ⟨rfl,rfl⟩,.inl ⟨rfl,rfl⟩⟩
theorem Two.symm {H:List AObj} {v w:AV} {zs ws:List Int} (h:Two H v zs w ws):Two H w ws v zs:=by
 obtain ⟨lw,hv,hw⟩:=h
 rcases hv with ⟨rfl,rfl⟩ | ⟨l,hl,rfl,hr⟩
 ·rcases hw with ⟨rfl,rfl⟩ | ⟨rfl,hr2⟩
  ·exact Two.nil H
  ·refine ⟨H.length,.inr ⟨lw,?_,rfl,hr2⟩,.inl ⟨rfl,rfl⟩⟩
   have:=(QH.1 (WO hr2)).1
   simp only[WZ];omega
 ·rcases hw with ⟨rfl,rfl⟩ | ⟨rfl,hr2⟩
  ·exact ⟨l,.inl ⟨rfl,rfl⟩,.inr ⟨rfl,hr⟩⟩
  ·refine ⟨l,.inr ⟨lw,?_,rfl,hr2⟩,.inr ⟨rfl,hr⟩⟩
   simp only[WZ] at hl ⊢
   exact fun e=>hl e.symm
theorem Two.nu {H:List AObj} {v w:AV} {zs ws:List Int} (h:Two H v zs w ws):v.isUndef=false∧v.isSc=true∧cellsOf v=[v]:=by
 obtain ⟨lw,hv,hw⟩:=h
 exact hv.nu
theorem Two.frz {p:CV→Prop} (hp:∀ z,p (.int .i64 z)) {H:List AObj} {v w:AV} {zs ws:List Int} (h:Two H v zs w ws):FrzV p H v (ints zs):=by
 obtain ⟨lw,hv,hw⟩:=h
 rcases hv with ⟨rfl,rfl⟩ | ⟨l,_,rfl,hr⟩
 ·exact RY
 ·exact U4 hp rfl hr
theorem Two.add {H:List AObj} {v w:AV} {zs ws:List Int} (h:Two H v zs w ws) (z:Int) (hn:zs.length≤1000) :
  ∃ (v':AV) (H':List AObj),ZX 1 8 [v,.sl H.length 0 1 1] (H++[AObj.cells [.i z]])=some (v',H')∧Two H' v' (zs++[z]) w ws:=by
 obtain ⟨lw,hv,hw⟩:=h
 rcases hw with ⟨rfl,rfl⟩ | ⟨rfl,hr⟩
 ·obtain ⟨v',H',a1,a2,_,_⟩:=accX_append (E:=[]) (by_:=8) (fun x hx=>by simp at hx) (hv.less fun x hx=>by simp at hx) z (by omega) (by omega)
  refine ⟨v',H',a1,H'.length,a2.less fun x hx=>.inr ?_,.inl ⟨rfl,rfl⟩⟩
  simp only[WZ] at hx
  omega
 ·have hl:=(QH.1 (WO hr)).1
  obtain ⟨v',H',a1,a2,a3,_⟩:=accX_append (E:=[lw]) (by_:=8) (fun x hx=>by simp only[WZ] at hx;omega) hv z (by omega) (by omega)
  exact ⟨v',H',a1,lw,a2,.inr ⟨rfl,by unfold rowOf;rw[a3 lw (by simp)];unfold rowOf at hr;exact hr⟩⟩
def prL (zs:List Int) (n:Nat):List Int:=(List.range n).map fun j:Nat=>promiseF (j:Int) (gI zs j)
theorem prL_len (zs:List Int) (n:Nat):(prL zs n).length=n:=by simp[prL]
theorem prL_succ (zs:List Int) (n:Nat):prL zs (n+1)=prL zs n++[promiseF (n:Int) (gI zs n)]:=by simp[prL,WM]
theorem prL_get {zs:List Int} {n i:Nat} (h:i<n):(prL zs n)[i]?.getD 0=promiseF (i:Int) (gI zs i):=by simp[prL,h]
def waL (k:Nat) (d:Bool) (n:Nat):List Int:=if k<n∧d=true then [(k:Int)] else []
theorem waL_zero (k:Nat) (d:Bool):waL k d 0=[]:=by unfold waL;rw[if_neg (by omega)]
theorem waL_ne {k n:Nat} {d:Bool} (h:n≠k):waL k d (n+1)=waL k d n:=by
 unfold waL
 by_cases h1:k<n∧d=true
 ·rw[if_pos h1,if_pos ⟨by omega,h1.2⟩]
 ·rw[if_neg h1,if_neg (fun h2=>h1 ⟨by omega,h2.2⟩)]
theorem waL_at {k:Nat}:waL k true k=[]∧waL k true (k+1)=[(k:Int)]:=by
 unfold waL
 exact ⟨if_neg (by omega),if_pos ⟨by omega,rfl⟩⟩
theorem waL_f {k n:Nat}:waL k false n=[]:=by unfold waL;rw[if_neg (by simp)]
theorem promV_ok {a n:Int} (ha:0≤a∧a≤7) (hn:0≤n∧n≤1000000000):promV a n=.tup [.i (promiseF a n),.i 0]:=by
 have h1:inB a 0 7=true:=VB.2 ha
 have h2:inB n 0 1000000000=true:=VB.2 hn
 simp[promV,errP,h1,h2]
theorem che_eq {zs:List Int} {k:Nat} {o:Int} (hk:k<zs.length):∀ i,i≤zs.length→cheatF (prL zs zs.length) (zs.set k o) i=waL k (promiseF (k:Int) (gI (zs.set k o) k) != promiseF (k:Int) (gI zs k)) i
 | 0,_=>by rw[waL_zero];rfl
 | i+1,h=>by
  have ih:=che_eq hk (o:=o) i (by omega)
  have hb:cheatB (prL zs zs.length) (zs.set k o) i=(promiseF (i:Int) (gI (zs.set k o) i) != promiseF (i:Int) (gI zs i)):=by
   unfold cheatB
   rw[prL_get (by omega)]
  rw[cheatF,hb,ih]
  by_cases hik:i=k
  ·subst hik
   cases hd:(promiseF (i:Int) (gI (zs.set i o) i) != promiseF (i:Int) (gI zs i)) with
   | true=>rw[if_pos rfl,waL_at.1,waL_at.2];rfl
   | false=>rw[if_neg (by decide),waL_f,waL_f]
  ·have he:gI (zs.set k o) i=gI zs i:=by unfold gI;rw[QU (Ne.symm hik)]
   rw[he,bne_self_eq_false,if_neg (by decide),waL_ne hik]
theorem che_ok {zs:List Int} {k:Nat} {o:Int} (hz:NmOk zs) (hy:NmOk (zs.set k o)):promErr (prL zs zs.length) (zs.set k o)=0:=by
 have h1:numErr (zs.set k o)=0:=numE0 hy.l1 (by have:=hy.l7;omega) hy.mem
 have h3:outF 0 2147483646 (prL zs zs.length)=false:=VL.2 fun z hz'=>by
  obtain ⟨j,_,rfl⟩:=ZP.1 hz'
  have:=promiseF_bounds (j:Int) (gI zs j)
  omega
 unfold promErr
 rw[if_pos h1,if_pos (by rw[prL_len,WE]),h3]
 rfl
theorem seL_eq {zs:List Int} {k:Nat} {o:Int} (hz:NmOk zs) (hk:k<zs.length) (ho:0≤o∧o≤1000000000) (n i:Nat) (hi:i<n) :
  (gI (seL zs n) i == gI (seL (zs.set k o) n) i)=(gI (zs.set k o) k == gI zs k):=by
 have h1:gI (seL zs n) i=lotF (zs++[(i:Int)]) (zs.length+1):=seL_get hi
 have h2:gI (seL (zs.set k o) n) i=lotF (zs.set k o++[(i:Int)]) (zs.length+1):=by
  have:=seL_get (zs:=zs.set k o) hi
  rw[WE] at this
  exact this
 have e1:(zs++[(i:Int)])[k]?.getD 0=zs[k]?.getD 0:=by rw[QE hk]
 have e2:(zs.set k o++[(i:Int)])[k]?.getD 0=(zs.set k o)[k]?.getD 0:=by rw[QE (by simpa using hk)]
 have e3:(zs.set k o)[k]?.getD 0=o:=by simp[hk]
 have hr:=hz.r k hk
 have:=lotP_inj (zs:=zs++[(i:Int)]) (ys:=zs.set k o++[(i:Int)]) (k:=k) (by rw[e1];exact hr) (by rw[e2,e3];exact ho) (fun j hj=>by
  by_cases hjl:j<zs.length
  ·rw[QE hjl,QE (by simpa using hjl),QU (Ne.symm hj)]
  ·rw[QS (by omega),QS (by simp;omega),WE]) (zs.length+1) (by omega)
 rw[h1,h2,Q8,beq_iff_eq,beq_iff_eq,this,e1,e2]
 exact eq_comm
def nuN (A:List Int) (j:Nat):Nat:=(gI A j % 1000000001).toNat
def nuL (A:List Int) (n:Nat):List Nat:=(List.range n).map (nuN A)
theorem nuL_len (A:List Int) (n:Nat):(nuL A n).length=n:=by simp[nuL]
theorem nuN_le (A:List Int) (j:Nat):nuN A j≤1000000000:=by unfold nuN;omega
theorem nuN_eq (A:List Int) (j:Nat):((nuN A j:Nat):Int)=gI A j % 1000000001:=by unfold nuN;omega
def nuR (A:List Int) (n i:Nat):List Int:=iL (nuL A i)++List.replicate (n-i) 0
theorem nuR_len {A:List Int} {n i:Nat} (h:i≤n):(nuR A n i).length=n:=by simp[nuR,nuL];omega
theorem nuR_zero (A:List Int) (n:Nat):nuR A n 0=List.replicate n 0:=by simp[nuR,nuL]
theorem nuR_end (A:List Int) (n:Nat):nuR A n n=iL (nuL A n):=by simp[nuR]
theorem nuR_set {A:List Int} {n i:Nat} (h:i<n):(nuR A n i).set i (gI A i % 1000000001)=nuR A n (i+1):=by
 unfold nuR
 have hl:(iL (nuL A i)).length=i:=by simp[nuL]
 rw[List.set_append_right _ _ (by rw[hl];exact QG _),hl,Nat.sub_self]
 have hr:List.replicate (n-i) (0:Int)=0::List.replicate (n-(i+1)) 0:=by rw[show n-i=(n-(i+1))+1 by omega];rfl
 have hs:iL (nuL A (i+1))=iL (nuL A i)++[gI A i % 1000000001]:=by
  simp only[nuL,WM,ZS,Q0,WS,nuN_eq]
 rw[hr,hs,List.set_cons_zero,QW]
 rfl
theorem dr_any (b:Bk) (hb:BkOk b) (r s:Nat) (c:Int) (ns:List Nat) (r1:1≤r) (r5:r≤5) (s1:1≤s) (s6:s≤6) (hl:ns.length=r*s) (hn:∀ n∈ns,n≤1000000000) :
  ∃ (pl:List (List Int)) (e:Int),(∀ {σ:List AObj} {K:AV→List AObj→Prop},K (.tup [.cv (minR pl),.i e]) σ→AC Tryz.prog 19 [bkV b,.agg [.i r,.i s,.i c],ints (iL ns)] σ K) ∧
   pl.length<2 ^ 63∧(∀ n,n<pl.length→pl[n]!.length≤16)∧(e=0→PC Tryz.prog 21 [bkV b,.agg [.i r,.i s,.i c],.cv (minR pl)] (.tup [.i 0,.i 0])):=by
 have hm30:r*s≤30:=Nat.mul_le_mul r5 s6
 by_cases hc:0≤c∧c≤16
 rotate_left
 ·have h:=tp19e b hb r s c ns (by omega) r1 r5 s1 s6 hc
  exact ⟨[],7,fun hk=>h.call (.cons (GE (k:=0) _ rfl) (.cons (GE (k:=0) _ rfl) (.cons (GE (k:=0) _ rfl) .nil))) hk,by decide,fun n hn=>absurd hn (by simp),fun h=>absurd h (by decide)⟩
 obtain ⟨c,rfl⟩:∃ m:Nat,c=m:=⟨c.toNat,by omega⟩
 have hh:HalOk ⟨r,s,c⟩:=⟨r1,r5,s1,s6,by show c≤16;omega⟩
 have h:=tp19 b hb ⟨r,s,c⟩ hh ns hl hn
 unfold drV at h
 by_cases hm:manyB b=0
 ·rw[if_pos hm] at h
  exact ⟨[],4,fun hk=>h.call hk,by decide,fun n hn=>absurd hn (by simp),fun h=>absurd h (by decide)⟩
 rw[if_neg hm] at h
 cases hd:drP b ⟨r,s,c⟩ ns [] with
 | none =>
  rw[hd] at h
  exact ⟨[],9,fun hk=>h.call hk,by decide,fun n hn=>absurd hn (by simp),fun h=>absurd h (by decide)⟩
 | some pl =>
  rw[hd] at h
  have ha:=dr_acc b hb ⟨r,s,c⟩ hh ns hl hd
  have hlen:pl.length=r*s:=ha.len
  refine ⟨pl,0,fun hk=>h.call hk,by omega,fun n hn=>?_,fun _=>tp21 b hb ⟨r,s,c⟩ hh pl ha⟩
  obtain ⟨l,h1,h2,_⟩:=ha.fol n hn
  rw[h1];simpa using h2
end Go.Proofs.YtpmokaefmcffaaaGreat.AM
namespace Go.Proofs.YtpmokaefmcffaaaGreat.AM
variable [Dr]
open Go Go.ChangeShapes Go.WideShapes Go.ChangeAt Go.RowKit
inductive Typed (P:Program):TypeId→List CV→Prop
 | bool {t:TypeId} (ht:P.underlying t=some .bool) (b:Bool):Typed P t [.bool b]
 | int {t:TypeId} {k:IntKind} (ht:P.underlying t=some (.int k)) (n:Int) (hw:(Lit.int k n).wf=true):Typed P t [.int k n]
 | str {t:TypeId} (ht:P.underlying t=some .string) (s:ByteArray) (hs:s.size≤maxLen):Typed P t [.str s]
 | slc {t e:TypeId} (ht:P.underlying t=some (.slice e)) (L:List (List CV)) (hn:L.length≤maxLen) (hl:∀ l∈L,l.length=P.cellsOf e) (h:∀ l∈L,Typed P e l):Typed P t [.rsl L.flatten L.length]
 | arr {t e:TypeId} {n:Nat} (ht:P.underlying t=some (.array n e)) (L:List (List CV)) (hn:L.length=n) (hl:∀ l∈L,l.length=P.cellsOf e) (h:∀ l∈L,Typed P e l):Typed P t L.flatten
 | struct {t:TypeId} {fs:Array Field} (ht:P.underlying t=some (.struct fs)) (L:List (List CV)) (hn:L.length=fs.size)
   (hl:∀ (i:Nat) (f:Field) (l:List CV),fs[i]? = some f→L[i]? = some l→l.length=P.cellsOf f.type)
   (h:∀ (i:Nat) (f:Field) (l:List CV),fs[i]? = some f→L[i]? = some l→Typed P f.type l):Typed P t L.flatten
def TG (P:Program):Nat→TypeId→Bool
 | 0,_=>false
 | n+1,t =>
  match P.underlying t with
  | some .bool | some (.int _) | some .string=>true
  | some (.slice e)=>TG P n e
  | some (.array k e)=>TG P n e&&decide (P.cellsOf t=k*P.cellsOf e)
  | some (.struct fs)=>fs.toList.all (fun f=>TG P n f.type)&&decide (J8 P fs.toList 0=some (P.cellsOf t))
  | _=>false
abbrev noO:Nat→Prop:=Own (fun _=>none) (fun _=>False)
theorem not_noO (b:Nat):¬ noO b:=by rintro (h | ⟨l,hl⟩);exact h;cases hl
theorem DG {α:Type} {Q:Nat→α→Prop}:∀ (n:Nat),(∀ i,i<n→∃ l,Q i l)→∃ L:List α,L.length=n∧∀ (i:Nat) (l:α),L[i]? = some l→Q i l
 | 0,_=>⟨[],rfl,by simp⟩
 | n+1,h=>by
  obtain ⟨L,h1,h2⟩:=DG n (fun i hi=>h i (by omega))
  obtain ⟨l,hl⟩:=h n (by omega)
  refine ⟨L++[l],by simp[h1],fun i l' hi=>?_⟩
  rcases ZB i n with hlt | hge
  ·rw[QE (by omega)] at hi;exact h2 i l' hi
  ·rw[QS (by omega),h1] at hi
   have:i=n:=by
    rcases ZB n i with h' | h'
    ·rw[QN (by simp;omega)] at hi;cases hi
    ·omega
   subst this
   simp at hi;subst hi;exact hl
theorem CJ {R:Nat→CV→Prop} {esz:Nat}:∀ (L:List (List CV)) (n:Nat),(∀ (i:Nat) (l:List CV),L[i]? = some l→l.length=esz∧∀ (j:Nat) (c:CV),l[j]? = some c→R (n+i*esz+j) c) →
  L.flatten.length=L.length*esz∧∀ (k:Nat) (c:CV),L.flatten[k]? = some c→R (n+k) c
 | [],n,_=>by simp
 | l::L,n,h=>by
  obtain ⟨h1,h2⟩:=h 0 l (by simp)
  have ih:=CJ L (n+esz) (fun i l' hi=>by
   obtain ⟨g1,g2⟩:=h (i+1) l' (by simpa using hi)
   refine ⟨g1,fun j c hj=>?_⟩
   have:=g2 j c hj
   rwa [WP,Nat.one_mul,← Nat.add_assoc,Nat.add_right_comm n] at this)
  refine ⟨by simp[h1,ih.1,WP,Nat.add_comm],fun k c hk=>?_⟩
  rw[List.flatten_cons] at hk
  rcases ZB k l.length with hlt | hge
  ·rw[QE hlt] at hk
   have:=h2 k c hk
   simpa using this
  ·rw[QS hge] at hk
   have:=ih.2 (k-l.length) c hk
   rwa [show n+esz+(k-l.length)=n+k by omega] at this
theorem A4 {P:Program} {R:Nat→CV→Prop} {N:Nat}:∀ (fs:List Field) (L:List (List CV)) (n:Nat),J8 P fs n=some N→L.length=fs.length →
  (∀ (i:Nat) (f:Field) (l:List CV),fs[i]? = some f→L[i]? = some l→l.length=P.cellsOf f.type∧∀ (j:Nat) (c:CV),l[j]? = some c→R (f.offset+j) c) →
  n+L.flatten.length=N∧∀ (k:Nat) (c:CV),L.flatten[k]? = some c→R (n+k) c
 | [],L,n,he,hl,_=>by
  have:L=[]:=ZT (by simpa using hl)
  subst this
  simp only[J8,Option.some.injEq] at he
  simp[he]
 | f::fs,[],n,_,hl,_=>by simp at hl
 | f::fs,l::L,n,he,hl,h=>by
  simp only[J8] at he
  split at he
  ·rename_i hoff
   obtain ⟨h1,h2⟩:=h 0 f l (by simp) (by simp)
   have ih:=A4 fs L (n+P.cellsOf f.type) he (by simpa using hl) (fun i f' l' hf hl'=>h (i+1) f' l' (by simpa using hf) (by simpa using hl'))
   refine ⟨by rw[← ih.1];simp[h1];omega,fun k c hk=>?_⟩
   rw[List.flatten_cons] at hk
   rcases ZB k l.length with hlt | hge
   ·rw[QE hlt] at hk
    have:=h2 k c hk
    rwa [hoff] at this
   ·rw[QS hge] at hk
    have:=ih.2 (k-l.length) c hk
    rwa [show n+P.cellsOf f.type+(k-l.length)=n+k by omega] at this
  ·cases he
theorem NT {W:World} {a:Addr}:∀ (cs:List CV) (i:Nat),(∀ (j:Nat) (c:CV),cs[j]? = some c→∃ v,W.cell? (a.add (i+j))=some v∧c.rep W noO v)→CV.reps W noO cs a i
 | [],_,_=>by simp[CV.reps]
 | c::cs,i,h=>by
  simp only[CV.reps]
  refine ⟨not_noO _,by simpa using h 0 c (by simp),NT cs (i+1) fun j c' hj=>?_⟩
  have:=h (j+1) c' (by simpa using hj)
  rwa [show i+(j+1)=i+1+j by omega] at this
section
variable {H:Type} {enc:TypeId × Value→H} {P:Program} {W:World}
theorem EW:∀ (n:Nat) (t:TypeId) (cs:List Value) (x:DataW H × List MemPlace) (fuel:Nat),TG P n t=true→DataW.trod enc P W 0 (fun _=>true) true fuel t cs=some x →
  ∃ cvs:List CV,Typed P t cvs∧cvs.length=cs.length∧∀ (i:Nat) (c:CV) (v:Value),cvs[i]? = some c→cs[i]? = some v→c.rep W noO v
 | 0,t,cs,x,fuel,ho,_=>by simp[TG] at ho
 | n + 1,t,cs,x,fuel,ho,h=>by
  simp only[TG] at ho
  split at ho
  ·rename_i ht
   obtain ⟨b,rfl,_⟩:=DataW.trod_bool ht h
   refine ⟨[.bool b],.bool ht b,rfl,fun i c v h1 h2=>?_⟩
   cases i with
   | zero=>simp at h1 h2;subst h1 h2;simp[CV.rep]
   | succ i=>simp at h1
  ·rename_i k ht
   obtain ⟨b,rfl,_,hw⟩:=DataW.trod_int ht h
   refine ⟨[.int k b],.int ht b hw,rfl,fun i c v h1 h2=>?_⟩
   cases i with
   | zero=>simp at h1 h2;subst h1 h2;simp[CV.rep]
   | succ i=>simp at h1
  ·rename_i ht
   obtain ⟨s,rfl,_,hw⟩:=DataW.trod_string ht h
   refine ⟨[.str s],.str ht s hw,rfl,fun i c v h1 h2=>?_⟩
   cases i with
   | zero=>simp at h1 h2;subst h1 h2;simp[CV.rep]
   | succ i=>simp at h1
  ·rename_i e ht
   rcases DataW.trod_slice ht h with ⟨rfl,_⟩ | ⟨a,len,cap,elems,rest,m,_,rfl,_,_,hlc,hcm,hel,hget,_⟩
   ·refine ⟨[.rsl [] 0],by simpa using Typed.slc ht [] (by simp) (by simp) (by simp),rfl,fun i c v h1 h2=>?_⟩
    cases i with
    | zero=>simp at h1 h2;subst h1 h2;simp[CV.rep]
    | succ i=>simp at h1
   ·obtain ⟨L,hL,hQ⟩:=DG (Q:=fun i l=>Typed P e l∧l.length=P.cellsOf e∧∀ (j:Nat) (c:CV),l[j]? = some c→∃ v,W.cell? (a.add (i*P.cellsOf e+j))=some v∧c.rep W noO v) len (fun i hi=>by
     have hg:=hget i hi
     rw[QI (by omega)] at hg
     obtain ⟨ci,h1,h2⟩:=QB.1 hg
     obtain ⟨_,hlen,hcell⟩:=World.cells?_some h1
     obtain ⟨cvs,g1,g2,g3⟩:=EW n e ci _ _ ho h2
     refine ⟨cvs,g1,by omega,fun j c hj=>?_⟩
     have hjl:j<cvs.length:=(QH.1 hj).1
     have hc:=hcell j (by omega)
     rw[QI (by omega)] at hc
     exact ⟨_,by rw[← Addr.add_add];exact hc,g3 j c _ hj (QI _)⟩)
    have hmem:∀ l∈L,∃ i:Nat,L[i]? = some l:=fun l hl=>List.mem_iff_getElem?.1 hl
    have hfl:=CJ (R:=fun k c=>∃ v,W.cell? (a.add k)=some v∧c.rep W noO v) (esz:=P.cellsOf e) L 0 (fun i l hi=>⟨(hQ i l hi).2.1,fun j c hj=>by simpa using (hQ i l hi).2.2 j c hj⟩)
    refine ⟨[.rsl L.flatten L.length],Typed.slc ht L (by omega) (fun l hl=>let ⟨i,hi⟩:=hmem l hl;(hQ i l hi).2.1) (fun l hl=>let ⟨i,hi⟩:=hmem l hl;(hQ i l hi).1),rfl,fun i c v h1 h2=>?_⟩
    cases i with
    | zero =>
     simp at h1 h2;subst h1 h2
     simp only[CV.rep]
     exact .inr ⟨a,cap,by rw[hL],by omega,NT _ 0 (fun j c hj=>hfl.2 j c hj)⟩
    | succ i=>simp at h1
  ·rename_i k e ht
   simp only[QD,decide_eq_true_eq] at ho
   obtain ⟨xs,m,_,_,hlen,hxs,hget⟩:=DataW.trod_array ht h
   obtain ⟨L,hL,hQ⟩:=DG (Q:=fun i l=>Typed P e l∧l.length=P.cellsOf e∧∀ (j:Nat) (c:CV),l[j]? = some c→∀ v,cs[i*P.cellsOf e+j]? = some v→c.rep W noO v) k (fun i hi=>by
     have hg:=hget i hi
     rw[QI (by omega)] at hg
     obtain ⟨cvs,g1,g2,g3⟩:=EW n e _ _ _ ho.1 hg
     have hik:i*P.cellsOf e+P.cellsOf e≤k*P.cellsOf e:=by
      have:=YQ (P.cellsOf e) (show i+1≤k by omega)
      rwa [WP,Nat.one_mul] at this
     have hl2:cvs.length=P.cellsOf e:=by rw[g2];simp;omega
     refine ⟨cvs,g1,hl2,fun j c hj v hv=>?_⟩
     have hjl:j<cvs.length:=(QH.1 hj).1
     exact g3 j c v hj (by rw[Z7,if_pos (by omega),X4];exact hv))
   have hmem:∀ l∈L,∃ i:Nat,L[i]? = some l:=fun l hl=>List.mem_iff_getElem?.1 hl
   have hfl:=CJ (R:=fun k c=>∀ v,cs[k]? = some v→c.rep W noO v) (esz:=P.cellsOf e) L 0 (fun i l hi=>⟨(hQ i l hi).2.1,fun j c hj=>by simpa using (hQ i l hi).2.2 j c hj⟩)
   exact ⟨L.flatten,Typed.arr ht L hL (fun l hl=>let ⟨i,hi⟩:=hmem l hl;(hQ i l hi).2.1) (fun l hl=>let ⟨i,hi⟩:=hmem l hl;(hQ i l hi).1),by rw[hfl.1,hlen,ho.2,hL],fun i c v h1 h2=>hfl.2 i c h1 v (by simpa using h2)⟩
  ·rename_i fs ht
   simp only[QD,decide_eq_true_eq,Q1] at ho
   obtain ⟨xs,m,_,_,hlen,hxs,hget⟩:=DataW.trod_struct ht h
   obtain ⟨L,hL,hQ⟩:=DG (Q:=fun i l=>∀ f,fs[i]? = some f→Typed P f.type l∧l.length=min (P.cellsOf f.type) (cs.length-f.offset)∧∀ (j:Nat) (c:CV),l[j]? = some c→∀ v,cs[f.offset+j]? = some v→c.rep W noO v) fs.size (fun i hi=>by
     have hfi:fs[i]? = some fs[i]:=Q7 hi
     have hg:=hget i fs[i] hfi
     rw[QI (by omega)] at hg
     obtain ⟨cvs,g1,g2,g3⟩:=EW n _ _ _ _ (ho.1 fs[i] (by simp)) hg
     have hl2:cvs.length=min (P.cellsOf fs[i].type) (cs.length-fs[i].offset):=by rw[g2];simp
     refine ⟨cvs,fun f hf=>?_⟩
     rw[hfi] at hf;cases hf
     refine ⟨g1,hl2,fun j c hj v hv=>?_⟩
     have hjl:j<cvs.length:=(QH.1 hj).1
     exact g3 j c v hj (by rw[Z7,if_pos (by omega),X4];exact hv))
   have hoff:∀ (fs:List Field) (n N:Nat),J8 P fs n=some N→n≤N∧∀ (i:Nat) (f:Field),fs[i]? = some f→f.offset+P.cellsOf f.type≤N:=by
    intro fs
    induction fs with
    | nil=>intro n N h;simp only[J8,Option.some.injEq] at h;simp[h]
    | cons f fs ih =>
     intro n N h
     simp only[J8] at h
     split at h
     ·rename_i ho
      obtain ⟨h1,h2⟩:=ih _ _ h
      refine ⟨by omega,fun i f' hi=>?_⟩
      cases i with
      | zero=>simp at hi;subst hi;omega
      | succ i=>exact h2 i f' (by simpa using hi)
     ·cases h
   have hin:=(hoff _ _ _ ho.2).2
   have hl:∀ (i:Nat) (f:Field) (l:List CV),fs[i]? = some f→L[i]? = some l→l.length=P.cellsOf f.type:=by
    intro i f l hf hl
    obtain ⟨_,h2,_⟩:=hQ i l hl f hf
    have:=hin i f (by simpa using hf)
    omega
   have hfl:=A4 (P:=P) (R:=fun k c=>∀ v,cs[k]? = some v→c.rep W noO v) fs.toList L 0 ho.2 (by simpa using hL) (fun i f l hf hl' =>
    ⟨hl i f l (by simpa using hf) hl',fun j c hj=>(hQ i l hl' f (by simpa using hf)).2.2 j c hj⟩)
   exact ⟨L.flatten,Typed.struct ht L hL hl (fun i f l hf hl'=>(hQ i l hl' f hf).1),by have:=hfl.1;omega,fun i c v h1 h2=>hfl.2 i c h1 v (by simpa using h2)⟩
  ·cases ho
def avOf (P:Program) (t:TypeId) (cs:List CV):AV :=
 match P.underlying t with
 | some (.struct _) | some (.array _ _)=>.agg (cs.map .cv)
 | _=>.cv (cs.headD .nilp)
theorem DV:∀ (cvs:List CV) (vs:List Value),cvs.length=vs.length→(∀ (i:Nat) (c:CV) (v:Value),cvs[i]? = some c→vs[i]? = some v→c.rep W noO v)→QK nom noX W (cvs.map .cv) vs
 | [],[],_,_=>by simp[QK]
 | c::cvs,v::vs,hl,h=>by
  simp only[Q0,QK,VRel]
  exact ⟨h 0 c v rfl rfl,DV cvs vs (by simpa using hl) fun i c v h1 h2=>h (i+1) c v (by simpa using h1) (by simpa using h2)⟩
 | [],_::_,hl,_=>by simp at hl
 | _::_,[],hl,_=>by simp at hl
theorem QfB {n:Nat} {t:TypeId} {v:Value} {d:DataW H} {ps:List MemPlace} {r:Reach} {base:Nat} (ho:TG P n t=true) (hval:Value.okWide P W r base t v) (h:DataW.Trod enc P W 0 (fun _=>true) true t v d ps) :
  ∃ cs,Typed P t cs∧VRel nom noX W (avOf P t cs) v:=by
 obtain ⟨fuel,h⟩:=h
 obtain ⟨cvs,h1,h2,h3⟩:=EW n t _ _ _ ho h
 refine ⟨cvs,h1,?_⟩
 unfold avOf
 have one:(v.cells.toList=[v])→VRel nom noX W (.cv (cvs.headD .nilp)) v:=by
  intro hv
  rw[hv] at h2 h3
  match cvs,h2 with
  | [c],_=>simp only[List.headD_cons,VRel];exact h3 0 c v rfl rfl
 cases n with
 | zero=>simp[TG] at ho
 | succ n =>
  simp only[TG] at ho
  split at ho
  ·rename_i ht;rw[ht];obtain ⟨b,rfl⟩:=okWide_bool ht hval;exact one rfl
  ·rename_i ht;rw[ht];obtain ⟨b,rfl⟩:=okWide_int ht hval;exact one rfl
  ·rename_i ht;rw[ht];obtain ⟨b,rfl⟩:=okWide_string ht hval;exact one rfl
  ·rename_i ht;rw[ht];obtain ⟨_,_,_,rfl⟩:=okWide_slice ht hval;exact one rfl
  ·rename_i ht;rw[ht]
   simp only[Value.okWide,ht] at hval
   obtain ⟨arr,rfl,_⟩:=hval
   simp only[VRel]
   exact ⟨arr.toList,by simp,DV _ _ h2 h3⟩
  ·rename_i ht;rw[ht]
   simp only[Value.okWide,ht] at hval
   obtain ⟨arr,rfl,_⟩:=hval
   simp only[VRel]
   exact ⟨arr.toList,by simp,DV _ _ h2 h3⟩
  ·cases ho
inductive Args (P:Program):List TypeId→List AV→Prop
 | nil:Args P [] []
 | cons {t:TypeId} {ts:List TypeId} {cs:List CV} {avs:List AV} (h:Typed P t cs) (hs:Args P ts avs):Args P (t::ts) (avOf P t cs::avs)
theorem C1 {n:Nat} {r:Reach} {base:Nat}:∀ {ts:List TypeId} {vs:List Value} {ds:List (DataW H)} {ps:List MemPlace},(ts.all (TG P n))=true →
  (∀ (j:Nat) (t:TypeId) (v:Value),ts[j]? = some t→vs[j]? = some v→Value.okWide P W r base t v)→DataW.TrodAll enc P W 0 (fun _=>true) true ts vs ds ps →
  ds.length=ts.length∧∃ avs,Args P ts avs∧QK nom noX W avs vs
 | [],_,_,_,_,_,h=>by
  obtain ⟨rfl,rfl,rfl⟩:=trodAll_nil h
  exact ⟨rfl,[],.nil,by simp[QK]⟩
 | t::ts,_,_,_,ho,hval,h=>by
  obtain ⟨v,vs1,d,ds1,a,b,rfl,rfl,rfl,h1,h2⟩:=trodAll_cons h
  simp only[List.all_cons,QD] at ho
  obtain ⟨cs,g1,g2⟩:=QfB ho.1 (hval 0 t v rfl rfl) h1
  obtain ⟨hl,avs,g3,g4⟩:=C1 ho.2 (fun j t v h1 h2=>hval (j+1) t v (by simpa using h1) (by simpa using h2)) h2
  exact ⟨by simp[hl],_,.cons g1 g3,by simp only[QK];exact ⟨g2,g4⟩⟩
theorem LU (hl:laidOutB P=true) {W':World} (hb:Below W.heap.size W W'):∀ {ts:List TypeId} {vs:List Value} {ds:List (DataW H)} {ps:List MemPlace},(ts.all fun t=>P.readableRec t&&decide (t<P.types.size))=true →
  DataW.TrodAll enc P W 0 (fun _=>true) true ts vs ds ps→(∀ x∈ps,x.block<W.heap.size)→DataW.TrodAll enc P W' 0 (fun b=>decide (b<W.heap.size)) true ts vs ds ps
 | [],_,_,_,_,h,_=>by
  obtain ⟨rfl,rfl,rfl⟩:=trodAll_nil h
  exact trodAll_mk0
 | t::ts,_,_,_,ho,h,hlt=>by
  obtain ⟨v,vs1,d,ds1,a,b,rfl,rfl,rfl,h1,h2⟩:=trodAll_cons h
  simp only[List.all_cons,QD,decide_eq_true_eq] at ho
  refine trodAll_cons_mk (Below.trod hl ho.1.1 ho.1.2 h1 hb fun x hx=>hlt x (by simp[hx])) (LU hl hb ?_ h2 fun x hx=>hlt x (by simp[hx]))
  simpa using ho.2
theorem law_of_AC {f:FuncId} {fn:Func} {s:ChangeSpec} {n:Nat} {t:TypeId} {base:Nat} {args:Array Value} {ds gs:List (DataW H)} {before:List MemPlace}
  (hl:laidOutB P=true) (hpar:(fn.params.toList.all fun t=>P.readableRec t&&decide (t<P.types.size))=true) (ho:fn.params.toList.all (TG P n)=true)
  (hres:fn.resultTypes = #[t]) (htb:P.underlying t=some .bool) (hsv:s.vars=[]) (hs:∀ ds:List (DataW H),ds.length=fn.params.toList.length→s.fn H ds = { results:=[.lit (.bool true)],args:=ds })
  (hAC:∀ avs,Args P fn.params.toList avs→AC P f avs [] fun r _=>r=.b true)
  (hval:∀ (j:Nat) t v,fn.params[j]? = some t→args[j]? = some v→Value.okWide P W .any base t v) (hgl:GlOk nom noX W)
  (hW:DataW.Whole enc P fn.params.toList s.vars false W args.toList ds gs before) :
  Calls P f args W fun e W'=>∃ v,e=.returned v∧s.post enc P fn false true false false W args v W':=by
 have hW':=hW
 obtain ⟨p,q,hA,hV,rfl,hfz,hnd⟩:=hW
 rw[hsv] at hV
 obtain ⟨rfl,rfl⟩:=trodVars_none hV
 have hlt:∀ x∈p,x.block<W.heap.size:=fun x hx=>hW'.lt x (by simp[hx])
 obtain ⟨hlen,avs,hav,hrel⟩:=C1 ho (fun j t v h1 h2=>hval j t v (by simpa using h1) (by simpa using h2)) hA
 have hcall:=(hAC avs hav).2 nom noX W args.toList hrel ⟨by simp,by simp,by simp,by simp,by simp,hgl⟩
 have hcall:=callsIn_wide.1 hcall
 simp only[Array.toArray_toList] at hcall
 refine hcall.mono fun e W' ⟨c,r,σ',m',he,hq,hr,_,hst,_⟩=>?_
 subst he hq
 simp only[VRel,CV.rep] at hr
 subst hr
 have hb:Below W.heap.size W W':=⟨hst.os,hst.tape,hst.output,hst.size,fun k hk=>hst.fr k hk (.inr (by simp))⟩
 have hsf:s.fn H (ds++[]) = { results:=[.lit (.bool true)],args:=ds }:=by rw[ZU];exact hs ds hlen
 refine ⟨_,rfl,ds,[],p++[],[],p,[],hW',?_,?_,?_,hb.frame _,fun h=>by simp at h⟩
 ·rw[hsf,hres]
  exact trodAll_mk1 (shut_bool htb true)
 ·rw[hsf]
  exact LU hl hb hpar hA hlt
 ·rw[hsf,hsv]
  rfl
end
end Go.Proofs.YtpmokaefmcffaaaGreat.AM
namespace Go.Proofs.YtpmokaefmcffaaaGreat.AM
variable [Dr]
open Go
theorem QeV {P:Program} {t:TypeId} {k:IntKind} {cs:List CV} (ht:P.underlying t=some (.int k)) (h:Typed P t cs):∃ n,cs=[.int k n]∧(Lit.int k n).wf=true:=by
 cases h with
 | int ht' n hw=>rw[ht] at ht';cases ht';exact ⟨n,rfl,hw⟩
 | bool ht'=>rw[ht] at ht';cases ht'
 | str ht'=>rw[ht] at ht';cases ht'
 | slc ht'=>rw[ht] at ht';cases ht'
 | arr ht'=>rw[ht] at ht';cases ht'
 | struct ht'=>rw[ht] at ht';cases ht'
theorem QeU {P:Program} {t e:TypeId} {cs:List CV} (ht:P.underlying t=some (.slice e)) (h:Typed P t cs):∃ L:List (List CV),cs=[.rsl L.flatten L.length]∧L.length≤maxLen∧(∀ l∈L,l.length=P.cellsOf e)∧∀ l∈L,Typed P e l:=by
 cases h with
 | slc ht' L hn hl h=>rw[ht] at ht';cases ht';exact ⟨L,rfl,hn,hl,h⟩
 | bool ht'=>rw[ht] at ht';cases ht'
 | int ht'=>rw[ht] at ht';cases ht'
 | str ht'=>rw[ht] at ht';cases ht'
 | arr ht'=>rw[ht] at ht';cases ht'
 | struct ht'=>rw[ht] at ht';cases ht'
theorem typed_struct {P:Program} {t:TypeId} {fs:Array Field} {cs:List CV} (ht:P.underlying t=some (.struct fs)) (h:Typed P t cs):∃ L:List (List CV),cs=L.flatten∧L.length=fs.size∧∀ (i:Nat) (f:Field) (l:List CV),fs[i]? = some f→L[i]? = some l→Typed P f.type l:=by
 cases h with
 | struct ht' L hn hl h=>rw[ht] at ht';cases ht';exact ⟨L,rfl,hn,h⟩
 | bool ht'=>rw[ht] at ht';cases ht'
 | int ht'=>rw[ht] at ht';cases ht'
 | str ht'=>rw[ht] at ht';cases ht'
 | slc ht'=>rw[ht] at ht';cases ht'
 | arr ht'=>rw[ht] at ht';cases ht'
theorem Qdi {P:Program} {e:TypeId} {k:IntKind} (he:P.underlying e=some (.int k)):∀ L:List (List CV),(∀ l∈L,Typed P e l)→∃ zs:List Int,L.flatten=zs.map (.int k)∧L.length=zs.length∧∀ z∈zs,(Lit.int k z).wf=true
 | [],_=>⟨[],rfl,rfl,by simp⟩
 | l::L,h=>by
  obtain ⟨n,rfl,hn⟩:=QeV he (h l (by simp))
  obtain ⟨zs,h1,h2,h3⟩:=Qdi he L fun l hl=>h l (by simp[hl])
  exact ⟨n::zs,by simp[h1],by simp[h2],by simpa using ⟨hn,h3⟩⟩
theorem typed_ints {P:Program} {t e:TypeId} {k:IntKind} {cs:List CV} (ht:P.underlying t=some (.slice e)) (he:P.underlying e=some (.int k)) (h:Typed P t cs):∃ zs:List Int,cs=[.rsl (zs.map (.int k)) zs.length]∧zs.length<2 ^ 63∧∀ z∈zs,(Lit.int k z).wf=true:=by
 obtain ⟨L,rfl,hn,_,hl⟩:=QeU ht h
 obtain ⟨zs,h1,h2,h3⟩:=Qdi he L hl
 refine ⟨zs,by rw[h1,h2],?_,h3⟩
 rw[← h2];unfold maxLen at hn;omega
theorem wf_u8 {n:Int} (h:(Lit.int .u8 n).wf=true):0≤n∧n≤255:=by
 simp only[Lit.wf,QD,decide_eq_true_eq,IntKind.min,IntKind.max,IntKind.bits,IntKind.signed] at h
 simp at h;omega
theorem wf_u32 {n:Int} (h:(Lit.int .u32 n).wf=true):0≤n∧n≤4294967295:=by
 simp only[Lit.wf,QD,decide_eq_true_eq,IntKind.min,IntKind.max,IntKind.bits,IntKind.signed] at h
 simp at h;omega
theorem args_cons {P:Program} {t:TypeId} {ts:List TypeId} {avs:List AV} (h:Args P (t::ts) avs):∃ cs avs',avs=avOf P t cs::avs'∧Typed P t cs∧Args P ts avs':=by
 generalize hts:t::ts=u at h
 cases h with
 | nil=>cases hts
 | cons h1 h2=>cases hts;exact ⟨_,_,rfl,h1,h2⟩
theorem args_nil {P:Program} {avs:List AV} (h:Args P [] avs):avs=[]:=by
 generalize hts:([]:List TypeId)=u at h
 cases h with
 | nil=>rfl
 | cons h1 h2=>cases hts
end Go.Proofs.YtpmokaefmcffaaaGreat.AM
namespace Go.Proofs.YtpmokaefmcffaaaGreat.AM
variable [Dr]
open Go Pl
theorem typed_list {α:Type} {f:α→List CV} {p:α→Prop} {t:TypeId} (h:∀ cs,Typed Tryz.prog t cs→∃ x,cs=f x∧p x):∀ L:List (List CV),(∀ l∈L,Typed Tryz.prog t l)→∃ xs:List α,L.flatten=xs.flatMap f∧L.length=xs.length∧∀ x∈xs,p x
 | [],_=>⟨[],rfl,rfl,by simp⟩
 | l::L,hl=>by
  obtain ⟨x,h1,h2⟩:=h l (hl l (by simp))
  obtain ⟨xs,g1,g2,g3⟩:=typed_list h L fun l hh=>hl l (by simp[hh])
  exact ⟨x::xs,by simp[h1,g1],by simp[g2],by simpa using ⟨h2,g3⟩⟩
theorem typed_i {cs:List CV} (h:Typed Tryz.prog 3 cs):∃ x:Int,cs=[.int .i64 x]:=by
 obtain ⟨n,rfl,_⟩:=QeV Tryz.underlying3 h
 exact ⟨n,rfl⟩
theorem typed_row {cs:List CV} (h:Typed Tryz.prog 26 cs):∃ zs:List Int,cs=[rowC zs]∧zs.length<2 ^ 63:=by
 obtain ⟨zs,h1,h2,_⟩:=typed_ints Tryz.underlying26 Tryz.underlying3 h
 exact ⟨zs,h1,h2⟩
theorem frz_get {q:CV→Prop} {σ:List AObj}:∀ {as_ bs:List AV},KS q σ as_ bs→∀ i,FrzV q σ (as_.getD i .undef) (bs.getD i .undef)
 | _,_,.nil,i=>by simp only[List.getD_nil];exact .un _
 | _,_,.cons h hs,0=>by simpa[List.getD] using h
 | _,_,.cons h hs,i+1=>by simpa[List.getD] using frz_get hs i
abbrev seV (zs:List Int) (w o:Int):AV:=.agg [ints zs,.cv (.int .u8 w),.cv (.int .u32 o)]
abbrev F4₀ (b:Bk) (r s:Nat) (c:Int) (zs:List Int) (w o:Int) (k:Nat) (ys:List Int) (v10 v11 v12 v13 v14 v29 v30 v31:AV):List AV :=
 [bkV b,.agg [.i r,.i s,.i c],seV zs w o,.cv (.rp [qnR b.qs,rowC b.wt,.int .i64 b.lo,.int .i64 b.hi] 0),.cv (.rp [.int .i64 r,.int .i64 s,.int .i64 c] 0),.cv (.rp [rowC zs,.int .u8 w,.int .u32 o] 0),.b false,.i 0,.i k,ints ys,
  v10,v11,v12,v13,v14,.undef,.undef,.undef,.undef,.undef,.undef,.undef,.undef,.undef,.undef,.undef,.undef,.undef,.b false,v29,v30,v31,.undef,.undef,.undef,.undef,.undef,.undef,.undef]
set_option maxHeartbeats 4000000 in
theorem law4 (aw6:∀ σ,AC Tryz.prog 14 [] σ fun r τ=>r=.b true∧τ=σ) (b:Bk) (hs:BkSz b) (r s c:Int) (zs:List Int) (w o:Int) (hz:zs.length<2 ^ 63) (hw:0≤w∧w≤255) (ho:0≤o∧o≤4294967295) :
  AC Tryz.prog 4 [bkV b,.agg [.i r,.i s,.i c],seV zs w o] [] fun r _=>r=.b true:=by
 refine AC_SW (fok4 true) (QC rfl) ?_
 simp only[ic4]
 refine SW_seq ?_
 simp only[WI,cellsOf,kSW_n,evA,simprocAttr]
 refine SW_seq ?_
 simp only[kSW_n,evA,simprocAttr]
 refine (tp12 b hs).call frz ?_
 simp only[b12,kSW_n,evA,simprocAttr]
 have hbk:=@bkOk_of _ b
 generalize bkE b=e at *
 obtain ⟨e1,e2,e3⟩:=e
 simp only at hbk
 refine SW_seq ?_
 by_cases h0:e3=0
 rotate_left
 ·have hb:(e3 != 0)=true:=by simpa using h0
  simp only[hb,kSW_n,kSW_r,evA,simprocAttr]
  refine (aw6 _).run ?_
  simp only[evA,simprocAttr]
  refine (awake _).run ?_
  simp only[kSW_n,kSW_r,evA,simprocAttr]
 have hb:=hbk h0
 subst h0
 have n0:((0:Int) != 0)=false:=by decide
 by_cases h1:r<1
 ·have hd:decide (r<1)=true:=decide_eq_true h1
  simp only[hd,n0,kSW_n,kSW_r,evA,simprocAttr]
  refine (aw6 _).run ?_
  simp only[evA,simprocAttr]
  refine (awake _).run ?_
  simp only[kSW_n,kSW_r,evA,simprocAttr]
 have dh1:decide (r<1)=false:=decide_eq_false h1
 by_cases h2:r>5
 ·have hd:decide (r>5)=true:=decide_eq_true h2
  simp only[hd,n0,dh1,kSW_n,kSW_r,evA,simprocAttr]
  refine (aw6 _).run ?_
  simp only[evA,simprocAttr]
  refine (awake _).run ?_
  simp only[kSW_n,kSW_r,evA,simprocAttr]
 have dh2:decide (r>5)=false:=decide_eq_false h2
 by_cases h3:s<1
 ·have hd:decide (s<1)=true:=decide_eq_true h3
  simp only[hd,n0,dh1,dh2,kSW_n,kSW_r,evA,simprocAttr]
  refine (aw6 _).run ?_
  simp only[evA,simprocAttr]
  refine (awake _).run ?_
  simp only[kSW_n,kSW_r,evA,simprocAttr]
 have dh3:decide (s<1)=false:=decide_eq_false h3
 by_cases h4:s>6
 ·have hd:decide (s>6)=true:=decide_eq_true h4
  simp only[hd,n0,dh1,dh2,dh3,kSW_n,kSW_r,evA,simprocAttr]
  refine (aw6 _).run ?_
  simp only[evA,simprocAttr]
  refine (awake _).run ?_
  simp only[kSW_n,kSW_r,evA,simprocAttr]
 have dh4:decide (s>6)=false:=decide_eq_false h4
 by_cases h5:(zs.length:Int)≥8
 ·have hd:decide ((zs.length:Int)≥8)=true:=decide_eq_true h5
  simp only[hd,n0,dh1,dh2,dh3,dh4,kSW_n,kSW_r,evA,simprocAttr]
  refine (aw6 _).run ?_
  simp only[evA,simprocAttr]
  refine (awake _).run ?_
  simp only[kSW_n,kSW_r,evA,simprocAttr]
 have dh5:decide ((zs.length:Int)≥8)=false:=decide_eq_false h5
 simp only[n0,dh1,dh2,dh3,dh4,dh5,evA,simprocAttr]
 refine (c41 zs hz).call frz ?_
 by_cases h6:numErr zs=0
 rotate_left
 ·have hb6:(numErr zs != 0)=true:=by simpa using h6
  simp only[hb6,kSW_n,kSW_r,evA,simprocAttr]
  refine (aw6 _).run ?_
  simp only[evA,simprocAttr]
  refine (awake _).run ?_
  simp only[kSW_n,kSW_r,evA,simprocAttr]
 have hok:=numErr_ok h6
 have hlen0:=hok.len
 simp only[h6,n0,kSW_n,kSW_r,evA,simprocAttr]
 obtain ⟨r,rfl⟩:∃ m:Nat,r=m:=⟨r.toNat,by omega⟩
 obtain ⟨s,rfl⟩:∃ m:Nat,s=m:=⟨s.toNat,by omega⟩
 have hr5:r≤5:=by omega
 have hs6:s≤6:=by omega
 have hm30:r*s≤30:=Nat.mul_le_mul hr5 hs6
 have hlz:¬ ((zs.length:Int)=0):=by omega
 have hw64:IntKind.i64.wrap w=w:=ZC (by omega)
 have ho64:IntKind.i64.wrap o=o:=ZC (by omega)
 obtain ⟨k,hk⟩:∃ k:Nat,w.tmod zs.length=(k:Int):=⟨(w.tmod zs.length).toNat,by
  rw[VI];exact Int.tmod_nonneg _ hw.1⟩
 have hkl:k<zs.length:=by
  have h1:w.tmod zs.length=w % zs.length:=Int.tmod_eq_emod_of_nonneg hw.1
  have h2:=Int.emod_lt_of_pos w (show (0:Int)<zs.length by omega)
  omega
 obtain ⟨o',ho'⟩:∃ o',o'=o.tmod 1000000001:=⟨_,rfl⟩
 have hor:0≤o'∧o'≤1000000000:=by
  rw[ho',Int.tmod_eq_emod_of_nonneg ho.1];omega
 have hkl':k+1≤zs.length:=hkl
 have hbn:¬ ((1000000001:Int)=0):=by decide
 have hyl:(zs.set k o').length=zs.length:=by simp
 have hzn:NmOk zs:=⟨by omega,by omega,fun j hj=>hok.rng j hj⟩
 have hyn:NmOk (zs.set k o'):=⟨by omega,by omega,fun j hj=>by
  unfold gI
  by_cases hjk:k=j
  ·subst hjk;rw[Z2 hkl];exact hor
  ·rw[QU hjk];exact hok.rng j (by omega)⟩
 refine SW_seq ?_
 simp only[hlz,hw64,hk,kSW_n,evA,simprocAttr]
 refine SW_seq ?_
 simp only[apcopy (σ:=[AObj.cells (bkC b),AObj.cells [.i r,.i s,.i c],AObj.cells [ints zs,AV.cv (CV.int IntKind.u8 w),AV.cv (CV.int IntKind.u32 o)],AObj.cells []]) (l:=3) (zs:=zs) rfl (by omega),kSW_n,List.cons_append,List.nil_append,evA,simprocAttr]
 refine SW_seq ?_
 simp only[ho64,hbn,← ho',W9 hkl,ZV,ZK,hkl',GC,kSW_n,evA,simprocAttr]
 refine SW.weak (s':=⟨F4₀ b r s c zs w o k (zs.set k o') .undef .undef .undef .undef .undef .undef .undef .undef,[]⟩) (Weak.freeze rfl (frz_get ?_)) ?_
 ·refine .cons (GE (k:=0) _ rfl) (.cons (GE (k:=0) _ rfl) (.cons (GE (k:=0) _ rfl) (.cons (.c (.ptr 0 0 _ _ rfl (.cons (.c _ trivial) (.cons (.c _ trivial) (.cons (.c _ trivial) (.cons (.c _ trivial) .nil)))))) (.cons (.c (.ptr 1 0 _ _ rfl (.cons (.c _ trivial) (.cons (.c _ trivial) (.cons (.c _ trivial) .nil))))) (.cons (.c (.ptr 2 0 _ _ rfl (.cons (.c _ trivial) (.cons (.c _ trivial) (.cons (.c _ trivial) .nil))))) ?_)))))
  refine .cons (GE (k:=0) _ rfl) (.cons (GE (k:=0) _ rfl) (.cons (GE (k:=0) _ rfl) (.cons (U4 (fun _=>trivial) hyl.symm rfl) ?_)))
  repeat (first | exact .nil | refine .cons (.un _) ?_ | refine .cons (GE (k:=0) _ rfl) ?_)
 have hlot1:=tp15 r s c zs hr5 hs6 hzn
 have hlot2:=tp15 r s c (zs.set k o') hr5 hs6 hyn
 refine SW_seq ?_
 simp only[kSW_n,evA,simprocAttr]
 refine hlot1.call frz ?_
 simp only[kSW_n,evA,simprocAttr]
 refine SW_seq ?_
 simp only[kSW_n,evA,simprocAttr]
 refine hlot2.call frz ?_
 simp only[kSW_n,evA,simprocAttr]
 refine SW_seq ?_
 simp only[n0,kSW_n,evA,simprocAttr]
 refine SW_seq ?_
 have hsl1:=seL_len zs (r*s)
 have hsl2:=seL_len (zs.set k o') (r*s)
 have heq:=seL_eq (o:=o') hzn hkl hor (r*s)
 have hlb:∀ i,i<r*s→0≤gI (seL zs (r*s)) i∧gI (seL zs (r*s)) i<2147483647:=fun i hi=>by
  have:gI (seL zs (r*s)) i=lotF (zs++[(i:Int)]) (zs.length+1):=seL_get hi
  rw[this];exact lotF_bounds _ _
 have hyk:k<(zs.set k o').length:=by omega
 have hgy:(zs.set k o')[k]?.getD 0=gI (zs.set k o') k:=rfl
 have hgz:zs[k]?.getD 0=gI zs k:=rfl
 have hns:=fun i (h:i<r*s)=>nuR_set (A:=seL zs (r*s)) (n:=r*s) (i:=i) h
 have hnl:=fun i (h:i≤r*s)=>nuR_len (A:=seL zs (r*s)) (n:=r*s) (i:=i) h
 have hn0:=nuR_zero (seL zs (r*s)) (r*s)
 have hne:=nuR_end (seL zs (r*s)) (r*s)
 generalize hA:seL zs (r*s)=A at *
 generalize hB:seL (zs.set k o') (r*s)=B at *
 generalize hN:r*s=N at *
 have hmk:XB 1 8 [.cv (.int .i64 0)] [.i N,.i N] []=some (.sl 0 0 N 1,[.cells ((nuR A N 0).map AV.i)]):=by rw[hn0];exact MP (by omega) []
 simp only[hsl1,hmk,kSW_n,evA,simprocAttr]
 refine SW_seq ?_
 simp only[kSW_n,evA,simprocAttr]
 refine ZW N (fun i st=>∃ v30 v31,st=⟨F4₀ b r s c zs w o k (zs.set k o') (ints A) (ints B) (.i 0) (.sl 0 0 N 1) (.i i) (.b false) v30 v31,[.cells ((nuR A N i).map AV.i)]⟩) ?_ 0 (QF _) ⟨_,_,rfl⟩
 rintro i st hi ⟨v30,v31,rfl⟩
 by_cases hin:i<N
 ·have hiA:i<A.length:=by omega
  have hiB:i<B.length:=by omega
  have hlbi:=hlb i hin
  have hAn:decide (gI A i<0)=false:=decide_eq_false (by omega)
  have hAi:A[i]?.getD 0=gI A i:=rfl
  have hBi:B[i]?.getD 0=gI B i:=rfl
  have heqi:=heq i hin
  have hrem:(gI A i).tmod 1000000001=gI A i % 1000000001:=Int.tmod_eq_emod_of_nonneg hlbi.1
  have hwk:=Q6 (show i+1<2 ^ 63 by omega)
  have hle:i+1≤(nuR A N i).length:=by rw[hnl i hi];exact hin
  have hst:=hns i hin
  simp only[F4₀,ic4l1,hsl1,QJ,hin,evA,simprocAttr]
  refine DW_s [] [] hmix (by kernel_rfl) rfl ?_
  simp only[hsl1,hsl2,J5 hiA,J5 hiB,J5 hin,J4 hiA,J4 hiB,WA,hAi,hBi,hAn,heqi,J5 hkl,J5 hyk,J4 hkl,J4 hyk,hgy,hgz,hyl,bne_self_eq_false,evA,simprocAttr]
  have hlm:i+1≤((nuR A N i).map AV.i).length:=by rw[ZK];exact hle
  simp only[W9 hin,ZV,hrem,ZK,hle,GC,hst,hwk,evA,simprocAttr]
  exact ZL (by first | trivial | omega) ⟨_,_,rfl⟩
 ·have:i=N:=by omega
  subst this
  simp only[F4₀,ic4l1,hsl1,QJ,hin,kSW_n,evA,simprocAttr]
  rw[hne]
  have hnul:=nuL_len A i
  have hnum:∀ n∈nuL A i,n≤1000000000:=fun n hn=>by
   obtain ⟨j,_,rfl⟩:=ZP.1 hn
   exact nuN_le A j
  generalize nuL A i=ns at *
  refine SW.weak (s':=⟨F4₀ b r s c zs w o k (zs.set k o') (ints A) (ints B) (.i 0) (ints (iL ns)) .undef (.b false) .undef .undef,[]⟩) (Weak.freeze rfl (frz_get ?_)) ?_
  ·refine .cons (GE (k:=0) _ rfl) (.cons (GE (k:=0) _ rfl) (.cons (GE (k:=0) _ rfl) (.cons (GE (k:=0) _ rfl) (.cons (GE (k:=0) _ rfl) (.cons (GE (k:=0) _ rfl) ?_)))))
   refine .cons (GE (k:=0) _ rfl) (.cons (GE (k:=0) _ rfl) (.cons (GE (k:=0) _ rfl) (.cons (GE (k:=0) _ rfl) (.cons (GE (k:=0) _ rfl) (.cons (GE (k:=0) _ rfl) (.cons (GE (k:=0) _ rfl) (.cons (U4 (fun _=>trivial) (by simp[hnul]) rfl) ?_)))))))
   refine .cons (.un _) (.cons (.un _) (.cons (.un _) (.cons (.un _) (.cons (.un _) (.cons (.un _) (.cons (.un _) (.cons (.un _) (.cons (.un _) (.cons (.un _) (.cons (.un _) (.cons (.un _) (.cons (.un _) (.cons (.un _) ?_)))))))))))))
   refine .cons (GE (k:=0) _ rfl) (.cons (GE (k:=0) _ rfl) (.cons (.un _) (.cons (.un _) (.cons (.un _) (.cons (.un _) (.cons (.un _) (.cons (.un _) (.cons (.un _) (.cons (.un _) (.cons (.un _) .nil))))))))))
  refine SW_seq ?_
  simp only[F4₀,kSW_n,evA,simprocAttr]
  refine SW_seq ?_
  simp only[kSW_n,evA,simprocAttr]
  have hzl8:zs.length≤7:=hzn.l7
  obtain ⟨w0,rfl⟩:∃ w0,w0=w:=⟨w,rfl⟩
  have hzi:∀ j,zs[j]?.getD 0=gI zs j:=fun j=>rfl
  have hyi:∀ j,(zs.set k o')[j]?.getD 0=gI (zs.set k o') j:=fun j=>rfl
  have hch:=che_eq (o:=o') hkl zs.length (QG _)
  have hce:=che_ok (o:=o') hzn hyn
  refine ZW zs.length (fun j st=>∃ v w v18 v19 v20 v21 v32 v33 v34 H,Two H v (prL zs j) w (waL k (promiseF (k:Int) (gI (zs.set k o') k) != promiseF (k:Int) (gI zs k)) j) ∧
   st=⟨[bkV b,.agg [.i r,.i s,.i c],seV zs w0 o,.cv (.rp [qnR b.qs,rowC b.wt,.int .i64 b.lo,.int .i64 b.hi] 0),.cv (.rp [.int .i64 r,.int .i64 s,.int .i64 c] 0),.cv (.rp [rowC zs,.int .u8 w0,.int .u32 o] 0),.b false,.i 0,.i k,ints (zs.set k o'),
    ints A,ints B,.i 0,ints (iL ns),.undef,v,w,.i j,v18,v19,v20,v21,.undef,.undef,.undef,.undef,.undef,.undef,.b false,.b false,.undef,.undef,v32,v33,v34,.undef,.undef,.undef,.undef],H⟩) ?_ 0 (QF _) ⟨.cv .nils,.cv .nils,_,_,_,_,_,_,_,[],by rw[waL_zero];exact Two.nil [],rfl⟩
  ·clear hi hin
   rintro j st hj ⟨v,w,v18,v19,v20,v21,v32,v33,v34,H,hT,rfl⟩
   by_cases hjl:j<zs.length
   ·have hpz:=c16 (j:Int) (gI zs j)
    have hpy:=c16 (j:Int) (gI (zs.set k o') j)
    rw[promV_ok (by omega) (hzn.r j hjl)] at hpz
    rw[promV_ok (by omega) (hyn.r j (by omega))] at hpy
    have hjy:j<(zs.set k o').length:=by omega
    have hwk:=Q6 (show j+1<2 ^ 63 by omega)
    obtain ⟨v',H',a1,hT2⟩:=hT.add (promiseF (j:Int) (gI zs j)) (by rw[prL_len];omega)
    rw[← prL_succ] at hT2
    have vnu:=hT2.nu
    have wnu:=hT2.symm.nu
    simp only[ic4l0,QJ,hjl,J5 (show j<zs.length from hjl),J4 hjl,WA,hzi,evA,simprocAttr]
    refine hpz.call frz ?_
    simp only[J5 hjy,J4 hjy,WA,hyi,evA,simprocAttr]
    refine hpy.call frz ?_
    have hsw:(promiseF (j:Int) (gI zs j) != promiseF (j:Int) (gI (zs.set k o') j))=(promiseF (j:Int) (gI (zs.set k o') j) != promiseF (j:Int) (gI zs j)):=bne_comm
    have key:(promiseF (j:Int) (gI zs j) != promiseF (j:Int) (gI (zs.set k o') j))=true∧waL k (promiseF (k:Int) (gI (zs.set k o') k) != promiseF (k:Int) (gI zs k)) (j+1)=waL k (promiseF (k:Int) (gI (zs.set k o') k) != promiseF (k:Int) (gI zs k)) j++[(j:Int)]∧(waL k (promiseF (k:Int) (gI (zs.set k o') k) != promiseF (k:Int) (gI zs k)) j).length≤1000 ∨
      (promiseF (j:Int) (gI zs j) != promiseF (j:Int) (gI (zs.set k o') j))=false∧waL k (promiseF (k:Int) (gI (zs.set k o') k) != promiseF (k:Int) (gI zs k)) (j+1)=waL k (promiseF (k:Int) (gI (zs.set k o') k) != promiseF (k:Int) (gI zs k)) j:=by
     by_cases hjk:j=k
     ·subst hjk
      rw[hsw]
      cases (promiseF (j:Int) (gI (zs.set j o') j) != promiseF (j:Int) (gI zs j)) with
      | true=>exact .inl ⟨rfl,by rw[waL_at.1,waL_at.2];rfl,by rw[waL_at.1];decide⟩
      | false=>exact .inr ⟨rfl,by rw[waL_f,waL_f]⟩
     ·have he:gI (zs.set k o') j=gI zs j:=by unfold gI;rw[QU (Ne.symm hjk)]
      rw[he]
      exact .inr ⟨bne_self_eq_false _,waL_ne hjk⟩
    simp only[a1,vnu,evA,simprocAttr]
    rcases key with ⟨h1,h2,h3⟩ | ⟨h1,h2⟩
    ·obtain ⟨w',H2,b1,hT3⟩:=hT2.symm.add (j:Int) h3
     rw[← h2] at hT3
     have wnu':=hT3.nu
     simp only[h1,b1,wnu,wnu',hwk,evA,simprocAttr]
     exact ZL (by first | trivial | omega) ⟨_,_,_,_,_,_,_,_,_,H2,hT3.symm,rfl⟩
    ·rw[← h2] at hT2
     simp only[h1,hwk,evA,simprocAttr]
     exact ZL (by first | trivial | omega) ⟨_,_,_,_,_,_,_,_,_,H',hT2,rfl⟩
   ·have:j=zs.length:=by omega
    subst this
    simp only[ic4l0,QJ,hjl,kSW_n,evA,simprocAttr]
    have hcc:=c18 (prL zs zs.length) (zs.set k o') (by rw[prL_len];omega) (by omega)
    have hcv:cheatsV (prL zs zs.length) (zs.set k o')=.tup [ints (waL k (promiseF (k:Int) (gI (zs.set k o') k) != promiseF (k:Int) (gI zs k)) zs.length),.i 0]:=by
     unfold cheatsV
     rw[if_pos hce,hyl,hch]
    rw[hcv] at hcc
    have hT2:=hT.symm
    have hwl:(waL k (promiseF (k:Int) (gI (zs.set k o') k) != promiseF (k:Int) (gI zs k)) zs.length=[]∨waL k (promiseF (k:Int) (gI (zs.set k o') k) != promiseF (k:Int) (gI zs k)) zs.length=[(k:Int)]):=by
     unfold waL
     split
     ·exact .inr rfl
     ·exact .inl rfl
    generalize waL k (promiseF (k:Int) (gI (zs.set k o') k) != promiseF (k:Int) (gI zs k)) zs.length=W at *
    refine SW.weak (s':=⟨[bkV b,.agg [.i r,.i s,.i c],seV zs w0 o,.cv (.rp [qnR b.qs,rowC b.wt,.int .i64 b.lo,.int .i64 b.hi] 0),.cv (.rp [.int .i64 r,.int .i64 s,.int .i64 c] 0),.cv (.rp [rowC zs,.int .u8 w0,.int .u32 o] 0),.b false,.i 0,.i k,ints (zs.set k o'),
     ints A,ints B,.i 0,ints (iL ns),.undef,ints (prL zs zs.length),ints W,.undef,.undef,.undef,.undef,.undef,.undef,.undef,.undef,.undef,.undef,.undef,.b false,.b false,.undef,.undef,.undef,.undef,.undef,.undef,.undef,.undef,.undef],[]⟩) (Weak.freeze rfl (frz_get ?_)) ?_
    ·refine .cons (GE (k:=0) _ rfl) (.cons (GE (k:=0) _ rfl) (.cons (GE (k:=0) _ rfl) (.cons (GE (k:=0) _ rfl) (.cons (GE (k:=0) _ rfl) (.cons (GE (k:=0) _ rfl) ?_)))))
     refine .cons (GE (k:=0) _ rfl) (.cons (GE (k:=0) _ rfl) (.cons (GE (k:=0) _ rfl) (.cons (GE (k:=0) _ rfl) (.cons (GE (k:=0) _ rfl) (.cons (GE (k:=0) _ rfl) (.cons (GE (k:=0) _ rfl) (.cons (GE (k:=0) _ rfl) ?_)))))))
     refine .cons (.un _) (.cons (hT.frz (fun _=>trivial)) (.cons (hT2.frz (fun _=>trivial)) ?_))
     refine .cons (.un _) (.cons (.un _) (.cons (.un _) (.cons (.un _) (.cons (.un _) (.cons (.un _) (.cons (.un _) (.cons (.un _) (.cons (.un _) (.cons (.un _) (.cons (.un _) ?_))))))))))
     refine .cons (GE (k:=0) _ rfl) (.cons (GE (k:=0) _ rfl) (.cons (.un _) (.cons (.un _) (.cons (.un _) (.cons (.un _) (.cons (.un _) (.cons (.un _) (.cons (.un _) (.cons (.un _) (.cons (.un _) .nil))))))))))
    refine SW_seq ?_
    simp only[kSW_n,evA,simprocAttr]
    refine hcc.call frz ?_
    simp only[kSW_n,evA,simprocAttr]
    have hWl:W.length<2 ^ 63:=by
     rcases hwl with rfl | rfl
     ·decide
     ·show 1<2 ^ 63
      decide
    have hIW:=tp18 W hWl
    refine SW_seq ?_
    simp only[n0,evA,simprocAttr]
    refine hIW.call frz ?_
    have hWok:decide ((W.length:Int)>1)=false∧(((W.length:Int) == 1)=false∨W=[(k:Int)]):=by
     rcases hwl with rfl | rfl
     ·exact ⟨rfl,.inl rfl⟩
     ·exact ⟨rfl,.inr rfl⟩
    obtain ⟨pl,e,hDr,hpl1,hpl2,hAcc⟩:=dr_any b hb r s c ns (by omega) hr5 (by omega) hs6 (by rw[hnul,hN]) hnum
    have hEq:=tp20 pl hpl1 hpl2
    have hkk:((k:Int) != (k:Int))=false:=bne_self_eq_false _
    have hee:(e != e)=false:=bne_self_eq_false _
    rcases hWok.2 with hw1 | rfl
    ·simp only[hWok.1,hw1,kSW_n,evA,simprocAttr]
     refine SW_seq ?_
     simp only[kSW_n,evA,simprocAttr]
     refine hDr ?_
     simp only[kSW_n,evA,simprocAttr]
     refine SW_seq ?_
     simp only[kSW_n,evA,simprocAttr]
     refine hDr ?_
     simp only[kSW_n,evA,simprocAttr]
     refine SW_seq ?_
     simp only[hee,evA,simprocAttr]
     refine hEq.call frz ?_
     simp only[kSW_n,evA,simprocAttr]
     refine SW_seq ?_
     by_cases he0:e=0
     ·subst he0
      have e00:((0:Int) == 0)=true:=rfl
      simp only[e00,evA,simprocAttr]
      refine (hAcc rfl).call frz ?_
      simp only[n0,kSW_n,evA,simprocAttr]
      refine SW_seq ?_
      simp only[kSW_n,evA,simprocAttr]
      refine (aw6 _).run ?_
      simp only[evA,simprocAttr]
      refine (awake _).run ?_
      simp only[kSW_n,kSW_r,evA,simprocAttr]
      refine SW_of ?_
      simp only[evA,simprocAttr]
     ·have e00:(e == 0)=false:=beq_eq_false_iff_ne.2 he0
      simp only[e00,kSW_n,evA,simprocAttr]
      refine SW_seq ?_
      simp only[kSW_n,evA,simprocAttr]
      refine (aw6 _).run ?_
      simp only[evA,simprocAttr]
      refine (awake _).run ?_
      simp only[kSW_n,kSW_r,evA,simprocAttr]
      refine SW_of ?_
      simp only[evA,simprocAttr]
    ·have i0:∀ σ,VP 1 [ints [(k:Int)],AV.cv (CV.int IntKind.i64 0)] σ=some (.cv (.rp ([(k:Int)].map (.int .i64)) 0),σ):=fun σ=>J5 (k:=0) Nat.one_pos σ
     have l0:([(k:Int)].map (CV.int IntKind.i64))[0]? = some (.int .i64 k):=rfl
     have d1:decide (((0+1:Nat):Int)>1)=false:=rfl
     have d2:(((0+1:Nat):Int) == 1)=true:=rfl
     simp only[i0,l0,d1,d2,hkk,List.length_cons,List.length_nil,kSW_n,evA,simprocAttr]
     refine SW_seq ?_
     simp only[kSW_n,evA,simprocAttr]
     refine hDr ?_
     simp only[kSW_n,evA,simprocAttr]
     refine SW_seq ?_
     simp only[kSW_n,evA,simprocAttr]
     refine hDr ?_
     simp only[kSW_n,evA,simprocAttr]
     refine SW_seq ?_
     simp only[hee,evA,simprocAttr]
     refine hEq.call frz ?_
     simp only[kSW_n,evA,simprocAttr]
     refine SW_seq ?_
     by_cases he0:e=0
     ·subst he0
      have e00:((0:Int) == 0)=true:=rfl
      simp only[e00,evA,simprocAttr]
      refine (hAcc rfl).call frz ?_
      simp only[n0,kSW_n,evA,simprocAttr]
      refine SW_seq ?_
      simp only[kSW_n,evA,simprocAttr]
      refine (aw6 _).run ?_
      simp only[evA,simprocAttr]
      refine (awake _).run ?_
      simp only[kSW_n,kSW_r,evA,simprocAttr]
      refine SW_of ?_
      simp only[evA,simprocAttr]
     ·have e00:(e == 0)=false:=beq_eq_false_iff_ne.2 he0
      simp only[e00,kSW_n,evA,simprocAttr]
      refine SW_seq ?_
      simp only[kSW_n,evA,simprocAttr]
      refine (aw6 _).run ?_
      simp only[evA,simprocAttr]
      refine (awake _).run ?_
      simp only[kSW_n,kSW_r,evA,simprocAttr]
      refine SW_of ?_
      simp only[evA,simprocAttr]
end Go.Proofs.YtpmokaefmcffaaaGreat.AM
namespace Go.Proofs.YtpmokaefmcffaaaGreat.AM
variable [Dr]
open Go
def papTab (b61:Code):List (Nat × FE) :=
 [(14,⟨ic14,vs14,129,rs14,true⟩),
 (18,⟨ic18,vs18,26,rs18,true⟩),
 (19,⟨ic19,vs19,65,rs19,true⟩),
 (20,⟨ic20,vs20,27,rs20,true⟩),
 (21,⟨ic21,vs21,48,rs21,true⟩),
 (48,⟨ic48,vs48,18,rs48,true⟩),
 (49,⟨ic49,vs49,10,rs49,true⟩),
 (50,⟨ic50,vs50,18,rs50,true⟩),
 (51,⟨ic51,vs51,29,rs51,true⟩),
 (52,⟨ic52,vs52,27,rs52,true⟩),
 (53,⟨ic53,vs53,5,rs53,true⟩),
 (54,⟨ic54,vs54,78,rs54,true⟩),
 (56,⟨ic56,vs56,45,rs56,false⟩),
 (57,⟨ic57,vs57,10,rs57,true⟩),
 (58,⟨ic58,vs58,72,rs58,false⟩),
 (59,⟨ic59,vs59,12,rs59,false⟩),
 (60,⟨ic60,vs60,53,rs60,false⟩),
 (61,⟨ic61 b61,vs61,23,rs61,true⟩),
 (62,⟨ic62,vs62,76,rs62,false⟩),
 (83,⟨ic83,vs83,9,rs83,true⟩),
 (87,⟨ic87,vs87,8,rs87,true⟩),
 (88,⟨ic88,vs88,6,rs88,true⟩),
 (91,⟨ic91,vs91,52,rs91,false⟩),
 (92,⟨ic92,vs92,44,rs92,false⟩),
 (93,⟨ic93,vs93,45,rs93,false⟩),
 (94,⟨ic94,vs94,11,rs94,false⟩),
 (95,⟨ic95,vs95,13,rs95,true⟩),
 (96,⟨ic96,vs96,6,rs96,false⟩),
 (97,⟨ic97,vs97,20,rs97,true⟩),
 (104,⟨ic104,vs104,19,rs104,true⟩),
 (114,⟨ic114,vs114,25,rs114,true⟩),
 (115,⟨ic115,vs115,95,rs115,true⟩),
 (116,⟨ic116,vs116,134,rs116,false⟩),
 (117,⟨ic117,vs117,26,rs117,false⟩),
 (118,⟨ic118,vs118,9,rs118,true⟩),
 (135,⟨ic135,vs135,7,rs135,true⟩),
 (136,⟨ic136,vs136,33,rs136,false⟩),
 (139,⟨ic139,vs139,49,rs139,false⟩),
 (140,⟨ic140,vs140,56,rs140,false⟩),
 (141,⟨ic141,vs141,65,rs141,false⟩),
 (142,⟨ic142,vs142,57,rs142,false⟩),
 (143,⟨ic143,vs143,32,rs143,false⟩),
 (144,⟨ic144,vs144,133,rs144,false⟩),
 (145,⟨ic145,vs145,17,rs145,true⟩),
 (146,⟨ic146,vs146,84,rs146,false⟩),
 (147,⟨ic147,vs147,168,rs147,false⟩),
 (148,⟨ic148,vs148,19,rs148,true⟩),
 (161,⟨ic161,vs161,76,rs161,false⟩),
 (162,⟨ic162,vs162,15,rs162,false⟩),
 (163,⟨ic163,vs163,36,rs163,false⟩),
 (173,⟨ic173,vs173,28,rs173,false⟩)]
theorem papTab_ok:TOk Tryz.prog (papTab (Tryz.f61.body.getD .skip)) :=
 ⟨fok14 _,fok18 _,fok19 _,fok20 _,fok21 _,fok48 _,fok49 _,fok50 _,fok51 _,fok52 _,fok53 _,fok54 _,fok56 _,fok57 _,fok58 _,fok59 _,fok60 _,fok61 _,fok62 _,fok83 _,fok87 _,fok88 _,fok91 _,fok92 _,fok93 _,fok94 _,fok95 _,fok96 _,fok97 _,fok104 _,fok114 _,fok115 _,fok116 _,fok117 _,fok118 _,fok135 _,fok136 _,fok139 _,fok140 _,fok141 _,fok142 _,fok143 _,fok144 _,fok145 _,fok146 _,fok147 _,fok148 _,fok161 _,fok162 _,fok163 _,fok173 _,trivial⟩
end Go.Proofs.YtpmokaefmcffaaaGreat.AM
namespace Go.Proofs.YtpmokaefmcffaaaGreat.AM
variable [Dr]
open Go Pl
set_option maxRecDepth 100000
def T6 (b61:Code) (k:Kn):Tb:=⟨tget (papTab b61),k⟩
theorem T6_ok {k:Kn} (hk:KnOk Tryz.prog k):TbOk Tryz.prog (T6 (Tryz.f61.body.getD .skip) k):=⟨fun _ _ h=>TOk.get papTab_ok _ _ h,hk⟩
def qn5:List Qn:=[⟨0,10,2⟩,⟨0,0,0⟩,⟨1,10,3⟩,⟨1,5,3⟩,⟨1,5,2⟩]
def bk5:Bk:=⟨qn5,[1,2],1000,1300⟩
abbrev q5C:CV:=.rsl [.int .i64 0,.int .i64 10,.int .i64 2,.int .i64 0,.int .i64 0,.int .i64 0,.int .i64 1,.int .i64 10,.int .i64 3,.int .i64 1,.int .i64 5,.int .i64 3,.int .i64 1,.int .i64 5,.int .i64 2] 5
abbrev w5C:CV:=.rsl [.int .i64 200,.int .i64 500,.int .i64 300,.int .i64 600,.int .i64 400] 5
abbrev n5C:CV:=.rsl [.int .i64 1,.int .i64 2] 2
abbrev bk5V:AV:=.agg [.cv q5C,.cv n5C,.i 1000,.i 1300]
theorem bk5_op (D:Nat):opC bk5 (ints (wG bk5)) D=[.cv q5C,.cv n5C,.i 1000,.i 1300,.cv w5C,.map D]:=rfl
theorem bk5_ok:BkOk bk5:=bkOk_of (by decide)
def haC5 (c:Int):AV:=.agg [.i 1,.i 3,.i c]
abbrev n3 (a b c:Int):CV:=.rsl [.int .i64 a,.int .i64 b,.int .i64 c] 3
abbrev dr5:CV:=.rsl [n3 0 2 3,n3 1 2 4,n3 0 2 3] 3
theorem runDraw0 (b61:Code):JL (T6 b61 []) (UI (T6 b61 []) 1000000 40) 1000000 [] 19 [bk5V,haC5 0,.cv (n3 0 0 0)] []=some (true,.tup [.cv .nils,.i 9],[]):=by kernel_rfl
theorem knDraw0 (σ:List AObj):AC Tryz.prog 19 [bk5V,haC5 0,.cv (n3 0 0 0)] σ fun r τ=>r=.tup [.cv .nils,.i 9]∧τ=σ:=AC_run (Checked.mixed Tryz.checked) (T6_ok (k:=[]) trivial) 1000000 40 (runDraw0 _) rfl σ
theorem runAcc5 (b61:Code):JL (T6 b61 []) (UI (T6 b61 []) 1000000 40) 1000000 [] 21 [bk5V,haC5 0,.cv dr5] []=some (true,.tup [.i 1,.i 5],[]):=by kernel_rfl
theorem knAcc5 (σ:List AObj):AC Tryz.prog 21 [bk5V,haC5 0,.cv dr5] σ fun r τ=>r=.tup [.i 1,.i 5]∧τ=σ:=AC_run (Checked.mixed Tryz.checked) (T6_ok (k:=[]) trivial) 1000000 40 (runAcc5 _) rfl σ
abbrev hf5 (m:List (AV × AV)) (lv:AV):List AObj:=[.cells [.cv q5C,.cv n5C,.i 1000,.i 1300],.cells [.i 0,.i 0],.map m,.cells [.cv q5C,.cv n5C,.i 1000,.i 1300,.cv w5C,.map 2],.cells [.ptr 3 0],.cells [lv],.cells [.fn (.func 92) [.ptr 4 0,.ptr 5 0,.ptr 6 0]]]
def m5:List (AV × AV):=[(.agg [.i 3,.i 500,.i 0,.i 1,.i 0,.i 0],.i 1),(.agg [.i 4,.i 800,.i 0,.i 1,.i 0,.i 0],.i 1),(.agg [.i 5,.i 600,.i 0,.i 1,.i 0,.i 0],.i 0),(.agg [.i 1,.i 200,.i 0,.i 2,.i 0,.i 0],.i 2),(.agg [.i 3,.i 800,.i 0,.i 1,.i 0,.i 0],.i 1),(.agg [.i 4,.i 1100,.i 0,.i 1,.i 0,.i 0],.i 0),(.agg [.i 5,.i 900,.i 0,.i 1,.i 0,.i 0],.i 0),(.agg [.i 2,.i 500,.i 0,.i 2,.i 0,.i 0],.i 1),(.agg [.i 4,.i 900,.i 1,.i 0,.i 0,.i 0],.i 0),(.agg [.i 5,.i 700,.i 1,.i 0,.i 0,.i 0],.i 0),(.agg [.i 3,.i 300,.i 1,.i 1,.i 0,.i 0],.i 0),(.agg [.i 5,.i 1000,.i 1,.i 0,.i 0,.i 0],.i 0),(.agg [.i 4,.i 600,.i 1,.i 1,.i 0,.i 0],.i 0),(.agg [.i 5,.i 400,.i 1,.i 1,.i 0,.i 0],.i 0),(.agg [.i 0,.i 0,.i 1,.i 2,.i 0,.i 0],.i 3)]
theorem runVisit (b61:Code):(JL (T6 b61 []) (UI (T6 b61 []) 1000000 40) 1000000 [] 92 [.agg [.i 0,.i 0,.i 1,.i 2,.i 0,.i 0],.ptr 4 0,.ptr 5 0,.ptr 6 0] (hf5 [] (.cv .nils))).map (fun r=>(r.2.1,r.2.2.take 7,r.2.2[86]?)) =
  some (.tup [],hf5 m5 (.sl 86 0 3 1),some (.cells [.i 1100,.i 1200,.i 1200])):=by kernel_rfl
theorem knVisit:AC Tryz.prog 92 [.agg [.i 0,.i 0,.i 1,.i 2,.i 0,.i 0],.ptr 4 0,.ptr 5 0,.ptr 6 0] (hf5 [] (.cv .nils)) fun r τ=>r=.tup []∧τ=hf5 m5 (.sl 7 0 3 1)++[.cells [.i 1100,.i 1200,.i 1200]]:=by
 have h:=runVisit (Tryz.f61.body.getD .skip)
 rw[QA] at h
 obtain ⟨⟨kb,v,σ⟩,h1,h2⟩:=h
 simp only[Prod.mk.injEq] at h2
 obtain ⟨rfl,h3,h4⟩:=h2
 obtain ⟨g1,_,_⟩:=R7 (Checked.mixed Tryz.checked) (T6_ok (k:=[]) trivial) (N2 (Checked.mixed Tryz.checked) (T6_ok (k:=[]) trivial) 1000000 40) 1000000 (.nil _) h1
 refine g1.tidy ?_
 rintro r τ ⟨rfl,rfl⟩
 have ht:∀ l,l<7→τ[l]? = (hf5 m5 (.sl 86 0 3 1))[l]? := fun l hl=>by rw[← h3,Z7];rw[if_pos hl]
 refine ⟨fun l=>if l<7 then l else l+79,.tup [],hf5 m5 (.sl 7 0 3 1)++[.cells [.i 1100,.i 1200,.i 1200]],⟨fun l hl=>if_pos hl,fun a c h _=>?_,by decide,rfl,rfl,fun l o ho=>.inr ?_⟩,rfl,rfl⟩
 ·show (if a<7 then a else a+79)<(if c<7 then c else c+79)
  split <;> split <;> omega
 ·match l,ho with
  | 0,ho=>cases ho;exact ⟨rfl,ht 0 (by decide)⟩
  | 1,ho=>cases ho;exact ⟨rfl,ht 1 (by decide)⟩
  | 2,ho=>cases ho;exact ⟨rfl,ht 2 (by decide)⟩
  | 3,ho=>cases ho;exact ⟨rfl,ht 3 (by decide)⟩
  | 4,ho=>cases ho;exact ⟨rfl,ht 4 (by decide)⟩
  | 5,ho=>cases ho;exact ⟨rfl,ht 5 (by decide)⟩
  | 6,ho=>cases ho;exact ⟨rfl,ht 6 (by decide)⟩
  | 7,ho=>cases ho;exact ⟨rfl,h4⟩
abbrev hs5:List AObj:=hf5 m5 (.sl 7 0 3 1)++[.cells [.i 1100,.i 1200,.i 1200]]
theorem runSort5 (b61:Code):(JL (T6 b61 []) (UI (T6 b61 []) 1000000 40) 1000000 [] 94 [.sl 7 0 3 1] hs5).map (fun r=>(r.2.1,r.2.2))=some (.tup [],hs5):=by kernel_rfl
theorem knSort5:AC Tryz.prog 94 [.sl 7 0 3 1] hs5 fun r τ=>r=.tup []∧τ=hs5:=by
 have h:=runSort5 (Tryz.f61.body.getD .skip)
 rw[QA] at h
 obtain ⟨⟨kb,v,σ⟩,h1,h2⟩:=h
 simp only[Prod.mk.injEq] at h2
 obtain ⟨rfl,rfl⟩:=h2
 exact (R7 (Checked.mixed Tryz.checked) (T6_ok (k:=[]) trivial) (N2 (Checked.mixed Tryz.checked) (T6_ok (k:=[]) trivial) 1000000 40) 1000000 (.nil _) h1).1
theorem tp54:PC Tryz.prog 54 [bk5V,.i 2] (.tup [.agg [.i 1200,.i 1200],.i 0]):=by
 have h91:=tp91 bk5 bk5_ok
 have h59:=tp59 bk5 bk5_ok (A:=3) (D:=2) (σ:=hf5 [] (.cv .nils)) rfl
 have hst:sttV 0 0 (pad4 bk5.wt)=.agg [.i 0,.i 0,.i 1,.i 2,.i 0,.i 0]:=rfl
 rw[hst] at h59
 refine ⟨ZF (fok54 true) (QC rfl) ?_,rfl⟩
 simp only[ic54,WI,cellsOf,evA,simprocAttr]
 refine (AC.frame (by simp[QO,QR]) h91 _).mono ?_
 rintro r τ ⟨r0,τ0,⟨rfl,rfl⟩,rfl,rfl⟩
 simp only[opH,bk5_op,Q0,WS,List.length_cons,List.length_nil,renO,ren,rens,sh,evA,simprocAttr]
 refine DW_s [2] [] hmix (by kernel_rfl) rfl ?_
 simp only[evA,simprocAttr]
 refine YE (h59.run ⟨rfl,rfl⟩) rfl ?_
 simp only[evA,simprocAttr]
 refine MS (v:=.tup []) (τ:=hs5) knVisit ?_ ?_
 ·refine ⟨rfl,by decide,fun l o h1 h2=>?_⟩
  match l,h1 with
  | 0,h1=>cases h1;exact ⟨rfl,fun _=>trivial⟩
  | 1,h1=>cases h1;exact ⟨rfl,fun _=>trivial⟩
  | 2,h1=>cases h1;exact ⟨rfl,fun _=>trivial⟩
  | 3,h1=>cases h1;exact ⟨rfl,fun _=>trivial⟩
  | 4,h1=>cases h1;exact ⟨rfl,fun _=>trivial⟩
  | 5,h1=>cases h1;exact ⟨rfl,fun _=>trivial⟩
  | 6,h1=>cases h1;exact ⟨rfl,fun _=>trivial⟩
  | 7,h1=>cases h1;exact ⟨rfl,fun _=>trivial⟩
 have hw1:IntKind.i64.wrap ((3:Int)-2)=1:=rfl
 have hw2:IntKind.i64.wrap ((1:Int)+1)=2:=rfl
 have hsl:∀ σ,VG 1 false true [.sl 7 0 3 1,.i 2] σ=some (.sl 7 0 2 1,σ):=fun σ=>by simp[VG,bnds,bnd]
 simp only[hs5,hf5,List.cons_append,List.nil_append,evA,simprocAttr]
 refine (knSort5).run ?_
 simp only[hs5,hf5,List.cons_append,List.nil_append,hw1,hw2,hsl,evA,simprocAttr]
 refine ZW 2 (fun i s=>∃ v8 v9 v10 v17 v18,∃ lo hi:Int,∃ J,(i=0∧lo=0∧hi=0∨i=1∧lo=1100∧hi=1200∨i=2∧lo=1200∧hi=1200) ∧
  s = ⟨[bk5V,.i 2,.ptr 0 0,.ptr 1 0,.i 0,.ptr 4 0,.ptr 5 0,.ptr 6 0,v8,v9,v10,.b false,.b false,.b false,.sl 7 0 2 1,.i 2,.i i,v17,v18],
   [AObj.cells [AV.cv q5C,AV.cv n5C,AV.i 1000,AV.i 1300],AObj.cells [AV.i lo,AV.i hi],AObj.map m5,AObj.cells [AV.cv q5C,AV.cv n5C,AV.i 1000,AV.i 1300,AV.cv w5C,AV.map 2],AObj.cells [AV.ptr 3 0],
    AObj.cells [AV.sl 7 0 3 1],AObj.cells [AV.fn (Fn.func 92) [AV.ptr 4 0,AV.ptr 5 0,AV.ptr 6 0]],AObj.cells [AV.i 1100,AV.i 1200,AV.i 1200]]++J⟩) ?_ 0 (QF _) ⟨_,_,_,_,_,_,_,[],.inl ⟨rfl,rfl,rfl⟩,rfl⟩
 rintro i s hi ⟨v8,v9,v10,v17,v18,lo,hi,J,hc,rfl⟩
 have w0:IntKind.i64.wrap ((0:Int)+2)=2:=rfl
 have w1:IntKind.i64.wrap ((2:Int)-1)=1:=rfl
 have w2:IntKind.i64.wrap ((1:Int)+2)=3:=rfl
 have w3:IntKind.i64.wrap ((3:Int)-1)=2:=rfl
 have w4:IntKind.i64.wrap ((1200:Int)-1200)=0:=rfl
 have w5:IntKind.i64.wrap ((1200:Int)-1100)=100:=rfl
 have w6:IntKind.i64.wrap ((0:Int)+1)=1:=rfl
 have hA:∀ σ:List AObj,∀ k:Nat,k<2→VP 1 [.sl 7 0 2 1,.cv (.int .i64 k)] σ=some (.ptr 7 (0+k),σ):=fun σ k hk=>W9 hk σ
 have hB:∀ σ:List AObj,∀ k:Nat,k<3→VP 1 [.sl 7 0 3 1,.cv (.int .i64 k)] σ=some (.ptr 7 (0+k),σ):=fun σ k hk=>W9 hk σ
 have hA0:∀ σ:List AObj,VP 1 [.sl 7 0 2 1,.i 0] σ=some (.ptr 7 0,σ):=fun σ=>hA σ 0 (by decide)
 have hA1:∀ σ:List AObj,VP 1 [.sl 7 0 2 1,.i 1] σ=some (.ptr 7 1,σ):=fun σ=>hA σ 1 (by decide)
 have hB1:∀ σ:List AObj,VP 1 [.sl 7 0 3 1,.i 1] σ=some (.ptr 7 1,σ):=fun σ=>hB σ 1 (by decide)
 have hB2:∀ σ:List AObj,VP 1 [.sl 7 0 3 1,.i 2] σ=some (.ptr 7 2,σ):=fun σ=>hB σ 2 (by decide)
 rcases hc with ⟨rfl,rfl,rfl⟩ | ⟨rfl,rfl,rfl⟩ | ⟨rfl,rfl,rfl⟩
 ·have d0:((0:Int)<2):=by decide
  simp only[ic54l0,d0,hA0,hB1,w0,w1,w6,WW,VW,Int.ofNat_zero,List.cons_append,List.nil_append,evA,simprocAttr]
  exact ZL trivial ⟨_,_,_,_,_,1100,1200,_,by simp,rfl⟩
 ·have d1:((1:Int)<2):=by decide
  have d2:((0:Int)<100):=by decide
  have hbe:((1:Int) == 0)=false:=by decide
  have hdd:decide ((0:Int)<100)=true:=by decide
  simp only[ic54l0,d1,hA1,hB2,w2,w3,w4,w5,hw2,hbe,hdd,WW,VW,List.cons_append,List.nil_append,evA,simprocAttr]
  exact ZL trivial ⟨_,_,_,_,_,1200,1200,_,by simp,rfl⟩
 ·have d1:¬ ((2:Int)<2):=by decide
  simp only[ic54l0,d1,List.cons_append,List.nil_append,evA,simprocAttr]
  exact frz
theorem knFair5 (σ:List AObj):AC Tryz.prog 54 [bk5V,.i 2] σ fun r τ=>r=.tup [.agg [.i 1200,.i 1200],.i 0]∧τ=σ:=tp54.call (.cons (GE (k:=0) _ rfl) (.cons (GE (k:=0) _ rfl) .nil)) ⟨rfl,rfl⟩
theorem runWei5 (b61:Code):JL (T6 b61 []) (UI (T6 b61 []) 1000000 40) 1000000 [] 48 [bk5V] []=some (true,.tup [.cv w5C,.i 0],[]):=by kernel_rfl
theorem knWei5 (σ:List AObj):AC Tryz.prog 48 [bk5V] σ fun r τ=>r=.tup [.cv w5C,.i 0]∧τ=σ:=AC_run (Checked.mixed Tryz.checked) (T6_ok (k:=[]) trivial) 1000000 40 (runWei5 _) rfl σ
theorem runCnt5 (b61:Code):JL (T6 b61 []) (UI (T6 b61 []) 1000000 40) 1000000 [] 50 [bk5V] []=some (true,.tup [.i 3,.i 0],[]):=by kernel_rfl
theorem knCnt5 (σ:List AObj):AC Tryz.prog 50 [bk5V] σ fun r τ=>r=.tup [.i 3,.i 0]∧τ=σ:=AC_run (Checked.mixed Tryz.checked) (T6_ok (k:=[]) trivial) 1000000 40 (runCnt5 _) rfl σ
theorem runNth5 (b61:Code):JL (T6 b61 []) (UI (T6 b61 []) 1000000 40) 1000000 [] 51 [bk5V,.i 2] []=some (true,.tup [.cv (n3 1 2 4),.i 0],[]):=by kernel_rfl
theorem knNth5 (σ:List AObj):AC Tryz.prog 51 [bk5V,.i 2] σ fun r τ=>r=.tup [.cv (n3 1 2 4),.i 0]∧τ=σ:=AC_run (Checked.mixed Tryz.checked) (T6_ok (k:=[]) trivial) 1000000 40 (runNth5 _) rfl σ
theorem runNum5 (b61:Code):JL (T6 b61 []) (UI (T6 b61 []) 1000000 40) 1000000 [] 52 [bk5V,.cv (n3 0 3 4)] []=some (true,.tup [.i 1,.i 0],[]):=by kernel_rfl
theorem knNum5 (σ:List AObj):AC Tryz.prog 52 [bk5V,.cv (n3 0 3 4)] σ fun r τ=>r=.tup [.i 1,.i 0]∧τ=σ:=AC_run (Checked.mixed Tryz.checked) (T6_ok (k:=[]) trivial) 1000000 40 (runNum5 _) rfl σ
theorem runBank5 (b61:Code):JL (T6 b61 []) (UI (T6 b61 []) 1000000 40) 1000000 [] 49 [] []=some (true,bk5V,[]):=by kernel_rfl
theorem knBank5 (σ:List AObj):AC Tryz.prog 49 [] σ fun r τ=>r=bk5V∧τ=σ:=AC_run (Checked.mixed Tryz.checked) (T6_ok (k:=[]) trivial) 1000000 40 (runBank5 _) rfl σ
theorem tp53 (c:Int) (σ:List AObj):AC Tryz.prog 53 [.i c] σ fun r τ=>r=haC5 c∧τ=σ:=by
 have:PC Tryz.prog 53 [.i c] (haC5 c):=by
  refine ⟨ZF (fok53 true) (QC rfl) ?_,rfl⟩
  simp only[ic53,evA,simprocAttr]
  exact frz
 exact this.call (.cons (GE (k:=0) _ rfl) .nil) ⟨rfl,rfl⟩
def T6u (b61:Code):Tb:=⟨tget ((19,⟨ic19,vs19,65,rs19,false⟩)::papTab b61),[]⟩
theorem T6u_ok:TbOk Tryz.prog (T6u (Tryz.f61.body.getD .skip)):=⟨fun _ _ h=>TOk.get (show TOk Tryz.prog ((19,⟨ic19,vs19,65,rs19,false⟩)::papTab (Tryz.f61.body.getD .skip)) from ⟨fok19 false,papTab_ok⟩) _ _ h,trivial⟩
theorem runDrawU (b61:Code):(JL (T6u b61) (UI (T6u b61) 1000000 40) 1000000 [] 19 [bk5V,haC5 1,.cv (n3 0 0 0)] []).map (fun r=>(r.2.1,rowOf r.2.2 229,rowOf r.2.2 59,rowOf r.2.2 181,rowOf r.2.2 219)) =
  some (.tup [.sl 229 0 3 1,.i 0],some [.sl 59 0 3 1,.sl 181 0 3 1,.sl 219 0 3 1],some [.i 0,.i 2,.i 3],some [.i 1,.i 2,.i 4],some [.i 0,.i 2,.i 3]):=by kernel_rfl
theorem pcDraw5:PC Tryz.prog 19 [bk5V,haC5 1,.cv (n3 0 0 0)] (.tup [.cv dr5,.i 0]):=by
 have h:=runDrawU (Tryz.f61.body.getD .skip)
 rw[QA] at h
 obtain ⟨⟨kb,v,σ⟩,h1,h2⟩:=h
 simp only[Prod.mk.injEq] at h2
 obtain ⟨rfl,g0,g1,g2,g3⟩:=h2
 obtain ⟨f1,_,_⟩:=R7 (Checked.mixed Tryz.checked) T6u_ok (N2 (Checked.mixed Tryz.checked) T6u_ok 1000000 40) 1000000 (.nil _) h1
 refine ⟨f1.mono ?_,rfl⟩
 rintro r τ ⟨rfl,rfl⟩
 have s3:∀ {l:Nat} {a b c:Int},rowOf τ l=some [.i a,.i b,.i c]→FrzC scl τ (.sl l 0 3 1) (n3 a b c):=fun {l a b c} hr=>.sl l 0 3 1 _ _ hr (by simp) (.cons (.c _ trivial) (.cons (.c _ trivial) (.cons (.c _ trivial) .nil)))
 refine .tup (.cons (.c ?_) (.cons (.c (.c _ trivial)) .nil))
 exact .sl 229 0 3 1 _ _ g0 (by simp) (.cons (s3 g1) (.cons (s3 g2) (.cons (s3 g3) .nil)))
theorem pcDraw0:PC Tryz.prog 19 [bk5V,haC5 0,.cv (n3 0 0 0)] (.tup [.cv .nils,.i 9]):=⟨(knDraw0 []).mono fun r τ h=>by rw[h.1];exact .tup (.cons (.c (.c _ trivial)) (.cons (.c (.c _ trivial)) .nil)),rfl⟩
theorem pcNum5:PC Tryz.prog 52 [bk5V,.cv (n3 0 3 4)] (.tup [.i 1,.i 0]):=⟨(knNum5 []).mono fun r τ h=>by rw[h.1];exact .tup (.cons (.c (.c _ trivial)) (.cons (.c (.c _ trivial)) .nil)),rfl⟩
theorem awake6p:PC Tryz.prog 14 [] (.b true):=by
 refine ⟨ZF (fok14 true) (QC rfl) ?_,rfl⟩
 simp only[ic14,evA,simprocAttr]
 refine (knBank5 _).run ?_
 simp only[evA,simprocAttr]
 refine (knWei5 _).run ?_
 simp only[evA,simprocAttr]
 refine (knBank5 _).run ?_
 simp only[evA,simprocAttr]
 refine (knCnt5 _).run ?_
 simp only[evA,simprocAttr]
 refine (knBank5 _).run ?_
 simp only[evA,simprocAttr]
 refine (knNth5 _).run ?_
 simp only[evA,simprocAttr]
 refine (knBank5 _).run ?_
 simp only[evA,simprocAttr]
 refine pcNum5.call (.cons (GE (k:=0) _ rfl) (.cons (U4 (zs:=[0,3,4]) (fun _=>trivial) rfl rfl) .nil)) ?_
 simp only[evA,simprocAttr]
 refine (knBank5 _).run ?_
 simp only[evA,simprocAttr]
 refine (tp53 1 _).run ?_
 simp only[evA,simprocAttr]
 refine pcDraw5.call (.cons (GE (k:=0) _ rfl) (.cons (GE (k:=0) _ rfl) (.cons (U4 (zs:=[0,0,0]) (fun _=>trivial) rfl rfl) .nil))) ?_
 simp only[evA,simprocAttr]
 refine (knBank5 _).run ?_
 simp only[evA,simprocAttr]
 refine (tp53 0 _).run ?_
 simp only[evA,simprocAttr]
 refine (knAcc5 _).run ?_
 simp only[evA,simprocAttr]
 refine (knBank5 _).run ?_
 simp only[evA,simprocAttr]
 refine (knFair5 _).run ?_
 simp only[evA,simprocAttr]
 refine (knBank5 _).run ?_
 simp only[evA,simprocAttr]
 refine (tp53 0 _).run ?_
 simp only[evA,simprocAttr]
 refine pcDraw0.call (.cons (GE (k:=0) _ rfl) (.cons (GE (k:=0) _ rfl) (.cons (U4 (zs:=[0,0,0]) (fun _=>trivial) rfl rfl) .nil))) ?_
 simp only[evA,simprocAttr]
 refine (tp18 [200,500,300,600,400] (by decide)).call (.cons (GE (k:=0) _ rfl) (.cons (U4 (zs:=[200,500,300,600,400]) (fun _=>trivial) rfl rfl) .nil)) ?_
 simp only[evA,simprocAttr]
 refine (tp18 [1,2,4] (by decide)).call (.cons (GE (k:=0) _ rfl) (.cons (U4 (zs:=[1,2,4]) (fun _=>trivial) rfl rfl) .nil)) ?_
 simp only[evA,simprocAttr]
 refine (tp20 [[0,2,3],[1,2,4],[0,2,3]] (by decide) (fun n hn=>by
  match n,hn with
  | 0,_=>decide
  | 1,_=>decide
  | 2,_=>decide)).call (.cons (GE (k:=0) _ rfl) (.cons ?_ .nil)) ?_
 ·have s3:∀ {σ:List AObj} {l:Nat} {a b c:Int},rowOf σ l=some [.i a,.i b,.i c]→FrzC anyC σ (.sl l 0 3 1) (n3 a b c):=fun {σ l a b c} hr=>.sl l 0 3 1 _ _ hr (by simp) (.cons (.c _ trivial) (.cons (.c _ trivial) (.cons (.c _ trivial) .nil)))
  exact .c (.sl 9 0 3 1 _ _ rfl (by simp) (.cons (s3 rfl) (.cons (s3 rfl) (.cons (s3 rfl) .nil))))
 have hke:JW (true,[KK.int IntKind.i64,KK.int IntKind.i64]) (AV.agg [AV.i 1200,AV.i 1200]) (AV.agg [AV.cv (CV.int IntKind.i64 1200),AV.cv (CV.int IntKind.i64 1200)])=some true :=
  eqk_n (n:=2) (a:=[1200,1200]) (b:=[1200,1200]) rfl rfl (fun i hi=>by
   match i,hi with
   | 0,_=>decide
   | 1,_=>decide) (fun i hi=>by
   match i,hi with
   | 0,_=>decide
   | 1,_=>decide)
 simp only[hke,evA,simprocAttr]
 exact frz
theorem awake6 (σ:List AObj):AC Tryz.prog 14 [] σ fun r τ=>r=.b true∧τ=σ:=awake6p.call .nil ⟨rfl,rfl⟩
end Go.Proofs.YtpmokaefmcffaaaGreat.AM
namespace Go.Proofs.YtpmokaefmcffaaaGreat.AM
variable [Dr]
open Go Pl
theorem typed_qn {cs:List CV} (h:Typed Tryz.prog 115 cs):∃ q:Qn,cs=qnC q∧True:=by
 obtain ⟨L,rfl,hn,hf⟩:=typed_struct Tryz.underlying115 h
 match L,hn with
 | [a,b,c],_ =>
  obtain ⟨n1,rfl⟩:=typed_i (hf 0 _ a rfl rfl)
  obtain ⟨n2,rfl⟩:=typed_i (hf 1 _ b rfl rfl)
  obtain ⟨n3,rfl⟩:=typed_i (hf 2 _ c rfl rfl)
  exact ⟨⟨n1,n2,n3⟩,rfl,trivial⟩
theorem typed_bk {cs:List CV} (h:Typed Tryz.prog 60 cs):∃ b:Bk,avOf Tryz.prog 60 cs=bkV b∧BkSz b:=by
 obtain ⟨L,rfl,hn,hf⟩:=typed_struct Tryz.underlying60 h
 match L,hn with
 | [a,b,c],_ =>
  obtain ⟨L1,rfl,n1,_,h1⟩:=QeU Tryz.underlying56 (hf 0 _ a rfl rfl)
  obtain ⟨qs,a1,a2,_⟩:=typed_list (fun cs h=>typed_qn h) L1 h1
  obtain ⟨wt,rfl,hw⟩:=typed_row (hf 1 _ b rfl rfl)
  obtain ⟨L3₀,rfl,hn3,hf3⟩:=typed_struct Tryz.underlying58 (hf 2 _ c rfl rfl)
  match L3₀,hn3,hf3 with
  | [d,e],_,hf3 =>
   obtain ⟨lo,rfl⟩:=typed_i (hf3 0 _ d rfl rfl)
   obtain ⟨hi,rfl⟩:=typed_i (hf3 1 _ e rfl rfl)
   have hm:maxLen<2 ^ 63:=by decide
   refine ⟨⟨qs,wt,lo,hi⟩,?_,⟨by show qs.length<_;omega,hw⟩⟩
   simp only[avOf,Tryz.underlying60,a1,a2]
   rfl
theorem typed_ha {cs:List CV} (h:Typed Tryz.prog 62 cs):∃ r s c:Int,avOf Tryz.prog 62 cs=.agg [.i r,.i s,.i c]:=by
 obtain ⟨L,rfl,hn,hf⟩:=typed_struct Tryz.underlying62 h
 match L,hn with
 | [a,b,c],_ =>
  obtain ⟨n1,rfl⟩:=typed_i (hf 0 _ a rfl rfl)
  obtain ⟨n2,rfl⟩:=typed_i (hf 1 _ b rfl rfl)
  obtain ⟨n3,rfl⟩:=typed_i (hf 2 _ c rfl rfl)
  exact ⟨n1,n2,n3,by simp only[avOf,Tryz.underlying62];rfl⟩
theorem typed_se {cs:List CV} (h:Typed Tryz.prog 64 cs):∃ (zs:List Int) (w o:Int),avOf Tryz.prog 64 cs=seV zs w o∧zs.length<2 ^ 63∧(0≤w∧w≤255)∧0≤o∧o≤4294967295:=by
 obtain ⟨L,rfl,hn,hf⟩:=typed_struct Tryz.underlying64 h
 match L,hn with
 | [a,b,c],_ =>
  obtain ⟨zs,rfl,hz⟩:=typed_row (hf 0 _ a rfl rfl)
  obtain ⟨w,rfl,hw⟩:=QeV Tryz.underlying5 (hf 1 _ b rfl rfl)
  obtain ⟨o,rfl,ho⟩:=QeV Tryz.underlying36 (hf 2 _ c rfl rfl)
  exact ⟨zs,w,o,by simp only[avOf,Tryz.underlying64];rfl,hz,wf_u8 hw,wf_u32 ho⟩
theorem law_TopSeated (avs:List AV) (h:Args Tryz.prog Tryz.f4.params.toList avs):AC Tryz.prog 4 avs [] fun r _=>r=.b true:=by
 have h:Args Tryz.prog [60,62,64] avs:=h
 obtain ⟨cs1,avs,rfl,h1,h⟩:=args_cons h
 obtain ⟨cs2,avs,rfl,h2,h⟩:=args_cons h
 obtain ⟨cs3,avs,rfl,h3,h⟩:=args_cons h
 cases args_nil h
 obtain ⟨b,e1,hb⟩:=typed_bk h1
 obtain ⟨r,s,c,e2⟩:=typed_ha h2
 obtain ⟨zs,w,o,e3,hz,hw,ho⟩:=typed_se h3
 rw[e1,e2,e3]
 exact law4 awake6 b hb r s c zs w o hz hw ho
end Go.Proofs.YtpmokaefmcffaaaGreat.AM

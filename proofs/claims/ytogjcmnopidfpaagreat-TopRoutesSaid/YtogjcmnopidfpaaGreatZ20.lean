/- Parts of the proof, joined: TrF9 to TrP3. -/
import Derived.Test.YtogjcmnopidfpaaGreatZ19
set_option linter.unusedVariables false
set_option linter.unusedSimpArgs false
set_option linter.unusedSectionVars false
namespace Go.Proofs.YtogjcmnopidfpaaGreat.AM
variable [Dr]
open Go Pl
theorem AC.openArg {P:Program} {f:FuncId} {l off len cap esz:Nat} {post:List AV} {σ:List AObj} {K:AV→List AObj→Prop} (h:AC P f (.sl l off len esz::post) σ K):AC P f (.slc l off len cap esz::post) σ K:=by
 refine ⟨h.1,fun m X w cargs ha hh=>h.2 m X w cargs ?_ hh⟩
 cases cargs with
 | nil=>simp[QK] at ha
 | cons v vs =>
  simp only[QK,VRel] at ha ⊢
  obtain ⟨⟨b,h1,h2,h3,h4⟩,h5⟩:=ha
  exact ⟨⟨b,cap,h1,h2,h3,h4⟩,h5⟩
def TodoC (E:Nat→Prop) (H:List AObj) (v:AV) (todo:List Sd):Prop :=
 ∃ l pre post cap,¬ E l∧rowOf H l=some (pre++(sdX todo++post))∧QO 0 pre=true∧QO 0 post=true∧v=.slc l pre.length todo.length cap 2∧todo.length≤cap∧pre.length+cap*2≤(pre++(sdX todo++post)).length
def TodoS (E:Nat→Prop) (H:List AObj) (v:AV) (todo:List Sd):Prop :=
 ∃ l pre post,¬ E l∧rowOf H l=some (pre++(sdX todo++post))∧QO 0 pre=true∧QO 0 post=true∧v=.sl l pre.length todo.length 2
theorem TodoC.v {E:Nat→Prop} {H:List AObj} {v:AV} {todo:List Sd} (h:TodoC E H v todo):TodoV E H v todo:=by
 obtain ⟨l,pre,post,cap,h1,h2,h3,h4,h5,h6,h7⟩:=h
 exact ⟨l,pre,post,h1,h2,h3,h4,.inl ⟨cap,h5,h6,h7⟩⟩
theorem TodoV.s {E:Nat→Prop} {H:List AObj} {v:AV} {todo:List Sd} (h:TodoV E H v todo):∃ v',TodoS E H v' todo∧(v'=v∨∃ l o n c e,v=.slc l o n c e∧v'=.sl l o n e):=by
 obtain ⟨l,pre,post,h1,h2,h3,h4,⟨cap,rfl,_⟩ | ⟨rfl,rfl,rfl⟩⟩:=h
 ·exact ⟨.sl l pre.length todo.length 2,⟨l,pre,post,h1,h2,h3,h4,rfl⟩,.inr ⟨_,_,_,_,_,rfl,rfl⟩⟩
 ·exact ⟨.sl l 0 todo.length 2,⟨l,[],[],h1,h2,h3,h4,rfl⟩,.inl rfl⟩
theorem attach_sd {todo:List Sd} (h:∀ k∈todo,KeyC k):∃ xs:List Sk,xs.map (·.1)=todo :=
 by
 induction todo with
 | nil=>exact ⟨[],rfl⟩
 | cons a l ih =>
  obtain ⟨xs,hx⟩:=ih fun k hk=>h k (by simp[hk])
  exact ⟨⟨a,h a (by simp)⟩::xs,by simp[hx]⟩
theorem skX_map (xs:List Sk):skX xs=sdX (xs.map (·.1)):=by
 induction xs with
 | nil=>rfl
 | cons x xs ih=>rw[skX_cons,ih];rfl
theorem sort_todo {E:Nat→Prop} {H:List AObj} {v cmp:AV} {cf:Sk→Sk→Int} {todo:List Sd} (h:TodoC E H v todo) (hk:∀ k∈todo,KeyC k) (hl:todo.length≤1024) (hc:∀ l,¬ E l→l<H.length→CmpOk Tryz.prog cmp cf l H) :
  AC Tryz.prog 52 [v,cmp] H fun r τ=>r=.tup []∧∃ todo2,todo2.Perm todo∧TodoC E τ v todo2∧(∀ y,E y→τ[y]? = H[y]?)∧τ.length=H.length:=by
 obtain ⟨l,pre,post,cap,h1,h2,h3,h4,rfl,h6,h7⟩:=h
 have hlt:=(QH.1 (WO h2)).1
 obtain ⟨xs,rfl⟩:=attach_sd hk
 have hH:hpS H l pre post xs=H:=by
  unfold hpS
  rw[skX_map]
  apply Z1
  intro i
  by_cases e:l=i
  ·subst e;rw[Z2 hlt,WO h2]
  ·rw[QU e]
 refine AC.openArg ?_
 have h8:=c52 (pre:=pre) (post:=post) (xs:=xs) (n:=(xs.map (·.1)).length) (hc l h1 hlt) h3 h4 (by simp) hl
 rw[hH] at h8
 refine h8.mono ?_
 rintro r τ ⟨rfl,ys,hp,rfl⟩
 have hpl:ys.length=xs.length:=hp.length_eq
 refine ⟨rfl,ys.map (·.1),hp.map _,⟨l,pre,post,cap,h1,?_,h3,h4,by simp[hpl],by simpa[hpl] using h6,?_⟩,fun y hy=>?_,hpS_len⟩
 ·rw[hpS_row hlt,skX_map]
 ·rw[QM,QM,sdX_len] at h7 ⊢
  simp only[ZK,hpl] at h7 ⊢
  exact h7
 ·unfold hpS;rw[QU (fun e:l=y=>h1 (by rw[e];exact hy))]
theorem TodoC.pop {E:Nat→Prop} {H:List AObj} {v:AV} {now:Sd} {todo:List Sd} (h:TodoC E H v (now::todo)) :
  (∃ l o,(∀ τ,VP 2 [v,.cv (.int .i64 0)] τ=some (.ptr l o,τ))∧YF 2 [.ptr l o] H=some (sdA now,H)) ∧
  ∃ v',(∀ τ,VG 2 true false [v,.cv (.int .i64 1)] τ=some (v',τ))∧v'.isUndef=false∧TodoC E H v' todo:=by
 obtain ⟨l,pre,post,cap,h1,h2,h3,h4,rfl,h6,h7⟩:=h
 have hsx:sdX (now::todo)=[.i now.1,.i now.2]++sdX todo:=rfl
 rw[hsx] at h2 h7
 simp only[List.length_cons] at h6
 constructor
 ·refine ⟨l,pre.length,fun τ=>?_,?_⟩
  ·have hcd:(0:Int)≤0∧(0:Int)<((now::todo).length:Nat):=⟨Int.le_refl _,by simp only[List.length_cons];omega⟩
   simp only[VP]
   rw[if_pos hcd];rfl
  ·have hcd:pre.length+2≤(pre++([AV.i now.1,AV.i now.2]++sdX todo++post)).length:=by simp
   simp only[YF,h2,Option.bind_some]
   rw[if_pos hcd,List.drop_left' rfl];rfl
 ·by_cases hc:cap=1
  ·subst hc
   have ht:todo=[]:=by cases todo with | nil=>rfl | cons a l=>simp only[List.length_cons] at h6;omega
   subst ht
   refine ⟨.slc l pre.length 0 0 2,fun τ=>?_,rfl,l,pre,[.i now.1,.i now.2]++post,0,h1,?_,h3,?_,rfl,by simp,by simp⟩
   ·simp only[VG,bnds];rfl
   ·rw[h2];simp[sdX]
   ·exact VN rfl h4
  ·refine ⟨.slc l (pre.length+2) todo.length (cap-1) 2,fun τ=>?_,rfl,l,pre++[.i now.1,.i now.2],post,cap-1,h1,?_,?_,h4,by simp,by omega,?_⟩
   ·have hb:bnds true false (now::todo).length [.cv (.int .i64 1)]=some (1,todo.length+1):=rfl
    have hcd:1≤todo.length+1∧todo.length+1≤cap∧True:=⟨by omega,h6,trivial⟩
    simp only[VG,hb,Option.bind_some]
    rw[if_pos hcd,if_neg (by omega),show todo.length+1-1=todo.length by omega,Nat.one_mul]
   ·rw[h2];simp
   ·exact VN h3 rfl
   ·simp only[QM,List.length_cons,List.length_nil] at h7 ⊢;omega
theorem All.mono {fx:Fx} {s:St} {T T':St→Prop} (h:All fx s T) (ht:∀ s',T s'→T' s'):All fx s T':=fun m X en ac w hs =>
 let ⟨s',m',a,b,c⟩:=h m X en ac w hs;⟨s',m',ht s' a,b,c⟩
theorem locsInAll_undef:∀ q:Nat,QO 0 (List.replicate q AV.undef)=true
 | 0=>rfl
 | q+1=>by rw[List.replicate_succ];show (QR 0 AV.undef&&_)=true;rw[locsInAll_undef q];rfl
theorem LowH.set {σ:List AObj} {pm:Nat} {M:CM₀} {H:List AObj} (h:LowH σ pm M H) {l:Nat} (hl:σ.length≤l) (o:AObj):LowH σ pm M (H.set l o) :=
 ⟨by rw[WE];exact h.le,fun x hx hne=>by rw[QU (by omega)];exact h.low x hx hne,by
  have h1:=h.map
  have:=h.pml
  unfold mapOf at h1 ⊢
  rw[QU (by omega)];exact h1,h.pml⟩
set_option maxHeartbeats 4000000 in
theorem f24 {t:Twn} {k:Tsk} (hB:BegOk t k) {σ:List AObj} {jp pi pm:Nat} {ivs:List AV} (hJ:JobAt t k σ jp pi pm ivs) :
  AC Tryz.prog 24 [.ptr jp 0] σ fun r τ=>r=.tup []∧∃ M,Slv (netOf hB) M∧LowH σ pm M τ:=by
 have hj:=hJ.job
 have hpm:=hJ.map
 have hcell:∀ {q cs},rowOf σ q=some cs→q≠pm:=fun {q cs} hr=>by
  rintro rfl
  have h1:=mapOf_get hpm
  rw[WO hr] at h1
  cases h1
 have hjl:=(QH.1 (WO hj)).1
 have hml:=(QH.1 (mapOf_get hpm)).1
 have hjr:=fun J=>ZH hj J
 have gj:=fun J:List AObj=>QE (l₂:=J) hjl
 have gm:=fun J:List AObj=>QE (l₂:=J) hml
 have heK:=netOf_e hB
 have hms:∀ J:List AObj,JZ K2 [.map pm,.agg [.i k.to,.cv (.int .i64 0)],.agg [.cv (.int .i64 0),.cv (.int .i64 0)]] (σ++J)=some (.undef,σ.set pm (.map (memC [(((netOf hB).e),((0,0):Sd))]))++J):=fun J=>by
  have h1:=setC (M:=[]) heK (fun e he=>by cases he) (0,0) (mapOf_low hpm J)
  rw[YG _ _ hml] at h1
  exact h1
 obtain ⟨H2,hH2⟩:∃ H2,H2=σ.set pm (.map (memC [(((netOf hB).e),((0,0):Sd))])):=⟨_,rfl⟩
 rw[← hH2] at hms
 have hl2:H2.length=σ.length:=by rw[hH2,WE]
 have gj2:∀ J:List AObj,(H2++J)[jp]? = σ[jp]? := fun J=>by
  rw[QE (by omega),hH2,QU (Ne.symm (hcell hj))]
 have hL2:LowH σ pm [((netOf hB).e,(0,0))] H2:=⟨by omega,fun y hy hne=>by rw[hH2,QU (Ne.symm hne)],by unfold mapOf;rw[hH2,Z2 hml],hml⟩
 refine ZF (fok24 true) (QC rfl) ?_
 simp only[ic24,hj,evA,simprocAttr,QW,QM,WW,X9,VW,EZ,Qau,CH,get_nz,get_ns]
 refine DW_s [] [(3,6),(4,6),(5,6)] hmix (by kernel_rfl) rfl ?_
 simp only[hjr,gj,gm,gj2,hms,evA,simprocAttr,QW,QM,WW,X9,VW,EZ,Qau,CH,get_nz,get_ns]
 rw[← hl2]
 simp only[evA,simprocAttr,QW,QM,WW,X9,VW,EZ,Qau,CH,get_nz,get_ns]
 have hst:=SInv.start heK
 have hsl:σ.length≤H2.length:=by omega
 generalize hM0:[((netOf hB).e,((0,0):Sd))]=M0 at hst hL2
 refine IL_forA (2*phiC M0+1) (fun i s=>∃ v2 v3 v4 v5 v6 v7 v8 v9 v10 v11 v12 v13 v14 v15 v16 v17 v18 v19 v20 v21 v22 H M todo,LowH σ pm M H∧TodoS (fun y=>y<σ.length) H v2 todo∧SInv (netOf hB) M todo∧2*phiC M+todo.length+i≤2*phiC M0+1 ∧
   s=⟨[.ptr jp 0,.ptr H2.length 0,v2,v3,v4,v5,v6,v7,v8,v9,v10,v11,v12,v13,v14,v15,v16,v17,v18,v19,v20,v21,v22],H⟩)
  (fun i s=>∃ v2 v3 v4 v5 v6 v7 v8 v9 v10 v11 v12 v13 v14 v15 v16 v17 v18 v19 v20 v21 v22 H M todo,LowH σ pm M H∧TodoC (fun y=>y<σ.length) H v2 todo∧SInv (netOf hB) M todo∧2*phiC M+todo.length+i≤2*phiC M0+1 ∧
   s=⟨[.ptr jp 0,.ptr H2.length 0,v2,v3,v4,v5,v6,v7,v8,v9,v10,v11,v12,v13,v14,v15,v16,v17,v18,v19,v20,v21,v22],H⟩) ?_ ?_ 0 (QF _) ?_
 ·rintro i s hi ⟨v2,v3,v4,v5,v6,v7,v8,v9,v10,v11,v12,v13,v14,v15,v16,v17,v18,v19,v20,v21,v22,H,M,todo,hL,hT,hS,hm,rfl⟩
  obtain ⟨l,pre,post,h1,h2,h3,h4,rfl⟩:=hT
  have hlt:=(QH.1 (WO h2)).1
  refine (All.caps (i:=2) ⟨_,rfl⟩ rfl h2).mono ?_
  rintro s' ⟨cap,q,hc1,hc2,rfl⟩
  refine ⟨_,v3,v4,v5,v6,v7,v8,v9,v10,v11,v12,v13,v14,v15,v16,v17,v18,v19,v20,v21,v22,_,M,todo,hL.set (Nat.le_of_not_lt h1) _,⟨l,pre,post++List.replicate q .undef,cap,h1,?_,h3,VN h4 (locsInAll_undef q),rfl,hc1,?_⟩,hS,hm,rfl⟩
  ·unfold rowOf
   rw[Z2 hlt,QW,QW]
  ·simp only[QM,List.length_replicate] at hc2 ⊢;omega
 ·rintro i s hi ⟨v2,v3,v4,v5,v6,v7,v8,v9,v10,v11,v12,v13,v14,v15,v16,v17,v18,v19,v20,v21,v22,H,M,todo,hL,hT,hS,hm,rfl⟩
  have hlen:=hT.v.len
  have hnu:=hT.v.nu
  cases htd:todo with
  | nil =>
   subst htd
   have hd:decide (((([]:List Sd).length:Nat):Int)>0)=false:=rfl
   simp only[ic24l2,hlen,hd,evA,simprocAttr,QW,QM,WW,X9,VW,EZ,Qau,CH,get_nz,get_ns]
   exact ⟨M,hS.slv,hL⟩
  | cons a rest =>
   have hd:decide ((todo.length:Int)>0)=true:=decide_eq_true (by rw[htd,List.length_cons];omega)
   have hkeys:=hS.keys
   have hl24:todo.length≤1024:=keys_bound hS.nd hkeys
   simp only[ic24l2,hlen,hd,evA,simprocAttr,QW,QM,WW,X9,VW,EZ,Qau,CH,get_nz,get_ns]
   have hsort:=sort_todo (cmp:=.bm 53 [.ptr jp 0]) (cf:=fun a b=>cmpC M a.1 b.1) hT hkeys hl24 fun l hl hlt=>⟨hlt,rfl,fun τ' hk x y=>by
    have hjl2:=hL.le
    have g1:rowOf τ' jp=some (jobX t k (.sl pi 0 t.pl.length 1) (.map pm)):=by
     have h1:=hL.row hj (hcell hj)
     unfold rowOf at h1 ⊢
     rw[hk jp (by omega) (by omega)];exact h1
    have g2:mapOf τ' pm=some (memC M):=by
     have h1:=hL.map
     unfold mapOf at h1 ⊢
     rw[hk pm (by omega) (by omega)];exact h1
    exact f53 t k g1 g2 hS.inv.keys x.1 y.1 x.2 y.2⟩
   refine AC.mono hsort ?_
   rintro r τ ⟨rfl,todo2,hperm,hT2,hlow,hτl⟩
   have hL':LowH σ pm M τ:=by
    refine ⟨by have:=hL.le;omega,fun y hy hne=>by rw[hlow y hy];exact hL.low y hy hne,?_,hml⟩
    have h1:=hL.map
    unfold mapOf at h1 ⊢
    rw[hlow pm hml];exact h1
   have hS2:=hS.perm hperm
   have hl2':=hperm.length_eq
   cases htd2:todo2 with
   | nil=>rw[htd2,htd] at hl2';simp at hl2'
   | cons now rest2 =>
    rw[htd2] at hT2 hS2 hl2'
    simp only[List.length_cons] at hl2'
    obtain ⟨⟨l,o,hia,hld⟩,v',hsls,hnu',hT3⟩:=hT2.pop
    have hnowK:=hS2.keys now (by simp)
    obtain ⟨c0,hN⟩:=hS2.pop
    have hlk:=fun J=>lookC hnowK hN.inv.keys (mapOf_low hL'.map J)
    rw[hN.nowc] at hlk
    simp only[Option.getD_some] at hlk
    have hjr':=fun J=>ZH (hL'.row hj (hcell hj)) J
    have hpi':=fun J=>ZH (hL'.row hJ.row (hcell hJ.row)) J
    have gj':=fun J:List AObj=>QE (l₂:=J) (QH.1 (WO (hL'.row hj (hcell hj)))).1
    have gm':=fun J:List AObj=>QE (l₂:=J) (QH.1 (mapOf_get hL'.map)).1
    have hq:0≤now.1∧now.1<t.pl.length:=by
     by_cases he:now=(netOf hB).e
     ·rw[he];exact hB.pls.2
     ·obtain ⟨n,w,c',⟨x,hx,e1,_⟩,_⟩:=hN.inv.pred _ _ hN.nowc he
      rw[← e1];exact (hB.ends (stpL_bnd hx)).1
    obtain ⟨q,hqe⟩:∃ q:Nat,now.1=(q:Int):=⟨now.1.toNat,by omega⟩
    have hql:q<t.pl.length:=by omega
    have hiq:∀ τ,VP 1 [.sl pi 0 t.pl.length 1,.cv (.int .i64 now.1)] τ=some (.ptr pi q,τ):=fun τ=>by
     rw[hqe,ia_sl hql,ZV,W3]
    have hacc:=hJ.acc.acc q hql
    have hiv:ivs[q]? = some (ivs[q]?.getD .undef):=by
     rw[QI (by rw[hJ.acc.len];exact hql)];rfl
    have hnuv:=hacc.nu
    have hlv:=acc_len hacc
    generalize ivs[q]?.getD .undef=v13' at *
    have hxs:∀ x∈intoL t (stpL t k.cl) q,x∈stpL t k.cl∧(ends t x).2=now.1:=fun x hx=>by
     obtain ⟨h1,h2⟩:=YB.1 hx
     exact ⟨h1,by rw[hqe];simpa using h2⟩
    have hst40:=(twnE_ok hB.tw).2.2.2.1
    have hxl:(intoL t (stpL t k.cl) q).length<2 ^ 38:=by
     have h1:(intoL t (stpL t k.cl) q).length≤(stpI t k.cl t.st.length).length:=HC _ _
     have h2:=stpI_len t k.cl t.st.length
     have hp2:(2:Nat) ^ 38=274877906944:=by decide
     omega
    simp only[hia,hld,hsls,hnu',evA,simprocAttr,QW,QM,WW,X9,VW,EZ,Qau,CH,get_nz,get_ns]
    refine DW_s [] [(3,6),(4,6),(5,6)] hmix (by kernel_rfl) rfl ?_
    simp only[hjr',hlk,gj',gm',evA,simprocAttr,QW,QM,WW,X9,VW,EZ,Qau,CH,get_nz,get_ns]
    refine DW_s [] [] hmix (by kernel_rfl) rfl ?_
    simp only[hjr',hpi',hiq,hiv,hnuv.1,hlv,gj',gm',evA,simprocAttr,QW,QM,WW,X9,VW,EZ,Qau,CH,get_nz,get_ns]
    have hle:=hL'.le
    have hin:In1 hB σ pm τ.length (τ.length+1) now c0 (2*phiC M+rest2.length) (fun _ _=>False) (τ++[AObj.cells [.i now.1,.i now.2],AObj.cells [.i c0.1,.i c0.2]]) v' M rest2:=by
     refine ⟨hL'.app _,by rw[WW];rfl,by rw[X9];rfl,⟨hle,by omega⟩,?_,hN,QG _⟩
     refine (hT3.v.less fun y hy=>?_).keep fun y hy _=>QE hy
     rcases hy with hy | hy | hy
     ·exact .inl hy
     ·exact .inr (by omega)
     ·exact .inr (by omega)
    refine p24_1 hB hj hpm hxs hxl hnowK hacc hin ?_
    intro v2' H' M' todo' v5' v6' v7' v8' v9' v10' v11' v16' v17' v18' v19' v20' v21' v22' hI'
    have hS':SInv (netOf hB) M' todo':=hI'.N.fin fun b w hE=>by
     obtain ⟨x,hx,e1,e2,e3,e4,e5⟩:=hE
     have hxm:x∈intoL t (stpL t k.cl) q:=YB.2 ⟨hx,by rw[e2] at hqe;simpa using hqe⟩
     obtain ⟨a,ha,hxa⟩:=WN.1 hxm
     have hxa':(intoL t (stpL t k.cl) q)[a]! = x:=by rw[getElem!_pos _ a ha];exact hxa
     refine ⟨a,ha,?_⟩
     rw[hxa']
     exact ⟨e1.symm,e3,e4.1,by omega,by rw[e2],e5⟩
    have hT':TodoV (fun y=>y<σ.length) H' v2' todo':=hI'.T.less fun y hy=>.inl (.inl hy)
    obtain ⟨v2s,hTs,hvs⟩:=hT'.s
    have hm':=hI'.meas
    simp only[evA,simprocAttr,QW,QM,WW,X9,VW,EZ,Qau,CH,get_nz,get_ns]
    refine AS (by omega) (Weak.openS (vals':=[.ptr jp 0,.ptr H2.length 0,v2s,.ptr τ.length 0,.ptr (τ.length+1) 0,v5',v6',v7',v8',v9',v10',v11',.b true,v13',.i (intoL t (stpL t k.cl) q).length,.i (intoL t (stpL t k.cl) q).length,v16',v17',v18',v19',v20',v21',v22']) fun j=>?_)
     ⟨_,_,_,_,_,_,_,_,_,_,_,_,_,_,_,_,_,_,_,_,_,_,M',todo',hI'.L,hTs,hS',by rw[htd] at hm hl2';simp only[List.length_cons] at hm hl2';omega,rfl⟩
    match j with
    | 0=>exact .inl rfl
    | 1=>exact .inl rfl
    | 2 =>
     rcases hvs with rfl | ⟨l,o,n,c,e,rfl,rfl⟩
     ·exact .inl rfl
     ·exact .inr ⟨l,o,n,c,e,rfl,rfl⟩
    | j+3=>exact .inl rfl
 ·subst hM0
  refine ⟨_,_,_,_,_,_,_,_,_,_,_,_,_,_,_,_,_,_,_,_,_,_,_,_,hL2.app _,⟨H2.length+1,[],[],by omega,by rw[X9];rfl,rfl,rfl,rfl⟩,hst,by simp,rfl⟩
theorem t57h (l:List Stp) (h0:0<l.length) (hl:l.length<2 ^ 38) (σ:List AObj):AC Tryz.prog 57 [.cv (stpR l)] σ fun r τ=>r=.sl (σ.length+1) 0 l.length 2∧τ=σ++[.dead,.cells ((l.flatMap stpC).map .cv)]:=by
 refine ZF (fok57 true) (QC rfl) ?_
 have hn:binF BinOp.eql TK.slc (AV.cv (stpR l)) (AV.cv CV.nils)=some (.b false):=by
  cases l with
  | nil=>simp at h0
  | cons x xs=>rfl
 have ha0:=stp_app hl σ
 simp only[ic57,hn,ha0,QW,List.cons_append,List.nil_append,evA,simprocAttr]
set_option maxHeartbeats 2000000 in
theorem t28c (t:Twn) (ht:TSz t) (time:Int) (l:List Stp) (h0:0<l.length) (hl:l.length<2 ^ 38) (hok:TorOk t time l) :
  PC Tryz.prog 28 [twnA t,.i time,.cv (stpR l)] (torA (.cv (stpR l)) (torF t time l)):=by
 refine ⟨ZF (fok28 true) (QC rfl) ?_,rfl⟩
 simp only[ic28,evA,simprocAttr]
 refine (t57h l h0 hl _).run ?_
 simp only[List.length_cons,List.length_nil,List.cons_append,List.nil_append,ZV,evA,simprocAttr]
 have hfl:(l.flatMap stpC).length=l.length*2:=UG stpC_len l
 have hob:∀ a:Tor,∀ o∈[AObj.cells [.cv (strR t.pl),.cv (strR t.sh),.cv (strR t.tm),.cv (sttR t.st)],.cells [.cv .nils,.i 0,.i 0,.i 0,.i 0],.dead,.cells ((l.flatMap stpC).map .cv),.cells [.sl 3 0 l.length 2,.i a.1,.i a.2.1,.i a.2.2.1,.i a.2.2.2]],Z3 5 o=true:=by
  intro a o ho;simp only[ZD,WZ,WK,or_false] at ho
  rcases ho with rfl | rfl | rfl | rfl | rfl
  ·rfl
  ·rfl
  ·rfl
  ·exact I5 _
  ·rfl
 refine ZW l.length (fun i s=>∃ v6 v7 v11,s=⟨[twnA t,.i time,.cv (stpR l),.ptr 0 0,.ptr 1 0,.ptr 4 0,v6,v7,.cv (stpR l),.i l.length,.i i,v11],[AObj.cells [.cv (strR t.pl),.cv (strR t.sh),.cv (strR t.tm),.cv (sttR t.st)],.cells [.cv .nils,.i 0,.i 0,.i 0,.i 0],.dead,.cells ((l.flatMap stpC).map .cv),.cells [.sl 3 0 l.length 2,.i (torF t time (l.take i)).1,.i (torF t time (l.take i)).2.1,.i (torF t time (l.take i)).2.2.1,.i (torF t time (l.take i)).2.2.2]]⟩) ?_ 0 (QF _) ⟨_,_,_,rfl⟩
 rintro i s hi ⟨v6,v7,v11,rfl⟩
 by_cases h:i<l.length
 rotate_left
 ·have e:l.take i=l:=Q5 (by omega)
  rw[e]
  simp only[ic28l0,QJ,h,evA,simprocAttr]
  exact .agg (.cons (sl_frz (rest:=[]) (by rw[ZU];rfl) hfl (stp_scl l)) (.cons (.c (.c _ trivial)) (.cons (.c (.c _ trivial)) (.cons (.c (.c _ trivial)) (.cons (.c (.c _ trivial)) .nil)))))
 obtain ⟨⟨hx1,hx2⟩,ht1,ht2⟩:=hok i h
 obtain ⟨k,hk⟩:∃ k:Nat,(l[i]!).1=(k:Int):=⟨(l[i]!).1.toNat,by omega⟩
 obtain ⟨q,hq⟩:∃ q:Nat,time=(q:Int):=⟨time.toNat,by omega⟩
 have hkl:k<t.st.length:=by omega
 have hkn:(l[i]!).1.toNat=k:=by omega
 rw[hkn] at ht2
 have hql:q<(t.st[k]!).sh.length:=by omega
 have hqn:time.toNat=q:=by omega
 have hS:torF t time (l.take (i+1))=torS t time (torF t time (l.take i)) l[i]! := foldl_take_succ _ _ h
 have hS2:torF t time (l.take (i+1))=(IntKind.i64.wrap ((torF t time (l.take i)).1+(t.st[k]!).me),IntKind.i64.wrap ((torF t time (l.take i)).2.1+(t.st[k]!).lo),IntKind.i64.wrap ((torF t time (l.take i)).2.2.1+(t.st[k]!).hi),orW (torF t time (l.take i)).2.2.2 ((t.st[k]!).sh[q]?.getD 0)):=by
  rw[hS];unfold torS;rw[hkn,hqn]
 generalize torF t time (l.take (i+1))=T2₀ at hS hS2
 generalize torF t time (l.take i)=T1₀ at hS hS2 ⊢
 subst hS2
 have hor:∀ a b:Int,binI .or .i64 a b=some (.cv (.int .i64 (orW a b))):=fun _ _=>rfl
 simp only[ic28l0,QJ,h,ia_stp h,stp_ld h,hk,ia_stt hkl,stt_ld hkl,evA,simprocAttr]
 refine DW_s [] [] hmix (by kernel_rfl) rfl ?_
 simp only[hq,hql,hor,Q6 (show i+1<2 ^ 63 by omega),evA,simprocAttr]
 exact W1 [AObj.cells [.cv (strR t.pl),.cv (strR t.sh),.cv (strR t.tm),.cv (sttR t.st)],.cells [.cv .nils,.i 0,.i 0,.i 0,.i 0],.dead,.cells ((l.flatMap stpC).map .cv),_] _ rfl (by first | trivial | omega) (QF _) (hob (_,_,_,_)) ⟨_,_,_,rfl⟩
theorem t28n (t:Twn) (time:Int):PC Tryz.prog 28 [twnA t,.i time,.cv .nils] (torA (.cv .nils) (0,0,0,0)):=by
 refine ⟨ZF (fok28 true) (QC rfl) ?_,rfl⟩
 simp only[ic28,evA,simprocAttr]
 refine t57n.call frz ?_
 simp only[evA,simprocAttr]
 refine J1 ?_
 simp only[ic28l0,evA,simprocAttr]
 exact frz
theorem stp_app2 {l:List Stp} (hl:l.length<2 ^ 38) {σ:List AObj} {q:Nat} (hq:rowOf σ q=some ((l.flatMap stpC).map .cv)):ZX 2 16 [.sl σ.length 0 0 2,.sl q 0 l.length 2] (σ++[AObj.cells []])=some (.sl (σ.length+1) 0 l.length 2,σ++[AObj.dead,.cells ((l.flatMap stpC).map .cv)]):=by
 have hfl:(l.flatMap stpC).length=l.length*2:=UG stpC_len l
 have hr:rowOf (σ++[AObj.cells []]) σ.length=some []:=by rw[WW];rfl
 have hr2:=ZH hq [AObj.cells []]
 have hp:(2:Nat) ^ 38=274877906944:=by decide
 have hp2:(2:Nat) ^ 44=17592186044416:=by decide
 have h1:0+l.length*2≤((l.flatMap stpC).map AV.cv).length:=by rw[ZK,hfl];omega
 have h2:((((l.flatMap stpC).map AV.cv).drop 0).take (l.length*2))=(l.flatMap stpC).map AV.cv:=by
  rw[YO,Q5 (by rw[ZK,hfl];exact QG _)]
 simp only[ZX,hr,Z9,hr2,if_true,lenF,Option.bind_some]
 rw[if_pos h1,h2]
 simp only[Option.bind_some]
 have hc:True∧0*2≤([]:List AV).length∧l.length*2=((l.flatMap stpC).map AV.cv).length∧(0+l.length)*16≤2 ^ 44∧0+l.length≤2 ^ 44∧((l.flatMap stpC).map AV.cv).all AV.isSc=true :=
  ⟨trivial,by simp,by rw[ZK,hfl],by omega,by omega,S2 _⟩
 rw[if_pos hc]
 simp
theorem t57q (l:List Stp) (hl:l.length<2 ^ 38) {σ:List AObj} {q:Nat} (hq:rowOf σ q=some ((l.flatMap stpC).map .cv)):AC Tryz.prog 57 [.sl q 0 l.length 2] σ fun r τ=>r=.sl (σ.length+1) 0 l.length 2∧τ=σ++[.dead,.cells ((l.flatMap stpC).map .cv)]:=by
 refine ZF (fok57 true) (QC rfl) ?_
 have hn:binF BinOp.eql TK.slc (AV.sl q 0 l.length 2) (AV.cv CV.nils)=some (.b false):=rfl
 have ha0:=stp_app2 hl hq
 simp only[ic57,hn,ha0,QW,List.cons_append,List.nil_append,evA,simprocAttr]
abbrev t28H (t:Twn) (l:List Stp) (n:Nat) (a:Tor) (T:List AObj):List AObj :=
 AObj.cells [.cv (strR t.pl),.cv (strR t.sh),.cv (strR t.tm),.cv (sttR t.st)]::AObj.cells [.cv .nils,.i 0,.i 0,.i 0,.i 0]::AObj.dead::AObj.cells ((l.flatMap stpC).map .cv)::AObj.cells [.sl (n+3) 0 l.length 2,.i a.1,.i a.2.1,.i a.2.2.1,.i a.2.2.2]::T
set_option maxHeartbeats 4000000 in
theorem t28q (t:Twn) (ht:TSz t) (time:Int) (l:List Stp) (hl:l.length<2 ^ 38) (hok:TorOk t time l) {σ:List AObj} {q:Nat} (hq:rowOf σ q=some ((l.flatMap stpC).map .cv)) :
  AC Tryz.prog 28 [twnA t,.i time,.sl q 0 l.length 2] σ fun r τ=>r=torA (.sl (σ.length+3) 0 l.length 2) (torF t time l)∧∃ J,τ=σ++J∧rowOf τ (σ.length+3)=some ((l.flatMap stpC).map .cv):=by
 refine ZF (fok28 true) (QC rfl) ?_
 have hfl:(l.flatMap stpC).length=l.length*2:=UG stpC_len l
 have hq2:=fun J=>ZH hq J
 simp only[ic28,evA,simprocAttr,QW,QM,WW,X9,VW,EZ,Qau,CH,get_nz,get_ns]
 refine (t57q l hl (hq2 _)).run ?_
 simp only[evA,simprocAttr,QW,QM,WW,X9,VW,EZ,Qau,CH,get_nz,get_ns]
 refine ZW l.length (fun i s=>∃ v6 v7 v11 T,s=⟨[twnA t,.i time,.sl q 0 l.length 2,.ptr σ.length 0,.ptr (σ.length+1) 0,.ptr (σ.length+4) 0,v6,v7,.sl q 0 l.length 2,.i l.length,.i i,v11],σ++t28H t l σ.length (torF t time (l.take i)) T⟩) ?_ 0 (QF _) ⟨_,_,_,[],rfl⟩
 rintro i s hi ⟨v6,v7,v11,T,rfl⟩
 by_cases h:i<l.length
 rotate_left
 ·have e:l.take i=l:=Q5 (by omega)
  rw[e]
  simp only[ic28l0,QJ,h,evA,simprocAttr,QW,QM,WW,X9,VW,EZ,Qau,CH,get_nz,get_ns]
  exact ⟨_,rfl⟩
 obtain ⟨⟨hx1,hx2⟩,ht1,ht2⟩:=hok i h
 obtain ⟨k,hk⟩:∃ k:Nat,(l[i]!).1=(k:Int):=⟨(l[i]!).1.toNat,by omega⟩
 obtain ⟨qt,hqt⟩:∃ q:Nat,time=(q:Int):=⟨time.toNat,by omega⟩
 have hkl:k<t.st.length:=by omega
 have hkn:(l[i]!).1.toNat=k:=by omega
 rw[hkn] at ht2
 have hql:qt<(t.st[k]!).sh.length:=by omega
 have hqn:time.toNat=qt:=by omega
 have hS:torF t time (l.take (i+1))=torS t time (torF t time (l.take i)) l[i]! := foldl_take_succ _ _ h
 have hS2:torF t time (l.take (i+1))=(IntKind.i64.wrap ((torF t time (l.take i)).1+(t.st[k]!).me),IntKind.i64.wrap ((torF t time (l.take i)).2.1+(t.st[k]!).lo),IntKind.i64.wrap ((torF t time (l.take i)).2.2.1+(t.st[k]!).hi),orW (torF t time (l.take i)).2.2.2 ((t.st[k]!).sh[qt]?.getD 0)):=by
  rw[hS];unfold torS;rw[hkn,hqn]
 generalize torF t time (l.take (i+1))=T2₀ at hS hS2
 generalize torF t time (l.take i)=T1₀ at hS hS2 ⊢
 subst hS2
 have hor:∀ a b:Int,binI .or .i64 a b=some (.cv (.int .i64 (orW a b))):=fun _ _=>rfl
 have hacc:AccE [] 2 σ (.sl q 0 l.length 2) l.length (l.flatMap stpC):=.inr ⟨q,by simp,rfl,hfl,hq⟩
 obtain ⟨qq,cs,hr,hia,hld⟩:=acc_get hacc h
 have hld':=fun J=>hld (σ++J) (ZH hr J)
 have hia2:∀ τ,VP 7 [.cv (sttR t.st),.cv (.int .i64 (l[i]!).1)] τ=some (.cv (.rp (sttCs t.st) (k*7)),τ):=fun τ=>by rw[hk];exact ia_stt hkl τ
 simp only[ic28l0,QJ,h,hia,hld',hia2,stt_ld hkl,evA,simprocAttr,QW,QM,WW,X9,VW,EZ,Qau,CH,get_nz,get_ns]
 refine DW_s [] [] hmix (by kernel_rfl) rfl ?_
 simp only[hqt,hql,hor,Q6 (show i+1<2 ^ 63 by omega),evA,simprocAttr,QW,QM,WW,X9,VW,EZ,Qau,CH,get_nz,get_ns]
 exact ZL (by first | trivial | omega) ⟨_,_,_,_,rfl⟩
theorem rens_cvF (g:Nat→Nat):∀ cs:List CV,rens g (cs.map AV.cv)=cs.map AV.cv
 | []=>rfl
 | c::cs=>by simp only[Q0,rens,ren,rens_cvF g cs]
theorem callOk_push {σ J:List AObj} {v:AV} (hv:QR (σ++J).length v=true) (ho:∀ o∈J,Z3 (σ++J).length o=true∧o.live):HM σ v (σ++J):=by
 refine ⟨hv,by simp,fun l o h hne=>?_⟩
 rcases ZB l σ.length with hlt | hge
 ·rw[QE hlt] at h;exact absurd h hne
 ·rw[QS hge] at h
  have:=ho o (QZ h)
  exact ⟨this.1,fun _=>this.2⟩
theorem t28t (t:Twn) (ht:TSz t) (time:Int) (l:List Stp) (hl:l.length<2 ^ 38) (hok:TorOk t time l) {σ:List AObj} {q:Nat} (hq:rowOf σ q=some ((l.flatMap stpC).map .cv)) :
  AC Tryz.prog 28 [twnA t,.i time,.sl q 0 l.length 2] σ fun r τ=>r=torA (.sl σ.length 0 l.length 2) (torF t time l)∧τ=σ++[.cells ((l.flatMap stpC).map .cv)]:=by
 refine (t28q t ht time l hl hok hq).tidy ?_
 rintro r τ ⟨rfl,J,rfl,hr⟩
 refine ⟨fun l=>if l<σ.length then l else l+3,torA (.sl σ.length 0 l.length 2) (torF t time l),σ++[.cells ((l.flatMap stpC).map .cv)],⟨fun l h=>if_pos h,fun a b h1 h2=>?_,by simp,?_,?_,fun y o h=>?_⟩,rfl,rfl⟩
 ·show (if a<σ.length then a else a+3)<(if b<σ.length then b else b+3)
  split <;> split <;> omega
 ·simp only[ren,rens,Nat.lt_irrefl,if_false]
 ·simp[QR,QO]
 ·rcases ZB y σ.length with hlt | hge
  ·rw[QE hlt] at h
   exact .inl ⟨hlt,h,by rw[QE hlt];exact h⟩
  ·rw[QS hge] at h
   have h0:y-σ.length=0:=by
    rcases XF (y-σ.length) with h1 | h1
    ·exact h1
    ·rw[QN (by simp;omega)] at h;cases h
   have hle:y=σ.length:=by omega
   subst hle
   simp only[Nat.sub_self,List.getElem?_cons_zero,Option.some.injEq] at h
   subst h
   refine .inr ⟨I5 _,?_⟩
   simp only[Nat.lt_irrefl,if_false,renO,rens_cvF]
   exact WO hr
def ia5:IC:=(.region [jw 11 (.alloc [(.cv (.int .i64 0)),(.cv (.bool false))]) [],jq (.store 2) [.v 11,.v 21]])
def ib5:IC:=(.block 3 (.seq (.dr [[],[0],[1],[2],[],[3,4],[5],[6],[6],[7,5,0,1,2,3,4,5,6,7],[8,9,0,1,2,3,4,5,6,7,8,9]] [jL 6,jc 0,jG 0 1,jq (.loadN 4) [.t 2],jN 2 11,jk 26 [.t 3,.t 4],jt 5,jx 0 6,jx 1 6,jm 12 7,jm 13 8])
 (.seq (.dr [[],[],[1],[],[],[3,4],[2,5],[0,6],[],[8,7,5,0,1,2,3,4,5,6,7,8]] [jv 13,jF 1 7,jl 1,jL 6,jN 2 11,jk 27 [.t 3,.t 4],jq (.bin .andNot .int) [.t 2,.t 5],jq (.build [(.cv (.int .i64 0)),(.cv (.int .i64 0))] [(0,1),(1,1)]) [.t 0,.t 6],jw 14 (.alloc [(.cv (.int .i64 0)),(.cv (.int .i64 0))]) [],jq (.store 2) [.v 14,.t 7]])
 (.seq (.dr [[],[0],[1],[2],[],[3,4],[5],[6],[6],[],[9,7,0,1,2,3,4,5,6,7,9],[8,10,0,1,2,3,4,5,6,7,8,9,10]] [jL 6,jc 0,jG 10 1,jl 2,jN 2 14,jq (.lookup (true,[(.int .i64),(.int .i64)]) (.agg [(.cv (.int .i64 0)),(.cv (.int .i64 0))]) true) [.t 3,.t 4],jt 5,jx 0 6,jx 1 6,jw 15 (.alloc [(.cv (.int .i64 0)),(.cv (.int .i64 0))]) [],jq (.store 2) [.v 15,.t 7],jm 16 8])
 (.seq (.dr [[],[],[1],[0,2],[3],[4],[4,5],[6,4],[7],[7],[9,7],[7],[11,7],[12,7],[13,7],[14,7],[15,7],[7],[17,7],[16,18,7],[19,7],[20,7],[10,21,7],[7],[23,7],[24,7],[22,25,7],[8,26,7],[7,27]] [jv 12,jF 0 7,jl 1,jq (.bin .eql .int) [.t 0,.t 2],jt 3,jh 4 true 16,jq .pick [.t 4,.t 5,jB false],jt 6,jg 7 true (.loadN 2) [.v 15],jg 7 true (.fadd 0) [.v 8],ji 7 true 9,jg 7 true .load1 [.v 6],jg 7 true .nilck [.t 11],jg 7 true (.fadd 0) [.t 12],jg 7 true (.fadd 0) [.t 13],jg 7 true (.fadd 3) [.t 14],ji 7 true 15,jg 7 true (.fadd 0) [.v 11],ji 7 true 17,jg 7 true (.iaS 7) [.t 16,.t 18],jg 7 true (.fadd 2) [.t 19],ji 7 true 20,jg 7 true (.bin .sub .int) [.t 10,.t 21],jg 7 true (.fadd 1) [.v 8],ji 7 true 23,jg 7 true (.bin .sub .int) [.t 24,jn 1],jg 7 true (.build [(.cv (.int .i64 0)),(.cv (.int .i64 0))] [(0,1),(1,1)]) [.t 22,.t 25],jg 7 true (.eqS false (true,[(.int .i64),(.int .i64)])) [.t 8,.t 26],jw 22 .pick [.t 7,.t 27,jB false]])
 (.cond 22 (.seq (.dr [[],[],[1],[0,2],[],[],[3,3,0,1,2,3],[4,6,0,1,2,3,4,6],[5,7,0,1,2,3,4,5,6,7]] [jL 10,jN 2 11,jq (.bslice 2 1 [(.cv (.int .i64 0)),(.cv (.bool false))] [(0,2)]) [.t 1],jq (.append 2 16) [.t 0,.t 2],jN 2 14,jN 2 15,jq (.store 1) [.v 10,.t 3],jq (.store 2) [.v 7,.t 4],jq (.store 2) [.v 8,.t 5]])
 (.exit 2))
 .skip))))))
theorem ca5:QL Tryz.prog vs5 121 (nav [1,1,1,1,1,1,1,1,0,0,0,1,0,1,0,2] (Tryz.f5.body.getD .skip))=some ia5:=by kernel_rfl
theorem cb5:QL Tryz.prog vs5 121 (nav [1,1,1,1,1,1,1,1,0,0,0,1,0,1,0,3] (Tryz.f5.body.getD .skip))=some ib5:=by kernel_rfl
def pb5_3:IC:=(.dr [[],[],[1],[0,2],[3],[4],[4,5],[6,4],[7],[7],[9,7],[7],[11,7],[12,7],[13,7],[14,7],[15,7],[7],[17,7],[16,18,7],[19,7],[20,7],[10,21,7],[7],[23,7],[24,7],[22,25,7],[8,26,7],[7,27]] [jv 12,jF 0 7,jl 1,jq (.bin .eql .int) [.t 0,.t 2],jt 3,jh 4 true 16,jq .pick [.t 4,.t 5,jB false],jt 6,jg 7 true (.loadN 2) [.v 15],jg 7 true (.fadd 0) [.v 8],ji 7 true 9,jg 7 true .load1 [.v 6],jg 7 true .nilck [.t 11],jg 7 true (.fadd 0) [.t 12],jg 7 true (.fadd 0) [.t 13],jg 7 true (.fadd 3) [.t 14],ji 7 true 15,jg 7 true (.fadd 0) [.v 11],ji 7 true 17,jg 7 true (.iaS 7) [.t 16,.t 18],jg 7 true (.fadd 2) [.t 19],ji 7 true 20,jg 7 true (.bin .sub .int) [.t 10,.t 21],jg 7 true (.fadd 1) [.v 8],ji 7 true 23,jg 7 true (.bin .sub .int) [.t 24,jn 1],jg 7 true (.build [(.cv (.int .i64 0)),(.cv (.int .i64 0))] [(0,1),(1,1)]) [.t 22,.t 25],jg 7 true (.eqS false (true,[(.int .i64),(.int .i64)])) [.t 8,.t 26],jw 22 .pick [.t 7,.t 27,jB false]])
def pb5_4:IC:=(.cond 22 (.seq (.dr [[],[],[1],[0,2],[],[],[3,3,0,1,2,3],[4,6,0,1,2,3,4,6],[5,7,0,1,2,3,4,5,6,7]] [jL 10,jN 2 11,jq (.bslice 2 1 [(.cv (.int .i64 0)),(.cv (.bool false))] [(0,2)]) [.t 1],jq (.append 2 16) [.t 0,.t 2],jN 2 14,jN 2 15,jq (.store 1) [.v 10,.t 3],jq (.store 2) [.v 7,.t 4],jq (.store 2) [.v 8,.t 5]])
 (.exit 2))
 .skip)
theorem ib5_cut:ib5=(.block 3 (.seq (.dr [[],[0],[1],[2],[],[3,4],[5],[6],[6],[7,5,0,1,2,3,4,5,6,7],[8,9,0,1,2,3,4,5,6,7,8,9]] [jL 6,jc 0,jG 0 1,jq (.loadN 4) [.t 2],jN 2 11,jk 26 [.t 3,.t 4],jt 5,jx 0 6,jx 1 6,jm 12 7,jm 13 8]) (.seq (.dr [[],[],[1],[],[],[3,4],[2,5],[0,6],[],[8,7,5,0,1,2,3,4,5,6,7,8]] [jv 13,jF 1 7,jl 1,jL 6,jN 2 11,jk 27 [.t 3,.t 4],jq (.bin .andNot .int) [.t 2,.t 5],jq (.build [(.cv (.int .i64 0)),(.cv (.int .i64 0))] [(0,1),(1,1)]) [.t 0,.t 6],jw 14 (.alloc [(.cv (.int .i64 0)),(.cv (.int .i64 0))]) [],jq (.store 2) [.v 14,.t 7]]) (.seq (.dr [[],[0],[1],[2],[],[3,4],[5],[6],[6],[],[9,7,0,1,2,3,4,5,6,7,9],[8,10,0,1,2,3,4,5,6,7,8,9,10]] [jL 6,jc 0,jG 10 1,jl 2,jN 2 14,jq (.lookup (true,[(.int .i64),(.int .i64)]) (.agg [(.cv (.int .i64 0)),(.cv (.int .i64 0))]) true) [.t 3,.t 4],jt 5,jx 0 6,jx 1 6,jw 15 (.alloc [(.cv (.int .i64 0)),(.cv (.int .i64 0))]) [],jq (.store 2) [.v 15,.t 7],jm 16 8]) (.seq pb5_3 pb5_4))))):=rfl
abbrev v5L (t:Twn) (k:Tsk) (p4:Nat) (v5:AV) (p6 p7 p8:Nat) (v9:AV) (p10:Nat) (v11 v12 v13 v14 v15 v16 v17 v18 v19 v20 v21 v22:AV):List AV :=
 [twnA t,tskA k,.ptr 0 0,.ptr 1 0,.ptr p4 0,v5,.ptr p6 0,.ptr p7 0,.ptr p8 0,v9,.ptr p10 0,v11,v12,v13,v14,v15,v16,v17,v18,v19,v20,v21,v22]
def fndB (t:Twn) (at_ left rest:Sd) (is:Bool) (x:Stp):Bool :=
 ((ends t x).1 == at_.1)&&(is&&decide (rest=(left.1-metF t x,left.2-1)))
set_option maxHeartbeats 4000000 in
theorem p5_c22 {t:Twn} {k:Tsk} (hB:BegOk t k) {fx:Fx} {jp p4 p6 p7 p8 p10 p11 p15:Nat} {iv mv:AV} {at_ left rest:Sd} {is:Bool} {x:Stp} (hx:x∈stpL t k.cl) (hl:0≤left.1∧left.1<2 ^ 50∧0≤left.2∧left.2<2 ^ 50) (hr:SdB rest)
  (hfx:fx.vars.length=23) {X:List AObj} (hj:rowOf X jp=some (jobX t k iv mv)) (h6:rowOf X p6=some [.ptr jp 0]) (h7:rowOf X p7=some [.i at_.1,.i at_.2]) (h8:rowOf X p8=some [.i left.1,.i left.2]) (h11:rowOf X p11=some [.i x.1,.b x.2]) (h15:rowOf X p15=some [.i rest.1,.i rest.2])
  {v5 v9 v13 v14 v17 v18 v19 v20 v21 v22:AV} {K:Exit→St→Prop}
  (hK:K .normal ⟨v5L t k p4 v5 p6 p7 p8 v9 p10 (.ptr p11 0) (.i (ends t x).1) v13 v14 (.ptr p15 0) (.b is) v17 v18 v19 v20 v21 (.b (fndB t at_ left rest is x)),X⟩) :
  IS Tryz.prog fx pb5_3 ⟨v5L t k p4 v5 p6 p7 p8 v9 p10 (.ptr p11 0) (.i (ends t x).1) v13 v14 (.ptr p15 0) (.b is) v17 v18 v19 v20 v21 v22,X⟩ K .mk .mk:=by
 have hxb:=stpL_bnd hx
 have hmt:=metF_bnd hB hxb
 obtain ⟨sx,hsx⟩:∃ s:Nat,x.1=(s:Int):=⟨x.1.toNat,by omega⟩
 have hsl:sx<t.st.length:=by omega
 have hme:metF t x=(t.st[sx]!).me:=by unfold metF;rw[hsx];rfl
 have hia2:∀ τ,VP 7 [.cv (sttR t.st),.cv (.int .i64 x.1)] τ=some (.cv (.rp (sttCs t.st) (sx*7)),τ):=fun τ=>by rw[hsx];exact ia_stt hsl τ
 have st2:=stt_2 hsl
 have hw1:IntKind.i64.wrap (left.1-(t.st[sx]!).me)=left.1-(t.st[sx]!).me:=ZC (by omega)
 have hw2:IntKind.i64.wrap (left.2-1)=left.2-1:=ZC (by omega)
 have heq:=sdA_eqB (a:=rest) (b:=(left.1-(t.st[sx]!).me,left.2-1)) hr ⟨by show _≤left.1-_∧left.1-_≤_;omega,by show _≤left.2-1∧left.2-1≤_;omega⟩
 unfold fndB at hK
 rw[hme] at hK
 refine DW_s [] [] hmix (by kernel_rfl) (by rw[hfx];rfl) ?_
 simp only[h7,evA,simprocAttr,QW,QM,WW,X9,VW,EZ,Qau,CH,get_nz,get_ns]
 cases c1:(ends t x).1 == at_.1
 ·rw[c1,Bool.false_and] at hK
  simp only[evA,simprocAttr,QW,QM,WW,X9,VW,EZ,Qau,CH,get_nz,get_ns]
  exact hK
 rw[c1,XI] at hK
 cases is
 ·rw[Bool.false_and] at hK
  simp only[evA,simprocAttr,QW,QM,WW,X9,VW,EZ,Qau,CH,get_nz,get_ns]
  exact hK
 rw[XI] at hK
 simp only[h15,h8,h6,hj,h11,hia2,st2,hw1,hw2,heq,evA,simprocAttr,QW,QM,WW,X9,VW,EZ,Qau,CH,get_nz,get_ns]
 exact hK
set_option maxHeartbeats 4000000 in
theorem p5_4 {t:Twn} {k:Tsk} {fx:Fx} {p4 p6 p7 p8 p10 p11 p14 p15:Nat} {nxt rest:Sd} {at_ left:Sd} {x:Stp} {lv:AV} {n:Nat} {cs:List CV} {E:List Nat} (hfx:fx.vars.length=23)
  {X:List AObj} (hE:∀ y∈E,y<X.length) (hEm:∀ y∈[p7,p8,p10,p11,p14,p15],y∈E) (hne:p7≠p8∧p7≠p10∧p8≠p10) (hne2:p10≠p14∧p10≠p15∧p7≠p15) (hn:n<2 ^ 38)
  (h7:rowOf X p7=some [.i at_.1,.i at_.2]) (h8:rowOf X p8=some [.i left.1,.i left.2]) (h10:rowOf X p10=some [lv]) (hacc:AccE E 2 X lv n cs) (h11:rowOf X p11=some [.i x.1,.b x.2]) (h14:rowOf X p14=some [.i nxt.1,.i nxt.2]) (h15:rowOf X p15=some [.i rest.1,.i rest.2])
  {v5 v9 v12 v13 v16 v17 v18 v19 v20 v21:AV} {b:Bool} {K:Exit→St→Prop}
  (hG:b=false→K .normal ⟨v5L t k p4 v5 p6 p7 p8 v9 p10 (.ptr p11 0) v12 v13 (.ptr p14 0) (.ptr p15 0) v16 v17 v18 v19 v20 v21 (.b b),X⟩)
  (hS:b=true→∀ lv' H',AccE E 2 H' lv' (n+1) (cs++stpC x)→(∀ y∈E,H'[y]? = X[y]?)→H'.length=X.length+2 →
   K (.exit 2) ⟨v5L t k p4 v5 p6 p7 p8 v9 p10 (.ptr p11 0) v12 v13 (.ptr p14 0) (.ptr p15 0) v16 v17 v18 v19 v20 v21 (.b b),((H'.set p10 (.cells [lv'])).set p7 (.cells [.i nxt.1,.i nxt.2])).set p8 (.cells [.i rest.1,.i rest.2])⟩) :
  IS Tryz.prog fx pb5_4 ⟨v5L t k p4 v5 p6 p7 p8 v9 p10 (.ptr p11 0) v12 v13 (.ptr p14 0) (.ptr p15 0) v16 v17 v18 v19 v20 v21 (.b b),X⟩ K .mk .mk:=by
 have hp2:(2:Nat) ^ 38=274877906944:=by decide
 cases b
 ·simp only[pb5_4,evA,simprocAttr,QW,QM,WW,X9,VW,EZ,Qau,CH,get_nz,get_ns]
  exact hG rfl
 obtain ⟨lv',H',a1,a2,a3,a4,a5⟩:=accE_append (by_:=16) (x:=stpC x) hE hacc rfl (by omega) (by omega)
 have e7:p7∈E:=hEm _ (by simp)
 have e8:p8∈E:=hEm _ (by simp)
 have e10:p10∈E:=hEm _ (by simp)
 have e11:p11∈E:=hEm _ (by simp)
 have e14:p14∈E:=hEm _ (by simp)
 have e15:p15∈E:=hEm _ (by simp)
 have g:=fun (y:Nat) (hy:y∈E) (J:List AObj)=>QE (l₂:=J) (hE y hy)
 have g10:=g p10 e10
 have g11:=g p11 e11
 have g14:=g p14 e14
 have g15:=g p15 e15
 have r':∀ {y c},y∈E→rowOf X y=some c→rowOf H' y=some c:=fun {y c} hy hr=>by
  unfold rowOf at hr ⊢
  rw[a3 y hy];exact hr
 have r7:=r' e7 h7
 have r8:=r' e8 h8
 have r10:=r' e10 h10
 have r14:=r' e14 h14
 have r15:=r' e15 h15
 have q14:=a3 p14 e14
 have q15:=a3 p15 e15
 have nuv:=hacc.nu
 have nuv':=a2.nu
 have a1':ZX 2 16 [lv,.sl X.length 0 1 2] (X++[AObj.cells [.i x.1,.b x.2]])=some (lv',H'):=a1
 have hall:[lv'].all AV.isSc=true:=by simp[nuv'.2.1]
 have hc1:[lv'].length=1:=rfl
 have s7:rowOf (H'.set p10 (.cells [lv'])) p7=some [.i at_.1,.i at_.2]:=by rw[QX (Ne.symm hne.2.1)];exact r7
 have s8:rowOf ((H'.set p10 (.cells [lv'])).set p7 (.cells [.i nxt.1,.i nxt.2])) p8=some [.i left.1,.i left.2]:=by rw[QX hne.1,QX (Ne.symm hne.2.2)];exact r8
 simp only[pb5_4,evA,simprocAttr,QW,QM,WW,X9,VW,EZ,Qau,CH,get_nz,get_ns]
 refine DW_s [] [(0,2),(4,2),(4,3),(4,6),(5,2),(5,3),(5,6),(5,7)] hmix (by kernel_rfl) (by rw[hfx];rfl) ?_
 simp only[h10,h11,nuv.1,a1',r14,r15,r10,nuv'.2.2,hall,hc1,s7,s8,g10,g11,g14,g15,q14,q15,evA,simprocAttr,QW,QM,WW,X9,VW,EZ,Qau,CH,get_nz,get_ns]
 exact ⟨⟨by rw[QU hne2.1];exact q14,by rw[QU hne2.2.1];exact q15,by rw[QU hne2.2.2]⟩,hS rfl lv' H' a2 a3 a4⟩
structure FiH (σ1:List AObj) (pm:Nat) (M:CM₀) (p7 p8 p10:Nat) (H:List AObj) (at_ left:Sd) (ls:List Stp):Prop where
 L:LowH σ1 pm M H
 r7:rowOf H p7=some [.i at_.1,.i at_.2]
 r8:rowOf H p8=some [.i left.1,.i left.2]
 lv:∃ lv,rowOf H p10=some [lv]∧AccE (List.range (p10+1)) 2 H lv ls.length (ls.flatMap stpC)
 known:getC M at_=some left
theorem FiH.low {σ1:List AObj} {pm:Nat} {M:CM₀} {p7 p8 p10:Nat} {H H2:List AObj} {at_ left:Sd} {ls:List Stp} (h:FiH σ1 pm M p7 p8 p10 H at_ left ls) (hl:H.length≤H2.length) (hk:∀ y,y<H.length→H2[y]? = H[y]?):FiH σ1 pm M p7 p8 p10 H2 at_ left ls:=by
 have row:∀ {y cs},rowOf H y=some cs→rowOf H2 y=some cs:=fun {y cs} hr=>by
  have hy:=(QH.1 (WO hr)).1
  unfold rowOf at hr ⊢
  rw[hk y hy];exact hr
 obtain ⟨lv,h1,h2⟩:=h.lv
 refine ⟨⟨by have:=h.L.le;omega,fun y hy hne=>by rw[hk y (by have:=h.L.le;omega)];exact h.L.low y hy hne,?_,h.L.pml⟩,row h.r7,row h.r8,⟨lv,row h1,h2.keep fun y hy _=>hk y hy⟩,h.known⟩
 have hm:=h.L.map
 unfold mapOf at hm ⊢
 rw[hk pm (by have:=h.L.le;have:=h.L.pml;omega)];exact hm
def nxtF (t:Twn) (k:Tsk) (at_:Sd) (x:Stp):Sd:=((ends t x).2,subI at_.2 (shwF t k.ti x))
def Fnd (t:Twn) (k:Tsk) (M:CM₀) (at_ left:Sd) (x:Stp):Prop:=(ends t x).1=at_.1∧getC M (nxtF t k at_ x)=some (left.1-metF t x,left.2-1)
structure FiI (jp:Nat) (X0₀:List AObj) (o:AObj) (p:Nat) (cs:List AV) (H:List AObj) (T:List AObj):Prop where
 heap:H=X0₀++(AObj.cells [.ptr jp 0]::o::T)
 row:rowOf H p=some cs
 ge:X0₀.length≤p
abbrev v5X (t:Twn) (k:Tsk) (p4:Nat) (v5:AV) (p6 p7 p8:Nat) (v9:AV) (p10:Nat) (v11 v12 v13 v14 v15 v16 v17 v18 v19:AV) (n:Nat) (v21 v22:AV):List AV :=
 v5L t k p4 v5 p6 p7 p8 v9 p10 v11 v12 v13 v14 v15 v16 v17 v18 v19 (.fn (.func 55) [.ptr n 0]) v21 v22
theorem fi_row {X0₀ T J:List AObj} {b o o2:AObj} {p:Nat} {cs:List AV} (h:rowOf (X0₀++(b::o::T)) p=some cs) (hge:X0₀.length≤p) (ho:∀ cs,o≠.cells cs:=by intro cs h;cases h):rowOf (X0₀++(b::o2::(T++J))) p=some cs:=by
 obtain ⟨j,rfl⟩:∃ j,p=X0₀.length+j:=⟨p-X0₀.length,by omega⟩
 rw[X9] at h ⊢
 match j with
 | 0=>exact h
 | 1 =>
  have:=WO h
  simp only[List.getElem?_cons_succ,List.getElem?_cons_zero,Option.some.injEq] at this
  exact absurd this (ho _)
 | j+2=>exact ZH (σ:=T) h J
set_option maxHeartbeats 4000000 in
theorem p5_round {t:Twn} {k:Tsk} (hB:BegOk t k) {σ1:List AObj} {jp pm p4 p6 p7 p8 p10:Nat} {iv:AV} {M:CM₀} (hM:CInv (netOf hB) M) (hj:rowOf σ1 jp=some (jobX t k iv (.map pm))) (hjm:jp≠pm) (h6:rowOf σ1 p6=some [.ptr jp 0]) (h6m:p6≠pm)
  {X0₀:List AObj} {at_ left:Sd} {ls:List Stp} (hF:FiH σ1 pm M p7 p8 p10 X0₀ at_ left ls) (hp:σ1.length≤p7∧p7<p8∧p8<p10) (hls:ls.length<2 ^ 38)
  {v5 v9 v11 v12 v13 v14 v15 v16 v17 v18 v19 v21 v22:AV} {R:XC} (hR:IA Tryz.prog vs5 121 [51] (v5X t k p4 v5 p6 p7 p8 v9 p10 v11 v12 v13 v14 v15 v16 v17 v18 v19 X0₀.length v21 v22) ia5 ib5 R)
  (p:Nat) (cs:List AV) (x:Stp) (H T) (hx:x∈stpL t k.cl) (hI:FiI jp X0₀ (.loop R) p cs H T) :
  YC Tryz.prog (X0₀.length+1) [stpA x] H fun r τ=>(r=.b true∧¬ Fnd t k M at_ left x∧∃ T,FiI jp X0₀ (.loop R) p cs τ T) ∨
   (r=.b false∧Fnd t k M at_ left x∧τ[X0₀.length+1]? = some (.loop (A8 R 2))∧FiH σ1 pm M p7 p8 p10 τ (nxtF t k at_ x) (left.1-metF t x,left.2-1) (ls++[x])):=by
 obtain ⟨hH,hrow,hge⟩:=hI
 subst hH
 have x51:vs5.idxOf? 51=some 21:=by decide
 have hxb:=stpL_bnd hx
 have hsh:=swF_bnd hB hxb
 have hst:=(twnE_ok hB.tw).2.2.2.1
 have hjr:=fun J=>ZH (hF.L.row hj hjm) J
 have h6r:=fun J=>ZH (hF.L.row h6 h6m) J
 have gj:=fun J:List AObj=>QE (l₂:=J) (QH.1 (WO (hF.L.row hj hjm))).1
 have g6:=fun J:List AObj=>QE (l₂:=J) (QH.1 (WO (hF.L.row h6 h6m))).1
 have gm:=fun J:List AObj=>QE (l₂:=J) (QH.1 (mapOf_get hF.L.map)).1
 refine YC_g hR (by simp only[QW,QM,WW,X9,VW,EZ,Qau,CH,get_nz,get_ns];rfl) rfl (by decide) ?_
 simp only[ia5,JM,x51,evA,simprocAttr,QW,QM,WW,X9,VW,EZ,Qau,CH,get_nz,get_ns]
 refine Qan hR (by simp only[QW,QM,WW,X9,VW,EZ,Qau,CH,get_nz,get_ns];rfl) ?_
 simp only[ib5_cut,evA,simprocAttr,QW,QM,WW,X9,VW,EZ,Qau,CH,get_nz,get_ns]
 refine DW_s [5] [] hmix (by kernel_rfl) rfl ?_
 simp only[h6r,hjr,evA,simprocAttr,QW,QM,WW,X9,VW,EZ,Qau,CH,get_nz,get_ns]
 refine YE ((t26 t x hxb.1 hxb.2 (by omega)).call frz ⟨rfl,rfl⟩) rfl ?_
 simp only[evA,simprocAttr,QW,QM,WW,X9,VW,EZ,Qau,CH,get_nz,get_ns]
 have h7r:=fun J=>ZH hF.r7 J
 have h8r:=fun J=>ZH hF.r8 J
 have g7:=fun J:List AObj=>QE (l₂:=J) (QH.1 (WO hF.r7)).1
 have hatK:KeyC at_:=by
  have h1:(getC M at_).isSome=true:=by rw[hF.known];rfl
  rw[getC_some,decide_eq_true_eq] at h1
  obtain ⟨e,he,rfl⟩:=ZP.1 h1
  exact hM.keys e he
 have hat2:=hatK.2
 have hen:=hB.ends hxb
 have hpl:=(twnE_ok hB.tw).1
 have hw:=sub_wrap (a:=at_.2) (b:=shwF t k.ti x) (by omega) (by omega)
 have hnK:KeyC (nxtF t k at_ x):=⟨by show 0≤(ends t x).2∧(ends t x).2<16;omega,MF _ _,by
  have:=QdS (a:=at_.2) (b:=shwF t k.ti x) (m:=6) (by omega) (by omega)
  show subI _ _<64
  omega⟩
 have hlk:∀ J,KL K2 (.agg [.cv (.int .i64 0),.cv (.int .i64 0)]) true [.map pm,.agg [.i (ends t x).2,.i (subI at_.2 (shwF t k.ti x))]] (X0₀++J)=some (.tup [sdA ((getC M (nxtF t k at_ x)).getD (0,0)),.b (getC M (nxtF t k at_ x)).isSome],X0₀++J):=fun J=>lookC2 hnK hM.keys (mapOf_low hF.L.map J)
 have hf27:=fun J=>f27 t k x hxb hsh.2.2 (iv:=iv) (mv:=.map pm) (σ:=X0₀++J) (jp:=jp) (hjr J)
 refine DW_s [5] [(2,8),(3,8),(4,8),(5,8)] hmix (by kernel_rfl) rfl ?_
 simp only[h6r,h7r,evA,simprocAttr,QW,QM,WW,X9,VW,EZ,Qau,CH,get_nz,get_ns]
 refine YE (v:=.i (shwF t k.ti x)) (hf27 _) rfl ?_
 simp only[hw,g6,g7,evA,simprocAttr,QW,QM,WW,X9,VW,EZ,Qau,CH,get_nz,get_ns]
 refine DW_s [] [(0,9),(3,9),(4,9),(5,9)] hmix (by kernel_rfl) rfl ?_
 simp only[h6r,hjr,hlk,g6,gj,gm,evA,simprocAttr,QW,QM,WW,X9,VW,EZ,Qau,CH,get_nz,get_ns]
 have hlb:=hM.bnd _ _ hF.known
 have hml:=hM.len
 have hrb:SdB ((getC M (nxtF t k at_ x)).getD (0,0)):=by
  cases hg:getC M (nxtF t k at_ x) with
  | none=>exact ⟨by simp,by simp⟩
  | some c =>
   have:=hM.bnd _ _ hg
   show (_≤c.1∧c.1≤_)∧_≤c.2∧c.2≤_
   omega
 have hfe:fndB t at_ left ((getC M (nxtF t k at_ x)).getD (0,0)) (getC M (nxtF t k at_ x)).isSome x=true↔Fnd t k M at_ left x:=by
  unfold fndB Fnd
  cases hg:getC M (nxtF t k at_ x) with
  | none=>simp
  | some c=>simp
 generalize hre:(getC M (nxtF t k at_ x)).getD (0,0)=rest at hfe hrb ⊢
 generalize (getC M (nxtF t k at_ x)).isSome=is at hfe ⊢
 obtain ⟨lv,hlr,hlacc⟩:=hF.lv
 have hlt10:p10<X0₀.length:=(QH.1 (WO hlr)).1
 generalize hT2:T++[AObj.cells [.i x.1,.b x.2],AObj.cells [.i (ends t x).2,.cv (.int .i64 (subI at_.2 (shwF t k.ti x)))],AObj.cells [.i rest.1,.i rest.2]]=T2₀
 have hT2l:T2₀.length=T.length+3:=by rw[← hT2];simp
 have q11:rowOf (X0₀++(AObj.cells [.ptr jp 0]::AObj.loop (KB R)::T2₀)) (X0₀.length+(T.length+1+1))=some [.i x.1,.b x.2]:=by
  rw[← hT2];simp only[evA,simprocAttr,QW,QM,WW,X9,VW,EZ,Qau,CH,get_nz,get_ns]
 have q14:rowOf (X0₀++(AObj.cells [.ptr jp 0]::AObj.loop (KB R)::T2₀)) (X0₀.length+(T.length+1+1+1))=some [.i (nxtF t k at_ x).1,.i (nxtF t k at_ x).2]:=by
  rw[← hT2];simp only[evA,simprocAttr,QW,QM,WW,X9,VW,EZ,Qau,CH,get_nz,get_ns];rfl
 have q15:rowOf (X0₀++(AObj.cells [.ptr jp 0]::AObj.loop (KB R)::T2₀)) (X0₀.length+(T.length+2+1+1))=some [.i rest.1,.i rest.2]:=by
  rw[← hT2];simp only[evA,simprocAttr,QW,QM,WW,X9,VW,EZ,Qau,CH,get_nz,get_ns]
 have hrow2:∀ o,rowOf (X0₀++(AObj.cells [.ptr jp 0]::o::T2₀)) p=some cs:=fun o=>by
  rw[← hT2];exact fi_row hrow hge
 have hp11:p≠X0₀.length+1:=by
  rintro rfl
  rw[X9] at hrow
  cases hrow
 have hpl:p<X0₀.length+(T2₀.length+2):=by
  have:=(QH.1 (WO (hrow2 (.loop R)))).1
  simpa using this
 refine p5_c22 hB hx ⟨by omega,by omega,by omega,by omega⟩ hrb rfl (hjr _) (h6r _) (h7r _) (h8r _) q11 q15 ?_
 simp only[evA,simprocAttr,QW,QM,WW,X9,VW,EZ,Qau,CH,get_nz,get_ns]
 have hacc:AccE (List.range (p10+1)++[X0₀.length,X0₀.length+1,p,X0₀.length+(T.length+1+1),X0₀.length+(T.length+1+1+1),X0₀.length+(T.length+2+1+1)]) 2 (X0₀++(AObj.cells [.ptr jp 0]::AObj.loop (KB R)::T2₀)) lv ls.length (ls.flatMap stpC):=by
  refine (hlacc.less fun y hy=>?_).keep fun y hy _=>QE hy
  rcases YV.1 hy with hy | hy
  ·exact .inl hy
  ·right
   simp only[ZD,WK,or_false] at hy
   rcases hy with rfl | rfl | rfl | rfl | rfl | rfl <;> omega
 refine p5_4 (at_:=at_) (left:=left) (x:=x) rfl (E:=List.range (p10+1)++[X0₀.length,X0₀.length+1,p,X0₀.length+(T.length+1+1),X0₀.length+(T.length+1+1+1),X0₀.length+(T.length+2+1+1)]) (fun y hy=>?_) (fun y hy=>?_) ⟨by omega,by omega,by omega⟩ ⟨by omega,by omega,by omega⟩ hls (h7r _) (h8r _) (ZH hlr _) hacc q11 q14 q15 ?_ ?_
 ·simp only[QM,List.length_cons]
  rcases YV.1 hy with hy | hy
  ·simp only[ZI] at hy;omega
  ·simp only[ZD,WK,or_false] at hy
   rcases hy with rfl | rfl | rfl | rfl | rfl | rfl <;> omega
 ·simp only[ZD,WK,or_false] at hy
  rcases hy with rfl | rfl | rfl | rfl | rfl | rfl
  ·exact YV.2 (.inl (ZI.2 (by omega)))
  ·exact YV.2 (.inl (ZI.2 (by omega)))
  ·exact YV.2 (.inl (ZI.2 (by omega)))
  ·exact YV.2 (.inr (by simp))
  ·exact YV.2 (.inr (by simp))
  ·exact YV.2 (.inr (by simp))
 ·intro hfb
  simp only[evA,simprocAttr,QW,QM,WW,X9,VW,EZ,Qau,CH,get_nz,get_ns]
  refine RU hR (by simp only[QW,QM,WW,X9,VW,EZ,Qau,CH,get_nz,get_ns];rfl) (.inl ⟨rfl,fun h=>?_,T2₀,by simp only[QW,QM,WW,X9,VW,EZ,Qau,CH,get_nz,get_ns,evA,simprocAttr],?_,hge⟩)
  ·rw[hfe.2 h] at hfb;cases hfb
  ·simp only[QW,QM,WW,X9,VW,EZ,Qau,CH,get_nz,get_ns,evA,simprocAttr]
   exact hrow2 _
 ·intro hfb lv' H' a2 a3 a4
  have hfnd:=hfe.1 hfb
  have hrest:rest=(left.1-metF t x,left.2-1):=by
   rw[← hre,hfnd.2];rfl
  have hEr:∀ y,y<p10+1→y∈List.range (p10+1)++[X0₀.length,X0₀.length+1,p,X0₀.length+(T.length+1+1),X0₀.length+(T.length+1+1+1),X0₀.length+(T.length+2+1+1)]:=fun y hy=>YV.2 (.inl (ZI.2 hy))
  simp only[QM,List.length_cons] at a4
  have hloop:H'[X0₀.length+1]? = some (.loop (KB R)):=by
   rw[a3 _ (YV.2 (.inr (by simp)))]
   simp only[QW,QM,WW,X9,VW,EZ,Qau,CH,get_nz,get_ns];rfl
  have hlow:∀ y,y<p10+1→H'[y]? = X0₀[y]? := fun y hy=>by
   rw[a3 y (hEr y hy),QE (by omega)]
  have hle1:=hF.L.le
  have hpml:=hF.L.pml
  simp only[evA,simprocAttr]
  refine Qdg (R:=R) ?_ (.inr ⟨rfl,hfnd,?_,?_⟩)
  ·show (((H'.set p10 _).set p7 _).set p8 _)[X0₀.length+1]? = _
   rw[QU (by omega),QU (by omega),QU (by omega)];exact hloop
  ·rw[Z2 (by simp only[WE];omega)]
  ·refine ⟨⟨by simp only[WE];omega,fun y hy hne=>?_,?_,hpml⟩,?_,?_,⟨lv',?_,?_⟩,hfnd.2⟩
   ·rw[QU (by omega),QU (by omega),QU (by omega),QU (by omega),hlow y (by omega)]
    exact hF.L.low y hy hne
   ·have hm:=hF.L.map
    unfold mapOf at hm ⊢
    rw[QU (by omega),QU (by omega),QU (by omega),QU (by omega),hlow pm (by omega)]
    exact hm
   ·unfold rowOf
    rw[QU (by omega),QU (by omega),Z2 (by simp only[WE];omega)]
   ·unfold rowOf
    rw[QU (by omega),Z2 (by simp only[WE];omega),hrest]
   ·unfold rowOf
    rw[QU (by omega),QU (by omega),QU (by omega),Z2 (by omega)]
   ·have h1:AccE (List.range (p10+1)++[X0₀.length,X0₀.length+1,p,X0₀.length+(T.length+1+1),X0₀.length+(T.length+1+1+1),X0₀.length+(T.length+2+1+1)]) 2 H' lv' (ls++[x]).length ((ls++[x]).flatMap stpC):=by
     simp only[QM,List.length_cons,List.length_nil,List.flatMap_append,YH,List.flatMap_nil,ZU]
     exact a2
    have h2:AccE (List.range (p10+1)++[X0₀.length,X0₀.length+1,p,X0₀.length+(T.length+1+1),X0₀.length+(T.length+1+1+1),X0₀.length+(T.length+2+1+1)]) 2 ((((H'.set p10 (.cells [lv'])).set p7 (.cells [.i (nxtF t k at_ x).1,.i (nxtF t k at_ x).2])).set p8 (.cells [.i rest.1,.i rest.2])).set (X0₀.length+1) (.loop (A8 R 2))) lv' (ls++[x]).length ((ls++[x]).flatMap stpC):=by
     refine h1.keep fun y hy hn=>?_
     have n1:y≠X0₀.length+1:=by rintro rfl;exact hn (YV.2 (.inr (by simp)))
     have n2:¬ y<p10+1:=fun h=>hn (hEr y h)
     rw[QU (by omega),QU (by omega),QU (by omega),QU (by omega)]
    exact h2.less fun y hy=>.inl (YV.2 (.inl hy))
theorem fi_get {jp:Nat} {X0₀:List AObj} {o:AObj} {p:Nat} {cs:List AV} {H T:List AObj} (h:FiI jp X0₀ o p cs H T):rowOf H X0₀.length=some [.ptr jp 0]:=by
 rw[h.heap,WW];rfl
theorem FiH.setLoop {σ1:List AObj} {pm:Nat} {M:CM₀} {p7 p8 p10:Nat} {H:List AObj} {at_ left:Sd} {ls:List Stp} (h:FiH σ1 pm M p7 p8 p10 H at_ left ls) {q:Nat} {r:XC} (hq:H[q]? = some (.loop r)) (o:AObj) (hge:σ1.length≤q):FiH σ1 pm M p7 p8 p10 (H.set q o) at_ left ls:=by
 have row:∀ {y cs},rowOf H y=some cs→(H.set q o)[y]? = H[y]? := fun {y cs} hr=>by
  refine QU fun e=>?_
  subst e
  rw[WO hr] at hq
  cases hq
 have row2:∀ {y cs},rowOf H y=some cs→rowOf (H.set q o) y=some cs:=fun {y cs} hr=>by
  have:=row hr
  unfold rowOf at hr ⊢
  rw[this];exact hr
 obtain ⟨lv,h1,h2⟩:=h.lv
 refine ⟨h.L.set hge o,row2 h.r7,row2 h.r8,⟨lv,row2 h1,?_⟩,h.known⟩
 exact h2.imp id fun ⟨l,g1,g2,g3,g4⟩=>⟨l,g1,g2,g3,row2 g4⟩
set_option maxHeartbeats 4000000 in
theorem p5_l0 {t:Twn} {k:Tsk} (hB:BegOk t k) (hk:k.cl.length<2 ^ 62) {σ1:List AObj} {jp pm p4 p6 p7 p8 p10:Nat} {iv:AV} {M:CM₀} (hM:Slv (netOf hB) M) (hj:rowOf σ1 jp=some (jobX t k iv (.map pm))) (hjm:jp≠pm) (h6:rowOf σ1 p6=some [.ptr jp 0]) (h6m:p6≠pm)
  (hp:σ1.length≤p7∧p7<p8∧p8<p10) {X:List AObj} {at_ left:Sd} (hF:FiH σ1 pm M p7 p8 p10 X at_ left []) {Q:Exit→St→Prop} {v5 v9 v11 v12 v13 v14 v15 v16 v17 v18 v19 v20 v21 v22:AV}
  (hQ:∀ X at_ ls v11 v12 v13 v14 v15 v16 v19 v20 v21 v22,FiH σ1 pm M p7 p8 p10 X at_ (0,0) ls→(∀ x∈ls,x∈stpL t k.cl)→ls.length<2 ^ 38→Q (.exit 0) ⟨v5L t k p4 v5 p6 p7 p8 v9 p10 v11 v12 v13 v14 v15 v16 v17 v18 v19 v20 v21 v22,X⟩) :
  IL Tryz.prog ⟨vs5,121,none,0⟩ (ic5l0 (Tryz.f5.body.getD .skip)) ⟨v5L t k p4 v5 p6 p7 p8 v9 p10 v11 v12 v13 v14 v15 v16 v17 v18 v19 v20 v21 v22,X⟩ Q:=by
 have hp2:(2:Nat) ^ 38=274877906944:=by decide
 have hst:=(twnE_ok hB.tw).2.2.2.1
 have hlb:=hM.inv.bnd _ _ hF.known
 have hml:=hM.inv.len
 obtain ⟨n,hn⟩:∃ n:Nat,left.1=(n:Int):=⟨left.1.toNat,by omega⟩
 have hnb:n≤20000000:=by omega
 refine ZW n (fun i s=>∃ X at_ left ls v11 v12 v13 v14 v15 v16 v19 v20 v21 v22,FiH σ1 pm M p7 p8 p10 X at_ left ls∧left.1+i≤n∧ls.length≤i∧(∀ x∈ls,x∈stpL t k.cl)∧s=⟨v5L t k p4 v5 p6 p7 p8 v9 p10 v11 v12 v13 v14 v15 v16 v17 v18 v19 v20 v21 v22,X⟩) ?_ 0 (QF _)
  ⟨_,_,_,[],_,_,_,_,_,_,_,_,_,_,hF,by omega,by simp,by simp,rfl⟩
 clear hF hlb
 rintro i s hi ⟨X0₀,at_,left,ls,v11,v12,v13,v14,v15,v16,v19,v20,v21,v22,hF,hm,hll,hls,rfl⟩
 have hlb:=hM.inv.bnd _ _ hF.known
 have h8:=hF.r8
 have heq:=sdA_eqB (a:=left) (b:=(0,0)) ⟨by omega,by omega⟩ ⟨by show _≤(0:Int)∧(0:Int)≤_;omega,by show _≤(0:Int)∧(0:Int)≤_;omega⟩
 simp only[ic5l0,h8,heq,evA,simprocAttr,QW,QM,WW,X9,VW,EZ,Qau,CH,get_nz,get_ns]
 by_cases h0:left=(0,0)
 ·subst h0
  simp only[decide_true,Y2,evA,simprocAttr,QW,QM,WW,X9,VW,EZ,Qau,CH,get_nz,get_ns]
  exact hQ X0₀ at_ ls v11 v12 v13 v14 v15 v16 _ v20 v21 v22 hF hls (by omega)
 have hne:at_≠(netOf hB).e:=by
  rintro rfl
  have h1:=hF.known
  rw[hM.inv.fin] at h1
  cases h1;exact h0 rfl
 have hpos:=hM.inv.pos _ _ hF.known hne
 have hex:∃ x∈stpL t k.cl,Fnd t k M at_ left x:=by
  obtain ⟨nn,w,c',⟨x,hx,e1,e2,e3,e4,e5⟩,hc,ha⟩:=hM.pred _ _ hF.known hne
  refine ⟨x,hx,e1,?_⟩
  have:nxtF t k at_ x=nn:=by rw[e2];rfl
  rw[this,hc,← ha,← e3]
  unfold addC
  simp only[Option.some.injEq]
  obtain ⟨c1,c2⟩:=c'
  simp only[Prod.mk.injEq]
  omega
 have hd0:(!decide (left=(0,0)))=true:=by simp[h0]
 have h6r:=hF.L.row h6 h6m
 simp only[hd0,h6r,evA,simprocAttr,QW,QM,WW,X9,VW,EZ,Qau,CH,get_nz,get_ns]
 refine (f25 X0₀ jp).run ?_
 simp only[evA,simprocAttr,QW,QM,WW,X9,VW,EZ,Qau,CH,get_nz,get_ns]
 refine RW_g ia5 ib5 (gf:=55) (cap:=[.ptr X0₀.length 0]) rfl (QC rfl) (fun l h=>by cases h) ca5 cb5 ?_
 intro R hR
 simp only[evA,simprocAttr,QW,QM,WW,X9,VW,EZ,Qau,CH,get_nz,get_ns]
 refine (f55 (t:=t) (by omega) (k:=k) hk (iv:=iv) (mv:=.map pm) (jp:=jp) (fun p cs d τ=>(∃ T,FiI jp X0₀ (.loop R) p cs τ T)∧∀ x∈d,¬ Fnd t k M at_ left x)
  (fun τ=>∃ x∈stpL t k.cl,Fnd t k M at_ left x∧τ[X0₀.length+1]? = some (.loop (A8 R 2))∧FiH σ1 pm M p7 p8 p10 τ (nxtF t k at_ x) (left.1-metF t x,left.2-1) (ls++[x])) ?_ ?_ ?_ ?_).mono ?_
 ·rintro p cs d τ ⟨⟨T,hI⟩,_⟩
  refine ⟨fi_get hI,?_,hI.row⟩
  rw[hI.heap];exact ZH (hF.L.row hj hjm) _
 ·rintro p cs d τ cs' ⟨⟨T,hI⟩,hd⟩
  refine ⟨⟨T++[AObj.cells cs'],by rw[hI.heap];simp,XH _ _,?_⟩,hd⟩
  rw[hI.heap];simp
 ·rintro p cs d x τ hpre ⟨⟨T,hI⟩,hd⟩
  have hx:=hpre.subset (a:=x) (by simp)
  refine (p5_round hB hM.inv hj hjm h6 h6m hF hp (by omega) hR p cs x τ T hx hI).mono ?_
  rintro r τ' (⟨rfl,h1,h2⟩ | ⟨rfl,h1,h2,h3⟩)
  ·refine .inl ⟨rfl,h2,fun y hy=>?_⟩
   rcases YV.1 hy with hy | hy
   ·exact hd y hy
   ·rw[WZ] at hy;subst hy;exact h1
  ·exact .inr ⟨rfl,x,hx,h1,h2,h3⟩
 ·exact ⟨X0₀.length,[.ptr jp 0],⟨[],rfl,by rw[WW];rfl,QG _⟩,by simp⟩
 ·rintro r τ (⟨p,cs,⟨T,hI⟩,hd⟩ | ⟨x,hx,hfn,hloop,hF2⟩)
  ·obtain ⟨x,hx,hfn⟩:=hex
   exact absurd hfn (hd x hx)
  ·refine after_x (R:=R) hloop (QbM ?_)
   have hF3:=hF2.setLoop hloop (.loop { A8 R 2 with state:=.exhausted,pending:=some (.exit 2) }) (by have:=hF.L.le;have:=hF.L.pml;omega)
   have hmt:=metF_bnd hB (stpL_bnd hx)
   have hm2:(left.1-metF t x)+((i+1:Nat):Int)≤n:=by omega
   have hc:i<n:=by omega
   simp only[evA,simprocAttr,QW,QM,WW,X9,VW,EZ,Qau,CH,get_nz,get_ns]
   refine ZL hc ⟨_,_,_,ls++[x],_,_,_,_,_,_,_,_,_,_,hF3,hm2,by simpa using hll,fun y hy=>?_,rfl⟩
   rcases YV.1 hy with hy | hy
   ·exact hls y hy
   ·rw[WZ] at hy;subst hy;exact hx
theorem JobAt.app {t:Twn} {k:Tsk} {τ:List AObj} {jp pi pm:Nat} {ivs:List AV} (h:JobAt t k τ jp pi pm ivs) (J:List AObj):JobAt t k (τ++J) jp pi pm ivs :=
 ⟨ZH h.job J,mapOf_low h.map J,ZH h.row J,h.acc.keep fun x hx _=>QE hx⟩
def FindR (v:AV):Prop:=∃ lv T e,v=.tup [torA lv T,.i e]∧(lv=.cv .nils∨∃ l:List Stp,lv=.cv (stpR l))
theorem torOk_stp {t:Twn} {k:Tsk} (hB:BegOk t k) {ls:List Stp} (h:∀ x∈ls,x∈stpL t k.cl):TorOk t k.ti ls:=fun i hi=>by
 have hx:=stpL_bnd (h ls[i]! (by rw[getElem!_pos ls i hi];exact Q2 hi))
 exact ⟨hx,(swF_bnd hB hx).2.2⟩
set_option maxHeartbeats 4000000 in
theorem f5 (t:Twn) (ht:TSz t) (k:Tsk) (hk:k.cl.length<2 ^ 62):AC Tryz.prog 5 [twnA t,tskA k] [] fun r τ=>∃ v,FrzV scl τ r v∧FindR v:=by
 refine ZF (fok5 true) (QC rfl) ?_
 simp only[ic5,WI,cellsOf,evA,simprocAttr,QW,QM,WW,X9,VW,EZ,Qau,CH,get_nz,get_ns]
 refine AC.mono (f23 t ht k hk _) ?_
 rintro r τ (⟨e,J,he,rfl,hτ⟩ | ⟨hB,jp,pi,pm,ivs,J,rfl,hJ,hτ⟩)
 ·have hb:(e != 0)=true:=bne_t he
  subst hτ
  simp only[hb,evA,simprocAttr,QW,QM,WW,X9,VW,EZ,Qau,CH,get_nz,get_ns]
  exact ⟨_,.tup (.cons (.agg (.cons (.c (.c _ trivial)) (.cons (.c (.c _ trivial)) (.cons (.c (.c _ trivial)) (.cons (.c (.c _ trivial)) (.cons (.c (.c _ trivial)) .nil)))))) (.cons (.c (.c _ trivial)) .nil)),.cv .nils,(0,0,0,0),e,rfl,.inl rfl⟩
 have hr1:rowOf τ 1=some (tskX k):=by rw[hτ];rfl
 have hr2:rowOf τ 2=some [.cv .nils,.i 0,.i 0,.i 0,.i 0]:=by rw[hτ];rfl
 have hτl:3≤τ.length:=by rw[hτ];simp
 have hJ1:=hJ.app [.cells [.ptr jp 0]]
 simp only[evA,simprocAttr,QW,QM,WW,X9,VW,EZ,Qau,CH,get_nz,get_ns]
 refine AC.mono (f24 hB hJ1) ?_
 rintro r H ⟨rfl,M,hS,hL⟩
 obtain ⟨σ1,hσ1⟩:∃ σ1,σ1=τ++[AObj.cells [.ptr jp 0]]:=⟨_,rfl⟩
 have h6:rowOf σ1 τ.length=some [.ptr jp 0]:=by rw[hσ1,WW];rfl
 have hr1:rowOf σ1 1=some (tskX k):=by rw[hσ1];exact ZH hr1 _
 have hr2:rowOf σ1 2=some [.cv .nils,.i 0,.i 0,.i 0,.i 0]:=by rw[hσ1];exact ZH hr2 _
 have hσl:σ1.length=τ.length+1:=by rw[hσ1];simp
 rw[← hσ1] at hJ1 hL
 have hcell:∀ {q cs},rowOf σ1 q=some cs→q≠pm:=fun {q cs} hr=>by
  rintro rfl
  have h1:=mapOf_get hJ1.map
  rw[WO hr] at h1
  cases h1
 have hpm:=hL.pml
 clear hτ hσ1
 generalize τ.length=p6 at *
 have hj:=hJ1.job
 have H1₀:=hL.row hr1 (hcell hr1)
 have H6₀:=fun J=>ZH (hL.row h6 (hcell h6)) J
 have HJ₀:=fun J=>ZH (hL.row hj (hcell hj)) J
 have H2:=fun J=>ZH (hL.row hr2 (hcell hr2)) J
 have g6:=fun J:List AObj=>QE (l₂:=J) (QH.1 (WO (hL.row h6 (hcell h6)))).1
 have gj:=fun J:List AObj=>QE (l₂:=J) (QH.1 (WO (hL.row hj (hcell hj)))).1
 have gm:=fun J:List AObj=>QE (l₂:=J) (QH.1 (mapOf_get hL.map)).1
 have hpl:=hB.pls
 have hpl16:=(twnE_ok hB.tw).1
 have hs64:=hB.sh64
 have hatK:KeyC (k.fr,k.sh):=⟨by show 0≤k.fr∧k.fr<16;omega,hs64⟩
 have hlk:=fun J=>lookC2 hatK hS.inv.keys (mapOf_low hL.map J)
 simp only[H1₀,evA,simprocAttr,QW,QM,WW,X9,VW,EZ,Qau,CH,get_nz,get_ns]
 refine DW_s [] [(0,9),(3,9),(4,9),(5,9)] hmix (by kernel_rfl) rfl ?_
 simp only[H6₀,HJ₀,hlk,g6,gj,gm,evA,simprocAttr,QW,QM,WW,X9,VW,EZ,Qau,CH,get_nz,get_ns]
 cases hg:getC M (k.fr,k.sh) with
 | none =>
  have S2₀:∀ J c,rowOf ((H++J).set 2 (AObj.cells c)) 2=some c:=fun J c=>W0 (H2 J)
  simp only[Option.getD_none,Option.isSome_none,H2,S2₀,evA,simprocAttr,QW,QM,WW,X9,VW,EZ,Qau,CH,get_nz,get_ns]
  exact ⟨_,.tup (.cons (.agg (.cons (.c (.c _ trivial)) (.cons (.c (.c _ trivial)) (.cons (.c (.c _ trivial)) (.cons (.c (.c _ trivial)) (.cons (.c (.c _ trivial)) .nil)))))) (.cons (.c (.c _ trivial)) .nil)),.cv .nils,(0,0,0,0),9,rfl,.inl rfl⟩
 | some left =>
  simp only[Option.getD_some,Option.isSome_some,evA,simprocAttr,QW,QM,WW,X9,VW,EZ,Qau,CH,get_nz,get_ns]
  have hle:=hL.le
  have hF:FiH σ1 pm M H.length (H.length+1) (H.length+2) (H++[AObj.cells [.i k.fr,.i k.sh],AObj.cells [.i left.1,.i left.2],AObj.cells [.cv .nils]]) (k.fr,k.sh) left [] :=
   ⟨hL.app _,by rw[WW];rfl,by rw[X9];rfl,⟨.cv .nils,by rw[X9];rfl,AccE.nil _ _ _⟩,hg⟩
  refine p5_l0 hB hk hS hj (hcell hj) h6 (hcell h6) ⟨hle,by omega,by omega⟩ hF ?_
  intro X at_ ls v11 v12 v13 v14 v15 v16 v19 v20 v21 v22 hFX hls hll
  have X1:=hFX.L.row hr1 (hcell hr1)
  have X2:=hFX.L.row hr2 (hcell hr2)
  have X6₀:=hFX.L.row h6 (hcell h6)
  have XJ₀:=hFX.L.row hj (hcell hj)
  obtain ⟨lv,X10,hacc⟩:=hFX.lv
  have hnu:=hacc.nu
  have S2₀:∀ c,rowOf (X.set 2 (AObj.cells c)) 2=some c:=fun c=>W0 X2
  simp only[evA,simprocAttr,QW,QM,WW,X9,VW,EZ,Qau,CH,get_nz,get_ns]
  refine DW_s [] [] hmix (by kernel_rfl) rfl ?_
  simp only[X1,X6₀,XJ₀,X10,hnu.1,evA,simprocAttr,QW,QM,WW,X9,VW,EZ,Qau,CH,get_nz,get_ns]
  rcases hacc with ⟨rfl,_,_⟩ | ⟨q,hq,rfl,hql,hqr⟩
  ·refine MS ((t28n t k.ti).call frz ⟨rfl,rfl⟩) (GH rfl rfl fun l o h h2=>absurd h h2) ?_
   simp only[X2,S2₀,evA,simprocAttr,QW,QM,WW,X9,VW,EZ,Qau,CH,get_nz,get_ns]
   exact ⟨_,.tup (.cons (.agg (.cons (.c (.c _ trivial)) (.cons (.c (.c _ trivial)) (.cons (.c (.c _ trivial)) (.cons (.c (.c _ trivial)) (.cons (.c (.c _ trivial)) .nil)))))) (.cons (.c (.c _ trivial)) .nil)),.cv .nils,(0,0,0,0),0,rfl,.inl rfl⟩
  ·refine MS (t28t t ht k.ti ls hll (torOk_stp hB hls) hqr) (callOk_push (by simp[QR,QO]) fun o ho=>?_) ?_
   ·rw[WZ] at ho;subst ho;exact ⟨I5 _,trivial⟩
   have X2':=ZH X2 [AObj.cells ((ls.flatMap stpC).map .cv)]
   have S2':∀ c,rowOf ((X++[AObj.cells ((ls.flatMap stpC).map .cv)]).set 2 (AObj.cells c)) 2=some c:=fun c=>W0 X2'
   have hX2l:=(QH.1 (WO X2)).1
   simp only[X2',S2',evA,simprocAttr,QW,QM,WW,X9,VW,EZ,Qau,CH,get_nz,get_ns]
   refine ⟨_,.tup (.cons (.agg (.cons (sl_frz (rest:=[]) ?_ hql (stp_scl ls)) (.cons (.c (.c _ trivial)) (.cons (.c (.c _ trivial)) (.cons (.c (.c _ trivial)) (.cons (.c (.c _ trivial)) .nil)))))) (.cons (.c (.c _ trivial)) .nil)),.cv (stpR ls),torF t k.ti ls,0,rfl,.inr ⟨ls,rfl⟩⟩
   rw[QX (by omega),ZU,XH]
def lokE (c:Crs) (ps:List Int):Int:=if (crsV c).2.2≠0 then (crsV c).2.2 else if outF 0 ((c.ro.length:Int)-1) ps then 4 else 0
def lokV (c:Crs) (ps:List Int):AV:=.tup [if (crsV c).2.2=0 then .cv (opnP c) else .cv .nilp,.i (lokE c ps)]
theorem k33 (c:Crs) (hc:CSz c) (ps:List Int) (hp:ps.length<2 ^ 63) (V:AV) (hVu:V.isUndef=false) {σ:List AObj} (hV:∀ J,FrzV anyC (σ++J) V (ints ps)) :
  AC Tryz.prog 33 [crsA c,V] σ fun r τ=>r=lokV c ps∧τ=σ:=by
 have hcl:QR 0 (lokV c ps)=true:=by unfold lokV;split <;> rfl
 refine AC.cutF ?_ hcl
 refine ZF (fok33 true) (QC rfl) ?_
 have hro:=hc.ro
 have hw1:IntKind.i64.wrap ((c.ro.length:Int)-1)=(c.ro.length:Int)-1:=ZC (by omega)
 simp only[ic33,hVu,evA,simprocAttr,QW,QM,WW,X9,VW,EZ,Qau,CH,get_nz,get_ns]
 refine (k62 c hc).call ?_
 by_cases h:(crsV c).2.2=0
 rotate_left
 ·have hb:((crsV c).2.2 == 0)=false:=beq_f h
  have h1:opnV c=.tup [.cv .nilp,.i (crsV c).1,.i (crsV c).2.1,.i (crsV c).2.2]:=by unfold opnV;rw[if_neg h]
  have h2:lokV c ps=.tup [.cv .nilp,.i (crsV c).2.2]:=by unfold lokV lokE;rw[if_neg h,if_pos h]
  rw[h1,h2]
  simp only[hb,evA,simprocAttr,QW,QM,WW,X9,VW,EZ,Qau,CH,get_nz,get_ns]
  exact ⟨_,rfl⟩
 have h1:opnV c=.tup [.cv (opnP c),.i (crsV c).1,.i (crsV c).2.1,.i 0]:=by unfold opnV;rw[if_pos h,h]
 have h2:lokV c ps=.tup [.cv (opnP c),.i (if outF 0 ((c.ro.length:Int)-1) ps then 4 else 0)]:=by unfold lokV lokE;rw[if_pos h,if_neg (by simpa using h)]
 rw[h1,h2]
 simp only[hw1,hVu,evA,simprocAttr,QW,QM,WW,X9,VW,EZ,Qau,CH,get_nz,get_ns]
 refine (o56_34 0 ((c.ro.length:Int)-1) ps hp).call (.cons (.c (.c _ trivial)) (.cons (.c (.c _ trivial)) (.cons (hV _) .nil))) ?_
 cases h2:outF 0 ((c.ro.length:Int)-1) ps
 ·simp only[evA,simprocAttr,QW,QM,WW,X9,VW,EZ,Qau,CH,get_nz,get_ns]
  exact ⟨_,rfl⟩
 ·simp only[evA,simprocAttr,QW,QM,WW,X9,VW,EZ,Qau,CH,get_nz,get_ns]
  exact ⟨_,rfl⟩
structure Wsh where
 ma:Int
 di:Int
 sh:Int
 ti:Int
abbrev wshA (w:Wsh):AV:=.agg [.i w.ma,.i w.di,.i w.sh,.i w.ti]
def wshE (c:Crs) (w:Wsh):Int :=
 if !inB w.ma 1 10||(!inB w.di 0 40 || !inB w.sh 0 (2 ^ c.tw.sh.length-1)) then 7 else if inB w.ti 0 ((c.tw.tm.length:Int)-1)=false then 4 else 0
abbrev nI (l:List Nat):List Int:=l.map fun i:Nat=>(i:Int)
theorem nI_get {l:List Nat} {k:Nat} (h:k<l.length):((nI l).map AV.i)[k]? = some (.i (l[k]! : Nat)):=by simp[h]
abbrev mo (c:Crs) (y x:Nat):Int:=moF c.ha c.ro[y]! c.ro[x]!
structure PreOk (c:Crs) (can xs:List Nat) (b:Int):Prop where
 can:∀ y∈xs,y∈can
 nn:0≤b
 pair:xs.Pairwise fun x y=>mo c y x≤b
theorem PreOk.snoc {c:Crs} {can xs:List Nat} {b b':Int} {a:Nat} (h:PreOk c can xs b) (ha:a∈can) (hb:b≤b') (hx:∀ x∈xs,mo c a x≤b'):PreOk c can (xs++[a]) b':=by
 refine ⟨fun y hy=>?_,by have:=h.nn;omega,?_⟩
 ·rcases YV.1 hy with hy | hy
  ·exact h.can y hy
  ·rw[WZ] at hy;subst hy;exact ha
 ·rw[List.pairwise_append]
  refine ⟨h.pair.imp fun h=>by omega,by simp,fun x hx' y hy=>?_⟩
  rw[WZ] at hy;subst hy;exact hx x hx'
def SlcL (σ:List AObj) (l:AV) (xs:List Nat):Prop:=(l=.cv .nils∧xs=[])∨∃ L cap rest,l=.slc L 0 xs.length cap 1∧rowOf σ L=some ((nI xs).map AV.i++rest)∧xs.length≤cap∧cap≤xs.length+rest.length
def locsC:AV→List Nat | .slc l _ _ _ _=>[l] | _=>[]
theorem SlcL.keep {σ τ:List AObj} {l:AV} {xs:List Nat} (h:SlcL σ l xs) (hk:∀ L∈locsC l,τ[L]? = σ[L]?):SlcL τ l xs:=by
 rcases h with ⟨rfl,h⟩ | ⟨L,cap,rest,rfl,hr,h1,h2⟩
 ·exact .inl ⟨rfl,h⟩
 ·exact .inr ⟨L,cap,rest,rfl,by unfold rowOf;rw[hk L (by simp[locsC])];exact hr,h1,h2⟩
theorem SlcL.len {σ:List AObj} {l:AV} {xs:List Nat} (h:SlcL σ l xs) (τ:List AObj):RZ false [l] τ=some (.i xs.length,τ):=by
 rcases h with ⟨rfl,rfl⟩ | ⟨L,cap,rest,rfl,hr,h1,h2⟩ <;> rfl
theorem SlcL.nu {σ:List AObj} {l:AV} {xs:List Nat} (h:SlcL σ l xs):l.isUndef=false:=by
 rcases h with ⟨rfl,rfl⟩ | ⟨L,cap,rest,rfl,hr,h1,h2⟩ <;> rfl
theorem SlcL.get {σ:List AObj} {l:AV} {xs:List Nat} (h:SlcL σ l xs) {j:Nat} (hj:j<xs.length):∃ L,(∀ τ,VP 1 [l,.cv (.int .i64 j)] τ=some (.ptr L j,τ))∧KZ [.ptr L j] σ=some (.i (xs[j]! : Nat),σ):=by
 rcases h with ⟨rfl,rfl⟩ | ⟨L,cap,rest,rfl,hr,h1,h2⟩
 ·simp at hj
 ·refine ⟨L,fun τ=>by have:=slc_addr (l:=L) (off:=0) (c:=cap) hj τ;rwa [ZV] at this,?_⟩
  simp only[KZ,hr,Option.bind_some]
  rw[QE (by simp[hj]),nI_get hj];rfl
theorem SlcL.lt {σ:List AObj} {l:AV} {xs:List Nat} (h:SlcL σ l xs):∀ L∈locsC l,L<σ.length:=by
 rcases h with ⟨rfl,rfl⟩ | ⟨L,cap,rest,rfl,hr,h1,h2⟩
 ·intro L hL;simp[locsC] at hL
 ·intro L' hL;simp[locsC] at hL;subst hL;exact (QH.1 (WO hr)).1
theorem p37 {σ:List AObj} {l:AV} {xs:List Nat} (h:SlcL σ l xs) (h0:0<xs.length) (hl:xs.length<2 ^ 38) :
  AC Tryz.prog 37 [l] σ fun r τ=>r=.sl (σ.length+1) 0 xs.length 1∧τ=σ++[.dead,.cells ((nI xs).map AV.i)]:=by
 rcases h with ⟨rfl,rfl⟩ | ⟨L,cap,rest,rfl,hr,h1,h2⟩
 ·simp at h0
 refine ZF (fok37 true) (QC rfl) ?_
 have happ:ZX 1 8 [.sl σ.length 0 0 1,.slc L 0 xs.length cap 1] (σ++[AObj.cells []])=some (.sl (σ.length+1) 0 xs.length 1,σ++[.dead,.cells ((nI xs).map AV.i)]):=by
  have hp:(2:Nat) ^ 38=274877906944:=by decide
  have hp2:(2:Nat) ^ 44=17592186044416:=by decide
  have hr0:rowOf (σ++[AObj.cells []]) σ.length=some []:=by rw[WW];rfl
  have hr1:=ZH hr [AObj.cells []]
  have hlen:((nI xs).map AV.i).length=xs.length:=by simp
  have hlen2:0+xs.length*1≤((nI xs).map AV.i++rest).length:=by rw[QM,hlen];omega
  have htk:(List.drop 0 ((nI xs).map AV.i++rest)).take (xs.length*1)=(nI xs).map AV.i:=by rw[YO,List.take_left' (by rw[hlen];omega)]
  simp only[ZX,hr0,Z9,hr1,hlen2,htk,if_true,lenF,Option.bind_some]
  have hc:True∧0*1≤([]:List AV).length∧xs.length*1=((nI xs).map AV.i).length∧(0+xs.length)*8≤2 ^ 44∧0+xs.length≤2 ^ 44∧((nI xs).map AV.i).all AV.isSc=true :=
   ⟨trivial,by simp,by rw[hlen];omega,by omega,by omega,Qa3 _⟩
  rw[if_pos hc]
  simp
 simp only[ic37,happ,evA,simprocAttr,QW,QM,WW,X9,VW,EZ,Qau,CH,get_nz,get_ns]
structure ChH (c:Crs) (w:Wsh) (can:List Nat) (pw pb pcan q pc pch:Nat) (σ:List AObj):Prop where
 rw:rowOf σ pw=some [.i w.ma,.i w.di,.i w.sh,.i w.ti]
 rc:rowOf σ pc=some [.cv (opnP c)]
 rch:rowOf σ pch=some [.fn (.func 36) [.ptr pw 0,.ptr pb 0,.ptr pcan 0,.ptr pc 0,.ptr pch 0]]
 rcan:∃ cv,rowOf σ pcan=some [cv]∧((can=[]∧cv=.cv .nils)∨(cv=.sl q 0 can.length 1∧rowOf σ q=some ((nI can).map AV.i)))
theorem ChH.keep {c:Crs} {w:Wsh} {can:List Nat} {pw pb pcan q pc pch:Nat} {σ τ:List AObj} (h:ChH c w can pw pb pcan q pc pch σ) (hk:∀ k∈[pw,pcan,q,pc,pch],τ[k]? = σ[k]?):ChH c w can pw pb pcan q pc pch τ:=by
 have row:∀ k∈[pw,pcan,q,pc,pch],rowOf τ k=rowOf σ k:=fun k hk'=>by unfold rowOf;rw[hk k hk']
 refine ⟨by rw[row pw (by simp)];exact h.rw,by rw[row pc (by simp)];exact h.rc,by rw[row pch (by simp)];exact h.rch,?_⟩
 rw[row pcan (by simp),row q (by simp)];exact h.rcan
def nowS (c:Crs) (w:Wsh) (a:Nat) (now:Int) (b:Nat):Option Int:=if ((difF c.ro[a]! c.ro[b]! 40).length:Int)<w.di then none else some (max now (mo c a b))
def nowF (c:Crs) (w:Wsh) (a:Nat) (xs:List Nat) (bound:Int):Option Int:=xs.foldlM (nowS c w a) bound
theorem nowF_succ {c:Crs} {w:Wsh} {a:Nat} {xs:List Nat} {bound now:Int} {j:Nat} (h:j<xs.length) (hn:nowF c w a (xs.take j) bound=some now):nowF c w a (xs.take (j+1)) bound=nowS c w a now xs[j]! := by
 unfold nowF at hn ⊢
 rw[JC,List.foldlM_append,hn,QI h,getElem!_pos xs j h]
 simp
theorem nowF_none {c:Crs} {w:Wsh} {a:Nat} {xs:List Nat} {bound:Int} (j:Nat) (hn:nowF c w a (xs.take j) bound=none):nowF c w a xs bound=none:=by
 unfold nowF at hn ⊢
 conv=>lhs;rw[← List.take_append_drop j xs]
 rw[List.foldlM_append,hn];rfl
abbrev Bst:=Option (List Nat × Int)
def btrB (B:Bst) (now:Int):Bool:=match B with | none=>true | some b=>decide (now<b.2)
def chS (c:Crs) (w:Wsh) (can:List Nat) (rec_:List Nat→Int→Nat→Bst→Bst) (xs:List Nat) (bound:Int) (from_:Nat) (B:Bst) (i:Nat):Bst :=
 match nowF c w can[from_+i]! xs bound with
 | none=>B
 | some now=>if btrB B now then rec_ (xs++[can[from_+i]!]) now (from_+i+1) B else B
def chB (c:Crs) (w:Wsh) (can:List Nat) (rec_:List Nat→Int→Nat→Bst→Bst) (xs:List Nat) (bound:Int) (from_:Nat) (B:Bst):Bst :=
 if (xs.length:Int)=w.ma then some (xs,bound) else (List.range (can.length-from_)).foldl (chS c w can rec_ xs bound from_) B
def chF (c:Crs) (w:Wsh) (can:List Nat):Nat→List Nat→Int→Nat→Bst→Bst
 | 0=>fun xs bound _ B=>if (xs.length:Int)=w.ma then some (xs,bound) else B
 | n+1=>chB c w can (chF c w can n)
theorem chF_eq {c:Crs} {w:Wsh} {can:List Nat} {n from_:Nat} (h:can.length-from_≤n) (xs:List Nat) (bound:Int) (B:Bst):chF c w can n xs bound from_ B=chB c w can (chF c w can (n-1)) xs bound from_ B:=by
 cases n with
 | zero =>
  have e:can.length-from_=0:=by omega
  unfold chB
  rw[e];rfl
 | succ n=>rfl
def BestOk (c:Crs) (w:Wsh) (can:List Nat) (pb:Nat) (B:Bst) (E:List Nat) (σ:List AObj):Prop :=
 ∃ bv bb,rowOf σ pb=some [bv,.i bb]∧((bv=.cv .nils∧B=none)∨∃ R ys,R∉E∧R<σ.length∧bv=.sl R 0 ys.length 1∧rowOf σ R=some ((nI ys).map AV.i)∧(ys.length:Int)=w.ma∧PreOk c can ys bb∧B=some (ys,bb))
theorem BestOk.keep {c:Crs} {w:Wsh} {can:List Nat} {pb:Nat} {B:Bst} {E E':List Nat} {σ τ:List AObj} (h:BestOk c w can pb B E σ) (hb:τ[pb]? = σ[pb]?) (hl:σ.length≤τ.length) (hk:∀ k,k<σ.length→k∉E→τ[k]? = σ[k]?) (hE:∀ k∈E',k∈E∨σ.length≤k):BestOk c w can pb B E' τ:=by
 obtain ⟨bv,bb,h1,h2⟩:=h
 refine ⟨bv,bb,by unfold rowOf;rw[hb];exact h1,?_⟩
 rcases h2 with ⟨rfl,hB⟩ | ⟨R,ys,hR,hlt,rfl,hr,hm,hp⟩
 ·exact .inl ⟨rfl,hB⟩
 ·refine .inr ⟨R,ys,fun hm=>?_,by omega,rfl,by unfold rowOf;rw[hk R hlt hR];exact hr,hm,hp⟩
  rcases hE R hm with h | h
  ·exact hR h
  ·omega
set_option maxRecDepth 4000 in
theorem in36 (c:Crs) (w:Wsh) (can:List Nat) {pw pb pcan q pc pch:Nat} {H:List AObj} (hc:CSz c) (hk:CrsOk c) (hH:ChH c w can pw pb pcan q pc pch H) (hcan:∀ y∈can,y<c.ro.length) {l:AV} {xs:List Nat} (hl:SlcL H l xs) (hx10:xs.length≤10) (hxs:∀ x∈xs,x∈can) {bound:Int} {a:Nat} (ha:a∈can)
  {n0:Nat} {Q:Exit→St→Prop} {d1:D1 ic36l0} {d2:D1 Q} {v1 v2 v5 v7 v8 v11 v12 v13 v14 v15 v16 v20 v21 v22:AV}
  (hend:∀ now v11 v20 v21,nowF c w a xs bound=some now→bound≤now→(∀ x∈xs,mo c a x≤now)→Q (.exit 2) ⟨[l,v1,v2,.ptr pw 0,.ptr pb 0,v5,.ptr pc 0,v7,v8,.i a,.i now,v11,v12,v13,v14,v15,v16,l,.i xs.length,.i xs.length,v20,v21,v22],H⟩)
  (hgo:∀ now v11 v19 v20 v21,nowF c w a xs bound=none→Q (.exit 1) ⟨[l,v1,v2,.ptr pw 0,.ptr pb 0,v5,.ptr pc 0,v7,v8,.i a,.i now,v11,v12,v13,v14,v15,v16,l,.i xs.length,v19,v20,v21,v22],H⟩) :
  ILk Tryz.prog { vars:=vs36,N:=77,r:=none,n0:=n0 } ic36l0 ⟨[l,v1,v2,.ptr pw 0,.ptr pb 0,v5,.ptr pc 0,v7,v8,.i a,.i bound,v11,v12,v13,v14,v15,v16,l,.i xs.length,.i 0,v20,v21,v22],H⟩ Q d1 d2:=by
 refine ZW xs.length (fun j s=>∃ now v11 v20 v21,nowF c w a (xs.take j) bound=some now∧bound≤now∧(∀ k,k<j→mo c a xs[k]!≤now)∧s=⟨[l,v1,v2,.ptr pw 0,.ptr pb 0,v5,.ptr pc 0,v7,v8,.i a,.i now,v11,v12,v13,v14,v15,v16,l,.i xs.length,.i j,v20,v21,v22],H⟩) ?_ 0 (QF _) ⟨bound,_,_,_,rfl,by omega,by omega,rfl⟩
 rintro j s hj ⟨now,v11,v20,v21,hnw,hb,hall,rfl⟩
 by_cases h:j<xs.length
 rotate_left
 ·have:j=xs.length:=by omega
  subst this
  simp only[ic36l0,QJ,h,evA,simprocAttr]
  rw[X7] at hnw
  refine hend now v11 _ _ hnw hb fun x hx=>?_
  obtain ⟨k,hk,rfl⟩:=WN.1 hx
  have:=hall k hk
  rwa [getElem!_pos xs k hk] at this
 obtain ⟨L,hia,hld⟩:=hl.get h
 have hxj:xs[j]!∈xs:=by rw[getElem!_pos xs j h];exact Q2 h
 have d38:=k38 c hc hk a xs[j]! (hcan a ha) (hcan _ (hxs _ hxj))
 have d39:=k39 c hc hk a xs[j]! (hcan a ha) (hcan _ (hxs _ hxj))
 have hrw:=hH.rw
 have hrc:=hH.rc
 have hws:=Q6 (show j+1<2 ^ 63 by omega)
 have hmx:(if mo c a xs[j]! > now then mo c a xs[j]! else now)=max now (mo c a xs[j]!):=by rw[Int.max_def];split <;> split <;> omega
 simp only[ic36l0,QJ,h,hia,hld,evA,simprocAttr]
 refine DW_s [3] [] hmix (by kernel_rfl) rfl ?_
 simp only[hrc,evA,simprocAttr]
 refine YE (d38.call frz ⟨rfl,rfl⟩) rfl ?_
 have hsu:=nowF_succ h hnw
 unfold nowS at hsu
 generalize hdl:difF c.ro[a]! c.ro[xs[j]!]! 40=dl at hsu
 by_cases hlt:(dl.length:Int)<w.di
 ·rw[if_pos hlt] at hsu
  simp only[hrw,hlt,evA,simprocAttr]
  exact hgo _ _ _ _ _ (nowF_none _ hsu)
 rw[if_neg hlt] at hsu
 simp only[hrw,hlt,hrc,evA,simprocAttr]
 refine d39.call frz ?_
 simp only[hmx,hws,evA,simprocAttr]
 refine ZL (by first | trivial | omega) ⟨max now (mo c a xs[j]!),_,_,_,hsu,by omega,fun k hk=>?_,rfl⟩
 rcases QQ.1 hk with hk | rfl
 ·have:=hall k hk;omega
 ·omega
theorem FnOk.enter {P:Program} {f:FuncId} {fe:FE} (hf:FnOk P f fe):PI P f:=by
 obtain ⟨fn,c,h1,h2,h3,_⟩:=hf.ok
 exact RE h1 h3 h2
section
variable {c:Crs} {w:Wsh} {can:List Nat} {pw pb pcan q pc pch:Nat}
structure ChPre (c:Crs) (w:Wsh) (can:List Nat) (pw pb pcan q pc pch:Nat) (E:List Nat) (σ:List AObj) (l:AV) (xs:List Nat) (bound:Int) (bs:Bst):Prop where
 H:ChH c w can pw pb pcan q pc pch σ
 B:BestOk c w can pb bs E σ
 P:PreOk c can xs bound
 L:SlcL σ l xs
 Ea:∀ k∈E,k<σ.length
 Eb:∀ k∈[pw,pb,pcan,q,pc,pch],k∈E
 Ec:∀ k∈locsC l,k∈E∧k∉[pw,pb,pcan,q,pc,pch]
structure ChPost (c:Crs) (w:Wsh) (can:List Nat) (pw pb pcan q pc pch:Nat) (E:List Nat) (σ:List AObj) (l:AV) (xs:List Nat) (bs:Bst) (τ:List AObj):Prop where
 H:ChH c w can pw pb pcan q pc pch τ
 B:BestOk c w can pb bs E τ
 le:σ.length≤τ.length
 K:∀ k,k<σ.length→k≠pb→k∉locsC l→τ[k]? = σ[k]?
 L:SlcL τ l xs
abbrev chArgs (l:AV) (bound:Int) (from_:Nat) (pw pb pcan pc pch:Nat):List AV:=[l,.i bound,.i from_,.ptr pw 0,.ptr pb 0,.ptr pcan 0,.ptr pc 0,.ptr pch 0]
theorem BestOk.less {bs:Bst} {E E':List Nat} {σ:List AObj} (h:BestOk c w can pb bs E σ) (hE:∀ k∈E',k∈E):BestOk c w can pb bs E' σ:=h.keep rfl (QG _) (fun _ _ _=>rfl) fun k hk=>.inl (hE k hk)
theorem app36 {E:List Nat} {σ:List AObj} {l:AV} {xs:List Nat} {bound now:Int} {a from_:Nat} {bs bs2:Bst} (h:ChPre c w can pw pb pcan q pc pch E σ l xs bound bs) (hx10:xs.length≤10) (ha:a∈can) (hb:bound≤now) (hx:∀ x∈xs,mo c a x≤now)
  (ih:∀ {E':List Nat} {σ':List AObj} {l':AV},ChPre c w can pw pb pcan q pc pch E' σ' l' (xs++[a]) now bs→AC Tryz.prog 36 (chArgs l' now from_ pw pb pcan pc pch) σ' fun r τ=>r=.tup []∧ChPost c w can pw pb pcan q pc pch E' σ' l' (xs++[a]) bs2 τ) :
  ∃ l' σ2,ZX 1 8 [l,.sl σ.length 0 1 1] (σ++[AObj.cells [.i a]])=some (l',σ2)∧l'.isUndef=false∧σ2[pch]? = σ[pch]? ∧
   AC Tryz.prog 36 (chArgs l' now from_ pw pb pcan pc pch) σ2 fun r τ=>r=.tup []∧ChPost c w can pw pb pcan q pc pch E σ l xs bs2 τ:=by
 have he:PI Tryz.prog 36:=(fok36 true).enter
 have hP:=h.P.snoc ha hb hx
 have hEl:∀ k∈[pw,pb,pcan,q,pc,pch],k<σ.length:=fun k hk=>h.Ea k (h.Eb k hk)
 have hp2:(2:Nat) ^ 44=17592186044416:=by decide
 have hsrc:Z9 (σ++[AObj.cells [.i a]]) 1 (.sl σ.length 0 1 1)=some [.i a]:=by
  simp only[Z9,if_true,XH,Option.bind_some];rfl
 have fresh:∀ (n:Nat),n=xs.length+1→(∀ τ,SlcL τ l xs→SlcL τ l xs)→AC Tryz.prog 36 (chArgs (.sl (σ.length+1) 0 n 1) now from_ pw pb pcan pc pch) (σ++[AObj.cells [.i a],AObj.cells ((nI (xs++[a])).map AV.i)]) fun r τ=>r=.tup []∧ChPost c w can pw pb pcan q pc pch E σ l xs bs2 τ:=by
  rintro n rfl _
  refine AC.capsX (cs:=(nI (xs++[a])).map AV.i) [] (by rw[X9];rfl) (fun cap k hc1 hc2=>?_) he
  have hset:((σ++[AObj.cells [.i a],AObj.cells ((nI (xs++[a])).map AV.i)]).set (σ.length+1) (.cells ((nI (xs++[a])).map AV.i++List.replicate k .undef)))=σ++[AObj.cells [.i a],AObj.cells ((nI (xs++[a])).map AV.i++List.replicate k .undef)]:=by rw[EZ];rfl
  rw[hset]
  generalize hσ3:σ++[AObj.cells [.i a],AObj.cells ((nI (xs++[a])).map AV.i++List.replicate k .undef)]=σ3
  have hlen3:σ3.length=σ.length+2:=by rw[← hσ3];simp
  have low:∀ k,k<σ.length→σ3[k]? = σ[k]? := fun k hk=>by rw[← hσ3];exact QE hk
  have hrow:rowOf σ3 (σ.length+1)=some ((nI (xs++[a])).map AV.i++List.replicate k .undef):=by rw[← hσ3,X9];rfl
  have hl2:((nI (xs++[a])).map AV.i).length=xs.length+1:=by simp
  have hxa:(xs++[a]).length=xs.length+1:=by simp
  have pre:ChPre c w can pw pb pcan q pc pch ((σ.length+1)::E) σ3 (.slc (σ.length+1) 0 (xs.length+1) cap 1) (xs++[a]) now bs:=by
   refine ⟨h.H.keep fun k hk=>low k (hEl k (by simp only[ZD,WK,or_false] at hk ⊢;omega)),h.B.keep (low pb (hEl pb (by simp))) (by omega) (fun k hk _=>low k hk) (fun k hk=>?_),hP,?_,?_,fun k hk=>WU _ (h.Eb k hk),?_⟩
   ·rcases ZD.1 hk with rfl | hk
    ·exact .inr (by omega)
    ·exact .inl hk
   ·refine .inr ⟨σ.length+1,cap,_,by rw[hxa],hrow,by rw[hxa];omega,by rw[hxa,List.length_replicate];omega⟩
   ·intro k hk
    rcases ZD.1 hk with rfl | hk
    ·omega
    ·have:=h.Ea k hk;omega
   ·intro k hk
    simp only[locsC,WZ] at hk
    subst hk
    refine ⟨by simp,fun hm=>?_⟩
    have:=hEl _ hm;omega
  refine (ih pre).mono ?_
  rintro r τ ⟨hr,hp⟩
  refine ⟨hr,hp.H,hp.B.less fun k hk=>WU _ hk,by have:=hp.le;omega,fun k hk hne hnl=>?_,h.L.keep fun L hL=>?_⟩
  ·rw[hp.K k (by omega) hne (by simp only[locsC,WZ];omega),low k hk]
  ·have hLl:=h.L.lt L hL
   have hne:L≠pb:=fun e=>(h.Ec L hL).2 (by rw[e];simp)
   rw[hp.K L (by omega) hne (by simp only[locsC,WZ];omega),low L hLl]
 rcases hL:h.L with ⟨hl0,hx0⟩ | ⟨L,cap,rest,hl0,hr,h1,h2⟩
 ·subst hl0
  subst hx0
  refine ⟨.sl (σ.length+1) 0 1 1,σ++[AObj.cells [.i a],AObj.cells [.i a]],?_,rfl,QE (hEl pch (by simp)),fresh 1 rfl fun τ h=>h⟩
  have hc1:1*1=([.i a]:List AV).length∧1*8≤2 ^ 44∧1≤2 ^ 44∧([.i a]:List AV).all AV.isSc=true:=⟨rfl,by omega,by omega,rfl⟩
  simp only[ZX,hsrc,lenF,Option.bind_some]
  rw[if_neg (by omega),if_pos hc1]
  simp
 ·subst hl0
  have hLm:=h.Ec L (by simp[locsC])
  have hLlt:=h.Ea L hLm.1
  have hr':=ZH hr [AObj.cells [.i a]]
  have hnl:((nI xs).map AV.i).length=xs.length:=by simp
  by_cases hroom:xs.length+1≤cap
  ·obtain ⟨r0,rest',rfl⟩:∃ r0 rest',rest=r0::rest':=by
    cases rest with
    | nil=>simp at h2;omega
    | cons r0 rest'=>exact ⟨r0,rest',rfl⟩
   have hset:setRange ((nI xs).map AV.i++r0::rest') xs.length [.i a]=(nI (xs++[a])).map AV.i++rest':=by
    have:=TB (xs:=(nI xs).map AV.i) (ys:=[r0]) (zs:=rest') (vs:=[AV.i a]) (by simp)
    rw[hnl] at this
    simp only[QW,List.cons_append,List.nil_append,List.length_cons,List.length_nil,ZV,List.drop_succ_cons,List.drop_nil,YO] at this
    rw[this];simp
   generalize hσ2:(σ++[AObj.cells [.i a]]).set L (.cells ((nI (xs++[a])).map AV.i++rest'))=σ2
   have hlen2:σ2.length=σ.length+1:=by rw[← hσ2];simp
   have low:∀ k,k<σ.length→k≠L→σ2[k]? = σ[k]? := fun k hk hne=>by rw[← hσ2,QU (Ne.symm hne)];exact QE hk
   have neq:∀ k∈[pw,pb,pcan,q,pc,pch],k≠L:=fun k hk e=>hLm.2 (by rw[← e];exact hk)
   have hrow:rowOf σ2 L=some ((nI (xs++[a])).map AV.i++rest'):=by rw[← hσ2];exact W0 hr'
   have hxa:(xs++[a]).length=xs.length+1:=by simp
   refine ⟨.slc L 0 (xs.length+1) cap 1,σ2,?_,rfl,low pch (hEl pch (by simp)) (neq pch (by simp)),?_⟩
   ·have hc1:True∧0+(xs.length+1)*1≤((nI xs).map AV.i++r0::rest').length∧1*1=([.i a]:List AV).length∧([.i a]:List AV).all AV.isSc=true:=⟨trivial,by rw[QM,hnl];simp,rfl,rfl⟩
    simp only[ZX,hr',hsrc,lenF,Option.bind_some]
    rw[if_pos hroom,if_pos hc1,ZV,W3,hset,hσ2]
   have pre:ChPre c w can pw pb pcan q pc pch E σ2 (.slc L 0 (xs.length+1) cap 1) (xs++[a]) now bs:=by
    refine ⟨h.H.keep fun k hk=>?_,h.B.keep (low pb (hEl pb (by simp)) (neq pb (by simp))) (by omega) (fun k hk hn=>low k hk fun e=>hn (by rw[e];exact hLm.1)) (fun k hk=>.inl hk),hP,?_,?_,h.Eb,?_⟩
    ·have hm:k∈[pw,pb,pcan,q,pc,pch]:=by simp only[ZD,WK,or_false] at hk ⊢;omega
     exact low k (hEl k hm) (neq k hm)
    ·refine .inr ⟨L,cap,rest',by rw[hxa],hrow,by rw[hxa];omega,by rw[hxa];simp at h2;omega⟩
    ·intro k hk;have:=h.Ea k hk;omega
    ·exact h.Ec
   refine (ih pre).mono ?_
   rintro r τ ⟨hr2,hp⟩
   refine ⟨hr2,hp.H,hp.B,by have:=hp.le;omega,fun k hk hne hnl=>?_,?_⟩
   ·rw[hp.K k (by omega) hne hnl,low k hk fun e=>hnl (by simp[locsC,e])]
   ·rcases hp.L with ⟨e,_⟩ | ⟨L',cap',rest2,e,hr3,g1,g2⟩
    ·cases e
    ·simp only[AV.slc.injEq] at e
     obtain ⟨rfl,_,_,rfl,_⟩:=e
     refine .inr ⟨L,cap,.i (a:Nat)::rest2,rfl,?_,h1,by rw[hxa] at g2;simp;omega⟩
     rw[hr3];simp
  ·refine ⟨.sl (σ.length+1) 0 (xs.length+1) 1,σ++[AObj.cells [.i a],AObj.cells ((nI (xs++[a])).map AV.i)],?_,rfl,QE (hEl pch (by simp)),fresh _ rfl fun τ h=>h⟩
   have htk:(List.drop 0 ((nI xs).map AV.i++rest)).take (xs.length*1)=(nI xs).map AV.i:=by rw[YO,List.take_left' (by rw[hnl];omega)]
   have hc1:True∧0+xs.length*1≤((nI xs).map AV.i++rest).length∧1*1=([.i a]:List AV).length∧(xs.length+1)*8≤2 ^ 44∧xs.length+1≤2 ^ 44∧([.i a]:List AV).all AV.isSc=true:=⟨trivial,by rw[QM,hnl];omega,rfl,by omega,by omega,rfl⟩
   simp only[ZX,hr',hsrc,lenF,Option.bind_some]
   rw[if_neg hroom,if_pos hc1,htk]
   simp
set_option maxHeartbeats 4000000 in
set_option maxRecDepth 4000 in
theorem ch36 (hc:CSz c) (hk:CrsOk c) (hw:1≤w.ma∧w.ma≤10) (hcan:∀ y∈can,y<c.ro.length) (hc10:can.length≤10) (hne:pb∉[pw,pcan,q,pc,pch]):∀ (n from_:Nat) {xs:List Nat} {bound:Int} {bs:Bst} {σ:List AObj} {E:List Nat} {l:AV},
  can.length-from_≤n→from_≤can.length→xs.length≤from_→ChPre c w can pw pb pcan q pc pch E σ l xs bound bs →
  AC Tryz.prog 36 (chArgs l bound from_ pw pb pcan pc pch) σ fun r τ=>r=.tup []∧ChPost c w can pw pb pcan q pc pch E σ l xs (chF c w can n xs bound from_ bs) τ:=by
 intro n
 induction n using Nat.strongRecOn with
 | _ n ih =>
 intro from_ xs bound bs σ E l hn hf hx hp
 rw[chF_eq hn]
 refine ZF (fok36 true) (QC rfl) ?_
 have hx10:xs.length≤10:=by omega
 have hlen:=hp.L.len
 have hlu:=hp.L.nu
 have hrw:=hp.H.rw
 have hrc:=hp.H.rc
 have hrch:=hp.H.rch
 have hEl:∀ k∈[pw,pb,pcan,q,pc,pch],k<σ.length:=fun k hk=>hp.Ea k (hp.Eb k hk)
 obtain ⟨cv,hrcan,hcv⟩:=hp.H.rcan
 obtain ⟨bv,bb,hrb,hbv⟩:=hp.B
 have hneL:pb∉locsC l:=fun hm=>(hp.Ec pb hm).2 (by simp)
 by_cases hm:(xs.length:Int)=w.ma
 ·have hb:((xs.length:Int) == w.ma)=true:=by simp[hm]
  have hbs:chB c w can (chF c w can (n-1)) xs bound from_ bs=some (xs,bound):=by unfold chB;rw[if_pos hm]
  rw[hbs]
  have hrb2:=fun J=>ZH hrb J
  simp only[ic36,hlen,hlu,hrw,hb,evA,simprocAttr]
  refine (p37 hp.L (by omega) (by omega)).run ?_
  simp only[hrb2,evA,simprocAttr]
  generalize hτ:(σ++[AObj.dead,AObj.cells ((nI xs).map AV.i)]).set pb (AObj.cells [.sl (σ.length+1) 0 xs.length 1,.i bound])=τ
  have hpb:=hEl pb (by simp)
  have hlt:τ.length=σ.length+2:=by rw[← hτ];simp
  have low:∀ k,k<σ.length→k≠pb→τ[k]? = σ[k]? := fun k hk hne'=>by rw[← hτ,QU (Ne.symm hne')];exact QE hk
  have hR:rowOf τ (σ.length+1)=some ((nI xs).map AV.i):=by rw[← hτ,QX (by omega),X9];rfl
  have hB:rowOf τ pb=some [.sl (σ.length+1) 0 xs.length 1,.i bound]:=by rw[← hτ];exact W0 (hrb2 _)
  refine ⟨hp.H.keep fun k hk=>?_,⟨_,_,hB,.inr ⟨σ.length+1,xs,fun hm=>?_,by omega,rfl,hR,hm,hp.P,rfl⟩⟩,by omega,fun k hk hne' _=>low k hk hne',hp.L.keep fun L hL=>low L (hp.L.lt L hL) fun e=>hneL (by rw[← e];exact hL)⟩
  ·refine low k (hEl k ?_) fun e=>hne (by rw[← e];exact hk)
   simp only[ZD,WK,or_false] at hk ⊢;omega
  ·have:=hp.Ea _ hm;omega
 have hb:((xs.length:Int) == w.ma)=false:=beq_f hm
 have hbs:chB c w can (chF c w can (n-1)) xs bound from_ bs=(List.range (can.length-from_)).foldl (chS c w can (chF c w can (n-1)) xs bound from_) bs:=by unfold chB;rw[if_neg hm]
 rw[hbs]
 have hwf:IntKind.i64.wrap ((can.length-from_:Nat):Int)=((can.length-from_:Nat):Int):=ZC (by omega)
 obtain ⟨V,hsl,hVl,hVs⟩:∃ V,(∀ τ,VG 1 true false [cv,.cv (.int .i64 from_)] τ=some (V,τ))∧(∀ τ,RZ false [V] τ=some (.i ((can.length-from_:Nat):Int),τ))∧(from_<can.length→V=.sl q from_ (can.length-from_) 1∧rowOf σ q=some ((nI can).map AV.i)):=by
  rcases hcv with ⟨h1,h2⟩ | ⟨h1,h2⟩
  ·subst h1;subst h2
   have:from_=0:=by simpa using hf
   subst this
   exact ⟨.cv .nils,fun τ=>rfl,fun τ=>rfl,fun h=>by simp at h⟩
  ·subst h1
   rcases ZB from_ can.length with h | h
   ·exact ⟨_,BP h,fun τ=>rfl,fun _=>⟨rfl,h2⟩⟩
   ·have e:from_=can.length:=by omega
    subst e
    rcases XF can.length with e0 | e0
    ·refine ⟨.sl q (0+can.length*1) (can.length-can.length) 1,fun τ=>?_,fun τ=>rfl,fun h=>by omega⟩
     simp[VG,bnds,bnd,e0]
    ·refine ⟨.cv (.rsl [] 0),fun τ=>?_,fun τ=>by rw[Nat.sub_self];rfl,fun h=>by omega⟩
     simp[VG,bnds,bnd,e0]
 simp only[ic36,hlen,hlu,hrw,hb,hrcan,hsl,hVl,evA,simprocAttr]
 refine ZW (can.length-from_) (fun i s=>∃ v8 v9 v10 v11 v16 v17 v18 v19 v20 v21 v22 H,ChPost c w can pw pb pcan q pc pch E σ l xs ((List.range i).foldl (chS c w can (chF c w can (n-1)) xs bound from_) bs) H∧s=⟨[l,.i bound,.i from_,.ptr pw 0,.ptr pb 0,.ptr pcan 0,.ptr pc 0,.ptr pch 0,v8,v9,v10,v11,.b false,V,.i ((can.length-from_:Nat):Int),.i i,v16,v17,v18,v19,v20,v21,v22],H⟩) ?_ 0 (QF _) ⟨_,_,_,_,_,_,_,_,_,_,_,σ,⟨hp.H,hp.B,QG _,fun _ _ _ _=>rfl,hp.L⟩,rfl⟩
 rintro i s hi ⟨v8,v9,v10,v11,v16,v17,v18,v19,v20,v21,v22,H,hH,rfl⟩
 by_cases h:i<can.length-from_
 rotate_left
 ·have hie:i=can.length-from_:=by omega
  subst hie
  simp only[ic36l1,QJ,h,evA,simprocAttr]
  exact hH
 obtain ⟨rfl,hrq⟩:=hVs (by omega)
 have hfi:from_+i<can.length:=by omega
 obtain ⟨a,hae⟩:∃ a,a=can[from_+i]! := ⟨_,rfl⟩
 have ha:a∈can:=by rw[hae,getElem!_pos can _ hfi];exact Q2 hfi
 have hq':rowOf H q=some ((nI can).map AV.i):=by
  have hqm:q∈[pw,pb,pcan,q,pc,pch]:=by simp
  have:H[q]? = σ[q]? := hH.K q (hEl q hqm) (fun e=>hne (by rw[← e];simp)) fun hm=>(hp.Ec q hm).2 hqm
  unfold rowOf;rw[this];exact hrq
 have hld:((nI can).map AV.i)[from_+i]? = some (.i (a:Nat)):=by rw[hae];exact nI_get hfi
 have hia:=fun τ=>W9 (l:=q) (off:=from_) h τ
 have hws:=Q6 (show i+1<2 ^ 63 by omega)
 have hsu:(List.range (i+1)).foldl (chS c w can (chF c w can (n-1)) xs bound from_) bs=chS c w can (chF c w can (n-1)) xs bound from_ ((List.range i).foldl (chS c w can (chF c w can (n-1)) xs bound from_) bs) i:=by rw[WM,List.foldl_append];rfl
 generalize (List.range i).foldl (chS c w can (chF c w can (n-1)) xs bound from_) bs=bi at hsu hH
 have hlen2:=hH.L.len
 simp only[ic36l1,QJ,h,hia,hq',hld,hlu,hlen2,evA,simprocAttr]
 refine in36 c w can hc hk hH.H hcan hH.L hx10 hp.P.can ha ?_ ?_
 rotate_left
 ·intro now w11 w19 w20 w21 hnf
  have hst:chS c w can (chF c w can (n-1)) xs bound from_ bi i=bi:=by unfold chS;rw[← hae,hnf]
  rw[hst] at hsu
  simp only[hws,evA,simprocAttr]
  exact ZL (by first | trivial | omega) ⟨_,_,_,_,_,_,_,_,_,_,_,H,by rw[hsu];exact hH,rfl⟩
 intro now w11 w20 w21 hnf hbn hall
 obtain ⟨bv',bb',hrb',hbv'⟩:=hH.B
 have hrchH:=hH.H.rch
 have hpre:ChPre c w can pw pb pcan q pc pch E H l xs bound bi:=⟨hH.H,hH.B,hp.P,hH.L,fun k hk=>by have:=hp.Ea k hk;have:=hH.le;omega,hp.Eb,hp.Ec⟩
 have hfi1:can.length-(from_+i+1)<n:=by omega
 obtain ⟨l',σ2,happ,hlu',hk2,hcall⟩:=app36 (from_:=from_+i+1) hpre hx10 ha hbn hall fun pre=>ih (n-1) (by omega) (from_+i+1) (by omega) (by omega) (by simp;omega) pre
 have hw1:IntKind.i64.wrap ((from_:Int)+(i:Int))=((from_+i:Nat):Int):=by rw[ZC (by omega)];omega
 have hw2:IntKind.i64.wrap (((from_+i:Nat):Int)+1)=((from_+i+1:Nat):Int):=Q6 (by omega)
 have hpl:pch<H.length:=by have:=hEl pch (by simp);have:=hH.le;omega
 have hk1:∀ J,(H++J)[pch]? = H[pch]? := fun J=>QE hpl
 have hk2':σ2[pch]? = H[pch]? := hk2
 have hnext:∀ τ b2,ChPost c w can pw pb pcan q pc pch E H l xs b2 τ→ChPost c w can pw pb pcan q pc pch E σ l xs b2 τ:=fun τ b2 hτ =>
  ⟨hτ.H,hτ.B,YR hH.le hτ.le,fun k hk h1 h2=>by have:=hH.le;rw[hτ.K k (by omega) h1 h2,hH.K k hk h1 h2],hτ.L⟩
 have hst:chS c w can (chF c w can (n-1)) xs bound from_ bi i=if btrB bi now then chF c w can (n-1) (xs++[a]) now (from_+i+1) bi else bi:=by unfold chS;rw[← hae,hnf]
 rw[hst] at hsu
 rcases hbv' with ⟨rfl,hbi⟩ | ⟨R,ys,hR,hRl,rfl,hrR,hym,hyp,hbi⟩
 ·have hbt:btrB bi now=true:=by rw[hbi];rfl
  rw[hbt,if_pos rfl] at hsu
  simp only[hrb',evA,simprocAttr]
  refine DW_sL [] [(0,3),(0,4)] hmix (lst:=10) rfl rfl rfl rfl rfl (by kernel_rfl) (by kernel_rfl) rfl ?_
  simp only[hrchH,happ,hlu,hlu',hw1,hw2,hk1,hk2',List.dropLast,List.cons_append,List.nil_append,mvI,evA,simprocAttr]
  simp only[kLast,List.dropLast,evA,simprocAttr]
  refine hcall.mono ?_
  rintro r τ ⟨rfl,hτ⟩
  simp only[hws,evA,simprocAttr]
  exact ZL (by first | trivial | omega) ⟨_,_,_,_,_,_,_,_,_,_,_,τ,by rw[hsu];exact hnext τ _ hτ,rfl⟩
 ·by_cases hlt:now<bb'
  ·have hbt:btrB bi now=true:=by rw[hbi];exact decide_eq_true hlt
   rw[hbt,if_pos rfl] at hsu
   simp only[hrb',hlt,evA,simprocAttr]
   refine DW_sL [] [(0,3),(0,4)] hmix (lst:=10) rfl rfl rfl rfl rfl (by kernel_rfl) (by kernel_rfl) rfl ?_
   simp only[hrchH,happ,hlu,hlu',hw1,hw2,hk1,hk2',List.dropLast,List.cons_append,List.nil_append,mvI,evA,simprocAttr]
   simp only[kLast,List.dropLast,evA,simprocAttr]
   refine hcall.mono ?_
   rintro r τ ⟨rfl,hτ⟩
   simp only[hws,evA,simprocAttr]
   exact ZL (by first | trivial | omega) ⟨_,_,_,_,_,_,_,_,_,_,_,τ,by rw[hsu];exact hnext τ _ hτ,rfl⟩
  ·have hbt:btrB bi now=false:=by rw[hbi];exact decide_eq_false hlt
   rw[hbt,if_neg (by decide)] at hsu
   simp only[hrb',hlt,hws,evA,simprocAttr]
   exact ZL (by first | trivial | omega) ⟨_,_,_,_,_,_,_,_,_,_,_,H,by rw[hsu];exact hH,rfl⟩
end
def shP (c:Crs) (w:Wsh) (i:Nat):Bool:=subI w.sh (torF c.tw w.ti c.ro[i]!).2.2.2 == 0
def canL (c:Crs) (w:Wsh) (n:Nat):List Nat:=(List.range n).filter (shP c w)
theorem canL_succ (c:Crs) (w:Wsh) (n:Nat):canL c w (n+1)=if shP c w n then canL c w n++[n] else canL c w n:=by
 unfold canL
 rw[WM,List.filter_append]
 cases h:shP c w n <;> simp[h]
theorem canL_len (c:Crs) (w:Wsh) (n:Nat):(canL c w n).length≤n:=YR (HC _ _) (by simp)
theorem canL_mem {c:Crs} {w:Wsh} {n y:Nat} (h:y∈canL c w n):y<n∧shP c w y=true:=by
 have:=YB.1 h
 exact ⟨ZI.1 this.1,this.2⟩
structure PickOk (c:Crs) (w:Wsh) (ys:List Nat) (b:Int):Prop where
 crs:CrsOk c
 wsh:wshE c w=0
 len:(ys.length:Int)=w.ma
 ok:PreOk c (canL c w c.ro.length) ys b
def PkX (c:Crs) (w:Wsh) (ys:List Nat) (b e:Int):Prop:=CrsOk c→wshE c w=0→match chF c w (canL c w c.ro.length) (canL c w c.ro.length).length [] 0 0 none with
 | none=>e=9
 | some x=>e=0∧ys=x.1∧b=x.2
structure PkH (c:Crs) (w:Wsh) (m:Nat) (cv:AV) (H:List AObj):Prop where
 h1:rowOf H 1=some [.i w.ma,.i w.di,.i w.sh,.i w.ti]
 h2:rowOf H 2=some [.cv .nils,.i 0]
 h3:rowOf H 3=some [.cv (opnP c)]
 h8:rowOf H 8=some [cv]
 acc:AccE [1,2,3,8] 1 H cv (canL c w m).length ((nI (canL c w m)).map (.int .i64))
theorem PkH.lt {c:Crs} {w:Wsh} {m:Nat} {cv:AV} {H:List AObj} (h:PkH c w m cv H):8<H.length:=(QH.1 (WO h.h8)).1
theorem PkH.app {c:Crs} {w:Wsh} {m m':Nat} {cv:AV} {H:List AObj} (h:PkH c w m cv H) (J:List AObj) (he:canL c w m'=canL c w m):PkH c w m' cv (H++J) :=
 ⟨ZH h.h1 J,ZH h.h2 J,ZH h.h3 J,ZH h.h8 J,by rw[he];exact h.acc.app J⟩
set_option maxHeartbeats 4000000 in
set_option maxRecDepth 4000 in
theorem pk7 (c:Crs) (hc:CSz c) (w:Wsh):AC Tryz.prog 7 [crsA c,wshA w] [] fun r τ=>∃ v,FrzV scl τ r v∧∃ (ys:List Nat) (b e:Int),v=.tup [.agg [ints (nI ys),.i b],.i e]∧(e=0→PickOk c w ys b)∧PkX c w ys b e:=by
 refine ZF (fok7 true) (QC rfl) ?_
 have bad:∀ (e:Int) (τ:List AObj),e≠0→¬ (CrsOk c∧wshE c w=0)→∃ v,FrzV scl τ (.tup [.agg [.cv .nils,.i 0],.i e]) v∧∃ (ys:List Nat) (b e:Int),v=.tup [.agg [ints (nI ys),.i b],.i e]∧(e=0→PickOk c w ys b)∧PkX c w ys b e:=fun e τ he hno =>
  ⟨.tup [.agg [ints [],.i 0],.i e],.tup (.cons (.agg (.cons (.c .nl) (.cons (.c (.c _ trivial)) .nil))) (.cons (.c (.c _ trivial)) .nil)),[],0,e,rfl,fun h=>absurd h he,fun h1 h2=>absurd ⟨h1,h2⟩ hno⟩
 simp only[ic7,evA,simprocAttr]
 refine (k33 c hc [] (by simp) (.cv .nils) rfl (fun J=>.c .nl)).run ?_
 by_cases h1:(crsV c).2.2=0
 rotate_left
 ·have hl:lokV c []=.tup [.cv .nilp,.i (crsV c).2.2]:=by unfold lokV lokE;rw[if_neg h1,if_pos h1]
  have hb:((crsV c).2.2 != 0)=true:=bne_t h1
  rw[hl]
  simp only[hb,evA,simprocAttr]
  exact bad _ _ h1 fun h=>h1 (crsV_ok.2 h.1)
 have hk:=crsV_ok.1 h1
 have hl:lokV c []=.tup [.cv (opnP c),.i 0]:=by unfold lokV lokE;rw[if_pos h1,if_neg (by simpa using h1)];rfl
 have hm:=(twnE_ok hk.tw).2.1
 have hb:=HF (show c.tw.sh.length≤8 by omega)
 have htm:=hc.tw.tm
 have hsh:VK .shl .i64 1 c.tw.sh.length=some (.cv (.int .i64 (2 ^ c.tw.sh.length))):=by
  unfold VK
  rw[if_neg (by omega),Int.toNat_natCast,show min c.tw.sh.length IntKind.i64.bits=c.tw.sh.length by simp[IntKind.bits];omega,Int.one_mul,ZC (by omega)]
 have hw1:IntKind.i64.wrap ((c.tw.tm.length:Int)-1)=(c.tw.tm.length:Int)-1:=ZC (by omega)
 have hw2:IntKind.i64.wrap ((2:Int) ^ c.tw.sh.length-1)=2 ^ c.tw.sh.length-1:=ZC (by omega)
 rw[hl]
 simp only[evA,simprocAttr]
 refine DW_s [3,8,23] [(11,22),(16,22)] hmix (by kernel_rfl) rfl ?_
 simp only[evA,simprocAttr]
 refine YE ((o56_34 1 10 [w.ma] (by simp)).call frz ⟨rfl,rfl⟩) rfl ?_
 rw[FW]
 cases g1:inB w.ma 1 10
 ·simp only[evA,simprocAttr]
  exact bad _ _ (by decide) fun h=>by have h2:=h.2;unfold wshE at h2;simp[*] at h2
 simp only[evA,simprocAttr]
 refine YE ((o56_34 0 40 [w.di] (by simp)).call frz ⟨rfl,rfl⟩) rfl ?_
 rw[FW]
 cases g2:inB w.di 0 40
 ·simp only[evA,simprocAttr]
  exact bad _ _ (by decide) fun h=>by have h2:=h.2;unfold wshE at h2;simp[*] at h2
 simp only[hsh,hw2,evA,simprocAttr]
 refine YE ((o56_34 0 (2 ^ c.tw.sh.length-1) [w.sh] (by simp)).call frz ⟨rfl,rfl⟩) rfl ?_
 rw[FW]
 cases g3:inB w.sh 0 (2 ^ c.tw.sh.length-1)
 ·simp only[evA,simprocAttr]
  exact bad _ _ (by decide) fun h=>by have h2:=h.2;unfold wshE at h2;simp[*] at h2
 simp only[evA,simprocAttr]
 refine DW_s [11] [(0,10),(5,10)] hmix (by kernel_rfl) rfl ?_
 simp only[hw1,evA,simprocAttr]
 refine YE ((o56_34 0 ((c.tw.tm.length:Int)-1) [w.ti] (by simp)).call frz ⟨rfl,rfl⟩) rfl ?_
 rw[FW]
 cases g4:inB w.ti 0 ((c.tw.tm.length:Int)-1)
 ·simp only[evA,simprocAttr]
  exact bad _ _ (by decide) fun h=>by have h2:=h.2;unfold wshE at h2;simp[*] at h2
 have hwE:wshE c w=0:=by unfold wshE;rw[g1,g2,g3,g4];rfl
 simp only[evA,simprocAttr]
 refine ZW c.ro.length (fun i s=>∃ v8 v9 v10 v11 v18 v19 v20 cv H,PkH c w i cv H∧s=⟨[crsA c,wshA w,.ptr 0 0,.ptr 1 0,.ptr 2 0,.i 0,.ptr 3 0,.ptr 8 0,v8,v9,v10,v11,.b false,.b false,.b false,.cv (roR c.ro),.i c.ro.length,.i i,v18,v19,v20],H⟩) ?_ 0 (QF _) ⟨_,_,_,_,_,_,_,.cv .nils,_,⟨rfl,rfl,rfl,rfl,AccE.nil _ _ _⟩,rfl⟩
 rintro i s hi ⟨v8,v9,v10,v11,v18,v19,v20,cv,H,hH,rfl⟩
 have hw64:0≤w.sh∧w.sh<64:=by
  have:=VB.1 g3
  have:=pow6 hm
  omega
 by_cases h:i<c.ro.length
 ·have hr:=rtE_ok (hk.rt i h)
  have hE:drvE c.tw c.ce w.ti c.ro[i]! = 0:=by
   unfold drvE
   have h1:opnE c.tw [c.ce]=0:=by unfold opnE;rw[if_neg (by simpa using hk.tw),FW,hk.ce];rfl
   rw[if_neg (by simpa using h1),if_neg (by rw[g4];decide)]
   exact hr.2.1
  have hd:=t35 c.tw hc.tw c.ce w.ti c.ro[i]! (by omega) (hc.rol i h)
  have hdv:drvV c.tw c.ce w.ti c.ro[i]! = .tup [torA (.cv (stpR c.ro[i]!)) (torF c.tw w.ti c.ro[i]!),.i (folV c.tw c.ce c.ro[i]!).1,.i 0]:=by unfold drvV;rw[if_pos hE]
  rw[hdv] at hd
  have hs:=torF_sh (shOk_of hk.tw g4 hr.2.1) c.ro[i]!.length (QG _)
  rw[X7] at hs
  have hsp:shP c w i=(subI w.sh (torF c.tw w.ti c.ro[i]!).2.2.2 == 0):=rfl
  generalize torF c.tw w.ti c.ro[i]! = T at hd hs hsp
  have hsw:=sub_wrap (a:=w.sh) (b:=T.2.2.2) (by omega) (by omega)
  have hlt:=hH.lt
  have hr1:=fun J=>ZH hH.h1 J
  have hr3:=hH.h3
  have hr8:=fun J=>ZH hH.h8 J
  have low3:∀ J,(H++J)[3]? = H[3]? := fun J=>QE (by omega)
  have low1:∀ J,(H++J)[1]? = H[1]? := fun J=>QE (by omega)
  have hrl:=hk.rl
  have hr1':=hH.h1
  have hws:=Q6 (show i+1<2 ^ 63 by omega)
  simp only[ic7l0,QJ,h,XP h,ro_ld h,evA,simprocAttr,QW,QM,WW,X9,VW,EZ,Qau,CH,get_nz,get_ns]
  refine DW_s [13] [(0,18),(4,18),(5,18),(9,18),(11,18),(13,18)] hmix (by kernel_rfl) rfl ?_
  simp only[hr3,hr1',evA,simprocAttr,QW,QM,WW,X9,VW,EZ,Qau,CH,get_nz,get_ns]
  refine YE (v:=.tup [torA (.cv (stpR c.ro[i]!)) T,.i (folV c.tw c.ce c.ro[i]!).1,.i 0]) ?hcall rfl ?hnext
  case hcall=>exact hd.call ⟨rfl,rfl⟩
  simp only[hr1,hsw,low1,low3,evA,simprocAttr,QW,QM,WW,X9,VW,EZ,Qau,CH,get_nz,get_ns]
  cases hz:shP c w i
  ·rw[hsp] at hz
   simp only[hz,hws,evA,simprocAttr,QW,QM,WW,X9,VW,EZ,Qau,CH,get_nz,get_ns]
   refine ZL (by first | trivial | omega) ⟨_,_,_,_,_,_,_,cv,_,hH.app _ ?_,rfl⟩
   rw[canL_succ,hsp,hz];rfl
  ·have hS:canL c w (i+1)=canL c w i++[i]:=by rw[canL_succ,hz];rfl
   rw[hsp] at hz
   have hcl:=canL_len c w i
   obtain ⟨cv',H',e1,a1,k1,n1,hu1⟩:=accE_append (by_:=8) (x:=[.int .i64 (i:Int)]) (H:=H++[AObj.cells [.cv (stpR c.ro[i]!),.i T.1,.i T.2.1,.i T.2.2.1,.i T.2.2.2]]) (E:=[1,2,3,8]) (fun x hx=>by simp only[ZD,WK,or_false] at hx;simp;omega) (hH.acc.app _) rfl (by omega) (by omega)
   simp only[QM,List.length_cons,List.length_nil,QW,List.cons_append,List.nil_append,ZV,Q0,WS] at e1 n1
   obtain ⟨u1,s1,c1⟩:=a1.nu
   have kk:∀ k∈[1,2,3,8],rowOf H' k=rowOf H k:=fun k hk=>by
    unfold rowOf;rw[k1 k hk,QE]
    simp only[ZD,WK,or_false] at hk;omega
   have hr8':rowOf H' 8=some [cv]:=by rw[kk 8 (by simp)];exact hH.h8
   simp only[hz,hr8,e1,hr8',u1,s1,c1,hws,evA,simprocAttr,QW,QM,WW,X9,VW,EZ,Qau,CH,get_nz,get_ns]
   refine ZL (by first | trivial | omega) ⟨_,_,_,_,_,_,_,cv',_,⟨?_,?_,?_,W0 hr8',?_⟩,rfl⟩
   ·rw[QX (by omega),kk 1 (by simp)];exact hH.h1
   ·rw[QX (by omega),kk 2 (by simp)];exact hH.h2
   ·rw[QX (by omega),kk 3 (by simp)];exact hH.h3
   ·have:=a1.set (X:=8) (by simp) (AObj.cells [cv'])
    rw[hS,QM,nI,ZS,ZS]
    exact this
 have hie:i=c.ro.length:=by omega
 subst hie
 have hrl:=hk.rl
 have hcl:=canL_len c w c.ro.length
 have hlt:=hH.lt
 generalize hcn:canL c w c.ro.length=can at hH
 simp only[ic7l0,QJ,h,evA,simprocAttr,QW,QM,WW,X9,VW,EZ,Qau,CH,get_nz,get_ns]
 obtain ⟨q,hq2,hql,hcv⟩:∃ q,q≠2∧q<H.length∧((can=[]∧cv=.cv .nils)∨(cv=.sl q 0 can.length 1∧rowOf H q=some ((nI can).map AV.i))):=by
  have hacc:=hH.acc
  rw[hcn] at hacc
  rcases hacc with ⟨rfl,hn,_⟩ | ⟨q,hq,rfl,_,hr⟩
  ·exact ⟨0,by omega,by omega,.inl ⟨List.length_eq_zero_iff.1 hn,rfl⟩⟩
  ·refine ⟨q,fun e=>hq (by rw[e];simp),(QH.1 (WO hr)).1,.inr ⟨rfl,?_⟩⟩
   rw[hr,XW];rfl
 have hma:=VB.1 g1
 have hcl':can.length≤10:=by rw[← hcn];omega
 have hcm:∀ y∈can,y<c.ro.length:=fun y hy=>(canL_mem (by rw[hcn];exact hy)).1
 have pre:ChPre c w can 1 2 8 q 3 H.length [1,2,8,q,3,H.length] (H++[AObj.cells [.fn (.func 36) [.ptr 1 0,.ptr 2 0,.ptr 8 0,.ptr 3 0,.ptr H.length 0]]]) (.cv .nils) [] 0 none:=by
  refine ⟨⟨ZH hH.h1 _,ZH hH.h3 _,XH _ _,cv,ZH hH.h8 _,?_⟩,⟨.cv .nils,0,ZH hH.h2 _,.inl ⟨rfl,rfl⟩⟩,⟨by simp,by omega,List.Pairwise.nil⟩,.inl ⟨rfl,rfl⟩,?_,fun k hk=>hk,by simp[locsC]⟩
  ·rcases hcv with h | ⟨h1,h2⟩
   ·exact .inl h
   ·exact .inr ⟨h1,ZH h2 _⟩
  ·intro k hk
   simp only[ZD,WK,or_false] at hk
   simp;omega
 refine (ch36 hc hk hma hcm hcl' (by simp only[ZD,WK,or_false];omega) can.length 0 (by omega) (by omega) (by simp) pre).mono ?_
 rintro r τ ⟨rfl,hp⟩
 obtain ⟨bv,bb,hrb,hbv⟩:=hp.B
 rcases hbv with ⟨rfl,hbn⟩ | ⟨R,ys,hR,hRl,rfl,hrR,hym,hyp,hbn⟩
 ·have hs:=W0 (cs':=[.cv .nils,.i bb]) hrb
  have hX:PkX c w [] bb 9:=fun _ _=>by rw[hcn,hbn]
  simp only[hrb,hs,evA,simprocAttr,QW,QM,WW,X9,VW,EZ,Qau,CH,get_nz,get_ns]
  exact ⟨.tup [.agg [ints [],.i bb],.i 9],.tup (.cons (.agg (.cons (.c .nl) (.cons (.c (.c _ trivial)) .nil))) (.cons (.c (.c _ trivial)) .nil)),[],bb,9,rfl,(fun h=>by cases h),hX⟩
 ·have hs:=W0 (cs':=[.sl R 0 ys.length 1,.i bb]) hrb
  have hR2:R≠2:=fun e=>hR (by rw[e];simp)
  have hX:PkX c w ys bb 0:=fun _ _=>by rw[hcn,hbn];exact ⟨rfl,rfl,rfl⟩
  have hf:FrzV scl (τ.set 2 (AObj.cells [.sl R 0 ys.length 1,.i bb])) (.sl R 0 ys.length 1) (ints (nI ys)) :=
   U4 (fun _=>trivial) (by simp) (by rw[QX (by omega)];exact hrR)
  simp only[hrb,hs,evA,simprocAttr,QW,QM,WW,X9,VW,EZ,Qau,CH,get_nz,get_ns]
  exact ⟨.tup [.agg [ints (nI ys),.i bb],.i 0],.tup (.cons (.agg (.cons hf (.cons (.c (.c _ trivial)) .nil))) (.cons (.c (.c _ trivial)) .nil)),ys,bb,0,rfl,(fun _=>⟨hk,hwE,hym,by rw[hcn];exact hyp⟩),hX⟩
theorem k7 (c:Crs) (hc:CSz c) (w:Wsh) {args:List AV} {σ:List AObj} (hf:KS anyC σ args [crsA c,wshA w]):AC Tryz.prog 7 args σ fun r τ=>(∃ (ys:List Nat) (b e:Int),r=.tup [.agg [ints (nI ys),.i b],.i e]∧(e=0→PickOk c w ys b)∧PkX c w ys b e)∧τ=σ :=
 AC.pureN (R:=fun r=>∃ (ys:List Nat) (b e:Int),r=.tup [.agg [ints (nI ys),.i b],.i e]∧(e=0→PickOk c w ys b)∧PkX c w ys b e) (pk7 c hc w) (fun r τ ⟨v,h1,h2⟩=>⟨v,h1,h2⟩) hf
end Go.Proofs.YtogjcmnopidfpaaGreat.AM

/- Parts of the proof, joined: AmYs to AmYs. -/
import Derived.Test.YtogjcmnopidfpaaGreatZ7
set_option linter.unusedVariables false
set_option linter.unusedSimpArgs false
set_option linter.unusedSectionVars false
namespace Go.Proofs.YtogjcmnopidfpaaGreat.AM
variable [Dr]
open Go
inductive D {α:Sort 1} (a:α):Type where
 | mk
inductive D1 {α:Type} (a:α):Type where
 | mk
def gK (o:Option Bool) (x y:Prop) (_:D x) (_:D y):Prop:=match o with | none=>False | some false=>x | some true=>y
def pK (o:Option (AV × List AObj)) (K:AV→List AObj→Prop) (_:D1 K):Prop:=match o with | none=>False | some (v,σ)=>K v σ
def cK (o:AV) (x y:Prop) (_:D x) (_:D y):Prop:=match o with | .cv (.bool true)=>x | .cv (.bool false)=>y | _=>False
def ACk (P:Program) (f:FuncId) (args:List AV) (σ:List AObj) (K:AV→List AObj→Prop) (_:D1 K):Prop:=AC P f args σ K
def YCk (P:Program) (l:Nat) (args:List AV) (σ:List AObj) (K:AV→List AObj→Prop) (_:D1 K):Prop:=YC P l args σ K
def SA (P:Program) (fv:AV) (args:List AV) (σ:List AObj) (K:AV→List AObj→Prop) (_:D1 K):Prop:=X0 P fv args σ K
def QeE (P:Program) (as_:List AV) (σ:List AObj) (K:AV→List AObj→Prop) (d:D1 K):Prop:=match as_ with | fv::as_=>SA P fv as_ σ K d | []=>False
def oK (P:Program) (op:IK) (as_:List AV) (σ:List AObj) (K:AV→List AObj→Prop) (d:D1 K):Prop:=match op with | .prim io=>pK (ZQ io as_ σ) K d | .call=>QeE P as_ σ K d
def rK (o:Option AV) (K:AV→Prop) (_:D1 K):Prop:=match o with | none=>False | some v=>K v
def ILk (P:Program) (fx:Fx) (a:IC) (s:St) (Q:Exit→St→Prop) (_:D1 a) (_:D1 Q):Prop:=IL P fx a s Q
def DWk (P:Program) (fx:Fx) (dirs:List (List Nat)) (is:List Ins) (s:St) (Q:Exit→St→Prop) (_:D1 is) (_:D1 Q):Prop:=DW P fx dirs is s Q
def RWk (P:Program) (fx:Fx) (g:Opd) (ps:Array Nat) (assign body:Code) (s:St) (Q:Exit→St→Prop) (_:D1 assign) (_:D1 body) (_:D1 Q):Prop:=RW P fx g ps assign body s Q
theorem gK_t {x y:Prop} {d:D x} {e:D y}:gK (some true) x y d e=y:=Eq.trans rfl rfl
theorem gK_f {x y:Prop} {d:D x} {e:D y}:gK (some false) x y d e=x:=Eq.trans rfl rfl
theorem pK_s {v:AV} {σ:List AObj} {K:AV→List AObj→Prop} {d:D1 K}:pK (some (v,σ)) K d=K v σ:=Eq.trans rfl rfl
theorem cK_t {x y:Prop} {d:D x} {e:D y}:cK (.cv (.bool true)) x y d e=x:=Eq.trans rfl rfl
theorem cK_f {x y:Prop} {d:D x} {e:D y}:cK (.cv (.bool false)) x y d e=y:=Eq.trans rfl rfl
theorem callK_c {P:Program} {fv:AV} {as_:List AV} {σ:List AObj} {K:AV→List AObj→Prop} {d:D1 K}:QeE P (fv::as_) σ K d=SA P fv as_ σ K d:=Eq.trans rfl rfl
theorem oK_p {P:Program} {io:IOp} {as_:List AV} {σ:List AObj} {K:AV→List AObj→Prop} {d:D1 K}:oK P (.prim io) as_ σ K d=pK (ZQ io as_ σ) K d:=Eq.trans rfl rfl
theorem oK_c {P:Program} {as_:List AV} {σ:List AObj} {K:AV→List AObj→Prop} {d:D1 K}:oK P .call as_ σ K d=QeE P as_ σ K d:=Eq.trans rfl rfl
theorem rK_s {v:AV} {K:AV→Prop} {d:D1 K}:rK (some v) K d=K v:=Eq.trans rfl rfl
theorem CallV_fn {P:Program} {f:FuncId} {cap args:List AV} {σ:List AObj} {Q:AV→List AObj→Prop} {d:D1 Q}:SA P (.fn (.func f) cap) args σ Q d=ACk P f (args++cap) σ Q d:=Eq.trans rfl rfl
theorem CallV_bm {P:Program} {f:FuncId} {first args:List AV} {σ:List AObj} {Q:AV→List AObj→Prop} {d:D1 Q}:SA P (.bm f first) args σ Q d=ACk P f (first++args) σ Q d:=Eq.trans rfl rfl
theorem QfJ {P:Program} {l:Nat} {args:List AV} {σ:List AObj} {Q:AV→List AObj→Prop} {d:D1 Q}:SA P (.yld l) args σ Q d=YCk P l args σ Q d:=Eq.trans rfl rfl
def RS (P:Program):(is:List Ins)→List AV→List AV→List AObj→(K:List AV→List AV→List AObj→Prop)→D1 is→D1 K→Prop
 | [],vals,ρ,σ,K,_,_=>K vals ρ σ
 | i::is,vals,ρ,σ,K,_,_=>gK (gdOk ρ i.gd) (RS P is (setD i.dst vals (.tup [])) (ρ++[.tup []]) σ K .mk .mk) (oK P i.op (i.args.map (WY vals ρ)) σ (fun v σ'=>RS P is (setD i.dst vals v) (ρ++[v]) σ' K .mk .mk) .mk) .mk .mk
theorem RS_n {P:Program} {vals ρ:List AV} {σ:List AObj} {K:List AV→List AV→List AObj→Prop} {d:D1 ([]:List Ins)} {e:D1 K}:RS P [] vals ρ σ K d e=K vals ρ σ:=Eq.trans rfl rfl
theorem RS_c {P:Program} {i:Ins} {is:List Ins} {vals ρ:List AV} {σ:List AObj} {K:List AV→List AV→List AObj→Prop} {d:D1 (i::is)} {e:D1 K}:RS P (i::is) vals ρ σ K d e =
  gK (gdOk ρ i.gd) (RS P is (setD i.dst vals (.tup [])) (ρ++[.tup []]) σ K .mk .mk) (oK P i.op (i.args.map (WY vals ρ)) σ (fun v σ'=>RS P is (setD i.dst vals v) (ρ++[v]) σ' K .mk .mk) .mk) .mk .mk:=Eq.trans rfl rfl
theorem T2 {P:Program}:∀ (is:List Ins) (vals ρ:List AV) (σ:List AObj) (K:List AV→List AV→List AObj→Prop) (d:D1 is) (e:D1 K),RS P is vals ρ σ K d e→RG P is vals ρ σ K
 | [],_,_,_,_,_,_,h=>h
 | i :: is,vals,ρ,σ,K,_,_,h=>by
  simp only[RS] at h
  simp only[RG]
  unfold gK at h
  split at h
  ·exact h.elim
  ·rename_i hg;simp only[hg];exact T2 is _ _ _ _ _ _ h
  ·rename_i hg
   simp only[hg]
   unfold oK at h
   split at h
   ·rename_i io hop
    unfold pK at h
    split at h
    ·exact h.elim
    ·rename_i v σ' hs;simp only[hop,hs];exact T2 is _ _ _ _ _ _ h
   ·rename_i hop
    unfold QeE at h
    split at h
    ·rename_i fv as_ ha
     simp only[hop,ha]
     exact X0.mono h fun r τ hr=>T2 is _ _ _ _ _ _ hr
    ·exact h.elim
def kK (P:Program) (kp:Bool) (as_:List AV) (σ:List AObj) (K:AV→List AObj→Prop) (_:D1 K):Prop :=
 match kp,as_ with
 | true,fv::as_=>∃ v,X0 P fv as_ σ (fun v' τ'=>v'=v∧τ'=σ)∧QR σ.length v=true∧K v σ
 | false,fv::as_=>∃ v τ,X0 P fv as_ σ (fun v' τ'=>v'=v∧τ'=τ)∧HM σ v τ∧K v τ
 | _,[]=>False
def oX (P:Program) (kp:Bool) (op:IK) (as_:List AV) (σ:List AObj) (K:AV→List AObj→Prop) (d:D1 K):Prop:=match op with | .prim io=>pK (ZQ io as_ σ) K d | .call=>kK P kp as_ σ K d
theorem oX_p {P:Program} {kp:Bool} {io:IOp} {as_:List AV} {σ:List AObj} {K:AV→List AObj→Prop} {d:D1 K}:oX P kp (.prim io) as_ σ K d=pK (ZQ io as_ σ) K d:=Eq.trans rfl rfl
theorem oX_c {P:Program} {kp:Bool} {as_:List AV} {σ:List AObj} {K:AV→List AObj→Prop} {d:D1 K}:oX P kp .call as_ σ K d=kK P kp as_ σ K d:=Eq.trans rfl rfl
theorem YE {P:Program} {fv v:AV} {as_:List AV} {σ:List AObj} {K:AV→List AObj→Prop} {d:D1 K} (h:X0 P fv as_ σ fun v' τ'=>v'=v∧τ'=σ) (hl:QR 0 v=true) (hk:K v σ):kK P true (fv::as_) σ K d:=⟨v,h,Y8 (QF _) v hl,hk⟩
theorem MS {P:Program} {fv v:AV} {as_:List AV} {σ τ:List AObj} {K:AV→List AObj→Prop} {d:D1 K} (h:X0 P fv as_ σ fun v' τ'=>v'=v∧τ'=τ) (hl:HM σ v τ) (hk:K v τ):kK P false (fv::as_) σ K d:=⟨v,τ,h,hl,hk⟩
def RSx (P:Program) (kp:List Nat) (xs:List (Nat × Nat)):Nat→(is:List Ins)→List PlT→List (List AObj)→List AV→List AV→List AObj→(K:List AV→List AV→List AObj→Prop)→D1 is→D1 K→Prop
 | _,[],pl,hs,vals,ρ,σ,K,_,_=>xAll xs pl (hs++[σ])∧K vals ρ σ
 | j,i::is,pl,hs,vals,ρ,σ,K,_,_ =>
  gK (gdOk ρ i.gd) (RSx P kp xs (j+1) is (pl++[.no]) (hs++[σ]) (setD i.dst vals (.tup [])) (ρ++[.tup []]) σ K .mk .mk)
   (oX P (kp.contains j) i.op (i.args.map (WY vals ρ)) σ (fun v σ'=>RSx P kp xs (j+1) is (pl++[plOf i (i.args.map (WY vals ρ)) σ]) (hs++[σ]) (setD i.dst vals v) (ρ++[v]) σ' K .mk .mk) .mk) .mk .mk
theorem RSx_n {P:Program} {kp:List Nat} {xs:List (Nat × Nat)} {j:Nat} {pl:List PlT} {hs:List (List AObj)} {vals ρ:List AV} {σ:List AObj} {K:List AV→List AV→List AObj→Prop} {d:D1 ([]:List Ins)} {e:D1 K}:RSx P kp xs j [] pl hs vals ρ σ K d e=(xAll xs pl (hs++[σ])∧K vals ρ σ):=Eq.trans rfl rfl
theorem RSx_c {P:Program} {kp:List Nat} {xs:List (Nat × Nat)} {j:Nat} {pl:List PlT} {hs:List (List AObj)} {i:Ins} {is:List Ins} {vals ρ:List AV} {σ:List AObj} {K:List AV→List AV→List AObj→Prop} {d:D1 (i::is)} {e:D1 K}:RSx P kp xs j (i::is) pl hs vals ρ σ K d e =
  gK (gdOk ρ i.gd) (RSx P kp xs (j+1) is (pl++[.no]) (hs++[σ]) (setD i.dst vals (.tup [])) (ρ++[.tup []]) σ K .mk .mk)
   (oX P (kp.contains j) i.op (i.args.map (WY vals ρ)) σ (fun v σ'=>RSx P kp xs (j+1) is (pl++[plOf i (i.args.map (WY vals ρ)) σ]) (hs++[σ]) (setD i.dst vals v) (ρ++[v]) σ' K .mk .mk) .mk) .mk .mk:=Eq.trans rfl rfl
theorem EV {P:Program} {kp:List Nat} {xs:List (Nat × Nat)}:∀ (is:List Ins) (j:Nat) (pl:List PlT) (hs:List (List AObj)) (vals ρ:List AV) (σ:List AObj) (K:List AV→List AV→List AObj→Prop) (d:D1 is) (e:D1 K),RSx P kp xs j is pl hs vals ρ σ K d e→RPx P kp xs j is pl hs vals ρ σ K
 | [],_,_,_,_,_,_,_,_,_,h=>h
 | i :: is,j,pl,hs,vals,ρ,σ,K,_,_,h=>by
  simp only[RSx] at h
  simp only[RPx]
  unfold gK at h
  split at h
  ·exact h.elim
  ·rename_i hg;try simp only[hg]
   exact EV is _ _ _ _ _ _ _ _ _ h
  ·rename_i hg
   try simp only[hg]
   unfold oX at h
   split at h
   ·rename_i io hop
    unfold pK at h
    split at h
    ·exact h.elim
    ·rename_i v σ' hs';simp only[hop,hs'];exact EV is _ _ _ _ _ _ _ _ _ h
   ·rename_i hop
    have hpl:∀ as_,plOf i as_ σ=.no:=fun as_=>by simp[plOf,hop]
    unfold kK at h
    split at h
    ·rename_i fv as_ hkp ha
     simp only[hop,ha,hkp,if_true]
     obtain ⟨v,g1,g2,g3⟩:=h
     refine ⟨v,g1,g2,?_⟩
     have g3:=EV is _ _ _ _ _ _ _ _ _ g3
     rwa [hpl] at g3
    ·rename_i fv as_ hkp ha
     simp only[hop,ha,hkp,if_false,QT]
     obtain ⟨v,τ,g1,g2,g3⟩:=h
     refine ⟨v,τ,g1,g2,?_⟩
     have g3:=EV is _ _ _ _ _ _ _ _ _ g3
     rwa [hpl] at g3
    ·exact h.elim
def IS (P:Program) (fx:Fx):(ic:IC)→St→(Q:Exit→St→Prop)→D1 ic→D1 Q→Prop
 | .skip,s,Q,_,_=>Q .normal s
 | .label _,s,Q,_,_=>Q .normal s
 | .exit i,s,Q,_,_=>Q (.exit i) s
 | .ret,s,Q,_,_=>Q .ret s
 | .seq a b,s,Q,_,_=>IS P fx a s (fun e s'=>match e with | .normal=>IS P fx b s' Q .mk .mk | e=>Q e s') .mk .mk
 | .block i a,s,Q,_,_=>IS P fx a s (fun e s'=>match e with | .exit i'=>if i'=i then Q .normal s' else Q (.exit i') s' | e=>Q e s') .mk .mk
 | .cond i a b,s,Q,_,_=>cK (s.vals.getD i .undef) (IS P fx a s Q .mk .mk) (IS P fx b s Q .mk .mk) .mk .mk
 | .loop a,s,Q,_,_=>ILk P fx a s Q .mk .mk
 | .scope a,s,Q,_,_=>IS P fx a s (fun e s'=>match e with | .goto _=>False | e=>Q e s') .mk .mk
 | .region is,s,Q,_,_=>RS P is s.vals [] s.heap (fun vals _ σ=>Q .normal ⟨vals,σ⟩) .mk .mk
 | .draw dirs is _,s,Q,_,_=>DWk P fx dirs is s Q .mk .mk
 | .rangef g ps assign body _ _,s,Q,_,_=>RWk P fx g ps assign body s Q .mk .mk .mk
section
variable {P:Program} {fx:Fx} {s:St} {Q:Exit→St→Prop} {e:D1 Q}
theorem IS_skip {d:D1 IC.skip}:IS P fx .skip s Q d e=Q .normal s:=Eq.trans rfl rfl
theorem IS_label {l:Nat} {d:D1 (IC.label l)}:IS P fx (.label l) s Q d e=Q .normal s:=Eq.trans rfl rfl
theorem IS_exit {i:Nat} {d:D1 (IC.exit i)}:IS P fx (.exit i) s Q d e=Q (.exit i) s:=Eq.trans rfl rfl
theorem IS_ret {d:D1 IC.ret}:IS P fx .ret s Q d e=Q .ret s:=Eq.trans rfl rfl
def kSeq (P:Program) (fx:Fx) (b:IC) (Q:Exit→St→Prop):Exit→St→Prop:=fun e s'=>match e with | .normal=>IS P fx b s' Q .mk .mk | e=>Q e s'
def Qal (i:Nat) (Q:Exit→St→Prop):Exit→St→Prop:=fun e s'=>match e with | .exit i'=>if i'=i then Q .normal s' else Q (.exit i') s' | e=>Q e s'
def Qak (Q:Exit→St→Prop):Exit→St→Prop:=fun e s'=>match e with | .goto _=>False | e=>Q e s'
def kReg (Q:Exit→St→Prop):List AV→List AV→List AObj→Prop:=fun vals _ σ=>Q .normal ⟨vals,σ⟩
theorem kSeq_n {b:IC}:kSeq P fx b Q .normal s=IS P fx b s Q .mk .mk:=Eq.trans rfl rfl
theorem kSeq_x {b:IC} {i:Nat}:kSeq P fx b Q (.exit i) s=Q (.exit i) s:=Eq.trans rfl rfl
theorem kSeq_r {b:IC}:kSeq P fx b Q .ret s=Q .ret s:=Eq.trans rfl rfl
theorem kBlock_n {i:Nat}:Qal i Q .normal s=Q .normal s:=Eq.trans rfl rfl
theorem kBlock_x {i i':Nat}:Qal i Q (.exit i') s=if i'=i then Q .normal s else Q (.exit i') s:=Eq.trans rfl rfl
theorem kBlock_r {i:Nat}:Qal i Q .ret s=Q .ret s:=Eq.trans rfl rfl
theorem kScope_n:Qak Q .normal s=Q .normal s:=Eq.trans rfl rfl
theorem kScope_x {i':Nat}:Qak Q (.exit i') s=Q (.exit i') s:=Eq.trans rfl rfl
theorem kScope_r:Qak Q .ret s=Q .ret s:=Eq.trans rfl rfl
theorem kReg_n {vals ρ:List AV} {σ:List AObj}:kReg Q vals ρ σ=Q .normal ⟨vals,σ⟩:=Eq.trans rfl rfl
theorem IS_seq {a b:IC} {d:D1 (IC.seq a b)}:IS P fx (.seq a b) s Q d e=IS P fx a s (kSeq P fx b Q) .mk .mk:=Eq.trans rfl rfl
theorem IS_block {i:Nat} {a:IC} {d:D1 (IC.block i a)}:IS P fx (.block i a) s Q d e=IS P fx a s (Qal i Q) .mk .mk:=Eq.trans rfl rfl
theorem IS_cond {i:Nat} {a b:IC} {d:D1 (IC.cond i a b)}:IS P fx (.cond i a b) s Q d e=cK (s.vals.getD i .undef) (IS P fx a s Q .mk .mk) (IS P fx b s Q .mk .mk) .mk .mk:=Eq.trans rfl rfl
theorem IS_loop {a:IC} {d:D1 (IC.loop a)}:IS P fx (.loop a) s Q d e=ILk P fx a s Q .mk .mk:=Eq.trans rfl rfl
theorem IS_scope {a:IC} {d:D1 (IC.scope a)}:IS P fx (.scope a) s Q d e=IS P fx a s (Qak Q) .mk .mk:=Eq.trans rfl rfl
theorem QfG {is:List Ins} {d:D1 (IC.region is)}:IS P fx (.region is) s Q d e=RS P is s.vals [] s.heap (kReg Q) .mk .mk:=Eq.trans rfl rfl
theorem IS_draw {dirs:List (List Nat)} {is:List Ins} {pds:List (List Nat)} {d:D1 (IC.draw dirs is pds)}:IS P fx (.draw dirs is pds) s Q d e=DWk P fx dirs is s Q .mk .mk:=Eq.trans rfl rfl
theorem IS_dr {dirs:List (List Nat)} {is:List Ins} {d:D1 (IC.dr dirs is)}:IS P fx (.dr dirs is) s Q d e=DWk P fx dirs is s Q .mk .mk:=Eq.trans rfl rfl
theorem QfH {g:Opd} {ps:Array Nat} {assign body:Code} {ia ib:IC} {d:D1 (IC.rangef g ps assign body ia ib)}:IS P fx (.rangef g ps assign body ia ib) s Q d e=RWk P fx g ps assign body s Q .mk .mk .mk:=Eq.trans rfl rfl
end
theorem BC {P:Program} {fx:Fx}:∀ (ic:IC) (s:St) (Q Q':Exit→St→Prop),(∀ e s,Q e s→Q' e s)→IW P fx ic s Q→IW P fx ic s Q':=by
 intro ic
 induction ic with
 | skip=>intro s Q Q' hq h;exact hq _ _ h
 | label _=>intro s Q Q' hq h;exact hq _ _ h
 | exit _=>intro s Q Q' hq h;exact hq _ _ h
 | ret=>intro s Q Q' hq h;exact hq _ _ h
 | seq a b iha ihb =>
  intro s Q Q' hq h
  refine iha s _ _ ?_ h
  intro e s' h'
  cases e with
  | normal=>exact ihb s' Q Q' hq h'
  | _=>exact hq _ _ h'
 | block i a iha =>
  intro s Q Q' hq h
  refine iha s _ _ ?_ h
  intro e s' h'
  cases e with
  | exit i' =>
   simp only at h' ⊢
   by_cases hi:i'=i
   ·rw[if_pos hi] at h' ⊢;exact hq _ _ h'
   ·rw[if_neg hi] at h' ⊢;exact hq _ _ h'
  | _=>exact hq _ _ h'
 | cond i a b iha ihb =>
  intro s Q Q' hq h
  obtain ⟨t,h1,h2⟩:=h
  refine ⟨t,h1,?_⟩
  cases t with
  | true=>exact iha s Q Q' hq h2
  | false=>exact ihb s Q Q' hq h2
 | loop a _=>intro s Q Q' hq h;exact fun c hc=>(h c hc).mono hq
 | scope a iha =>
  intro s Q Q' hq h
  refine iha s _ _ ?_ h
  intro e s' h'
  cases e with
  | goto l=>exact h'
  | _=>exact hq _ _ h'
 | region is =>
  intro s Q Q' hq h
  have key:∀ (is:List Ins) (vals ρ:List AV) (σ:List AObj) (K K':List AV→List AV→List AObj→Prop),(∀ a b c,K a b c→K' a b c)→RG P is vals ρ σ K→RG P is vals ρ σ K':=by
   intro is
   induction is with
   | nil=>intro vals ρ σ K K' hk h;exact hk _ _ _ h
   | cons i is ih =>
    intro vals ρ σ K K' hk h
    simp only[RG] at h ⊢
    split at h
    ·exact h
    ·rename_i hg;exact ih _ _ _ _ _ hk h
    ·rename_i hg
     split at h
     ·rename_i hop
      split at h
      ·rename_i hs;exact ih _ _ _ _ _ hk h
      ·exact h
     ·rename_i hop ha;exact h.mono fun r τ hr=>ih _ _ _ _ _ hk hr
     ·exact h
  exact key is _ _ _ _ _ (fun a b c h=>hq _ _ h) h
 | draw dirs is pds=>intro s Q Q' hq h;exact fun id ops h1 h2=>(h id ops h1 h2).mono hq
 | rangef g ps assign body ia ib _ _ =>
  intro s Q Q' hq h
  obtain ⟨gf,cap,h1,h2,h3,h4⟩:=h
  refine ⟨gf,cap,h1,h2,h3,h4.mono ?_⟩
  rintro r σ' ⟨r2,g1,g2,g3⟩
  refine ⟨r2,g1,g2,?_⟩
  cases hp:r2.pending with
  | none=>rw[hp] at g3;exact hq _ _ g3
  | some c=>rw[hp] at g3;exact W.mono g3 hq
theorem VT {P:Program} {fx:Fx}:∀ (ic:IC) (s:St) (Q:Exit→St→Prop) (d:D1 ic) (e:D1 Q),IS P fx ic s Q d e→IW P fx ic s Q:=by
 intro ic
 induction ic with
 | skip=>intro s Q _ _ h;exact h
 | label _=>intro s Q _ _ h;exact h
 | exit _=>intro s Q _ _ h;exact h
 | ret=>intro s Q _ _ h;exact h
 | seq a b iha ihb =>
  intro s Q _ _ h
  refine BC a s _ _ ?_ (iha s _ _ _ h)
  intro e s' h'
  cases e with
  | normal=>exact ihb s' Q _ _ h'
  | _=>exact h'
 | block i a iha=>intro s Q _ _ h;exact iha s _ _ _ h
 | cond i a b iha ihb =>
  intro s Q _ _ h
  simp only[IS] at h
  unfold cK at h
  split at h
  ·rename_i hv;exact ⟨true,hv,iha s Q _ _ h⟩
  ·rename_i hv;exact ⟨false,hv,ihb s Q _ _ h⟩
  ·exact h.elim
 | loop a _=>intro s Q _ _ h;exact h
 | scope a iha=>intro s Q _ _ h;exact iha s _ _ _ h
 | region is=>intro s Q _ _ h;exact T2 is _ _ _ _ _ _ h
 | draw dirs is pds=>intro s Q _ _ h;exact h
 | rangef g ps assign body ia ib _ _=>intro s Q _ _ h;exact h
def kEnd (res:List RC) (Q:AV→List AObj→Prop):Exit→St→Prop:=fun e s'=>match e with
 | .normal | .ret=>rK (RL s'.vals s'.heap res) (fun r=>Q r s'.heap) .mk
 | _=>False
theorem kEnd_n {res:List RC} {Q:AV→List AObj→Prop} {s:St}:kEnd res Q .normal s=rK (RL s.vals s.heap res) (fun r=>Q r s.heap) .mk:=Eq.trans rfl rfl
theorem kEnd_r {res:List RC} {Q:AV→List AObj→Prop} {s:St}:kEnd res Q .ret s=rK (RL s.vals s.heap res) (fun r=>Q r s.heap) .mk:=Eq.trans rfl rfl
theorem ZF {P:Program} {f:FuncId} {ic:IC} {vars:List Nat} {N:Nat} {res:List RC} {p:Bool} {args:List AV} {σ:List AObj} {Q:AV→List AObj→Prop} (hf:FnOk P f ⟨ic,vars,N,res,p⟩) (hargs:args.length≤N)
  (h:IS P ⟨vars,N,none,σ.length⟩ ic ⟨Y5 vars args,σ⟩ (kEnd res Q) .mk .mk):AC P f args σ Q:=by
 obtain ⟨fn,c,h1,h2,h3,h4,h5,h6⟩:=hf.ok
 dsimp only at h4 h5 h6
 subst h4
 have hr:∀ vals heap,UB P vars vals heap fn.results.toList=RL vals heap res:=fun vals heap=>BY h6
 refine AC_IW vars h1 h2 h3 hargs h5 (BC ic _ _ _ ?_ (VT ic _ _ _ _ h))
 intro e s' h'
 have key:rK (RL s'.vals s'.heap res) (fun r=>Q r s'.heap) .mk→∃ r,UB P vars s'.vals s'.heap fn.results.toList=some r∧Q r s'.heap:=by
  intro h'
  unfold rK at h'
  split at h'
  ·exact h'.elim
  ·rename_i v hv;exact ⟨v,by rw[hr];exact hv,h'⟩
 cases e with
 | normal=>exact key h'
 | ret=>exact key h'
 | _=>exact h'
theorem DW_s {P:Program} {fx:Fx} {s:St} {Q:Exit→St→Prop} {dirs:List (List Nat)} {is:List Ins} (kp:List Nat) (xs:List (Nat × Nat)) (hmix:P.follows .mixedOrders=true) (hord:RQ dirs is (Qbd dirs []) kp xs=true) (hvl:s.vals.length=fx.vars.length)
  (h:RSx P kp xs 0 is [] [] s.vals [] s.heap (kReg Q) .mk .mk):DW P fx dirs is s Q:=DW_ordx kp xs hmix hord hvl (EV _ _ _ _ _ _ _ _ _ _ h)
def kUn (P:Program) (fx:Fx) (a:IC) (Q:Exit→St→Prop):Exit→St→Prop:=fun e s'=>match e with | .normal=>IL P fx a s' Q | e=>Q e s'
theorem kUn_n {P:Program} {fx:Fx} {a:IC} {Q:Exit→St→Prop} {s:St}:kUn P fx a Q .normal s=ILk P fx a s Q .mk .mk:=Eq.trans rfl rfl
theorem kUn_x {P:Program} {fx:Fx} {a:IC} {Q:Exit→St→Prop} {s:St} {i:Nat}:kUn P fx a Q (.exit i) s=Q (.exit i) s:=Eq.trans rfl rfl
theorem kUn_r {P:Program} {fx:Fx} {a:IC} {Q:Exit→St→Prop} {s:St}:kUn P fx a Q .ret s=Q .ret s:=Eq.trans rfl rfl
theorem J1 {P:Program} {fx:Fx} {a:IC} {s:St} {Q:Exit→St→Prop} (h:IS P fx a s (kUn P fx a Q) .mk .mk):IL P fx a s Q:=QfI (VT _ _ _ _ _ h)
def kFor (fx:Fx) (c:Prop) (S:St→Prop) (Q:Exit→St→Prop):Exit→St→Prop:=fun e s'=>match e with | .normal=>c∧∃ s'',Weak fx s' s''∧S s'' | e=>Q e s'
theorem kFor_x {fx:Fx} {c:Prop} {S:St→Prop} {Q:Exit→St→Prop} {i:Nat} {s:St}:kFor fx c S Q (.exit i) s=Q (.exit i) s:=Eq.trans rfl rfl
theorem kFor_r {fx:Fx} {c:Prop} {S:St→Prop} {Q:Exit→St→Prop} {s:St}:kFor fx c S Q .ret s=Q .ret s:=Eq.trans rfl rfl
theorem ZL {fx:Fx} {c:Prop} {S:St→Prop} {Q:Exit→St→Prop} {s:St} (hc:c) (h:S s):kFor fx c S Q .normal s:=⟨hc,s,Weak.refl _ _,h⟩
theorem AS {fx:Fx} {c:Prop} {S:St→Prop} {Q:Exit→St→Prop} {s s':St} (hc:c) (hw:Weak fx s s') (h:S s'):kFor fx c S Q .normal s:=⟨hc,s',hw,h⟩
theorem ZW {P:Program} {fx:Fx} {a:IC} {Q:Exit→St→Prop} (n:Nat) (S:Nat→St→Prop)
  (h:∀ i s,i≤n→S i s→IS P fx a s (kFor fx (i<n) (S (i+1)) Q) .mk .mk) (i:Nat) (hi:i≤n) {s:St} (hs:S i s):IL P fx a s Q:=by
 intro c hc
 have key:∀ (k i:Nat) (s:St),n-i=k→i≤n→S i s→WL P fx c s Q:=by
  intro k
  induction k with
  | zero =>
   intro i s hk hi hs
   refine FG ((Y6 c a s _ hc (VT _ _ _ _ _ (h i s hi hs))).mono ?_)
   intro e s' hq
   cases e with
   | normal=>exact absurd hq.1 (by omega)
   | _=>exact hq
  | succ k ih =>
   intro i s hk hi hs
   refine FG ((Y6 c a s _ hc (VT _ _ _ _ _ (h i s hi hs))).mono ?_)
   intro e s' hq
   cases e with
   | normal =>
    obtain ⟨h1,s'',h2,h3⟩:=hq
    exact (ih (i+1) s'' (by omega) h1 h3).weak h2
   | _=>exact hq
 exact key (n-i) i s rfl hi hs
end Go.Proofs.YtogjcmnopidfpaaGreat.AM

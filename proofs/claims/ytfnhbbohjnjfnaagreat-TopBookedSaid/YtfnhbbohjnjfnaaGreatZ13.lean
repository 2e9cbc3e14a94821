/- Parts of the proof, joined: AmYe to AmYh. -/
import Derived.Test.YtfnhbbohjnjfnaaGreatZ12
set_option linter.unusedVariables false
set_option linter.unusedSimpArgs false
set_option linter.unusedSectionVars false
namespace Go.Proofs.YtfnhbbohjnjfnaaGreat.AM
variable [Dr]
open Go
theorem QK.caps {m:LM} {X:Nat→Prop} {w:World} {l off len esz:Nat}:∀ (pre:List AV) {post:List AV} {vs:List Value},QK m X w (pre ++ .sl l off len esz::post) vs→∃ cap,len≤cap∧QK m X w (pre ++ .slc l off len cap esz::post) vs
 | [],post,[],h=>by simp[QK] at h
 | [],post,v::vs,h=>by
  simp only[List.nil_append,QK,VRel] at h ⊢
  obtain ⟨⟨b,cap,h1,h2,h3,h4⟩,h5⟩:=h
  exact ⟨cap,h3,⟨b,h1,h2,h3,h4⟩,h5⟩
 | a::pre,post,[],h=>by simp[QK] at h
 | a::pre,post,v::vs,h=>by
  simp only[List.cons_append,QK] at h ⊢
  obtain ⟨cap,h1,h2⟩:=QK.caps pre h.2
  exact ⟨cap,h1,h.1,h2⟩
theorem AC.caps {P:Program} {f:FuncId} {l off len esz:Nat} {post:List AV} {σ:List AObj} {K:AV→List AObj→Prop} (pre:List AV) (h:∀ cap,len≤cap→AC P f (pre ++ .slc l off len cap esz::post) σ K):AC P f (pre ++ .sl l off len esz::post) σ K:=by
 refine ⟨(h len (QG _)).1,fun m X w cargs ha hh=>?_⟩
 obtain ⟨cap,h1,h2⟩:=QK.caps pre ha
 exact (h cap h1).2 m X w cargs h2 hh
end Go.Proofs.YtfnhbbohjnjfnaaGreat.AM
namespace Go.Proofs.YtfnhbbohjnjfnaaGreat.AM
variable [Dr]
open Go
variable {P:Program} {fx:Fx}
def SW (P:Program) (fx:Fx) (ic:IC) (s:St) (Q:Exit→St→Prop):Prop:=∀ c,QL P fx.vars fx.N c=some ic→W P fx c s Q
theorem SW_of {ic:IC} {s:St} {Q:Exit→St→Prop} (h:IS P fx ic s Q .mk .mk):SW P fx ic s Q:=fun c hc=>Y6 c ic s Q hc (VT ic s Q _ _ h)
theorem SW.weak {ic:IC} {s s':St} {Q:Exit→St→Prop} (hw:Weak fx s s') (h:SW P fx ic s' Q):SW P fx ic s Q:=fun c hc=>(h c hc).weak hw
def kSW (P:Program) (fx:Fx) (b:IC) (Q:Exit→St→Prop):Exit→St→Prop:=fun e s'=>match e with | .normal=>SW P fx b s' Q | e=>Q e s'
theorem kSW_n {b:IC} {Q:Exit→St→Prop} {s:St}:kSW P fx b Q .normal s=SW P fx b s Q:=Eq.trans rfl rfl
theorem kSW_r {b:IC} {Q:Exit→St→Prop} {s:St}:kSW P fx b Q .ret s=Q .ret s:=Eq.trans rfl rfl
theorem SW_seq {a b:IC} {s:St} {Q:Exit→St→Prop} (h:IS P fx a s (kSW P fx b Q) .mk .mk):SW P fx (.seq a b) s Q:=by
 have h:=VT a s _ _ _ h
 intro c
 induction c with
 | seq x y _ _ =>
  intro hc
  simp only[QL,QB,QA] at hc
  obtain ⟨x',hx,y',hy,he⟩:=hc
  cases he
  refine QcO ((Y6 x a s _ hx h).mono ?_)
  intro e s' hq
  cases e with
  | normal=>exact hq y hy
  | _=>exact hq
 | cond o x y ihx ihy =>
  intro hc
  cases o with
  | const v =>
   cases v <;> simp only[QL,reduceCtorEq] at hc
   rename_i t
   cases t with
   | true=>simp only[if_true] at hc;exact XD (ihx hc)
   | false=>simp only[QT,if_false] at hc;exact XD (ihy hc)
  | tmp t =>
   simp only[QL,QB,QA] at hc
   obtain ⟨_,_,_,_,_,_,he⟩:=hc
   cases he
  | global g=>simp[QL] at hc
  | func f=>simp[QL] at hc
 | region id ops dr =>
  intro hc
  cases dr <;> simp[QL] at hc
 | rangeFunc g ps assign body _ _ =>
  intro hc
  simp only[QL,QB,QA] at hc
  obtain ⟨_,_,_,_,he⟩:=hc
  cases he
 | skip=>intro hc;simp[QL] at hc
 | label l=>intro hc;simp[QL] at hc
 | exit i=>intro hc;simp[QL] at hc
 | ret=>intro hc;simp[QL] at hc
 | block i a _=>intro hc;simp[QL] at hc
 | loop a _=>intro hc;simp[QL] at hc
 | scope a _=>intro hc;simp[QL] at hc
 | goto l=>intro hc;simp[QL] at hc
 | refuse r=>intro hc;simp[QL] at hc
theorem AC_SW {f:FuncId} {ic:IC} {vars:List Nat} {N:Nat} {res:List RC} {p:Bool} {args:List AV} {σ:List AObj} {Q:AV→List AObj→Prop} (hf:FnOk P f ⟨ic,vars,N,res,p⟩) (hargs:args.length≤N)
  (h:SW P ⟨vars,N,none,σ.length⟩ ic ⟨Y5 vars args,σ⟩ (kEnd res Q)):AC P f args σ Q:=by
 obtain ⟨fn,c,h1,h2,h3,h4,h5,h6⟩:=hf.ok
 dsimp only at h4 h5 h6
 subst h4
 have hr:∀ vals heap,UB P vars vals heap fn.results.toList=RL vals heap res:=fun vals heap=>BY h6
 refine IB h1 h2 (RE h1 h3 h2) hargs ((h c h5).mono ?_)
 intro e s' h'
 have key:rK (RL s'.vals s'.heap res) (fun r=>Q r s'.heap) .mk→∃ r,UB P vars s'.vals s'.heap fn.results.toList=some r∧Q r s'.heap:=by
  intro h'
  unfold rK at h'
  split at h'
  ·exact h'.elim
  ·rename_i v hv;exact ⟨v,by rw[hr];exact hv,h'⟩
 cases e with
 | normal=>exact key h'
 | ret=>exact key h'
 | _=>exact h'.elim
theorem KS.get {p:CV→Prop} {σ:List AObj}:∀ {as_ bs:List AV},KS p σ as_ bs→∀ i,FrzV p σ (as_.getD i .undef) (bs.getD i .undef)
 | _,_,.nil,i=>by simpa[List.getD] using FrzV.un _
 | _,_,.cons h _,0=>by simpa[List.getD] using h
 | _,_,.cons _ h,i+1=>by simpa[List.getD] using h.get i
theorem SW.freeze {ic:IC} {vals vals':List AV} {σ:List AObj} {Q:Exit→St→Prop} (h0:fx.n0=0) (hv:KS anyC σ vals vals') (h:SW P fx ic ⟨vals',[]⟩ Q):SW P fx ic ⟨vals,σ⟩ Q :=
 h.weak (Weak.freeze h0 hv.get)
def PPost (m:LM) (X:Nat→Prop) (w:World) (σ:List AObj) (ch:List PanicEntry) (Q:List AObj→Prop):Ending→World→Prop :=
 fun e w'=>∃ σ' m',e=.panicked ch∧Q σ'∧HRel m' X σ' w'∧Step σ.length m X w m' w'∧σ.length≤σ'.length
def ACp (P:Program) (f:FuncId) (args:List AV) (σ:List AObj) (ch:List PanicEntry) (Q:List AObj→Prop):Prop :=
 PI P f∧∀ m X w cargs,QK m X w args cargs→HRel m X σ w→CallsIn Fence.wide 0 P f cargs.toArray w (PPost m X w σ ch Q)
theorem ACp.mono {f:FuncId} {args:List AV} {σ:List AObj} {ch:List PanicEntry} {Q Q':List AObj→Prop} (h:ACp P f args σ ch Q) (hq:∀ σ',Q σ'→Q' σ'):ACp P f args σ ch Q' :=
 ⟨h.1,fun m X w cargs ha hh=>(h.2 m X w cargs ha hh).mono fun e w' ⟨σ',m',h1,h2,h3⟩=>⟨σ',m',h1,hq _ h2,h3⟩⟩
section
variable {X:Nat→Prop} {en:En}
end
end Go.Proofs.YtfnhbbohjnjfnaaGreat.AM
namespace Go.Proofs.YtfnhbbohjnjfnaaGreat.AM
variable [Dr]
open Go
variable {P:Program} {fx:Fx} {s:St} {Q:Exit→St→Prop} {f:FuncId}
def InF (f:FuncId) (F:Fence) (n:Nat) (P:Program) (c:Code) (Q:Exit→Act→World→Prop) (a:Act) (w:World):Prop :=
 ∀ (b:Frame) (k:List Item) (cs:List Frame),b.fn=f→b.roundOf=F.round→F.fn b.fn→F.room (cs.length+1+n) →
  ∃ e a' w',Q e a' w'∧ArrivesIn (Machine.fenced P F) P (lone (b.atR a (.code c::k)) cs w) b k cs e a' w'
theorem InF.of {F:Fence} {n:Nat} {c:Code} {Q:Exit→Act→World→Prop} {a:Act} {w:World} (h:c.wpIn F n P Q a w):InF f F n P c Q a w:=fun b k cs _ h1 h2 h3=>h b k cs h1 h2 h3
theorem InF.mono {F:Fence} {n:Nat} {c:Code} {Q Q':Exit→Act→World→Prop} {a:Act} {w:World} (h:InF f F n P c Q a w) (hq:∀ e a w,Q e a w→Q' e a w):InF f F n P c Q' a w :=
 fun b k cs h0 h1 h2 h3=>let ⟨e,a',w',q,r⟩:=h b k cs h0 h1 h2 h3;⟨e,a',w',hq _ _ _ q,r⟩
def WB (f:FuncId) (P:Program) (fx:Fx) (c:Code) (s:St) (Q:Exit→St→Prop):Prop :=
 ∀ m X en ac w,SRel fx m X en s ac w→rok fx m→InF f (fen m fx.r) 0 P c (Lift fx m X en w Q) ac w
theorem WB.of {c:Code} (h:W P fx c s Q):WB f P fx c s Q:=fun m X en ac w hs hr=>InF.of (h m X en ac w hs hr)
theorem WB.mono {c:Code} {Q':Exit→St→Prop} (h:WB f P fx c s Q) (hq:∀ e s',Q e s'→Q' e s'):WB f P fx c s Q' :=
 fun m X en ac w hs hr=>InF.mono (h m X en ac w hs hr) fun e ac' w' ⟨s',m',h1,h2⟩=>⟨s',m',hq _ _ h1,h2⟩
end Go.Proofs.YtfnhbbohjnjfnaaGreat.AM
namespace Go.Proofs.YtfnhbbohjnjfnaaGreat.AM
variable [Dr]
open Go
def Turn1 (k:Nat) (σ:List AObj) (a b:AV):Prop:=(a=b∧QR k b=true)∨FrzV anyC σ a b
inductive D2 (k:Nat) (σ:List AObj):List AV→List AV→Prop
 | nil:D2 k σ [] []
 | cons {a b:AV} {as_ bs:List AV}:Turn1 k σ a b→D2 k σ as_ bs→D2 k σ (a::as_) (b::bs)
theorem D2.len {k:Nat} {σ:List AObj} {as_ bs:List AV} (h:D2 k σ as_ bs):as_.length=bs.length:=by
 induction h with
 | nil=>rfl
 | cons _ _ ih=>simp[ih]
def Move1 (g:Nat→Nat) (k:Nat) (σ:List AObj) (a b:AV):Prop:=(a=ren g b∧QR k b=true)∨FrzV anyC σ a b
inductive PH (g:Nat→Nat) (k:Nat) (σ:List AObj):List AV→List AV→Prop
 | nil:PH g k σ [] []
 | cons {a b:AV} {as_ bs:List AV}:Move1 g k σ a b→PH g k σ as_ bs→PH g k σ (a::as_) (b::bs)
theorem PH.len {g:Nat→Nat} {k:Nat} {σ:List AObj} {as_ bs:List AV} (h:PH g k σ as_ bs):as_.length=bs.length:=by
 induction h with
 | nil=>rfl
 | cons _ _ ih=>simp[ih]
end Go.Proofs.YtfnhbbohjnjfnaaGreat.AM

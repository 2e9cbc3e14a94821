/- Parts of the proof, joined: AmD to AmH. -/
import Derived.Laws.CopyRow
import Derived.Laws.Entries
import Derived.Test.YtgkidpolomhghaaGreatDoorZ2
set_option linter.unusedVariables false
set_option linter.unusedSimpArgs false
set_option linter.unusedSectionVars false
namespace Go.Proofs.YtgkidpolomhghaaGreatDoor.AM
set_option linter.unusedSectionVars false
variable [Dr]
open Go
set_option linter.unusedVariables false
set_option linter.unusedSimpArgs false
def YP (P:Program) (s:Sem Next) (m:LM) (X:Nat→Prop) (σ:List AObj) (w:World) (r:AV) (σ':List AObj):Prop :=
 ∃ nx w' m',s.run P w=.ok nx w'∧((∃ v,nx=.value v∧VRel m' X w' r v)∨(nx=.skip∧r=.undef))∧HRel m' X σ' w'∧Step σ.length m X w m' w'
variable {P:Program} {m:LM} {X:Nat→Prop} {σ:List AObj} {w:World}
theorem FQ {s:Sem Next} {r:AV} {v:Value} (h:HRel m X σ w) (hs:s.run P w=.ok (.value v) w) (hr:VRel m X w r v):YP P s m X σ w r σ :=
 ⟨_,w,m,hs,.inl ⟨v,rfl,hr⟩,h,Step.refl _ _ _ _⟩
theorem VRel.int {k:IntKind} {n:Int} {v:Value} (h:VRel m X w (.cv (.int k n)) v):v=.int k n:=by simpa[VRel,CV.rep] using h
theorem VRel.bool {b:Bool} {v:Value} (h:VRel m X w (.cv (.bool b)) v):v=.bool b:=by simpa[VRel,CV.rep] using h
theorem VRel.str {s:ByteArray} {v:Value} (h:VRel m X w (.cv (.str s)) v):v=.string s:=by simpa[VRel,CV.rep] using h
theorem VRel.nilp {v:Value} (h:VRel m X w (.cv .nilp) v):v=.pointer none:=by simpa[VRel,CV.rep] using h
theorem VRel.nils {v:Value} (h:VRel m X w (.cv .nils) v):v=.slice none 0 0:=by simpa[VRel,CV.rep] using h
theorem VRel.nilf {v:Value} (h:VRel m X w (.cv .nilf) v):v=.nilFunc:=by simpa[VRel,CV.rep] using h
theorem VRel.mk_int (k:IntKind) (n:Int):VRel m X w (.cv (.int k n)) (.int k n):=by simp[VRel,CV.rep]
theorem VRel.mk_bool (b:Bool):VRel m X w (.cv (.bool b)) (.bool b):=by simp[VRel,CV.rep]
theorem VRel.mk_str (s:ByteArray):VRel m X w (.cv (.str s)) (.string s):=by simp[VRel,CV.rep]
theorem QK.one {a:AV} {vs:List Value} (h:QK m X w [a] vs):∃ v,vs=[v]∧VRel m X w a v:=by
 cases vs with
 | nil=>simp[QK] at h
 | cons v vs=>cases vs with
  | nil=>simp only[QK] at h;exact ⟨v,rfl,h.1⟩
  | cons=>simp[QK] at h
theorem QK.cons {a:AV} {as:List AV} {vs:List Value} (h:QK m X w (a::as) vs):∃ v us,vs=v::us∧VRel m X w a v∧QK m X w as us:=by
 cases vs with
 | nil=>simp[QK] at h
 | cons v vs=>simp only[QK] at h;exact ⟨v,vs,rfl,h.1,h.2⟩
theorem QK.nil' {vs:List Value} (h:QK m X w [] vs):vs=[]:=by
 cases vs with
 | nil=>rfl
 | cons=>simp[QK] at h
theorem QdG {op:BinOp} {k:IntKind} {x y:Int} {r:AV} (hop:RV op=false) (h:binI op k x y=some r) {t:TypeId} :
  ∃ v,(Go.binOp op t (.int k x) (.int k y)).run P w=.ok v w∧VRel m X w r v:=by
 cases op <;> simp only[binI,RV,QT,reduceCtorEq] at h hop <;>
  (first
   | (obtain rfl:=Option.some.inj h;refine ⟨_,by simp[Go.binOp,Op.intArith,Op.intBits,Op.intCmp];rfl,by simp[VRel,CV.rep]⟩)
   | (split at h <;> first | (cases h;done) | (obtain rfl:=Option.some.inj h;rename_i hy;refine ⟨_,by simp[Go.binOp,Op.intDiv,hy];rfl,by simp[VRel,CV.rep]⟩)))
theorem Qa0 {op:BinOp} {k k':IntKind} {x y:Int} {r:AV} (hop:RV op=true) (h:VK op k x y=some r) {t:TypeId} :
  ∃ v,(Go.binOp op t (.int k x) (.int k' y)).run P w=.ok v w∧VRel m X w r v:=by
 unfold VK at h
 split at h
 ·cases h
 ·rename_i hy
  cases op <;> simp only[RV,QT,reduceCtorEq] at h hop <;>
   (obtain rfl:=Option.some.inj h;refine ⟨_,by simp[Go.binOp,Op.shift,hy];rfl,by simp[VRel,CV.rep]⟩)
theorem QdF {op:BinOp} {x y:ByteArray} {r:AV} (h:binS op x y=some r) {t:TypeId} :
  ∃ v,(Go.binOp op t (.string x) (.string y)).run P w=.ok v w∧VRel m X w r v:=by
 cases op <;> simp only[binS,reduceCtorEq] at h <;>
  (first
   | (obtain rfl:=Option.some.inj h;refine ⟨_,by simp[Go.binOp,Op.stringOp];rfl,by simp[VRel,CV.rep]⟩)
   | (split at h <;> first | (cases h;done) | (obtain rfl:=Option.some.inj h;rename_i hy;refine ⟨_,by simp[Go.binOp,Op.stringOp];rw[if_neg (by simp[IntKind.max,IntKind.signed,IntKind.bits];omega)],by simp[VRel,CV.rep]⟩)))
theorem MB {op:BinOp} {t:TypeId} {xo yo:Operand} {k k':IntKind} {x y:Int}:(eqGuard op t xo yo (.int k x) (.int k' y)).run P w=.ok () w:=by
 cases op <;> simp[eqGuard]
theorem OY {op:BinOp} {t:TypeId} {xo yo:Operand} {x y:Bool}:(eqGuard op t xo yo (.bool x) (.bool y)).run P w=.ok () w:=by
 cases op <;> simp[eqGuard]
theorem MA {op:BinOp} {t:TypeId} {xo yo:Operand} {x y:ByteArray}:(eqGuard op t xo yo (.string x) (.string y)).run P w=.ok () w:=by
 cases op <;> simp[eqGuard]
theorem GN {op:BinOp} {t:TypeId} {xo yo:Operand} {x y:Option Addr}:(eqGuard op t xo yo (.pointer x) (.pointer y)).run P w=.ok () w:=by
 cases op <;> simp[eqGuard]
theorem UK {op:BinOp} {t:TypeId} {xo yo:Operand} {a b:Option Addr} {l c l' c':Nat}:(eqGuard op t xo yo (.slice a l c) (.slice b l' c')).run P w=.ok () w:=by
 cases op <;> simp[eqGuard]
theorem BU {op:BinOp} {t:TypeId} {xo yo:Operand} {f:Fn} {a b:Array Value}:(eqGuard op t xo yo (.func f a b) .nilFunc).run P w=.ok () w:=by
 cases op <;> simp[eqGuard]
theorem run_equal_bool {t:TypeId} (hu:P.underlying t=some .bool) (a b:Bool):(Op.equal t (.bool a) (.bool b)).run P w=.ok (a == b) w:=by
 show (Op.equalIn (9999+1) t _ _).run P w=_
 rw[Op.equalIn];simp only[Sem.run_bind,run_underlying hu,Result.andThen_ok,Sem.run_pure]
theorem FT {t e:TypeId} (hu:P.underlying t=some (.pointer e)) (b:Option Addr):(Op.equal t (.pointer b) (.pointer none)).run P w=.ok b.isNone w:=by
 show (Op.equalIn (9999+1) t _ _).run P w=_
 cases b <;> (rw[Op.equalIn];simp only[Sem.run_bind,run_underlying hu,Result.andThen_ok,Sem.run_pure,Option.isNone])
theorem HD {t e:TypeId} (hu:P.underlying t=some (.slice e)) (b:Option Addr) (l c l' c':Nat):(Op.equal t (.slice b l c) (.slice none l' c')).run P w=.ok b.isNone w:=by
 show (Op.equalIn (9999+1) t _ _).run P w=_
 cases b <;> (rw[Op.equalIn];simp only[Sem.run_bind,run_underlying hu,Result.andThen_ok,Sem.run_pure,Option.isNone])
theorem BS {t:TypeId} {e e2:Array TypeId} {e3:Bool} (hu:P.underlying t=some (.func e e2 e3)) (f:Fn) (a b:Array Value):(Op.equal t (.func f a b) .nilFunc).run P w=.ok false w:=by
 show (Op.equalIn (9999+1) t _ _).run P w=_
 rw[Op.equalIn];simp only[Sem.run_bind,run_underlying hu,Result.andThen_ok,Sem.run_pure]
theorem QdH {op:BinOp} {t:TypeId} {tk:TK} {a b r:AV} {x y:Value} {xo yo:Operand} (ht:tkOf P t=some tk) (hx:VRel m X w a x) (hy:VRel m X w b y) (h:binF op tk a b=some r) :
  ∃ v,(do eqGuard op t xo yo x y;Go.binOp op t x y).run P w=.ok v w∧VRel m X w r v:=by
 unfold binF at h
 split at h
 ·rename_i k n k' n'
  obtain rfl:=hx.int;obtain rfl:=hy.int
  simp only[Sem.run_bind,MB,Result.andThen_ok]
  split at h
  ·rename_i hs;exact Qa0 hs h
  ·rename_i hs
   split at h
   ·rename_i hk;subst hk;exact QdG (by simpa using hs) h
   ·cases h
 ·obtain rfl:=hx.bool;obtain rfl:=hy.bool
  simp only[Sem.run_bind,OY,Result.andThen_ok]
  have hu:P.underlying t=some .bool:=by
   unfold tkOf at ht;split at ht <;> simp_all
  cases op <;> simp only[K8,reduceCtorEq] at h <;> obtain rfl:=Option.some.inj h <;>
   exact ⟨_,by simp[Go.binOp,run_equal_bool hu];rfl,by simp[VRel,CV.rep]⟩
 ·obtain rfl:=hx.str;obtain rfl:=hy.str
  simp only[Sem.run_bind,MA,Result.andThen_ok]
  exact QdF h
 ·obtain rfl:=hx.nilp;obtain rfl:=hy.nilp
  simp only[Sem.run_bind,GN,Result.andThen_ok]
  obtain ⟨e,hu⟩:∃ e,P.underlying t=some (.pointer e):=by
   unfold tkOf at ht;split at ht <;> simp_all
  cases op <;> simp only[K8,reduceCtorEq] at h <;> obtain rfl:=Option.some.inj h <;>
   exact ⟨_,by simp[Go.binOp,FT hu];rfl,by simp[VRel,CV.rep]⟩
 ·simp only[VRel] at hx;obtain ⟨b',hb',rfl⟩:=hx;obtain rfl:=hy.nilp
  simp only[Sem.run_bind,GN,Result.andThen_ok]
  obtain ⟨e,hu⟩:∃ e,P.underlying t=some (.pointer e):=by
   unfold tkOf at ht;split at ht <;> simp_all
  cases op <;> simp only[K8,reduceCtorEq] at h <;> obtain rfl:=Option.some.inj h <;>
   exact ⟨_,by simp[Go.binOp,FT hu];rfl,by simp[VRel,CV.rep]⟩
 ·simp only[VRel,CV.rep] at hx;obtain ⟨b',rfl,_⟩:=hx;obtain rfl:=hy.nilp
  simp only[Sem.run_bind,GN,Result.andThen_ok]
  obtain ⟨e,hu⟩:∃ e,P.underlying t=some (.pointer e):=by
   unfold tkOf at ht;split at ht <;> simp_all
  cases op <;> simp only[K8,reduceCtorEq] at h <;> obtain rfl:=Option.some.inj h <;>
   exact ⟨_,by simp[Go.binOp,FT hu];rfl,by simp[VRel,CV.rep]⟩
 ·obtain rfl:=hx.nils;obtain rfl:=hy.nils
  simp only[Sem.run_bind,UK,Result.andThen_ok]
  obtain ⟨e,hu⟩:∃ e,P.underlying t=some (.slice e):=by
   unfold tkOf at ht;split at ht <;> simp_all
  cases op <;> simp only[K8,reduceCtorEq] at h <;> obtain rfl:=Option.some.inj h <;>
   exact ⟨_,by simp[Go.binOp,HD hu];rfl,by simp[VRel,CV.rep]⟩
 ·simp only[VRel] at hx;obtain ⟨b',cap,hb',rfl,_⟩:=hx;obtain rfl:=hy.nils
  simp only[Sem.run_bind,UK,Result.andThen_ok]
  obtain ⟨e,hu⟩:∃ e,P.underlying t=some (.slice e):=by
   unfold tkOf at ht;split at ht <;> simp_all
  cases op <;> simp only[K8,reduceCtorEq] at h <;> obtain rfl:=Option.some.inj h <;>
   exact ⟨_,by simp[Go.binOp,HD hu];rfl,by simp[VRel,CV.rep]⟩
 ·simp only[VRel] at hx;obtain ⟨vs,rfl,_⟩:=hx;obtain rfl:=hy.nilf
  simp only[Sem.run_bind,BU,Result.andThen_ok]
  obtain ⟨e,e2,e3,hu⟩:∃ e e2 e3,P.underlying t=some (.func e e2 e3):=by
   unfold tkOf at ht;split at ht <;> simp_all
  cases op <;> simp only[K8,reduceCtorEq] at h <;> obtain rfl:=Option.some.inj h <;>
   exact ⟨_,by simp[Go.binOp,BS hu];rfl,by simp[VRel,CV.rep]⟩
 ·simp only[VRel] at hx;obtain ⟨b',hb',rfl,_⟩:=hx;obtain rfl:=hy.nils
  simp only[Sem.run_bind,UK,Result.andThen_ok]
  obtain ⟨e,hu⟩:∃ e,P.underlying t=some (.slice e):=by
   unfold tkOf at ht;split at ht <;> simp_all
  cases op <;> simp only[K8,reduceCtorEq] at h <;> obtain rfl:=Option.some.inj h <;>
   exact ⟨_,by simp[Go.binOp,HD hu];rfl,by simp[VRel,CV.rep]⟩
 ·simp only[VRel,CV.rep] at hx;obtain rfl:=hy.nils
  rcases hx with ⟨_,h0,_⟩ | ⟨a',cap',rfl,_⟩
  ·omega
  simp only[Sem.run_bind,UK,Result.andThen_ok]
  obtain ⟨e,hu⟩:∃ e,P.underlying t=some (.slice e):=by
   unfold tkOf at ht;split at ht <;> simp_all
  cases op <;> simp only[K8,reduceCtorEq] at h <;> obtain rfl:=Option.some.inj h <;>
   exact ⟨_,by simp[Go.binOp,HD hu];rfl,by simp[VRel,CV.rep]⟩
 ·cases h
end Go.Proofs.YtgkidpolomhghaaGreatDoor.AM
namespace Go.Proofs.YtgkidpolomhghaaGreatDoor.AM
variable [Dr]
open Go
variable {P:Program} {m:LM} {X:Nat→Prop} {σ:List AObj} {w:World}
def LM.put (m:LM) (l b:Nat):LM:=fun x=>if x=l then some b else m x
theorem LM.put_same (m:LM) (l b:Nat):m.put l b l=some b:=by simp[LM.put]
theorem LM.put_other (m:LM) {l b x:Nat} (h:x≠l):m.put l b x=m x:=by simp[LM.put,h]
theorem heap_alloc_old (w:World) (o:Obj) {b:Nat} (h:b<w.heap.size):(w.alloc o).heap[b]? = w.heap[b]? := by
 show (w.heap.push o)[b]? = _
 rw[K5,if_neg (by omega)]
theorem heap_alloc_new (w:World) (o:Obj):(w.alloc o).heap[w.heap.size]? = some o:=by
 show (w.heap.push o)[w.heap.size]? = _
 rw[K5,if_pos rfl]
theorem lt_of_heap {w:World} {b:Nat} {o:Obj} (h:w.heap[b]? = some o):b<w.heap.size:=(Q3.1 h).1
theorem Step.alloc (n0:Nat) (m:LM) (X:Nat→Prop) (w:World) (o:Obj) (l:Nat) (hl:n0≤l):Step n0 m X w (m.put l w.heap.size) (w.alloc o) where
 keep x hx:=LM.put_other m (by omega)
 new x b hb:=by
  by_cases hx:x=l
  ·subst hx;rw[LM.put_same] at hb;right;cases hb;exact QG _
  ·rw[LM.put_other m hx] at hb;exact .inl ⟨x,hb⟩
 size:=by simp
 fr b hb _:=heap_alloc_old w o hb
 shp b c e hb:=⟨c,by rw[heap_alloc_old w o (lt_of_heap hb)];exact hb,rfl⟩
 os:=rfl
 tape:=rfl
 output:=rfl
 drawn _:=QG _
theorem HRel.alloc (h:HRel m X σ w) (o:Obj) (ao:AObj) (ho:Mono m X w (m.put σ.length w.heap.size) X (w.alloc o)→ORel (m.put σ.length w.heap.size) X (w.alloc o) (some w.heap.size) ao) :
  HRel (m.put σ.length w.heap.size) X (σ++[ao]) (w.alloc o)∧Step σ.length m X w (m.put σ.length w.heap.size) (w.alloc o)∧Mono m X w (m.put σ.length w.heap.size) X (w.alloc o):=by
 have hs:=Step.alloc σ.length m X w o σ.length (QG _)
 have hm:=h.mono_of_step hs (QG _)
 refine ⟨⟨?_,?_,?_,?_,?_,h.gl.mono hm⟩,hs,hm⟩
 ·intro b hb;have:=h.xb b hb;simp;omega
 ·intro l b hb
  by_cases hl:l=σ.length
  ·subst hl;rw[LM.put_same] at hb;cases hb
   exact ⟨by simp,by simp⟩
  ·rw[LM.put_other m hl] at hb
   have:=h.dom l b hb
   exact ⟨by simp;omega,by simp;omega⟩
 ·intro l b o1 hb ho1 hv
  by_cases hl:l=σ.length
  ·subst hl;rw[LM.put_same] at hb;cases hb
   exact fun hx=>Nat.lt_irrefl _ (h.xb _ hx)
  ·rw[LM.put_other m hl] at hb
   rw[QE (h.dom l b hb).1] at ho1
   exact h.own l b o1 hb ho1 hv
 ·intro l l' b o2 hb hb' ho2 hv2
  by_cases hl:l=σ.length <;> by_cases hl':l'=σ.length
  ·omega
  ·subst hl;rw[LM.put_same] at hb;cases hb;rw[LM.put_other m hl'] at hb'
   have:=(h.dom _ _ hb').2;omega
  ·subst hl';rw[LM.put_same] at hb';cases hb';rw[LM.put_other m hl] at hb
   have:=(h.dom _ _ hb).2;omega
  ·rw[LM.put_other m hl] at hb;rw[LM.put_other m hl'] at hb'
   have h2:=(h.dom _ _ hb').1
   rw[QE h2] at ho2
   exact h.inj l l' b o2 hb hb' ho2 hv2
 ·intro l o1 ho1
  by_cases hl:l<σ.length
  ·rw[QE hl] at ho1
   rw[LM.put_other m (by omega)]
   have:=h.obj l o1 ho1
   cases hml:m l with
   | none=>rw[hml] at this;cases o1 <;> simp[ORel] at this ⊢
   | some b=>rw[hml] at this;exact ORel.mono hm (heap_alloc_old w o (h.dom l b hml).2) this
  ·rw[QS (by omega)] at ho1
   have hl':l=σ.length:=by
    rcases ZB (l-σ.length) 1 with h1 | h1
    ·omega
    ·rw[QN (by simpa using h1)] at ho1;cases ho1
   subst hl'
   simp at ho1;subst ho1
   rw[LM.put_same];exact ho hm
structure YZ (w w':World) (b:Nat):Prop where
 size:w'.heap.size=w.heap.size
 other:∀ k,k≠b→w'.heap[k]? = w.heap[k]?
 shp:∀ (c:Array Value) (e:TypeId),w.heap[b]? = some (Obj.cells c e (0,0))→∃ c',w'.heap[b]? = some (Obj.cells c' e (0,0))∧c'.size=c.size
 os:w'.os=w.os
 tape:w'.tape=w.tape
 output:w'.output=w.output
 drawn:w.drawn≤w'.drawn
theorem YZ.step {w':World} {b:Nat} (t:YZ w w' b) (n0:Nat) {l:Nat} (hl:m l=some b) (hx:¬ X b):Step n0 m X w m w' where
 keep _ _:=rfl
 new x c hc:=.inl ⟨x,hc⟩
 size:=by rw[t.size];exact QG _
 fr k hk hno:=t.other k fun hkb=>by
  subst hkb
  rcases hno with h | h
  ·exact hx h
  ·exact h l hl
 shp k c e hk:=by
  by_cases hkb:k=b
  ·subst hkb;exact t.shp c e hk
  ·exact ⟨c,by rw[t.other k hkb];exact hk,rfl⟩
 os:=t.os
 tape:=t.tape
 output:=t.output
 drawn _:=t.drawn
theorem HRel.turn (h:HRel m X σ w) {w':World} {l b:Nat} {o o':AObj} (hl:m l=some b) (ho:σ[l]? = some o) (hlive:o.live) (t:YZ w w' b)
  (hr:Mono m X w m X w'→ORel m X w' (some b) o'):HRel m X (σ.set l o') w'∧Step σ.length m X w m w'∧Mono m X w m X w':=by
 have hs:=t.step (X:=X) σ.length hl (h.own l b o hl ho hlive)
 have hm:=h.mono_of_step hs (QG _)
 refine ⟨⟨?_,?_,?_,?_,?_,h.gl.mono hm⟩,hs,hm⟩
 ·intro k hk;rw[t.size];exact h.xb k hk
 ·intro x k hk;have:=h.dom x k hk;rw[t.size];simpa using this
 ·intro x k o1 hx ho1 hv
  rw[ZO] at ho1
  by_cases hxl:l=x
  ·subst hxl;exact h.own l k o hx ho hlive
  ·rw[if_neg hxl] at ho1;exact h.own x k o1 hx ho1 hv
 ·intro x y k o2 hx hy ho2 hv2
  rw[ZO] at ho2
  by_cases hyl:l=y
  ·subst hyl;exact h.inj x l k o hx hy ho hlive
  ·rw[if_neg hyl] at ho2;exact h.inj x y k o2 hx hy ho2 hv2
 ·intro x o1 ho1
  rw[ZO] at ho1
  by_cases hxl:l=x
  ·subst hxl
   rw[if_pos rfl] at ho1
   split at ho1
   ·cases ho1;rw[hl];exact hr hm
   ·cases ho1
  ·rw [if_neg hxl] at ho1
   have:=h.obj x o1 ho1
   cases hmx:m x with
   | none=>rw[hmx] at this;cases o1 <;> simp[ORel] at this ⊢
   | some k =>
    rw[hmx] at this
    by_cases hkb:k=b
    ·subst hkb
     by_cases hv:o1.live
     ·exact absurd (h.inj2 l x k o o1 hl hmx ho ho1 hlive hv) hxl
     ·cases o1 <;> simp[AObj.live] at hv
      simp[ORel]
    ·exact ORel.mono hm (t.other k hkb) this
theorem YZ.row (w:World) {b:Nat} {c:Array Value} {e:TypeId} {fr:Nat × Nat} (c':Array Value) (hb:w.heap[b]? = some (.cells c e fr)) (hc:c'.size=c.size):YZ w (w.setRow b c') b where
 size:=by simp
 other k hk:=setRow_other w b k c' hk
 shp c1 e1 h1:=by
  rw[hb] at h1;cases h1
  exact ⟨c',setRow_heap w b c c' e (0,0) hb,hc⟩
 os:=rfl
 tape:=rfl
 output:=rfl
 drawn:=QG _
theorem YZ.obj (w:World) {b:Nat} {o:Obj} (o':Obj) (hb:w.heap[b]? = some o) (ho:∀ c e fr,o≠.cells c e fr):YZ w (w.putObj b o') b where
 size:=by simp
 other k hk:=World.putObj_heap_other hk
 shp c e h1:=by rw[hb] at h1;cases h1;exact absurd rfl (ho c e (0,0))
 os:=rfl
 tape:=rfl
 output:=rfl
 drawn:=QG _
theorem HRel.kill (h:HRel m X σ w) (l:Nat):HRel m X (σ.set l .dead) w:=by
 refine ⟨h.xb,?_,?_,?_,?_,h.gl⟩
 ·intro x k hk;simpa using h.dom x k hk
 ·intro x k o1 hx ho1 hv
  rw[ZO] at ho1
  by_cases hxl:l=x
  ·rw[if_pos hxl] at ho1;split at ho1 <;> cases ho1;exact hv.elim
  ·rw[if_neg hxl] at ho1;exact h.own x k o1 hx ho1 hv
 ·intro x y k o2 hx hy ho2 hv2
  rw[ZO] at ho2
  have e2:l≠y:=by
   intro e;rw[if_pos e] at ho2;split at ho2 <;> cases ho2;exact hv2
  rw[if_neg e2] at ho2
  exact h.inj x y k o2 hx hy ho2 hv2
 ·intro x o1 ho1
  rw[ZO] at ho1
  by_cases e:l=x
  ·rw[if_pos e] at ho1;split at ho1 <;> cases ho1;simp[ORel]
  ·rw[if_neg e] at ho1;exact h.obj x o1 ho1
theorem HRel.adopt (h:HRel m X σ w) {l b:Nat} {ao:AObj} (hl:m l=some b) (hxb:¬ X b) (hdead:∀ x o,m x=some b→σ[x]? = some o→¬ o.live)
  (hr:Mono m X w (m.put σ.length b) X w→ORel (m.put σ.length b) X w (some b) ao) :
  HRel (m.put σ.length b) X (σ++[ao]) w∧Step σ.length m X w (m.put σ.length b) w∧Mono m X w (m.put σ.length b) X w:=by
 have hs:Step σ.length m X w (m.put σ.length b) w :=
  {keep:=fun x hx=>LM.put_other m (by omega)
   new:=fun x k hk=>by
    by_cases hx:x=σ.length
    ·subst hx;rw[LM.put_same] at hk;cases hk;exact .inl ⟨l,hl⟩
    ·rw[LM.put_other m hx] at hk;exact .inl ⟨x,hk⟩
   size:=QG _
   fr:=fun _ _ _=>rfl
   shp:=fun _ c _ hk=>⟨c,hk,rfl⟩
   os:=rfl,tape:=rfl,output:=rfl,drawn:=fun _=>QG _ }
 have hm:=h.mono_of_step hs (QG _)
 refine ⟨⟨h.xb,?_,?_,?_,?_,h.gl.mono hm⟩,hs,hm⟩
 ·intro x k hk
  by_cases hx:x=σ.length
  ·subst hx;rw[LM.put_same] at hk;cases hk
   have:=h.dom l b hl
   exact ⟨by simp,this.2⟩
  ·rw[LM.put_other m hx] at hk
   have:=h.dom x k hk
   exact ⟨by simp;omega,this.2⟩
 ·intro x k o1 hk ho1 hv
  by_cases hx:x=σ.length
  ·subst hx;rw[LM.put_same] at hk;cases hk;exact hxb
  ·rw[LM.put_other m hx] at hk
   rw[QE (h.dom x k hk).1] at ho1
   exact h.own x k o1 hk ho1 hv
 ·intro x y k o2 hx hy ho2 hv2
  by_cases ex:x=σ.length <;> by_cases ey:y=σ.length
  ·omega
  ·subst ex;rw[LM.put_same] at hx;cases hx;rw[LM.put_other m ey] at hy
   rw[QE (h.dom _ _ hy).1] at ho2
   exact absurd hv2 (hdead y o2 hy ho2)
  ·rw[LM.put_other m ex] at hx;have:=(h.dom _ _ hx).1;omega
  ·rw[LM.put_other m ex] at hx;rw[LM.put_other m ey] at hy
   rw[QE (h.dom _ _ hy).1] at ho2
   exact h.inj x y k o2 hx hy ho2 hv2
 ·intro x o1 ho1
  by_cases hx:x<σ.length
  ·rw[QE hx] at ho1
   rw[LM.put_other m (by omega)]
   have:=h.obj x o1 ho1
   cases hmx:m x with
   | none=>rw[hmx] at this;cases o1 <;> simp[ORel] at this ⊢
   | some k=>rw[hmx] at this;exact ORel.mono hm rfl this
  ·rw[QS (by omega)] at ho1
   have hx':x=σ.length:=by
    rcases ZB (x-σ.length) 1 with h1 | h1
    ·omega
    ·rw[QN (by simpa using h1)] at ho1;cases ho1
   subst hx'
   simp at ho1;subst ho1
   rw[LM.put_same];exact hr hm
theorem HRel.row (h:HRel m X σ w) {l:Nat} {cs:List AV} (hc:rowOf σ l=some cs) :
  ∃ b c e,m l=some b∧σ[l]? = some (.cells cs)∧w.heap[b]? = some (.cells c e (0,0))∧cs.length≤c.size∧QK m X w cs (c.toList.take cs.length):=by
 unfold rowOf at hc
 split at hc
 ·rename_i cs' hs
  cases hc
  have:=h.obj l _ hs
  cases hml:m l with
  | none=>rw[hml] at this;simp[ORel] at this
  | some b =>
   rw[hml] at this
   simp only[ORel] at this
   obtain ⟨c,e,h1,h2,h3⟩:=this
   exact ⟨b,c,e,rfl,hs,h1,h2,h3⟩
 ·cases hc
theorem YI {t:TypeId} {i:TypeInfo} (h:P.info? t=some i):(typeInfo t).run P w=.ok i w:=by
 simp[typeInfo,h]
theorem YK {t:TypeId} {i:TypeInfo} (h:P.info? t=some i):(sizeOf t).run P w=.ok i.size w:=by
 simp[sizeOf,YI h]
theorem GV {t:TypeId} {i:TypeInfo} {z:Value} (h:P.info? t=some i) (hz:i.zero=some z):(zeroValue t).run P w=.ok z w:=by
 simp[zeroValue,YI h,hz]
theorem QY {t:TypeId} {d:TypeDesc} (h:P.underlying t=some d):(underlying t).run P w=.ok d w:=run_underlying h w
theorem Qa5 {t:TypeId} {g:Bool} (h:UD P t=some g):(isAgg t).run P w=.ok g w:=by
 unfold UD at h
 split at h
 ·rename_i fs hu;cases h;simp[isAgg,QY hu]
 ·rename_i n e hu;cases h;simp[isAgg,QY hu]
 ·rename_i d h1 h2 hu;cases h
  simp only[isAgg,Sem.run_bind,QY hu,Result.andThen_ok]
  rfl
 ·cases h
theorem GZ (v:Value):VRel m X w (WC v) v:=by
 unfold WC;split <;> simp[VRel,CV.rep]
theorem R8:∀ vs:List Value,QK m X w (vs.map WC) vs
 | []=>by simp[QK]
 | v::vs=>by simp only[Q0,QK];exact ⟨GZ v,R8 vs⟩
theorem UZ (v:Value):VRel m X w (VX v) v:=by
 unfold VX;split
 ·rename_i cs;simp only[VRel];exact ⟨cs.toList,by simp,R8 _⟩
 ·exact GZ v
theorem QaG (vs:Array Value):(Value.agg vs).cells=vs:=rfl
theorem cells_one {v:Value} (h:∀ vs,v≠.agg vs):v.cells = #[v]:=by
 cases v <;> first | rfl | exact absurd rfl (h _)
theorem SQ (z:Value):QK m X w (Go.Proofs.YtgkidpolomhghaaGreatDoor.AM.cellsOf (VX z)) z.cells.toList:=by
 by_cases h:∃ vs,z=.agg vs
 ·obtain ⟨vs,rfl⟩:=h;simp only[VX,cellsOf,QaG];exact R8 _
 ·have h':∀ vs,z≠.agg vs:=fun vs e=>h ⟨vs,e⟩
  rw[cells_one h']
  have e1:VX z=WC z:=by cases z <;> first | rfl | exact absurd rfl (h' _)
  have e2:cellsOf (WC z)=[WC z]:=by unfold WC;split <;> rfl
  rw[e1,e2];simp only[QK];exact ⟨GZ z,trivial⟩
theorem VRel.not_agg {a:AV} {v:Value} (h:VRel m X w a v) (hu:a.isUndef=false) (ha:∀ cs,a≠.agg cs) (vs:Array Value):v≠.agg vs:=by
 cases a with
 | cv c=>cases c <;> simp only[VRel,CV.rep] at h <;> first | (subst h;simp;done) | (obtain ⟨_,rfl,_⟩:=h;simp;done) | (rcases h with ⟨rfl,_⟩ | ⟨_,_,rfl,_⟩ <;> simp)
 | ptr=>simp only[VRel] at h;obtain ⟨_,_,rfl⟩:=h;simp
 | sl=>simp only[VRel] at h;obtain ⟨_,_,_,rfl,_⟩:=h;simp
 | map=>simp only[VRel] at h;obtain ⟨_,_,rfl⟩:=h;simp
 | fn=>simp only[VRel] at h;obtain ⟨_,rfl,_⟩:=h;simp
 | bm=>simp only[VRel] at h;obtain ⟨_,rfl,_⟩:=h;simp
 | yld=>simp only[VRel] at h;obtain ⟨_,_,rfl⟩:=h;simp
 | agg cs=>exact absurd rfl (ha cs)
 | tup=>simp only[VRel] at h;obtain ⟨_,rfl,_⟩:=h;simp
 | undef=>simp[AV.isUndef] at hu
 | slc=>simp only[VRel] at h;obtain ⟨_,_,rfl,_⟩:=h;simp
theorem VRel.cells {a:AV} {v:Value} (h:VRel m X w a v) (hu:a.isUndef=false):QK m X w (cellsOf a) v.cells.toList:=by
 by_cases ha:∃ cs,a=.agg cs
 ·obtain ⟨cs,rfl⟩:=ha
  simp only[VRel] at h;obtain ⟨vs,rfl,h2⟩:=h
  simpa[cellsOf,QaG] using h2
 ·have ha':∀ cs,a≠.agg cs:=fun cs e=>ha ⟨cs,e⟩
  rw[cells_one (h.not_agg hu ha')]
  have:cellsOf a=[a]:=by cases a <;> first | rfl | exact absurd rfl (ha' _)
  rw[this];simp only[QK];exact ⟨h,trivial⟩
theorem VRel.one_cell {a:AV} {v:Value} (h:VRel m X w a v) (hs:a.isSc=true):v.oneCell'=true:=by
 cases a with
 | cv c=>cases c <;> simp only[VRel,CV.rep] at h <;> first | (subst h;rfl) | (obtain ⟨_,rfl,_⟩:=h;rfl) | (rcases h with ⟨rfl,_⟩ | ⟨_,_,rfl,_⟩ <;> rfl)
 | ptr=>simp only[VRel] at h;obtain ⟨_,_,rfl⟩:=h;rfl
 | sl=>simp only[VRel] at h;obtain ⟨_,_,_,rfl,_⟩:=h;rfl
 | map=>simp only[VRel] at h;obtain ⟨_,_,rfl⟩:=h;rfl
 | fn=>simp only[VRel] at h;obtain ⟨_,rfl,_⟩:=h;rfl
 | bm=>simp only[VRel] at h;obtain ⟨_,rfl,_⟩:=h;rfl
 | yld=>simp only[VRel] at h;obtain ⟨_,_,rfl⟩:=h;rfl
 | agg cs=>simp[AV.isSc] at hs
 | tup=>simp[AV.isSc] at hs
 | undef=>simp[AV.isSc] at hs
 | slc=>simp only[VRel] at h;obtain ⟨_,_,rfl,_⟩:=h;rfl
theorem QK.one_cells:∀ {as:List AV} {vs:List Value},QK m X w as vs→as.all AV.isSc=true→∀ v∈vs,v.oneCell'=true
 | [],[],_,_,v,hv=>by simp at hv
 | a::as,v::vs,h,hs,u,hu=>by
  simp only[QK] at h;simp only[List.all_cons,QD] at hs
  rcases ZD.1 hu with rfl | hu
  ·exact h.1.one_cell hs.1
  ·exact QK.one_cells h.2 hs.2 u hu
 | [],_::_,h,_,_,_=>by simp[QK] at h
 | _::_,[],h,_,_,_=>by simp[QK] at h
theorem JB (b o k:Nat):(⟨b,o,none⟩:Addr).add k=⟨b,o+k,none⟩:=by
 unfold Addr.add;split
 ·rename_i h;subst h;rfl
 ·rfl
theorem F7 {b off:Nat} {c:Array Value} {e:TypeId} {fr:Nat × Nat} (h:w.heap[b]? = some (.cells c e fr)):w.cell? ⟨b,off,none⟩=c[off]? := by
 simp[World.cell?,h]
theorem take_get {cs:List AV} {c:Array Value} (h:QK m X w cs (c.toList.take cs.length)) {i:Nat} {a:AV} (ha:cs[i]? = some a):∃ v,c[i]? = some v∧VRel m X w a v:=by
 obtain ⟨v,hv,hr⟩:=h.get i a ha
 rw[Z7] at hv
 split at hv
 ·exact ⟨v,by simpa using hv,hr⟩
 ·cases hv
theorem Qb8 {O:Nat→Prop}:∀ {cs:List CV} {a:Addr} {i:Nat},CV.reps w O cs a i→∀ (j:Nat) (c:CV),cs[j]? = some c→∃ v,w.cell? (a.add (i+j))=some v∧c.rep w O v
 | [],a,i,_,j,c,hj=>by simp at hj
 | d::cs,a,i,h,0,c,hj=>by
  simp only[CV.reps] at h;simp at hj;subst hj
  obtain ⟨_,⟨v,hv,hr⟩,_⟩:=h
  exact ⟨v,by simpa using hv,hr⟩
 | d::cs,a,i,h,j+1,c,hj=>by
  simp only[CV.reps] at h;simp at hj
  obtain ⟨_,_,h⟩:=h
  obtain ⟨v,hv,hr⟩:=Qb8 h j c hj
  exact ⟨v,by rw[show i+(j+1)=i+1+j by omega];exact hv,hr⟩
theorem O2 {O:Nat→Prop}:∀ {cs:List CV} {a:Addr} {i:Nat} (k:Nat),CV.reps w O cs a i→CV.reps w O (cs.drop k) a (i+k)
 | [],a,i,k,_=>by simp[CV.reps]
 | c::cs,a,i,0,h=>by simpa using h
 | c::cs,a,i,k+1,h=>by
  simp only[CV.reps] at h
  have:=O2 (a:=a) (i:=i+1) k h.2.2
  rw[show i+(k+1)=i+1+k by omega];simpa using this
theorem LB {O:Nat→Prop}:∀ {cs:List CV} {a:Addr} {i:Nat} (k:Nat),CV.reps w O cs a i→CV.reps w O (cs.take k) a i
 | [],a,i,k,_=>by simp[CV.reps]
 | c::cs,a,i,0,h=>by simp[CV.reps]
 | c::cs,a,i,k+1,h=>by
  simp only[CV.reps,List.take_succ_cons] at h ⊢
  exact ⟨h.1,h.2.1,LB k h.2.2⟩
theorem BZ {O:Nat→Prop}:∀ {cs:List CV} {a:Addr} {i:Nat} (k:Nat),CV.reps w O cs a (k+i)→CV.reps w O cs (a.add k) i
 | [],a,i,k,_=>by simp[CV.reps]
 | c::cs,a,i,k,h=>by
  simp only[CV.reps] at h ⊢
  refine ⟨by rw[Addr.add_block];exact h.1,?_,BZ k (by rw[show k+(i+1)=k+i+1 by omega];exact h.2.2)⟩
  rw[Addr.add_add];exact h.2.1
theorem LA:∀ {cs:List CV} {a:Addr} {i:Nat},CV.reps w (Own m X) cs a i→∃ vs:List Value,vs.length=cs.length∧QK m X w (cs.map .cv) vs∧∀ (j:Nat) (v:Value),vs[j]? = some v→w.cell? (a.add (i+j))=some v
 | [],a,i,_=>⟨[],rfl,by simp[QK],by simp⟩
 | c::cs,a,i,h=>by
  simp only[CV.reps] at h
  obtain ⟨_,⟨v,hv,hr⟩,h⟩:=h
  obtain ⟨vs,h1,h2,h3⟩:=LA h
  refine ⟨v::vs,by simp[h1],by simp only[Q0,QK,VRel];exact ⟨hr,h2⟩,fun j u hj=>?_⟩
  cases j with
  | zero=>simp at hj;subst hj;simpa using hv
  | succ j=>simp at hj;rw[show i+(j+1)=i+1+j by omega];exact h3 j u hj
theorem Z5 {α:Type}:∀ (vs:List α) (l:List α) (off:Nat),(setRange l off vs).length=l.length
 | [],l,off=>rfl
 | v::vs,l,off=>by simp only[setRange,Z5 vs,WE]
theorem V5 {α:Type}:∀ (vs:List α) (l:List α) (off n:Nat),(setRange l off vs).take n=setRange (l.take n) off vs
 | [],l,off,n=>rfl
 | v::vs,l,off,n=>by simp only[setRange];rw[V5 vs,List.take_set]
theorem KG {α:Type}:∀ (vs:List α) (l:List α) (off:Nat),off+vs.length≤l.length→setRange l off vs=l.take off++vs++l.drop (off+vs.length)
 | [],l,off,h=>by simp[setRange]
 | v::vs,l,off,h=>by
  simp only[setRange,List.length_cons] at h ⊢
  rw[KG vs (l.set off v) (off+1) (by simp;omega)]
  have h1:(l.set off v).take (off+1)=l.take off++[v]:=by
   rw[List.take_succ_eq_append_getElem (by simp;omega)]
   simp[List.take_set,KE (l:=List.take off l) (i:=off) (a:=v) (by simp;omega)]
  have h2:(l.set off v).drop (off+1+vs.length)=l.drop (off+(vs.length+1)):=by
   rw[List.drop_set_of_lt (by omega)];congr 1;omega
  rw[h1,h2];simp
theorem QK.setRange:∀ {bs:List AV} {vs:List Value} {as:List AV} {us:List Value} (off:Nat),QK m X w as us→QK m X w bs vs→QK m X w (Go.Proofs.YtgkidpolomhghaaGreatDoor.AM.setRange as off bs) (Go.Proofs.YtgkidpolomhghaaGreatDoor.AM.setRange us off vs)
 | [],[],_,_,_,h,_=>by simpa[AM.setRange] using h
 | b::bs,v::vs,_,_,off,h,g=>by
  simp only[QK,AM.setRange] at g ⊢
  exact QK.setRange (off+1) (h.set off g.1) g.2
 | [],_::_,_,_,_,_,g=>by simp[QK] at g
 | _::_,[],_,_,_,_,g=>by simp[QK] at g
end Go.Proofs.YtgkidpolomhghaaGreatDoor.AM
namespace Go.Proofs.YtgkidpolomhghaaGreatDoor.AM
variable [Dr]
open Go
variable {P:Program} {m:LM} {X:Nat→Prop} {σ σ':List AObj} {w:World} {r:AV}
theorem W7 {s:Sem Value} {v:Value} {w':World} {m':LM} (hs:s.run P w=.ok v w') (hr:VRel m' X w' r v) (h':HRel m' X σ' w') (st:Step σ.length m X w m' w') :
  YP P (do pure (.value (← s))) m X σ w r σ' :=
 ⟨.value v,w',m',by simp[hs],.inl ⟨v,rfl,hr⟩,h',st⟩
theorem ZG {s:Sem Value} {v:Value} (h:HRel m X σ w) (hs:s.run P w=.ok v w) (hr:VRel m X w r v):YP P (do pure (.value (← s))) m X σ w r σ :=
 W7 hs hr h (Step.refl _ _ _ _)
theorem PT {s:Sem Unit} {w':World} {m':LM} (hs:s.run P w=.ok () w') (h':HRel m' X σ' w') (st:Step σ.length m X w m' w') :
  YP P (do s;pure .skip) m X σ w .undef σ' :=
 ⟨.skip,w',m',by simp[hs],.inr ⟨rfl,rfl⟩,h',st⟩
theorem KT (a:Addr):(Instr.sureAddr (.pointer (some a))).run P w=.ok a w:=rfl
theorem BR (t:TypeId) (v:Value):(newVar t v).run P w=.ok ⟨w.heap.size,0,none⟩ (w.alloc (.cells v.cells t)):=by
 simp[newVar,newRow]
theorem ORel.new {m':LM} {w':World} {b:Nat} {c:Array Value} {t:TypeId} {cs:List AV} (hb:w'.heap[b]? = some (.cells c t)) (hr:QK m' X w' cs c.toList):ORel m' X w' (some b) (.cells cs):=by
 simp only[ORel]
 have hl:=hr.length
 exact ⟨c,t,hb,by simp at hl;omega,by rw[hl,Q5 (by simp)];exact hr⟩
theorem Qeb {t:TypeId} {z:AV} {avs:List AV} (h:HRel m X σ w) (hz:zeroOf P t=some z) (hs:UO (cellsOf z) avs σ=some (r,σ')) :
  YP P (do pure (.value (← Instr.alloc t true (.tuple #[])))) m X σ w r σ':=by
 unfold UO at hs
 split at hs <;> cases hs
 unfold zeroOf at hz
 cases hi:P.info? t with
 | none=>rw[hi] at hz;cases hz
 | some i =>
  rw[hi] at hz
  cases hz0:i.zero with
  | none=>simp[hz0] at hz
  | some z0 =>
   simp[hz0] at hz;subst hz
   obtain ⟨h1,h2,h3⟩:=h.alloc (.cells z0.cells t) (.cells (cellsOf (VX z0))) (fun hm=>ORel.new (heap_alloc_new _ _) (SQ z0))
   refine W7 (v:=.pointer (some ⟨w.heap.size,0,none⟩)) ?_ ?_ h1 h2
   ·simp only[Instr.alloc,Sem.run_bind,GV hi hz0,Result.andThen_ok,BR,Sem.run_pure]
   ·simp only[VRel];exact ⟨_,LM.put_same _ _ _,rfl⟩
theorem snd_box {t:TypeId} {x:Value} {avs:List AV} (h:HRel m X σ w) (ha:QK m X w avs [x]) (hs:WI avs σ=some (r,σ')) :
  YP P (do pure (.value (← Instr.box t x))) m X σ w r σ':=by
 unfold WI at hs
 split at hs
 ·rename_i a
  obtain ⟨v,hv,hr⟩:=ha.one;cases hv
  split at hs
  ·cases hs
  ·rename_i hu
   cases hs
   have hu':a.isUndef=false:=by simpa using hu
   obtain ⟨h1,h2,h3⟩:=h.alloc (.cells x.cells t) (.cells (cellsOf a)) (fun hm=>ORel.new (heap_alloc_new _ _) ((hr.cells hu').mono hm _ _))
   refine W7 (v:=.pointer (some ⟨w.heap.size,0,none⟩)) ?_ ?_ h1 h2
   ·simp only[Instr.box,Sem.run_bind,Result.andThen_ok,BR,Sem.run_pure]
   ·simp only[VRel];exact ⟨_,LM.put_same _ _ _,rfl⟩
 ·cases hs
theorem IP {t:TypeId} {a:Addr} {v:Value} (hg:UD P t=some false) (hc:w.cell? a=some v):(loadVar t a).run P w=.ok v w:=by
 simp[loadVar,Qa5 hg,hc]
theorem LvN {t:TypeId} {i:TypeInfo} {a:Addr} {vs:List Value} (hg:UD P t=some true) (hi:P.info? t=some i) (hl:vs.length=i.size) (hc:∀ (j:Nat) v,vs[j]? = some v→w.cell? (a.add j)=some v) :
  (loadVar t a).run P w=.ok (.agg vs.toArray) w:=by
 simp[loadVar,Qa5 hg,YK hi,← hl,run_loadCells_list w a vs hc]
theorem AJ {t:TypeId} {x:Value} {avs:List AV} (h:HRel m X σ w) (hg:UD P t=some false) (ha:QK m X w avs [x]) (hs:KZ avs σ=some (r,σ')) :
  ∃ a v,x=.pointer (some a)∧(loadVar t a).run P w=.ok v w∧VRel m X w r v∧σ'=σ:=by
 unfold KZ at hs
 split at hs
 ·rename_i l off
  obtain ⟨v,hv,hr⟩:=ha.one;cases hv
  simp only[VRel] at hr;obtain ⟨b,hb,rfl⟩:=hr
  cases hc:rowOf σ l with
  | none=>simp[hc] at hs
  | some cs =>
   simp only[hc,Option.bind_some,QA] at hs
   obtain ⟨a,ha,he⟩:=hs;cases he
   obtain ⟨b',c,e,h1,_,h2,h3,h4⟩:=h.row hc
   rw[hb] at h1;cases h1
   obtain ⟨v,hv,hr⟩:=take_get h4 ha
   exact ⟨_,v,rfl,IP hg (by rw[F7 h2];exact hv),hr,rfl⟩
 ·rename_i cs off
  obtain ⟨v,hv,hr⟩:=ha.one;cases hv
  simp only[VRel,CV.rep] at hr;obtain ⟨b,rfl,hreps⟩:=hr
  simp only[QA] at hs
  obtain ⟨c,hc,he⟩:=hs;cases he
  obtain ⟨v,hv,hr⟩:=Qb8 hreps off c hc
  exact ⟨_,v,rfl,IP hg (by simpa using hv),by simp only[VRel];exact hr,rfl⟩
 ·cases hs
theorem Qe8 {t:TypeId} {x:Value} {avs:List AV} (h:HRel m X σ w) (hg:UD P t=some false) (ha:QK m X w avs [x]) (hs:KZ avs σ=some (r,σ')) :
  YP P (do pure (.value (← Instr.loadAt t x))) m X σ w r σ':=by
 obtain ⟨a,v,rfl,h1,h2,rfl⟩:=AJ h hg ha hs
 refine ZG h (v:=v) ?_ h2
 simp only[Instr.loadAt,Sem.run_bind,KT,Result.andThen_ok]
 exact h1
theorem JS {b:Nat} {c:Array Value} {e:TypeId} {cs:List AV} (h1:w.heap[b]? = some (.cells c e (0,0))) (h4:QK m X w cs (c.toList.take cs.length)) (hle:cs.length≤c.size) {off n:Nat} (hn:off+n≤cs.length) :
  ∃ vs:List Value,vs.length=n∧QK m X w ((cs.drop off).take n) vs∧(∀ (j:Nat) v,vs[j]? = some v→w.cell? ((⟨b,off,none⟩:Addr).add j)=some v):=by
 refine ⟨((c.toList.take cs.length).drop off).take n,?_,(h4.drop off).take n,?_⟩
 ·simp;omega
 ·intro j v hj
  rw[JB,F7 h1]
  rw[Z7] at hj
  split at hj
  ·rw[X4,Z7] at hj
   split at hj
   ·simpa using hj
   ·cases hj
  ·cases hj
theorem AI {t:TypeId} {i:TypeInfo} {x:Value} {avs:List AV} (h:HRel m X σ w) (hg:UD P t=some true) (hi:P.info? t=some i) (ha:QK m X w avs [x]) (hs:YF i.size avs σ=some (r,σ')) :
  ∃ a v,x=.pointer (some a)∧(loadVar t a).run P w=.ok v w∧VRel m X w r v∧σ'=σ:=by
 unfold YF at hs
 split at hs
 ·rename_i l off
  obtain ⟨v,hv,hr⟩:=ha.one;cases hv
  simp only[VRel] at hr;obtain ⟨b,hb,rfl⟩:=hr
  cases hc:rowOf σ l with
  | none=>simp[hc] at hs
  | some cs =>
   simp only[hc,Option.bind_some] at hs
   split at hs
   ·rename_i hle;cases hs
    obtain ⟨b',c,e,h1,_,h2,h3,h4⟩:=h.row hc
    rw[hb] at h1;cases h1
    obtain ⟨vs,hl,hr,hcell⟩:=JS h2 h4 h3 hle
    exact ⟨_,.agg vs.toArray,rfl,LvN hg hi hl hcell,by simp only[VRel];exact ⟨vs,rfl,hr⟩,rfl⟩
   ·cases hs
 ·rename_i cs off
  obtain ⟨v,hv,hr⟩:=ha.one;cases hv
  simp only[VRel,CV.rep] at hr;obtain ⟨b,rfl,hreps⟩:=hr
  split at hs
  ·rename_i hle;cases hs
   obtain ⟨vs,hl,hr,hcell⟩:=LA (LB i.size (O2 off hreps))
   refine ⟨_,.agg vs.toArray,rfl,LvN hg hi (by rw[hl];simp;omega) fun j v hj=>?_,by simp only[VRel];exact ⟨vs,rfl,hr⟩,rfl⟩
   rw[Addr.add_add];simpa using hcell j v hj
  ·cases hs
 ·cases hs
theorem Qe7 {t:TypeId} {i:TypeInfo} {x:Value} {avs:List AV} (h:HRel m X σ w) (hg:UD P t=some true) (hi:P.info? t=some i) (ha:QK m X w avs [x]) (hs:YF i.size avs σ=some (r,σ')) :
  YP P (do pure (.value (← Instr.loadAt t x))) m X σ w r σ':=by
 obtain ⟨a,v,rfl,h1,h2,rfl⟩:=AI h hg hi ha hs
 refine ZG h (v:=v) ?_ h2
 simp only[Instr.loadAt,Sem.run_bind,KT,Result.andThen_ok]
 exact h1
theorem Qe3 {t:TypeId} {i:TypeInfo} {x y:Value} {avs:List AV} (h:HRel m X σ w) (hi:P.info? t=some i) (ha:QK m X w avs [x,y]) (hs:UM i.size avs σ=some (r,σ')) :
  YP P (do Instr.storeAt t x y;pure .skip) m X σ w r σ':=by
 unfold UM at hs
 split at hs
 ·rename_i l off a
  obtain ⟨x',us,hx,hr,hus⟩:=ha.cons
  obtain ⟨y',hy,hra⟩:=hus.one
  subst hy;cases hx
  simp only[VRel] at hr;obtain ⟨b,hb,rfl⟩:=hr
  cases hc:rowOf σ l with
  | none=>simp[hc] at hs
  | some cs =>
   simp only[hc,Option.bind_some] at hs
   split at hs
   ·rename_i hcond;cases hs
    obtain ⟨hn,hle,hsc⟩:=hcond
    obtain ⟨b',c,e,h1,hl,h2,h3,h4⟩:=h.row hc
    rw[hb] at h1;cases h1
    have hu:a.isUndef=false:=by cases a <;> simp[AV.isUndef,cellsOf,AV.isSc] at hsc ⊢
    have hcells:=hra.cells hu
    have hlen:y.cells.toList.length=i.size:=by rw[← hcells.length];exact hn
    have hone:=hcells.one_cells hsc
    have hrun:(storeCells ⟨b,off,none⟩ y.cells.toList).run P w=.ok () (w.setRow b (Go.Proofs.YtgkidpolomhghaaGreatDoor.AM.setRange c.toList off y.cells.toList).toArray):=by
     rw[run_storeCells_at P b off e y.cells.toList 0 c w h2 (by simp at hlen ⊢;omega) hone]
     rw[KG _ _ _ (by simp at hlen ⊢;omega)];simp
    have ht:YZ w (w.setRow b (Go.Proofs.YtgkidpolomhghaaGreatDoor.AM.setRange c.toList off y.cells.toList).toArray) b:=YZ.row w _ h2 (by simp[Z5])
    obtain ⟨g1,g2,g3⟩:=h.turn hb hl trivial ht (o':=.cells (Go.Proofs.YtgkidpolomhghaaGreatDoor.AM.setRange cs off (cellsOf a))) (fun hm=>by
     simp only[ORel]
     refine ⟨_,e,setRow_heap w b c _ e (0,0) h2,by simp[Z5];exact h3,?_⟩
     rw[Z5]
     simp only[List.toList_toArray,V5]
     exact ((h4.setRange off hcells).mono hm _ _))
    refine PT ?_ g1 g2
    simp only[Instr.storeAt,Sem.run_bind,KT,Result.andThen_ok,storeVar,YK hi]
    have:¬ (y.cells.size≠i.size):=by simp at hlen;simpa using hlen
    simp only[this,if_false,hrun]
   ·cases hs
 ·cases hs
theorem IE:∀ (vs:List Value) (k off:Nat) (cells:Array Value),((vs.zipIdx k).foldl (fun (cs:Array Value) (x:Value × Nat)=>cs.setIfInBounds (off+x.2) x.1) cells).toList=setRange cells.toList (off+k) vs
 | [],k,off,cells=>rfl
 | v::vs,k,off,cells=>by
  simp only[List.zipIdx_cons,List.foldl_cons,setRange]
  rw[IE vs (k+1) off]
  simp[Nat.add_assoc]
theorem P3 (place:Nat→Option (Nat × Nat)):∀ (ps:List (Nat × Value)) (pl:List (Nat × Nat)) (as zs cs:List AV) (cells:Array Value),
  ps.mapM (fun p=>place p.1)=some pl→QK m X w as (ps.map (·.2))→QK m X w zs cells.toList→HW zs pl as=some cs →
  ∃ out:Array Value,Instr.fill place cells ps=some out∧QK m X w cs out.toList
 | [],pl,as,zs,cs,cells,hp,ha,hz,hf=>by
  simp at hp;subst hp
  obtain rfl:=ha.length |> fun h=>(ZT (by simpa using h):as=[])
  simp[HW] at hf;subst hf
  exact ⟨cells,rfl,hz⟩
 | (i,v)::ps,pl,as,zs,cs,cells,hp,ha,hz,hf=>by
  simp only[WV,Option.bind_eq_bind,QB,Option.pure_def,Option.some.injEq] at hp
  obtain ⟨⟨off,n⟩,hpl,pl',hps,rfl⟩:=hp
  cases as with
  | nil=>simp[QK] at ha
  | cons a as =>
   simp only[Q0,QK] at ha
   obtain ⟨ha,has⟩:=ha
   simp only[HW] at hf
   split at hf
   ·rename_i hcond
    obtain ⟨hn,hle,hu⟩:=hcond
    have hcs:=ha.cells hu
    have hl1:v.cells.size=n:=by have:=hcs.length;simp at this;omega
    have hl2:zs.length=cells.size:=by simpa using hz.length
    have hz':=hz.setRange off hcs
    rw[show Go.Proofs.YtgkidpolomhghaaGreatDoor.AM.setRange cells.toList off v.cells.toList=(v.cells.zipIdx.foldl (fun (cs:Array Value) (x:Value × Nat)=>cs.setIfInBounds (off+x.2) x.1) cells).toList by
     rw[← Array.foldl_toList,Array.toList_zipIdx,IE];simp] at hz'
    obtain ⟨out,ho,hr⟩:=P3 place ps pl' as _ cs _ hps has hz' hf
    refine ⟨out,?_,hr⟩
    simp only[Instr.fill,hpl]
    rw[if_neg (by simp;omega)]
    exact ho
   ·cases hf
theorem snd_fadd {s:TypeId} {fs:Array Field} {fi:Nat} {fd:Field} {i:TypeInfo} {x:Value} {avs:List AV} (h:HRel m X σ w) (hu:P.underlying s=some (.struct fs)) (hf:fs[fi]? = some fd) (hi:P.info? fd.type=some i) (h0:i.size≠0)
  (ha:QK m X w avs [x]) (hs:DK fd.offset avs σ=some (r,σ')):YP P (do pure (.value (← Instr.fieldAt s x fi))) m X σ w r σ':=by
 have run:∀ a:Addr,(Instr.fieldAt s (.pointer (some a)) fi).run P w=.ok (.pointer (some (a.add fd.offset))) w:=by
  intro a
  simp only[Instr.fieldAt,Sem.run_bind,QY hu,Result.andThen_ok,hf,KT,fieldPlace,YK hi,h0,if_false,Sem.run_pure]
 unfold DK at hs
 split at hs
 ·rename_i l o
  obtain ⟨v,hv,hr⟩:=ha.one;cases hv;cases hs
  simp only[VRel] at hr;obtain ⟨b,hb,rfl⟩:=hr
  exact ZG h (run _) (by simp only[VRel];exact ⟨b,hb,by rw[JB]⟩)
 ·rename_i cs o
  obtain ⟨v,hv,hr⟩:=ha.one;cases hv;cases hs
  simp only[VRel,CV.rep] at hr;obtain ⟨b,rfl,hreps⟩:=hr
  exact ZG h (run _) (by simp only[VRel,CV.rep];exact ⟨b,by rw[Addr.add_add],hreps⟩)
 ·cases hs
theorem run_indexAt_slice {t e:TypeId} {i:TypeInfo} {k:IntKind} {n:Int} {len cap:Nat} {a:Addr} (hu:P.underlying t=some (.slice e)) (hi:P.info? e=some i) (h:0≤n∧n<len) :
  (Instr.indexAt t (.slice (some a) len cap) (.int k n)).run P w=.ok (.pointer (some (a.add (n.toNat*i.size)))) w:=by
 simp[Instr.indexAt,asIntOf,QY hu,YK hi,h]
theorem run_indexAt_array {t e:TypeId} {i:TypeInfo} {k:IntKind} {n:Int} {len:Nat} {a:Addr} (hu:P.underlying t=some (.array len e)) (hi:P.info? e=some i) (h:0≤n∧n<len) :
  (Instr.indexAt t (.pointer (some a)) (.int k n)).run P w=.ok (.pointer (some (a.add (n.toNat*i.size)))) w:=by
 simp[Instr.indexAt,asIntOf,QY hu,YK hi,h,KT]
theorem VRel.slc_sl {l off len cap esz:Nat} {v:Value} (h:VRel m X w (.slc l off len cap esz) v):VRel m X w (.sl l off len esz) v:=by
 simp only[VRel] at h ⊢;obtain ⟨b,h1,h2,h3⟩:=h;exact ⟨b,cap,h1,h2,h3⟩
theorem snd_iaS {t e:TypeId} {i:TypeInfo} {x y:Value} {avs:List AV} (h:HRel m X σ w) (hu:P.underlying t=some (.slice e)) (hi:P.info? e=some i) (ha:QK m X w avs [x,y]) (hs:VP i.size avs σ=some (r,σ')) :
  YP P (do pure (.value (← Instr.indexAt t x y))) m X σ w r σ':=by
 unfold VP at hs
 split at hs
 ·obtain ⟨x',us,hx,hr,hus⟩:=ha.cons
  obtain ⟨y',hy,hra⟩:=hus.one
  subst hy;cases hx
  obtain rfl:=hra.int
  simp only[VRel] at hr;obtain ⟨b,cap,hb,rfl,_⟩:=hr
  split at hs
  ·rename_i hc;cases hs
   exact ZG h (run_indexAt_slice hu hi hc) (by simp only[VRel];exact ⟨b,hb,by rw[JB]⟩)
  ·cases hs
 ·obtain ⟨x',us,hx,hr,hus⟩:=ha.cons
  obtain ⟨y',hy,hra⟩:=hus.one
  subst hy;cases hx
  obtain rfl:=hra.int
  split at hs
  ·rename_i hc;cases hs
   simp only[VRel,CV.rep] at hr
   rcases hr with ⟨_,h0,_⟩ | ⟨a,cap,rfl,_,hreps⟩
   ·omega
   ·exact ZG h (run_indexAt_slice hu hi hc) (by simp only[VRel,CV.rep];exact ⟨a,rfl,hreps⟩)
  ·cases hs
 ·obtain ⟨x',us,hx,hr,hus⟩:=ha.cons
  obtain ⟨y',hy,hra⟩:=hus.one
  subst hy;cases hx
  obtain rfl:=hra.int
  simp only[VRel] at hr;obtain ⟨b,hb,rfl,_⟩:=hr
  split at hs
  ·rename_i hc;cases hs
   exact ZG h (run_indexAt_slice hu hi hc) (by simp only[VRel];exact ⟨b,hb,by rw[JB]⟩)
  ·cases hs
 ·cases hs
theorem snd_iaA {t e:TypeId} {len:Nat} {i:TypeInfo} {x y:Value} {avs:List AV} (h:HRel m X σ w) (hu:P.underlying t=some (.array len e)) (hi:P.info? e=some i) (ha:QK m X w avs [x,y]) (hs:PD len i.size avs σ=some (r,σ')) :
  YP P (do pure (.value (← Instr.indexAt t x y))) m X σ w r σ':=by
 unfold PD at hs
 split at hs
 ·obtain ⟨x',us,hx,hr,hus⟩:=ha.cons
  obtain ⟨y',hy,hra⟩:=hus.one
  subst hy;cases hx
  obtain rfl:=hra.int
  simp only[VRel] at hr;obtain ⟨b,hb,rfl⟩:=hr
  split at hs
  ·rename_i hc;cases hs
   exact ZG h (run_indexAt_array hu hi hc) (by simp only[VRel];exact ⟨b,hb,by rw[JB]⟩)
  ·cases hs
 ·obtain ⟨x',us,hx,hr,hus⟩:=ha.cons
  obtain ⟨y',hy,hra⟩:=hus.one
  subst hy;cases hx
  obtain rfl:=hra.int
  split at hs
  ·rename_i hc;cases hs
   simp only[VRel,CV.rep] at hr
   obtain ⟨a,rfl,hreps⟩:=hr
   exact ZG h (run_indexAt_array hu hi hc) (by simp only[VRel,CV.rep];exact ⟨a,by rw[Addr.add_add],hreps⟩)
  ·cases hs
 ·cases hs
theorem IM {t:TypeId} {cs:List AV} {vs:List Value} {off n:Nat} {i:TypeInfo} {g:Bool} (hg:UD P t=some g) (hi:P.info? t=some i) (h:QK m X w cs vs) :
  (g=true→off+i.size≤cs.length→∃ v,(part t vs.toArray off).run P w=.ok v w∧VRel m X w (.agg ((cs.drop off).take i.size)) v) ∧
  (g=false→∀ a,cs[off]? = some a→∃ v,(part t vs.toArray off).run P w=.ok v w∧VRel m X w a v):=by
 constructor
 ·rintro rfl hle
  refine ⟨.agg ((vs.drop off).take i.size).toArray,?_,by simp only[VRel];exact ⟨_,rfl,(h.drop off).take _⟩⟩
  simp only[part,Sem.run_bind,Qa5 hg,Result.andThen_ok,if_true,YK hi,Sem.run_pure]
  congr 2
  simp[List.extract_eq_take_drop]
 ·rintro rfl a ha
  obtain ⟨v,hv,hr⟩:=h.get _ _ ha
  refine ⟨v,?_,hr⟩
  simp[part,Qa5 hg,hv]
theorem snd_fld {s:TypeId} {fs:Array Field} {fi:Nat} {fd:Field} {i:TypeInfo} {g:Bool} {x:Value} {avs:List AV} (h:HRel m X σ w) (hu:P.underlying s=some (.struct fs)) (hf:fs[fi]? = some fd) (hi:P.info? fd.type=some i) (hg:UD P fd.type=some g)
  (ha:QK m X w avs [x]) (hs:OH fd.offset i.size g avs σ=some (r,σ')):YP P (do pure (.value (← Instr.field s x fi))) m X σ w r σ':=by
 unfold OH at hs
 split at hs
 ·rename_i cs
  obtain ⟨v,hv,hr⟩:=ha.one;cases hv
  simp only[VRel] at hr;obtain ⟨vs,rfl,hrs⟩:=hr
  split at hs
  ·rename_i hle;cases hs
   obtain ⟨v,hv,hr⟩:=(IM (n:=0) hg hi hrs).1 rfl hle
   refine ZG h (v:=v) ?_ hr
   simp only[Instr.field,Sem.run_bind,QY hu,Result.andThen_ok,hf,asAgg,Sem.run_pure];exact hv
  ·cases hs
 ·rename_i cs
  obtain ⟨v,hv,hr⟩:=ha.one;cases hv
  simp only[VRel] at hr;obtain ⟨vs,rfl,hrs⟩:=hr
  simp only[QA] at hs
  obtain ⟨a,haa,he⟩:=hs;cases he
  obtain ⟨v,hv,hr⟩:=(IM (n:=0) hg hi hrs).2 rfl _ haa
  refine ZG h (v:=v) ?_ hr
  simp only[Instr.field,Sem.run_bind,QY hu,Result.andThen_ok,hf,asAgg,Sem.run_pure];exact hv
 ·cases hs
theorem snd_ixA {t e:TypeId} {len:Nat} {i:TypeInfo} {g:Bool} {x y:Value} {avs:List AV} (h:HRel m X σ w) (hu:P.underlying t=some (.array len e)) (hi:P.info? e=some i) (hg:UD P e=some g)
  (ha:QK m X w avs [x,y]) (hs:A7 len i.size i.size g avs σ=some (r,σ')):YP P (do pure (.value (← Instr.index t x y))) m X σ w r σ':=by
 unfold A7 at hs
 split at hs
 ·obtain ⟨x',us,hx,hr,hus⟩:=ha.cons
  obtain ⟨y',hy,hra⟩:=hus.one
  subst hy;cases hx
  obtain rfl:=hra.int
  simp only[VRel] at hr;obtain ⟨vs,rfl,hrs⟩:=hr
  split at hs
  ·rename_i hc;cases hs
   obtain ⟨h1,h2,h3⟩:=hc
   obtain ⟨v,hv,hr⟩:=(IM (n:=0) hg hi hrs).1 rfl h3
   refine ZG h (v:=v) ?_ hr
   simp only[Instr.index,Sem.run_bind,asIntOf,Sem.run_pure,QY hu,Result.andThen_ok,YK hi]
   rw[if_pos ⟨h1,h2⟩];simpa[YK hi] using hv
  ·cases hs
 ·obtain ⟨x',us,hx,hr,hus⟩:=ha.cons
  obtain ⟨y',hy,hra⟩:=hus.one
  subst hy;cases hx
  obtain rfl:=hra.int
  simp only[VRel] at hr;obtain ⟨vs,rfl,hrs⟩:=hr
  split at hs
  ·rename_i hc
   simp only[QA] at hs
   obtain ⟨a,haa,he⟩:=hs;cases he
   obtain ⟨v,hv,hr⟩:=(IM (n:=0) hg hi hrs).2 rfl _ haa
   refine ZG h (v:=v) ?_ hr
   simp only[Instr.index,Sem.run_bind,asIntOf,Sem.run_pure,QY hu,Result.andThen_ok,YK hi]
   rw[if_pos hc];simpa[YK hi] using hv
  ·cases hs
 ·cases hs
theorem Qe9 {t:TypeId} {x y:Value} {avs:List AV} (h:HRel m X σ w) (hu:P.underlying t=some .string)
  (ha:QK m X w avs [x,y]) (hs:G5 avs σ=some (r,σ')):YP P (do pure (.value (← Instr.index t x y))) m X σ w r σ':=by
 unfold G5 at hs
 split at hs
 ·rename_i s k n
  obtain ⟨x',us,hx,hr,hus⟩:=ha.cons
  obtain ⟨y',hy,hra⟩:=hus.one
  subst hy;cases hx
  obtain rfl:=hra.int;obtain rfl:=hr.str
  split at hs
  ·rename_i hc
   simp only[QA] at hs
   obtain ⟨b,hb,he⟩:=hs;cases he
   refine ZG h (v:=.int .u8 b.toNat) ?_ (VRel.mk_int _ _)
   have hb':s[n.toNat]? = some b:=by
    rw[Q3] at hb
    obtain ⟨hlt,he⟩:=hb
    have hlt':n.toNat<s.size:=hlt
    rw[getElem?_pos s n.toNat hlt']
    exact congrArg some he
   simp only[Instr.index,Sem.run_bind,asIntOf,Sem.run_pure,QY hu,Result.andThen_ok]
   simp[hc,hb']
  ·cases hs
 ·cases hs
theorem KQ {x:AV} {v:Value} {n:Nat} (h:VRel m X w x v) (hb:bnd x=some n):∃ k,v=.int k n:=by
 unfold bnd at hb
 split at hb
 ·rename_i k i
  split at hb
  ·cases hb;obtain rfl:=h.int;exact ⟨k,by congr 1;omega⟩
  ·cases hb
 ·cases hb
theorem run_sliceBound {k:IntKind} {n y:Nat} {code:BoundsCode} (h:n≤y):(Instr.sliceBound (.int k n) y code).run P w=.ok n w:=by
 simp[Instr.sliceBound,asIntOf];omega
theorem EG {lo hi:Bool} {len cap a b:Nat} {as:List AV} {lv hv:Option Value} {isS:Bool} (hlo:lv.isSome=lo) (hhi:hv.isSome=hi) (hr:QK m X w as (lv.toList++hv.toList)) (hb:bnds lo hi len as=some (a,b))
  (hab:a≤b) (hbl:b≤len) (hlc:len≤cap):(Instr.sliceBounds isS len cap lv hv none).run P w=.ok (a,b,cap) w:=by
 subst hlo;subst hhi
 cases lv with
 | none =>
  cases hv with
  | none =>
   obtain rfl:as=[]:=by simpa using hr.length
   simp[bnds] at hb;obtain ⟨rfl,rfl⟩:=hb
   simp[Instr.sliceBounds]
  | some y =>
   cases as with
   | nil=>simp[QK] at hr
   | cons x as=>cases as with
    | cons=>simp[QK] at hr
    | nil =>
     simp only[Option.toList,List.nil_append,QK] at hr
     simp only[bnds,Option.isSome,QA] at hb
     obtain ⟨n,hn,he⟩:=hb;cases he
     obtain ⟨k,rfl⟩:=KQ hr.1 hn
     simp[Instr.sliceBounds,run_sliceBound (show b≤cap by omega)]
 | some x =>
  cases hv with
  | none =>
   cases as with
   | nil=>simp[QK] at hr
   | cons x as=>cases as with
    | cons=>simp[QK] at hr
    | nil =>
     simp only[Option.toList,ZU,QK] at hr
     simp only[bnds,Option.isSome,QA] at hb
     obtain ⟨n,hn,he⟩:=hb;cases he
     obtain ⟨k,rfl⟩:=KQ hr.1 hn
     simp[Instr.sliceBounds,run_sliceBound hab]
  | some y =>
   cases as with
   | nil=>simp[QK] at hr
   | cons x as=>cases as with
    | nil=>simp[QK] at hr
    | cons z as=>cases as with
     | cons=>simp[QK] at hr
     | nil =>
      simp only[Option.toList,List.cons_append,List.nil_append,QK] at hr
      simp only[bnds,Option.isSome,QB,QA] at hb
      obtain ⟨n,hn,n',hn',he⟩:=hb;cases he
      obtain ⟨k,rfl⟩:=KQ hr.1 hn
      obtain ⟨k',rfl⟩:=KQ hr.2.1 hn'
      simp[Instr.sliceBounds,run_sliceBound (show b≤cap by omega),run_sliceBound hab]
theorem Qed {lo hi:Bool} {len cap a b:Nat} {as:List AV} {lv hv:Option Value} {isS:Bool} (hlo:lv.isSome=lo) (hhi:hv.isSome=hi) (hr:QK m X w as (lv.toList++hv.toList)) (hb:bnds lo hi len as=some (a,b))
  (hab:a≤b) (hbl:b≤cap) (hlc:len≤cap):(Instr.sliceBounds isS len cap lv hv none).run P w=.ok (a,b,cap) w:=by
 subst hlo;subst hhi
 cases lv with
 | none =>
  cases hv with
  | none =>
   obtain rfl:as=[]:=by simpa using hr.length
   simp[bnds] at hb;obtain ⟨rfl,rfl⟩:=hb
   simp[Instr.sliceBounds]
  | some y =>
   cases as with
   | nil=>simp[QK] at hr
   | cons x as=>cases as with
    | cons=>simp[QK] at hr
    | nil =>
     simp only[Option.toList,List.nil_append,QK] at hr
     simp only[bnds,Option.isSome,QA] at hb
     obtain ⟨n,hn,he⟩:=hb;cases he
     obtain ⟨k,rfl⟩:=KQ hr.1 hn
     simp[Instr.sliceBounds,run_sliceBound (show b≤cap by omega)]
 | some x =>
  cases hv with
  | none =>
   cases as with
   | nil=>simp[QK] at hr
   | cons x as=>cases as with
    | cons=>simp[QK] at hr
    | nil =>
     simp only[Option.toList,ZU,QK] at hr
     simp only[bnds,Option.isSome,QA] at hb
     obtain ⟨n,hn,he⟩:=hb;cases he
     obtain ⟨k,rfl⟩:=KQ hr.1 hn
     simp[Instr.sliceBounds,run_sliceBound hab]
  | some y =>
   cases as with
   | nil=>simp[QK] at hr
   | cons x as=>cases as with
    | nil=>simp[QK] at hr
    | cons z as=>cases as with
     | cons=>simp[QK] at hr
     | nil =>
      simp only[Option.toList,List.cons_append,List.nil_append,QK] at hr
      simp only[bnds,Option.isSome,QB,QA] at hb
      obtain ⟨n,hn,n',hn',he⟩:=hb;cases he
      obtain ⟨k,rfl⟩:=KQ hr.1 hn
      obtain ⟨k',rfl⟩:=KQ hr.2.1 hn'
      simp[Instr.sliceBounds,run_sliceBound (show b≤cap by omega),run_sliceBound hab]
theorem snd_slS {t e:TypeId} {i:TypeInfo} {x:Value} {lv hv:Option Value} {avs:List AV} (h:HRel m X σ w) (hu:P.underlying t=some (.slice e)) (hi:P.info? e=some i)
  (ha:QK m X w avs (x::(lv.toList++hv.toList))) (hs:VG i.size lv.isSome hv.isSome avs σ=some (r,σ')):YP P (do pure (.value (← Instr.sliceAt t x lv hv none))) m X σ w r σ':=by
 have run:∀ (oa:Option Addr) (len cap a b:Nat),(Instr.sliceBounds true len cap lv hv none).run P w=.ok (a,b,cap) w →
   (Instr.sliceAt t (.slice oa len cap) lv hv none).run P w=.ok (.slice (if cap=a then oa else oa.map (·.add (a*i.size))) (b-a) (cap-a)) w:=by
  intro oa len cap a b hb
  simp only[Instr.sliceAt,Instr.slice,Sem.run_bind,QY hu,Result.andThen_ok,hb,YK hi,Sem.run_pure]
 unfold VG at hs
 split at hs
 ·rename_i l off len e' bs
  obtain ⟨x',us,hx,hr,hus⟩:=ha.cons
  cases hx
  simp only[VRel] at hr;obtain ⟨b,cap,hb,rfl,hle,c,ty,h1,h2⟩:=hr
  simp only[QB] at hs
  obtain ⟨⟨lo,hi'⟩,hbd,hs⟩:=hs
  split at hs
  ·rename_i hcond
   obtain ⟨hab,hbl,rfl⟩:=hcond
   have hrun:=run (some ⟨b,off,none⟩) len cap lo hi' (EG rfl rfl hus hbd hab hbl hle)
   split at hs
   ·cases hs
    refine ZG h hrun ?_
    simp only[VRel,CV.rep]
    rename_i hc
    dsimp only at hc hab hbl
    by_cases hcl:cap=lo
    ·exact .inr ⟨⟨b,off,none⟩,cap-lo,by rw[if_pos hcl,hc.1];simp,by omega,by simp[CV.reps]⟩
    ·exact .inr ⟨(⟨b,off,none⟩:Addr).add (lo*i.size),cap-lo,by rw[if_neg hcl,hc.1];simp,by omega,by simp[CV.reps]⟩
   ·rename_i hc
    cases hs
    dsimp only at hc hab hbl
    refine ZG h hrun ?_
    simp only[VRel]
    refine ⟨b,cap-lo,hb,?_,by omega,c,ty,h1,?_⟩
    ·by_cases hcl:cap=lo
     ·have:lo=0:=by omega
      subst this;simp[hcl]
     ·rw[if_neg hcl];simp[JB]
    ·by_cases hcl:lo≤cap
     ·have:lo*i.size+(cap-lo)*i.size=cap*i.size:=by rw[← WP];congr 1;omega
      omega
     ·omega
  ·cases hs
 ·rename_i cs len bs
  obtain ⟨x',us,hx,hr,hus⟩:=ha.cons
  cases hx
  simp only[QB] at hs
  obtain ⟨⟨lo,hi'⟩,hbd,hs⟩:=hs
  split at hs
  ·rename_i hcond;cases hs
   obtain ⟨hab,hbl,hcl⟩:=hcond
   simp only[VRel,CV.rep] at hr
   rcases hr with ⟨rfl,rfl,rfl⟩ | ⟨a,cap,rfl,hle,hreps⟩
   ·have hrun:=run none 0 0 lo hi' (EG rfl rfl hus hbd hab hbl (QG _))
    refine ZG h hrun ?_
    simp only[VRel,CV.rep]
    exact .inl ⟨by simp;omega,by omega,by simp⟩
   ·have hrun:=run (some a) len cap lo hi' (EG rfl rfl hus hbd hab hbl hle)
    refine ZG h hrun ?_
    simp only[VRel,CV.rep]
    by_cases hc:cap=lo
    ·refine .inr ⟨a,cap-lo,by rw[if_pos hc],by omega,?_⟩
     have:hi'-lo=0:=by omega
     simp[this,CV.reps]
    ·refine .inr ⟨a.add (lo*i.size),cap-lo,by rw[if_neg hc];rfl,by omega,?_⟩
     refine LB _ (BZ _ ?_)
     have:=O2 (lo*i.size) hreps
     simpa using this
  ·cases hs
 ·rename_i bs
  obtain ⟨x',us,hx,hr,hus⟩:=ha.cons
  cases hx
  obtain rfl:=hr.nils
  simp only[QB] at hs
  obtain ⟨⟨lo,hi'⟩,hbd,hs⟩:=hs
  split at hs
  ·rename_i hcond;cases hs
   obtain ⟨rfl,rfl⟩:=hcond
   have hrun:=run none 0 0 0 0 (EG rfl rfl hus hbd (QG _) (QG _) (QG _))
   exact ZG h hrun (by simp[VRel,CV.rep])
  ·cases hs
 ·rename_i l off len cap e' bs
  obtain ⟨x',us,hx,hr,hus⟩:=ha.cons
  cases hx
  simp only[VRel] at hr;obtain ⟨b,hb,rfl,hle,c,ty,h1,h2⟩:=hr
  simp only[QB] at hs
  obtain ⟨⟨lo,hi'⟩,hbd,hs⟩:=hs
  split at hs
  ·rename_i hcond
   obtain ⟨hab,hbl,rfl⟩:=hcond
   have hrun:=run (some ⟨b,off,none⟩) len cap lo hi' (Qed rfl rfl hus hbd hab hbl hle)
   split at hs
   ·cases hs
    refine ZG h hrun ?_
    simp only[VRel,CV.rep]
    rename_i hc
    dsimp only at hc hab hbl
    exact .inr ⟨⟨b,off,none⟩,cap-lo,by rw[if_pos hc.1.symm,show hi'-lo=0 by omega],by omega,by simp[CV.reps]⟩
   ·rename_i hc
    cases hs
    dsimp only at hc hab hbl
    refine ZG h hrun ?_
    simp only[VRel]
    refine ⟨b,hb,?_,by omega,c,ty,h1,?_⟩
    ·by_cases hcl:cap=lo
     ·have:lo=0:=by omega
      subst this;simp[hcl]
     ·rw[if_neg hcl];simp[JB]
    ·have:lo*i.size+(cap-lo)*i.size=cap*i.size:=by rw[← WP];congr 1;omega
     omega
  ·cases hs
 ·cases hs
theorem snd_slS3 {t e:TypeId} {i:TypeInfo} {x lv hv mv:Value} {avs:List AV} (h:HRel m X σ w) (hu:P.underlying t=some (.slice e)) (hi:P.info? e=some i)
  (ha:QK m X w avs [x,lv,hv,mv]) (hs:TR avs σ=some (r,σ')):YP P (do pure (.value (← Instr.sliceAt t x (some lv) (some hv) (some mv)))) m X σ w r σ':=by
 have key:∀ (oa:Option Addr) (len cap:Nat) (xa ya za:AV),VRel m X w xa lv→VRel m X w ya hv→VRel m X w za mv→x=.slice oa len cap→len≤cap →
   (((bnd xa).bind fun a=>(bnd ya).bind fun b=>(bnd za).bind fun c=>if a≤b∧b≤c∧c≤len then some (AV.undef,σ) else none)=some (r,σ'))→YP P (do pure (.value (← Instr.sliceAt t x (some lv) (some hv) (some mv)))) m X σ w r σ':=by
  rintro oa len cap xa ya za h1 h2 h3 rfl hle hs
  simp only[QB] at hs
  obtain ⟨a,ha,b,hb,c,hc,hs⟩:=hs
  split at hs <;> cases hs
  rename_i hcond
  obtain ⟨ka,rfl⟩:=KQ h1 ha
  obtain ⟨kb,rfl⟩:=KQ h2 hb
  obtain ⟨kc,rfl⟩:=KQ h3 hc
  refine ZG h (v:=.slice (if c=a then oa else oa.map (·.add (a*i.size))) (b-a) (c-a)) ?_ (by simp only[VRel])
  simp only[Instr.sliceAt,Instr.slice,Sem.run_bind,QY hu,Result.andThen_ok,Instr.sliceBounds,run_sliceBound (show c≤cap by omega),run_sliceBound (show b≤c by omega),run_sliceBound (show a≤b by omega),YK hi,Sem.run_pure]
 unfold TR at hs
 split at hs
 ·obtain ⟨x',us,hx,hr,hus⟩:=ha.cons;cases hx
  obtain ⟨y',us,hx,hr1,hus⟩:=hus.cons;cases hx
  obtain ⟨z',us,hx,hr2,hus⟩:=hus.cons;cases hx
  obtain ⟨u',hy,hr3⟩:=hus.one;cases hy
  simp only[VRel] at hr;obtain ⟨b,cap,hb,rfl,hle,_⟩:=hr
  exact key _ _ _ _ _ _ hr1 hr2 hr3 rfl hle hs
 ·obtain ⟨x',us,hx,hr,hus⟩:=ha.cons;cases hx
  obtain ⟨y',us,hx,hr1,hus⟩:=hus.cons;cases hx
  obtain ⟨z',us,hx,hr2,hus⟩:=hus.cons;cases hx
  obtain ⟨u',hy,hr3⟩:=hus.one;cases hy
  simp only[VRel] at hr;obtain ⟨b,hb,rfl,hle,_⟩:=hr
  exact key _ _ _ _ _ _ hr1 hr2 hr3 rfl hle hs
 ·cases hs
theorem snd_slA {t e:TypeId} {n:Nat} {i:TypeInfo} {x:Value} {lv hv:Option Value} {avs:List AV} (h:HRel m X σ w) (hu:P.underlying t=some (.array n e)) (hi:P.info? e=some i)
  (ha:QK m X w avs (x::(lv.toList++hv.toList))) (hs:OG n i.size lv.isSome hv.isSome avs σ=some (r,σ')):YP P (do pure (.value (← Instr.sliceAt t x lv hv none))) m X σ w r σ':=by
 unfold OG at hs
 split at hs
 ·rename_i l off bs
  obtain ⟨x',us,hx,hr,hus⟩:=ha.cons
  cases hx
  simp only[VRel] at hr;obtain ⟨b,hb,rfl⟩:=hr
  simp only[QB] at hs
  obtain ⟨cs,hcs,⟨lo,hi'⟩,hbd,hs⟩:=hs
  split at hs
  ·rename_i hcond;cases hs
   obtain ⟨hab,hbn,han,hlen⟩:=hcond
   obtain ⟨b',c,ty,h1,_,h2,h3,h4⟩:=h.row hcs
   rw[hb] at h1;cases h1
   refine ZG h (v:=.slice (some ⟨b,off+lo*i.size,none⟩) (hi'-lo) (n-lo)) ?_ ?_
   ·simp only[Instr.sliceAt,Sem.run_bind,QY hu,Result.andThen_ok,KT,EG rfl rfl hus hbd hab hbn (QG _),YK hi,Sem.run_pure]
    rw[if_neg (by omega),JB]
   ·simp only[VRel]
    refine ⟨b,n-lo,hb,rfl,by omega,c,ty,h2,?_⟩
    have:lo*i.size+(n-lo)*i.size=n*i.size:=by rw[← WP];congr 1;omega
    omega
  ·cases hs
 ·cases hs
theorem Qe5 {t:TypeId} {x:Value} {lv hv:Option Value} {avs:List AV} (h:HRel m X σ w) (hu:P.underlying t=some .string)
  (ha:QK m X w avs (x::(lv.toList++hv.toList))) (hs:LN lv.isSome hv.isSome avs σ=some (r,σ')):YP P (do pure (.value (← Instr.sliceAt t x lv hv none))) m X σ w r σ':=by
 unfold LN at hs
 split at hs
 ·rename_i s bs
  obtain ⟨x',us,hx,hr,hus⟩:=ha.cons
  cases hx
  obtain rfl:=hr.str
  simp only[QB] at hs
  obtain ⟨⟨lo,hi'⟩,hbd,hs⟩:=hs
  split at hs
  ·rename_i hcond;cases hs
   refine ZG h (v:=.string (s.extract lo hi')) ?_ (VRel.mk_str _)
   simp[Instr.sliceAt,Instr.slice,QY hu,EG rfl rfl hus hbd hcond.1 hcond.2 (QG _)]
  ·cases hs
 ·cases hs
end Go.Proofs.YtgkidpolomhghaaGreatDoor.AM

/- Parts of the proof, joined: AmA to AmB. -/
import Derived.Laws.World
import Derived.Laws.Sem
import Derived.RangeFuncLeaves
import Derived.RangeFuncRecord
set_option linter.unusedVariables false
set_option linter.unusedSimpArgs false
set_option linter.unusedSectionVars false
set_option linter.defProp false
namespace Go.Proofs.YtogjcmnopidfpaaGreat
def QA:=@Option.map_eq_some_iff
def QB:=@Option.bind_eq_some_iff
def QC:=@Nat.le_of_ble_eq_true
def QD:=@Bool.and_eq_true
def QE:=@List.getElem?_append_left
def QF:=@Nat.zero_le
def QG:=@Nat.le_refl
def QH:=@List.getElem?_eq_some_iff
def QI:=@List.getElem?_eq_getElem
def QJ:=@Int.ofNat_lt
def QM:=@List.length_append
def QN:=@List.getElem?_eq_none
def QQ:=@Nat.lt_succ_iff_lt_or_eq
def QS:=@List.getElem?_append_right
def QT:=@Bool.false_eq_true
def QU:=@List.getElem?_set_ne
def QV:=@Array.getD_eq_getD_getElem?
def QW:=@List.append_assoc
def QZ:=@List.mem_of_getElem?
def Q0:=@List.map_cons
def Q1:=@List.all_eq_true
def Q2:=@List.getElem_mem
def Q3:=@Array.getElem?_eq_some_iff
def Q5:=@List.take_of_length_le
def Q7:=@Array.getElem?_eq_getElem
def Q8:=@Bool.eq_iff_iff
def ZB:=@Nat.lt_or_ge
def ZD:=@List.mem_cons
def ZI:=@List.mem_range
def ZJ:=@Nat.eq_of_beq_eq_true
def ZK:=@List.length_map
def ZO:=@List.getElem?_set
def ZP:=@List.mem_map
def ZR:=@List.getElem?_map
def ZS:=@List.map_append
def ZT:=@List.eq_nil_of_length_eq_zero
def ZU:=@List.append_nil
def ZV:=@Nat.zero_add
def ZY:=@Bool.not_false
def ZZ:=@List.any_eq_true
def Z0:=@Bool.not_eq_true'
def Z1:=@List.ext_getElem?
def Z2:=@List.getElem?_set_self
def Z6:=@Nat.lt_of_lt_of_le
def Z7:=@List.getElem?_take
def WA:=@List.getD_eq_getElem?_getD
def WE:=@List.length_set
def WG:=@List.getElem?_toArray
def WH:=@Bool.and_true
def WJ:=@Nat.lt_of_le_of_lt
def WK:=@List.not_mem_nil
def WM:=@List.range_succ
def WN:=@List.mem_iff_getElem
def WP:=@Nat.add_mul
def WQ:=@List.nodup_cons
def WR:=@Bool.or_eq_true
def WS:=@List.map_nil
def WU:=@List.mem_cons_of_mem
def WV:=@List.mapM_cons
def WZ:=@List.mem_singleton
def W2:=@Array.getElem?_setIfInBounds_ne
def W3:=@Nat.mul_one
def W5:=@Nat.not_lt_zero
def W6:=@List.any_eq_false
def W8:=@Array.getElem?_modify
def YB:=@List.mem_filter
def YG:=@List.set_append_left
def YH:=@List.flatMap_cons
def YM:=@List.mem_flatMap
def YN:=@List.getElem?_replicate
def YO:=@List.drop_zero
def YQ:=@Nat.mul_le_mul_right
def YR:=@Nat.le_trans
def YU:=@List.nodup_nil
def YV:=@List.mem_append
def Y1:=@List.ext_getElem
def Y2:=@Bool.not_true
def Y3:=@Bool.false_or
def Y7:=@Array.getElem?_toList
def XE:=@Nat.le_succ
def XF:=@Nat.eq_zero_or_pos
def XG:=@Array.mem_toList_iff
def XI:=@Bool.true_and
def XJ:=@Nat.succ_mul
def XK:=@List.filter_cons
def XS:=@List.contains_iff_mem
def XW:=@List.map_map
def X3:=@List.mem_filterMap
def X4:=@List.getElem?_drop
def X6:=@Nat.add_sub_cancel_left
def X7:=@List.take_length
def X8:=@Bool.or_eq_false_iff
def JC:=@List.take_add_one
def JD:=@List.filter_congr
def JE:=@Decidable.not_not
def JF:=@Array.getElem?_append_left
def JI:=@List.map_congr_left
def JR:=@Nat.shiftRight_eq_div_pow
def J3:=@List.mem_append_left
def VD:=@Nat.min_eq_left
def VI:=@Int.toNat_of_nonneg
def VV:=@Int.natCast_nonneg
def KE:=@List.set_eq_of_length_le
def K5:=@Array.getElem?_push
def K9:=@List.countP_cons
def UA:=@Bool.and_false
def UQ:=@Nat.testBit_lt_two_pow
def UR:=@List.range_succ_eq_map
def US:=@Bool.true_or
def HC:=@List.length_filter_le
end Go.Proofs.YtogjcmnopidfpaaGreat
namespace Go.Proofs.YtogjcmnopidfpaaGreat.AM
open Go
set_option linter.unusedVariables false
inductive CV where
 | int (k:IntKind) (n:Int)
 | bool (b:Bool)
 | str (s:ByteArray)
 | nilp | nilm | nilf | nili | nils
 | rsl (cs:List CV) (len:Nat)
 | rp (cs:List CV) (off:Nat)
 deriving Inhabited
inductive AV where
 | cv (c:CV)
 | ptr (l off:Nat)
 | sl (l off len esz:Nat)
 | map (l:Nat)
 | fn (f:Fn) (captured:List AV)
 | bm (f:FuncId) (first:List AV)
 | yld (l:Nat)
 | agg (cs:List AV)
 | tup (vs:List AV)
 | undef
 | slc (l off len cap esz:Nat)
 deriving Inhabited
structure XC where
 state:LoopState
 pending:Option Code
 vars:List Nat
 ntmps:Nat
 vals:List AV
 params:List Nat
 assign:Code
 body:Code
 fi:Option Nat:=none
inductive AObj where
 | dead
 | cells (cs:List AV)
 | map (es:List (AV × AV))
 | siter (s:ByteArray) (pos:Nat)
 | loop (r:XC)
abbrev LM:=Nat→Option Nat
def Own (m:LM) (X:Nat→Prop) (b:Nat):Prop:=X b∨∃ l,m l=some b
mutual
def CV.rep (w:World) (O:Nat→Prop):CV→Value→Prop
 | .int k n,v=>v=.int k n
 | .bool b,v=>v=.bool b
 | .str s,v=>v=.string s
 | .nilp,v=>v=.pointer none
 | .nilm,v=>v=.map none
 | .nilf,v=>v=.nilFunc
 | .nili,v=>v=.nilIface
 | .nils,v=>v=.slice none 0 0
 | .rsl cs len,v=>(v=.slice none 0 0∧len=0∧cs=[])∨∃ a cap,v=.slice (some a) len cap∧len≤cap∧CV.reps w O cs a 0
 | .rp cs off,v=>∃ a:Addr,v=.pointer (some (a.add off))∧CV.reps w O cs a 0
def CV.reps (w:World) (O:Nat→Prop):List CV→Addr→Nat→Prop
 | [],_,_=>True
 | c::cs,a,i=>¬ O a.block∧(∃ v,w.cell? (a.add i)=some v∧CV.rep w O c v)∧CV.reps w O cs a (i+1)
end
mutual
def VRel (m:LM) (X:Nat→Prop) (w:World):AV→Value→Prop
 | .cv c,v=>c.rep w (Own m X) v
 | .ptr l off,v=>∃ b,m l=some b∧v=.pointer (some ⟨b,off,none⟩)
 | .sl l off len esz,v=>∃ b cap,m l=some b∧v=.slice (some ⟨b,off,none⟩) len cap∧len≤cap∧∃ c e,w.heap[b]? = some (.cells c e (0,0))∧off+cap*esz≤c.size
 | .map l,v=>∃ b,m l=some b∧v=.map (some b)
 | .fn f cs,v=>∃ vs:List Value,v=.func f #[] vs.toArray∧QK m X w cs vs
 | .bm f cs,v=>∃ vs:List Value,v=.func (.func f) vs.toArray #[]∧QK m X w cs vs
 | .yld l,v=>∃ b,m l=some b∧v=.func (.yield b) #[] #[]
 | .agg cs,v=>∃ vs:List Value,v=.agg vs.toArray∧QK m X w cs vs
 | .tup cs,v=>∃ vs:List Value,v=.tuple vs.toArray∧QK m X w cs vs
 | .undef,_=>True
 | .slc l off len cap esz,v=>∃ b,m l=some b∧v=.slice (some ⟨b,off,none⟩) len cap∧len≤cap∧∃ c e,w.heap[b]? = some (.cells c e (0,0))∧off+cap*esz≤c.size
def QK (m:LM) (X:Nat→Prop) (w:World):List AV→List Value→Prop
 | [],[]=>True
 | a::as,v::vs=>VRel m X w a v∧QK m X w as vs
 | _,_=>False
end
def ARel (m:LM) (X:Nat→Prop) (w:World) (vars:List Nat) (vals:List AV) (tmps:Array Value):Prop :=
 ∀ i t,vars[i]? = some t→VRel m X w (vals.getD i .undef) (tmps.getD t Go.undef)
def ORel (m:LM) (X:Nat→Prop) (w:World):Option Nat→AObj→Prop
 | _,.dead=>True
 | none,_=>False
 | some b,.cells cs=>∃ c e,w.heap[b]? = some (.cells c e (0,0))∧cs.length≤c.size∧QK m X w cs (c.toList.take cs.length)
 | some b,.map es=>∃ (ces:Array MapEntry) (clock:Nat),w.heap[b]? = some (.map ces clock)∧(∀ e∈ces,e.born<clock)∧(ces.toList.map (·.born)).Nodup∧ces.size=es.length ∧
   ∀ (i:Nat) (k a:AV),es[i]? = some (k,a)→∃ e:MapEntry,ces[i]? = some e∧VRel m X w k e.key∧VRel m X w a e.val
 | some b,.siter s pos=>w.heap[b]? = some (.stringIter s pos)
 | some b,.loop r=>∃ (tmps:Array Value) (d fnid:Nat),tmps.size=r.ntmps∧ARel m X w r.vars r.vals tmps ∧
   w.heap[b]? = some (.loop { state:=r.state,pending:=r.pending,fn:=fnid,tmps,params:=r.params.toArray,assign:=r.assign,body:=r.body,defers:=d })∧r.vals.length≤r.vars.length∧∀ f,r.fi=some f→fnid=f
def AObj.live:AObj→Prop | .dead=>False | _=>True
class Dr where
 on:Prop
 gl:List (Nat × List CV)
set_option linter.unusedSectionVars false
variable [Dr]
def GlOk (m:LM) (X:Nat→Prop) (w:World):Prop:=∀ p∈Dr.gl,CV.reps w (Own m X) p.2 ⟨p.1,0,none⟩ 0
structure HRel (m:LM) (X:Nat→Prop) (σ:List AObj) (w:World):Prop where
 xb:∀ b,X b→b<w.heap.size
 dom:∀ l b,m l=some b→l<σ.length∧b<w.heap.size
 own:∀ l b o,m l=some b→σ[l]? = some o→o.live→¬ X b
 inj:∀ l l' b o',m l=some b→m l'=some b→σ[l']? = some o'→o'.live→l≤l'
 obj:∀ l o,σ[l]? = some o→ORel m X w (m l) o
 gl:GlOk m X w
structure Step (n0:Nat) (m:LM) (X:Nat→Prop) (w:World) (m':LM) (w':World):Prop where
 keep:∀ l,l<n0→m' l=m l
 new:∀ l b,m' l=some b→(∃ l',m l'=some b)∨w.heap.size≤b
 size:w.heap.size≤w'.heap.size
 fr:∀ b:Nat,b<w.heap.size→(X b∨∀ l,m l≠some b)→w'.heap[b]? = w.heap[b]?
 shp:∀ (b:Nat) (c:Array Value) (e:TypeId),w.heap[b]? = some (Obj.cells c e (0,0))→∃ c',w'.heap[b]? = some (Obj.cells c' e (0,0))∧c'.size=c.size
 os:w'.os=w.os
 tape:w'.tape=w.tape
 output:w'.output=w.output
 drawn:Dr.on→w.drawn≤w'.drawn
end Go.Proofs.YtogjcmnopidfpaaGreat.AM
namespace Go.Proofs.YtogjcmnopidfpaaGreat.AM
variable [Dr]
open Go
theorem Addr.add_add (a:Addr) (i j:Nat):(a.add i).add j=a.add (i+j):=by
 unfold Addr.add
 by_cases hi:i=0 <;> by_cases hj:j=0 <;> simp[hi,hj] <;> omega
theorem Addr.add_block (a:Addr) (i:Nat):(a.add i).block=a.block:=by
 unfold Addr.add;split <;> rfl
def isC (w:World) (b:Nat):Prop:=∃ c e fr,w.heap[b]? = some (Obj.cells c e fr)
theorem cell_isC {w:World} {a:Addr} {v:Value} (h:w.cell? a=some v):isC w a.block:=by
 unfold World.cell? at h
 split at h
 ·rename_i c e fr hb;exact ⟨c,e,_,hb⟩
 ·cases h
theorem isC.lt {w:World} {b:Nat} (h:isC w b):b<w.heap.size:=by
 obtain ⟨c,e,fr,h⟩:=h;exact (Q3.1 h).1
theorem cell_of_block {w w':World} {a:Addr} (h:w'.heap[a.block]? = w.heap[a.block]?):w'.cell? a=w.cell? a:=by
 simp[World.cell?,h]
mutual
theorem CV.rep_mono {w w':World} {O O':Nat→Prop} (h:∀ b,¬ O b→isC w b→w'.heap[b]? = w.heap[b]?∧¬ O' b):∀ (c:CV) (v:Value),c.rep w O v→c.rep w' O' v
 | .int k n,v,hv=>by simpa[CV.rep] using hv
 | .bool b,v,hv=>by simpa[CV.rep] using hv
 | .str s,v,hv=>by simpa[CV.rep] using hv
 | .nilp,v,hv=>by simpa[CV.rep] using hv
 | .nilm,v,hv=>by simpa[CV.rep] using hv
 | .nilf,v,hv=>by simpa[CV.rep] using hv
 | .nili,v,hv=>by simpa[CV.rep] using hv
 | .nils,v,hv=>by simpa[CV.rep] using hv
 | .rsl cs len,v,hv=>by
  simp only[CV.rep] at hv ⊢
  rcases hv with hv | ⟨a,cap,h1,h2,h3⟩
  ·exact .inl hv
  ·exact .inr ⟨a,cap,h1,h2,CV.reps_mono h cs a 0 h3⟩
 | .rp cs off,v,hv=>by
  simp only[CV.rep] at hv ⊢
  obtain ⟨a,h1,h3⟩:=hv
  exact ⟨a,h1,CV.reps_mono h cs a 0 h3⟩
theorem CV.reps_mono {w w':World} {O O':Nat→Prop} (h:∀ b,¬ O b→isC w b→w'.heap[b]? = w.heap[b]?∧¬ O' b):∀ (cs:List CV) (a:Addr) (i:Nat),CV.reps w O cs a i→CV.reps w' O' cs a i
 | [],a,i,_=>by simp[CV.reps]
 | c::cs,a,i,hv=>by
  simp only[CV.reps] at hv ⊢
  obtain ⟨h1,⟨v,h2,h3⟩,h4⟩:=hv
  have hb:isC w a.block:=by have:=cell_isC h2;rwa [Addr.add_block] at this
  have:=h _ h1 hb
  exact ⟨this.2,⟨v,by rw[cell_of_block (w:=w)];exact h2;rw[Addr.add_block];exact this.1,CV.rep_mono h c v h3⟩,CV.reps_mono h cs a (i+1) h4⟩
end
structure Mono (m:LM) (X:Nat→Prop) (w:World) (m':LM) (X':Nat→Prop) (w':World):Prop where
 sub:∀ l b,m l=some b→m' l=some b
 cl:∀ b,¬ Own m X b→isC w b→w'.heap[b]? = w.heap[b]?∧¬ Own m' X' b
 shp:∀ (b:Nat) (c:Array Value) (e:TypeId),w.heap[b]? = some (Obj.cells c e (0,0))→∃ c',w'.heap[b]? = some (Obj.cells c' e (0,0))∧c'.size=c.size
mutual
theorem VRel.mono {m m':LM} {X X':Nat→Prop} {w w':World} (h:Mono m X w m' X' w'):∀ (a:AV) (v:Value),VRel m X w a v→VRel m' X' w' a v
 | .cv c,v,hv=>by simp only[VRel] at hv ⊢;exact CV.rep_mono h.cl c v hv
 | .ptr l off,v,hv=>by simp only[VRel] at hv ⊢;obtain ⟨b,h1,h2⟩:=hv;exact ⟨b,h.sub _ _ h1,h2⟩
 | .sl l off len esz,v,hv=>by
  simp only[VRel] at hv ⊢
  obtain ⟨b,cap,h1,h2,h3,c,e,h4,h5⟩:=hv
  obtain ⟨c',h6,h7⟩:=h.shp _ _ _ h4
  exact ⟨b,cap,h.sub _ _ h1,h2,h3,c',e,h6,by omega⟩
 | .map l,v,hv=>by simp only[VRel] at hv ⊢;obtain ⟨b,h1,h2⟩:=hv;exact ⟨b,h.sub _ _ h1,h2⟩
 | .fn f cs,v,hv=>by simp only[VRel] at hv ⊢;obtain ⟨vs,h1,h2⟩:=hv;exact ⟨vs,h1,QK.mono h cs vs h2⟩
 | .bm f cs,v,hv=>by simp only[VRel] at hv ⊢;obtain ⟨vs,h1,h2⟩:=hv;exact ⟨vs,h1,QK.mono h cs vs h2⟩
 | .yld l,v,hv=>by simp only[VRel] at hv ⊢;obtain ⟨b,h1,h2⟩:=hv;exact ⟨b,h.sub _ _ h1,h2⟩
 | .agg cs,v,hv=>by simp only[VRel] at hv ⊢;obtain ⟨vs,h1,h2⟩:=hv;exact ⟨vs,h1,QK.mono h cs vs h2⟩
 | .tup cs,v,hv=>by simp only[VRel] at hv ⊢;obtain ⟨vs,h1,h2⟩:=hv;exact ⟨vs,h1,QK.mono h cs vs h2⟩
 | .undef,v,hv=>by simp[VRel]
 | .slc l off len cap esz,v,hv=>by
  simp only[VRel] at hv ⊢
  obtain ⟨b,h1,h2,h3,c,e,h4,h5⟩:=hv
  obtain ⟨c',h6,h7⟩:=h.shp _ _ _ h4
  exact ⟨b,h.sub _ _ h1,h2,h3,c',e,h6,by omega⟩
theorem QK.mono {m m':LM} {X X':Nat→Prop} {w w':World} (h:Mono m X w m' X' w'):∀ (as:List AV) (vs:List Value),QK m X w as vs→QK m' X' w' as vs
 | [],[],_=>by simp[QK]
 | a::as,v::vs,hv=>by simp only[QK] at hv ⊢;exact ⟨VRel.mono h a v hv.1,QK.mono h as vs hv.2⟩
 | [],_::_,hv=>by simp[QK] at hv
 | _::_,[],hv=>by simp[QK] at hv
end
theorem ARel.mono {m m':LM} {X X':Nat→Prop} {w w':World} (h:Mono m X w m' X' w') {vars:List Nat} {vals:List AV} {tmps:Array Value} (ha:ARel m X w vars vals tmps):ARel m' X' w' vars vals tmps :=
 fun i t hi=>VRel.mono h _ _ (ha i t hi)
theorem ORel.mono {m m':LM} {X X':Nat→Prop} {w w':World} (h:Mono m X w m' X' w') {b:Nat} {o:AObj} (hb:w'.heap[b]? = w.heap[b]?) (ho:ORel m X w (some b) o):ORel m' X' w' (some b) o:=by
 cases o with
 | dead=>simp[ORel]
 | cells cs =>
  simp only[ORel] at ho ⊢
  obtain ⟨c,e,h1,h2,h3⟩:=ho
  exact ⟨c,e,by rw[hb];exact h1,h2,QK.mono h _ _ h3⟩
 | map es =>
  simp only[ORel] at ho ⊢
  obtain ⟨ces,clock,h1,h2,h3,h4,h5⟩:=ho
  refine ⟨ces,clock,by rw[hb];exact h1,h2,h3,h4,fun i k a hi=>?_⟩
  obtain ⟨e,he,hk,ha⟩:=h5 i k a hi
  exact ⟨e,he,VRel.mono h _ _ hk,VRel.mono h _ _ ha⟩
 | siter s pos=>simp only[ORel] at ho ⊢;rw[hb];exact ho
 | loop r =>
  simp only[ORel] at ho ⊢
  obtain ⟨tmps,d,fi,h2,h3,h4⟩:=ho
  exact ⟨tmps,d,fi,h2,h3.mono h,by rw[hb];exact h4⟩
theorem QK.length {m:LM} {X:Nat→Prop} {w:World}:∀ {as:List AV} {vs:List Value},QK m X w as vs→as.length=vs.length
 | [],[],_=>rfl
 | _::_,_::_,h=>by simp only[QK] at h;simp[QK.length h.2]
 | [],_::_,h=>by simp[QK] at h
 | _::_,[],h=>by simp[QK] at h
theorem QK.get {m:LM} {X:Nat→Prop} {w:World}:∀ {as:List AV} {vs:List Value},QK m X w as vs→∀ (i:Nat) (a:AV),as[i]? = some a→∃ v,vs[i]? = some v∧VRel m X w a v
 | [],[],_,i,a,h=>by simp at h
 | b::bs,v::vs,h,0,a,hi=>by simp only[QK] at h;simp at hi;subst hi;exact ⟨v,by simp,h.1⟩
 | b::bs,v::vs,h,i+1,a,hi=>by simp only[QK] at h;simp at hi;simpa using QK.get h.2 i a hi
 | [],_::_,h,_,_,_=>by simp[QK] at h
 | _::_,[],h,_,_,_=>by simp[QK] at h
theorem QK.append {m:LM} {X:Nat→Prop} {w:World}:∀ {as:List AV} {vs:List Value} {bs:List AV} {us:List Value},QK m X w as vs→QK m X w bs us→QK m X w (as++bs) (vs++us)
 | [],[],_,_,_,h=>by simpa using h
 | _::_,_::_,_,_,h,g=>by simp only[QK,List.cons_append] at h ⊢;exact ⟨h.1,QK.append h.2 g⟩
 | [],_::_,_,_,h,_=>by simp[QK] at h
 | _::_,[],_,_,h,_=>by simp[QK] at h
theorem QK.take {m:LM} {X:Nat→Prop} {w:World}:∀ {as:List AV} {vs:List Value} (n:Nat),QK m X w as vs→QK m X w (as.take n) (vs.take n)
 | [],[],n,_=>by simp[QK]
 | _::_,_::_,0,_=>by simp[QK]
 | _::_,_::_,n+1,h=>by simp only[QK,List.take_succ_cons] at h ⊢;exact ⟨h.1,QK.take n h.2⟩
 | [],_::_,_,h=>by simp[QK] at h
 | _::_,[],_,h=>by simp[QK] at h
theorem QK.drop {m:LM} {X:Nat→Prop} {w:World}:∀ {as:List AV} {vs:List Value} (n:Nat),QK m X w as vs→QK m X w (as.drop n) (vs.drop n)
 | [],[],n,_=>by simp[QK]
 | _::_,_::_,0,h=>by simpa using h
 | _::_,_::_,n+1,h=>by simp only[QK,List.drop_succ_cons] at h ⊢;exact QK.drop n h.2
 | [],_::_,_,h=>by simp[QK] at h
 | _::_,[],_,h=>by simp[QK] at h
theorem QK.set {m:LM} {X:Nat→Prop} {w:World}:∀ {as:List AV} {vs:List Value} (i:Nat) {a:AV} {v:Value},QK m X w as vs→VRel m X w a v→QK m X w (as.set i a) (vs.set i v)
 | [],[],_,_,_,_,_=>by simp[QK]
 | _::_,_::_,0,_,_,h,g=>by simp only[QK,List.set_cons_zero] at h ⊢;exact ⟨g,h.2⟩
 | _::_,_::_,i+1,_,_,h,g=>by simp only[QK,List.set_cons_succ] at h ⊢;exact ⟨h.1,QK.set i h.2 g⟩
 | [],_::_,_,_,_,h,_=>by simp[QK] at h
 | _::_,[],_,_,_,h,_=>by simp[QK] at h
theorem QK.replicate {m:LM} {X:Nat→Prop} {w:World} {a:AV} {v:Value} (h:VRel m X w a v):∀ n,QK m X w (List.replicate n a) (List.replicate n v)
 | 0=>by simp[QK]
 | n+1=>by simp only[List.replicate_succ,QK];exact ⟨h,QK.replicate h n⟩
theorem QK.getD {m:LM} {X:Nat→Prop} {w:World} {as:List AV} {vs:List Value} (h:QK m X w as vs) (i:Nat) (u:Value):VRel m X w (as.getD i .undef) (vs.getD i u):=by
 cases hi:as[i]? with
 | none=>simp[List.getD,hi,VRel]
 | some a =>
  obtain ⟨v,hv,hr⟩:=h.get i a hi
  simpa[List.getD,hi,hv] using hr
theorem Step.refl (n0:Nat) (m:LM) (X:Nat→Prop) (w:World):Step n0 m X w m w :=
 ⟨fun _ _=>rfl,fun l b h=>.inl ⟨l,h⟩,QG _,fun _ _ _=>rfl,fun b c e h=>⟨c,h,rfl⟩,rfl,rfl,rfl,fun _=>QG _⟩
theorem Step.trans {n0:Nat} {m m1 m2:LM} {X:Nat→Prop} {w w1 w2:World} (h:Step n0 m X w m1 w1) (k:Step n0 m1 X w1 m2 w2):Step n0 m X w m2 w2 where
 keep l hl:=(k.keep l hl).trans (h.keep l hl)
 new l b hb:=by
  rcases k.new l b hb with ⟨l',hl'⟩ | hge
  ·exact h.new l' b hl'
  ·exact .inr (YR h.size hge)
 size:=YR h.size k.size
 fr b hb hno:=by
  have h1:=h.fr b hb hno
  have:X b∨∀ l,m1 l≠some b:=hno.imp id fun hno l hl=>by
   rcases h.new l b hl with ⟨l',hl'⟩ | hge
   ·exact hno l' hl'
   ·omega
  rw[k.fr b (Z6 hb h.size) this,h1]
 shp b c e hb:=by
  obtain ⟨c1,h1,h2⟩:=h.shp b c e hb
  obtain ⟨c2,h3,h4⟩:=k.shp b c1 e h1
  exact ⟨c2,h3,h4.trans h2⟩
 os:=k.os.trans h.os
 tape:=k.tape.trans h.tape
 output:=k.output.trans h.output
 drawn o:=YR (h.drawn o) (k.drawn o)
theorem Step.less {n0 n1:Nat} {m m':LM} {X:Nat→Prop} {w w':World} (h:Step n0 m X w m' w') (hn:n1≤n0):Step n1 m X w m' w' :=
 {h with keep:=fun l hl=>h.keep l (Z6 hl hn) }
theorem Step.mono {n0:Nat} {m m':LM} {X:Nat→Prop} {w w':World} (h:Step n0 m X w m' w') (hd:∀ l b,m l=some b→l<n0) (hx:∀ b,X b→b<w.heap.size):Mono m X w m' X w' where
 sub l b hl:=by rw[h.keep l (hd l b hl)];exact hl
 cl b hb hc:=by
  have hlt:=hc.lt
  refine ⟨h.fr b hlt (.inr fun l hl=>hb (.inr ⟨l,hl⟩)),?_⟩
  rintro (hX | ⟨l,hl⟩)
  ·exact hb (.inl hX)
  ·rcases h.new l b hl with ⟨l',hl'⟩ | hge
   ·exact hb (.inr ⟨l',hl'⟩)
   ·omega
 shp:=h.shp
theorem GlOk.mono {m m':LM} {X X':Nat→Prop} {w w':World} (h:GlOk m X w) (hm:Mono m X w m' X' w'):GlOk m' X' w':=fun p hp=>CV.reps_mono hm.cl _ _ _ (h p hp)
theorem GlOk.less {m m':LM} {X X':Nat→Prop} {w:World} (h:GlOk m X w) (ho:∀ b,Own m' X' b→Own m X b):GlOk m' X' w:=fun p hp=>CV.reps_mono (fun b hb _=>⟨rfl,fun h=>hb (ho b h)⟩) _ _ _ (h p hp)
theorem GlOk.same {m m':LM} {X X':Nat→Prop} {w w':World} (h:GlOk m X w) (hf:∀ b,b<w.heap.size→¬ Own m X b→w'.heap[b]? = w.heap[b]?) (ho:∀ b,b<w.heap.size→Own m' X' b→Own m X b):GlOk m' X' w' :=
 fun p hp=>CV.reps_mono (fun b hb hc=>⟨hf b hc.lt hb,fun h=>hb (ho b hc.lt h)⟩) _ _ _ (h p hp)
theorem HRel.mono_of_step {m m':LM} {X:Nat→Prop} {σ:List AObj} {w w':World} (h:HRel m X σ w) {n0:Nat} (hs:Step n0 m X w m' w') (hn:σ.length≤n0):Mono m X w m' X w' :=
 hs.mono (fun l b hl=>Z6 (h.dom l b hl).1 hn) h.xb
theorem HRel.inj2 {m:LM} {X:Nat→Prop} {σ:List AObj} {w:World} (h:HRel m X σ w) (l l' b:Nat) (o o':AObj) (h1:m l=some b) (h2:m l'=some b) (h3:σ[l]? = some o) (h4:σ[l']? = some o') (h5:o.live) (h6:o'.live):l=l' :=
 Nat.le_antisymm (h.inj l l' b o' h1 h2 h4 h6) (h.inj l' l b o h2 h1 h3 h5)
theorem Mono.refl (m:LM) (X:Nat→Prop) (w:World):Mono m X w m X w:=⟨fun _ _ h=>h,fun b hb _=>⟨rfl,hb⟩,fun b c e h=>⟨c,h,rfl⟩⟩
end Go.Proofs.YtogjcmnopidfpaaGreat.AM

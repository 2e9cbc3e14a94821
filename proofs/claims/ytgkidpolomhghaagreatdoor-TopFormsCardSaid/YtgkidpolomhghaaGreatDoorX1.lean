/- Parts of the proof, joined: AmA to AmL. -/
import Derived.Laws.World
import Derived.Laws.Sem
import Derived.RangeFuncLeaves
import Derived.RangeFuncRecord
import GoSem.ClaimKeys
import Derived.Laws.CopyRow
import Derived.Laws.Entries
import Derived.IntWalk
import Derived.Lib.AppendZerosOnto
import Derived.DeepKeys3
import Derived.RangeFuncNested
import Derived.Test.YtgkidpolomhghaaGreatDoorProg
import Derived.Lib.Strings
import Derived.Test.YtgkidpolomhghaaGreatDoorChecked
import Derived.Shelf.SlSortCmp.WholeK
import Derived.Shelf.SlGeneric
import Derived.Ground.SlsfProg
import Derived.Sort.LotA
import Derived.Maps.RangeRun
import GoSem.Op.String
import Derived.Test.YtgkidpolomhghaaGreatDoorRows
import Derived.ProofKit
import Derived.SevenTiedAt
import Derived.WalkKit
import Derived.OpenShut
import Derived.Carry
import Derived.Lib.LaidTab
import Derived.MakeChecks
import Derived.Walk
set_option linter.unusedVariables false
set_option linter.unusedSimpArgs false
set_option linter.unusedSectionVars false
set_option linter.defProp false
namespace Go.Proofs.YtgkidpolomhghaaGreatDoor
def QA:=@Option.map_eq_some_iff
def QB:=@Option.bind_eq_some_iff
def QC:=@Nat.le_of_ble_eq_true
def QD:=@Bool.and_eq_true
def QE:=@List.getElem?_append_left
def QF:=@Nat.zero_le
def QG:=@Nat.le_refl
def QH:=@List.getElem?_eq_some_iff
def QI:=@List.getElem?_eq_getElem
def QJ:=@Int.ofNat_lt
def QM:=@List.length_append
def QN:=@List.getElem?_eq_none
def QQ:=@Nat.lt_succ_iff_lt_or_eq
def QS:=@List.getElem?_append_right
def QT:=@Bool.false_eq_true
def QU:=@List.getElem?_set_ne
def QV:=@Array.getD_eq_getD_getElem?
def QW:=@List.append_assoc
def QZ:=@List.mem_of_getElem?
def Q0:=@List.map_cons
def Q1:=@List.all_eq_true
def Q2:=@List.getElem_mem
def Q3:=@Array.getElem?_eq_some_iff
def Q5:=@List.take_of_length_le
def Q7:=@Array.getElem?_eq_getElem
def Q8:=@Bool.eq_iff_iff
def ZB:=@Nat.lt_or_ge
def ZD:=@List.mem_cons
def ZI:=@List.mem_range
def ZJ:=@Nat.eq_of_beq_eq_true
def ZK:=@List.length_map
def ZO:=@List.getElem?_set
def ZP:=@List.mem_map
def ZR:=@List.getElem?_map
def ZS:=@List.map_append
def ZT:=@List.eq_nil_of_length_eq_zero
def ZU:=@List.append_nil
def ZV:=@Nat.zero_add
def ZY:=@Bool.not_false
def ZZ:=@List.any_eq_true
def Z0:=@Bool.not_eq_true'
def Z1:=@List.ext_getElem?
def Z2:=@List.getElem?_set_self
def Z6:=@Nat.lt_of_lt_of_le
def Z7:=@List.getElem?_take
def WA:=@List.getD_eq_getElem?_getD
def WE:=@List.length_set
def WG:=@List.getElem?_toArray
def WH:=@Bool.and_true
def WJ:=@Nat.lt_of_le_of_lt
def WK:=@List.not_mem_nil
def WM:=@List.range_succ
def WN:=@List.mem_iff_getElem
def WP:=@Nat.add_mul
def WQ:=@List.nodup_cons
def WR:=@Bool.or_eq_true
def WS:=@List.map_nil
def WU:=@List.mem_cons_of_mem
def WV:=@List.mapM_cons
def WZ:=@List.mem_singleton
def W2:=@Array.getElem?_setIfInBounds_ne
def W3:=@Nat.mul_one
def W5:=@Nat.not_lt_zero
def W6:=@List.any_eq_false
def W8:=@Array.getElem?_modify
def YB:=@List.mem_filter
def YG:=@List.set_append_left
def YH:=@List.flatMap_cons
def YM:=@List.mem_flatMap
def YN:=@List.getElem?_replicate
def YO:=@List.drop_zero
def YQ:=@Nat.mul_le_mul_right
def YR:=@Nat.le_trans
def YU:=@List.nodup_nil
def YV:=@List.mem_append
def Y1:=@List.ext_getElem
def Y2:=@Bool.not_true
def Y3:=@Bool.false_or
def Y7:=@Array.getElem?_toList
def XE:=@Nat.le_succ
def XF:=@Nat.eq_zero_or_pos
def XG:=@Array.mem_toList_iff
def XI:=@Bool.true_and
def XJ:=@Nat.succ_mul
def XK:=@List.filter_cons
def XS:=@List.contains_iff_mem
def XW:=@List.map_map
def X3:=@List.mem_filterMap
def X4:=@List.getElem?_drop
def X6:=@Nat.add_sub_cancel_left
def X7:=@List.take_length
def X8:=@Bool.or_eq_false_iff
def JC:=@List.take_add_one
def JD:=@List.filter_congr
def JE:=@Decidable.not_not
def JF:=@Array.getElem?_append_left
def JI:=@List.map_congr_left
def JR:=@Nat.shiftRight_eq_div_pow
def J3:=@List.mem_append_left
def VD:=@Nat.min_eq_left
def VI:=@Int.toNat_of_nonneg
def VV:=@Int.natCast_nonneg
def KE:=@List.set_eq_of_length_le
def K5:=@Array.getElem?_push
def K9:=@List.countP_cons
def UA:=@Bool.and_false
def UQ:=@Nat.testBit_lt_two_pow
def UR:=@List.range_succ_eq_map
def US:=@Bool.true_or
def HC:=@List.length_filter_le
end Go.Proofs.YtgkidpolomhghaaGreatDoor
namespace Go.Proofs.YtgkidpolomhghaaGreatDoor.AM
open Go
set_option linter.unusedVariables false
inductive CV where
 | int (k:IntKind) (n:Int)
 | bool (b:Bool)
 | str (s:ByteArray)
 | nilp | nilm | nilf | nili | nils
 | rsl (cs:List CV) (len:Nat)
 | rp (cs:List CV) (off:Nat)
 deriving Inhabited
inductive AV where
 | cv (c:CV)
 | ptr (l off:Nat)
 | sl (l off len esz:Nat)
 | map (l:Nat)
 | fn (f:Fn) (captured:List AV)
 | bm (f:FuncId) (first:List AV)
 | yld (l:Nat)
 | agg (cs:List AV)
 | tup (vs:List AV)
 | undef
 | slc (l off len cap esz:Nat)
 deriving Inhabited
structure XC where
 state:LoopState
 pending:Option Code
 vars:List Nat
 ntmps:Nat
 vals:List AV
 params:List Nat
 assign:Code
 body:Code
 fi:Option Nat:=none
inductive AObj where
 | dead
 | cells (cs:List AV)
 | map (es:List (AV × AV))
 | siter (s:ByteArray) (pos:Nat)
 | loop (r:XC)
abbrev LM:=Nat→Option Nat
def Own (m:LM) (X:Nat→Prop) (b:Nat):Prop:=X b∨∃ l,m l=some b
mutual
def CV.rep (w:World) (O:Nat→Prop):CV→Value→Prop
 | .int k n,v=>v=.int k n
 | .bool b,v=>v=.bool b
 | .str s,v=>v=.string s
 | .nilp,v=>v=.pointer none
 | .nilm,v=>v=.map none
 | .nilf,v=>v=.nilFunc
 | .nili,v=>v=.nilIface
 | .nils,v=>v=.slice none 0 0
 | .rsl cs len,v=>(v=.slice none 0 0∧len=0∧cs=[])∨∃ a cap,v=.slice (some a) len cap∧len≤cap∧CV.reps w O cs a 0
 | .rp cs off,v=>∃ a:Addr,v=.pointer (some (a.add off))∧CV.reps w O cs a 0
def CV.reps (w:World) (O:Nat→Prop):List CV→Addr→Nat→Prop
 | [],_,_=>True
 | c::cs,a,i=>¬ O a.block∧(∃ v,w.cell? (a.add i)=some v∧CV.rep w O c v)∧CV.reps w O cs a (i+1)
end
mutual
def VRel (m:LM) (X:Nat→Prop) (w:World):AV→Value→Prop
 | .cv c,v=>c.rep w (Own m X) v
 | .ptr l off,v=>∃ b,m l=some b∧v=.pointer (some ⟨b,off,none⟩)
 | .sl l off len esz,v=>∃ b cap,m l=some b∧v=.slice (some ⟨b,off,none⟩) len cap∧len≤cap∧∃ c e,w.heap[b]? = some (.cells c e (0,0))∧off+cap*esz≤c.size
 | .map l,v=>∃ b,m l=some b∧v=.map (some b)
 | .fn f cs,v=>∃ vs:List Value,v=.func f #[] vs.toArray∧QK m X w cs vs
 | .bm f cs,v=>∃ vs:List Value,v=.func (.func f) vs.toArray #[]∧QK m X w cs vs
 | .yld l,v=>∃ b,m l=some b∧v=.func (.yield b) #[] #[]
 | .agg cs,v=>∃ vs:List Value,v=.agg vs.toArray∧QK m X w cs vs
 | .tup cs,v=>∃ vs:List Value,v=.tuple vs.toArray∧QK m X w cs vs
 | .undef,_=>True
 | .slc l off len cap esz,v=>∃ b,m l=some b∧v=.slice (some ⟨b,off,none⟩) len cap∧len≤cap∧∃ c e,w.heap[b]? = some (.cells c e (0,0))∧off+cap*esz≤c.size
def QK (m:LM) (X:Nat→Prop) (w:World):List AV→List Value→Prop
 | [],[]=>True
 | a::αs,v::vs=>VRel m X w a v∧QK m X w αs vs
 | _,_=>False
end
def ARel (m:LM) (X:Nat→Prop) (w:World) (vars:List Nat) (vals:List AV) (tmps:Array Value):Prop :=
 ∀ i t,vars[i]? = some t→VRel m X w (vals.getD i .undef) (tmps.getD t Go.undef)
def ORel (m:LM) (X:Nat→Prop) (w:World):Option Nat→AObj→Prop
 | _,.dead=>True
 | none,_=>False
 | some b,.cells cs=>∃ c e,w.heap[b]? = some (.cells c e (0,0))∧cs.length≤c.size∧QK m X w cs (c.toList.take cs.length)
 | some b,.map es=>∃ (ces:Array MapEntry) (clock:Nat),w.heap[b]? = some (.map ces clock)∧(∀ e∈ces,e.born<clock)∧(ces.toList.map (·.born)).Nodup∧ces.size=es.length ∧
   ∀ (i:Nat) (k a:AV),es[i]? = some (k,a)→∃ e:MapEntry,ces[i]? = some e∧VRel m X w k e.key∧VRel m X w a e.val
 | some b,.siter s pos=>w.heap[b]? = some (.stringIter s pos)
 | some b,.loop r=>∃ (tmps:Array Value) (d fnid:Nat),tmps.size=r.ntmps∧ARel m X w r.vars r.vals tmps ∧
   w.heap[b]? = some (.loop { state:=r.state,pending:=r.pending,fn:=fnid,tmps,params:=r.params.toArray,assign:=r.assign,body:=r.body,defers:=d })∧r.vals.length≤r.vars.length∧∀ f,r.fi=some f→fnid=f
def AObj.live:AObj→Prop | .dead=>False | _=>True
class Dr where
 on:Prop
 gl:List (Nat × List CV)
set_option linter.unusedSectionVars false
variable [Dr]
def GlOk (m:LM) (X:Nat→Prop) (w:World):Prop:=∀ p∈Dr.gl,CV.reps w (Own m X) p.2 ⟨p.1,0,none⟩ 0
structure HRel (m:LM) (X:Nat→Prop) (σ:List AObj) (w:World):Prop where
 xb:∀ b,X b→b<w.heap.size
 dom:∀ l b,m l=some b→l<σ.length∧b<w.heap.size
 own:∀ l b o,m l=some b→σ[l]? = some o→o.live→¬ X b
 inj:∀ l l' b o',m l=some b→m l'=some b→σ[l']? = some o'→o'.live→l≤l'
 obj:∀ l o,σ[l]? = some o→ORel m X w (m l) o
 gl:GlOk m X w
structure Step (n0:Nat) (m:LM) (X:Nat→Prop) (w:World) (m':LM) (w':World):Prop where
 keep:∀ l,l<n0→m' l=m l
 new:∀ l b,m' l=some b→(∃ l',m l'=some b)∨w.heap.size≤b
 size:w.heap.size≤w'.heap.size
 fr:∀ b:Nat,b<w.heap.size→(X b∨∀ l,m l≠some b)→w'.heap[b]? = w.heap[b]?
 shp:∀ (b:Nat) (c:Array Value) (e:TypeId),w.heap[b]? = some (Obj.cells c e (0,0))→∃ c',w'.heap[b]? = some (Obj.cells c' e (0,0))∧c'.size=c.size
 os:w'.os=w.os
 tape:w'.tape=w.tape
 output:w'.output=w.output
 drawn:Dr.on→w.drawn≤w'.drawn
end Go.Proofs.YtgkidpolomhghaaGreatDoor.AM
namespace Go.Proofs.YtgkidpolomhghaaGreatDoor.AM
variable [Dr]
open Go
theorem Addr.add_add (a:Addr) (i j:Nat):(a.add i).add j=a.add (i+j):=by
 unfold Addr.add;by_cases hi:i=0 <;> by_cases hj:j=0 <;> simp[hi,hj] <;> omega
theorem Addr.add_block (a:Addr) (i:Nat):(a.add i).block=a.block:=by
 unfold Addr.add;split <;> rfl
def isC (w:World) (b:Nat):Prop:=∃ c e fr,w.heap[b]? = some (Obj.cells c e fr)
theorem cell_isC {w:World} {a:Addr} {v:Value} (h:w.cell? a=some v):isC w a.block:=by
 unfold World.cell? at h;split at h
 ·rename_i c e fr hb;exact ⟨c,e,_,hb⟩
 ·cases h
theorem isC.lt {w:World} {b:Nat} (h:isC w b):b<w.heap.size:=by
 obtain ⟨c,e,fr,h⟩:=h;exact (Q3.1 h).1
theorem cell_of_block {w w':World} {a:Addr} (h:w'.heap[a.block]? = w.heap[a.block]?):w'.cell? a=w.cell? a:=by
 simp[World.cell?,h]
mutual
theorem CV.rep_mono {w w':World} {O O':Nat→Prop} (h:∀ b,¬ O b→isC w b→w'.heap[b]? = w.heap[b]?∧¬ O' b):∀ (c:CV) (v:Value),c.rep w O v→c.rep w' O' v
 | .int k n,v,hv=>by simpa[CV.rep] using hv
 | .bool b,v,hv=>by simpa[CV.rep] using hv
 | .str s,v,hv=>by simpa[CV.rep] using hv
 | .nilp,v,hv=>by simpa[CV.rep] using hv
 | .nilm,v,hv=>by simpa[CV.rep] using hv
 | .nilf,v,hv=>by simpa[CV.rep] using hv
 | .nili,v,hv=>by simpa[CV.rep] using hv
 | .nils,v,hv=>by simpa[CV.rep] using hv
 | .rsl cs len,v,hv=>by
  simp only[CV.rep] at hv ⊢;rcases hv with hv | ⟨a,cap,h1,h2,h3⟩
  ·exact .inl hv
  ·exact .inr ⟨a,cap,h1,h2,CV.reps_mono h cs a 0 h3⟩
 | .rp cs off,v,hv=>by simp only[CV.rep] at hv ⊢;obtain ⟨a,h1,h3⟩:=hv;exact ⟨a,h1,CV.reps_mono h cs a 0 h3⟩
theorem CV.reps_mono {w w':World} {O O':Nat→Prop} (h:∀ b,¬ O b→isC w b→w'.heap[b]? = w.heap[b]?∧¬ O' b):∀ (cs:List CV) (a:Addr) (i:Nat),CV.reps w O cs a i→CV.reps w' O' cs a i
 | [],a,i,_=>by simp[CV.reps]
 | c::cs,a,i,hv=>by
  simp only[CV.reps] at hv ⊢;obtain ⟨h1,⟨v,h2,h3⟩,h4⟩:=hv;have hb:isC w a.block:=by have:=cell_isC h2;rwa [Addr.add_block] at this
  have:=h _ h1 hb;exact ⟨this.2,⟨v,by rw[cell_of_block (w:=w)];exact h2;rw[Addr.add_block];exact this.1,CV.rep_mono h c v h3⟩,CV.reps_mono h cs a (i+1) h4⟩
end
structure Mono (m:LM) (X:Nat→Prop) (w:World) (m':LM) (X':Nat→Prop) (w':World):Prop where
 sub:∀ l b,m l=some b→m' l=some b
 cl:∀ b,¬ Own m X b→isC w b→w'.heap[b]? = w.heap[b]?∧¬ Own m' X' b
 shp:∀ (b:Nat) (c:Array Value) (e:TypeId),w.heap[b]? = some (Obj.cells c e (0,0))→∃ c',w'.heap[b]? = some (Obj.cells c' e (0,0))∧c'.size=c.size
mutual
theorem VRel.mono {m m':LM} {X X':Nat→Prop} {w w':World} (h:Mono m X w m' X' w'):∀ (a:AV) (v:Value),VRel m X w a v→VRel m' X' w' a v
 | .cv c,v,hv=>by simp only[VRel] at hv ⊢;exact CV.rep_mono h.cl c v hv
 | .ptr l off,v,hv=>by simp only[VRel] at hv ⊢;obtain ⟨b,h1,h2⟩:=hv;exact ⟨b,h.sub _ _ h1,h2⟩
 | .sl l off len esz,v,hv=>by simp only[VRel] at hv ⊢;obtain ⟨b,cap,h1,h2,h3,c,e,h4,h5⟩:=hv;obtain ⟨c',h6,h7⟩:=h.shp _ _ _ h4;exact ⟨b,cap,h.sub _ _ h1,h2,h3,c',e,h6,by omega⟩
 | .map l,v,hv=>by simp only[VRel] at hv ⊢;obtain ⟨b,h1,h2⟩:=hv;exact ⟨b,h.sub _ _ h1,h2⟩
 | .fn f cs,v,hv=>by simp only[VRel] at hv ⊢;obtain ⟨vs,h1,h2⟩:=hv;exact ⟨vs,h1,QK.mono h cs vs h2⟩
 | .bm f cs,v,hv=>by simp only[VRel] at hv ⊢;obtain ⟨vs,h1,h2⟩:=hv;exact ⟨vs,h1,QK.mono h cs vs h2⟩
 | .yld l,v,hv=>by simp only[VRel] at hv ⊢;obtain ⟨b,h1,h2⟩:=hv;exact ⟨b,h.sub _ _ h1,h2⟩
 | .agg cs,v,hv=>by simp only[VRel] at hv ⊢;obtain ⟨vs,h1,h2⟩:=hv;exact ⟨vs,h1,QK.mono h cs vs h2⟩
 | .tup cs,v,hv=>by simp only[VRel] at hv ⊢;obtain ⟨vs,h1,h2⟩:=hv;exact ⟨vs,h1,QK.mono h cs vs h2⟩
 | .undef,v,hv=>by simp[VRel]
 | .slc l off len cap esz,v,hv=>by simp only[VRel] at hv ⊢;obtain ⟨b,h1,h2,h3,c,e,h4,h5⟩:=hv;obtain ⟨c',h6,h7⟩:=h.shp _ _ _ h4;exact ⟨b,h.sub _ _ h1,h2,h3,c',e,h6,by omega⟩
theorem QK.mono {m m':LM} {X X':Nat→Prop} {w w':World} (h:Mono m X w m' X' w'):∀ (αs:List AV) (vs:List Value),QK m X w αs vs→QK m' X' w' αs vs
 | [],[],_=>by simp[QK]
 | a::αs,v::vs,hv=>by simp only[QK] at hv ⊢;exact ⟨VRel.mono h a v hv.1,QK.mono h αs vs hv.2⟩
 | [],_::_,hv=>by simp[QK] at hv
 | _::_,[],hv=>by simp[QK] at hv
end
theorem ARel.mono {m m':LM} {X X':Nat→Prop} {w w':World} (h:Mono m X w m' X' w') {vars:List Nat} {vals:List AV} {tmps:Array Value} (ha:ARel m X w vars vals tmps):ARel m' X' w' vars vals tmps :=
 fun i t hi=>VRel.mono h _ _ (ha i t hi)
theorem ORel.mono {m m':LM} {X X':Nat→Prop} {w w':World} (h:Mono m X w m' X' w') {b:Nat} {o:AObj} (hb:w'.heap[b]? = w.heap[b]?) (ho:ORel m X w (some b) o):ORel m' X' w' (some b) o:=by
 cases o with
 | dead=>simp[ORel]
 | cells cs =>
  simp only[ORel] at ho ⊢;obtain ⟨c,e,h1,h2,h3⟩:=ho;exact ⟨c,e,by rw[hb];exact h1,h2,QK.mono h _ _ h3⟩
 | map es =>
  simp only[ORel] at ho ⊢;obtain ⟨ces,clock,h1,h2,h3,h4,h5⟩:=ho;refine ⟨ces,clock,by rw[hb];exact h1,h2,h3,h4,fun i k a hi=>?_⟩;obtain ⟨e,he,hk,ha⟩:=h5 i k a hi;exact ⟨e,he,VRel.mono h _ _ hk,VRel.mono h _ _ ha⟩
 | siter s pos=>simp only[ORel] at ho ⊢;rw[hb];exact ho
 | loop r =>
  simp only[ORel] at ho ⊢;obtain ⟨tmps,d,fi,h2,h3,h4⟩:=ho;exact ⟨tmps,d,fi,h2,h3.mono h,by rw[hb];exact h4⟩
theorem QK.length {m:LM} {X:Nat→Prop} {w:World}:∀ {αs:List AV} {vs:List Value},QK m X w αs vs→αs.length=vs.length
 | [],[],_=>rfl
 | _::_,_::_,h=>by simp only[QK] at h;simp[QK.length h.2]
 | [],_::_,h=>by simp[QK] at h
 | _::_,[],h=>by simp[QK] at h
theorem QK.get {m:LM} {X:Nat→Prop} {w:World}:∀ {αs:List AV} {vs:List Value},QK m X w αs vs→∀ (i:Nat) (a:AV),αs[i]? = some a→∃ v,vs[i]? = some v∧VRel m X w a v
 | [],[],_,i,a,h=>by simp at h
 | b::bs,v::vs,h,0,a,hi=>by simp only[QK] at h;simp at hi;subst hi;exact ⟨v,by simp,h.1⟩
 | b::bs,v::vs,h,i+1,a,hi=>by simp only[QK] at h;simp at hi;simpa using QK.get h.2 i a hi
 | [],_::_,h,_,_,_=>by simp[QK] at h
 | _::_,[],h,_,_,_=>by simp[QK] at h
theorem QK.append {m:LM} {X:Nat→Prop} {w:World}:∀ {αs:List AV} {vs:List Value} {bs:List AV} {us:List Value},QK m X w αs vs→QK m X w bs us→QK m X w (αs++bs) (vs++us)
 | [],[],_,_,_,h=>by simpa using h
 | _::_,_::_,_,_,h,g=>by simp only[QK,List.cons_append] at h ⊢;exact ⟨h.1,QK.append h.2 g⟩
 | [],_::_,_,_,h,_=>by simp[QK] at h
 | _::_,[],_,_,h,_=>by simp[QK] at h
theorem QK.take {m:LM} {X:Nat→Prop} {w:World}:∀ {αs:List AV} {vs:List Value} (n:Nat),QK m X w αs vs→QK m X w (αs.take n) (vs.take n)
 | [],[],n,_=>by simp[QK]
 | _::_,_::_,0,_=>by simp[QK]
 | _::_,_::_,n+1,h=>by simp only[QK,List.take_succ_cons] at h ⊢;exact ⟨h.1,QK.take n h.2⟩
 | [],_::_,_,h=>by simp[QK] at h
 | _::_,[],_,h=>by simp[QK] at h
theorem QK.drop {m:LM} {X:Nat→Prop} {w:World}:∀ {αs:List AV} {vs:List Value} (n:Nat),QK m X w αs vs→QK m X w (αs.drop n) (vs.drop n)
 | [],[],n,_=>by simp[QK]
 | _::_,_::_,0,h=>by simpa using h
 | _::_,_::_,n+1,h=>by simp only[QK,List.drop_succ_cons] at h ⊢;exact QK.drop n h.2
 | [],_::_,_,h=>by simp[QK] at h
 | _::_,[],_,h=>by simp[QK] at h
theorem QK.set {m:LM} {X:Nat→Prop} {w:World}:∀ {αs:List AV} {vs:List Value} (i:Nat) {a:AV} {v:Value},QK m X w αs vs→VRel m X w a v→QK m X w (αs.set i a) (vs.set i v)
 | [],[],_,_,_,_,_=>by simp[QK]
 | _::_,_::_,0,_,_,h,g=>by simp only[QK,List.set_cons_zero] at h ⊢;exact ⟨g,h.2⟩
 | _::_,_::_,i+1,_,_,h,g=>by simp only[QK,List.set_cons_succ] at h ⊢;exact ⟨h.1,QK.set i h.2 g⟩
 | [],_::_,_,_,_,h,_=>by simp[QK] at h
 | _::_,[],_,_,_,h,_=>by simp[QK] at h
theorem QK.replicate {m:LM} {X:Nat→Prop} {w:World} {a:AV} {v:Value} (h:VRel m X w a v):∀ n,QK m X w (List.replicate n a) (List.replicate n v)
 | 0=>by simp[QK]
 | n+1=>by simp only[List.replicate_succ,QK];exact ⟨h,QK.replicate h n⟩
theorem QK.getD {m:LM} {X:Nat→Prop} {w:World} {αs:List AV} {vs:List Value} (h:QK m X w αs vs) (i:Nat) (u:Value):VRel m X w (αs.getD i .undef) (vs.getD i u):=by
 cases hi:αs[i]? with
 | none=>simp[List.getD,hi,VRel]
 | some a =>
  obtain ⟨v,hv,hr⟩:=h.get i a hi;simpa[List.getD,hi,hv] using hr
theorem Step.refl (n0:Nat) (m:LM) (X:Nat→Prop) (w:World):Step n0 m X w m w :=
 ⟨fun _ _=>rfl,fun l b h=>.inl ⟨l,h⟩,QG _,fun _ _ _=>rfl,fun b c e h=>⟨c,h,rfl⟩,rfl,rfl,rfl,fun _=>QG _⟩
theorem Step.trans {n0:Nat} {m m1 m2:LM} {X:Nat→Prop} {w w1 w2:World} (h:Step n0 m X w m1 w1) (k:Step n0 m1 X w1 m2 w2):Step n0 m X w m2 w2 where
 keep l hl:=(k.keep l hl).trans (h.keep l hl)
 new l b hb:=by
  rcases k.new l b hb with ⟨l',hl'⟩ | hge
  ·exact h.new l' b hl'
  ·exact .inr (YR h.size hge)
 size:=YR h.size k.size
 fr b hb hno:=by
  have h1:=h.fr b hb hno;have:X b∨∀ l,m1 l≠some b:=hno.imp id fun hno l hl=>by
   rcases h.new l b hl with ⟨l',hl'⟩ | hge
   ·exact hno l' hl'
   ·omega
  rw[k.fr b (Z6 hb h.size) this,h1]
 shp b c e hb:=by obtain ⟨c1,h1,h2⟩:=h.shp b c e hb;obtain ⟨c2,h3,h4⟩:=k.shp b c1 e h1;exact ⟨c2,h3,h4.trans h2⟩
 os:=k.os.trans h.os
 tape:=k.tape.trans h.tape
 output:=k.output.trans h.output
 drawn o:=YR (h.drawn o) (k.drawn o)
theorem Step.less {n0 n1:Nat} {m m':LM} {X:Nat→Prop} {w w':World} (h:Step n0 m X w m' w') (hn:n1≤n0):Step n1 m X w m' w' :=
 {h with keep:=fun l hl=>h.keep l (Z6 hl hn) }
theorem Step.mono {n0:Nat} {m m':LM} {X:Nat→Prop} {w w':World} (h:Step n0 m X w m' w') (hd:∀ l b,m l=some b→l<n0) (hx:∀ b,X b→b<w.heap.size):Mono m X w m' X w' where
 sub l b hl:=by rw[h.keep l (hd l b hl)];exact hl
 cl b hb hc:=by
  have hlt:=hc.lt;refine ⟨h.fr b hlt (.inr fun l hl=>hb (.inr ⟨l,hl⟩)),?_⟩;rintro (hX | ⟨l,hl⟩)
  ·exact hb (.inl hX)
  ·rcases h.new l b hl with ⟨l',hl'⟩ | hge
   ·exact hb (.inr ⟨l',hl'⟩)
   ·omega
 shp:=h.shp
theorem GlOk.mono {m m':LM} {X X':Nat→Prop} {w w':World} (h:GlOk m X w) (hm:Mono m X w m' X' w'):GlOk m' X' w':=fun p hp=>CV.reps_mono hm.cl _ _ _ (h p hp)
theorem GlOk.less {m m':LM} {X X':Nat→Prop} {w:World} (h:GlOk m X w) (ho:∀ b,Own m' X' b→Own m X b):GlOk m' X' w:=fun p hp=>CV.reps_mono (fun b hb _=>⟨rfl,fun h=>hb (ho b h)⟩) _ _ _ (h p hp)
theorem GlOk.step {n0:Nat} {m m':LM} {X:Nat→Prop} {w w':World} (h:GlOk m X w) (hs:Step n0 m X w m' w'):GlOk m' X w':=fun p hp=>CV.reps_mono (fun b hb hc=>by
 have hlt:=hc.lt;refine ⟨hs.fr b hlt (.inr fun l hl=>hb (.inr ⟨l,hl⟩)),?_⟩;rintro (hX | ⟨l,hl⟩)
 ·exact hb (.inl hX)
 ·rcases hs.new l b hl with ⟨l',hl'⟩ | hge
  ·exact hb (.inr ⟨l',hl'⟩)
  ·omega) _ _ _ (h p hp)
theorem GlOk.same {m m':LM} {X X':Nat→Prop} {w w':World} (h:GlOk m X w) (hf:∀ b,b<w.heap.size→¬ Own m X b→w'.heap[b]? = w.heap[b]?) (ho:∀ b,b<w.heap.size→Own m' X' b→Own m X b):GlOk m' X' w' :=
 fun p hp=>CV.reps_mono (fun b hb hc=>⟨hf b hc.lt hb,fun h=>hb (ho b hc.lt h)⟩) _ _ _ (h p hp)
theorem HRel.mono_of_step {m m':LM} {X:Nat→Prop} {σ:List AObj} {w w':World} (h:HRel m X σ w) {n0:Nat} (hs:Step n0 m X w m' w') (hn:σ.length≤n0):Mono m X w m' X w' :=
 hs.mono (fun l b hl=>Z6 (h.dom l b hl).1 hn) h.xb
theorem HRel.inj2 {m:LM} {X:Nat→Prop} {σ:List AObj} {w:World} (h:HRel m X σ w) (l l' b:Nat) (o o':AObj) (h1:m l=some b) (h2:m l'=some b) (h3:σ[l]? = some o) (h4:σ[l']? = some o') (h5:o.live) (h6:o'.live):l=l' :=
 Nat.le_antisymm (h.inj l l' b o' h1 h2 h4 h6) (h.inj l' l b o h2 h1 h3 h5)
theorem Mono.refl (m:LM) (X:Nat→Prop) (w:World):Mono m X w m X w:=⟨fun _ _ h=>h,fun b hb _=>⟨rfl,hb⟩,fun b c e h=>⟨c,h,rfl⟩⟩
abbrev AV.i (n:Int):AV:=.cv (.int .i64 n)
abbrev AV.b (b:Bool):AV:=.cv (.bool b)
inductive TK where
 | int | bool | str | ptr | slc | fn
 deriving DecidableEq,Repr
inductive KK where
 | int (k:IntKind) | str | bool
 deriving DecidableEq,Repr
inductive IOp where
 | mv | pick | not
 | bin (op:BinOp) (tk:TK)
 | conv (k:IntKind)
 | alloc (zs:List AV)
 | box
 | build (zs:List AV) (places:List (Nat × Nat))
 | bslice (esz len:Nat) (zs:List AV) (places:List (Nat × Nat))
 | load1
 | loadN (n:Nat)
 | store (n:Nat)
 | nilck
 | mkfn (f:Fn)
 | mkbm (f:FuncId)
 | mkmap
 | mkslice (esz bytes:Nat) (zs:List AV)
 | slA (n esz:Nat) (lo hi:Bool)
 | slS (esz:Nat) (lo hi:Bool)
 | slStr (lo hi:Bool)
 | fadd (off:Nat)
 | fld (off n:Nat) (agg:Bool)
 | iaA (len esz:Nat)
 | iaS (esz:Nat)
 | ixA (len esz n:Nat) (agg:Bool)
 | ixStr
 | extract (i:Nat)
 | len (str:Bool)
 | min2 | max2
 | append (esz bytes:Nat)
 | copy (esz:Nat)
 | clear (zs:List AV)
 | lookup (ks:Bool × List KK) (zs:AV) (ok:Bool)
 | mapset (ks:Bool × List KK)
 | mapdel (ks:Bool × List KK)
 | maplen
 | rstr
 | snext
 | stuck
 | eqS (neg:Bool) (ks:Bool × List KK)
 | mksliceC (esz bytes:Nat) (zs:List AV)
 | slS3
 | cap
 | appendz (esz bytes:Nat) (zs:List AV)
 | mapent (ks:Bool × List KK) (z:AV)
 | entst
def AV.isSc:AV→Bool
 | .agg _ | .tup _ | .undef=>false
 | _=>true
def AV.isUndef:AV→Bool | .undef=>true | _=>false
def cellsOf:AV→List AV
 | .agg cs=>cs
 | v=>[v]
def binI (op:BinOp) (k:IntKind) (x y:Int):Option AV :=
 match op with
 | .add=>some (.cv (.int k (k.wrap (x+y))))
 | .sub=>some (.cv (.int k (k.wrap (x-y))))
 | .mul=>some (.cv (.int k (k.wrap (x*y))))
 | .quo=>if y=0 then none else some (.cv (.int k (k.wrap (x.tdiv y))))
 | .rem=>if y=0 then none else some (.cv (.int k (x.tmod y)))
 | .and=>some (.cv (.int k (k.wrap (BitVec.ofInt k.bits x &&& BitVec.ofInt k.bits y).toNat)))
 | .or=>some (.cv (.int k (k.wrap (BitVec.ofInt k.bits x ||| BitVec.ofInt k.bits y).toNat)))
 | .xor=>some (.cv (.int k (k.wrap (BitVec.ofInt k.bits x ^^^ BitVec.ofInt k.bits y).toNat)))
 | .andNot=>some (.cv (.int k (k.wrap (BitVec.ofInt k.bits x &&& ~~~BitVec.ofInt k.bits y).toNat)))
 | .eql=>some (.b (x == y))
 | .neq=>some (.b (x != y))
 | .lss=>some (.b (decide (x<y)))
 | .leq=>some (.b (decide (x≤y)))
 | .gtr=>some (.b (decide (x>y)))
 | .geq=>some (.b (decide (x≥y)))
 | _=>none
def VK (op:BinOp) (k:IntKind) (x y:Int):Option AV :=
 if y<0 then none else
 match op with
 | .shl=>some (.cv (.int k (k.wrap (x*2 ^ min y.toNat k.bits))))
 | .shr=>some (.cv (.int k (x.fdiv (2 ^ min y.toNat k.bits))))
 | _=>none
def RV:BinOp→Bool | .shl | .shr=>true | _=>false
def binS (op:BinOp) (x y:ByteArray):Option AV :=
 match op with
 | .add=>if x.size+y.size≤2 ^ 62 then some (.cv (.str (x++y))) else none
 | .eql=>some (.b (x.toList == y.toList))
 | .neq=>some (.b (!(x.toList == y.toList)))
 | .lss=>some (.b (Op.bytesLess x.toList y.toList))
 | .leq=>some (.b (Op.bytesLess x.toList y.toList||(x.toList == y.toList)))
 | .gtr=>some (.b (!(Op.bytesLess x.toList y.toList||(x.toList == y.toList))))
 | .geq=>some (.b (!Op.bytesLess x.toList y.toList))
 | _=>none
def K8 (op:BinOp) (r:Bool):Option AV :=
 match op with
 | .eql=>some (.b r)
 | .neq=>some (.b (!r))
 | _=>none
def binF (op:BinOp) (tk:TK) (x y:AV):Option AV :=
 match tk,x,y with
 | .int,.cv (.int k a),.cv (.int k' b)=>if RV op then VK op k a b else if k=k' then binI op k a b else none
 | .bool,.cv (.bool a),.cv (.bool b)=>K8 op (a == b)
 | .str,.cv (.str a),.cv (.str b)=>binS op a b
 | .ptr,.cv .nilp,.cv .nilp=>K8 op true
 | .ptr,.ptr _ _,.cv .nilp=>K8 op false
 | .ptr,.cv (.rp _ _),.cv .nilp=>K8 op false
 | .slc,.cv .nils,.cv .nils=>K8 op true
 | .slc,.sl _ _ _ _,.cv .nils=>K8 op false
 | .fn,.fn _ _,.cv .nilf=>K8 op false
 | .slc,.slc _ _ _ _ _,.cv .nils=>K8 op false
 | .slc,.cv (.rsl _ (_+1)),.cv .nils=>K8 op false
 | _,_,_=>none
def setRange {α:Type} (cs:List α) (off:Nat):List α→List α
 | []=>cs
 | v::vs=>setRange (cs.set off v) (off+1) vs
def YW (n:Nat):List AV→List AV
 | [z]=>List.replicate n z
 | zs=>(List.range (n*zs.length)).map fun i=>zs.getD (i % zs.length) .undef
def HW (zs:List AV):List (Nat × Nat)→List AV→Option (List AV)
 | [],[]=>some zs
 | (off,n)::ps,v::vs=>if (cellsOf v).length=n∧off+n≤zs.length∧v.isUndef=false then HW (setRange zs off (cellsOf v)) ps vs else none
 | _,_=>none
def bnd (x:AV):Option Nat :=
 match x with
 | .cv (.int _ n)=>if 0≤n then some n.toNat else none
 | _=>none
def bnds (lo hi:Bool) (len:Nat) (args:List AV):Option (Nat × Nat) :=
 match lo,hi,args with
 | false,false,[]=>some (0,len)
 | true,false,[l]=>(bnd l).map fun l=>(l,len)
 | false,true,[h]=>(bnd h).map fun h=>(0,h)
 | true,true,[l,h]=>(bnd l).bind fun l=>(bnd h).map fun h=>(l,h)
 | _,_,_=>none
def kkOk:KK→AV→Bool
 | .int k,.cv (.int k' n)=>decide (k'=k)&&(Lit.int k n).wf
 | .str,.cv (.str s)=>decide (s.size≤maxLen)
 | .bool,.cv (.bool _)=>true
 | _,_=>false
def Y4:List KK→List AV→Bool
 | [],[]=>true
 | k::ks,a::as_=>kkOk k a&&Y4 ks as_
 | _,_=>false
def EB:AV→AV→Bool
 | .cv (.int _ a),.cv (.int _ b)=>decide (a=b)
 | .cv (.str a),.cv (.str b)=>decide (a=b)
 | .cv (.bool a),.cv (.bool b)=>a == b
 | _,_=>false
def VZ:List AV→List AV→Bool
 | [],[]=>true
 | a::as_,b::bs=>EB a b&&VZ as_ bs
 | _,_=>false
def JK:Bool→AV→Option (List AV)
 | true,.agg xs=>some xs
 | true,_=>none
 | false,a=>some [a]
def F4 (ks:Bool × List KK) (a:AV):Bool :=
 match JK ks.1 a with
 | some xs=>Y4 ks.2 xs
 | none=>false
def JW (ks:Bool × List KK) (a b:AV):Option Bool :=
 match JK ks.1 a,JK ks.1 b with
 | some xs,some ys=>if Y4 ks.2 xs&&Y4 ks.2 ys then some (VZ xs ys) else none
 | _,_=>none
def findKey (ks:Bool × List KK) (k:AV):List (AV × AV)→Nat→Option (Option (Nat × AV))
 | [],_=>some none
 | (k',v)::es,i =>
  match JW ks k k' with
  | some true=>some (some (i,v))
  | some false=>findKey ks k es (i+1)
  | none=>none
def rowOf (σ:List AObj) (l:Nat):Option (List AV) :=
 match σ[l]? with
 | some (.cells cs)=>some cs
 | _=>none
def Z9 (σ:List AObj) (esz:Nat):AV→Option (List AV)
 | .cv .nils=>some []
 | .cv (.rsl cs len)=>if cs.length=len*esz then some (cs.map .cv) else none
 | .sl l off len e=>if e=esz then (rowOf σ l).bind fun cs=>if off+len*esz≤cs.length then some ((cs.drop off).take (len*esz)) else none else none
 | .cv (.str s)=>if esz=1 then some (s.data.toList.map fun b=>.cv (.int .u8 b.toNat)) else none
 | .slc l off len _ e=>if e=esz then (rowOf σ l).bind fun cs=>if off+len*esz≤cs.length then some ((cs.drop off).take (len*esz)) else none else none
 | _=>none
def lenF:AV→Option Nat
 | .cv .nils=>some 0
 | .cv (.rsl _ len)=>some len
 | .sl _ _ len _=>some len
 | .cv (.str s)=>some s.size
 | .slc _ _ len _ _=>some len
 | _=>none
def f_mv  (args:List AV) (σ:List AObj):Option (AV × List AObj) :=
 match args with
 | [x]=>some (x,σ)
 | _=>none
def P4  (args:List AV) (σ:List AObj):Option (AV × List AObj) :=
 match args with
 | [.cv (.bool c),a,b]=>some (if c then a else b,σ)
 | _=>none
def CN  (args:List AV) (σ:List AObj):Option (AV × List AObj) :=
 match args with
 | [.cv (.bool c)]=>some (.b (!c),σ)
 | _=>none
def OJ (op:BinOp) (tk:TK) (args:List AV) (σ:List AObj):Option (AV × List AObj) :=
 match args with
 | [x,y]=>(binF op tk x y).map (·,σ)
 | [.cv (.int k a)]=>(binI op k 0 a).map (·,σ)
 | _=>none
def P5 (k:IntKind) (args:List AV) (σ:List AObj):Option (AV × List AObj) :=
 match args with
 | [.cv (.int _ n)]=>some (.cv (.int k (k.wrap n)),σ)
 | _=>none
def UO (zs:List AV) (args:List AV) (σ:List AObj):Option (AV × List AObj) :=
 match args with
 | []=>some (.ptr σ.length 0,σ++[.cells zs])
 | _=>none
def WI  (args:List AV) (σ:List AObj):Option (AV × List AObj) :=
 match args with
 | [x]=>if x.isUndef=true then none else some (.ptr σ.length 0,σ++[.cells (cellsOf x)])
 | _=>none
def DL (zs:List AV) (ps:List (Nat × Nat)) (args:List AV) (σ:List AObj):Option (AV × List AObj) :=
 match args with
 | vs=>(HW zs ps vs).map fun cs=>(.agg cs,σ)
def V4 (esz len:Nat) (zs:List AV) (ps:List (Nat × Nat)) (args:List AV) (σ:List AObj):Option (AV × List AObj) :=
 match args with
 | vs=>(HW zs ps vs).map fun cs=>(.sl σ.length 0 len esz,σ++[.cells cs])
def KZ  (args:List AV) (σ:List AObj):Option (AV × List AObj) :=
 match args with
 | [.ptr l off]=>(rowOf σ l).bind fun cs=>(cs[off]?).map (·,σ)
 | [.cv (.rp cs off)]=>(cs[off]?).map fun c=>(.cv c,σ)
 | _=>none
def YF (n:Nat) (args:List AV) (σ:List AObj):Option (AV × List AObj) :=
 match args with
 | [.ptr l off]=>(rowOf σ l).bind fun cs=>if off+n≤cs.length then some (.agg ((cs.drop off).take n),σ) else none
 | [.cv (.rp cs off)]=>if off+n≤cs.length then some (.agg (((cs.drop off).take n).map .cv),σ) else none
 | _=>none
def UM (n:Nat) (args:List AV) (σ:List AObj):Option (AV × List AObj) :=
 match args with
 | [.ptr l off,v]=>(rowOf σ l).bind fun cs =>
   if (cellsOf v).length=n∧off+n≤cs.length∧(cellsOf v).all AV.isSc=true then some (.undef,σ.set l (.cells (setRange cs off (cellsOf v)))) else none
 | _=>none
def G4  (args:List AV) (σ:List AObj):Option (AV × List AObj) :=
 match args with
 | [.ptr l off]=>some (.ptr l off,σ)
 | [.cv (.rp cs off)]=>some (.cv (.rp cs off),σ)
 | [.fn (.func f) cs]=>some (.fn (.func f) cs,σ)
 | _=>none
def NI (f:Fn) (args:List AV) (σ:List AObj):Option (AV × List AObj) :=
 match args with
 | vs=>some (.fn f vs,σ)
def NJ (f:FuncId) (args:List AV) (σ:List AObj):Option (AV × List AObj) :=
 match args with
 | vs=>some (.bm f vs,σ)
def KY  (args:List AV) (σ:List AObj):Option (AV × List AObj) :=
 match args with
 | []=>some (.map σ.length,σ++[.map []])
 | _=>none
def XB (esz bytes:Nat) (zs:List AV) (args:List AV) (σ:List AObj):Option (AV × List AObj) :=
 match args with
 | [.cv (.int _ n),.cv (.int _ c)] =>
   if 0≤n∧n=c∧n*bytes≤2 ^ 46∧n≤2 ^ 46∧zs.length=esz then some (.sl σ.length 0 n.toNat esz,σ++[.cells (YW n.toNat zs)]) else none
 | _=>none
def XR (esz bytes:Nat) (zs:List AV) (args:List AV) (σ:List AObj):Option (AV × List AObj) :=
 match args with
 | [.cv (.int _ n),.cv (.int _ c)] =>
   if 0≤n∧n=c∧n*bytes≤2 ^ 46∧n≤2 ^ 46∧zs.length=esz then some (.slc σ.length 0 n.toNat n.toNat esz,σ++[.cells (YW n.toNat zs)]) else none
 | _=>none
def TR (args:List AV) (σ:List AObj):Option (AV × List AObj) :=
 match args with
 | [.sl _ _ len _,a,b,c]=>(bnd a).bind fun a=>(bnd b).bind fun b=>(bnd c).bind fun c=>if a≤b∧b≤c∧c≤len then some (.undef,σ) else none
 | [.slc _ _ len _ _,a,b,c]=>(bnd a).bind fun a=>(bnd b).bind fun b=>(bnd c).bind fun c=>if a≤b∧b≤c∧c≤len then some (.undef,σ) else none
 | _=>none
def NZ (args:List AV) (σ:List AObj):Option (AV × List AObj) :=
 match args with
 | [.slc _ _ _ cap _]=>some (.i cap,σ)
 | _=>none
def OG (n esz:Nat) (lo hi:Bool) (args:List AV) (σ:List AObj):Option (AV × List AObj) :=
 match args with
 | .ptr l off::bs=>(rowOf σ l).bind fun cs=>(bnds lo hi n bs).bind fun (a,b)=>if a≤b∧b≤n∧a<n∧off+n*esz≤cs.length then some (.sl l (off+a*esz) (b-a) esz,σ) else none
 | _=>none
def VG (esz:Nat) (lo hi:Bool) (args:List AV) (σ:List AObj):Option (AV × List AObj) :=
 match args with
 | .sl l off len e::bs=>(bnds lo hi len bs).bind fun (a,b) =>
   if a≤b∧b≤len∧e=esz then (if a=b∧0<a then some (.cv (.rsl [] 0),σ) else some (.sl l (off+a*esz) (b-a) esz,σ)) else none
 | .cv (.rsl cs len)::bs=>(bnds lo hi len bs).bind fun (a,b) =>
   if a≤b∧b≤len∧cs.length=len*esz then some (.cv (.rsl ((cs.drop (a*esz)).take ((b-a)*esz)) (b-a)),σ) else none
 | .cv .nils::bs=>(bnds lo hi 0 bs).bind fun (a,b)=>if a=0∧b=0 then some (.cv .nils,σ) else none
 | .slc l off len cap e::bs=>(bnds lo hi len bs).bind fun (a,b) =>
   if a≤b∧b≤cap∧e=esz then (if a=cap∧0<a then some (.cv (.rsl [] 0),σ) else some (.slc l (off+a*esz) (b-a) (cap-a) esz,σ)) else none
 | _=>none
def LN (lo hi:Bool) (args:List AV) (σ:List AObj):Option (AV × List AObj) :=
 match args with
 | .cv (.str s)::bs=>(bnds lo hi s.size bs).bind fun (a,b)=>if a≤b∧b≤s.size then some (.cv (.str (s.extract a b)),σ) else none
 | _=>none
def DK (off:Nat) (args:List AV) (σ:List AObj):Option (AV × List AObj) :=
 match args with
 | [.ptr l o]=>some (.ptr l (o+off),σ)
 | [.cv (.rp cs o)]=>some (.cv (.rp cs (o+off)),σ)
 | _=>none
def OH (off n:Nat) (agg:Bool) (args:List AV) (σ:List AObj):Option (AV × List AObj) :=
 match agg,args with
 | true,[.agg cs]=>if off+n≤cs.length then some (.agg ((cs.drop off).take n),σ) else none
 | false,[.agg cs]=>(cs[off]?).map (·,σ)
 | _,_=>none
def PD (len esz:Nat) (args:List AV) (σ:List AObj):Option (AV × List AObj) :=
 match args with
 | [.ptr l o,.cv (.int _ i)]=>if 0≤i∧i<len then some (.ptr l (o+i.toNat*esz),σ) else none
 | [.cv (.rp cs o),.cv (.int _ i)]=>if 0≤i∧i<len then some (.cv (.rp cs (o+i.toNat*esz)),σ) else none
 | _=>none
def VP (esz:Nat) (args:List AV) (σ:List AObj):Option (AV × List AObj) :=
 match args with
 | [.sl l o len e,.cv (.int _ i)]=>if 0≤i∧i<len then some (.ptr l (o+i.toNat*esz),σ) else none
 | [.cv (.rsl cs len),.cv (.int _ i)]=>if 0≤i∧i<len then some (.cv (.rp cs (i.toNat*esz)),σ) else none
 | [.slc l o len _ e,.cv (.int _ i)]=>if 0≤i∧i<len then some (.ptr l (o+i.toNat*esz),σ) else none
 | _=>none
def A7 (len esz n:Nat) (agg:Bool) (args:List AV) (σ:List AObj):Option (AV × List AObj) :=
 match agg,args with
 | true,[.agg cs,.cv (.int _ i)]=>if 0≤i∧i<len∧i.toNat*esz+n≤cs.length then some (.agg ((cs.drop (i.toNat*esz)).take n),σ) else none
 | false,[.agg cs,.cv (.int _ i)]=>if 0≤i∧i<len then (cs[i.toNat*esz]?).map (·,σ) else none
 | _,_=>none
def G5  (args:List AV) (σ:List AObj):Option (AV × List AObj) :=
 match args with
 | [.cv (.str s),.cv (.int _ i)]=>if 0≤i then (s.data[i.toNat]?).map fun b=>(.cv (.int .u8 b.toNat),σ) else none
 | _=>none
def U6 (i:Nat) (args:List AV) (σ:List AObj):Option (AV × List AObj) :=
 match args with
 | [.tup vs]=>(vs[i]?).map (·,σ)
 | _=>none
def RZ (str:Bool) (args:List AV) (σ:List AObj):Option (AV × List AObj) :=
 match str,args with
 | true,[.cv (.str s)]=>some (.i s.size,σ)
 | false,[.cv .nils]=>some (.i 0,σ)
 | false,[.cv (.rsl _ len)]=>some (.i len,σ)
 | false,[.sl _ _ len _]=>some (.i len,σ)
 | false,[.slc _ _ len _ _]=>some (.i len,σ)
 | _,_=>none
def DJ  (args:List AV) (σ:List AObj):Option (AV × List AObj) :=
 match args with
 | [.cv (.int k a),.cv (.int k' b)]=>if k=k' then some (.cv (.int k (if b<a then b else a)),σ) else none
 | _=>none
def GT  (args:List AV) (σ:List AObj):Option (AV × List AObj) :=
 match args with
 | [.cv (.int k a),.cv (.int k' b)]=>if k=k' then some (.cv (.int k (if b>a then b else a)),σ) else none
 | [.cv (.int k a),.cv (.int k' b),.cv (.int k'' c)]=>if k=k'∧k=k'' then some (.cv (.int k (if c>(if b>a then b else a) then c else if b>a then b else a)),σ) else none
 | _=>none
def ZX (esz bytes:Nat) (args:List AV) (σ:List AObj):Option (AV × List AObj) :=
 match args with
 | [.cv .nils,x]=>(Z9 σ esz x).bind fun new=>(lenF x).bind fun n =>
   if n=0 then some (.cv .nils,σ) else
   if n*esz=new.length∧n*bytes≤2 ^ 44∧n≤2 ^ 44∧new.all AV.isSc=true then some (.sl σ.length 0 n esz,σ++[.cells new]) else none
 | [.sl l 0 len e,x]=>(rowOf σ l).bind fun cs=>(Z9 σ esz x).bind fun new=>(lenF x).bind fun n =>
   if e=esz∧len*esz≤cs.length∧n*esz=new.length∧(len+n)*bytes≤2 ^ 44∧len+n≤2 ^ 44∧new.all AV.isSc=true then
    some (.sl σ.length 0 (len+n) esz,σ.set l .dead++[.cells (cs.take (len*esz)++new)]) else none
 | [.slc l off len cap e,x]=>(rowOf σ l).bind fun cs=>(Z9 σ esz x).bind fun new=>(lenF x).bind fun n =>
   if len+n≤cap then
    if e=esz∧off+(len+n)*esz≤cs.length∧n*esz=new.length∧new.all AV.isSc=true then
     some (.slc l off (len+n) cap esz,σ.set l (.cells (setRange cs (off+len*esz) new))) else none
   else if e=esz∧off+len*esz≤cs.length∧n*esz=new.length∧(len+n)*bytes≤2 ^ 44∧len+n≤2 ^ 44∧new.all AV.isSc=true then
    some (.sl σ.length 0 (len+n) esz,σ++[.cells ((cs.drop off).take (len*esz)++new)]) else none
 | _=>none
def VQ (esz bytes:Nat) (zs:List AV) (args:List AV) (σ:List AObj):Option (AV × List AObj) :=
 match args with
 | [.slc l off len cap e,.cv (.int _ n)]=>(rowOf σ l).bind fun cs =>
   if 0<n∧cap<len+n.toNat∧e=esz∧off+len*esz≤cs.length∧(len+n.toNat)*bytes≤2 ^ 44∧len+n.toNat≤2 ^ 44 then
    some (.sl σ.length 0 (len+n.toNat) esz,σ++[.cells ((cs.drop off).take (len*esz)++YW n.toNat zs)]) else none
 | _=>none
def UE (esz:Nat) (args:List AV) (σ:List AObj):Option (AV × List AObj) :=
 match args with
 | [.sl l off len e,x]=>(rowOf σ l).bind fun cs=>(Z9 σ esz x).bind fun new=>(lenF x).bind fun n =>
   if e=esz∧off+len*esz≤cs.length∧n*esz=new.length∧new.all AV.isSc=true then
    some (.i (Nat.min n len:Nat),σ.set l (.cells (setRange cs off (new.take (Nat.min n len*esz))))) else none
 | _=>none
def UN (zs:List AV) (args:List AV) (σ:List AObj):Option (AV × List AObj) :=
 match args with
 | [.sl l off len e]=>(rowOf σ l).bind fun cs =>
   if e=zs.length∧off+len*e≤cs.length∧zs.all AV.isSc=true then some (.tup [],σ.set l (.cells (setRange cs off (YW len zs)))) else none
 | [.slc l off len _ e]=>(rowOf σ l).bind fun cs =>
   if e=zs.length∧off+len*e≤cs.length∧zs.all AV.isSc=true then some (.tup [],σ.set l (.cells (setRange cs off (YW len zs)))) else none
 | _=>none
def mapOf (σ:List AObj) (l:Nat):Option (List (AV × AV)) :=
 match σ[l]? with
 | some (.map es)=>some es
 | _=>none
def KL (ks:Bool × List KK) (z:AV) (ok:Bool) (args:List AV) (σ:List AObj):Option (AV × List AObj) :=
 match args with
 | [.map l,k]=>(mapOf σ l).bind fun es=>if F4 ks k=false then none else (findKey ks k es 0).map fun r=>(if ok then .tup [(r.map (·.2)).getD z,.b r.isSome] else (r.map (·.2)).getD z,σ)
 | _=>none
def XU (es:List (AV × AV)) (k v:AV):Option (Nat × AV)→List (AV × AV)
 | some (i,_)=>es.set i (k,v)
 | none=>es++[(k,v)]
def JZ (ks:Bool × List KK) (args:List AV) (σ:List AObj):Option (AV × List AObj) :=
 match args with
 | [.map l,k,v]=>(mapOf σ l).bind fun es=>if F4 ks k=false then none else (findKey ks k es 0).map fun r=>(.undef,σ.set l (.map (XU es k v r)))
 | _=>none
def mapDel (es:List (AV × AV)):Option (Nat × AV)→List (AV × AV)
 | some (i,_)=>es.eraseIdx i
 | none=>es
def J0 (ks:Bool × List KK) (args:List AV) (σ:List AObj):Option (AV × List AObj) :=
 match args with
 | [.map l,k]=>(mapOf σ l).bind fun es=>if F4 ks k=false then none else (findKey ks k es 0).map fun r=>(.tup [],σ.set l (.map (mapDel es r)))
 | _=>none
def TS (args:List AV) (σ:List AObj):Option (AV × List AObj) :=
 match args with
 | [.map l]=>(mapOf σ l).map fun es=>(.i es.length,σ)
 | _=>none
def RH (σ:List AObj) (l:Nat):Option (ByteArray × Nat) :=
 match σ[l]? with
 | some (.siter s p)=>some (s,p)
 | _=>none
def OI (neg:Bool) (ks:Bool × List KK) (args:List AV) (σ:List AObj):Option (AV × List AObj) :=
 match args with
 | [a,b]=>(JW ks a b).map fun r=>(.b (if neg then !r else r),σ)
 | _=>none
def F6 (args:List AV) (σ:List AObj):Option (AV × List AObj) :=
 match args with
 | [.cv (.str s)]=>some (.ptr σ.length 0,σ++[.siter s 0])
 | _=>none
def KX (args:List AV) (σ:List AObj):Option (AV × List AObj) :=
 match args with
 | [.ptr l 0]=>(RH σ l).map fun sp=>if sp.2<sp.1.size then (.tup [.b true,.i sp.2,.cv (.int .i32 (Utf8.decode sp.1 sp.2).1)],σ.set l (.siter sp.1 (sp.2+(Utf8.decode sp.1 sp.2).2))) else (.tup [.b false],σ)
 | _=>none
def ZQ (op:IOp) (args:List AV) (σ:List AObj):Option (AV × List AObj) :=
 match op with
 | .mv=>f_mv args σ
 | .pick=>P4 args σ
 | .not=>CN args σ
 | .bin op tk=>OJ op tk args σ
 | .conv k=>P5 k args σ
 | .alloc zs=>UO zs args σ
 | .box=>WI args σ
 | .build zs ps=>DL zs ps args σ
 | .bslice esz len zs ps=>V4 esz len zs ps args σ
 | .load1=>KZ args σ
 | .loadN n=>YF n args σ
 | .store n=>UM n args σ
 | .nilck=>G4 args σ
 | .mkfn f=>NI f args σ
 | .mkbm f=>NJ f args σ
 | .mkmap=>KY args σ
 | .mkslice esz bytes zs=>XB esz bytes zs args σ
 | .slA n esz lo hi=>OG n esz lo hi args σ
 | .slS esz lo hi=>VG esz lo hi args σ
 | .slStr lo hi=>LN lo hi args σ
 | .fadd off=>DK off args σ
 | .fld off n agg=>OH off n agg args σ
 | .iaA len esz=>PD len esz args σ
 | .iaS esz=>VP esz args σ
 | .ixA len esz n agg=>A7 len esz n agg args σ
 | .ixStr=>G5 args σ
 | .extract i=>U6 i args σ
 | .len str=>RZ str args σ
 | .min2=>DJ args σ
 | .max2=>GT args σ
 | .append esz bytes=>ZX esz bytes args σ
 | .copy esz=>UE esz args σ
 | .clear zs=>UN zs args σ
 | .lookup ks z ok=>KL ks z ok args σ
 | .mapset ks=>JZ ks args σ
 | .mapdel ks=>J0 ks args σ
 | .maplen=>TS args σ
 | .rstr=>F6 args σ
 | .snext=>KX args σ
 | .stuck=>none
 | .eqS neg ks=>OI neg ks args σ
 | .mksliceC esz bytes zs=>XR esz bytes zs args σ
 | .slS3=>TR args σ
 | .cap=>NZ args σ
 | .appendz esz bytes zs=>VQ esz bytes zs args σ
 | .mapent _ _=>none
 | .entst=>none
def WC:Value→AV
 | .bool b=>.cv (.bool b)
 | .int k n=>.cv (.int k n)
 | .string s=>.cv (.str s)
 | .pointer none=>.cv .nilp
 | .slice none 0 0=>.cv .nils
 | .map none=>.cv .nilm
 | .nilFunc=>.cv .nilf
 | .nilIface=>.cv .nili
 | _=>.undef
def VX:Value→AV
 | .agg cs=>.agg (cs.toList.map WC)
 | v=>WC v
def tkOf (P:Program) (t:TypeId):Option TK :=
 match P.underlying t with
 | some (.int _)=>some .int
 | some .bool=>some .bool
 | some .string=>some .str
 | some (.pointer e)=>if P.cellsOf e≠0 then some .ptr else none
 | some (.slice _)=>some .slc
 | some (.func ..)=>some .fn
 | _=>none
def UD (P:Program) (t:TypeId):Option Bool :=
 match P.underlying t with
 | some (.struct _) | some (.array _ _)=>some true
 | some _=>some false
 | none=>none
def J8 (P:Program):List Field→Nat→Option Nat
 | [],n=>some n
 | f::fs,n=>if f.offset=n then J8 P fs (n+P.cellsOf f.type) else none
def CK (P:Program) (g:TypeId→Option (List KK)):List Field→Option (List KK)
 | []=>some []
 | f::fs=>(g f.type).bind fun ks=>if ks.length=P.cellsOf f.type∧f.name ≠ "_" then (CK P g fs).map (ks ++ ·) else none
def flatK (P:Program):Nat→TypeId→Option (List KK)
 | 0,_=>none
 | d+1,t =>
  match P.underlying t with
  | some .bool=>some [.bool]
  | some (.int k)=>some [.int k]
  | some .string=>some [.str]
  | some (.array n e)=>(flatK P d e).bind fun ks=>if ks.length=P.cellsOf e∧P.cellsOf t=n*P.cellsOf e then some (List.replicate n ks).flatten else none
  | some (.struct fs)=>if J8 P fs.toList 0=some (P.cellsOf t) then CK P (flatK P d) fs.toList else none
  | _=>none
def keyK (P:Program) (k:TypeId):Option (Bool × List KK) :=
 match P.underlying k with
 | some (.int q)=>some (false,[.int q])
 | some .string=>some (false,[.str])
 | some (.struct _) | some (.array _ _)=>if P.keyTypeAt 8 k then (flatK P 8 k).map (true,·) else none
 | _=>none
def zeroOf (P:Program) (t:TypeId):Option AV:=(P.info? t).bind fun i=>i.zero.map VX
def GG (P:Program) (b:Builtin) (ats:List TypeId):Option IOp :=
 match b,ats with
 | .len,[t] =>
  match P.underlying t with
  | some .string=>some (.len true)
  | some (.slice _)=>some (.len false)
  | _=>none
 | .min,[_,_]=>some .min2
 | .max,[_,_]=>some .max2
 | .max,[_,_,_]=>some .max2
 | .append,[s,x] =>
  match P.underlying s,P.underlying x with
  | some (.slice e),some (.slice _)=>(P.info? e).bind fun i=>i.zero.bind fun z=>if z.cells.size=i.size∧0<i.size∧i.bytes≤2 ^ 24 then some (.append i.size i.bytes) else none
  | some (.slice e),some .string=>(P.info? e).bind fun i=>i.zero.bind fun z=>if z.cells.size=i.size∧0<i.size∧i.bytes≤2 ^ 24 then some (.append i.size i.bytes) else none
  | some (.slice e),some (.int _)=>(P.info? e).bind fun i=>i.zero.bind fun z=>if z.cells.size=i.size∧0<i.size∧i.bytes≤2 ^ 24 then some (.appendz i.size i.bytes (z.cells.toList.map WC)) else none
  | _,_=>none
 | .copy,[d,_] =>
  match P.underlying d with
  | some (.slice e)=>(P.info? e).map fun i=>.copy i.size
  | _=>none
 | .clear,[s] =>
  match P.underlying s with
  | some (.slice e)=>(P.info? e).bind fun i=>i.zero.bind fun z=>if z.cells.size=i.size∧0<i.size then some (.clear (z.cells.toList.map WC)) else none
  | _=>none
 | .cap,[s] =>
  match P.underlying s with
  | some (.slice _)=>some .cap
  | _=>none
 | .delete,[d,_] =>
  match P.underlying d with
  | some (.map k _)=>(keyK P k).map fun ks=>.mapdel ks
  | _=>none
 | _,_=>none
def TV (P:Program) (cm:Bool) (o:Oper):Option (IOp × List Operand) :=
 match o.op with
 | .move x | .assign x=>some (.mv,[x])
 | .pick c a b=>some (.pick,[c,a,b])
 | .alloc t=>(zeroOf P t).map fun z=>(.alloc (cellsOf z),[])
 | .box _ x=>some (.box,[x])
 | .build t ps =>
  match P.underlying t,zeroOf P t with
  | some (.struct fs),some z=>if fs.toList.all (fun f=>(P.info? f.type).isSome)=false then none else (ps.toList.mapM fun p=>(fs[p.1]?).bind fun f=>(P.info? f.type).map fun i=>(f.offset,i.size)).map fun pl=>(.build (cellsOf z) pl,ps.toList.map (·.2))
  | some (.array _ e),some z=>(P.info? e).map fun i=>(.build (cellsOf z) (ps.toList.map fun p=>(p.1*i.size,i.size)),ps.toList.map (·.2))
  | _,_=>none
 | .buildSlice t len ps =>
  match P.underlying t with
  | some (.slice e)=>(P.info? e).bind fun i=>i.zero.bind fun z =>
    if len*i.size≤2 ^ 24∧z.cells.size=i.size∧0<i.size then some (.bslice i.size len (YW len (z.cells.toList.map WC)) (ps.toList.map fun p=>(p.1*i.size,i.size)),ps.toList.map (·.2)) else none
  | _=>none
 | .load t a=>(UD P t).bind fun g=>if g then (P.info? t).map fun i=>(.loadN i.size,[a]) else some (.load1,[a])
 | .store t a x=>(P.info? t).map fun i=>(.store i.size,[a,x])
 | .nilCheck x=>some (.nilck,[x])
 | .binOp op t x y _ =>
  match tkOf P t with
  | some k=>some (.bin op k,[x,y])
  | none=>if P.eqGuardType P.depth t then none else
   match op,keyK P t with
   | .eql,some (true,ks)=>some (.eqS false (true,ks),[x,y])
   | .neq,some (true,ks)=>some (.eqS true (true,ks),[x,y])
   | _,_=>none
 | .unOp .not _ x=>some (.not,[x])
 | .unOp .neg t x=>(tkOf P t).bind fun k=>match k with | .int=>some (.bin .sub .int,[x]) | _=>none
 | .convert s t x =>
  match P.underlying s,P.underlying t with
  | some _,some (.int k)=>some (.conv k,[x])
  | _,_=>none
 | .makeFunc f first captured=>if first.isEmpty then some (.mkfn f,captured.toList) else if captured.isEmpty then (match f with | .func g=>some (.mkbm g,first.toList) | _=>none) else none
 | .makeMap t none=>some (.mkmap,[])
 | .lookup t x ix ok =>
  match P.underlying t with
  | some (.map k e)=>(keyK P k).bind fun ks=>(zeroOf P e).map fun z=>(.lookup ks z ok,[x,ix])
  | _=>none
 | .mapUpdate t x k v =>
  match P.underlying t with
  | some (.map kt _)=>(keyK P kt).map fun ks=>(.mapset ks,[x,k,v])
  | _=>none
 | .makeSlice t l c =>
  match P.underlying t with
  | some (.slice e)=>(P.info? e).bind fun i=>i.zero.bind fun z=>if z.cells.size=i.size∧0<i.size then some ((match cm with | true=>.mksliceC i.size i.bytes (z.cells.toList.map WC) | false=>.mkslice i.size i.bytes (z.cells.toList.map WC)),[l,c]) else none
  | _=>none
 | .slice t x lo hi none =>
  match P.underlying t with
  | some (.array n e)=>(P.info? e).map fun i=>(.slA n i.size lo.isSome hi.isSome,x::(lo.toList++hi.toList))
  | some (.slice e)=>(P.info? e).map fun i=>(.slS i.size lo.isSome hi.isSome,x::(lo.toList++hi.toList))
  | some .string=>some (.slStr lo.isSome hi.isSome,x::(lo.toList++hi.toList))
  | _=>none
 | .slice t x (some lo) (some hi) (some mx) =>
  match P.underlying t with
  | some (.slice e)=>(P.info? e).map fun i=>(.slS3,[x,lo,hi,mx])
  | _=>none
 | .fieldAddr s x f =>
  match P.underlying s with
  | some (.struct fs)=>(fs[f]?).bind fun fd=>(P.info? fd.type).bind fun i=>if i.size≠0 then some (.fadd fd.offset,[x]) else none
  | _=>none
 | .field s x f =>
  match P.underlying s with
  | some (.struct fs)=>(fs[f]?).bind fun fd=>(P.info? fd.type).bind fun i=>(UD P fd.type).map fun g=>(.fld fd.offset i.size g,[x])
  | _=>none
 | .indexAddr t x ix =>
  match P.underlying t with
  | some (.array n e)=>(P.info? e).map fun i=>(.iaA n i.size,[x,ix])
  | some (.slice e)=>(P.info? e).map fun i=>(.iaS i.size,[x,ix])
  | _=>none
 | .index t x ix =>
  match P.underlying t with
  | some (.array n e)=>(P.info? e).bind fun i=>(UD P e).map fun g=>(.ixA n i.size i.size g,[x,ix])
  | some .string=>some (.ixStr,[x,ix])
  | _=>none
 | .extract t i=>some (.extract i,[t])
 | .call { callee:=.builtin b,args,argTypes }=>(GG P b argTypes.toList).map fun io=>(io,args.toList)
 | .range t x =>
  match P.underlying t with
  | some .string=>some (.rstr,[x])
  | _=>none
 | .next it true=>some (.snext,[it])
 | .makeInterface .. => some (.stuck,[])
 | .panic .. => some (.stuck,[])
 | .mapEntry t x k =>
  match P.underlying t with
  | some (.map kt e)=>(keyK P kt).bind fun ks=>(zeroOf P e).map fun z=>(.mapent ks z,[x,k])
  | _=>none
 | .entryStore _ x st v=>some (.entst,[x,st,v])
 | _=>none
end Go.Proofs.YtgkidpolomhghaaGreatDoor.AM
namespace Go.Proofs.YtgkidpolomhghaaGreatDoor.AM
set_option linter.unusedSectionVars false
variable [Dr]
open Go
set_option linter.unusedVariables false
set_option linter.unusedSimpArgs false
def YP (P:Program) (s:Sem Next) (m:LM) (X:Nat→Prop) (σ:List AObj) (w:World) (r:AV) (σ':List AObj):Prop :=
 ∃ nx w' m',s.run P w=.ok nx w'∧((∃ v,nx=.value v∧VRel m' X w' r v)∨(nx=.skip∧r=.undef))∧HRel m' X σ' w'∧Step σ.length m X w m' w'
variable {P:Program} {m:LM} {X:Nat→Prop} {σ:List AObj} {w:World}
theorem FQ {s:Sem Next} {r:AV} {v:Value} (h:HRel m X σ w) (hs:s.run P w=.ok (.value v) w) (hr:VRel m X w r v):YP P s m X σ w r σ :=
 ⟨_,w,m,hs,.inl ⟨v,rfl,hr⟩,h,Step.refl _ _ _ _⟩
theorem VRel.int {k:IntKind} {n:Int} {v:Value} (h:VRel m X w (.cv (.int k n)) v):v=.int k n:=by simpa[VRel,CV.rep] using h
theorem VRel.bool {b:Bool} {v:Value} (h:VRel m X w (.cv (.bool b)) v):v=.bool b:=by simpa[VRel,CV.rep] using h
theorem VRel.str {s:ByteArray} {v:Value} (h:VRel m X w (.cv (.str s)) v):v=.string s:=by simpa[VRel,CV.rep] using h
theorem VRel.nilp {v:Value} (h:VRel m X w (.cv .nilp) v):v=.pointer none:=by simpa[VRel,CV.rep] using h
theorem VRel.nils {v:Value} (h:VRel m X w (.cv .nils) v):v=.slice none 0 0:=by simpa[VRel,CV.rep] using h
theorem VRel.nilf {v:Value} (h:VRel m X w (.cv .nilf) v):v=.nilFunc:=by simpa[VRel,CV.rep] using h
theorem VRel.mk_int (k:IntKind) (n:Int):VRel m X w (.cv (.int k n)) (.int k n):=by simp[VRel,CV.rep]
theorem VRel.mk_bool (b:Bool):VRel m X w (.cv (.bool b)) (.bool b):=by simp[VRel,CV.rep]
theorem VRel.mk_str (s:ByteArray):VRel m X w (.cv (.str s)) (.string s):=by simp[VRel,CV.rep]
theorem QK.one {a:AV} {vs:List Value} (h:QK m X w [a] vs):∃ v,vs=[v]∧VRel m X w a v:=by
 cases vs with
 | nil=>simp[QK] at h
 | cons v vs=>cases vs with
  | nil=>simp only[QK] at h;exact ⟨v,rfl,h.1⟩
  | cons=>simp[QK] at h
theorem QK.cons {a:AV} {αs:List AV} {vs:List Value} (h:QK m X w (a::αs) vs):∃ v us,vs=v::us∧VRel m X w a v∧QK m X w αs us:=by
 cases vs with
 | nil=>simp[QK] at h
 | cons v vs=>simp only[QK] at h;exact ⟨v,vs,rfl,h.1,h.2⟩
theorem QK.nil' {vs:List Value} (h:QK m X w [] vs):vs=[]:=by
 cases vs with
 | nil=>rfl
 | cons=>simp[QK] at h
theorem QdG {op:BinOp} {k:IntKind} {x y:Int} {r:AV} (hop:RV op=false) (h:binI op k x y=some r) {t:TypeId} :
  ∃ v,(Go.binOp op t (.int k x) (.int k y)).run P w=.ok v w∧VRel m X w r v:=by
 cases op <;> simp only[binI,RV,QT,reduceCtorEq] at h hop <;>
  (first
   | (obtain rfl:=Option.some.inj h;refine ⟨_,by simp[Go.binOp,Op.intArith,Op.intBits,Op.intCmp];rfl,by simp[VRel,CV.rep]⟩)
   | (split at h <;> first | (cases h;done) | (obtain rfl:=Option.some.inj h;rename_i hy;refine ⟨_,by simp[Go.binOp,Op.intDiv,hy];rfl,by simp[VRel,CV.rep]⟩)))
theorem Qa0 {op:BinOp} {k k':IntKind} {x y:Int} {r:AV} (hop:RV op=true) (h:VK op k x y=some r) {t:TypeId} :
  ∃ v,(Go.binOp op t (.int k x) (.int k' y)).run P w=.ok v w∧VRel m X w r v:=by
 unfold VK at h;split at h
 ·cases h
 ·rename_i hy;cases op <;> simp only[RV,QT,reduceCtorEq] at h hop <;>
   (obtain rfl:=Option.some.inj h;refine ⟨_,by simp[Go.binOp,Op.shift,hy];rfl,by simp[VRel,CV.rep]⟩)
theorem QdF {op:BinOp} {x y:ByteArray} {r:AV} (h:binS op x y=some r) {t:TypeId} :
  ∃ v,(Go.binOp op t (.string x) (.string y)).run P w=.ok v w∧VRel m X w r v:=by
 cases op <;> simp only[binS,reduceCtorEq] at h <;>
  (first
   | (obtain rfl:=Option.some.inj h;refine ⟨_,by simp[Go.binOp,Op.stringOp];rfl,by simp[VRel,CV.rep]⟩)
   | (split at h <;> first | (cases h;done) | (obtain rfl:=Option.some.inj h;rename_i hy;refine ⟨_,by simp[Go.binOp,Op.stringOp];rw[if_neg (by simp[IntKind.max,IntKind.signed,IntKind.bits];omega)],by simp[VRel,CV.rep]⟩)))
theorem MB {op:BinOp} {t:TypeId} {xo yo:Operand} {k k':IntKind} {x y:Int}:(eqGuard op t xo yo (.int k x) (.int k' y)).run P w=.ok () w:=by
 cases op <;> simp[eqGuard]
theorem OY {op:BinOp} {t:TypeId} {xo yo:Operand} {x y:Bool}:(eqGuard op t xo yo (.bool x) (.bool y)).run P w=.ok () w:=by
 cases op <;> simp[eqGuard]
theorem MA {op:BinOp} {t:TypeId} {xo yo:Operand} {x y:ByteArray}:(eqGuard op t xo yo (.string x) (.string y)).run P w=.ok () w:=by
 cases op <;> simp[eqGuard]
theorem GN {op:BinOp} {t:TypeId} {xo yo:Operand} {x y:Option Addr}:(eqGuard op t xo yo (.pointer x) (.pointer y)).run P w=.ok () w:=by
 cases op <;> simp[eqGuard]
theorem UK {op:BinOp} {t:TypeId} {xo yo:Operand} {a b:Option Addr} {l c l' c':Nat}:(eqGuard op t xo yo (.slice a l c) (.slice b l' c')).run P w=.ok () w:=by
 cases op <;> simp[eqGuard]
theorem BU {op:BinOp} {t:TypeId} {xo yo:Operand} {f:Fn} {a b:Array Value}:(eqGuard op t xo yo (.func f a b) .nilFunc).run P w=.ok () w:=by
 cases op <;> simp[eqGuard]
theorem run_equal_bool {t:TypeId} (hu:P.underlying t=some .bool) (a b:Bool):(Op.equal t (.bool a) (.bool b)).run P w=.ok (a == b) w:=by
 show (Op.equalIn (9999+1) t _ _).run P w=_;rw[Op.equalIn];simp only[Sem.run_bind,run_underlying hu,Result.andThen_ok,Sem.run_pure]
theorem FT {t e:TypeId} (hu:P.underlying t=some (.pointer e)) (b:Option Addr):(Op.equal t (.pointer b) (.pointer none)).run P w=.ok b.isNone w:=by
 show (Op.equalIn (9999+1) t _ _).run P w=_;cases b <;> (rw[Op.equalIn];simp only[Sem.run_bind,run_underlying hu,Result.andThen_ok,Sem.run_pure,Option.isNone])
theorem HD {t e:TypeId} (hu:P.underlying t=some (.slice e)) (b:Option Addr) (l c l' c':Nat):(Op.equal t (.slice b l c) (.slice none l' c')).run P w=.ok b.isNone w:=by
 show (Op.equalIn (9999+1) t _ _).run P w=_;cases b <;> (rw[Op.equalIn];simp only[Sem.run_bind,run_underlying hu,Result.andThen_ok,Sem.run_pure,Option.isNone])
theorem BS {t:TypeId} {e e2:Array TypeId} {e3:Bool} (hu:P.underlying t=some (.func e e2 e3)) (f:Fn) (a b:Array Value):(Op.equal t (.func f a b) .nilFunc).run P w=.ok false w:=by
 show (Op.equalIn (9999+1) t _ _).run P w=_;rw[Op.equalIn];simp only[Sem.run_bind,run_underlying hu,Result.andThen_ok,Sem.run_pure]
theorem QdH {op:BinOp} {t:TypeId} {tk:TK} {a b r:AV} {x y:Value} {xo yo:Operand} (ht:tkOf P t=some tk) (hx:VRel m X w a x) (hy:VRel m X w b y) (h:binF op tk a b=some r) :
  ∃ v,(do eqGuard op t xo yo x y;Go.binOp op t x y).run P w=.ok v w∧VRel m X w r v:=by
 unfold binF at h;split at h
 ·rename_i k n k' n';obtain rfl:=hx.int;obtain rfl:=hy.int;simp only[Sem.run_bind,MB,Result.andThen_ok];split at h
  ·rename_i hs;exact Qa0 hs h
  ·rename_i hs;split at h
   ·rename_i hk;subst hk;exact QdG (by simpa using hs) h
   ·cases h
 ·obtain rfl:=hx.bool;obtain rfl:=hy.bool;simp only[Sem.run_bind,OY,Result.andThen_ok];have hu:P.underlying t=some .bool:=by
   unfold tkOf at ht;split at ht <;> simp_all
  cases op <;> simp only[K8,reduceCtorEq] at h <;> obtain rfl:=Option.some.inj h <;>
   exact ⟨_,by simp[Go.binOp,run_equal_bool hu];rfl,by simp[VRel,CV.rep]⟩
 ·obtain rfl:=hx.str;obtain rfl:=hy.str;simp only[Sem.run_bind,MA,Result.andThen_ok];exact QdF h
 ·obtain rfl:=hx.nilp;obtain rfl:=hy.nilp;simp only[Sem.run_bind,GN,Result.andThen_ok];obtain ⟨e,hu⟩:∃ e,P.underlying t=some (.pointer e):=by
   unfold tkOf at ht;split at ht <;> simp_all
  cases op <;> simp only[K8,reduceCtorEq] at h <;> obtain rfl:=Option.some.inj h <;>
   exact ⟨_,by simp[Go.binOp,FT hu];rfl,by simp[VRel,CV.rep]⟩
 ·simp only[VRel] at hx;obtain ⟨b',hb',rfl⟩:=hx;obtain rfl:=hy.nilp;simp only[Sem.run_bind,GN,Result.andThen_ok];obtain ⟨e,hu⟩:∃ e,P.underlying t=some (.pointer e):=by
   unfold tkOf at ht;split at ht <;> simp_all
  cases op <;> simp only[K8,reduceCtorEq] at h <;> obtain rfl:=Option.some.inj h <;>
   exact ⟨_,by simp[Go.binOp,FT hu];rfl,by simp[VRel,CV.rep]⟩
 ·simp only[VRel,CV.rep] at hx;obtain ⟨b',rfl,_⟩:=hx;obtain rfl:=hy.nilp;simp only[Sem.run_bind,GN,Result.andThen_ok];obtain ⟨e,hu⟩:∃ e,P.underlying t=some (.pointer e):=by
   unfold tkOf at ht;split at ht <;> simp_all
  cases op <;> simp only[K8,reduceCtorEq] at h <;> obtain rfl:=Option.some.inj h <;>
   exact ⟨_,by simp[Go.binOp,FT hu];rfl,by simp[VRel,CV.rep]⟩
 ·obtain rfl:=hx.nils;obtain rfl:=hy.nils;simp only[Sem.run_bind,UK,Result.andThen_ok];obtain ⟨e,hu⟩:∃ e,P.underlying t=some (.slice e):=by
   unfold tkOf at ht;split at ht <;> simp_all
  cases op <;> simp only[K8,reduceCtorEq] at h <;> obtain rfl:=Option.some.inj h <;>
   exact ⟨_,by simp[Go.binOp,HD hu];rfl,by simp[VRel,CV.rep]⟩
 ·simp only[VRel] at hx;obtain ⟨b',cap,hb',rfl,_⟩:=hx;obtain rfl:=hy.nils;simp only[Sem.run_bind,UK,Result.andThen_ok];obtain ⟨e,hu⟩:∃ e,P.underlying t=some (.slice e):=by
   unfold tkOf at ht;split at ht <;> simp_all
  cases op <;> simp only[K8,reduceCtorEq] at h <;> obtain rfl:=Option.some.inj h <;>
   exact ⟨_,by simp[Go.binOp,HD hu];rfl,by simp[VRel,CV.rep]⟩
 ·simp only[VRel] at hx;obtain ⟨vs,rfl,_⟩:=hx;obtain rfl:=hy.nilf;simp only[Sem.run_bind,BU,Result.andThen_ok];obtain ⟨e,e2,e3,hu⟩:∃ e e2 e3,P.underlying t=some (.func e e2 e3):=by
   unfold tkOf at ht;split at ht <;> simp_all
  cases op <;> simp only[K8,reduceCtorEq] at h <;> obtain rfl:=Option.some.inj h <;>
   exact ⟨_,by simp[Go.binOp,BS hu];rfl,by simp[VRel,CV.rep]⟩
 ·simp only[VRel] at hx;obtain ⟨b',hb',rfl,_⟩:=hx;obtain rfl:=hy.nils;simp only[Sem.run_bind,UK,Result.andThen_ok];obtain ⟨e,hu⟩:∃ e,P.underlying t=some (.slice e):=by
   unfold tkOf at ht;split at ht <;> simp_all
  cases op <;> simp only[K8,reduceCtorEq] at h <;> obtain rfl:=Option.some.inj h <;>
   exact ⟨_,by simp[Go.binOp,HD hu];rfl,by simp[VRel,CV.rep]⟩
 ·simp only[VRel,CV.rep] at hx;obtain rfl:=hy.nils;rcases hx with ⟨_,h0,_⟩ | ⟨a',cap',rfl,_⟩
  ·omega
  simp only[Sem.run_bind,UK,Result.andThen_ok];obtain ⟨e,hu⟩:∃ e,P.underlying t=some (.slice e):=by unfold tkOf at ht;split at ht <;> simp_all
  cases op <;> simp only[K8,reduceCtorEq] at h <;> obtain rfl:=Option.some.inj h <;>
   exact ⟨_,by simp[Go.binOp,HD hu];rfl,by simp[VRel,CV.rep]⟩
 ·cases h
end Go.Proofs.YtgkidpolomhghaaGreatDoor.AM
namespace Go.Proofs.YtgkidpolomhghaaGreatDoor.AM
variable [Dr]
open Go
variable {P:Program} {m:LM} {X:Nat→Prop} {σ:List AObj} {w:World}
def LM.put (m:LM) (l b:Nat):LM:=fun x=>if x=l then some b else m x
theorem LM.put_same (m:LM) (l b:Nat):m.put l b l=some b:=by simp[LM.put]
theorem LM.put_other (m:LM) {l b x:Nat} (h:x≠l):m.put l b x=m x:=by simp[LM.put,h]
theorem heap_alloc_old (w:World) (o:Obj) {b:Nat} (h:b<w.heap.size):(w.alloc o).heap[b]? = w.heap[b]? := by
 show (w.heap.push o)[b]? = _;rw[K5,if_neg (by omega)]
theorem heap_alloc_new (w:World) (o:Obj):(w.alloc o).heap[w.heap.size]? = some o:=by
 show (w.heap.push o)[w.heap.size]? = _;rw[K5,if_pos rfl]
theorem lt_of_heap {w:World} {b:Nat} {o:Obj} (h:w.heap[b]? = some o):b<w.heap.size:=(Q3.1 h).1
theorem Step.alloc (n0:Nat) (m:LM) (X:Nat→Prop) (w:World) (o:Obj) (l:Nat) (hl:n0≤l):Step n0 m X w (m.put l w.heap.size) (w.alloc o) where
 keep x hx:=LM.put_other m (by omega)
 new x b hb:=by
  by_cases hx:x=l
  ·subst hx;rw[LM.put_same] at hb;right;cases hb;exact QG _
  ·rw[LM.put_other m hx] at hb;exact .inl ⟨x,hb⟩
 size:=by simp
 fr b hb _:=heap_alloc_old w o hb
 shp b c e hb:=⟨c,by rw[heap_alloc_old w o (lt_of_heap hb)];exact hb,rfl⟩
 os:=rfl
 tape:=rfl
 output:=rfl
 drawn _:=QG _
theorem HRel.alloc (h:HRel m X σ w) (o:Obj) (ao:AObj) (ho:Mono m X w (m.put σ.length w.heap.size) X (w.alloc o)→ORel (m.put σ.length w.heap.size) X (w.alloc o) (some w.heap.size) ao) :
  HRel (m.put σ.length w.heap.size) X (σ++[ao]) (w.alloc o)∧Step σ.length m X w (m.put σ.length w.heap.size) (w.alloc o)∧Mono m X w (m.put σ.length w.heap.size) X (w.alloc o):=by
 have hs:=Step.alloc σ.length m X w o σ.length (QG _);have hm:=h.mono_of_step hs (QG _);refine ⟨⟨?_,?_,?_,?_,?_,h.gl.mono hm⟩,hs,hm⟩
 ·intro b hb;have:=h.xb b hb;simp;omega
 ·intro l b hb;by_cases hl:l=σ.length
  ·subst hl;rw[LM.put_same] at hb;cases hb;exact ⟨by simp,by simp⟩
  ·rw[LM.put_other m hl] at hb;have:=h.dom l b hb;exact ⟨by simp;omega,by simp;omega⟩
 ·intro l b o1 hb ho1 hv;by_cases hl:l=σ.length
  ·subst hl;rw[LM.put_same] at hb;cases hb;exact fun hx=>Nat.lt_irrefl _ (h.xb _ hx)
  ·rw[LM.put_other m hl] at hb;rw[QE (h.dom l b hb).1] at ho1;exact h.own l b o1 hb ho1 hv
 ·intro l l' b o2 hb hb' ho2 hv2;by_cases hl:l=σ.length <;> by_cases hl':l'=σ.length
  ·omega
  ·subst hl;rw[LM.put_same] at hb;cases hb;rw[LM.put_other m hl'] at hb';have:=(h.dom _ _ hb').2;omega
  ·subst hl';rw[LM.put_same] at hb';cases hb';rw[LM.put_other m hl] at hb;have:=(h.dom _ _ hb).2;omega
  ·rw[LM.put_other m hl] at hb;rw[LM.put_other m hl'] at hb';have h2:=(h.dom _ _ hb').1;rw[QE h2] at ho2;exact h.inj l l' b o2 hb hb' ho2 hv2
 ·intro l o1 ho1;by_cases hl:l<σ.length
  ·rw[QE hl] at ho1;rw[LM.put_other m (by omega)];have:=h.obj l o1 ho1;cases hml:m l with
   | none=>rw[hml] at this;cases o1 <;> simp[ORel] at this ⊢
   | some b=>rw[hml] at this;exact ORel.mono hm (heap_alloc_old w o (h.dom l b hml).2) this
  ·rw[QS (by omega)] at ho1;have hl':l=σ.length:=by
    rcases ZB (l-σ.length) 1 with h1 | h1
    ·omega
    ·rw[QN (by simpa using h1)] at ho1;cases ho1
   subst hl';simp at ho1;subst ho1;rw[LM.put_same];exact ho hm
structure YZ (w w':World) (b:Nat):Prop where
 size:w'.heap.size=w.heap.size
 other:∀ k,k≠b→w'.heap[k]? = w.heap[k]?
 shp:∀ (c:Array Value) (e:TypeId),w.heap[b]? = some (Obj.cells c e (0,0))→∃ c',w'.heap[b]? = some (Obj.cells c' e (0,0))∧c'.size=c.size
 os:w'.os=w.os
 tape:w'.tape=w.tape
 output:w'.output=w.output
 drawn:w.drawn≤w'.drawn
theorem YZ.step {w':World} {b:Nat} (t:YZ w w' b) (n0:Nat) {l:Nat} (hl:m l=some b) (hx:¬ X b):Step n0 m X w m w' where
 keep _ _:=rfl
 new x c hc:=.inl ⟨x,hc⟩
 size:=by rw[t.size];exact QG _
 fr k hk hno:=t.other k fun hkb=>by
  subst hkb;rcases hno with h | h
  ·exact hx h
  ·exact h l hl
 shp k c e hk:=by
  by_cases hkb:k=b
  ·subst hkb;exact t.shp c e hk
  ·exact ⟨c,by rw[t.other k hkb];exact hk,rfl⟩
 os:=t.os
 tape:=t.tape
 output:=t.output
 drawn _:=t.drawn
theorem HRel.turn (h:HRel m X σ w) {w':World} {l b:Nat} {o o':AObj} (hl:m l=some b) (ho:σ[l]? = some o) (hlive:o.live) (t:YZ w w' b)
  (hr:Mono m X w m X w'→ORel m X w' (some b) o'):HRel m X (σ.set l o') w'∧Step σ.length m X w m w'∧Mono m X w m X w':=by
 have hs:=t.step (X:=X) σ.length hl (h.own l b o hl ho hlive);have hm:=h.mono_of_step hs (QG _);refine ⟨⟨?_,?_,?_,?_,?_,h.gl.mono hm⟩,hs,hm⟩
 ·intro k hk;rw[t.size];exact h.xb k hk
 ·intro x k hk;have:=h.dom x k hk;rw[t.size];simpa using this
 ·intro x k o1 hx ho1 hv;rw[ZO] at ho1;by_cases hxl:l=x
  ·subst hxl;exact h.own l k o hx ho hlive
  ·rw[if_neg hxl] at ho1;exact h.own x k o1 hx ho1 hv
 ·intro x y k o2 hx hy ho2 hv2;rw[ZO] at ho2;by_cases hyl:l=y
  ·subst hyl;exact h.inj x l k o hx hy ho hlive
  ·rw[if_neg hyl] at ho2;exact h.inj x y k o2 hx hy ho2 hv2
 ·intro x o1 ho1;rw[ZO] at ho1;by_cases hxl:l=x
  ·subst hxl;rw[if_pos rfl] at ho1;split at ho1
   ·cases ho1;rw[hl];exact hr hm
   ·cases ho1
  ·rw [if_neg hxl] at ho1;have:=h.obj x o1 ho1;cases hmx:m x with
   | none=>rw[hmx] at this;cases o1 <;> simp[ORel] at this ⊢
   | some k =>
    rw[hmx] at this;by_cases hkb:k=b
    ·subst hkb;by_cases hv:o1.live
     ·exact absurd (h.inj2 l x k o o1 hl hmx ho ho1 hlive hv) hxl
     ·cases o1 <;> simp[AObj.live] at hv
      simp[ORel]
    ·exact ORel.mono hm (t.other k hkb) this
theorem YZ.row (w:World) {b:Nat} {c:Array Value} {e:TypeId} {fr:Nat × Nat} (c':Array Value) (hb:w.heap[b]? = some (.cells c e fr)) (hc:c'.size=c.size):YZ w (w.setRow b c') b where
 size:=by simp
 other k hk:=setRow_other w b k c' hk
 shp c1 e1 h1:=by rw[hb] at h1;cases h1;exact ⟨c',setRow_heap w b c c' e (0,0) hb,hc⟩
 os:=rfl
 tape:=rfl
 output:=rfl
 drawn:=QG _
theorem YZ.obj (w:World) {b:Nat} {o:Obj} (o':Obj) (hb:w.heap[b]? = some o) (ho:∀ c e fr,o≠.cells c e fr):YZ w (w.putObj b o') b where
 size:=by simp
 other k hk:=World.putObj_heap_other hk
 shp c e h1:=by rw[hb] at h1;cases h1;exact absurd rfl (ho c e (0,0))
 os:=rfl
 tape:=rfl
 output:=rfl
 drawn:=QG _
theorem HRel.kill (h:HRel m X σ w) (l:Nat):HRel m X (σ.set l .dead) w:=by
 refine ⟨h.xb,?_,?_,?_,?_,h.gl⟩
 ·intro x k hk;simpa using h.dom x k hk
 ·intro x k o1 hx ho1 hv;rw[ZO] at ho1;by_cases hxl:l=x
  ·rw[if_pos hxl] at ho1;split at ho1 <;> cases ho1;exact hv.elim
  ·rw[if_neg hxl] at ho1;exact h.own x k o1 hx ho1 hv
 ·intro x y k o2 hx hy ho2 hv2;rw[ZO] at ho2;have e2:l≠y:=by
   intro e;rw[if_pos e] at ho2;split at ho2 <;> cases ho2;exact hv2
  rw[if_neg e2] at ho2;exact h.inj x y k o2 hx hy ho2 hv2
 ·intro x o1 ho1;rw[ZO] at ho1;by_cases e:l=x
  ·rw[if_pos e] at ho1;split at ho1 <;> cases ho1;simp[ORel]
  ·rw[if_neg e] at ho1;exact h.obj x o1 ho1
theorem HRel.adopt (h:HRel m X σ w) {l b:Nat} {ao:AObj} (hl:m l=some b) (hxb:¬ X b) (hdead:∀ x o,m x=some b→σ[x]? = some o→¬ o.live)
  (hr:Mono m X w (m.put σ.length b) X w→ORel (m.put σ.length b) X w (some b) ao) :
  HRel (m.put σ.length b) X (σ++[ao]) w∧Step σ.length m X w (m.put σ.length b) w∧Mono m X w (m.put σ.length b) X w:=by
 have hs:Step σ.length m X w (m.put σ.length b) w :=
  {keep:=fun x hx=>LM.put_other m (by omega)
   new:=fun x k hk=>by
    by_cases hx:x=σ.length
    ·subst hx;rw[LM.put_same] at hk;cases hk;exact .inl ⟨l,hl⟩
    ·rw[LM.put_other m hx] at hk;exact .inl ⟨x,hk⟩
   size:=QG _
   fr:=fun _ _ _=>rfl
   shp:=fun _ c _ hk=>⟨c,hk,rfl⟩
   os:=rfl,tape:=rfl,output:=rfl,drawn:=fun _=>QG _ }
 have hm:=h.mono_of_step hs (QG _);refine ⟨⟨h.xb,?_,?_,?_,?_,h.gl.mono hm⟩,hs,hm⟩
 ·intro x k hk;by_cases hx:x=σ.length
  ·subst hx;rw[LM.put_same] at hk;cases hk;have:=h.dom l b hl;exact ⟨by simp,this.2⟩
  ·rw[LM.put_other m hx] at hk;have:=h.dom x k hk;exact ⟨by simp;omega,this.2⟩
 ·intro x k o1 hk ho1 hv;by_cases hx:x=σ.length
  ·subst hx;rw[LM.put_same] at hk;cases hk;exact hxb
  ·rw[LM.put_other m hx] at hk;rw[QE (h.dom x k hk).1] at ho1;exact h.own x k o1 hk ho1 hv
 ·intro x y k o2 hx hy ho2 hv2;by_cases ex:x=σ.length <;> by_cases ey:y=σ.length
  ·omega
  ·subst ex;rw[LM.put_same] at hx;cases hx;rw[LM.put_other m ey] at hy;rw[QE (h.dom _ _ hy).1] at ho2;exact absurd hv2 (hdead y o2 hy ho2)
  ·rw[LM.put_other m ex] at hx;have:=(h.dom _ _ hx).1;omega
  ·rw[LM.put_other m ex] at hx;rw[LM.put_other m ey] at hy;rw[QE (h.dom _ _ hy).1] at ho2;exact h.inj x y k o2 hx hy ho2 hv2
 ·intro x o1 ho1;by_cases hx:x<σ.length
  ·rw[QE hx] at ho1;rw[LM.put_other m (by omega)];have:=h.obj x o1 ho1;cases hmx:m x with
   | none=>rw[hmx] at this;cases o1 <;> simp[ORel] at this ⊢
   | some k=>rw[hmx] at this;exact ORel.mono hm rfl this
  ·rw[QS (by omega)] at ho1;have hx':x=σ.length:=by
    rcases ZB (x-σ.length) 1 with h1 | h1
    ·omega
    ·rw[QN (by simpa using h1)] at ho1;cases ho1
   subst hx';simp at ho1;subst ho1;rw[LM.put_same];exact hr hm
theorem HRel.row (h:HRel m X σ w) {l:Nat} {cs:List AV} (hc:rowOf σ l=some cs) :
  ∃ b c e,m l=some b∧σ[l]? = some (.cells cs)∧w.heap[b]? = some (.cells c e (0,0))∧cs.length≤c.size∧QK m X w cs (c.toList.take cs.length):=by
 unfold rowOf at hc;split at hc
 ·rename_i cs' hs;cases hc;have:=h.obj l _ hs;cases hml:m l with
  | none=>rw[hml] at this;simp[ORel] at this
  | some b =>
   rw[hml] at this;simp only[ORel] at this;obtain ⟨c,e,h1,h2,h3⟩:=this;exact ⟨b,c,e,rfl,hs,h1,h2,h3⟩
 ·cases hc
theorem YI {t:TypeId} {i:TypeInfo} (h:P.info? t=some i):(typeInfo t).run P w=.ok i w:=by
 simp[typeInfo,h]
theorem YK {t:TypeId} {i:TypeInfo} (h:P.info? t=some i):(sizeOf t).run P w=.ok i.size w:=by
 simp[sizeOf,YI h]
theorem GV {t:TypeId} {i:TypeInfo} {z:Value} (h:P.info? t=some i) (hz:i.zero=some z):(zeroValue t).run P w=.ok z w:=by
 simp[zeroValue,YI h,hz]
theorem QY {t:TypeId} {d:TypeDesc} (h:P.underlying t=some d):(underlying t).run P w=.ok d w:=run_underlying h w
theorem Qa5 {t:TypeId} {g:Bool} (h:UD P t=some g):(isAgg t).run P w=.ok g w:=by
 unfold UD at h;split at h
 ·rename_i fs hu;cases h;simp[isAgg,QY hu]
 ·rename_i n e hu;cases h;simp[isAgg,QY hu]
 ·rename_i d h1 h2 hu;cases h;simp only[isAgg,Sem.run_bind,QY hu,Result.andThen_ok];rfl
 ·cases h
theorem GZ (v:Value):VRel m X w (WC v) v:=by
 unfold WC;split <;> simp[VRel,CV.rep]
theorem R8:∀ vs:List Value,QK m X w (vs.map WC) vs
 | []=>by simp[QK]
 | v::vs=>by simp only[Q0,QK];exact ⟨GZ v,R8 vs⟩
theorem UZ (v:Value):VRel m X w (VX v) v:=by
 unfold VX;split
 ·rename_i cs;simp only[VRel];exact ⟨cs.toList,by simp,R8 _⟩
 ·exact GZ v
theorem QaG (vs:Array Value):(Value.agg vs).cells=vs:=rfl
theorem cells_one {v:Value} (h:∀ vs,v≠.agg vs):v.cells = #[v]:=by
 cases v <;> first | rfl | exact absurd rfl (h _)
theorem SQ (z:Value):QK m X w (Go.Proofs.YtgkidpolomhghaaGreatDoor.AM.cellsOf (VX z)) z.cells.toList:=by
 by_cases h:∃ vs,z=.agg vs
 ·obtain ⟨vs,rfl⟩:=h;simp only[VX,cellsOf,QaG];exact R8 _
 ·have h':∀ vs,z≠.agg vs:=fun vs e=>h ⟨vs,e⟩
  rw[cells_one h'];have e1:VX z=WC z:=by cases z <;> first | rfl | exact absurd rfl (h' _)
  have e2:cellsOf (WC z)=[WC z]:=by unfold WC;split <;> rfl
  rw[e1,e2];simp only[QK];exact ⟨GZ z,trivial⟩
theorem VRel.not_agg {a:AV} {v:Value} (h:VRel m X w a v) (hu:a.isUndef=false) (ha:∀ cs,a≠.agg cs) (vs:Array Value):v≠.agg vs:=by
 cases a with
 | cv c=>cases c <;> simp only[VRel,CV.rep] at h <;> first | (subst h;simp;done) | (obtain ⟨_,rfl,_⟩:=h;simp;done) | (rcases h with ⟨rfl,_⟩ | ⟨_,_,rfl,_⟩ <;> simp)
 | ptr=>simp only[VRel] at h;obtain ⟨_,_,rfl⟩:=h;simp
 | sl=>simp only[VRel] at h;obtain ⟨_,_,_,rfl,_⟩:=h;simp
 | map=>simp only[VRel] at h;obtain ⟨_,_,rfl⟩:=h;simp
 | fn=>simp only[VRel] at h;obtain ⟨_,rfl,_⟩:=h;simp
 | bm=>simp only[VRel] at h;obtain ⟨_,rfl,_⟩:=h;simp
 | yld=>simp only[VRel] at h;obtain ⟨_,_,rfl⟩:=h;simp
 | agg cs=>exact absurd rfl (ha cs)
 | tup=>simp only[VRel] at h;obtain ⟨_,rfl,_⟩:=h;simp
 | undef=>simp[AV.isUndef] at hu
 | slc=>simp only[VRel] at h;obtain ⟨_,_,rfl,_⟩:=h;simp
theorem VRel.cells {a:AV} {v:Value} (h:VRel m X w a v) (hu:a.isUndef=false):QK m X w (cellsOf a) v.cells.toList:=by
 by_cases ha:∃ cs,a=.agg cs
 ·obtain ⟨cs,rfl⟩:=ha;simp only[VRel] at h;obtain ⟨vs,rfl,h2⟩:=h;simpa[cellsOf,QaG] using h2
 ·have ha':∀ cs,a≠.agg cs:=fun cs e=>ha ⟨cs,e⟩
  rw[cells_one (h.not_agg hu ha')];have:cellsOf a=[a]:=by cases a <;> first | rfl | exact absurd rfl (ha' _)
  rw[this];simp only[QK];exact ⟨h,trivial⟩
theorem VRel.one_cell {a:AV} {v:Value} (h:VRel m X w a v) (hs:a.isSc=true):v.oneCell'=true:=by
 cases a with
 | cv c=>cases c <;> simp only[VRel,CV.rep] at h <;> first | (subst h;rfl) | (obtain ⟨_,rfl,_⟩:=h;rfl) | (rcases h with ⟨rfl,_⟩ | ⟨_,_,rfl,_⟩ <;> rfl)
 | ptr=>simp only[VRel] at h;obtain ⟨_,_,rfl⟩:=h;rfl
 | sl=>simp only[VRel] at h;obtain ⟨_,_,_,rfl,_⟩:=h;rfl
 | map=>simp only[VRel] at h;obtain ⟨_,_,rfl⟩:=h;rfl
 | fn=>simp only[VRel] at h;obtain ⟨_,rfl,_⟩:=h;rfl
 | bm=>simp only[VRel] at h;obtain ⟨_,rfl,_⟩:=h;rfl
 | yld=>simp only[VRel] at h;obtain ⟨_,_,rfl⟩:=h;rfl
 | agg cs=>simp[AV.isSc] at hs
 | tup=>simp[AV.isSc] at hs
 | undef=>simp[AV.isSc] at hs
 | slc=>simp only[VRel] at h;obtain ⟨_,_,rfl,_⟩:=h;rfl
theorem QK.one_cells:∀ {αs:List AV} {vs:List Value},QK m X w αs vs→αs.all AV.isSc=true→∀ v∈vs,v.oneCell'=true
 | [],[],_,_,v,hv=>by simp at hv
 | a::αs,v::vs,h,hs,u,hu=>by
  simp only[QK] at h;simp only[List.all_cons,QD] at hs;rcases ZD.1 hu with rfl | hu
  ·exact h.1.one_cell hs.1
  ·exact QK.one_cells h.2 hs.2 u hu
 | [],_::_,h,_,_,_=>by simp[QK] at h
 | _::_,[],h,_,_,_=>by simp[QK] at h
theorem JB (b o k:Nat):(⟨b,o,none⟩:Addr).add k=⟨b,o+k,none⟩:=by
 unfold Addr.add;split
 ·rename_i h;subst h;rfl
 ·rfl
theorem F7 {b off:Nat} {c:Array Value} {e:TypeId} {fr:Nat × Nat} (h:w.heap[b]? = some (.cells c e fr)):w.cell? ⟨b,off,none⟩=c[off]? := by
 simp[World.cell?,h]
theorem take_get {cs:List AV} {c:Array Value} (h:QK m X w cs (c.toList.take cs.length)) {i:Nat} {a:AV} (ha:cs[i]? = some a):∃ v,c[i]? = some v∧VRel m X w a v:=by
 obtain ⟨v,hv,hr⟩:=h.get i a ha;rw[Z7] at hv;split at hv
 ·exact ⟨v,by simpa using hv,hr⟩
 ·cases hv
theorem Qb8 {O:Nat→Prop}:∀ {cs:List CV} {a:Addr} {i:Nat},CV.reps w O cs a i→∀ (j:Nat) (c:CV),cs[j]? = some c→∃ v,w.cell? (a.add (i+j))=some v∧c.rep w O v
 | [],a,i,_,j,c,hj=>by simp at hj
 | d::cs,a,i,h,0,c,hj=>by simp only[CV.reps] at h;simp at hj;subst hj;obtain ⟨_,⟨v,hv,hr⟩,_⟩:=h;exact ⟨v,by simpa using hv,hr⟩
 | d::cs,a,i,h,j+1,c,hj=>by simp only[CV.reps] at h;simp at hj;obtain ⟨_,_,h⟩:=h;obtain ⟨v,hv,hr⟩:=Qb8 h j c hj;exact ⟨v,by rw[show i+(j+1)=i+1+j by omega];exact hv,hr⟩
theorem O2 {O:Nat→Prop}:∀ {cs:List CV} {a:Addr} {i:Nat} (k:Nat),CV.reps w O cs a i→CV.reps w O (cs.drop k) a (i+k)
 | [],a,i,k,_=>by simp[CV.reps]
 | c::cs,a,i,0,h=>by simpa using h
 | c::cs,a,i,k+1,h=>by simp only[CV.reps] at h;have:=O2 (a:=a) (i:=i+1) k h.2.2;rw[show i+(k+1)=i+1+k by omega];simpa using this
theorem LB {O:Nat→Prop}:∀ {cs:List CV} {a:Addr} {i:Nat} (k:Nat),CV.reps w O cs a i→CV.reps w O (cs.take k) a i
 | [],a,i,k,_=>by simp[CV.reps]
 | c::cs,a,i,0,h=>by simp[CV.reps]
 | c::cs,a,i,k+1,h=>by simp only[CV.reps,List.take_succ_cons] at h ⊢;exact ⟨h.1,h.2.1,LB k h.2.2⟩
theorem BZ {O:Nat→Prop}:∀ {cs:List CV} {a:Addr} {i:Nat} (k:Nat),CV.reps w O cs a (k+i)→CV.reps w O cs (a.add k) i
 | [],a,i,k,_=>by simp[CV.reps]
 | c::cs,a,i,k,h=>by simp only[CV.reps] at h ⊢;refine ⟨by rw[Addr.add_block];exact h.1,?_,BZ k (by rw[show k+(i+1)=k+i+1 by omega];exact h.2.2)⟩;rw[Addr.add_add];exact h.2.1
theorem LA:∀ {cs:List CV} {a:Addr} {i:Nat},CV.reps w (Own m X) cs a i→∃ vs:List Value,vs.length=cs.length∧QK m X w (cs.map .cv) vs∧∀ (j:Nat) (v:Value),vs[j]? = some v→w.cell? (a.add (i+j))=some v
 | [],a,i,_=>⟨[],rfl,by simp[QK],by simp⟩
 | c::cs,a,i,h=>by
  simp only[CV.reps] at h;obtain ⟨_,⟨v,hv,hr⟩,h⟩:=h;obtain ⟨vs,h1,h2,h3⟩:=LA h;refine ⟨v::vs,by simp[h1],by simp only[Q0,QK,VRel];exact ⟨hr,h2⟩,fun j u hj=>?_⟩;cases j with
  | zero=>simp at hj;subst hj;simpa using hv
  | succ j=>simp at hj;rw[show i+(j+1)=i+1+j by omega];exact h3 j u hj
theorem Z5 {α:Type}:∀ (vs:List α) (l:List α) (off:Nat),(setRange l off vs).length=l.length
 | [],l,off=>rfl
 | v::vs,l,off=>by simp only[setRange,Z5 vs,WE]
theorem V5 {α:Type}:∀ (vs:List α) (l:List α) (off n:Nat),(setRange l off vs).take n=setRange (l.take n) off vs
 | [],l,off,n=>rfl
 | v::vs,l,off,n=>by simp only[setRange];rw[V5 vs,List.take_set]
theorem KG {α:Type}:∀ (vs:List α) (l:List α) (off:Nat),off+vs.length≤l.length→setRange l off vs=l.take off++vs++l.drop (off+vs.length)
 | [],l,off,h=>by simp[setRange]
 | v::vs,l,off,h=>by
  simp only[setRange,List.length_cons] at h ⊢;rw[KG vs (l.set off v) (off+1) (by simp;omega)];have h1:(l.set off v).take (off+1)=l.take off++[v]:=by rw[List.take_succ_eq_append_getElem (by simp;omega)];simp[List.take_set,KE (l:=List.take off l) (i:=off) (a:=v) (by simp;omega)]
  have h2:(l.set off v).drop (off+1+vs.length)=l.drop (off+(vs.length+1)):=by rw[List.drop_set_of_lt (by omega)];congr 1;omega
  rw[h1,h2];simp
theorem QK.setRange:∀ {bs:List AV} {vs:List Value} {αs:List AV} {us:List Value} (off:Nat),QK m X w αs us→QK m X w bs vs→QK m X w (Go.Proofs.YtgkidpolomhghaaGreatDoor.AM.setRange αs off bs) (Go.Proofs.YtgkidpolomhghaaGreatDoor.AM.setRange us off vs)
 | [],[],_,_,_,h,_=>by simpa[AM.setRange] using h
 | b::bs,v::vs,_,_,off,h,g=>by simp only[QK,AM.setRange] at g ⊢;exact QK.setRange (off+1) (h.set off g.1) g.2
 | [],_::_,_,_,_,_,g=>by simp[QK] at g
 | _::_,[],_,_,_,_,g=>by simp[QK] at g
end Go.Proofs.YtgkidpolomhghaaGreatDoor.AM
namespace Go.Proofs.YtgkidpolomhghaaGreatDoor.AM
variable [Dr]
open Go
variable {P:Program} {m:LM} {X:Nat→Prop} {σ σ':List AObj} {w:World} {r:AV}
theorem W7 {s:Sem Value} {v:Value} {w':World} {m':LM} (hs:s.run P w=.ok v w') (hr:VRel m' X w' r v) (h':HRel m' X σ' w') (st:Step σ.length m X w m' w') :
  YP P (do pure (.value (← s))) m X σ w r σ' :=
 ⟨.value v,w',m',by simp[hs],.inl ⟨v,rfl,hr⟩,h',st⟩
theorem ZG {s:Sem Value} {v:Value} (h:HRel m X σ w) (hs:s.run P w=.ok v w) (hr:VRel m X w r v):YP P (do pure (.value (← s))) m X σ w r σ :=
 W7 hs hr h (Step.refl _ _ _ _)
theorem PT {s:Sem Unit} {w':World} {m':LM} (hs:s.run P w=.ok () w') (h':HRel m' X σ' w') (st:Step σ.length m X w m' w') :
  YP P (do s;pure .skip) m X σ w .undef σ' :=
 ⟨.skip,w',m',by simp[hs],.inr ⟨rfl,rfl⟩,h',st⟩
theorem KT (a:Addr):(Instr.sureAddr (.pointer (some a))).run P w=.ok a w:=rfl
theorem BR (t:TypeId) (v:Value):(newVar t v).run P w=.ok ⟨w.heap.size,0,none⟩ (w.alloc (.cells v.cells t)):=by
 simp[newVar,newRow]
theorem ORel.new {m':LM} {w':World} {b:Nat} {c:Array Value} {t:TypeId} {cs:List AV} (hb:w'.heap[b]? = some (.cells c t)) (hr:QK m' X w' cs c.toList):ORel m' X w' (some b) (.cells cs):=by
 simp only[ORel];have hl:=hr.length;exact ⟨c,t,hb,by simp at hl;omega,by rw[hl,Q5 (by simp)];exact hr⟩
theorem Qeb {t:TypeId} {z:AV} {avs:List AV} (h:HRel m X σ w) (hz:zeroOf P t=some z) (hs:UO (cellsOf z) avs σ=some (r,σ')) :
  YP P (do pure (.value (← Instr.alloc t true (.tuple #[])))) m X σ w r σ':=by
 unfold UO at hs;split at hs <;> cases hs
 unfold zeroOf at hz;cases hi:P.info? t with
 | none=>rw[hi] at hz;cases hz
 | some i =>
  rw[hi] at hz;cases hz0:i.zero with
  | none=>simp[hz0] at hz
  | some z0 =>
   simp[hz0] at hz;subst hz;obtain ⟨h1,h2,h3⟩:=h.alloc (.cells z0.cells t) (.cells (cellsOf (VX z0))) (fun hm=>ORel.new (heap_alloc_new _ _) (SQ z0));refine W7 (v:=.pointer (some ⟨w.heap.size,0,none⟩)) ?_ ?_ h1 h2
   ·simp only[Instr.alloc,Sem.run_bind,GV hi hz0,Result.andThen_ok,BR,Sem.run_pure]
   ·simp only[VRel];exact ⟨_,LM.put_same _ _ _,rfl⟩
theorem snd_box {t:TypeId} {x:Value} {avs:List AV} (h:HRel m X σ w) (ha:QK m X w avs [x]) (hs:WI avs σ=some (r,σ')) :
  YP P (do pure (.value (← Instr.box t x))) m X σ w r σ':=by
 unfold WI at hs;split at hs
 ·rename_i a;obtain ⟨v,hv,hr⟩:=ha.one;cases hv;split at hs
  ·cases hs
  ·rename_i hu;cases hs;have hu':a.isUndef=false:=by simpa using hu
   obtain ⟨h1,h2,h3⟩:=h.alloc (.cells x.cells t) (.cells (cellsOf a)) (fun hm=>ORel.new (heap_alloc_new _ _) ((hr.cells hu').mono hm _ _));refine W7 (v:=.pointer (some ⟨w.heap.size,0,none⟩)) ?_ ?_ h1 h2
   ·simp only[Instr.box,Sem.run_bind,Result.andThen_ok,BR,Sem.run_pure]
   ·simp only[VRel];exact ⟨_,LM.put_same _ _ _,rfl⟩
 ·cases hs
theorem IP {t:TypeId} {a:Addr} {v:Value} (hg:UD P t=some false) (hc:w.cell? a=some v):(loadVar t a).run P w=.ok v w:=by
 simp[loadVar,Qa5 hg,hc]
theorem LvN {t:TypeId} {i:TypeInfo} {a:Addr} {vs:List Value} (hg:UD P t=some true) (hi:P.info? t=some i) (hl:vs.length=i.size) (hc:∀ (j:Nat) v,vs[j]? = some v→w.cell? (a.add j)=some v) :
  (loadVar t a).run P w=.ok (.agg vs.toArray) w:=by
 simp[loadVar,Qa5 hg,YK hi,← hl,run_loadCells_list w a vs hc]
theorem AJ {t:TypeId} {x:Value} {avs:List AV} (h:HRel m X σ w) (hg:UD P t=some false) (ha:QK m X w avs [x]) (hs:KZ avs σ=some (r,σ')) :
  ∃ a v,x=.pointer (some a)∧(loadVar t a).run P w=.ok v w∧VRel m X w r v∧σ'=σ:=by
 unfold KZ at hs;split at hs
 ·rename_i l off;obtain ⟨v,hv,hr⟩:=ha.one;cases hv;simp only[VRel] at hr;obtain ⟨b,hb,rfl⟩:=hr;cases hc:rowOf σ l with
  | none=>simp[hc] at hs
  | some cs =>
   simp only[hc,Option.bind_some,QA] at hs;obtain ⟨a,ha,he⟩:=hs;cases he;obtain ⟨b',c,e,h1,_,h2,h3,h4⟩:=h.row hc;rw[hb] at h1;cases h1;obtain ⟨v,hv,hr⟩:=take_get h4 ha;exact ⟨_,v,rfl,IP hg (by rw[F7 h2];exact hv),hr,rfl⟩
 ·rename_i cs off;obtain ⟨v,hv,hr⟩:=ha.one;cases hv;simp only[VRel,CV.rep] at hr;obtain ⟨b,rfl,hreps⟩:=hr;simp only[QA] at hs;obtain ⟨c,hc,he⟩:=hs;cases he;obtain ⟨v,hv,hr⟩:=Qb8 hreps off c hc;exact ⟨_,v,rfl,IP hg (by simpa using hv),by simp only[VRel];exact hr,rfl⟩
 ·cases hs
theorem Qe8 {t:TypeId} {x:Value} {avs:List AV} (h:HRel m X σ w) (hg:UD P t=some false) (ha:QK m X w avs [x]) (hs:KZ avs σ=some (r,σ')) :
  YP P (do pure (.value (← Instr.loadAt t x))) m X σ w r σ':=by
 obtain ⟨a,v,rfl,h1,h2,rfl⟩:=AJ h hg ha hs;refine ZG h (v:=v) ?_ h2;simp only[Instr.loadAt,Sem.run_bind,KT,Result.andThen_ok];exact h1
theorem JS {b:Nat} {c:Array Value} {e:TypeId} {cs:List AV} (h1:w.heap[b]? = some (.cells c e (0,0))) (h4:QK m X w cs (c.toList.take cs.length)) (hle:cs.length≤c.size) {off n:Nat} (hn:off+n≤cs.length) :
  ∃ vs:List Value,vs.length=n∧QK m X w ((cs.drop off).take n) vs∧(∀ (j:Nat) v,vs[j]? = some v→w.cell? ((⟨b,off,none⟩:Addr).add j)=some v):=by
 refine ⟨((c.toList.take cs.length).drop off).take n,?_,(h4.drop off).take n,?_⟩
 ·simp;omega
 ·intro j v hj;rw[JB,F7 h1];rw[Z7] at hj;split at hj
  ·rw[X4,Z7] at hj;split at hj
   ·simpa using hj
   ·cases hj
  ·cases hj
theorem AI {t:TypeId} {i:TypeInfo} {x:Value} {avs:List AV} (h:HRel m X σ w) (hg:UD P t=some true) (hi:P.info? t=some i) (ha:QK m X w avs [x]) (hs:YF i.size avs σ=some (r,σ')) :
  ∃ a v,x=.pointer (some a)∧(loadVar t a).run P w=.ok v w∧VRel m X w r v∧σ'=σ:=by
 unfold YF at hs;split at hs
 ·rename_i l off;obtain ⟨v,hv,hr⟩:=ha.one;cases hv;simp only[VRel] at hr;obtain ⟨b,hb,rfl⟩:=hr;cases hc:rowOf σ l with
  | none=>simp[hc] at hs
  | some cs =>
   simp only[hc,Option.bind_some] at hs;split at hs
   ·rename_i hle;cases hs;obtain ⟨b',c,e,h1,_,h2,h3,h4⟩:=h.row hc;rw[hb] at h1;cases h1;obtain ⟨vs,hl,hr,hcell⟩:=JS h2 h4 h3 hle;exact ⟨_,.agg vs.toArray,rfl,LvN hg hi hl hcell,by simp only[VRel];exact ⟨vs,rfl,hr⟩,rfl⟩
   ·cases hs
 ·rename_i cs off;obtain ⟨v,hv,hr⟩:=ha.one;cases hv;simp only[VRel,CV.rep] at hr;obtain ⟨b,rfl,hreps⟩:=hr;split at hs
  ·rename_i hle;cases hs;obtain ⟨vs,hl,hr,hcell⟩:=LA (LB i.size (O2 off hreps));refine ⟨_,.agg vs.toArray,rfl,LvN hg hi (by rw[hl];simp;omega) fun j v hj=>?_,by simp only[VRel];exact ⟨vs,rfl,hr⟩,rfl⟩;rw[Addr.add_add];simpa using hcell j v hj
  ·cases hs
 ·cases hs
theorem Qe7 {t:TypeId} {i:TypeInfo} {x:Value} {avs:List AV} (h:HRel m X σ w) (hg:UD P t=some true) (hi:P.info? t=some i) (ha:QK m X w avs [x]) (hs:YF i.size avs σ=some (r,σ')) :
  YP P (do pure (.value (← Instr.loadAt t x))) m X σ w r σ':=by
 obtain ⟨a,v,rfl,h1,h2,rfl⟩:=AI h hg hi ha hs;refine ZG h (v:=v) ?_ h2;simp only[Instr.loadAt,Sem.run_bind,KT,Result.andThen_ok];exact h1
theorem Qe3 {t:TypeId} {i:TypeInfo} {x y:Value} {avs:List AV} (h:HRel m X σ w) (hi:P.info? t=some i) (ha:QK m X w avs [x,y]) (hs:UM i.size avs σ=some (r,σ')) :
  YP P (do Instr.storeAt t x y;pure .skip) m X σ w r σ':=by
 unfold UM at hs;split at hs
 ·rename_i l off a;obtain ⟨x',us,hx,hr,hus⟩:=ha.cons;obtain ⟨y',hy,hra⟩:=hus.one;subst hy;cases hx;simp only[VRel] at hr;obtain ⟨b,hb,rfl⟩:=hr;cases hc:rowOf σ l with
  | none=>simp[hc] at hs
  | some cs =>
   simp only[hc,Option.bind_some] at hs;split at hs
   ·rename_i hcond;cases hs;obtain ⟨hn,hle,hsc⟩:=hcond;obtain ⟨b',c,e,h1,hl,h2,h3,h4⟩:=h.row hc;rw[hb] at h1;cases h1;have hu:a.isUndef=false:=by cases a <;> simp[AV.isUndef,cellsOf,AV.isSc] at hsc ⊢
    have hcells:=hra.cells hu;have hlen:y.cells.toList.length=i.size:=by rw[← hcells.length];exact hn
    have hone:=hcells.one_cells hsc;have hrun:(storeCells ⟨b,off,none⟩ y.cells.toList).run P w=.ok () (w.setRow b (Go.Proofs.YtgkidpolomhghaaGreatDoor.AM.setRange c.toList off y.cells.toList).toArray):=by rw[run_storeCells_at P b off e y.cells.toList 0 c w h2 (by simp at hlen ⊢;omega) hone];rw[KG _ _ _ (by simp at hlen ⊢;omega)];simp
    have ht:YZ w (w.setRow b (Go.Proofs.YtgkidpolomhghaaGreatDoor.AM.setRange c.toList off y.cells.toList).toArray) b:=YZ.row w _ h2 (by simp[Z5]);obtain ⟨g1,g2,g3⟩:=h.turn hb hl trivial ht (o':=.cells (Go.Proofs.YtgkidpolomhghaaGreatDoor.AM.setRange cs off (cellsOf a))) (fun hm=>by simp only[ORel];refine ⟨_,e,setRow_heap w b c _ e (0,0) h2,by simp[Z5];exact h3,?_⟩;rw[Z5];simp only[List.toList_toArray,V5];exact ((h4.setRange off hcells).mono hm _ _))
    refine PT ?_ g1 g2;simp only[Instr.storeAt,Sem.run_bind,KT,Result.andThen_ok,storeVar,YK hi];have:¬ (y.cells.size≠i.size):=by simp at hlen;simpa using hlen
    simp only[this,if_false,hrun]
   ·cases hs
 ·cases hs
theorem IE:∀ (vs:List Value) (k off:Nat) (cells:Array Value),((vs.zipIdx k).foldl (fun (cs:Array Value) (x:Value × Nat)=>cs.setIfInBounds (off+x.2) x.1) cells).toList=setRange cells.toList (off+k) vs
 | [],k,off,cells=>rfl
 | v::vs,k,off,cells=>by simp only[List.zipIdx_cons,List.foldl_cons,setRange];rw[IE vs (k+1) off];simp[Nat.add_assoc]
theorem P3 (place:Nat→Option (Nat × Nat)):∀ (ps:List (Nat × Value)) (pl:List (Nat × Nat)) (αs zs cs:List AV) (cells:Array Value),
  ps.mapM (fun p=>place p.1)=some pl→QK m X w αs (ps.map (·.2))→QK m X w zs cells.toList→HW zs pl αs=some cs →
  ∃ out:Array Value,Instr.fill place cells ps=some out∧QK m X w cs out.toList
 | [],pl,αs,zs,cs,cells,hp,ha,hz,hf=>by
  simp at hp;subst hp;obtain rfl:=ha.length |> fun h=>(ZT (by simpa using h):αs=[])
  simp[HW] at hf;subst hf;exact ⟨cells,rfl,hz⟩
 | (i,v)::ps,pl,αs,zs,cs,cells,hp,ha,hz,hf=>by
  simp only[WV,Option.bind_eq_bind,QB,Option.pure_def,Option.some.injEq] at hp;obtain ⟨⟨off,n⟩,hpl,pl',hps,rfl⟩:=hp;cases αs with
  | nil=>simp[QK] at ha
  | cons a αs =>
   simp only[Q0,QK] at ha;obtain ⟨ha,has⟩:=ha;simp only[HW] at hf;split at hf
   ·rename_i hcond;obtain ⟨hn,hle,hu⟩:=hcond;have hcs:=ha.cells hu;have hl1:v.cells.size=n:=by have:=hcs.length;simp at this;omega
    have hl2:zs.length=cells.size:=by simpa using hz.length
    have hz':=hz.setRange off hcs;rw[show Go.Proofs.YtgkidpolomhghaaGreatDoor.AM.setRange cells.toList off v.cells.toList=(v.cells.zipIdx.foldl (fun (cs:Array Value) (x:Value × Nat)=>cs.setIfInBounds (off+x.2) x.1) cells).toList by rw[← Array.foldl_toList,Array.toList_zipIdx,IE];simp] at hz'
    obtain ⟨out,ho,hr⟩:=P3 place ps pl' αs _ cs _ hps has hz' hf;refine ⟨out,?_,hr⟩;simp only[Instr.fill,hpl];rw[if_neg (by simp;omega)];exact ho
   ·cases hf
theorem snd_fadd {s:TypeId} {fs:Array Field} {fi:Nat} {fd:Field} {i:TypeInfo} {x:Value} {avs:List AV} (h:HRel m X σ w) (hu:P.underlying s=some (.struct fs)) (hf:fs[fi]? = some fd) (hi:P.info? fd.type=some i) (h0:i.size≠0)
  (ha:QK m X w avs [x]) (hs:DK fd.offset avs σ=some (r,σ')):YP P (do pure (.value (← Instr.fieldAt s x fi))) m X σ w r σ':=by
 have run:∀ a:Addr,(Instr.fieldAt s (.pointer (some a)) fi).run P w=.ok (.pointer (some (a.add fd.offset))) w:=by intro a;simp only[Instr.fieldAt,Sem.run_bind,QY hu,Result.andThen_ok,hf,KT,fieldPlace,YK hi,h0,if_false,Sem.run_pure]
 unfold DK at hs;split at hs
 ·rename_i l o;obtain ⟨v,hv,hr⟩:=ha.one;cases hv;cases hs;simp only[VRel] at hr;obtain ⟨b,hb,rfl⟩:=hr;exact ZG h (run _) (by simp only[VRel];exact ⟨b,hb,by rw[JB]⟩)
 ·rename_i cs o;obtain ⟨v,hv,hr⟩:=ha.one;cases hv;cases hs;simp only[VRel,CV.rep] at hr;obtain ⟨b,rfl,hreps⟩:=hr;exact ZG h (run _) (by simp only[VRel,CV.rep];exact ⟨b,by rw[Addr.add_add],hreps⟩)
 ·cases hs
theorem run_indexAt_slice {t e:TypeId} {i:TypeInfo} {k:IntKind} {n:Int} {len cap:Nat} {a:Addr} (hu:P.underlying t=some (.slice e)) (hi:P.info? e=some i) (h:0≤n∧n<len) :
  (Instr.indexAt t (.slice (some a) len cap) (.int k n)).run P w=.ok (.pointer (some (a.add (n.toNat*i.size)))) w:=by
 simp[Instr.indexAt,asIntOf,QY hu,YK hi,h]
theorem run_indexAt_array {t e:TypeId} {i:TypeInfo} {k:IntKind} {n:Int} {len:Nat} {a:Addr} (hu:P.underlying t=some (.array len e)) (hi:P.info? e=some i) (h:0≤n∧n<len) :
  (Instr.indexAt t (.pointer (some a)) (.int k n)).run P w=.ok (.pointer (some (a.add (n.toNat*i.size)))) w:=by
 simp[Instr.indexAt,asIntOf,QY hu,YK hi,h,KT]
theorem VRel.slc_sl {l off len cap esz:Nat} {v:Value} (h:VRel m X w (.slc l off len cap esz) v):VRel m X w (.sl l off len esz) v:=by
 simp only[VRel] at h ⊢;obtain ⟨b,h1,h2,h3⟩:=h;exact ⟨b,cap,h1,h2,h3⟩
theorem snd_iaS {t e:TypeId} {i:TypeInfo} {x y:Value} {avs:List AV} (h:HRel m X σ w) (hu:P.underlying t=some (.slice e)) (hi:P.info? e=some i) (ha:QK m X w avs [x,y]) (hs:VP i.size avs σ=some (r,σ')) :
  YP P (do pure (.value (← Instr.indexAt t x y))) m X σ w r σ':=by
 unfold VP at hs;split at hs
 ·obtain ⟨x',us,hx,hr,hus⟩:=ha.cons;obtain ⟨y',hy,hra⟩:=hus.one;subst hy;cases hx;obtain rfl:=hra.int;simp only[VRel] at hr;obtain ⟨b,cap,hb,rfl,_⟩:=hr;split at hs
  ·rename_i hc;cases hs;exact ZG h (run_indexAt_slice hu hi hc) (by simp only[VRel];exact ⟨b,hb,by rw[JB]⟩)
  ·cases hs
 ·obtain ⟨x',us,hx,hr,hus⟩:=ha.cons;obtain ⟨y',hy,hra⟩:=hus.one;subst hy;cases hx;obtain rfl:=hra.int;split at hs
  ·rename_i hc;cases hs;simp only[VRel,CV.rep] at hr;rcases hr with ⟨_,h0,_⟩ | ⟨a,cap,rfl,_,hreps⟩
   ·omega
   ·exact ZG h (run_indexAt_slice hu hi hc) (by simp only[VRel,CV.rep];exact ⟨a,rfl,hreps⟩)
  ·cases hs
 ·obtain ⟨x',us,hx,hr,hus⟩:=ha.cons;obtain ⟨y',hy,hra⟩:=hus.one;subst hy;cases hx;obtain rfl:=hra.int;simp only[VRel] at hr;obtain ⟨b,hb,rfl,_⟩:=hr;split at hs
  ·rename_i hc;cases hs;exact ZG h (run_indexAt_slice hu hi hc) (by simp only[VRel];exact ⟨b,hb,by rw[JB]⟩)
  ·cases hs
 ·cases hs
theorem snd_iaA {t e:TypeId} {len:Nat} {i:TypeInfo} {x y:Value} {avs:List AV} (h:HRel m X σ w) (hu:P.underlying t=some (.array len e)) (hi:P.info? e=some i) (ha:QK m X w avs [x,y]) (hs:PD len i.size avs σ=some (r,σ')) :
  YP P (do pure (.value (← Instr.indexAt t x y))) m X σ w r σ':=by
 unfold PD at hs;split at hs
 ·obtain ⟨x',us,hx,hr,hus⟩:=ha.cons;obtain ⟨y',hy,hra⟩:=hus.one;subst hy;cases hx;obtain rfl:=hra.int;simp only[VRel] at hr;obtain ⟨b,hb,rfl⟩:=hr;split at hs
  ·rename_i hc;cases hs;exact ZG h (run_indexAt_array hu hi hc) (by simp only[VRel];exact ⟨b,hb,by rw[JB]⟩)
  ·cases hs
 ·obtain ⟨x',us,hx,hr,hus⟩:=ha.cons;obtain ⟨y',hy,hra⟩:=hus.one;subst hy;cases hx;obtain rfl:=hra.int;split at hs
  ·rename_i hc;cases hs;simp only[VRel,CV.rep] at hr;obtain ⟨a,rfl,hreps⟩:=hr;exact ZG h (run_indexAt_array hu hi hc) (by simp only[VRel,CV.rep];exact ⟨a,by rw[Addr.add_add],hreps⟩)
  ·cases hs
 ·cases hs
theorem IM {t:TypeId} {cs:List AV} {vs:List Value} {off n:Nat} {i:TypeInfo} {g:Bool} (hg:UD P t=some g) (hi:P.info? t=some i) (h:QK m X w cs vs) :
  (g=true→off+i.size≤cs.length→∃ v,(part t vs.toArray off).run P w=.ok v w∧VRel m X w (.agg ((cs.drop off).take i.size)) v) ∧
  (g=false→∀ a,cs[off]? = some a→∃ v,(part t vs.toArray off).run P w=.ok v w∧VRel m X w a v):=by
 constructor
 ·rintro rfl hle;refine ⟨.agg ((vs.drop off).take i.size).toArray,?_,by simp only[VRel];exact ⟨_,rfl,(h.drop off).take _⟩⟩;simp only[part,Sem.run_bind,Qa5 hg,Result.andThen_ok,if_true,YK hi,Sem.run_pure];congr 2;simp[List.extract_eq_take_drop]
 ·rintro rfl a ha;obtain ⟨v,hv,hr⟩:=h.get _ _ ha;refine ⟨v,?_,hr⟩;simp[part,Qa5 hg,hv]
theorem snd_fld {s:TypeId} {fs:Array Field} {fi:Nat} {fd:Field} {i:TypeInfo} {g:Bool} {x:Value} {avs:List AV} (h:HRel m X σ w) (hu:P.underlying s=some (.struct fs)) (hf:fs[fi]? = some fd) (hi:P.info? fd.type=some i) (hg:UD P fd.type=some g)
  (ha:QK m X w avs [x]) (hs:OH fd.offset i.size g avs σ=some (r,σ')):YP P (do pure (.value (← Instr.field s x fi))) m X σ w r σ':=by
 unfold OH at hs;split at hs
 ·rename_i cs;obtain ⟨v,hv,hr⟩:=ha.one;cases hv;simp only[VRel] at hr;obtain ⟨vs,rfl,hrs⟩:=hr;split at hs
  ·rename_i hle;cases hs;obtain ⟨v,hv,hr⟩:=(IM (n:=0) hg hi hrs).1 rfl hle;refine ZG h (v:=v) ?_ hr;simp only[Instr.field,Sem.run_bind,QY hu,Result.andThen_ok,hf,asAgg,Sem.run_pure];exact hv
  ·cases hs
 ·rename_i cs;obtain ⟨v,hv,hr⟩:=ha.one;cases hv;simp only[VRel] at hr;obtain ⟨vs,rfl,hrs⟩:=hr;simp only[QA] at hs;obtain ⟨a,haa,he⟩:=hs;cases he;obtain ⟨v,hv,hr⟩:=(IM (n:=0) hg hi hrs).2 rfl _ haa;refine ZG h (v:=v) ?_ hr;simp only[Instr.field,Sem.run_bind,QY hu,Result.andThen_ok,hf,asAgg,Sem.run_pure];exact hv
 ·cases hs
theorem snd_ixA {t e:TypeId} {len:Nat} {i:TypeInfo} {g:Bool} {x y:Value} {avs:List AV} (h:HRel m X σ w) (hu:P.underlying t=some (.array len e)) (hi:P.info? e=some i) (hg:UD P e=some g)
  (ha:QK m X w avs [x,y]) (hs:A7 len i.size i.size g avs σ=some (r,σ')):YP P (do pure (.value (← Instr.index t x y))) m X σ w r σ':=by
 unfold A7 at hs;split at hs
 ·obtain ⟨x',us,hx,hr,hus⟩:=ha.cons;obtain ⟨y',hy,hra⟩:=hus.one;subst hy;cases hx;obtain rfl:=hra.int;simp only[VRel] at hr;obtain ⟨vs,rfl,hrs⟩:=hr;split at hs
  ·rename_i hc;cases hs;obtain ⟨h1,h2,h3⟩:=hc;obtain ⟨v,hv,hr⟩:=(IM (n:=0) hg hi hrs).1 rfl h3;refine ZG h (v:=v) ?_ hr;simp only[Instr.index,Sem.run_bind,asIntOf,Sem.run_pure,QY hu,Result.andThen_ok,YK hi];rw[if_pos ⟨h1,h2⟩];simpa[YK hi] using hv
  ·cases hs
 ·obtain ⟨x',us,hx,hr,hus⟩:=ha.cons;obtain ⟨y',hy,hra⟩:=hus.one;subst hy;cases hx;obtain rfl:=hra.int;simp only[VRel] at hr;obtain ⟨vs,rfl,hrs⟩:=hr;split at hs
  ·rename_i hc;simp only[QA] at hs;obtain ⟨a,haa,he⟩:=hs;cases he;obtain ⟨v,hv,hr⟩:=(IM (n:=0) hg hi hrs).2 rfl _ haa;refine ZG h (v:=v) ?_ hr;simp only[Instr.index,Sem.run_bind,asIntOf,Sem.run_pure,QY hu,Result.andThen_ok,YK hi];rw[if_pos hc];simpa[YK hi] using hv
  ·cases hs
 ·cases hs
theorem Qe9 {t:TypeId} {x y:Value} {avs:List AV} (h:HRel m X σ w) (hu:P.underlying t=some .string)
  (ha:QK m X w avs [x,y]) (hs:G5 avs σ=some (r,σ')):YP P (do pure (.value (← Instr.index t x y))) m X σ w r σ':=by
 unfold G5 at hs;split at hs
 ·rename_i s k n;obtain ⟨x',us,hx,hr,hus⟩:=ha.cons;obtain ⟨y',hy,hra⟩:=hus.one;subst hy;cases hx;obtain rfl:=hra.int;obtain rfl:=hr.str;split at hs
  ·rename_i hc;simp only[QA] at hs;obtain ⟨b,hb,he⟩:=hs;cases he;refine ZG h (v:=.int .u8 b.toNat) ?_ (VRel.mk_int _ _);have hb':s[n.toNat]? = some b:=by
    rw[Q3] at hb;obtain ⟨hlt,he⟩:=hb;have hlt':n.toNat<s.size:=hlt;rw[getElem?_pos s n.toNat hlt'];exact congrArg some he
   simp only[Instr.index,Sem.run_bind,asIntOf,Sem.run_pure,QY hu,Result.andThen_ok];simp[hc,hb']
  ·cases hs
 ·cases hs
theorem KQ {x:AV} {v:Value} {n:Nat} (h:VRel m X w x v) (hb:bnd x=some n):∃ k,v=.int k n:=by
 unfold bnd at hb;split at hb
 ·rename_i k i;split at hb
  ·cases hb;obtain rfl:=h.int;exact ⟨k,by congr 1;omega⟩
  ·cases hb
 ·cases hb
theorem run_sliceBound {k:IntKind} {n y:Nat} {code:BoundsCode} (h:n≤y):(Instr.sliceBound (.int k n) y code).run P w=.ok n w:=by
 simp[Instr.sliceBound,asIntOf];omega
theorem EG {lo hi:Bool} {len cap a b:Nat} {αs:List AV} {lv hv:Option Value} {isS:Bool} (hlo:lv.isSome=lo) (hhi:hv.isSome=hi) (hr:QK m X w αs (lv.toList++hv.toList)) (hb:bnds lo hi len αs=some (a,b))
  (hab:a≤b) (hbl:b≤len) (hlc:len≤cap):(Instr.sliceBounds isS len cap lv hv none).run P w=.ok (a,b,cap) w:=by
 subst hlo;subst hhi;cases lv with
 | none =>
  cases hv with
  | none =>
   obtain rfl:αs=[]:=by simpa using hr.length
   simp[bnds] at hb;obtain ⟨rfl,rfl⟩:=hb;simp[Instr.sliceBounds]
  | some y =>
   cases αs with
   | nil=>simp[QK] at hr
   | cons x αs=>cases αs with
    | cons=>simp[QK] at hr
    | nil =>
     simp only[Option.toList,List.nil_append,QK] at hr;simp only[bnds,Option.isSome,QA] at hb;obtain ⟨n,hn,he⟩:=hb;cases he;obtain ⟨k,rfl⟩:=KQ hr.1 hn;simp[Instr.sliceBounds,run_sliceBound (show b≤cap by omega)]
 | some x =>
  cases hv with
  | none =>
   cases αs with
   | nil=>simp[QK] at hr
   | cons x αs=>cases αs with
    | cons=>simp[QK] at hr
    | nil =>
     simp only[Option.toList,ZU,QK] at hr;simp only[bnds,Option.isSome,QA] at hb;obtain ⟨n,hn,he⟩:=hb;cases he;obtain ⟨k,rfl⟩:=KQ hr.1 hn;simp[Instr.sliceBounds,run_sliceBound hab]
  | some y =>
   cases αs with
   | nil=>simp[QK] at hr
   | cons x αs=>cases αs with
    | nil=>simp[QK] at hr
    | cons z αs=>cases αs with
     | cons=>simp[QK] at hr
     | nil =>
      simp only[Option.toList,List.cons_append,List.nil_append,QK] at hr;simp only[bnds,Option.isSome,QB,QA] at hb;obtain ⟨n,hn,n',hn',he⟩:=hb;cases he;obtain ⟨k,rfl⟩:=KQ hr.1 hn;obtain ⟨k',rfl⟩:=KQ hr.2.1 hn';simp[Instr.sliceBounds,run_sliceBound (show b≤cap by omega),run_sliceBound hab]
theorem Qed {lo hi:Bool} {len cap a b:Nat} {αs:List AV} {lv hv:Option Value} {isS:Bool} (hlo:lv.isSome=lo) (hhi:hv.isSome=hi) (hr:QK m X w αs (lv.toList++hv.toList)) (hb:bnds lo hi len αs=some (a,b))
  (hab:a≤b) (hbl:b≤cap) (hlc:len≤cap):(Instr.sliceBounds isS len cap lv hv none).run P w=.ok (a,b,cap) w:=by
 subst hlo;subst hhi;cases lv with
 | none =>
  cases hv with
  | none =>
   obtain rfl:αs=[]:=by simpa using hr.length
   simp[bnds] at hb;obtain ⟨rfl,rfl⟩:=hb;simp[Instr.sliceBounds]
  | some y =>
   cases αs with
   | nil=>simp[QK] at hr
   | cons x αs=>cases αs with
    | cons=>simp[QK] at hr
    | nil =>
     simp only[Option.toList,List.nil_append,QK] at hr;simp only[bnds,Option.isSome,QA] at hb;obtain ⟨n,hn,he⟩:=hb;cases he;obtain ⟨k,rfl⟩:=KQ hr.1 hn;simp[Instr.sliceBounds,run_sliceBound (show b≤cap by omega)]
 | some x =>
  cases hv with
  | none =>
   cases αs with
   | nil=>simp[QK] at hr
   | cons x αs=>cases αs with
    | cons=>simp[QK] at hr
    | nil =>
     simp only[Option.toList,ZU,QK] at hr;simp only[bnds,Option.isSome,QA] at hb;obtain ⟨n,hn,he⟩:=hb;cases he;obtain ⟨k,rfl⟩:=KQ hr.1 hn;simp[Instr.sliceBounds,run_sliceBound hab]
  | some y =>
   cases αs with
   | nil=>simp[QK] at hr
   | cons x αs=>cases αs with
    | nil=>simp[QK] at hr
    | cons z αs=>cases αs with
     | cons=>simp[QK] at hr
     | nil =>
      simp only[Option.toList,List.cons_append,List.nil_append,QK] at hr;simp only[bnds,Option.isSome,QB,QA] at hb;obtain ⟨n,hn,n',hn',he⟩:=hb;cases he;obtain ⟨k,rfl⟩:=KQ hr.1 hn;obtain ⟨k',rfl⟩:=KQ hr.2.1 hn';simp[Instr.sliceBounds,run_sliceBound (show b≤cap by omega),run_sliceBound hab]
theorem snd_slS {t e:TypeId} {i:TypeInfo} {x:Value} {lv hv:Option Value} {avs:List AV} (h:HRel m X σ w) (hu:P.underlying t=some (.slice e)) (hi:P.info? e=some i)
  (ha:QK m X w avs (x::(lv.toList++hv.toList))) (hs:VG i.size lv.isSome hv.isSome avs σ=some (r,σ')):YP P (do pure (.value (← Instr.sliceAt t x lv hv none))) m X σ w r σ':=by
 have run:∀ (oa:Option Addr) (len cap a b:Nat),(Instr.sliceBounds true len cap lv hv none).run P w=.ok (a,b,cap) w →
   (Instr.sliceAt t (.slice oa len cap) lv hv none).run P w=.ok (.slice (if cap=a then oa else oa.map (·.add (a*i.size))) (b-a) (cap-a)) w:=by
  intro oa len cap a b hb;simp only[Instr.sliceAt,Instr.slice,Sem.run_bind,QY hu,Result.andThen_ok,hb,YK hi,Sem.run_pure]
 unfold VG at hs;split at hs
 ·rename_i l off len e' bs;obtain ⟨x',us,hx,hr,hus⟩:=ha.cons;cases hx;simp only[VRel] at hr;obtain ⟨b,cap,hb,rfl,hle,c,ty,h1,h2⟩:=hr;simp only[QB] at hs;obtain ⟨⟨lo,hi'⟩,hbd,hs⟩:=hs;split at hs
  ·rename_i hcond;obtain ⟨hab,hbl,rfl⟩:=hcond;have hrun:=run (some ⟨b,off,none⟩) len cap lo hi' (EG rfl rfl hus hbd hab hbl hle);split at hs
   ·cases hs;refine ZG h hrun ?_;simp only[VRel,CV.rep];rename_i hc
    dsimp only at hc hab hbl
    by_cases hcl:cap=lo
    ·exact .inr ⟨⟨b,off,none⟩,cap-lo,by rw[if_pos hcl,hc.1];simp,by omega,by simp[CV.reps]⟩
    ·exact .inr ⟨(⟨b,off,none⟩:Addr).add (lo*i.size),cap-lo,by rw[if_neg hcl,hc.1];simp,by omega,by simp[CV.reps]⟩
   ·rename_i hc;cases hs
    dsimp only at hc hab hbl
    refine ZG h hrun ?_;simp only[VRel];refine ⟨b,cap-lo,hb,?_,by omega,c,ty,h1,?_⟩
    ·by_cases hcl:cap=lo
     ·have:lo=0:=by omega
      subst this;simp[hcl]
     ·rw[if_neg hcl];simp[JB]
    ·by_cases hcl:lo≤cap
     ·have:lo*i.size+(cap-lo)*i.size=cap*i.size:=by rw[← WP];congr 1;omega
      omega
     ·omega
  ·cases hs
 ·rename_i cs len bs;obtain ⟨x',us,hx,hr,hus⟩:=ha.cons;cases hx;simp only[QB] at hs;obtain ⟨⟨lo,hi'⟩,hbd,hs⟩:=hs;split at hs
  ·rename_i hcond;cases hs;obtain ⟨hab,hbl,hcl⟩:=hcond;simp only[VRel,CV.rep] at hr;rcases hr with ⟨rfl,rfl,rfl⟩ | ⟨a,cap,rfl,hle,hreps⟩
   ·have hrun:=run none 0 0 lo hi' (EG rfl rfl hus hbd hab hbl (QG _));refine ZG h hrun ?_;simp only[VRel,CV.rep];exact .inl ⟨by simp;omega,by omega,by simp⟩
   ·have hrun:=run (some a) len cap lo hi' (EG rfl rfl hus hbd hab hbl hle);refine ZG h hrun ?_;simp only[VRel,CV.rep];by_cases hc:cap=lo
    ·refine .inr ⟨a,cap-lo,by rw[if_pos hc],by omega,?_⟩;have:hi'-lo=0:=by omega
     simp[this,CV.reps]
    ·refine .inr ⟨a.add (lo*i.size),cap-lo,by rw[if_neg hc];rfl,by omega,?_⟩;refine LB _ (BZ _ ?_);have:=O2 (lo*i.size) hreps;simpa using this
  ·cases hs
 ·rename_i bs;obtain ⟨x',us,hx,hr,hus⟩:=ha.cons;cases hx;obtain rfl:=hr.nils;simp only[QB] at hs;obtain ⟨⟨lo,hi'⟩,hbd,hs⟩:=hs;split at hs
  ·rename_i hcond;cases hs;obtain ⟨rfl,rfl⟩:=hcond;have hrun:=run none 0 0 0 0 (EG rfl rfl hus hbd (QG _) (QG _) (QG _));exact ZG h hrun (by simp[VRel,CV.rep])
  ·cases hs
 ·rename_i l off len cap e' bs;obtain ⟨x',us,hx,hr,hus⟩:=ha.cons;cases hx;simp only[VRel] at hr;obtain ⟨b,hb,rfl,hle,c,ty,h1,h2⟩:=hr;simp only[QB] at hs;obtain ⟨⟨lo,hi'⟩,hbd,hs⟩:=hs;split at hs
  ·rename_i hcond;obtain ⟨hab,hbl,rfl⟩:=hcond;have hrun:=run (some ⟨b,off,none⟩) len cap lo hi' (Qed rfl rfl hus hbd hab hbl hle);split at hs
   ·cases hs;refine ZG h hrun ?_;simp only[VRel,CV.rep];rename_i hc
    dsimp only at hc hab hbl
    exact .inr ⟨⟨b,off,none⟩,cap-lo,by rw[if_pos hc.1.symm,show hi'-lo=0 by omega],by omega,by simp[CV.reps]⟩
   ·rename_i hc;cases hs
    dsimp only at hc hab hbl
    refine ZG h hrun ?_;simp only[VRel];refine ⟨b,hb,?_,by omega,c,ty,h1,?_⟩
    ·by_cases hcl:cap=lo
     ·have:lo=0:=by omega
      subst this;simp[hcl]
     ·rw[if_neg hcl];simp[JB]
    ·have:lo*i.size+(cap-lo)*i.size=cap*i.size:=by rw[← WP];congr 1;omega
     omega
  ·cases hs
 ·cases hs
theorem snd_slS3 {t e:TypeId} {i:TypeInfo} {x lv hv mv:Value} {avs:List AV} (h:HRel m X σ w) (hu:P.underlying t=some (.slice e)) (hi:P.info? e=some i)
  (ha:QK m X w avs [x,lv,hv,mv]) (hs:TR avs σ=some (r,σ')):YP P (do pure (.value (← Instr.sliceAt t x (some lv) (some hv) (some mv)))) m X σ w r σ':=by
 have key:∀ (oa:Option Addr) (len cap:Nat) (xa ya za:AV),VRel m X w xa lv→VRel m X w ya hv→VRel m X w za mv→x=.slice oa len cap→len≤cap →
   (((bnd xa).bind fun a=>(bnd ya).bind fun b=>(bnd za).bind fun c=>if a≤b∧b≤c∧c≤len then some (AV.undef,σ) else none)=some (r,σ'))→YP P (do pure (.value (← Instr.sliceAt t x (some lv) (some hv) (some mv)))) m X σ w r σ':=by
  rintro oa len cap xa ya za h1 h2 h3 rfl hle hs;simp only[QB] at hs;obtain ⟨a,ha,b,hb,c,hc,hs⟩:=hs;split at hs <;> cases hs
  rename_i hcond;obtain ⟨ka,rfl⟩:=KQ h1 ha;obtain ⟨kb,rfl⟩:=KQ h2 hb;obtain ⟨kc,rfl⟩:=KQ h3 hc;refine ZG h (v:=.slice (if c=a then oa else oa.map (·.add (a*i.size))) (b-a) (c-a)) ?_ (by simp only[VRel]);simp only[Instr.sliceAt,Instr.slice,Sem.run_bind,QY hu,Result.andThen_ok,Instr.sliceBounds,run_sliceBound (show c≤cap by omega),run_sliceBound (show b≤c by omega),run_sliceBound (show a≤b by omega),YK hi,Sem.run_pure]
 unfold TR at hs;split at hs
 ·obtain ⟨x',us,hx,hr,hus⟩:=ha.cons;cases hx;obtain ⟨y',us,hx,hr1,hus⟩:=hus.cons;cases hx;obtain ⟨z',us,hx,hr2,hus⟩:=hus.cons;cases hx;obtain ⟨u',hy,hr3⟩:=hus.one;cases hy;simp only[VRel] at hr;obtain ⟨b,cap,hb,rfl,hle,_⟩:=hr;exact key _ _ _ _ _ _ hr1 hr2 hr3 rfl hle hs
 ·obtain ⟨x',us,hx,hr,hus⟩:=ha.cons;cases hx;obtain ⟨y',us,hx,hr1,hus⟩:=hus.cons;cases hx;obtain ⟨z',us,hx,hr2,hus⟩:=hus.cons;cases hx;obtain ⟨u',hy,hr3⟩:=hus.one;cases hy;simp only[VRel] at hr;obtain ⟨b,hb,rfl,hle,_⟩:=hr;exact key _ _ _ _ _ _ hr1 hr2 hr3 rfl hle hs
 ·cases hs
theorem snd_slA {t e:TypeId} {n:Nat} {i:TypeInfo} {x:Value} {lv hv:Option Value} {avs:List AV} (h:HRel m X σ w) (hu:P.underlying t=some (.array n e)) (hi:P.info? e=some i)
  (ha:QK m X w avs (x::(lv.toList++hv.toList))) (hs:OG n i.size lv.isSome hv.isSome avs σ=some (r,σ')):YP P (do pure (.value (← Instr.sliceAt t x lv hv none))) m X σ w r σ':=by
 unfold OG at hs;split at hs
 ·rename_i l off bs;obtain ⟨x',us,hx,hr,hus⟩:=ha.cons;cases hx;simp only[VRel] at hr;obtain ⟨b,hb,rfl⟩:=hr;simp only[QB] at hs;obtain ⟨cs,hcs,⟨lo,hi'⟩,hbd,hs⟩:=hs;split at hs
  ·rename_i hcond;cases hs;obtain ⟨hab,hbn,han,hlen⟩:=hcond;obtain ⟨b',c,ty,h1,_,h2,h3,h4⟩:=h.row hcs;rw[hb] at h1;cases h1;refine ZG h (v:=.slice (some ⟨b,off+lo*i.size,none⟩) (hi'-lo) (n-lo)) ?_ ?_
   ·simp only[Instr.sliceAt,Sem.run_bind,QY hu,Result.andThen_ok,KT,EG rfl rfl hus hbd hab hbn (QG _),YK hi,Sem.run_pure];rw[if_neg (by omega),JB]
   ·simp only[VRel];refine ⟨b,n-lo,hb,rfl,by omega,c,ty,h2,?_⟩;have:lo*i.size+(n-lo)*i.size=n*i.size:=by rw[← WP];congr 1;omega
    omega
  ·cases hs
 ·cases hs
theorem Qe5 {t:TypeId} {x:Value} {lv hv:Option Value} {avs:List AV} (h:HRel m X σ w) (hu:P.underlying t=some .string)
  (ha:QK m X w avs (x::(lv.toList++hv.toList))) (hs:LN lv.isSome hv.isSome avs σ=some (r,σ')):YP P (do pure (.value (← Instr.sliceAt t x lv hv none))) m X σ w r σ':=by
 unfold LN at hs;split at hs
 ·rename_i s bs;obtain ⟨x',us,hx,hr,hus⟩:=ha.cons;cases hx;obtain rfl:=hr.str;simp only[QB] at hs;obtain ⟨⟨lo,hi'⟩,hbd,hs⟩:=hs;split at hs
  ·rename_i hcond;cases hs;refine ZG h (v:=.string (s.extract lo hi')) ?_ (VRel.mk_str _);simp[Instr.sliceAt,Instr.slice,QY hu,EG rfl rfl hus hbd hcond.1 hcond.2 (QG _)]
  ·cases hs
 ·cases hs
theorem QK.map_range {f:Nat→AV} {g:Nat→Value}:∀ (n:Nat),(∀ i,i<n→VRel m X w (f i) (g i))→QK m X w ((List.range n).map f) ((List.range n).map g)
 | 0,_=>by simp[QK]
 | n+1,h=>by rw[WM,ZS,ZS];exact QK.append (QK.map_range n fun i hi=>h i (by omega)) (by simp only[Q0,WS,QK];exact ⟨h n (by omega),trivial⟩)
theorem T8 (n:Nat) (zs:List AV):YW n zs=(List.range (n*zs.length)).map fun i=>zs.getD (i % zs.length) .undef:=by
 unfold YW;split
 ·rename_i z;simp only[List.length_cons,List.length_nil,ZV,W3];apply Z1;intro i;by_cases hi:i<n
  ·simp[hi,Nat.mod_one]
  ·simp[hi,QN (by simpa using hi:(List.replicate n z).length≤i)]
 ·rfl
theorem FL (n:Nat) (zero:Array Value):QK m X w (YW n (zero.toList.map WC)) ((List.range (n*zero.size)).map fun i=>zero[i % zero.size]!):=by
 rw[T8];simp only[ZK,Array.length_toList];refine QK.map_range _ fun i hi=>?_
 have h0:0<zero.size:=by
  rcases XF zero.size with h | h
  ·rw[h] at hi;omega
  ·exact h
 have hlt:i % zero.size<zero.size:=Nat.mod_lt _ h0;have e1:(zero.toList.map WC).getD (i % zero.size) .undef=WC zero[i % zero.size]:=by simp[List.getD,hlt]
 rw[e1,getElem!_pos zero _ hlt];exact GZ _
theorem E2 (n:Nat) (g:Nat→Value):((Array.range n).map g).toList=(List.range n).map g:=by simp
theorem Qc6 {t e:TypeId} {i:TypeInfo} {z:Value} {len:Nat} {ps:List (Nat × Value)} {pl:List (Nat × Nat)} {avs:List AV} (h:HRel m X σ w) (hu:P.underlying t=some (.slice e)) (hi:P.info? e=some i) (hz:i.zero=some z)
  (hsz:z.cells.size=i.size) (hpos:0<i.size) (hbig:len*i.size≤2 ^ 24) (hpl:pl=ps.map fun p=>(p.1*i.size,i.size)) (ha:QK m X w avs (ps.map (·.2)))
  (hs:V4 i.size len (YW len (z.cells.toList.map WC)) pl avs σ=some (r,σ')):YP P (do pure (.value (← Instr.buildSlice t len ps.toArray))) m X σ w r σ':=by
 unfold V4 at hs;simp only[QA] at hs;obtain ⟨cs,hf,he⟩:=hs;cases he;have hz0:QK m X w (YW len (z.cells.toList.map WC)) (((Array.range (len*i.size)).map (z.cells[· % z.cells.size]!)).toList):=by rw[E2];have:=FL (m:=m) (X:=X) (w:=w) len z.cells;rwa [hsz] at this ⊢
 obtain ⟨out,ho,hr⟩:=P3 (fun i'=>some (i'*i.size,i.size)) ps pl avs _ cs _ (by subst hpl;clear hf ha;induction ps with
  | nil=>rfl
  | cons p ps ih=>simp only[WV,ih,Option.bind_eq_bind,Option.pure_def,Option.bind_some,Q0]) ha hz0 hf
 have hlen:out.size=len*i.size:=by
  have h1:=hr.length;have h2:cs.length=(YW len (z.cells.toList.map WC)).length:=by
   clear ho hr h1 hz0 ha;revert hf;generalize YW len (z.cells.toList.map WC)=zs;intro hf;have:∀ (pl:List (Nat × Nat)) (αs zs cs:List AV),HW zs pl αs=some cs→cs.length=zs.length:=by
    intro pl
    induction pl with
    | nil=>intro αs zs cs h;cases αs <;> simp[HW] at h;subst h;rfl
    | cons p pl ih =>
     intro αs zs cs h;cases αs with
     | nil=>simp[HW] at h
     | cons a αs =>
      simp only[HW] at h;split at h
      ·have:=ih _ _ _ h;rw[Z5] at this;exact this
      ·cases h
   exact this _ _ _ _ hf
  have h3:(YW len (z.cells.toList.map WC)).length=len*i.size:=by rw[T8];simp[hsz]
  simp at h1;omega
 obtain ⟨h1,h2,h3⟩:=h.alloc (.cells out e) (.cells cs) (fun hm=>ORel.new (heap_alloc_new _ _) (hr.mono hm _ _));refine W7 (v:=.slice (some ⟨w.heap.size,0,none⟩) len len) ?_ ?_ h1 h2
 ·simp only[Instr.buildSlice,Sem.run_bind,QY hu,Result.andThen_ok,YK hi];rw[if_neg (by omega)];by_cases hl:len=0
  ·subst hl;simp only[Nat.zero_mul,if_true,Sem.run_bind,Sem.run_pure,Result.andThen_ok];have e0:(Array.range 0).map (fun x=>(#[]:Array Value)[x % (#[]:Array Value).size]!)=(Array.range (0*i.size)).map (z.cells[· % z.cells.size]!):=by simp
   rw[e0,ho];simp[newRow]
  ·have:len*i.size≠0:=Nat.mul_ne_zero hl (by omega);simp only[this,if_false,Sem.run_bind,GV hi hz,Result.andThen_ok,Sem.run_pure,ho];simp[newRow]
 ·simp only[VRel];exact ⟨w.heap.size,len,LM.put_same _ _ _,rfl,QG _,out,e,heap_alloc_new _ _,by omega⟩
theorem QbZ {t e:TypeId} {i:TypeInfo} {z:Value} {x y:Value} {avs:List AV} (h:HRel m X σ w) (hu:P.underlying t=some (.slice e)) (hi:P.info? e=some i) (hz:i.zero=some z)
  (hsz:z.cells.size=i.size) (hpos:0<i.size) (ha:QK m X w avs [x,y])
  (hs:XB i.size i.bytes (z.cells.toList.map WC) avs σ=some (r,σ')):YP P (do pure (.value (← Instr.makeSlice t x y))) m X σ w r σ':=by
 unfold XB at hs;split at hs
 ·rename_i k n k' c;obtain ⟨x',us,hx,hr,hus⟩:=ha.cons;obtain ⟨y',hy,hra⟩:=hus.one;subst hy;cases hx;obtain rfl:=hra.int;obtain rfl:=hr.int;split at hs
  ·rename_i hc;cases hs;obtain ⟨hn0,rfl,hb,hn,_⟩:=hc;have hw:IntKind.i64.wrap n=n:=IntWalk.i64_in _ (by omega);have hlen:((Array.range (n.toNat*i.size)).map (z.cells[· % z.cells.size]!)).size=n.toNat*i.size:=by simp
   obtain ⟨h1,h2,h3⟩:=h.alloc (.cells ((Array.range (n.toNat*i.size)).map (z.cells[· % z.cells.size]!)) e) (.cells (YW n.toNat (z.cells.toList.map WC)))
    (fun hm=>ORel.new (heap_alloc_new _ _) (by rw[E2];have:=FL (m:=m.put σ.length w.heap.size) (X:=X) (w:=w.alloc (.cells ((Array.range (n.toNat*i.size)).map (z.cells[· % z.cells.size]!)) e)) n.toNat z.cells;rwa [hsz] at this ⊢))
   refine W7 (v:=.slice (some ⟨w.heap.size,0,none⟩) n.toNat n.toNat) ?_ ?_ h1 h2
   ·have hmul:(i.bytes:Int)*n≤2 ^ 48:=by rw[Int.mul_comm];omega
    simp only[Instr.makeSlice,Sem.run_bind,QY hu,Result.andThen_ok,asInt,asIntOf,Sem.run_pure,YI hi,hw];have hc1:(decide (n<0)||decide ((i.bytes:Int)*n>2 ^ 48))=false:=by simp;omega
    simp only[hc1,Y3,QT,if_false];have hc2:(decide (n<0)||decide (n>n))=false:=by simp;omega
    simp only[hc2,QT,if_false,Sem.run_bind,run_askRoom,Result.andThen_ok,YK hi];by_cases hl:n.toNat*i.size=0
    ·have e0:(Array.range (n.toNat*i.size)).map (fun x=>(#[]:Array Value)[x % (#[]:Array Value).size]!)=(Array.range (n.toNat*i.size)).map (z.cells[· % z.cells.size]!):=by rw[hl];simp
     simp only[hl,if_true,Sem.run_pure,Result.andThen_ok,Sem.run_bind];rw[hl] at e0;rw[e0];simp[newRow]
    ·simp only[hl,if_false,Sem.run_bind,GV hi hz,Result.andThen_ok,Sem.run_pure];simp[newRow]
   ·simp only[VRel];exact ⟨w.heap.size,n.toNat,LM.put_same _ _ _,rfl,QG _,_,e,heap_alloc_new _ _,by rw[hlen];omega⟩
  ·cases hs
 ·cases hs
theorem QaY {t e:TypeId} {i:TypeInfo} {z:Value} {x y:Value} {avs:List AV} (h:HRel m X σ w) (hu:P.underlying t=some (.slice e)) (hi:P.info? e=some i) (hz:i.zero=some z)
  (hsz:z.cells.size=i.size) (hpos:0<i.size) (ha:QK m X w avs [x,y])
  (hs:XR i.size i.bytes (z.cells.toList.map WC) avs σ=some (r,σ')):YP P (do pure (.value (← Instr.makeSlice t x y))) m X σ w r σ':=by
 unfold XR at hs;split at hs
 ·rename_i k n k' c;obtain ⟨x',us,hx,hr,hus⟩:=ha.cons;obtain ⟨y',hy,hra⟩:=hus.one;subst hy;cases hx;obtain rfl:=hra.int;obtain rfl:=hr.int;split at hs
  ·rename_i hc;cases hs;obtain ⟨hn0,rfl,hb,hn,_⟩:=hc;have hw:IntKind.i64.wrap n=n:=IntWalk.i64_in _ (by omega);have hlen:((Array.range (n.toNat*i.size)).map (z.cells[· % z.cells.size]!)).size=n.toNat*i.size:=by simp
   obtain ⟨h1,h2,h3⟩:=h.alloc (.cells ((Array.range (n.toNat*i.size)).map (z.cells[· % z.cells.size]!)) e) (.cells (YW n.toNat (z.cells.toList.map WC)))
    (fun hm=>ORel.new (heap_alloc_new _ _) (by rw[E2];have:=FL (m:=m.put σ.length w.heap.size) (X:=X) (w:=w.alloc (.cells ((Array.range (n.toNat*i.size)).map (z.cells[· % z.cells.size]!)) e)) n.toNat z.cells;rwa [hsz] at this ⊢))
   refine W7 (v:=.slice (some ⟨w.heap.size,0,none⟩) n.toNat n.toNat) ?_ ?_ h1 h2
   ·have hmul:(i.bytes:Int)*n≤2 ^ 48:=by rw[Int.mul_comm];omega
    simp only[Instr.makeSlice,Sem.run_bind,QY hu,Result.andThen_ok,asInt,asIntOf,Sem.run_pure,YI hi,hw];have hc1:(decide (n<0)||decide ((i.bytes:Int)*n>2 ^ 48))=false:=by simp;omega
    simp only[hc1,Y3,QT,if_false];have hc2:(decide (n<0)||decide (n>n))=false:=by simp;omega
    simp only[hc2,QT,if_false,Sem.run_bind,run_askRoom,Result.andThen_ok,YK hi];by_cases hl:n.toNat*i.size=0
    ·have e0:(Array.range (n.toNat*i.size)).map (fun x=>(#[]:Array Value)[x % (#[]:Array Value).size]!)=(Array.range (n.toNat*i.size)).map (z.cells[· % z.cells.size]!):=by rw[hl];simp
     simp only[hl,if_true,Sem.run_pure,Result.andThen_ok,Sem.run_bind];rw[hl] at e0;rw[e0];simp[newRow]
    ·simp only[hl,if_false,Sem.run_bind,GV hi hz,Result.andThen_ok,Sem.run_pure];simp[newRow]
   ·simp only[VRel];exact ⟨w.heap.size,LM.put_same _ _ _,rfl,QG _,_,e,heap_alloc_new _ _,by rw[hlen];omega⟩
  ·cases hs
 ·cases hs
theorem Qe6 {t:TypeId} {avs:List AV} (h:HRel m X σ w) (hs:KY avs σ=some (r,σ')):YP P (do pure (.value (← Instr.makeMap t none))) m X σ w r σ':=by
 unfold KY at hs;split at hs <;> cases hs
 obtain ⟨h1,h2,h3⟩:=h.alloc (.map #[] 0) (.map []) (fun hm=>by simp only[ORel];exact ⟨#[],0,heap_alloc_new _ _,by simp,by simp,by simp,by simp⟩);refine W7 (v:=.map (some w.heap.size)) ?_ ?_ h1 h2
 ·simp[Instr.makeMap]
 ·simp only[VRel];exact ⟨_,LM.put_same _ _ _,rfl⟩
theorem QK.map_bytes:∀ (bs:List UInt8),QK m X w (bs.map fun b=>.cv (.int .u8 b.toNat)) (bs.map fun b=>Value.int .u8 b.toNat)
 | []=>by simp[QK]
 | b::bs=>by simp only[Q0,QK];exact ⟨VRel.mk_int _ _,QK.map_bytes bs⟩
theorem HZ {a:AV} {x:Value} {esz n:Nat} {new:List AV} (h:HRel m X σ w) (hr:VRel m X w a x) (hsrc:Z9 σ esz a=some new) (hl:lenF a=some n) :
  ∃ vs:List Value,(∀ w1:World,w1.heap=w.heap→(Builtin.firstCells esz n x).run P w1=.ok vs.toArray w1)∧QK m X w new vs∧(∀ w1:World,(Builtin.lenOf x).run P w1=.ok n w1):=by
 have hcell:∀ w1:World,w1.heap=w.heap→∀ a,w1.cell? a=w.cell? a:=fun w1 hw a=>by simp[World.cell?,hw]
 unfold Z9 at hsrc;split at hsrc
 ·cases hsrc;simp[lenF] at hl;subst hl;obtain rfl:=hr.nils;exact ⟨[],fun _ _=>by simp[Builtin.firstCells],by simp[QK],fun _=>by simp[Builtin.lenOf]⟩
 ·rename_i cs len;split at hsrc
  ·rename_i hcl;cases hsrc;simp[lenF] at hl;subst hl;simp only[VRel,CV.rep] at hr;rcases hr with ⟨rfl,rfl,rfl⟩ | ⟨ad,cap,rfl,_,hreps⟩
   ·exact ⟨[],fun _ _=>by simp[Builtin.firstCells],by simp[QK],fun _=>by simp[Builtin.lenOf]⟩
   ·obtain ⟨vs,h1,h2,h3⟩:=LA hreps;refine ⟨vs,fun w1 hw=>?_,h2,fun _=>by simp[Builtin.lenOf]⟩;simp only[Builtin.firstCells];rw[← hcl,← h1];exact run_loadCells_list w1 ad vs fun j v hj=>by rw[hcell w1 hw];simpa using h3 j v hj
  ·cases hsrc
 ·rename_i l off len e;split at hsrc
  ·rename_i he;subst he;simp only[QB] at hsrc;obtain ⟨cs,hcs,hsrc⟩:=hsrc;split at hsrc
   ·rename_i hle;cases hsrc;simp[lenF] at hl;subst hl;simp only[VRel] at hr;obtain ⟨b,cap,hb,rfl,_⟩:=hr;obtain ⟨b',c,ty,h1,_,h2,h3,h4⟩:=h.row hcs;rw[hb] at h1;cases h1;obtain ⟨vs,hlv,hrv,hc⟩:=JS h2 h4 h3 hle;refine ⟨vs,fun w1 hw=>?_,hrv,fun _=>by simp[Builtin.lenOf]⟩;simp only[Builtin.firstCells];rw[← hlv];exact run_loadCells_list w1 _ vs fun j v hj=>by rw[hcell w1 hw];exact hc j v hj
   ·cases hsrc
  ·cases hsrc
 ·rename_i s;split at hsrc
  ·cases hsrc;simp[lenF] at hl;subst hl;obtain rfl:=hr.str;refine ⟨s.data.toList.map fun b=>Value.int .u8 b.toNat,fun w1 hw=>?_,QK.map_bytes _,fun _=>by simp[Builtin.lenOf]⟩;simp only[Builtin.firstCells,Sem.run_pure];congr 1;have:s.extract 0 s.size=s:=by
    apply ByteArray.ext;simp[ByteArray.data_extract]
   rw[this];apply Array.ext';simp
  ·cases hsrc
 ·rename_i l off len cap0 e;split at hsrc
  ·rename_i he;subst he;simp only[QB] at hsrc;obtain ⟨cs,hcs,hsrc⟩:=hsrc;split at hsrc
   ·rename_i hle;cases hsrc;simp[lenF] at hl;subst hl;simp only[VRel] at hr;obtain ⟨b,hb,rfl,_⟩:=hr;obtain ⟨b',c,ty,h1,_,h2,h3,h4⟩:=h.row hcs;rw[hb] at h1;cases h1;obtain ⟨vs,hlv,hrv,hc⟩:=JS h2 h4 h3 hle;refine ⟨vs,fun w1 hw=>?_,hrv,fun _=>by simp[Builtin.lenOf]⟩;simp only[Builtin.firstCells];rw[← hlv];exact run_loadCells_list w1 _ vs fun j v hj=>by rw[hcell w1 hw];exact hc j v hj
   ·cases hsrc
  ·cases hsrc
 ·cases hsrc
theorem Mono.of_heap {w1:World} (hw:w1.heap=w.heap):Mono m X w m X w1 :=
 ⟨fun _ _ h=>h,fun b hb _=>⟨by rw[hw],hb⟩,fun b c e h=>⟨c,by rw[hw];exact h,rfl⟩⟩
theorem HRel.of_heap (h:HRel m X σ w) {w1:World} (hw:w1.heap=w.heap):HRel m X σ w1 :=
 ⟨fun b hb=>by rw[hw];exact h.xb b hb,fun l b hl=>by rw[hw];exact h.dom l b hl,h.own,h.inj,fun l o ho=>by
  have:=h.obj l o ho;cases hml:m l with
  | none=>rw[hml] at this;cases o <;> simp[ORel] at this ⊢
  | some b=>rw[hml] at this;exact ORel.mono (Mono.of_heap hw) (by rw[hw]) this,h.gl.mono (Mono.of_heap hw)⟩
theorem Step.of_heap {n0:Nat} {w1:World} (hw:w1.heap=w.heap) (ho:w1.os=w.os) (ht:w1.tape=w.tape) (hp:w1.output=w.output) (hd:w.drawn≤w1.drawn):Step n0 m X w m w1 :=
 ⟨fun _ _=>rfl,fun l b h=>.inl ⟨l,h⟩,by rw[hw];exact QG _,fun _ _ _=>by rw[hw],fun b c e h=>⟨c,by rw[hw];exact h,rfl⟩,ho,ht,hp,fun _=>hd⟩
theorem AY:∀ (r new c:Nat),c<new→Builtin.growBy new r c≤new+(new+768) / 4
 | 0,new,c,h=>by simp[Builtin.growBy];omega
 | r + 1,new,c,h=>by
  simp only[Builtin.growBy];split
  ·omega
  ·by_cases hc:c+(c+768) / 4<new
   ·exact AY r new _ hc
   ·have:∀ r',Builtin.growBy new r' (c+(c+768) / 4)=c+(c+768) / 4:=by
     intro r';cases r' with
     | zero=>rfl
     | succ r'=>simp only[Builtin.growBy];rw[if_pos (by omega)]
    rw[this];omega
theorem Qci (need old:Nat) (h:old<need):Builtin.nextslicecap need old≤2*need+192:=by
 unfold Builtin.nextslicecap;split
 ·omega
 ·split
  ·omega
  ·have:=AY 4 need old h;omega
theorem KP (need old:Nat) (e:TypeId) (t:Nat):need≤(Question.appendCap need old e).cut t:=by
 simp[Question.cut]
theorem ORel.new' {m':LM} {w':World} {b:Nat} {c:Array Value} {t:TypeId} {cs:List AV} {vs rest:List Value} (hb:w'.heap[b]? = some (.cells c t)) (hc:c.toList=vs++rest) (hr:QK m' X w' cs vs):ORel m' X w' (some b) (.cells cs):=by
 simp only[ORel];have hl:=hr.length;have hs:c.size=vs.length+rest.length:=by rw[← Array.length_toList,hc,QM]
 exact ⟨c,t,hb,by omega,by rw[hl,hc,List.take_left'];exact hr;rfl⟩
theorem NA (n:Nat) (h:n≤2 ^ 44):¬ ((n:Int)>IntKind.i64.max):=by
 simp[IntKind.max,IntKind.signed,IntKind.bits];omega
theorem DU {need old bytes:Nat} (h:old<need) (hb:need*bytes≤2 ^ 44) (hb0:bytes≤2 ^ 24):¬ (Builtin.nextslicecap need old*bytes>2 ^ 48):=by
 have h1:=Qci need old h;have h2:Builtin.nextslicecap need old*bytes≤(2*need+192)*bytes:=YQ _ h1;have h3:(2*need+192)*bytes=2*(need*bytes)+192*bytes:=by rw[WP,Nat.mul_assoc]
 omega
theorem SH {st xt ty e e':TypeId} {i:TypeInfo} {z:Value} {x y:Value} {avs:List AV} (h:HRel m X σ w) (hu:P.underlying st=some (.slice e)) (hxu:P.underlying xt=some (.slice e')) (hi:P.info? e=some i) (hz:i.zero=some z)
  (hsz:z.cells.size=i.size) (hpos:0<i.size) (hby:i.bytes≤2 ^ 24) (ha:QK m X w avs [x,y]) (hs:ZX i.size i.bytes avs σ=some (r,σ')):YP P (do pure (.value (← Builtin.append_ #[st,xt] ty #[x,y]))) m X σ w r σ':=by
 have hzs:∀ k,(Builtin.zeroCells z.cells k).size=k*i.size:=by intro k;simp[Builtin.zeroCells,hsz]
 unfold ZX at hs;split at hs
 ·rename_i a;obtain ⟨x',us,hx,hr,hus⟩:=ha.cons;obtain ⟨y',hy,hra⟩:=hus.one;subst hy;cases hx;obtain rfl:=hr.nils;simp only[QB] at hs;obtain ⟨new,hnew,n,hn,hs⟩:=hs;obtain ⟨vs,hv1,hv2,hv3⟩:=HZ (P:=P) h hra hnew hn;split at hs
  ·rename_i h0;subst h0;cases hs;refine ZG h (v:=.slice none 0 0) ?_ (by simp[VRel,CV.rep]);simp only[Builtin.append_,WG,List.getElem?_cons_zero,List.getElem?_cons_succ,Sem.run_bind,QY hu,Result.andThen_ok,YK hi,QY hxu,Sem.run_pure,QT,if_false,hv3,ZV,QG,if_true,ZY,hv1 w rfl,Sem.run_pure]
  ·rename_i h0;split at hs
   ·rename_i hc;cases hs;obtain ⟨hl,hb,hn44,hsc⟩:=hc;have hlen:=hv2.length;have hd:HRel m X σ w.drew:=h.of_heap rfl;have hv2d:QK m X w.drew new vs:=hv2.mono (Mono.of_heap (w:=w) (w1:=w.drew) rfl) _ _;have hf0:∀ w1:World,(Builtin.firstCells i.size 0 (.slice none 0 0)).run P w1=.ok #[] w1:=fun _=>by simp[Builtin.firstCells]
    obtain ⟨cap,hcap⟩:∃ cap,cap=(Question.appendCap n 0 e).cut (w.tape w.drawn (.appendCap n 0 e)):=⟨_,rfl⟩;have hle:n≤cap:=by rw[hcap];exact KP _ _ _ _
    obtain ⟨h1,h2,h3⟩:=hd.alloc (.cells (#[]++vs.toArray++Builtin.zeroCells z.cells (cap-n)) e) (.cells new)
     (fun hm=>ORel.new' (heap_alloc_new _ _) (vs:=vs) (rest:=(Builtin.zeroCells z.cells (cap-n)).toList) (by simp) (hv2d.mono hm _ _))
    refine W7 (v:=.slice (some ⟨w.heap.size,0,none⟩) n cap) ?_ ?_ h1 (Step.trans (Step.of_heap (w1:=w.drew) rfl rfl rfl rfl (XE _)) h2)
    ·simp only[Builtin.append_,WG,List.getElem?_cons_zero,List.getElem?_cons_succ,Sem.run_bind,QY hu,Result.andThen_ok,YK hi,QY hxu,Sem.run_pure,QT,if_false,hv3,ZV,Nat.le_zero,h0,YI hi,ZY,if_true];rw[if_neg (fun hh=>NA n hn44 hh.1)];simp only[Sem.run_bind,YI hi,Result.andThen_ok];rw[if_neg (DU (by omega) hb hby)];simp only[Sem.run_bind,run_choose,Question.forced,QT,if_false,Result.andThen_ok,YI hi,run_askRoom,hf0,Sem.run_pure,hv1 w.drew rfl,GV hi hz,← hcap,World.drew_eq];simp[newRow]
    ·simp only[VRel];refine ⟨w.heap.size,cap,LM.put_same _ _ _,rfl,hle,_,e,heap_alloc_new w.drew _,?_⟩;have:(cap-n)*i.size+n*i.size=cap*i.size:=by rw[← WP];congr 1;omega
     simp[hzs];omega
   ·cases hs
 ·rename_i l len e1 a;obtain ⟨x',us,hx,hr,hus⟩:=ha.cons;obtain ⟨y',hy,hra⟩:=hus.one;subst hy;cases hx;simp only[VRel] at hr;obtain ⟨b,cap,hb,rfl,hlc,c,ty',hb0,hcz⟩:=hr;simp only[QB] at hs;obtain ⟨cs,hcs,new,hnew,n,hn,hs⟩:=hs;obtain ⟨vs,hv1,hv2,hv3⟩:=HZ (P:=P) h hra hnew hn;split at hs
  ·rename_i hc;cases hs;obtain ⟨rfl,hle,hl,hbb,hn44,hsc⟩:=hc;have hlen:=hv2.length;obtain ⟨b',c1,ty1,h1,hlobj,h2,h3,h4⟩:=h.row hcs;rw[hb] at h1;cases h1;obtain ⟨rfl,rfl⟩:c=c1∧ty'=ty1:=by rw[h2] at hb0;cases hb0;exact ⟨rfl,rfl⟩
   clear hb0;have hone:=hv2.one_cells hsc;obtain ⟨old,hol,hor,hoc⟩:=JS h2 h4 h3 (off:=0) (n:=len*i.size) (by omega);have holc:old=c.toList.take (len*i.size):=by
    apply Z1;intro j;by_cases hj:j<len*i.size
    ·have hjo:j<old.length:=by omega
     have:=hoc j _ (QI hjo);rw[JB,F7 h2] at this;rw[QI hjo,Z7,if_pos hj];simpa using this.symm
    ·rw[QN (by omega),QN (by simp;omega)]
   by_cases hcap:len+n≤cap
   · -- IN PLACE
    have hsize:0+len*i.size+vs.length≤c.size:=by have:(len+n)*i.size≤cap*i.size:=YQ _ hcap;rw[WP] at this;omega
    have hrun:=run_storeCells_at P b (0+len*i.size) ty' vs 0 c w h2 (by omega) hone;simp only[Nat.add_zero] at hrun;obtain ⟨c',hc'⟩:∃ c',c'=(c.toList.take (0+len*i.size)++vs++c.toList.drop (0+len*i.size+vs.length)).toArray:=⟨_,rfl⟩;rw[← hc'] at hrun;have hcs':c'.size=c.size:=by rw[hc'];simp;omega
    have ht:=YZ.row w c' h2 hcs';obtain ⟨g1,g2,g3⟩:=h.turn hb hlobj trivial ht (o':=.dead) (fun _=>trivial);have hdead:∀ x o,m x=some b→(σ.set l .dead)[x]? = some o→¬ o.live:=by
     intro x o hx ho hv;rw[ZO] at ho;split at ho
     ·split at ho
      ·cases ho;exact hv
      ·cases ho
     ·rename_i hne;exact hne (h.inj2 l x b _ o hb hx hlobj ho trivial hv)
    obtain ⟨k1,k2,k3⟩:=g1.adopt (ao:=.cells (cs.take (len*i.size)++new)) hb (h.own l b _ hb hlobj trivial) hdead (fun hm=>by refine ORel.new' (setRow_heap w b c c' ty' (0,0) h2) (vs:=old++vs) (rest:=c.toList.drop (0+len*i.size+vs.length)) (by rw[hc',holc];simp) ?_;refine QK.append (((?_:QK m X w (cs.take (len*i.size)) old).mono g3 _ _).mono hm _ _) ((hv2.mono g3 _ _).mono hm _ _);simpa using hor)
    simp only[WE] at k1 k2 k3;refine W7 (v:=.slice (some ⟨b,0,none⟩) (len+n) cap) ?_ ?_ k1 (Step.trans g2 k2)
    ·simp only[Builtin.append_,WG,List.getElem?_cons_zero,List.getElem?_cons_succ,Sem.run_bind,QY hu,Result.andThen_ok,YK hi,QY hxu,Sem.run_pure,QT,if_false,hv3,hcap,if_true,ZY,hv1 w rfl,Sem.run_pure,JB,hrun]
    ·simp only[VRel];exact ⟨b,cap,LM.put_same _ _ _,rfl,hcap,c',ty',setRow_heap w b c c' ty' (0,0) h2,by rw[hcs'];omega⟩
   · -- A NEW ROW
    have hd:HRel m X (σ.set l .dead) w.drew:=(h.kill l).of_heap rfl;have hv2d:QK m X w.drew (cs.take (len*i.size)++new) (old++vs):=(QK.append (by simpa using hor) hv2:QK m X w _ _).mono (Mono.of_heap (w:=w) (w1:=w.drew) rfl) _ _;obtain ⟨nc,hnc⟩:∃ nc,nc=(Question.appendCap (len+n) cap e).cut (w.tape w.drawn (.appendCap (len+n) cap e)):=⟨_,rfl⟩;have hle':len+n≤nc:=by rw[hnc];exact KP _ _ _ _
    obtain ⟨h1,h2',h3'⟩:=hd.alloc (.cells (old.toArray++vs.toArray++Builtin.zeroCells z.cells (nc-(len+n))) e) (.cells (cs.take (len*i.size)++new))
     (fun hm=>ORel.new' (heap_alloc_new _ _) (vs:=old++vs) (rest:=(Builtin.zeroCells z.cells (nc-(len+n))).toList) (by simp) (hv2d.mono hm _ _))
    simp only[WE] at h1 h2' h3';refine W7 (v:=.slice (some ⟨w.heap.size,0,none⟩) (len+n) nc) ?_ ?_ h1 (Step.trans (Step.of_heap (w1:=w.drew) rfl rfl rfl rfl (XE _)) h2')
    ·have hfc:∀ w1:World,w1.heap=w.heap→(Builtin.firstCells i.size len (.slice (some ⟨b,0,none⟩) len cap)).run P w1=.ok old.toArray w1:=by
      intro w1 hw;simp only[Builtin.firstCells];rw[← hol];exact run_loadCells_list w1 _ old fun j v hj=>by have:=hoc j v hj;simpa[World.cell?,hw] using this
     simp only[Builtin.append_,WG,List.getElem?_cons_zero,List.getElem?_cons_succ,Sem.run_bind,QY hu,Result.andThen_ok,YK hi,QY hxu,Sem.run_pure,QT,if_false,hv3,hcap,YI hi,ZY,if_true];rw[if_neg (fun hh=>NA (len+n) hn44 hh.1)];simp only[Sem.run_bind,YI hi,Result.andThen_ok];rw[if_neg (DU (by omega) hbb hby)];simp only[Sem.run_bind,run_choose,Question.forced,QT,if_false,Result.andThen_ok,YI hi,run_askRoom,hfc w.drew rfl,hv1 w.drew rfl,GV hi hz,← hnc,World.drew_eq];simp[newRow]
    ·simp only[VRel];refine ⟨w.heap.size,nc,LM.put_same _ _ _,rfl,hle',_,e,heap_alloc_new w.drew _,?_⟩;have e1:(nc-(len+n))*i.size+(len+n)*i.size=nc*i.size:=by rw[← WP];congr 1;omega
     rw[WP] at e1;simp[hzs,hol];omega
  ·cases hs
 ·rename_i l off len cap e1 a;obtain ⟨x',us,hx,hr,hus⟩:=ha.cons;obtain ⟨y',hy,hra⟩:=hus.one;subst hy;cases hx;simp only[VRel] at hr;obtain ⟨b,hb,rfl,hlc,c,ty',hb0,hcz⟩:=hr;simp only[QB] at hs;obtain ⟨cs,hcs,new,hnew,n,hn,hs⟩:=hs;obtain ⟨vs,hv1,hv2,hv3⟩:=HZ (P:=P) h hra hnew hn;obtain ⟨b',c1,ty1,h1,hlobj,h2,h3,h4⟩:=h.row hcs;rw[hb] at h1;cases h1;obtain ⟨rfl,rfl⟩:c=c1∧ty'=ty1:=by rw[h2] at hb0;cases hb0;exact ⟨rfl,rfl⟩
  clear hb0;have hlen:=hv2.length;split at hs
  ·rename_i hcap;split at hs
   ·rename_i hc;cases hs;obtain ⟨rfl,hle,hl,hsc⟩:=hc;have hone:=hv2.one_cells hsc;rw[WP] at hle;have hfit:off+len*i.size+vs.length≤c.size:=by omega
    have hrun:=run_storeCells_at P b (off+len*i.size) ty' vs 0 c w h2 (by simpa using hfit) hone;simp only[Nat.add_zero] at hrun;rw[← KG _ _ _ (by simpa using hfit)] at hrun;have ht:YZ w (w.setRow b (setRange c.toList (off+len*i.size) vs).toArray) b:=YZ.row w _ h2 (by simp[Z5]);obtain ⟨g1,g2,g3⟩:=h.turn hb hlobj trivial ht (o':=.cells (setRange cs (off+len*i.size) new)) (fun hm=>by simp only[ORel];refine ⟨_,ty',setRow_heap w b c _ ty' (0,0) h2,by simp[Z5];exact h3,?_⟩;rw[Z5];simp only[List.toList_toArray,V5];exact ((h4.setRange _ hv2).mono hm _ _))
    refine W7 (v:=.slice (some ⟨b,off,none⟩) (len+n) cap) ?_ ?_ g1 g2
    ·simp only[Builtin.append_,WG,List.getElem?_cons_zero,List.getElem?_cons_succ,Sem.run_bind,QY hu,Result.andThen_ok,YK hi,QY hxu,Sem.run_pure,QT,if_false,hv3,hcap,if_true,ZY,hv1 w rfl,Sem.run_pure,JB,hrun]
    ·simp only[VRel];exact ⟨b,hb,rfl,hcap,_,ty',setRow_heap w b c _ ty' (0,0) h2,by simp[Z5];omega⟩
   ·cases hs
  ·rename_i hcap;split at hs
   ·rename_i hc;cases hs;obtain ⟨rfl,hle,hl,hbb,hn44,hsc⟩:=hc;obtain ⟨old,hol,hor,hoc⟩:=JS h2 h4 h3 (off:=off) (n:=len*i.size) (by omega);have hd:HRel m X σ w.drew:=h.of_heap rfl;have hv2d:QK m X w.drew ((cs.drop off).take (len*i.size)++new) (old++vs):=(QK.append hor hv2:QK m X w _ _).mono (Mono.of_heap (w:=w) (w1:=w.drew) rfl) _ _;obtain ⟨nc,hnc⟩:∃ nc,nc=(Question.appendCap (len+n) cap e).cut (w.tape w.drawn (.appendCap (len+n) cap e)):=⟨_,rfl⟩;have hle':len+n≤nc:=by rw[hnc];exact KP _ _ _ _
    obtain ⟨h1,h2',h3'⟩:=hd.alloc (.cells (old.toArray++vs.toArray++Builtin.zeroCells z.cells (nc-(len+n))) e) (.cells ((cs.drop off).take (len*i.size)++new))
     (fun hm=>ORel.new' (heap_alloc_new _ _) (vs:=old++vs) (rest:=(Builtin.zeroCells z.cells (nc-(len+n))).toList) (by simp) (hv2d.mono hm _ _))
    refine W7 (v:=.slice (some ⟨w.heap.size,0,none⟩) (len+n) nc) ?_ ?_ h1 (Step.trans (Step.of_heap (w1:=w.drew) rfl rfl rfl rfl (XE _)) h2')
    ·have hfc:∀ w1:World,w1.heap=w.heap→(Builtin.firstCells i.size len (.slice (some ⟨b,off,none⟩) len cap)).run P w1=.ok old.toArray w1:=by
      intro w1 hw;simp only[Builtin.firstCells];rw[← hol];exact run_loadCells_list w1 _ old fun j v hj=>by have:=hoc j v hj;simpa[World.cell?,hw] using this
     simp only[Builtin.append_,WG,List.getElem?_cons_zero,List.getElem?_cons_succ,Sem.run_bind,QY hu,Result.andThen_ok,YK hi,QY hxu,Sem.run_pure,QT,if_false,hv3,hcap,YI hi,ZY,if_true];rw[if_neg (fun hh=>NA (len+n) hn44 hh.1)];simp only[Sem.run_bind,YI hi,Result.andThen_ok];rw[if_neg (DU (by omega) hbb hby)];simp only[Sem.run_bind,run_choose,Question.forced,QT,if_false,Result.andThen_ok,YI hi,run_askRoom,hfc w.drew rfl,hv1 w.drew rfl,GV hi hz,← hnc,World.drew_eq];simp[newRow]
    ·simp only[VRel];refine ⟨w.heap.size,nc,LM.put_same _ _ _,rfl,hle',_,e,heap_alloc_new w.drew _,?_⟩;have e1:(nc-(len+n))*i.size+(len+n)*i.size=nc*i.size:=by rw[← WP];congr 1;omega
     rw[WP] at e1;simp[hzs,hol];omega
   ·cases hs
 ·cases hs
theorem BO {st xt ty e:TypeId} {i:TypeInfo} {z:Value} {x y:Value} {avs:List AV} (h:HRel m X σ w) (hu:P.underlying st=some (.slice e)) (hxu:P.underlying xt=some .string) (hi:P.info? e=some i) (hz:i.zero=some z)
  (hsz:z.cells.size=i.size) (hpos:0<i.size) (hby:i.bytes≤2 ^ 24) (ha:QK m X w avs [x,y]) (hs:ZX i.size i.bytes avs σ=some (r,σ')):YP P (do pure (.value (← Builtin.append_ #[st,xt] ty #[x,y]))) m X σ w r σ':=by
 have hzs:∀ k,(Builtin.zeroCells z.cells k).size=k*i.size:=by intro k;simp[Builtin.zeroCells,hsz]
 unfold ZX at hs;split at hs
 ·rename_i a;obtain ⟨x',us,hx,hr,hus⟩:=ha.cons;obtain ⟨y',hy,hra⟩:=hus.one;subst hy;cases hx;obtain rfl:=hr.nils;simp only[QB] at hs;obtain ⟨new,hnew,n,hn,hs⟩:=hs;obtain ⟨vs,hv1,hv2,hv3⟩:=HZ (P:=P) h hra hnew hn;split at hs
  ·rename_i h0;subst h0;cases hs;refine ZG h (v:=.slice none 0 0) ?_ (by simp[VRel,CV.rep]);simp only[Builtin.append_,WG,List.getElem?_cons_zero,List.getElem?_cons_succ,Sem.run_bind,QY hu,Result.andThen_ok,YK hi,QY hxu,Sem.run_pure,QT,if_false,hv3,ZV,QG,if_true,ZY,hv1 w rfl,Sem.run_pure]
  ·rename_i h0;split at hs
   ·rename_i hc;cases hs;obtain ⟨hl,hb,hn44,hsc⟩:=hc;have hlen:=hv2.length;have hd:HRel m X σ w.drew:=h.of_heap rfl;have hv2d:QK m X w.drew new vs:=hv2.mono (Mono.of_heap (w:=w) (w1:=w.drew) rfl) _ _;have hf0:∀ w1:World,(Builtin.firstCells i.size 0 (.slice none 0 0)).run P w1=.ok #[] w1:=fun _=>by simp[Builtin.firstCells]
    obtain ⟨cap,hcap⟩:∃ cap,cap=(Question.appendCap n 0 e).cut (w.tape w.drawn (.appendCap n 0 e)):=⟨_,rfl⟩;have hle:n≤cap:=by rw[hcap];exact KP _ _ _ _
    obtain ⟨h1,h2,h3⟩:=hd.alloc (.cells (#[]++vs.toArray++Builtin.zeroCells z.cells (cap-n)) e) (.cells new)
     (fun hm=>ORel.new' (heap_alloc_new _ _) (vs:=vs) (rest:=(Builtin.zeroCells z.cells (cap-n)).toList) (by simp) (hv2d.mono hm _ _))
    refine W7 (v:=.slice (some ⟨w.heap.size,0,none⟩) n cap) ?_ ?_ h1 (Step.trans (Step.of_heap (w1:=w.drew) rfl rfl rfl rfl (XE _)) h2)
    ·simp only[Builtin.append_,WG,List.getElem?_cons_zero,List.getElem?_cons_succ,Sem.run_bind,QY hu,Result.andThen_ok,YK hi,QY hxu,Sem.run_pure,QT,if_false,hv3,ZV,Nat.le_zero,h0,YI hi,ZY,if_true];rw[if_neg (fun hh=>NA n hn44 hh.1)];simp only[Sem.run_bind,YI hi,Result.andThen_ok];rw[if_neg (DU (by omega) hb hby)];simp only[Sem.run_bind,run_choose,Question.forced,QT,if_false,Result.andThen_ok,YI hi,run_askRoom,hf0,Sem.run_pure,hv1 w.drew rfl,GV hi hz,← hcap,World.drew_eq];simp[newRow]
    ·simp only[VRel];refine ⟨w.heap.size,cap,LM.put_same _ _ _,rfl,hle,_,e,heap_alloc_new w.drew _,?_⟩;have:(cap-n)*i.size+n*i.size=cap*i.size:=by rw[← WP];congr 1;omega
     simp[hzs];omega
   ·cases hs
 ·rename_i l len e1 a;obtain ⟨x',us,hx,hr,hus⟩:=ha.cons;obtain ⟨y',hy,hra⟩:=hus.one;subst hy;cases hx;simp only[VRel] at hr;obtain ⟨b,cap,hb,rfl,hlc,c,ty',hb0,hcz⟩:=hr;simp only[QB] at hs;obtain ⟨cs,hcs,new,hnew,n,hn,hs⟩:=hs;obtain ⟨vs,hv1,hv2,hv3⟩:=HZ (P:=P) h hra hnew hn;split at hs
  ·rename_i hc;cases hs;obtain ⟨rfl,hle,hl,hbb,hn44,hsc⟩:=hc;have hlen:=hv2.length;obtain ⟨b',c1,ty1,h1,hlobj,h2,h3,h4⟩:=h.row hcs;rw[hb] at h1;cases h1;obtain ⟨rfl,rfl⟩:c=c1∧ty'=ty1:=by rw[h2] at hb0;cases hb0;exact ⟨rfl,rfl⟩
   clear hb0;have hone:=hv2.one_cells hsc;obtain ⟨old,hol,hor,hoc⟩:=JS h2 h4 h3 (off:=0) (n:=len*i.size) (by omega);have holc:old=c.toList.take (len*i.size):=by
    apply Z1;intro j;by_cases hj:j<len*i.size
    ·have hjo:j<old.length:=by omega
     have:=hoc j _ (QI hjo);rw[JB,F7 h2] at this;rw[QI hjo,Z7,if_pos hj];simpa using this.symm
    ·rw[QN (by omega),QN (by simp;omega)]
   by_cases hcap:len+n≤cap
   · -- IN PLACE
    have hsize:0+len*i.size+vs.length≤c.size:=by have:(len+n)*i.size≤cap*i.size:=YQ _ hcap;rw[WP] at this;omega
    have hrun:=run_storeCells_at P b (0+len*i.size) ty' vs 0 c w h2 (by omega) hone;simp only[Nat.add_zero] at hrun;obtain ⟨c',hc'⟩:∃ c',c'=(c.toList.take (0+len*i.size)++vs++c.toList.drop (0+len*i.size+vs.length)).toArray:=⟨_,rfl⟩;rw[← hc'] at hrun;have hcs':c'.size=c.size:=by rw[hc'];simp;omega
    have ht:=YZ.row w c' h2 hcs';obtain ⟨g1,g2,g3⟩:=h.turn hb hlobj trivial ht (o':=.dead) (fun _=>trivial);have hdead:∀ x o,m x=some b→(σ.set l .dead)[x]? = some o→¬ o.live:=by
     intro x o hx ho hv;rw[ZO] at ho;split at ho
     ·split at ho
      ·cases ho;exact hv
      ·cases ho
     ·rename_i hne;exact hne (h.inj2 l x b _ o hb hx hlobj ho trivial hv)
    obtain ⟨k1,k2,k3⟩:=g1.adopt (ao:=.cells (cs.take (len*i.size)++new)) hb (h.own l b _ hb hlobj trivial) hdead (fun hm=>by refine ORel.new' (setRow_heap w b c c' ty' (0,0) h2) (vs:=old++vs) (rest:=c.toList.drop (0+len*i.size+vs.length)) (by rw[hc',holc];simp) ?_;refine QK.append (((?_:QK m X w (cs.take (len*i.size)) old).mono g3 _ _).mono hm _ _) ((hv2.mono g3 _ _).mono hm _ _);simpa using hor)
    simp only[WE] at k1 k2 k3;refine W7 (v:=.slice (some ⟨b,0,none⟩) (len+n) cap) ?_ ?_ k1 (Step.trans g2 k2)
    ·simp only[Builtin.append_,WG,List.getElem?_cons_zero,List.getElem?_cons_succ,Sem.run_bind,QY hu,Result.andThen_ok,YK hi,QY hxu,Sem.run_pure,QT,if_false,hv3,hcap,if_true,ZY,hv1 w rfl,Sem.run_pure,JB,hrun]
    ·simp only[VRel];exact ⟨b,cap,LM.put_same _ _ _,rfl,hcap,c',ty',setRow_heap w b c c' ty' (0,0) h2,by rw[hcs'];omega⟩
   · -- A NEW ROW
    have hd:HRel m X (σ.set l .dead) w.drew:=(h.kill l).of_heap rfl;have hv2d:QK m X w.drew (cs.take (len*i.size)++new) (old++vs):=(QK.append (by simpa using hor) hv2:QK m X w _ _).mono (Mono.of_heap (w:=w) (w1:=w.drew) rfl) _ _;obtain ⟨nc,hnc⟩:∃ nc,nc=(Question.appendCap (len+n) cap e).cut (w.tape w.drawn (.appendCap (len+n) cap e)):=⟨_,rfl⟩;have hle':len+n≤nc:=by rw[hnc];exact KP _ _ _ _
    obtain ⟨h1,h2',h3'⟩:=hd.alloc (.cells (old.toArray++vs.toArray++Builtin.zeroCells z.cells (nc-(len+n))) e) (.cells (cs.take (len*i.size)++new))
     (fun hm=>ORel.new' (heap_alloc_new _ _) (vs:=old++vs) (rest:=(Builtin.zeroCells z.cells (nc-(len+n))).toList) (by simp) (hv2d.mono hm _ _))
    simp only[WE] at h1 h2' h3';refine W7 (v:=.slice (some ⟨w.heap.size,0,none⟩) (len+n) nc) ?_ ?_ h1 (Step.trans (Step.of_heap (w1:=w.drew) rfl rfl rfl rfl (XE _)) h2')
    ·have hfc:∀ w1:World,w1.heap=w.heap→(Builtin.firstCells i.size len (.slice (some ⟨b,0,none⟩) len cap)).run P w1=.ok old.toArray w1:=by
      intro w1 hw;simp only[Builtin.firstCells];rw[← hol];exact run_loadCells_list w1 _ old fun j v hj=>by have:=hoc j v hj;simpa[World.cell?,hw] using this
     simp only[Builtin.append_,WG,List.getElem?_cons_zero,List.getElem?_cons_succ,Sem.run_bind,QY hu,Result.andThen_ok,YK hi,QY hxu,Sem.run_pure,QT,if_false,hv3,hcap,YI hi,ZY,if_true];rw[if_neg (fun hh=>NA (len+n) hn44 hh.1)];simp only[Sem.run_bind,YI hi,Result.andThen_ok];rw[if_neg (DU (by omega) hbb hby)];simp only[Sem.run_bind,run_choose,Question.forced,QT,if_false,Result.andThen_ok,YI hi,run_askRoom,hfc w.drew rfl,hv1 w.drew rfl,GV hi hz,← hnc,World.drew_eq];simp[newRow]
    ·simp only[VRel];refine ⟨w.heap.size,nc,LM.put_same _ _ _,rfl,hle',_,e,heap_alloc_new w.drew _,?_⟩;have e1:(nc-(len+n))*i.size+(len+n)*i.size=nc*i.size:=by rw[← WP];congr 1;omega
     rw[WP] at e1;simp[hzs,hol];omega
  ·cases hs
 ·rename_i l off len cap e1 a;obtain ⟨x',us,hx,hr,hus⟩:=ha.cons;obtain ⟨y',hy,hra⟩:=hus.one;subst hy;cases hx;simp only[VRel] at hr;obtain ⟨b,hb,rfl,hlc,c,ty',hb0,hcz⟩:=hr;simp only[QB] at hs;obtain ⟨cs,hcs,new,hnew,n,hn,hs⟩:=hs;obtain ⟨vs,hv1,hv2,hv3⟩:=HZ (P:=P) h hra hnew hn;obtain ⟨b',c1,ty1,h1,hlobj,h2,h3,h4⟩:=h.row hcs;rw[hb] at h1;cases h1;obtain ⟨rfl,rfl⟩:c=c1∧ty'=ty1:=by rw[h2] at hb0;cases hb0;exact ⟨rfl,rfl⟩
  clear hb0;have hlen:=hv2.length;split at hs
  ·rename_i hcap;split at hs
   ·rename_i hc;cases hs;obtain ⟨rfl,hle,hl,hsc⟩:=hc;have hone:=hv2.one_cells hsc;rw[WP] at hle;have hfit:off+len*i.size+vs.length≤c.size:=by omega
    have hrun:=run_storeCells_at P b (off+len*i.size) ty' vs 0 c w h2 (by simpa using hfit) hone;simp only[Nat.add_zero] at hrun;rw[← KG _ _ _ (by simpa using hfit)] at hrun;have ht:YZ w (w.setRow b (setRange c.toList (off+len*i.size) vs).toArray) b:=YZ.row w _ h2 (by simp[Z5]);obtain ⟨g1,g2,g3⟩:=h.turn hb hlobj trivial ht (o':=.cells (setRange cs (off+len*i.size) new)) (fun hm=>by simp only[ORel];refine ⟨_,ty',setRow_heap w b c _ ty' (0,0) h2,by simp[Z5];exact h3,?_⟩;rw[Z5];simp only[List.toList_toArray,V5];exact ((h4.setRange _ hv2).mono hm _ _))
    refine W7 (v:=.slice (some ⟨b,off,none⟩) (len+n) cap) ?_ ?_ g1 g2
    ·simp only[Builtin.append_,WG,List.getElem?_cons_zero,List.getElem?_cons_succ,Sem.run_bind,QY hu,Result.andThen_ok,YK hi,QY hxu,Sem.run_pure,QT,if_false,hv3,hcap,if_true,ZY,hv1 w rfl,Sem.run_pure,JB,hrun]
    ·simp only[VRel];exact ⟨b,hb,rfl,hcap,_,ty',setRow_heap w b c _ ty' (0,0) h2,by simp[Z5];omega⟩
   ·cases hs
  ·rename_i hcap;split at hs
   ·rename_i hc;cases hs;obtain ⟨rfl,hle,hl,hbb,hn44,hsc⟩:=hc;obtain ⟨old,hol,hor,hoc⟩:=JS h2 h4 h3 (off:=off) (n:=len*i.size) (by omega);have hd:HRel m X σ w.drew:=h.of_heap rfl;have hv2d:QK m X w.drew ((cs.drop off).take (len*i.size)++new) (old++vs):=(QK.append hor hv2:QK m X w _ _).mono (Mono.of_heap (w:=w) (w1:=w.drew) rfl) _ _;obtain ⟨nc,hnc⟩:∃ nc,nc=(Question.appendCap (len+n) cap e).cut (w.tape w.drawn (.appendCap (len+n) cap e)):=⟨_,rfl⟩;have hle':len+n≤nc:=by rw[hnc];exact KP _ _ _ _
    obtain ⟨h1,h2',h3'⟩:=hd.alloc (.cells (old.toArray++vs.toArray++Builtin.zeroCells z.cells (nc-(len+n))) e) (.cells ((cs.drop off).take (len*i.size)++new))
     (fun hm=>ORel.new' (heap_alloc_new _ _) (vs:=old++vs) (rest:=(Builtin.zeroCells z.cells (nc-(len+n))).toList) (by simp) (hv2d.mono hm _ _))
    refine W7 (v:=.slice (some ⟨w.heap.size,0,none⟩) (len+n) nc) ?_ ?_ h1 (Step.trans (Step.of_heap (w1:=w.drew) rfl rfl rfl rfl (XE _)) h2')
    ·have hfc:∀ w1:World,w1.heap=w.heap→(Builtin.firstCells i.size len (.slice (some ⟨b,off,none⟩) len cap)).run P w1=.ok old.toArray w1:=by
      intro w1 hw;simp only[Builtin.firstCells];rw[← hol];exact run_loadCells_list w1 _ old fun j v hj=>by have:=hoc j v hj;simpa[World.cell?,hw] using this
     simp only[Builtin.append_,WG,List.getElem?_cons_zero,List.getElem?_cons_succ,Sem.run_bind,QY hu,Result.andThen_ok,YK hi,QY hxu,Sem.run_pure,QT,if_false,hv3,hcap,YI hi,ZY,if_true];rw[if_neg (fun hh=>NA (len+n) hn44 hh.1)];simp only[Sem.run_bind,YI hi,Result.andThen_ok];rw[if_neg (DU (by omega) hbb hby)];simp only[Sem.run_bind,run_choose,Question.forced,QT,if_false,Result.andThen_ok,YI hi,run_askRoom,hfc w.drew rfl,hv1 w.drew rfl,GV hi hz,← hnc,World.drew_eq];simp[newRow]
    ·simp only[VRel];refine ⟨w.heap.size,nc,LM.put_same _ _ _,rfl,hle',_,e,heap_alloc_new w.drew _,?_⟩;have e1:(nc-(len+n))*i.size+(len+n)*i.size=nc*i.size:=by rw[← WP];congr 1;omega
     rw[WP] at e1;simp[hzs,hol];omega
   ·cases hs
 ·cases hs
theorem Qb0 {st xt ty e:TypeId} {kn:IntKind} {i:TypeInfo} {z:Value} {x y:Value} {avs:List AV} (h:HRel m X σ w) (hu:P.underlying st=some (.slice e)) (hxu:P.underlying xt=some (.int kn)) (hi:P.info? e=some i) (hz:i.zero=some z)
  (hsz:z.cells.size=i.size) (hpos:0<i.size) (hby:i.bytes≤2 ^ 24) (ha:QK m X w avs [x,y]) (hs:VQ i.size i.bytes (z.cells.toList.map WC) avs σ=some (r,σ')):YP P (do pure (.value (← Builtin.append_ #[st,xt] ty #[x,y]))) m X σ w r σ':=by
 have hzs:∀ k,(Builtin.zeroCells z.cells k).size=k*i.size:=by intro k;simp[Builtin.zeroCells,hsz]
 unfold VQ at hs;split at hs
 ·rename_i l off len cap e1 kq nn;obtain ⟨x',us,hx,hr,hus⟩:=ha.cons;obtain ⟨y',hy,hra⟩:=hus.one;subst hy;cases hx;obtain rfl:=hra.int;simp only[VRel] at hr;obtain ⟨b,hb,rfl,hlc,c,ty',hb0,hcz⟩:=hr;simp only[QB] at hs;obtain ⟨cs,hcs,hs⟩:=hs;split at hs
  ·rename_i hc;cases hs;obtain ⟨hn0,hcap,rfl,hle,hbb,hn44⟩:=hc;obtain ⟨n,rfl⟩:∃ n:Nat,nn=n:=⟨nn.toNat,by omega⟩;simp only[Int.toNat_natCast] at hcap hbb hn44 ⊢;obtain ⟨b',c1,ty1,h1,hlobj,h2,h3,h4⟩:=h.row hcs;rw[hb] at h1;cases h1;obtain ⟨old,hol,hor,hoc⟩:=JS h2 h4 h3 (off:=off) (n:=len*i.size) (by omega);have hd:HRel m X σ w.drew:=h.of_heap rfl;have hz0:QK m X w (YW n (z.cells.toList.map WC)) (Builtin.zeroCells z.cells n).toList:=by
    have:=FL (m:=m) (X:=X) (w:=w) n z.cells;simpa[Builtin.zeroCells] using this
   have hv2d:QK m X w.drew ((cs.drop off).take (len*i.size)++YW n (z.cells.toList.map WC)) (old++(Builtin.zeroCells z.cells n).toList):=(QK.append hor hz0:QK m X w _ _).mono (Mono.of_heap (w:=w) (w1:=w.drew) rfl) _ _;have hle':len+n≤Go.grownCap w (len+n) cap e:=KP _ _ _ _;generalize hnc:Go.grownCap w (len+n) cap e=nc at hle';obtain ⟨h1,h2',h3'⟩:=hd.alloc (.cells (old.toArray++Builtin.zeroCells z.cells n++Builtin.zeroCells z.cells (nc-(len+n))) e) (.cells ((cs.drop off).take (len*i.size)++YW n (z.cells.toList.map WC)))
    (fun hm=>ORel.new' (heap_alloc_new _ _) (vs:=old++(Builtin.zeroCells z.cells n).toList) (rest:=(Builtin.zeroCells z.cells (nc-(len+n))).toList) (by simp) (hv2d.mono hm _ _))
   have hfc:(Builtin.firstCells i.size len (.slice (some ⟨b,off,none⟩) len cap)).run P w.drew=.ok old.toArray w.drew:=by
    simp only[Builtin.firstCells];rw[← hol];exact run_loadCells_list w.drew _ old fun j v hj=>by have:=hoc j v hj;simpa[World.cell?,show w.drew.heap=w.heap from rfl] using this
   have e44:(2:Nat) ^ 44=17592186044416:=by decide
   have hnb:n*i.bytes≤(len+n)*i.bytes:=YQ _ (by omega);have hcm:=DU (need:=len+n) (old:=cap) (bytes:=i.bytes) (by omega) hbb hby;have e48:(2:Nat) ^ 48=281474976710656:=by decide
   have hrun:=Lib.run_append_grow_zeros w st xt ty e i z kq kn hu hxu hi hz (some ⟨b,off,none⟩) len cap old hfc n (by omega) hpos (by omega) (by omega) (by omega) (by omega);rw[hnc] at hrun;refine W7 (v:=.slice (some ⟨w.heap.size,0,none⟩) (len+n) nc) hrun ?_ h1 (Step.trans (Step.of_heap (w1:=w.drew) rfl rfl rfl rfl (XE _)) h2');simp only[VRel];refine ⟨w.heap.size,nc,LM.put_same _ _ _,rfl,hle',_,e,heap_alloc_new w.drew _,?_⟩;have e1:(nc-(len+n))*i.size+(len+n)*i.size=nc*i.size:=by rw[← WP];congr 1;omega
   rw[WP] at e1;simp[hzs,hol];omega
  ·cases hs
 ·cases hs
theorem S1 {t:TypeId} {i:TypeInfo} {z:Value} {place:Nat→Option (Nat × Nat)} {ps:List (Nat × Value)} {pl:List (Nat × Nat)} {avs:List AV} (h:HRel m X σ w) (hi:P.info? t=some i) (hz:i.zero=some z)
  (hrun:∀ cells:Array Value,Instr.fill place z.cells ps=some cells→(Instr.build t ps.toArray).run P w=.ok (.agg cells) w)
  (hpl:ps.mapM (fun p=>place p.1)=some pl) (ha:QK m X w avs (ps.map (·.2)))
  (hs:DL (cellsOf (VX z)) pl avs σ=some (r,σ')):YP P (do pure (.value (← Instr.build t ps.toArray))) m X σ w r σ':=by
 unfold DL at hs;simp only[QA] at hs;obtain ⟨cs,hf,he⟩:=hs;cases he;obtain ⟨out,ho,hr⟩:=P3 place ps pl avs _ cs z.cells hpl ha (SQ z) hf;exact ZG h (hrun out ho) (by simp only[VRel];exact ⟨out.toList,by simp,hr⟩)
theorem NV {α β:Type} (g:α→Sem β) (f:α→β) (w:World):∀ (l:List α),(∀ a∈l,(g a).run P w=.ok (f a) w)→(l.mapM g).run P w=.ok (l.map f) w
 | [],_=>by simp
 | a::l,h=>by simp[h a (by simp),NV g f w l fun b hb=>h b (by simp[hb])]
theorem OZ {t:TypeId} {fs:Array Field} {i:TypeInfo} {z:Value} (hu:P.underlying t=some (.struct fs)) (hi:P.info? t=some i) (hz:i.zero=some z) (hall:∀ f∈fs.toList,(P.info? f.type).isSome=true) {ps:List (Nat × Value)} {cells:Array Value}
  (hf:Instr.fill (fun k=>(fs[k]?).map fun (f:Field)=>(f.offset,P.cellsOf f.type)) z.cells ps=some cells):(Instr.build t ps.toArray).run P w=.ok (.agg cells) w:=by
 have hm:(fs.mapM fun (f:Field)=>do pure (f.offset,← sizeOf f.type)).run P w=.ok (fs.map fun (f:Field)=>(f.offset,P.cellsOf f.type)) w:=by
  rw[Array.mapM_eq_mapM_toList];simp only[Sem.run_map];rw[NV _ (fun f:Field=>(f.offset,P.cellsOf f.type)) w fs.toList (fun f hfm=>by obtain ⟨j,hj⟩:=Option.isSome_iff_exists.1 (hall f hfm);simp[YK hj,Program.cellsOf,hj])]
  simp only[Result.andThen_ok];congr 1;apply Array.ext';simp
 simp only[Instr.build,Sem.run_bind,GV hi hz,Result.andThen_ok,QY hu,hm];have e:(fun (x:Nat)=>(fs.map fun (f:Field)=>(f.offset,P.cellsOf f.type))[x]?)=(fun (k:Nat)=>(fs[k]?).map fun (f:Field)=>(f.offset,P.cellsOf f.type)):=by funext k;simp
 rw[e,hf];rfl
theorem MC {t e:TypeId} {n:Nat} {i j:TypeInfo} {z:Value} (hu:P.underlying t=some (.array n e)) (hi:P.info? t=some i) (hz:i.zero=some z) (hj:P.info? e=some j) {ps:List (Nat × Value)} {cells:Array Value}
  (hf:Instr.fill (fun k=>some (k*j.size,j.size)) z.cells ps=some cells):(Instr.build t ps.toArray).run P w=.ok (.agg cells) w:=by
 simp only[Instr.build,Sem.run_bind,GV hi hz,Result.andThen_ok,QY hu,YK hj,hf,Sem.run_pure]
theorem snd_copy {dt st ty e:TypeId} {i:TypeInfo} {x y:Value} {avs:List AV} (h:HRel m X σ w) (hu:P.underlying dt=some (.slice e)) (hi:P.info? e=some i) (ha:QK m X w avs [x,y])
  (hs:UE i.size avs σ=some (r,σ')):YP P (do pure (.value (← Builtin.copy_ #[dt,st] ty #[x,y]))) m X σ w r σ':=by
 unfold UE at hs;split at hs
 ·rename_i l off len e1 a;obtain ⟨x',us,hx,hr,hus⟩:=ha.cons;obtain ⟨y',hy,hra⟩:=hus.one;subst hy;cases hx;simp only[VRel] at hr;obtain ⟨b,cap,hb,rfl,hlc,c,ty',hb0,hcz⟩:=hr;simp only[QB] at hs;obtain ⟨cs,hcs,new,hnew,n,hn,hs⟩:=hs;split at hs
  ·rename_i hc;cases hs;obtain ⟨rfl,hle,hl,hsc⟩:=hc;obtain ⟨vs0,hv1,hv2,hv3⟩:=HZ (P:=P) h hra hnew hn;obtain ⟨b',c1,ty1,h1,hlobj,h2,h3,h4⟩:=h.row hcs;rw[hb] at h1;cases h1;obtain ⟨rfl,rfl⟩:c=c1∧ty'=ty1:=by rw[h2] at hb0;cases hb0;exact ⟨rfl,rfl⟩
   have hk:Nat.min n len*i.size≤new.length:=by rw[← hl];exact YQ _ (Nat.min_le_left _ _)
   have hfirst:∃ vs:List Value,(Builtin.firstCells i.size (Nat.min n len) y).run P w=.ok vs.toArray w∧QK m X w (new.take (Nat.min n len*i.size)) vs:=by
    unfold Z9 at hnew;split at hnew
    ·cases hnew;simp[lenF] at hn;subst hn;obtain rfl:=hra.nils;exact ⟨[],by simp[Builtin.firstCells],by simp[QK]⟩
    ·rename_i cs' len';split at hnew
     ·rename_i hcl;cases hnew;simp[lenF] at hn;subst hn;simp only[VRel,CV.rep] at hra;rcases hra with ⟨rfl,rfl,rfl⟩ | ⟨ad,cap',rfl,_,hreps⟩
      ·exact ⟨[],by simp[Builtin.firstCells],by simp[QK]⟩
      ·obtain ⟨vs,g1,g2,g3⟩:=LA (LB (Nat.min len' len*i.size) hreps);refine ⟨vs,?_,by rw[← List.map_take];exact g2⟩;simp only[Builtin.firstCells];have:vs.length=Nat.min len' len*i.size:=by rw[g1,List.length_take];simp at hk;omega
       rw[← this];exact run_loadCells_list w ad vs fun j v hj=>by simpa using g3 j v hj
     ·cases hnew
    ·rename_i l' off' len' e';split at hnew
     ·rename_i he;subst he;simp only[QB] at hnew;obtain ⟨cs',hcs',hnew⟩:=hnew;split at hnew
      ·rename_i hle';cases hnew;simp[lenF] at hn;subst hn;simp only[VRel] at hra;obtain ⟨b2,cap2,hb2,rfl,_⟩:=hra;obtain ⟨b3,c3,ty3,k1,_,k2,k3,k4⟩:=h.row hcs';rw[hb2] at k1;cases k1;have hmm:Nat.min len' len*i.size≤len'*i.size:=YQ _ (Nat.min_le_left _ _);obtain ⟨vs,hlv,hrv,hcc⟩:=JS k2 k4 k3 (off:=off') (n:=Nat.min len' len*i.size) (by omega);refine ⟨vs,?_,by rw[List.take_take,VD hmm];exact hrv⟩;simp only[Builtin.firstCells];rw[← hlv];exact run_loadCells_list w _ vs hcc
      ·cases hnew
     ·cases hnew
    ·rename_i s;split at hnew
     ·rename_i h1e;cases hnew;simp[lenF] at hn;subst hn;obtain rfl:=hra.str;rw[h1e] at *;refine ⟨(s.data.toList.take (Nat.min s.size len)).map fun b=>Value.int .u8 b.toNat,?_,?_⟩
      ·simp only[Builtin.firstCells,Sem.run_pure];congr 1;apply Array.ext';simp[ByteArray.data_extract]
      ·rw[W3,← List.map_take];exact QK.map_bytes _
     ·cases hnew
    ·rename_i l' off' len' cap' e';split at hnew
     ·rename_i he;subst he;simp only[QB] at hnew;obtain ⟨cs',hcs',hnew⟩:=hnew;split at hnew
      ·rename_i hle';cases hnew;simp[lenF] at hn;subst hn;simp only[VRel] at hra;obtain ⟨b2,hb2,rfl,_⟩:=hra;obtain ⟨b3,c3,ty3,k1,_,k2,k3,k4⟩:=h.row hcs';rw[hb2] at k1;cases k1;have hmm:Nat.min len' len*i.size≤len'*i.size:=YQ _ (Nat.min_le_left _ _);obtain ⟨vs,hlv,hrv,hcc⟩:=JS k2 k4 k3 (off:=off') (n:=Nat.min len' len*i.size) (by omega);refine ⟨vs,?_,by rw[List.take_take,VD hmm];exact hrv⟩;simp only[Builtin.firstCells];rw[← hlv];exact run_loadCells_list w _ vs hcc
      ·cases hnew
     ·cases hnew
    ·cases hnew
   obtain ⟨vs,hf1,hf2⟩:=hfirst;have hlen:vs.length=Nat.min n len*i.size:=by rw[← hf2.length,List.length_take];omega
   have hone:=hf2.one_cells (by rw[Q1] at hsc ⊢;exact fun v hv=>hsc v (List.mem_of_mem_take hv))
   have hfit:off+vs.length≤c.size:=by have:Nat.min n len*i.size≤len*i.size:=YQ _ (Nat.min_le_right _ _);omega
   have hrun:=run_storeCells_at P b off ty' vs 0 c w h2 (by simpa using hfit) hone;simp only[Nat.add_zero] at hrun;rw[← KG _ _ _ (by simpa using hfit)] at hrun;have ht:YZ w (w.setRow b (setRange c.toList off vs).toArray) b:=YZ.row w _ h2 (by simp[Z5]);obtain ⟨g1,g2,g3⟩:=h.turn hb hlobj trivial ht (o':=.cells (setRange cs off (new.take (Nat.min n len*i.size)))) (fun hm=>by simp only[ORel];refine ⟨_,ty',setRow_heap w b c _ ty' (0,0) h2,by simp[Z5];exact h3,?_⟩;rw[Z5];simp only[List.toList_toArray,V5];exact ((h4.setRange off hf2).mono hm _ _))
   refine W7 (v:=goInt (Nat.min n len:Nat)) ?_ (VRel.mk_int _ _) g1 g2;simp only[Builtin.copy_,WG,List.getElem?_cons_zero,List.getElem?_cons_succ,Sem.run_bind,QY hu,Result.andThen_ok,hv3,YK hi,hf1,hrun,Sem.run_pure]
  ·cases hs
 ·cases hs
theorem Qec {l:Nat} {cs:List AV} (h:σ[l]? = some (.cells cs)):σ.set l (.cells cs)=σ:=by
 apply Z1;intro k;by_cases hk:l=k
 ·subst hk;rw[Z2 (QH.1 h).1,h]
 ·rw[QU hk]
theorem QcX (n:Nat) (zs:List AV):(YW n zs).length=n*zs.length:=by rw[T8];simp
theorem QeQ {n:Nat} {zs:List AV} (h:zs.all AV.isSc=true):(YW n zs).all AV.isSc=true:=by
 rw[T8,Q1];intro v hv;simp only[ZP,ZI] at hv;obtain ⟨i,hi,rfl⟩:=hv;have h0:0<zs.length:=by
  rcases XF zs.length with h0 | h0
  ·rw[h0] at hi;omega
  ·exact h0
 have hlt:i % zs.length<zs.length:=Nat.mod_lt _ h0;rw[Q1] at h;rw[WA,QI hlt];exact h _ (Q2 hlt)
theorem Qea {st ty e:TypeId} {i:TypeInfo} {z:Value} {x:Value} {avs:List AV} (h:HRel m X σ w) (hu:P.underlying st=some (.slice e)) (hi:P.info? e=some i) (hz:i.zero=some z) (hsz:z.cells.size=i.size) (hpos:0<i.size)
  (ha:QK m X w avs [x]) (hs:UN (z.cells.toList.map WC) avs σ=some (r,σ')):YP P (do pure (.value (← Builtin.clear_ #[st] ty #[x]))) m X σ w r σ':=by
 have key:∀ (l off len e1:Nat),VRel m X w (.sl l off len e1) x→(((rowOf σ l).bind fun cs=>if e1=(z.cells.toList.map WC).length∧off+len*e1≤cs.length∧(z.cells.toList.map WC).all AV.isSc=true then some (AV.tup [],σ.set l (.cells (setRange cs off (YW len (z.cells.toList.map WC))))) else none)=some (r,σ')) →
   YP P (do pure (.value (← Builtin.clear_ #[st] ty #[x]))) m X σ w r σ':=by
  intro l off len e1 hr hs;simp only[VRel] at hr;obtain ⟨b,cap,hb,rfl,hlc,c,ty',hb0,hcz⟩:=hr;simp only[QB] at hs;obtain ⟨cs,hcs,hs⟩:=hs;split at hs
  ·rename_i hc;cases hs;obtain ⟨he,hle,hsc⟩:=hc;obtain ⟨b',c1,ty1,h1,hlobj,h2,h3,h4⟩:=h.row hcs;rw[hb] at h1;cases h1;have hz1:(z.cells.toList.map WC).length=i.size:=by simp[hsz]
   rw[hz1] at he;subst he;rcases XF len with h0 | h0
   ·subst h0;have e0:setRange cs off (YW 0 (z.cells.toList.map WC))=cs:=by
     have:YW 0 (z.cells.toList.map WC)=[]:=ZT (by rw[QcX];simp);rw[this];rfl
    rw[e0,Qec hlobj];refine ZG h (v:=.tuple #[]) ?_ (by simp only[VRel];exact ⟨[],rfl,by simp[QK]⟩);simp[Builtin.clear_,QY hu]
   ·have hrel:=FL (m:=m) (X:=X) (w:=w) len z.cells;generalize hvs:(List.range (len*z.cells.size)).map (fun i=>z.cells[i % z.cells.size]!)=vs at hrel;have hlen:vs.length=len*i.size:=by rw[← hvs];simp[hsz]
    have hone:=hrel.one_cells (QeQ hsc);have hfit:off+vs.length≤c1.size:=by omega
    have hrun:=run_storeCells_at P b off ty1 vs 0 c1 w h2 (by simpa using hfit) hone;simp only[Nat.add_zero] at hrun;rw[← KG _ _ _ (by simpa using hfit)] at hrun;have ht:YZ w (w.setRow b (setRange c1.toList off vs).toArray) b:=YZ.row w _ h2 (by simp[Z5]);obtain ⟨g1,g2,g3⟩:=h.turn hb hlobj trivial ht (o':=.cells (setRange cs off (YW len (z.cells.toList.map WC)))) (fun hm=>by simp only[ORel];refine ⟨_,ty1,setRow_heap w b c1 _ ty1 (0,0) h2,by simp[Z5];exact h3,?_⟩;rw[Z5];simp only[List.toList_toArray,V5];exact ((h4.setRange off hrel).mono hm _ _))
    refine W7 (v:=.tuple #[]) ?_ (by simp only[VRel];exact ⟨[],rfl,by simp[QK]⟩) g1 g2;obtain ⟨k,rfl⟩:∃ k,len=k+1:=⟨len-1,by omega⟩;have hzc:(Builtin.zeroCells z.cells (k+1)).toList=vs:=by rw[← hvs];simp[Builtin.zeroCells]
    simp only[Builtin.clear_,WG,List.getElem?_cons_zero,Sem.run_bind,QY hu,Result.andThen_ok,GV hi hz,hzc,hrun,Sem.run_pure]
  ·cases hs
 unfold UN at hs;split at hs
 ·obtain ⟨v,hv,hr⟩:=ha.one;cases hv;exact key _ _ _ _ hr hs
 ·obtain ⟨v,hv,hr⟩:=ha.one;cases hv;exact key _ _ _ _ hr.slc_sl hs
 ·cases hs
theorem QdW {t st:TypeId} {str:Bool} {x:Value} {avs:List AV} (h:HRel m X σ w) (hu:(str=false∧∃ e,P.underlying st=some (.slice e))∨(str=true∧P.underlying st=some .string)) (ha:QK m X w avs [x]) (hs:RZ str avs σ=some (r,σ')) :
  YP P (do pure (.value (← Builtin.len_ #[st] t #[x]))) m X σ w r σ':=by
 unfold RZ at hs;split at hs
 ·rename_i s;obtain ⟨v,hv,hr⟩:=ha.one;cases hv;cases hs;obtain rfl:=hr.str;rcases hu with ⟨h0,_⟩ | ⟨_,hu⟩
  ·cases h0
  ·exact ZG h (v:=goInt s.size) (by simp[Builtin.len_,QY hu]) (VRel.mk_int _ _)
 ·obtain ⟨v,hv,hr⟩:=ha.one;cases hv;cases hs;obtain rfl:=hr.nils;rcases hu with ⟨_,e,hu⟩ | ⟨h0,_⟩
  ·exact ZG h (v:=goInt 0) (by simp[Builtin.len_,QY hu]) (VRel.mk_int _ _)
  ·cases h0
 ·rename_i len;obtain ⟨v,hv,hr⟩:=ha.one;cases hv;cases hs;simp only[VRel,CV.rep] at hr;rcases hu with ⟨_,e,hu⟩ | ⟨h0,_⟩
  ·rcases hr with ⟨rfl,rfl,_⟩ | ⟨a,cap,rfl,_⟩
   ·exact ZG h (v:=goInt 0) (by simp[Builtin.len_,QY hu]) (VRel.mk_int _ _)
   ·exact ZG h (v:=goInt len) (by simp[Builtin.len_,QY hu]) (VRel.mk_int _ _)
  ·cases h0
 ·rename_i len e1;obtain ⟨v,hv,hr⟩:=ha.one;cases hv;cases hs;simp only[VRel] at hr;obtain ⟨b,cap,_,rfl,_⟩:=hr;rcases hu with ⟨_,e,hu⟩ | ⟨h0,_⟩
  ·exact ZG h (v:=goInt len) (by simp[Builtin.len_,QY hu]) (VRel.mk_int _ _)
  ·cases h0
 ·rename_i len c1 e1;obtain ⟨v,hv,hr⟩:=ha.one;cases hv;cases hs;simp only[VRel] at hr;obtain ⟨b,_,rfl,_⟩:=hr;rcases hu with ⟨_,e,hu⟩ | ⟨h0,_⟩
  ·exact ZG h (v:=goInt len) (by simp[Builtin.len_,QY hu]) (VRel.mk_int _ _)
  ·cases h0
 ·cases hs
theorem snd_cap {t st e:TypeId} {x:Value} {avs:List AV} (h:HRel m X σ w) (hu:P.underlying st=some (.slice e)) (ha:QK m X w avs [x]) (hs:NZ avs σ=some (r,σ')) :
  YP P (do pure (.value (← Builtin.cap_ #[st] t #[x]))) m X σ w r σ':=by
 unfold NZ at hs;split at hs
 ·rename_i cap e1;obtain ⟨v,hv,hr⟩:=ha.one;cases hv;cases hs;simp only[VRel] at hr;obtain ⟨b,_,rfl,_⟩:=hr;exact ZG h (v:=goInt cap) (by simp[Builtin.cap_,QY hu]) (VRel.mk_int _ _)
 ·cases hs
theorem snd_min2 {at_:Array TypeId} {t:TypeId} {x y:Value} {avs:List AV} (h:HRel m X σ w) (ha:QK m X w avs [x,y]) (hs:DJ avs σ=some (r,σ')) :
  YP P (do pure (.value (← Builtin.min_ at_ t #[x,y]))) m X σ w r σ':=by
 unfold DJ at hs;split at hs
 ·obtain ⟨x',us,hx,hr,hus⟩:=ha.cons;obtain ⟨y',hy,hra⟩:=hus.one;subst hy;cases hx;obtain rfl:=hra.int;obtain rfl:=hr.int;split at hs
  ·rename_i hk;subst hk;cases hs;exact ZG h (v:=_) (by simp[Builtin.min_,Builtin.min2]) (VRel.mk_int _ _)
  ·cases hs
 ·cases hs
theorem snd_max2 {at_:Array TypeId} {t:TypeId} {x y:Value} {avs:List AV} (h:HRel m X σ w) (ha:QK m X w avs [x,y]) (hs:GT avs σ=some (r,σ')) :
  YP P (do pure (.value (← Builtin.max_ at_ t #[x,y]))) m X σ w r σ':=by
 unfold GT at hs;split at hs
 ·obtain ⟨x',us,hx,hr,hus⟩:=ha.cons;obtain ⟨y',hy,hra⟩:=hus.one;subst hy;cases hx;obtain rfl:=hra.int;obtain rfl:=hr.int;split at hs
  ·rename_i hk;subst hk;cases hs;exact ZG h (v:=_) (by simp[Builtin.max_,Builtin.max2]) (VRel.mk_int _ _)
  ·cases hs
 ·have:=ha.length;simp at this
 ·cases hs
theorem snd_max3 {at_:Array TypeId} {t:TypeId} {x y z:Value} {avs:List AV} (h:HRel m X σ w) (ha:QK m X w avs [x,y,z]) (hs:GT avs σ=some (r,σ')) :
  YP P (do pure (.value (← Builtin.max_ at_ t #[x,y,z]))) m X σ w r σ':=by
 unfold GT at hs;split at hs
 ·have:=ha.length;simp at this
 ·obtain ⟨x',us,hx,hr,hus⟩:=ha.cons;obtain ⟨y',us',hy,hra,hus'⟩:=hus.cons;obtain ⟨z',hz,hrb⟩:=hus'.one;subst hz;subst hy;cases hx;obtain rfl:=hrb.int;obtain rfl:=hra.int;obtain rfl:=hr.int;split at hs
  ·rename_i hk;obtain ⟨rfl,rfl⟩:=hk;cases hs;exact ZG h (v:=_) (by simp[Builtin.max_,Builtin.max2]) (VRel.mk_int _ _)
  ·cases hs
 ·cases hs
end Go.Proofs.YtgkidpolomhghaaGreatDoor.AM
namespace Go.Proofs.YtgkidpolomhghaaGreatDoor.AM
variable [Dr]
open Go Go.WideShapes
variable {P:Program} {m:LM} {X:Nat→Prop} {σ σ':List AObj} {w:World} {r:AV}
def LV:AV→Lit
 | .cv (.int k n)=>.int k n
 | .cv (.str s)=>.string s.data.toList
 | .cv (.bool b)=>.bool b
 | _=>.bool false
theorem G2:∀ {ks:List KK} {xs:List AV},Y4 ks xs=true→xs.length=ks.length
 | [],[],_=>rfl
 | k::ks,x::xs,h=>by simp only[Y4,QD] at h;simp[G2 h.2]
 | [],_::_,h=>by simp[Y4] at h
 | _::_,[],h=>by simp[Y4] at h
theorem E9:∀ {k1 k2:List KK} {xs:List AV},Y4 (k1++k2) xs=true→Y4 k1 (xs.take k1.length)=true∧Y4 k2 (xs.drop k1.length)=true
 | [],k2,xs,h=>by simpa[Y4] using h
 | k::k1,k2,[],h=>by simp[Y4] at h
 | k::k1,k2,x::xs,h=>by simp only[List.cons_append,Y4,QD] at h;obtain ⟨g1,g2⟩:=E9 h.2;simp[Y4,h.1,g1,g2]
theorem kk_inv {k:KK} {a:AV} (h:kkOk k a=true):(∃ q n,k=.int q∧a=.cv (.int q n)∧(Lit.int q n).wf=true)∨(∃ s,k=.str∧a=.cv (.str s)∧s.size≤maxLen)∨(∃ b,k=.bool∧a=.cv (.bool b)):=by
 unfold kkOk at h;split at h
 ·simp only[QD,decide_eq_true_eq] at h;obtain ⟨rfl,hw⟩:=h;exact .inl ⟨_,_,rfl,rfl,hw⟩
 ·simp only[decide_eq_true_eq] at h;exact .inr (.inl ⟨_,rfl,rfl,h⟩)
 ·exact .inr (.inr ⟨_,rfl,rfl⟩)
 ·cases h
theorem UF {k:KK} {a:AV} {v:Value} (h:kkOk k a=true) (hr:VRel m X w a v) :
  (∃ q n,k=.int q∧a=.cv (.int q n)∧v=.int q n∧(Lit.int q n).wf=true)∨(∃ s,k=.str∧a=.cv (.str s)∧v=.string s∧s.size≤maxLen)∨(∃ b,k=.bool∧a=.cv (.bool b)∧v=.bool b):=by
 unfold kkOk at h;split at h
 ·simp only[QD,decide_eq_true_eq] at h;obtain ⟨rfl,hw⟩:=h;exact .inl ⟨_,_,rfl,rfl,hr.int,hw⟩
 ·simp only[decide_eq_true_eq] at h;exact .inr (.inl ⟨_,rfl,rfl,hr.str,h⟩)
 ·exact .inr (.inr ⟨_,rfl,rfl,hr.bool⟩)
 ·cases h
theorem Qcg {α:Type} {l:List α} (h:l.length=1):∃ a,l=[a]:=by
 match l,h with
 | [a],_=>exact ⟨a,rfl⟩
theorem KI:∀ (d:Nat) (t:TypeId) (ks:List KK) (xs:List AV) (vs:List Value),flatK P d t=some ks→Y4 ks xs=true→QK m X w xs vs→P.keyLits d t vs=some (xs.map LV)
 | 0,t,ks,xs,vs,h,_,_=>by simp[flatK] at h
 | d + 1,t,ks,xs,vs,h,hk,hr=>by
  have hlx:=G2 hk;have hlv:=hr.length;simp only[flatK] at h;have scal:∀ k,ks=[k]→∃ a v,xs=[a]∧vs=[v]∧kkOk k a=true∧VRel m X w a v:=by rintro k rfl;obtain ⟨a,rfl⟩:=Qcg hlx;obtain ⟨v,rfl,hv⟩:=hr.one;simp only[Y4,WH] at hk;exact ⟨a,v,rfl,rfl,hk,hv⟩
  split at h
  ·rename_i hu;obtain ⟨a,v,rfl,rfl,h1,h2⟩:=scal _ (Option.some.inj h).symm;rcases UF h1 h2 with ⟨q,n,hq,_⟩ | ⟨s,hq,_⟩ | ⟨b,_,rfl,rfl⟩
   ·cases hq
   ·cases hq
   ·unfold Program.keyLits;rw[hu];rfl
  ·rename_i k hu;obtain ⟨a,v,rfl,rfl,h1,h2⟩:=scal _ (Option.some.inj h).symm;rcases UF h1 h2 with ⟨q,n,hq,rfl,rfl,hw⟩ | ⟨s,hq,_⟩ | ⟨b,hq,_⟩
   ·cases hq;unfold Program.keyLits;rw[hu];simp[hw,LV]
   ·cases hq
   ·cases hq
  ·rename_i hu;obtain ⟨a,v,rfl,rfl,h1,h2⟩:=scal _ (Option.some.inj h).symm;rcases UF h1 h2 with ⟨q,n,hq,_⟩ | ⟨s,_,rfl,rfl,hs⟩ | ⟨b,hq,_⟩
   ·cases hq
   ·unfold Program.keyLits;rw[hu];simp[hs,LV]
   ·cases hq
  ·rename_i n e hu;simp only[QB] at h;obtain ⟨ke,hke,h⟩:=h;split at h
   ·rename_i hc;cases h;obtain ⟨hc1,hc2⟩:=hc;have main:∀ (q i0:Nat),Y4 (List.replicate q ke).flatten (xs.drop (i0*P.cellsOf e))=true →
      ∃ L,(List.range' i0 q).mapM (fun i=>P.keyLits d e ((vs.drop (i*P.cellsOf e)).take (P.cellsOf e)))=some L∧L.flatten=(xs.drop (i0*P.cellsOf e)).map LV:=by
     intro q
     induction q with
     | zero =>
      intro i0 hk0;have:=G2 hk0;simp at this;exact ⟨[],by simp,by simp[List.drop_eq_nil_iff.2 (by omega:xs.length≤i0*P.cellsOf e)]⟩
     | succ q ih =>
      intro i0 hk0;rw[List.replicate_succ,List.flatten_cons] at hk0;obtain ⟨g1,g2⟩:=E9 hk0;rw[hc1] at g1 g2;rw[List.drop_drop,show i0*P.cellsOf e+P.cellsOf e=(i0+1)*P.cellsOf e by rw[WP,Nat.one_mul]] at g2;obtain ⟨L,h1,h2⟩:=ih (i0+1) g2;have h0:=KI d e ke _ _ hke g1 ((hr.drop (i0*P.cellsOf e)).take (P.cellsOf e));refine ⟨_::L,by rw[List.range'_succ,WV,h0,h1];rfl,?_⟩;rw[List.flatten_cons,h2,← ZS];congr 1;rw[show (i0+1)*P.cellsOf e=i0*P.cellsOf e+P.cellsOf e by rw[WP,Nat.one_mul],← List.drop_drop,List.take_append_drop]
    obtain ⟨L,h1,h2⟩:=main n 0 (by simpa using hk);unfold Program.keyLits;rw[hu];have hlen:vs.length=P.cellsOf t:=by rw[hlv.symm.trans hlx];simp[hc1,hc2]
    rw[← List.range_eq_range'] at h1;simp only[hlen,if_true,h1,Option.map_some,h2];simp
   ·cases h
  ·rename_i fs hu;split at h
   ·rename_i hend;have main:∀ (fs:List Field) (n N:Nat) (ks:List KK),J8 P fs n=some N→CK P (flatK P d) fs=some ks→Y4 ks (xs.drop n)=true →
      (∃ L,fs.mapM (fun f=>P.keyLits d f.type ((vs.drop f.offset).take (P.cellsOf f.type)))=some L∧L.flatten=(xs.drop n).map LV)∧n+ks.length=N∧∀ f∈fs,f.name ≠ "_" := by
     intro fs
     induction fs with
     | nil =>
      intro n N ks h1 h2 h3;simp only[CK,Option.some.injEq] at h2;subst h2;simp only[J8,Option.some.injEq] at h1;have:=G2 h3;simp at this;exact ⟨⟨[],by simp,by simp[List.drop_eq_nil_iff.2 (by omega:xs.length≤n)]⟩,by simp[h1],by simp⟩
     | cons f fs ih =>
      intro n N ks h1 h2 h3;simp only[CK,QB] at h2;obtain ⟨k1,hk1,h2⟩:=h2;split at h2
      ·rename_i hc;simp only[QA] at h2;obtain ⟨k2,hk2,rfl⟩:=h2;simp only[J8] at h1;split at h1
       ·rename_i hoff;obtain ⟨g1,g2⟩:=E9 h3;rw[hc.1] at g1 g2;rw[List.drop_drop] at g2;obtain ⟨⟨L,e1,e2⟩,e3,e4⟩:=ih _ _ _ h1 hk2 g2;have h0:=KI d f.type k1 _ _ hk1 g1 ((hr.drop n).take (P.cellsOf f.type));refine ⟨⟨_::L,by rw[WV,hoff,h0,e1];rfl,?_⟩,by simp[hc.1];omega,?_⟩
        ·rw[List.flatten_cons,e2,← ZS];congr 1;rw[← List.drop_drop,List.take_append_drop]
        ·intro f' hf';rcases ZD.1 hf' with rfl | hf'
         ·exact hc.2
         ·exact e4 f' hf'
       ·cases h1
      ·cases h2
    obtain ⟨⟨L,h1,h2⟩,h3,h4⟩:=main fs.toList 0 _ ks hend h (by simpa using hk);unfold Program.keyLits;rw[hu];have hlen:vs.length=P.cellsOf t:=by omega
    have hall:fs.all (·.name != "_")=true:=by rw[Array.all_eq_true'];intro f hf;simpa using h4 f (by simpa using hf)
    simp only[hlen,hall,and_self,if_true,h1,Option.map_some,h2];simp
   ·cases h
  ·cases h
theorem Qaf:∀ {ks:List KK} {xs ys:List AV},Y4 ks xs=true→Y4 ks ys=true→(xs.map LV=ys.map LV↔VZ xs ys=true)
 | [],[],[],_,_=>by simp[VZ]
 | k::ks,x::xs,y::ys,h1,h2=>by
  simp only[Y4,QD] at h1 h2;have ih:=Qaf h1.2 h2.2;simp only[Q0,List.cons.injEq,VZ,QD,ih];refine and_congr ?_ Iff.rfl;rcases kk_inv h1.1 with ⟨q,n,rfl,rfl,_⟩ | ⟨s,rfl,rfl,_⟩ | ⟨c,rfl,rfl⟩ <;> rcases kk_inv h2.1 with ⟨q',n',hq,rfl,_⟩ | ⟨s',hq,rfl,_⟩ | ⟨c',hq,rfl⟩ <;> cases hq
  ·simp[LV,EB]
  ·simp only[LV,EB,decide_eq_true_eq,Lit.string.injEq];constructor
   ·intro hh;obtain ⟨⟨d⟩⟩:=s;obtain ⟨⟨d'⟩⟩:=s';simp at hh;rw[hh]
   ·rintro rfl;rfl
  ·simp[LV,EB]
 | [],_::_,_,h,_=>by simp[Y4] at h
 | [],[],_::_,_,h=>by simp[Y4] at h
 | _::_,[],_,h,_=>by simp[Y4] at h
 | _::_,_::_,[],_,h=>by simp[Y4] at h
theorem bytes_beq (s:ByteArray):(s == s)=true:=by
 show (s.data == s.data)=true;simp
theorem SbC:∀ {ks:List KK} {xs:List AV} {vs:List Value} (n:Nat),Y4 ks xs=true→QK m X w xs vs→((vs.zip vs).all fun (x,y)=>Instr.sameBits n x y)=true
 | [],[],vs,n,_,hr=>by rw[hr.nil'];rfl
 | k::ks,x::xs,vs,n,h,hr=>by obtain ⟨v,us,rfl,h1,h2⟩:=hr.cons;simp only[Y4,QD] at h;simp only[List.zip_cons_cons,List.all_cons,QD];refine ⟨?_,SbC n h.2 h2⟩;rcases UF h.1 h1 with ⟨q,i,_,_,rfl,_⟩ | ⟨s,_,_,rfl,_⟩ | ⟨b,_,_,rfl⟩ <;> cases n <;> simp[Instr.sameBits,bytes_beq]
 | [],_::_,_,_,h,_=>by simp[Y4] at h
 | _::_,[],_,_,h,_=>by simp[Y4] at h
theorem P8:∀ {ks:List KK} {xs ys:List AV} {vs us:List Value},Y4 ks xs=true→Y4 ks ys=true→VZ xs ys=true→QK m X w xs vs→QK m X w ys us→vs=us
 | [],[],[],vs,us,_,_,_,h1,h2=>by rw[h1.nil',h2.nil']
 | k::ks,x::xs,y::ys,vs,us,g1,g2,he,h1,h2=>by obtain ⟨v,vs,rfl,a1,a2⟩:=h1.cons;obtain ⟨u,us,rfl,b1,b2⟩:=h2.cons;simp only[Y4,VZ,QD] at g1 g2 he;have:=P8 g1.2 g2.2 he.2 a2 b2;subst this;congr 1;rcases UF g1.1 a1 with ⟨q,n,rfl,rfl,rfl,_⟩ | ⟨s,rfl,rfl,rfl,_⟩ | ⟨c,rfl,rfl,rfl⟩ <;> rcases UF g2.1 b1 with ⟨q',n',hq,rfl,rfl,_⟩ | ⟨s',hq,rfl,rfl,_⟩ | ⟨c',hq,rfl,rfl⟩ <;> cases hq <;> simp[EB] at he <;> simp[he.1]
 | [],_::_,_,_,_,h,_,_,_,_=>by simp[Y4] at h
 | [],[],_::_,_,_,_,h,_,_,_=>by simp[Y4] at h
 | _::_,[],_,_,_,h,_,_,_,_=>by simp[Y4] at h
 | _::_,_::_,[],_,_,_,h,_,_,_=>by simp[Y4] at h
theorem PZ {kt:TypeId} {ks:Bool × List KK} (h:keyK P kt=some ks) :
  (∃ d k,ks=(false,[k])∧P.underlying kt=some d∧((∃ q,d=.int q∧k=.int q)∨(d=.string∧k=.str))) ∨
  (∃ kk,ks=(true,kk)∧P.keyTypeAt 8 kt=true∧flatK P 8 kt=some kk∧(match P.underlying kt with | some (.array _ _) | some (.struct _)=>true | _=>false)=true):=by
 unfold keyK at h;split at h
 ·rename_i k hu;cases h;exact .inl ⟨_,_,rfl,hu,.inl ⟨k,rfl,rfl⟩⟩
 ·rename_i hu;cases h;exact .inl ⟨_,_,rfl,hu,.inr ⟨rfl,rfl⟩⟩
 ·rename_i hu;split at h
  ·rename_i hk;simp only[QA] at h;obtain ⟨kk,h1,rfl⟩:=h;exact .inr ⟨kk,rfl,hk,h1,by rw[hu]⟩
  ·cases h
 ·rename_i hu;split at h
  ·rename_i hk;simp only[QA] at h;obtain ⟨kk,h1,rfl⟩:=h;exact .inr ⟨kk,rfl,hk,h1,by rw[hu]⟩
  ·cases h
 ·cases h
theorem F3 {kt:TypeId} {kk:List KK} {xs:List AV} {vs:List Value} (hf:flatK P 8 kt=some kk) (hw:(match P.underlying kt with | some (.array _ _) | some (.struct _)=>true | _=>false)=true) (hk:Y4 kk xs=true) (hr:QK m X w xs vs) :
  (Value.agg vs.toArray).formed P kt=true:=by
 have h:=KI 8 kt kk xs vs hf hk hr;unfold Program.keyLits at h;unfold Value.formed;split at hw
 ·rename_i n e hu;rw[hu] at h ⊢;simp only at h ⊢;split at h
  ·rename_i hl;simpa using hl
  ·cases h
 ·rename_i fs hu;rw[hu] at h ⊢;simp only at h ⊢;split at h
  ·rename_i hl;simpa using hl.1
  ·cases h
 ·cases hw
theorem CE {kk:List KK} {k:AV} (h:F4 (true,kk) k=true):∃ xs,k=.agg xs∧Y4 kk xs=true:=by
 unfold F4 JK at h;cases k <;> simp at h
 exact ⟨_,rfl,h⟩
theorem KO {kt:TypeId} {ks:Bool × List KK} (hks:keyK P kt=some ks) {k:AV} {x:Value} (hi:F4 ks k=true) (hr:VRel m X w k x) (em:Bool):(Instr.checkKey em 10000 kt x).run P w=.ok () w:=by
 rcases PZ hks with ⟨d,kk,rfl,hu,hd⟩ | ⟨kk,rfl,hty,hf,hw⟩
 ·show (Instr.checkKey em (9999+1) kt x).run P w=_;unfold Instr.checkKey;rcases hd with ⟨q,rfl,_⟩ | ⟨rfl,_⟩ <;> simp only[Sem.run_bind,QY hu,Result.andThen_ok,Sem.run_pure]
 ·obtain ⟨xs,rfl,hi⟩:=CE hi;simp only[VRel] at hr;obtain ⟨vs,rfl,hrs⟩:=hr;have:=run_checkKey_deep em 9992 8 kt hty w 8 (.agg vs.toArray) _ (F3 hf hw hi hrs) (KI 8 kt _ _ _ hf hi hrs);exact this
def HB (m:LM) (X:Nat→Prop) (w:World):List (AV × AV)→List MapEntry→Prop
 | [],[]=>True
 | (k,a)::es,e::ces=>VRel m X w k e.key∧VRel m X w a e.val∧HB m X w es ces
 | _,_=>False
theorem QcR:∀ (es:List (AV × AV)) (ces:List MapEntry),ces.length=es.length→(∀ (i:Nat) (k a:AV),es[i]? = some (k,a)→∃ e:MapEntry,ces[i]? = some e∧VRel m X w k e.key∧VRel m X w a e.val)→HB m X w es ces
 | [],[],_,_=>trivial
 | (k,a)::es,e::ces,hl,h=>by obtain ⟨e',h1,h2,h3⟩:=h 0 k a rfl;simp at h1;subst h1;exact ⟨h2,h3,QcR es ces (by simpa using hl) fun i k a hi=>by simpa using h (i+1) k a (by simpa using hi)⟩
 | [],_::_,hl,_=>by simp at hl
 | _::_,[],hl,_=>by simp at hl
def FRel (m:LM) (X:Nat→Prop) (w:World) (x:Value) (i:Nat) (ces:List MapEntry):Option (Nat × AV)→Option (Nat × Value)→Prop
 | none,none=>True
 | some (j,a),some (j',v)=>j=j'∧i≤j∧∃ e:MapEntry,ces[j-i]? = some e∧e.val=v∧VRel m X w a v∧e.key=x
 | _,_=>False
theorem FRel.next {x:Value} {i:Nat} {e:MapEntry} {ces:List MapEntry}:∀ {a:Option (Nat × AV)} {b:Option (Nat × Value)},FRel m X w x (i+1) ces a b→FRel m X w x i (e::ces) a b
 | none,none,_=>trivial
 | some (j,a),some (j',v),h=>by obtain ⟨h1,h2,e',h3,h4,h5,h6⟩:=h;refine ⟨h1,by omega,e',?_,h4,h5,h6⟩;rw[show j-i=(j-(i+1))+1 by omega];simpa using h3
 | none,some _,h=>h.elim
 | some _,none,h=>h.elim
theorem L9 {d:TypeDesc} {kk:KK} (hd:(∃ q,d=.int q∧kk=.int q)∨(d=.string∧kk=.str)) {k:AV} {x:Value} (hr:VRel m X w k x):∀ (es:List (AV × AV)) (ces:List MapEntry) (i:Nat) (res:Option (Nat × AV)),HB m X w es ces→findKey (false,[kk]) k es i=some res →
  ∃ res',Instr.findNow d x ces i=some res'∧FRel m X w x i ces res res'
 | [],[],i,res,_,h=>by simp[findKey] at h;subst h;exact ⟨none,rfl,trivial⟩
 | (k', a)::es,e::ces,i,res,he,h=>by
  obtain ⟨h1,h2,h3⟩:=he;simp only[findKey] at h;have same:∀ r,JW (false,[kk]) k k'=some r→Instr.sameNow d x e.key=some r∧(r=true→e.key=x):=by
   intro r hkr;simp only[JW,JK] at hkr;split at hkr
   ·rename_i hok;cases hkr;simp only[Y4,WH,QD] at hok;simp only[VZ,WH];rcases hd with ⟨q,rfl,rfl⟩ | ⟨rfl,rfl⟩
    ·rcases UF hok.1 hr with ⟨q1,n,hq,rfl,rfl,_⟩ | ⟨s,hq,_⟩ | ⟨c,hq,_⟩ <;> cases hq
     rcases UF hok.2 h1 with ⟨q1,n',hq,rfl,hk,_⟩ | ⟨s,hq,_⟩ | ⟨c,hq,_⟩ <;> cases hq
     rw[hk];refine ⟨?_,?_⟩
     ·simp only[Instr.sameNow,if_true,EB];congr 1
     ·simp only[EB,decide_eq_true_eq];rintro rfl;rfl
    ·rcases UF hok.1 hr with ⟨q1,n,hq,_⟩ | ⟨s,hq,rfl,rfl,_⟩ | ⟨c,hq,_⟩ <;> cases hq
     rcases UF hok.2 h1 with ⟨q1,n',hq,_⟩ | ⟨s',hq,rfl,hk,_⟩ | ⟨c,hq,_⟩ <;> cases hq
     rw[hk];refine ⟨?_,?_⟩
     ·simp only[Instr.sameNow,EB];congr 1;by_cases hss:s=s'
      ·subst hss;simp[bytes_beq]
      ·have:(s == s')=false:=by
        show (s.data == s'.data)=false;rw[beq_eq_false_iff_ne];rintro hh;apply hss;cases s;cases s';simp at hh;rw[hh]
       simp[hss,this]
     ·simp only[EB,decide_eq_true_eq];rintro rfl;rfl
   ·cases hkr
  simp only[Instr.findNow];split at h
  ·rename_i hr';cases h;obtain ⟨g1,g2⟩:=same _ hr';rw[g1];exact ⟨some (i,e.val),rfl,rfl,QG _,e,by simp,rfl,h2,g2 rfl⟩
  ·rename_i hr';obtain ⟨g1,_⟩:=same _ hr';rw[g1];obtain ⟨res',g3,g4⟩:=L9 hd hr es ces (i+1) res h3 h;exact ⟨res',g3,g4.next⟩
  ·cases h
 | [],_::_,_,_,h,_=>h.elim
 | _::_,[],_,_,h,_=>by simp[HB] at h
theorem EN {kt:TypeId} {kk:List KK} (hty:P.keyTypeAt 8 kt=true) (hf:flatK P 8 kt=some kk) (hw:(match P.underlying kt with | some (.array _ _) | some (.struct _)=>true | _=>false)=true) {k:AV} {x:Value} (hr:VRel m X w k x) :
  ∀ (es:List (AV × AV)) (ces:List MapEntry) (i:Nat) (res:Option (Nat × AV)),HB m X w es ces→findKey (true,kk) k es i=some res→∃ res',(Instr.findAsking kt x ces i).run P w=.ok res' w∧FRel m X w x i ces res res'
 | [],[],i,res,_,h=>by simp[findKey] at h;subst h;exact ⟨none,by simp[Instr.findAsking],trivial⟩
 | (k',a)::es,e::ces,i,res,he,h=>by
  obtain ⟨h1,h2,h3⟩:=he;simp only[findKey] at h;have same:∀ r,JW (true,kk) k k'=some r→(Op.equal kt x e.key).run P w=.ok r w∧(r=true→e.key=x):=by
   intro r hkr;unfold JW at hkr;split at hkr
   ·rename_i xs ys hxs hys;have ex:k=.agg xs:=by cases k <;> simp[JK] at hxs;rw[hxs]
    have ey:k'=.agg ys:=by cases k' <;> simp[JK] at hys;rw[hys]
    subst ex ey;split at hkr
    ·rename_i hok;cases hkr;simp only[QD] at hok;simp only[VRel] at hr h1;obtain ⟨vs,rfl,hrs⟩:=hr;obtain ⟨us,hus,hrs'⟩:=h1;rw[hus];obtain ⟨r',g1,g2⟩:=run_equalIn_deep 9992 8 kt hty w 8 8 (.agg vs.toArray) (.agg us.toArray) _ _ (F3 hf hw hok.1 hrs) (F3 hf hw hok.2 hrs') (KI 8 kt _ _ _ hf hok.1 hrs) (KI 8 kt _ _ _ hf hok.2 hrs');rw[Qaf hok.1 hok.2] at g2;have hb:r'=VZ xs ys:=by
      cases hc:VZ xs ys
      ·cases r'
       ·rfl
       ·rw[hc] at g2;exact absurd (g2.1 rfl) (by simp)
      ·exact g2.2 hc
     subst hb;exact ⟨g1,fun hc=>by rw[P8 hok.1 hok.2 hc hrs hrs']⟩
    ·cases hkr
   ·cases hkr
  simp only[Instr.findAsking];split at h
  ·rename_i hr';cases h;obtain ⟨g1,g2⟩:=same _ hr';exact ⟨some (i,e.val),by simp[g1],rfl,QG _,e,by simp,rfl,h2,g2 rfl⟩
  ·rename_i hr';obtain ⟨g1,_⟩:=same _ hr';obtain ⟨res',g3,g4⟩:=EN hty hf hw hr es ces (i+1) res h3 h;exact ⟨res',by simp[g1,g3],g4.next⟩
  ·cases h
 | [],_::_,_,_,h,_=>h.elim
 | _::_,[],_,_,h,_=>by simp[HB] at h
theorem UH {kt:TypeId} {ks:Bool × List KK} (hks:keyK P kt=some ks) {k:AV} {x:Value} (hr:VRel m X w k x) {es:List (AV × AV)} {ces:List MapEntry} {res:Option (Nat × AV)} (he:HB m X w es ces) (h:findKey ks k es 0=some res) :
  ∃ res',(Instr.findKey kt x ces).run P w=.ok res' w∧FRel m X w x 0 ces res res':=by
 rcases PZ hks with ⟨d,kk,rfl,hu,hd⟩ | ⟨kk,rfl,hty,hf,hw⟩
 ·obtain ⟨res',h1,h2⟩:=L9 hd hr es ces 0 res he h;refine ⟨res',?_,h2⟩;simp only[Instr.findKey,Sem.run_bind,QY hu,Result.andThen_ok,h1,Sem.run_pure]
 ·rw[run_findKey_eq _ hw];exact EN hty hf hw hr es ces 0 res he h
theorem HRel.mapRow (h:HRel m X σ w) {l:Nat} {es:List (AV × AV)} (hc:mapOf σ l=some es) :
  ∃ b ces clock,m l=some b∧σ[l]? = some (.map es)∧w.heap[b]? = some (.map ces clock)∧(∀ e∈ces,e.born<clock)∧(ces.toList.map (·.born)).Nodup∧ces.size=es.length∧HB m X w es ces.toList ∧
   (∀ (i:Nat) (k a:AV),es[i]? = some (k,a)→∃ e:MapEntry,ces[i]? = some e∧VRel m X w k e.key∧VRel m X w a e.val):=by
 unfold mapOf at hc;split at hc
 ·rename_i es' ho;cases hc;have hr:=h.obj l _ ho;cases hm:m l with
  | none=>rw[hm] at hr;simp[ORel] at hr
  | some b =>
   rw[hm] at hr;simp only[ORel] at hr;obtain ⟨ces,clock,h1,h2,h3,h4,h5⟩:=hr;exact ⟨b,ces,clock,rfl,ho,h1,h2,h3,h4,QcR _ _ (by simpa using h4) (by simpa using h5),h5⟩
 ·cases hc
theorem KH {b:Nat} {es:Array MapEntry} {c:Nat} {o:Obj} (h:w.heap[b]? = some (.map es c)):(setObj b o).run P w=.ok () (w.putObj b o):=MapKept.run_setObj_map o h
theorem BN {t kt e:TypeId} {ks:Bool × List KK} {z:AV} {ok:Bool} {x y:Value} {avs:List AV} (h:HRel m X σ w) (hu:P.underlying t=some (.map kt e)) (hks:keyK P kt=some ks) (hz:zeroOf P e=some z) (ha:QK m X w avs [x,y])
  (hs:KL ks z ok avs σ=some (r,σ')):YP P (do pure (.value (← Instr.lookup t x y ok))) m X σ w r σ':=by
 unfold KL at hs;split at hs
 ·rename_i l k;obtain ⟨x',us,hx,hr,hus⟩:=ha.cons;obtain ⟨y',hy,hrk⟩:=hus.one;subst hy;cases hx;simp only[VRel] at hr;obtain ⟨b,hb,rfl⟩:=hr;cases hc:mapOf σ l with
  | none=>simp[hc] at hs
  | some es =>
   simp only[hc,Option.bind_some] at hs;split at hs
   ·cases hs
   ·rename_i hi;simp only[QA] at hs;obtain ⟨res,hres,he⟩:=hs;obtain ⟨b',ces,clock,g1,_,g2,_,_,_,g3,_⟩:=h.mapRow hc;rw[hb] at g1;cases g1;obtain ⟨res',h1,h2⟩:=UH hks hrk g3 hres;have hck:=KO hks (by simpa using hi) hrk ces.isEmpty;unfold zeroOf at hz;cases hin:P.info? e with
    | none=>rw[hin] at hz;cases hz
    | some inf =>
     rw[hin] at hz;simp only[Option.bind_some,QA] at hz;obtain ⟨z0,hz0,rfl⟩:=hz;cases res with
     | none =>
      cases res' with
      | some q=>exact h2.elim
      | none =>
       simp only[Prod.mk.injEq] at he;obtain ⟨rfl,rfl⟩:=he;refine ZG h (v:=if ok then .tuple #[z0,.bool false] else z0) ?_ ?_
       ·simp only[Instr.lookup,Sem.run_bind,QY hu,MapKept.run_getObj_map g2,Result.andThen_ok,Sem.run_pure,hck,h1,GV hin hz0]
       ·cases ok
        ·exact UZ z0
        ·simp only[if_true,VRel];exact ⟨[z0,.bool false],rfl,by simp only[QK];exact ⟨UZ z0,VRel.mk_bool _,trivial⟩⟩
     | some p =>
      cases res' with
      | none=>exact h2.elim
      | some p' =>
       obtain ⟨j,a⟩:=p;obtain ⟨j',v⟩:=p';obtain ⟨rfl,_,e',_,rfl,hav,_⟩:=h2;simp only[Prod.mk.injEq] at he;obtain ⟨rfl,rfl⟩:=he;refine ZG h (v:=if ok then .tuple #[e'.val,.bool true] else e'.val) ?_ ?_
       ·simp only[Instr.lookup,Sem.run_bind,QY hu,MapKept.run_getObj_map g2,Result.andThen_ok,Sem.run_pure,hck,h1]
       ·cases ok
        ·exact hav
        ·simp only[if_true,VRel];exact ⟨[e'.val,.bool true],rfl,by simp only[QK];exact ⟨hav,VRel.mk_bool _,trivial⟩⟩
 ·cases hs
theorem AQ {kt:TypeId} {ks:Bool × List KK} (hks:keyK P kt=some ks) {k:AV} {x:Value} (hi:F4 ks k=true) (hr:VRel m X w k x):(Instr.keyThatStays x x).run P w=.ok x w:=by
 have:Instr.sameBits 10000 x x=true:=by
  rcases PZ hks with ⟨d,kk,rfl,hu,hd⟩ | ⟨kk,rfl,hty,hf,hw⟩
  ·simp only[F4,JK] at hi;have:=SbC (ks:=[kk]) (xs:=[k]) (vs:=[x]) (m:=m) (X:=X) (w:=w) 10000 hi (by simp only[QK];exact ⟨hr,trivial⟩);simpa using this
  ·obtain ⟨xs,rfl,hi⟩:=CE hi;simp only[VRel] at hr;obtain ⟨vs,rfl,hrs⟩:=hr;show Instr.sameBits (9999+1) _ _=true;simp only[Instr.sameBits,beq_self_eq_true,XI];exact SbC 9999 hi hrs
 unfold Instr.keyThatStays;rw[if_pos this];rfl
theorem Qc4 {t kt e:TypeId} {ks:Bool × List KK} {x y v:Value} {avs:List AV} (h:HRel m X σ w) (hu:P.underlying t=some (.map kt e)) (hks:keyK P kt=some ks) (ha:QK m X w avs [x,y,v])
  (hs:JZ ks avs σ=some (r,σ')):YP P (do Instr.mapUpdate t x y v;pure .skip) m X σ w r σ':=by
 unfold JZ at hs;split at hs
 ·rename_i l k a;obtain ⟨x',us,hx,hr,hus⟩:=ha.cons;obtain ⟨y',us',hy,hrk,hus'⟩:=hus.cons;obtain ⟨v',hv,hra⟩:=hus'.one;subst hv;cases hy;cases hx;simp only[VRel] at hr;obtain ⟨b,hb,rfl⟩:=hr;cases hc:mapOf σ l with
  | none=>simp[hc] at hs
  | some es =>
   simp only[hc,Option.bind_some] at hs;split at hs
   ·cases hs
   ·rename_i hi;have hi':F4 ks k=true:=by simpa using hi
    simp only[QA,Prod.mk.injEq] at hs;obtain ⟨res,hres,rfl,rfl⟩:=hs;obtain ⟨b',ces,clock,g1,hl,g2,hborn,hnd,hsz,g3,g4⟩:=h.mapRow hc;rw[hb] at g1;cases g1;obtain ⟨res',h1,h2⟩:=UH hks hrk g3 hres;have hck:=KO hks hi' hrk false;cases res with
    | none =>
     cases res' with
     | some q=>exact h2.elim
     | none =>
      have ht:YZ w (w.putObj b (.map (ces.push { key:=y,val:=v,born:=clock }) (clock+1))) b:=YZ.obj w _ g2 (by simp);obtain ⟨q1,q2,q3⟩:=h.turn hb hl trivial ht (o':=.map (XU es k a none)) (fun hm=>by
       simp only[ORel,XU];refine ⟨_,_,World.putObj_heap_same (lt_of_heap g2),?_,?_,by simp[hsz],?_⟩
       ·intro e' he';rcases Array.mem_push.1 he' with he' | rfl
        ·exact Nat.lt_succ_of_lt (hborn e' he')
        ·exact Nat.lt_succ_self _
       ·simp only[Array.toList_push,ZS,Q0,WS];refine List.nodup_append.2 ⟨hnd,by simp,?_⟩;intro p hp q hq;simp only[WZ] at hq;subst hq;obtain ⟨e',he',rfl⟩:=ZP.1 hp;exact Nat.ne_of_lt (hborn e' (by simpa using he'))
       ·intro i k' a' hi;rcases ZB i es.length with hlt | hge
        ·rw[QE hlt] at hi;obtain ⟨e',p1,p2,p3⟩:=g4 i k' a' hi;exact ⟨e',by rw[K5,if_neg (by omega)];exact p1,p2.mono hm _ _,p3.mono hm _ _⟩
        ·rw[QS hge] at hi;have hil:i=es.length:=by
          have:=(QH.1 hi).1;simp at this;omega
         subst hil;simp at hi;obtain ⟨rfl,rfl⟩:=hi;exact ⟨{ key:=y,val:=v,born:=clock },by rw[K5,if_pos hsz.symm],hrk.mono hm _ _,hra.mono hm _ _⟩)
      refine PT ?_ q1 q2;simp only[Instr.mapUpdate,Sem.run_bind,QY hu,MapKept.run_getObj_map g2,Result.andThen_ok,Sem.run_pure,hck,h1];exact KH g2
    | some p =>
     cases res' with
     | none=>exact h2.elim
     | some p' =>
      obtain ⟨j,a0⟩:=p;obtain ⟨j',v0⟩:=p';obtain ⟨rfl,_,e0,hj,rfl,_,hkey⟩:=h2;have hj':ces[j]? = some e0:=by simpa using hj
      have ht:YZ w (w.putObj b (.map (ces.modify j fun e=>{ e with key:=y,val:=v }) clock)) b:=YZ.obj w _ g2 (by simp);have hbs:(ces.modify j fun e=>{ e with key:=y,val:=v }).toList.map (·.born)=ces.toList.map (·.born):=by apply Z1;intro q;simp only[ZR,Y7,W8];split <;> cases ces[q]? <;> simp
      obtain ⟨q1,q2,q3⟩:=h.turn hb hl trivial ht (o':=.map (XU es k a (some (j,a0)))) (fun hm=>by
       simp only[ORel,XU];refine ⟨_,_,World.putObj_heap_same (lt_of_heap g2),?_,by rw[hbs];exact hnd,by simp[hsz],?_⟩
       ·intro e' he';have:e'.born∈ces.toList.map (·.born):=by
         rw[← hbs];exact ZP.2 ⟨e',XG.2 he',rfl⟩
        obtain ⟨e2,p1,p2⟩:=ZP.1 this;have:=hborn e2 (XG.1 p1);omega
       ·intro i k' a' hi;rw[ZO] at hi;by_cases hij:j=i
        ·subst hij;rw[if_pos rfl] at hi;split at hi
         ·simp at hi;obtain ⟨rfl,rfl⟩:=hi;exact ⟨{ e0 with key:=y,val:=v },by simp[W8,hj'],hrk.mono hm _ _,hra.mono hm _ _⟩
         ·cases hi
        ·rw[if_neg hij] at hi;obtain ⟨e',p1,p2,p3⟩:=g4 i k' a' hi;exact ⟨e',by rw[W8,if_neg hij];exact p1,p2.mono hm _ _,p3.mono hm _ _⟩)
      refine PT ?_ q1 q2;have hst:(Instr.keyThatStays (((ces[j]?).map (·.key)).getD y) y).run P w=.ok y w:=by rw[hj'];simp only[Option.map_some,Option.getD_some];rw[hkey];exact AQ hks hi' hrk
      simp only[Instr.mapUpdate,Sem.run_bind,QY hu,MapKept.run_getObj_map g2,Result.andThen_ok,Sem.run_pure,hck,h1,hst];exact KH g2
 ·cases hs
theorem Qc5 {t kt e:TypeId} {ks:Bool × List KK} {x y:Value} {t2 ty:TypeId} {avs:List AV} (h:HRel m X σ w) (hu:P.underlying t=some (.map kt e)) (hks:keyK P kt=some ks) (ha:QK m X w avs [x,y])
  (hs:J0 ks avs σ=some (r,σ')):YP P (do pure (.value (← Builtin.delete_ #[t,t2] ty #[x,y]))) m X σ w r σ':=by
 unfold J0 at hs;split at hs
 ·rename_i l k;obtain ⟨x',us,hx,hr,hus⟩:=ha.cons;obtain ⟨y',hy,hrk⟩:=hus.one;subst hy;cases hx;simp only[VRel] at hr;obtain ⟨b,hb,rfl⟩:=hr;cases hc:mapOf σ l with
  | none=>simp[hc] at hs
  | some es =>
   simp only[hc,Option.bind_some] at hs;split at hs
   ·cases hs
   ·rename_i hi;have hi':F4 ks k=true:=by simpa using hi
    simp only[QA,Prod.mk.injEq] at hs;obtain ⟨res,hres,rfl,rfl⟩:=hs;obtain ⟨b',ces,clock,g1,hl,g2,hborn,hnd,hsz,g3,g4⟩:=h.mapRow hc;rw[hb] at g1;cases g1;obtain ⟨res',h1,h2⟩:=UH hks hrk g3 hres;have hck:=KO hks hi' hrk ces.isEmpty;have hv:VRel m X w (.tup []) (.tuple #[]):=by simp only[VRel];exact ⟨[],rfl,by simp[QK]⟩
    cases res with
    | none =>
     cases res' with
     | some q=>exact h2.elim
     | none =>
      have ht:YZ w (w.putObj b (.map ces clock)) b:=YZ.obj w _ g2 (by simp);obtain ⟨q1,q2,q3⟩:=h.turn hb hl trivial ht (o':=.map es) (fun hm=>by simp only[ORel];refine ⟨_,_,World.putObj_heap_same (lt_of_heap g2),hborn,hnd,hsz,?_⟩;intro i k' a' hi;obtain ⟨e',p1,p2,p3⟩:=g4 i k' a' hi;exact ⟨e',p1,p2.mono hm _ _,p3.mono hm _ _⟩)
      refine W7 (v:=.tuple #[]) ?_ (by simp only[VRel];exact ⟨[],rfl,by simp[QK]⟩) q1 q2;simp[Builtin.delete_,QY hu,MapKept.run_getObj_map g2,hck,h1,KH g2]
    | some p =>
     cases res' with
     | none=>exact h2.elim
     | some p' =>
      obtain ⟨j,a0⟩:=p;obtain ⟨j',v0⟩:=p';obtain ⟨rfl,_,e0,hj,rfl,_,hkey⟩:=h2;have hj':ces[j]? = some e0:=by simpa using hj
      have hjl:j<ces.size:=(Q3.1 hj').1;have htl:(ces.eraseIdxIfInBounds j).toList=ces.toList.eraseIdx j:=by simp[Array.eraseIdxIfInBounds,hjl]
      have ht:YZ w (w.putObj b (.map (ces.eraseIdxIfInBounds j) clock)) b:=YZ.obj w _ g2 (by simp);obtain ⟨q1,q2,q3⟩:=h.turn hb hl trivial ht (o':=.map (es.eraseIdx j)) (fun hm=>by
       simp only[ORel];refine ⟨_,_,World.putObj_heap_same (lt_of_heap g2),?_,?_,?_,?_⟩
       ·intro e' he';have:e'∈(ces.eraseIdxIfInBounds j).toList:=XG.2 he';rw[htl] at this;exact hborn e' (by simpa using (List.eraseIdx_sublist _ j).subset this)
       ·rw[htl];exact hnd.sublist (List.Sublist.map _ (List.eraseIdx_sublist _ j))
       ·rw[← Array.length_toList,htl,List.length_eraseIdx,List.length_eraseIdx,Array.length_toList,hsz]
       ·intro i k' a' hi;rw[← Y7,htl];rw[List.getElem?_eraseIdx] at hi ⊢;split at hi
        ·rename_i hij;obtain ⟨e',p1,p2,p3⟩:=g4 _ k' a' hi;exact ⟨e',by rw[if_pos hij,Y7];exact p1,p2.mono hm _ _,p3.mono hm _ _⟩
        ·rename_i hij;obtain ⟨e',p1,p2,p3⟩:=g4 _ k' a' hi;exact ⟨e',by rw[if_neg hij,Y7];exact p1,p2.mono hm _ _,p3.mono hm _ _⟩)
      refine W7 (v:=.tuple #[]) ?_ (by simp only[VRel];exact ⟨[],rfl,by simp[QK]⟩) q1 q2;simp[Builtin.delete_,QY hu,MapKept.run_getObj_map g2,hck,h1,KH g2]
 ·cases hs
theorem QaA {kt:TypeId} {kk:List KK} (hty:P.keyTypeAt 8 kt=true) (hf:flatK P 8 kt=some kk) (hw:(match P.underlying kt with | some (.array _ _) | some (.struct _)=>true | _=>false)=true) {k k':AV} {x y:Value} (hr:VRel m X w k x) (h1:VRel m X w k' y) :
  ∀ r,JW (true,kk) k k'=some r→(Op.equal kt x y).run P w=.ok r w∧(r=true→y=x):=by
 intro r hkr;unfold JW at hkr;split at hkr
 ·rename_i xs ys hxs hys;have ex:k=.agg xs:=by cases k <;> simp[JK] at hxs;rw[hxs]
  have ey:k'=.agg ys:=by cases k' <;> simp[JK] at hys;rw[hys]
  subst ex ey;split at hkr
  ·rename_i hok;cases hkr;simp only[QD] at hok;simp only[VRel] at hr h1;obtain ⟨vs,rfl,hrs⟩:=hr;obtain ⟨us,hus,hrs'⟩:=h1;rw[hus];obtain ⟨r',g1,g2⟩:=run_equalIn_deep 9992 8 kt hty w 8 8 (.agg vs.toArray) (.agg us.toArray) _ _ (F3 hf hw hok.1 hrs) (F3 hf hw hok.2 hrs') (KI 8 kt _ _ _ hf hok.1 hrs) (KI 8 kt _ _ _ hf hok.2 hrs');rw[Qaf hok.1 hok.2] at g2;have hb:r'=VZ xs ys:=by
    cases hc:VZ xs ys
    ·cases r'
     ·rfl
     ·rw[hc] at g2;exact absurd (g2.1 rfl) (by simp)
    ·exact g2.2 hc
   subst hb;exact ⟨g1,fun hc=>by rw[P8 hok.1 hok.2 hc hrs hrs']⟩
  ·cases hkr
 ·cases hkr
theorem Qbo {t:TypeId} {kk:List KK} (h:keyK P t=some (true,kk)):P.keyTypeAt 8 t=true∧flatK P 8 t=some kk∧(match P.underlying t with | some (.array _ _) | some (.struct _)=>true | _=>false)=true:=by
 unfold keyK at h;split at h
 ·cases h
 ·cases h
 ·rename_i hu;split at h
  ·rename_i hk;simp only[QA,Prod.mk.injEq,true_and] at h;obtain ⟨ks,h1,rfl⟩:=h;exact ⟨hk,h1,by rw[hu]⟩
  ·cases h
 ·rename_i hu;split at h
  ·rename_i hk;simp only[QA,Prod.mk.injEq,true_and] at h;obtain ⟨ks,h1,rfl⟩:=h;exact ⟨hk,h1,by rw[hu]⟩
  ·cases h
 ·cases h
theorem AR {kk:List KK} {a b:AV} {r:Bool} (h:JW (true,kk) a b=some r):∃ xs ys,a=.agg xs∧b=.agg ys:=by
 unfold JW at h;split at h
 ·rename_i xs ys hxs hys;exact ⟨xs,ys,by cases a <;> simp[JK] at hxs;rw[hxs],by cases b <;> simp[JK] at hys;rw[hys]⟩
 ·cases h
theorem snd_eqS {t:TypeId} {kk:List KK} {xo yo:Operand} {x y:Value} {avs:List AV} (h:HRel m X σ w) (hg:P.eqGuardType P.depth t=false) (hk:keyK P t=some (true,kk)) (ha:QK m X w avs [x,y])
  (hs:ZQ (.eqS false (true,kk)) avs σ=some (r,σ')):YP P (do pure (.value (← (do eqGuard .eql t xo yo x y;binOp .eql t x y)))) m X σ w r σ':=by
 simp only[ZQ,OI] at hs;split at hs
 ·rename_i a b;simp only[QA] at hs;obtain ⟨v,hv,he⟩:=hs;cases he;obtain ⟨x',us,hx,hr,hus⟩:=ha.cons;cases hx;obtain ⟨y',hy,hra⟩:=hus.one;cases hy;obtain ⟨k1,k2,k3⟩:=Qbo hk;have he:=(QaA k1 k2 k3 hr hra v hv).1;obtain ⟨xs,ys,rfl,rfl⟩:=AR hv;simp only[VRel] at hr hra;obtain ⟨vs,rfl,_⟩:=hr;obtain ⟨us,rfl,_⟩:=hra;refine ZG h (v:=.bool v) ?_ (by simpa using VRel.mk_bool _);simp[eqGuard,binOp,he,hg]
 ·cases hs
theorem snd_neS {t:TypeId} {kk:List KK} {xo yo:Operand} {x y:Value} {avs:List AV} (h:HRel m X σ w) (hg:P.eqGuardType P.depth t=false) (hk:keyK P t=some (true,kk)) (ha:QK m X w avs [x,y])
  (hs:ZQ (.eqS true (true,kk)) avs σ=some (r,σ')):YP P (do pure (.value (← (do eqGuard .neq t xo yo x y;binOp .neq t x y)))) m X σ w r σ':=by
 simp only[ZQ,OI] at hs;split at hs
 ·rename_i a b;simp only[QA] at hs;obtain ⟨v,hv,he⟩:=hs;cases he;obtain ⟨x',us,hx,hr,hus⟩:=ha.cons;cases hx;obtain ⟨y',hy,hra⟩:=hus.one;cases hy;obtain ⟨k1,k2,k3⟩:=Qbo hk;have he:=(QaA k1 k2 k3 hr hra v hv).1;obtain ⟨xs,ys,rfl,rfl⟩:=AR hv;simp only[VRel] at hr hra;obtain ⟨vs,rfl,_⟩:=hr;obtain ⟨us,rfl,_⟩:=hra;refine ZG h (v:=.bool (!v)) ?_ (by simpa using VRel.mk_bool _);simp[eqGuard,binOp,he,hg]
 ·cases hs
theorem II {σ:List AObj} {l:Nat} {s:ByteArray} {p:Nat} (h:RH σ l=some (s,p)):σ[l]? = some (.siter s p):=by
 unfold RH at h;split at h
 ·rename_i s' p' ho;cases h;exact ho
 ·cases h
theorem LY {r:Nat} {s:ByteArray} {p:Nat} (h:w.heap[r]? = some (.stringIter s p)):(getObj r).run P w=.ok (.stringIter s p) w:=by simp[getObj,Sem.run,h]
theorem SI {r:Nat} {s:ByteArray} {p:Nat} (o:Obj) (h:w.heap[r]? = some (.stringIter s p)):(setObj r o).run P w=.ok () (w.putObj r o):=by simp[setObj,Sem.run,h,World.putObj]
theorem snd_rstr {t:TypeId} {x:Value} {avs:List AV} (h:HRel m X σ w) (hu:P.underlying t=some .string) (ha:QK m X w avs [x])
  (hs:F6 avs σ=some (r,σ')):YP P (do pure (.value (← Instr.range t x))) m X σ w r σ':=by
 unfold F6 at hs;split at hs
 ·rename_i s;cases hs;obtain ⟨v,hv,hr⟩:=ha.one;cases hv;simp only[VRel,CV.rep] at hr;subst hr;obtain ⟨h1,h2,h3⟩:=h.alloc (.stringIter s 0) (.siter s 0) (fun hm=>by simp only[ORel];exact heap_alloc_new _ _);refine W7 (v:=.pointer (some ⟨w.heap.size,0,none⟩)) ?_ ?_ h1 h2
  ·simp[Instr.range,QY hu]
  ·simp only[VRel];exact ⟨_,LM.put_same _ _ _,rfl⟩
 ·cases hs
theorem Qe4 {ty:TypeId} {x:Value} {avs:List AV} (h:HRel m X σ w) (ha:QK m X w avs [x])
  (hs:KX avs σ=some (r,σ')):YP P (do pure (.value (← Instr.next x true ty))) m X σ w r σ':=by
 unfold KX at hs;split at hs
 ·rename_i l;obtain ⟨v,hv,hr⟩:=ha.one;cases hv;simp only[VRel] at hr;obtain ⟨b,hb,rfl⟩:=hr;simp only[QA] at hs;obtain ⟨⟨s,p⟩,hsp,he⟩:=hs;have ho:=II hsp;have hob:=h.obj l _ ho;rw[hb] at hob;simp only[ORel] at hob;by_cases hlt:p<s.size
  ·simp only[hlt,if_true] at he;cases he;have ht:YZ w (w.putObj b (.stringIter s (p+(Utf8.decode s p).2))) b:=YZ.obj w _ hob (by simp);obtain ⟨q1,q2,q3⟩:=h.turn hb ho trivial ht (o':=.siter s (p+(Utf8.decode s p).2)) (fun hm=>by
    simp only[ORel];exact World.putObj_heap_same (lt_of_heap hob))
   refine W7 (v:=.tuple #[.bool true,.int .i64 p,.int .i32 (Utf8.decode s p).1]) ?_ ?_ q1 q2
   ·simp[Instr.next,LY hob,hlt,SI _ hob,goInt]
   ·simp only[VRel];exact ⟨_,rfl,by simp[QK,VRel,CV.rep]⟩
  ·simp only[hlt,if_false] at he;cases he;refine ZG h (v:=.tuple #[.bool false]) ?_ (by simp only[VRel];exact ⟨_,rfl,by simp[QK,VRel,CV.rep]⟩);simp[Instr.next,LY hob,hlt]
 ·cases hs
end Go.Proofs.YtgkidpolomhghaaGreatDoor.AM
namespace Go.Proofs.YtgkidpolomhghaaGreatDoor.AM
variable [Dr]
open Go
variable {P:Program} {m:LM} {X:Nat→Prop} {σ σ':List AObj} {w:World} {r:AV}
theorem Qbi (ρ:Operand→Value) (ps:Array (Nat × Operand)):ps.map (fun (i,x)=>(i,ρ x))=((ps.toList.map fun p=>(p.1,ρ p.2))).toArray:=by
 apply Array.ext';simp
theorem NW {P:Program} {fs:Array Field}:∀ (ps:List (Nat × Operand)) (ρ:Operand→Value) (pl:List (Nat × Nat)),(ps.mapM fun p=>(fs[p.1]?).bind fun f=>(P.info? f.type).map fun i=>(f.offset,i.size))=some pl →
  (ps.map fun p=>(p.1,ρ p.2)).mapM (fun p=>(fs[p.1]?).map fun (f:Field)=>(f.offset,P.cellsOf f.type))=some pl
 | [],ρ,pl,h=>by simpa using h
 | p::ps,ρ,pl,h=>by simp only[WV,Option.bind_eq_bind,QB,Option.pure_def,Option.some.injEq,QA] at h;obtain ⟨q,⟨f,hf,i,hi,rfl⟩,pl',hpl,rfl⟩:=h;simp only[Q0,WV,hf,Option.map_some,Option.bind_eq_bind,Option.bind_some,NW ps ρ pl' hpl,Option.pure_def];simp[Program.cellsOf,hi]
theorem QcY {ρ:Operand→Value} {args:Array Operand} {avs:List AV} (ha:QK m X w avs (args.toList.map ρ)) (hl:avs.length=3):∃ x y z,args.map ρ = #[x,y,z]∧QK m X w avs [x,y,z]:=by
 have h1:=ha.length;obtain ⟨l⟩:=args
 match l,h1 with
 | [a,b,c],_=>exact ⟨ρ a,ρ b,ρ c,by simp,ha⟩
 | [],h1=>simp only[ZK,List.length_cons,List.length_nil] at h1;omega
 | [a],h1=>simp only[ZK,List.length_cons,List.length_nil] at h1;omega
 | [a,b],h1=>simp only[ZK,List.length_cons,List.length_nil] at h1;omega
 | a::b::c::d::l,h1=>simp only[ZK,List.length_cons] at h1;omega
theorem FN {ρ:Operand→Value} {args:Array Operand} {avs:List AV} (ha:QK m X w avs (args.toList.map ρ)) (hl:avs.length=2):∃ x y,args.map ρ = #[x,y]∧QK m X w avs [x,y]:=by
 have h1:=ha.length;obtain ⟨l⟩:=args
 match l,h1 with
 | [a,b],_=>exact ⟨ρ a,ρ b,by simp,ha⟩
 | [],h1=>simp only[ZK,List.length_cons,List.length_nil] at h1;omega
 | [a],h1=>simp only[ZK,List.length_cons,List.length_nil] at h1;omega
 | a::b::c::l,h1=>simp only[ZK,List.length_cons,List.length_nil] at h1;omega
theorem Qaa {ρ:Operand→Value} {args:Array Operand} {avs:List AV} (ha:QK m X w avs (args.toList.map ρ)) (hl:avs.length=1):∃ x,args.map ρ = #[x]∧QK m X w avs [x]:=by
 have h1:=ha.length;obtain ⟨l⟩:=args
 match l,h1 with
 | [a],_=>exact ⟨ρ a,by simp,ha⟩
 | [],h1=>simp only[ZK,List.length_cons,List.length_nil] at h1;omega
 | a::b::l,h1=>simp only[ZK,List.length_cons,List.length_nil] at h1;omega
theorem SN {b:Builtin} {argTypes:Array TypeId} {args:Array Operand} {t:TypeId} {io:IOp} {ρ:Operand→Value} {avs:List AV} (hc:GG P b argTypes.toList=some io) (h:HRel m X σ w) (ha:QK m X w avs (args.toList.map ρ)) (hs:ZQ io avs σ=some (r,σ')) :
  YP P (do let d ← resolve ρ { callee:=.builtin b,args,argTypes } t;invoke d.target d.args) m X σ w r σ':=by
 have key:∀ {s:Sem Next},(∀ cs,builtin b argTypes t cs (args.map ρ)=s)→YP P s m X σ w r σ'→YP P (do let d ← resolve ρ { callee:=.builtin b,args,argTypes } t;invoke d.target d.args) m X σ w r σ':=by rintro s hb ⟨nx,w',m',h1,h2⟩;refine ⟨nx,w',m',?_,h2⟩;simp only[resolve,Sem.run_bind,Sem.run_pure,Result.andThen_ok,invoke,hb];exact h1
 unfold GG at hc;split at hc
 ·rename_i st hat;have hat':argTypes = #[st]:=by apply Array.ext';simpa using hat
  subst hat';have hl:avs.length=1:=by split at hc <;> first | (cases hc;done) | (cases hc;simp only[ZQ,RZ] at hs;split at hs <;> first | (cases hs;done) | rfl)
  obtain ⟨x,hx,hv⟩:=Qaa ha hl;refine key (fun cs=>by rw[hx];rfl) ?_;split at hc
  ·rename_i hu;cases hc;exact QdW (t:=t) h (.inr ⟨rfl,hu⟩) hv hs
  ·rename_i e hu;cases hc;exact QdW (t:=t) h (.inl ⟨rfl,e,hu⟩) hv hs
  ·cases hc
 ·cases hc;have hl:avs.length=2:=by
   simp only[ZQ,DJ] at hs;split at hs <;> first | (cases hs;done) | rfl
  obtain ⟨x,y,hx,hv⟩:=FN ha hl;exact key (fun cs=>by rw[hx];rfl) (snd_min2 (at_:=argTypes) (t:=t) h hv hs)
 iterate 2
  cases hc;have hl:avs.length=2∨avs.length=3:=by simp only[ZQ,GT] at hs;split at hs <;> first | (cases hs;done) | exact .inl rfl | exact .inr rfl
  rcases hl with hl | hl
  ·obtain ⟨x,y,hx,hv⟩:=FN ha hl;exact key (fun cs=>by rw[hx];rfl) (snd_max2 (at_:=argTypes) (t:=t) h hv hs)
  ·obtain ⟨x,y,z,hx,hv⟩:=QcY ha hl;exact key (fun cs=>by rw[hx];rfl) (snd_max3 (at_:=argTypes) (t:=t) h hv hs)
 ·rename_i st xt hat;have hat':argTypes = #[st,xt]:=by apply Array.ext';simpa using hat
  subst hat';split at hc
  ·rename_i e e' hu hxu;simp only[QB] at hc;obtain ⟨i,hi,z,hz,hc⟩:=hc;split at hc
   ·rename_i hcond;cases hc;have hl:avs.length=2:=by
     simp only[ZQ,ZX] at hs;split at hs <;> first | (cases hs;done) | rfl
    obtain ⟨x,y,hx,hv⟩:=FN ha hl;exact key (fun cs=>by rw[hx];rfl) (SH (ty:=t) h hu hxu hi hz hcond.1 hcond.2.1 hcond.2.2 hv hs)
   ·cases hc
  ·rename_i e hu hxu;simp only[QB] at hc;obtain ⟨i,hi,z,hz,hc⟩:=hc;split at hc
   ·rename_i hcond;cases hc;have hl:avs.length=2:=by
     simp only[ZQ,ZX] at hs;split at hs <;> first | (cases hs;done) | rfl
    obtain ⟨x,y,hx,hv⟩:=FN ha hl;exact key (fun cs=>by rw[hx];rfl) (BO (ty:=t) h hu hxu hi hz hcond.1 hcond.2.1 hcond.2.2 hv hs)
   ·cases hc
  ·rename_i e kn hu hxu;simp only[QB] at hc;obtain ⟨i,hi,z,hz,hc⟩:=hc;split at hc
   ·rename_i hcond;cases hc;have hl:avs.length=2:=by
     simp only[ZQ,VQ] at hs;split at hs <;> first | (cases hs;done) | rfl
    obtain ⟨x,y,hx,hv⟩:=FN ha hl;exact key (fun cs=>by rw[hx];rfl) (Qb0 (ty:=t) h hu hxu hi hz hcond.1 hcond.2.1 hcond.2.2 hv hs)
   ·cases hc
  ·cases hc
 ·rename_i dt st hat;have hat':argTypes = #[dt,st]:=by apply Array.ext';simpa using hat
  subst hat';split at hc
  ·rename_i e hu;simp only[QA] at hc;obtain ⟨i,hi,he⟩:=hc;cases he;have hl:avs.length=2:=by
    simp only[ZQ,UE] at hs;split at hs <;> first | (cases hs;done) | rfl
   obtain ⟨x,y,hx,hv⟩:=FN ha hl;exact key (fun cs=>by rw[hx];rfl) (snd_copy (st:=st) (ty:=t) h hu hi hv hs)
  ·cases hc
 ·rename_i st hat;have hat':argTypes = #[st]:=by apply Array.ext';simpa using hat
  subst hat';split at hc
  ·rename_i e hu;simp only[QB] at hc;obtain ⟨i,hi,z,hz,hc⟩:=hc;split at hc
   ·rename_i hcond;cases hc;have hl:avs.length=1:=by
     simp only[ZQ,UN] at hs;split at hs <;> first | (cases hs;done) | rfl
    obtain ⟨x,hx,hv⟩:=Qaa ha hl;exact key (fun cs=>by rw[hx];rfl) (Qea (ty:=t) h hu hi hz hcond.1 hcond.2 hv hs)
   ·cases hc
  ·cases hc
 ·rename_i st hat;have hat':argTypes = #[st]:=by apply Array.ext';simpa using hat
  subst hat';split at hc
  ·rename_i e hu;cases hc;have hl:avs.length=1:=by
    simp only[ZQ,NZ] at hs;split at hs <;> first | (cases hs;done) | rfl
   obtain ⟨x,hx,hv⟩:=Qaa ha hl;exact key (fun cs=>by rw[hx];rfl) (snd_cap (t:=t) h hu hv hs)
  ·cases hc
 ·rename_i dt st hat;have hat':argTypes = #[dt,st]:=by apply Array.ext';simpa using hat
  subst hat';split at hc
  ·rename_i kt e hu;simp only[QA] at hc;obtain ⟨ks,hks,he⟩:=hc;cases he;have hl:avs.length=2:=by
    simp only[ZQ,J0] at hs;split at hs <;> first | (cases hs;done) | rfl
   obtain ⟨x,y,hx,hv⟩:=FN ha hl;exact key (fun cs=>by rw[hx];rfl) (Qc5 (t2:=st) (ty:=t) h hu hks hv hs)
  ·cases hc
 ·cases hc
theorem FV {cm:Bool} {o:Oper} {io:IOp} {os:List Operand} {ρ:Operand→Value} {avs:List AV} (hc:TV P cm o=some (io,os)) (h:HRel m X σ w) (ha:QK m X w avs (os.map ρ)) (hs:ZQ io avs σ=some (r,σ')) :
  YP P (execOp ρ o) m X σ w r σ':=by
 unfold TV at hc;unfold execOp;split at hc
 ·rename_i x ho;cases hc;rw[ho];simp only[ZQ,f_mv] at hs;split at hs <;> cases hs
  obtain ⟨v,hv,hr⟩:=ha.one;cases hv;exact FQ h (by simp) hr
 ·rename_i x ho;cases hc;rw[ho];simp only[ZQ,f_mv] at hs;split at hs <;> cases hs
  obtain ⟨v,hv,hr⟩:=ha.one;cases hv;exact FQ h (by simp) hr
 ·rename_i c a b ho;cases hc;rw[ho];simp only[ZQ,P4] at hs;split at hs <;> cases hs
  obtain ⟨v,us,hv,hr,hus⟩:=ha.cons;cases hv;obtain ⟨v,us,hv,hr2,hus⟩:=hus.cons;cases hv;obtain ⟨v,hv,hr3⟩:=hus.one;cases hv;have hb:=hr.bool;have key:∀ cb:Bool,ρ c=.bool cb→∀ av bv:AV,VRel m X w av (ρ a)→VRel m X w bv (ρ b)→YP P (do pure (.value (if ← asBool (ρ c) then ρ a else ρ b))) m X σ w (if cb then av else bv) σ:=by
   intro cb hcb av bv h1 h2;refine ⟨.value (if cb then ρ a else ρ b),w,m,?_,.inl ⟨_,rfl,?_⟩,h,Step.refl _ _ _ _⟩
   ·rw[hcb];cases cb <;> simp[asBool]
   ·cases cb <;> simpa
  exact key _ hb _ _ hr2 hr3
 ·rename_i t ho;rw[ho];simp only[QA] at hc;obtain ⟨z,hz,he⟩:=hc;cases he;exact Qeb h hz hs
 ·rename_i t x ho;cases hc;rw[ho];exact snd_box h ha hs
 ·rename_i t ps ho;rw[ho];dsimp only;rw[Qbi];split at hc
  ·rename_i fs z hu hz;split at hc
   ·cases hc
   rename_i hfs;simp only[QA] at hc;obtain ⟨pl,hpl,he⟩:=hc;cases he;unfold zeroOf at hz;simp only[QB,QA] at hz;obtain ⟨i,hi,z0,hz0,rfl⟩:=hz;have hall:∀ cells:Array Value,Instr.fill (fun k=>(fs[k]?).map fun (f:Field)=>(f.offset,P.cellsOf f.type)) z0.cells (ps.toList.map fun p=>(p.1,ρ p.2))=some cells→(Instr.build t ((ps.toList.map fun p=>(p.1,ρ p.2))).toArray).run P w=.ok (.agg cells) w:=by intro cells hf;refine OZ hu hi hz0 ?_ hf;intro f hf;have h0:=hfs;simp only[Bool.not_eq_false,Q1] at h0;exact h0 f hf
   exact S1 h hi hz0 hall (NW _ ρ pl hpl) (by rw[XW] at ha ⊢;exact ha) hs
  ·rename_i n e z hu hz;simp only[QA] at hc;obtain ⟨j,hj,he⟩:=hc;cases he;unfold zeroOf at hz;simp only[QB,QA] at hz;obtain ⟨i,hi,z0,hz0,rfl⟩:=hz;refine S1 (place:=fun k=>some (k*j.size,j.size)) h hi hz0 (fun cells hf=>MC hu hi hz0 hj hf) ?_ (by rw[XW] at ha ⊢;exact ha) hs;generalize ps.toList=l
   induction l with
   | nil=>rfl
   | cons p l ih=>simp only[Q0,WV,Option.bind_eq_bind,Option.bind_some,ih,Option.pure_def]
  ·cases hc
 ·rename_i t len ps ho;rw[ho];dsimp only;rw[Qbi];split at hc
  ·rename_i e hu;simp only[QB] at hc;obtain ⟨i,hi,z,hz,hc⟩:=hc;split at hc
   ·rename_i hcond;cases hc;obtain ⟨hbig,hsz,hpos⟩:=hcond;exact Qc6 h hu hi hz hsz hpos hbig (by simp[XW]) (by rw[XW] at ha ⊢;exact ha) hs
   ·cases hc
  ·cases hc
 ·rename_i t a ho;rw[ho];simp only[QB] at hc;obtain ⟨g,hg,hc⟩:=hc;cases g with
  | true =>
   simp only[if_true,QA] at hc;obtain ⟨i,hi,he⟩:=hc;cases he;exact Qe7 h hg hi ha hs
  | false =>
   simp only[QT,if_false] at hc;cases hc;exact Qe8 h hg ha hs
 ·rename_i t a x ho;rw[ho];simp only[QA] at hc;obtain ⟨i,hi,he⟩:=hc;cases he;have hr:r=.undef:=by
   simp only[ZQ,UM] at hs;split at hs
   ·simp only[QB] at hs;obtain ⟨cs,_,hs⟩:=hs;split at hs <;> cases hs;rfl
   ·cases hs
  subst hr;exact Qe3 h hi ha hs
 ·rename_i x ho;cases hc;rw[ho];simp only[ZQ,G4] at hs;split at hs
  ·cases hs;obtain ⟨v,hv,hr⟩:=ha.one;cases hv;have hr0:=hr;simp only[VRel] at hr;obtain ⟨b,hb,he⟩:=hr;exact FQ h (v:=ρ x) (by simp[he]) hr0
  ·cases hs;obtain ⟨v,hv,hr⟩:=ha.one;cases hv;have hr0:=hr;simp only[VRel,CV.rep] at hr;obtain ⟨b,he,_⟩:=hr;exact FQ h (v:=ρ x) (by simp[he]) hr0
  ·cases hs;obtain ⟨v,hv,hr⟩:=ha.one;cases hv;have hr0:=hr;simp only[VRel] at hr;obtain ⟨vs,he,_⟩:=hr;exact FQ h (v:=ρ x) (by simp[he]) hr0
  ·cases hs
 ·rename_i op t x y yt ho;rw[ho];split at hc
  ·rename_i tk htk;cases hc;simp only[ZQ,OJ] at hs;split at hs
   ·simp only[QA] at hs;obtain ⟨v,hv,he⟩:=hs;cases he;obtain ⟨x',us,hx,hr,hus⟩:=ha.cons;cases hx;obtain ⟨y',hy,hra⟩:=hus.one;cases hy;obtain ⟨v',hv',hrr⟩:=QdH (P:=P) (xo:=x) (yo:=y) htk hr hra hv;exact ZG h hv' hrr
   ·have:=ha.length;simp at this
   ·cases hs
  ·split at hc
   ·cases hc
   ·rename_i hgd;have hgd:P.eqGuardType P.depth t=false:=by simpa using hgd
    split at hc
    ·rename_i ks hks;cases hc;exact snd_eqS (xo:=x) (yo:=y) h hgd hks ha hs
    ·rename_i ks hks;cases hc;exact snd_neS (xo:=x) (yo:=y) h hgd hks ha hs
    ·cases hc
 ·rename_i t x ho;cases hc;rw[ho];simp only[ZQ,CN] at hs;split at hs <;> cases hs
  obtain ⟨v,hv,hr⟩:=ha.one;cases hv;have hb:=hr.bool;exact ZG h (v:=_) (by rw[hb];simp[Op.unary]) (VRel.mk_bool _)
 ·rename_i t x ho;rw[ho];simp only[QB] at hc;obtain ⟨tk,htk,hc⟩:=hc;split at hc
  ·cases hc;simp only[ZQ,OJ] at hs;split at hs
   ·have:=ha.length;simp at this
   ·simp only[binI,Option.map_some,Option.some.injEq,Prod.mk.injEq] at hs;obtain ⟨rfl,rfl⟩:=hs;obtain ⟨v,hv,hr⟩:=ha.one;cases hv;have hb:=hr.int;exact ZG h (v:=_) (by rw[hb];simp[Op.unary,Op.intArith]) (VRel.mk_int _ _)
   ·cases hs
  ·cases hc
 ·rename_i s t x ho;rw[ho];split at hc
  ·rename_i d k hu1 hu2;cases hc;simp only[ZQ,P5] at hs;split at hs <;> cases hs
   obtain ⟨v,hv,hr⟩:=ha.one;cases hv;have hb:=hr.int;exact ZG h (v:=_) (by rw[hb];simp[Go.convert,QY hu1,QY hu2,Conv.intToInt]) (VRel.mk_int _ _)
  ·cases hc
 ·rename_i f first captured ho
  rw[ho];split at hc
  ·rename_i hfirst;cases hc;simp only[ZQ,NI] at hs;cases hs;refine ZG h (v:=.func f #[] (captured.map ρ)) ?_ ?_
   ·have:first = #[]:=by simpa using hfirst
    simp only[Instr.makeFunc,this,Array.map_empty];rfl
   ·simp only[VRel];exact ⟨captured.toList.map ρ,by rw[show captured.map ρ=(captured.toList.map ρ).toArray from by apply Array.ext';simp],ha⟩
  ·split at hc
   ·rename_i hcap;split at hc
    ·rename_i g;cases hc;simp only[ZQ,NJ] at hs;cases hs;refine ZG h (v:=.func (.func g) (first.map ρ) #[]) ?_ ?_
     ·have:captured = #[]:=by simpa using hcap
      simp only[Instr.makeFunc,this,Array.map_empty];rfl
     ·simp only[VRel];exact ⟨first.toList.map ρ,by rw[show first.map ρ=(first.toList.map ρ).toArray from by apply Array.ext';simp],ha⟩
    ·cases hc
   ·cases hc
 ·rename_i t ho;cases hc;rw[ho];exact Qe6 h hs
 ·rename_i t x ix ok ho;rw[ho];split at hc
  ·rename_i kt e hu;simp only[QB,QA] at hc;obtain ⟨ks,hks,z,hz,he⟩:=hc;cases he;exact BN h hu hks hz ha hs
  ·cases hc
 ·rename_i t x k v ho;rw[ho];split at hc
  ·rename_i kt e hu;simp only[QA] at hc;obtain ⟨ks,hks,he⟩:=hc;cases he;exact Qc4 h hu hks ha hs
  ·cases hc
 ·rename_i t l c ho;rw[ho];split at hc
  ·rename_i e hu;simp only[QB] at hc;obtain ⟨i,hi,z,hz,hc⟩:=hc;split at hc
   ·rename_i hcond;cases cm with
    | true=>cases hc;exact QaY h hu hi hz hcond.1 hcond.2 ha hs
    | false=>cases hc;exact QbZ h hu hi hz hcond.1 hcond.2 ha hs
   ·cases hc
  ·cases hc
 ·rename_i t x lo hi ho;rw[ho];have ha':∀ (a:List AV),QK m X w a ((x::(lo.toList++hi.toList)).map ρ)→QK m X w a (ρ x::((lo.map ρ).toList++(hi.map ρ).toList)):=by
   intro a;cases lo <;> cases hi <;> simp
  have e1:lo.isSome=(lo.map ρ).isSome:=by cases lo <;> rfl
  have e2:hi.isSome=(hi.map ρ).isSome:=by cases hi <;> rfl
  split at hc
  ·rename_i n e hu;simp only[QA] at hc;obtain ⟨i,hi',he⟩:=hc;cases he;rw[e1,e2] at hs;exact snd_slA h hu hi' (ha' _ ha) hs
  ·rename_i e hu;simp only[QA] at hc;obtain ⟨i,hi',he⟩:=hc;cases he;rw[e1,e2] at hs;exact snd_slS h hu hi' (ha' _ ha) hs
  ·rename_i hu;cases hc;rw[e1,e2] at hs;exact Qe5 h hu (ha' _ ha) hs
  ·cases hc
 ·rename_i t x lo hi mx ho;rw[ho];split at hc
  ·rename_i e hu;simp only[QA] at hc;obtain ⟨i,hi',he⟩:=hc;cases he;exact snd_slS3 h hu hi' ha hs
  ·cases hc
 ·rename_i s x f ho;rw[ho];split at hc
  ·rename_i fs hu;simp only[QB] at hc;obtain ⟨fd,hf,i,hi,hc⟩:=hc;split at hc
   ·rename_i h0;cases hc;exact snd_fadd h hu hf hi h0 ha hs
   ·cases hc
  ·cases hc
 ·rename_i s x f ho;rw[ho];split at hc
  ·rename_i fs hu;simp only[QB,QA] at hc;obtain ⟨fd,hf,i,hi,g,hg,he⟩:=hc;cases he;exact snd_fld h hu hf hi hg ha hs
  ·cases hc
 ·rename_i t x ix ho;rw[ho];split at hc
  ·rename_i n e hu;simp only[QA] at hc;obtain ⟨i,hi,he⟩:=hc;cases he;exact snd_iaA h hu hi ha hs
  ·rename_i e hu;simp only[QA] at hc;obtain ⟨i,hi,he⟩:=hc;cases he;exact snd_iaS h hu hi ha hs
  ·cases hc
 ·rename_i t x ix ho;rw[ho];split at hc
  ·rename_i n e hu;simp only[QB,QA] at hc;obtain ⟨i,hi,g,hg,he⟩:=hc;cases he;exact snd_ixA h hu hi hg ha hs
  ·rename_i hu;cases hc;exact Qe9 h hu ha hs
  ·cases hc
 ·rename_i t i ho;cases hc;rw[ho];simp only[ZQ,U6] at hs;split at hs
  ·simp only[QA] at hs;obtain ⟨a,haa,he⟩:=hs;cases he;obtain ⟨v,hv,hr⟩:=ha.one;cases hv;simp only[VRel] at hr;obtain ⟨vs,he,hrs⟩:=hr;obtain ⟨v,hv,hr⟩:=hrs.get _ _ haa;refine ZG h (v:=v) ?_ hr;rw[he];simp[Instr.extract,hv]
  ·cases hs
 ·rename_i b args at_ ho
  rw[ho];simp only[QA] at hc;obtain ⟨io',hio,he⟩:=hc;cases he;exact SN hio h ha hs
 ·rename_i t x ho;rw[ho];split at hc
  ·rename_i hu;cases hc;exact snd_rstr h hu ha hs
  ·cases hc
 ·rename_i it ho;cases hc;rw[ho];exact Qe4 h ha hs
 ·cases hc;simp only[ZQ] at hs;cases hs
 ·cases hc;simp only[ZQ] at hs;cases hs
 ·split at hc
  ·simp only[QB,QA] at hc;obtain ⟨_,_,_,_,he⟩:=hc;cases he;simp only[ZQ] at hs;cases hs
  ·cases hc
 ·cases hc;simp only[ZQ] at hs;cases hs
 ·cases hc
end Go.Proofs.YtgkidpolomhghaaGreatDoor.AM
namespace Go.Proofs.YtgkidpolomhghaaGreatDoor.AM
set_option linter.unusedSectionVars false
variable [Dr]
open Go
set_option linter.unusedVariables false
set_option linter.unusedSimpArgs false
structure Fx where
 vars:List Nat
 N:Nat
 r:Option Nat
 n0:Nat
structure St where
 vals:List AV
 heap:List AObj
structure En where
 n:Nat
 ds:List Deferred
def DRel (m:LM) (X:Nat→Prop) (e:En) (w:World) (ds:List Deferred):Prop :=
 ∃ bs:List Nat,ds=bs.map (fun b=>{ target:=.collected b,args:=#[] })++e.ds∧bs.Nodup∧∀ b∈bs,e.n≤b∧b<w.heap.size∧w.heap[b]? = some (.deferred (some []))∧¬ Own m X b
structure SRel (fx:Fx) (m:LM) (X:Nat→Prop) (e:En) (s:St) (ac:Act) (w:World):Prop where
 size:ac.tmps.size=fx.N
 vars:ARel m X w fx.vars s.vals ac.tmps
 defs:DRel m X e w ac.defers
 heap:HRel m X s.heap w
 base:fx.n0≤s.heap.length
 entry:e.n≤w.heap.size
theorem DRel.step {m m':LM} {X:Nat→Prop} {e:En} {n0:Nat} {w w':World} {ds:List Deferred} (h:DRel m X e w ds) (hs:Step n0 m X w m' w'):DRel m' X e w' ds:=by
 obtain ⟨bs,h1,h2,h3⟩:=h;refine ⟨bs,h1,h2,fun b hb=>?_⟩;obtain ⟨g1,g2,g3,g4⟩:=h3 b hb;refine ⟨g1,Z6 g2 hs.size,by rw[hs.fr b g2 (.inr fun l hl=>g4 (.inr ⟨l,hl⟩))];exact g3,?_⟩;rintro (hx | ⟨l,hl⟩)
 ·exact g4 (.inl hx)
 ·rcases hs.new l b hl with ⟨l',hl'⟩ | hge
  ·exact g4 (.inr ⟨l',hl'⟩)
  ·omega
def fen (m:LM) (r:Option Nat):Fence:={ Fence.wide with round:=r.bind m }
def rok (fx:Fx) (m:LM):Prop:=∀ l,fx.r=some l→l<fx.n0∧∃ b,m l=some b
theorem EQ {fx:Fx} {m m':LM} {X:Nat→Prop} {w w':World} (h:rok fx m) (hs:Step fx.n0 m X w m' w'):fen m' fx.r=fen m fx.r:=by
 unfold fen;cases hr:fx.r with
 | none=>rfl
 | some l=>simp[hs.keep l (h l hr).1]
theorem EH {fx:Fx} {m m':LM} {X:Nat→Prop} {w w':World} (h:rok fx m) (hs:Step fx.n0 m X w m' w'):rok fx m':=fun l hl=>by
 obtain ⟨h1,b,h2⟩:=h l hl;exact ⟨h1,b,by rw[hs.keep l h1];exact h2⟩
def Lift (fx:Fx) (m:LM) (X:Nat→Prop) (en:En) (w:World) (Q:Exit→St→Prop):Exit→Act→World→Prop :=
 fun e ac' w'=>∃ s' m',Q e s'∧SRel fx m' X en s' ac' w'∧Step fx.n0 m X w m' w'
def W (P:Program) (fx:Fx) (c:Code) (s:St) (Q:Exit→St→Prop):Prop :=
 ∀ m X en ac w,SRel fx m X en s ac w→rok fx m→c.wpIn (fen m fx.r) 0 P (Lift fx m X en w Q) ac w
def PI (P:Program) (f:FuncId):Prop:=∀ (args:Array Value) (w:World),(callFunc f args).run P w=.ok (.enter f args) w
def OT (m:LM) (X:Nat→Prop) (w:World) (σ:List AObj) (Q:AV→List AObj→Prop):Ending→World→Prop :=
 fun e w'=>∃ c r σ' m',e=.returned c∧Q r σ'∧VRel m' X w' r c∧HRel m' X σ' w'∧Step σ.length m X w m' w'∧σ.length≤σ'.length
def AC (P:Program) (f:FuncId) (args:List AV) (σ:List AObj) (Q:AV→List AObj→Prop):Prop :=
 PI P f∧∀ m X w cargs,QK m X w args cargs→HRel m X σ w→CallsIn Fence.wide 0 P f cargs.toArray w (OT m X w σ Q)
def YC (P:Program) (l:Nat) (args:List AV) (σ:List AObj) (Q:AV→List AObj→Prop):Prop :=
 ∀ m X w cargs b,m l=some b→QK m X w args cargs→HRel m X σ w→∃ L:Loop,w.heap[b]? = some (.loop L)∧cargs.length=L.params.size ∧
  RoundIn Fence.wide 0 P b L.fn ((L.params.zip cargs.toArray).foldl (fun tmps (t,a)=>tmps.setIfInBounds t a) L.tmps) L.assign L.body w (OT m X w σ Q)
def X0 (P:Program) (fv:AV) (args:List AV) (σ:List AObj) (Q:AV→List AObj→Prop):Prop :=
 match fv with
 | .fn (.func f) cap=>AC P f (args++cap) σ Q
 | .bm f first=>AC P f (first++args) σ Q
 | .yld l=>YC P l args σ Q
 | _=>False
theorem AC.mono {P:Program} {f:FuncId} {args:List AV} {σ:List AObj} {Q Q':AV→List AObj→Prop} (h:AC P f args σ Q) (hq:∀ r σ',Q r σ'→Q' r σ'):AC P f args σ Q' :=
 ⟨h.1,fun m X w cargs ha hh=>(h.2 m X w cargs ha hh).mono fun e w' ⟨c,r,σ',m',h1,h2,h3⟩=>⟨c,r,σ',m',h1,hq _ _ h2,h3⟩⟩
theorem YC.mono {P:Program} {l:Nat} {args:List AV} {σ:List AObj} {Q Q':AV→List AObj→Prop} (h:YC P l args σ Q) (hq:∀ r σ',Q r σ'→Q' r σ'):YC P l args σ Q' :=
 fun m X w cargs b hb ha hh=>let ⟨L,h1,h2,h3⟩:=h m X w cargs b hb ha hh
  ⟨L,h1,h2,h3.mono fun e w' ⟨c,r,σ',m',h1,h2,h3⟩=>⟨c,r,σ',m',h1,hq _ _ h2,h3⟩⟩
inductive Opd where
 | v (i:Nat)
 | t (j:Nat)
 | c (a:AV)
inductive IK where
 | prim (io:IOp)
 | call
structure Ins where
 dst:Option Nat
 gd:Option (Nat × Bool)
 op:IK
 args:List Opd
def WY (vals ρ:List AV):Opd→AV
 | .v i=>vals.getD i .undef
 | .t j=>ρ.getD j .undef
 | .c a=>a
def setD (dst:Option Nat) (vals:List AV) (v:AV):List AV :=
 match dst with
 | some i=>vals.set i v
 | none=>vals
def gdOk (ρ:List AV):Option (Nat × Bool)→Option Bool
 | none=>some true
 | some (j,want) =>
  match ρ.getD j .undef with
  | .cv (.bool b)=>some (b == want)
  | .tup _=>some false
  | _=>none
def RG (P:Program):List Ins→List AV→List AV→List AObj→(List AV→List AV→List AObj→Prop)→Prop
 | [],vals,ρ,σ,K=>K vals ρ σ
 | i::is,vals,ρ,σ,K =>
  match gdOk ρ i.gd with
  | none=>False
  | some false=>RG P is (setD i.dst vals (.tup [])) (ρ++[.tup []]) σ K
  | some true =>
   match i.op,i.args.map (WY vals ρ) with
   | .prim io,αs =>
    match ZQ io αs σ with
    | some (v,σ')=>RG P is (setD i.dst vals v) (ρ++[v]) σ' K
    | none=>False
   | .call,fv::αs=>X0 P fv αs σ fun v σ'=>RG P is (setD i.dst vals v) (ρ++[v]) σ' K
   | .call,[]=>False
def glV (g:Nat):List (Nat × List CV)→AV
 | []=>.undef
 | (k,cs)::r=>if Nat.beq k g=true then .cv (.rp cs 0) else glV g r
theorem Qat {m:LM} {X:Nat→Prop} {w:World} (g:Nat):∀ l:List (Nat × List CV),(∀ p∈l,CV.reps w (Own m X) p.2 ⟨p.1,0,none⟩ 0)→VRel m X w (glV g l) (.pointer (some ⟨g,0,none⟩))
 | [],_=>by simp[glV,VRel]
 | (k,cs)::r,h=>by
  simp only[glV];split
  ·rename_i e;have e:=ZJ e;subst e;exact ⟨⟨k,0,none⟩,rfl,h (k,cs) (List.mem_cons_self ..)⟩
  ·exact Qat g r fun p hp=>h p (WU _ hp)
def XA (vars:List Nat) (dsts:List (Option Nat)):Operand→Opd
 | .tmp t =>
  match vars.idxOf? t with
  | some i=>.v i
  | none =>
   match dsts.idxOf? (some t) with
   | some j=>.t j
   | none=>.c .undef
 | .const v=>.c (VX v)
 | .func f=>.c (.fn (.func f) [])
 | .global g=>.c (glV g Dr.gl)
def KA (vars:List Nat):Option Nat→Option Nat
 | some t=>vars.idxOf? t
 | none=>none
def QeD (vars:List Nat):Bool :=
 match vars.reverse with
 | a::b::_=>Nat.blt a b
 | _=>false
def JP (P:Program) (vars:List Nat) (dsts:List (Option Nat)) (o:Oper):Option Ins :=
 match o.op with
 | .call { callee:=.value f,args,.. }=>some ⟨KA vars o.dst,o.guard,.call,(f::args.toList).map (XA vars dsts)⟩
 | _=>(TV P (QeD vars) o).map fun x=>⟨KA vars o.dst,o.guard,.prim x.1,x.2.map (XA vars dsts)⟩
def GU (vars:List Nat) (N:Nat) (ops:List Oper):Bool :=
 let ts:=(ops.filterMap (·.dst)).filter fun t=>!vars.contains t
 decide ts.Nodup&&decide vars.Nodup&&(ops.filterMap (·.dst)).all (· < N)&&vars.all (· < N) &&
 ops.all fun o=>match o.guard with
  | none=>true
  | some (j,_)=>match (ops[j]?).bind (·.dst) with
   | some t=>!vars.contains t
   | none=>false
def HK (P:Program) (vars:List Nat) (dsts:List (Option Nat)):List Oper→Option (List Ins)
 | []=>some []
 | o::os =>
  match JP P vars dsts o with
  | none=>none
  | some i =>
   match HK P vars dsts os with
   | none=>none
   | some is=>some (i::is)
theorem UV (P:Program) (vars:List Nat) (dsts:List (Option Nat)):∀ os,HK P vars dsts os=os.mapM (JP P vars dsts)
 | []=>by simp[HK]
 | o::os=>by
  simp only[HK,WV,UV P vars dsts os,Option.bind_eq_bind,Option.pure_def];cases JP P vars dsts o <;> simp
  cases os.mapM (JP P vars dsts) <;> rfl
def VY (P:Program) (vars:List Nat) (N:Nat) (ops:Array Oper):Option (List Ins) :=
 if GU vars N ops.toList then HK P vars (ops.toList.map (·.dst)) ops.toList else none
def TRel (m:LM) (X:Nat→Prop) (w:World) (vars:List Nat) (ops:List Oper) (ρ:List AV) (tmps:Array Value):Prop :=
 ∀ (j t:Nat),(ops[j]?).bind (·.dst)=some t→t∉vars→VRel m X w (ρ.getD j .undef) (tmps.getD t Go.undef)
theorem Y9 {α:Type} [BEq α] [LawfulBEq α] {l:List α} {a:α} {i:Nat} (h:l.idxOf? a=some i):l[i]? = some a:=by
 rw[List.idxOf?,List.findIdx?_eq_some_iff_getElem] at h;obtain ⟨h1,h2,_⟩:=h;rw[QI h1];simpa using h2
theorem U3 {α:Type} [BEq α] [LawfulBEq α] {l:List α} {a:α} (h:l.idxOf? a=none):a∉l:=by
 rw[List.idxOf?_eq_none_iff] at h;exact h
variable {P:Program} {fx:Fx} {m:LM} {X:Nat→Prop} {w:World}
theorem U7 {vals ρ:List AV} {ops:List Oper} {tmps:Array Value} {ds:List Deferred} (hg:GlOk m X w) (hv:ARel m X w fx.vars vals tmps) (ht:TRel m X w fx.vars ops ρ tmps) (x:Operand) :
  VRel m X w (WY vals ρ (XA fx.vars (ops.map (·.dst)) x)) (Act.eval { tmps,defers:=ds } x):=by
 cases x with
 | tmp t =>
  simp only[XA,Act.eval];split
  ·rename_i i hi;exact hv i t (Y9 hi)
  ·rename_i hi;split
   ·rename_i j hj;have:=Y9 hj;simp only[ZR,QA] at this;obtain ⟨o,ho,hd⟩:=this;exact ht j t (by rw[ho];simpa using hd) (U3 hi)
   ·simp[WY,VRel]
 | const v=>simp only[XA,WY,Act.eval];exact UZ v
 | global g=>simp only[XA,WY,Act.eval];exact Qat g _ hg
 | func f=>simp only[XA,WY,Act.eval,VRel];exact ⟨[],rfl,by simp[QK]⟩
theorem UT {vals ρ:List AV} {ops:List Oper} {a:Act} (hg:GlOk m X w) (hv:ARel m X w fx.vars vals a.tmps) (ht:TRel m X w fx.vars ops ρ a.tmps):∀ (xs:List Operand),
  QK m X w ((xs.map (XA fx.vars (ops.map (·.dst)))).map (WY vals ρ)) (xs.map a.eval)
 | []=>by simp[QK]
 | x::xs=>by simp only[Q0,QK];exact ⟨U7 (ds:=a.defers) hg hv ht x,UT hg hv ht xs⟩
theorem Qd2 {en:En} {s:St} {ρ:List AV} {ops:List Oper} {a:Act} {v:AV} {c:Value} {o:Oper} {j:Nat} (hok:GU fx.vars fx.N ops=true) (ho:ops[j]? = some o) (hj:ρ.length=j)
  (hs:SRel fx m X en s a w) (ht:TRel m X w fx.vars ops ρ a.tmps) (hv:VRel m X w v c) :
  SRel fx m X en { s with vals:=setD (KA fx.vars o.dst) s.vals v } (a.put o.dst c) w∧TRel m X w fx.vars ops (ρ++[v]) (a.put o.dst c).tmps:=by
 unfold GU at hok;simp only[QD,decide_eq_true_eq,Q1] at hok;obtain ⟨⟨⟨⟨hnd,hvn⟩,hlt⟩,hvlt⟩,hg⟩:=hok;have ρget:∀ k,k≠j→(ρ++[v]).getD k .undef=ρ.getD k .undef:=by
  intro k hk;rcases ZB k ρ.length with h | h
  ·simp[List.getD,QE h]
  ·have h1:ρ.length<k:=by omega
   simp only[List.getD];rw[QS (by omega),QN (l:=ρ) (by omega),QN (by simp;omega)]
 have ρj:(ρ++[v]).getD j .undef=v:=by simp only[List.getD];rw[QS (by omega)];simp[hj]
 cases hd:o.dst with
 | none =>
  refine ⟨by simpa[KA,setD,Act.put] using hs,?_⟩;intro k t hk htv;have:k≠j:=by rintro rfl;rw[ho] at hk;simp[hd] at hk
  rw[ρget k this];exact ht k t hk htv
 | some t =>
  have htN:t<a.tmps.size:=by rw[hs.size];have:=hlt t (X3.2 ⟨o,QZ ho,hd⟩);simpa using this
  have getD_set:∀ u,(a.tmps.setIfInBounds t c).getD u Go.undef=if u=t then c else a.tmps.getD u Go.undef:=by
   intro u;simp only[QV];by_cases hu:u=t
   ·subst hu;simp[htN]
   ·rw[if_neg hu,W2 (fun h=>hu h.symm)]
  simp only[KA];cases hi:fx.vars.idxOf? t with
  | some i =>
   have hit:=Y9 hi;refine ⟨⟨by simpa[Act.put] using hs.size,?_,hs.defs,hs.heap,hs.base,hs.entry⟩,?_⟩
   ·intro k u hk;simp only[Act.put,setD,getD_set];by_cases hki:k=i
    ·subst hki;rw[hit] at hk;cases hk;rw[if_pos rfl];rcases ZB k s.vals.length with h | h
     ·simp[List.getD,h];exact hv
     ·rw[KE h];simp[List.getD,QN h,VRel]
    ·have hut:u≠t:=by
      rintro rfl;have h1:k<fx.vars.length:=(QH.1 hk).1;exact hki ((List.getElem?_inj h1 hvn).1 (hk.trans hit.symm))
     rw[if_neg hut];have:(s.vals.set i v).getD k .undef=s.vals.getD k .undef:=by simp only[List.getD];rw[QU (fun h=>hki h.symm)]
     rw[this];exact hs.vars k u hk
   ·intro k u hk huv;simp only[Act.put,getD_set];have hut:u≠t:=by rintro rfl;exact huv (QZ hit)
    rw[if_neg hut];have:k≠j:=by rintro rfl;rw[ho] at hk;simp[hd] at hk;exact hut hk.symm
    rw[ρget k this];exact ht k u hk huv
  | none =>
   have htv:=U3 hi;refine ⟨⟨by simpa[Act.put] using hs.size,?_,hs.defs,hs.heap,hs.base,hs.entry⟩,?_⟩
   ·intro k u hk;simp only[Act.put,setD,getD_set];have hut:u≠t:=by rintro rfl;exact htv (QZ hk)
    rw[if_neg hut];exact hs.vars k u hk
   ·intro k u hk huv;simp only[Act.put,getD_set];by_cases hkj:k=j
    ·subst hkj;rw[ho] at hk;simp[hd] at hk;subst hk;rw[if_pos rfl,ρj];exact hv
    ·rw [ρget k hkj];have hut:u≠t:=by
      rintro rfl;have hnd':∀ (l:List Oper),((l.filterMap (·.dst)).filter fun t=>!fx.vars.contains t).Nodup→∀ (a b:Nat),(l[a]?).bind (·.dst)=some u→(l[b]?).bind (·.dst)=some u→a=b:=by
       intro l
       induction l with
       | nil=>intro _ a b h;simp at h
       | cons x l ih =>
        intro hn a b h1 h2;have hmem:∀ (q:Nat),(l[q]?).bind (fun o:Oper=>o.dst)=some u→u∈(l.filterMap (·.dst)).filter fun t=>!fx.vars.contains t:=by
         intro q hq;cases hlq:l[q]? with
         | none=>rw[hlq] at hq;simp at hq
         | some y =>
          rw[hlq] at hq;refine YB.2 ⟨X3.2 ⟨y,QZ hlq,by simpa using hq⟩,by simpa using huv⟩
        cases hx:x.dst with
        | none =>
         simp only[List.filterMap_cons,hx] at hn;cases a with
         | zero=>simp[hx] at h1
         | succ a=>cases b with
          | zero=>simp[hx] at h2
          | succ b=>simp at h1 h2;rw[ih hn a b h1 h2]
        | some tx =>
         simp only[List.filterMap_cons,hx] at hn;have hn':((l.filterMap (·.dst)).filter fun t=>!fx.vars.contains t).Nodup:=by
          rw[XK] at hn;split at hn
          ·exact (WQ.1 hn).2
          ·exact hn
         have hno:tx=u→∀ q:Nat,(l[q]?).bind (fun o:Oper=>o.dst)=some u→False:=by rintro rfl q hq;rw[XK,if_pos (by simpa using huv)] at hn;exact (WQ.1 hn).1 (hmem q hq)
         cases a with
         | zero =>
          cases b with
          | zero=>rfl
          | succ b=>simp[hx] at h1;simp at h2;exact (hno h1 b h2).elim
         | succ a =>
          cases b with
          | zero=>simp[hx] at h2;simp at h1;exact (hno h2 a h1).elim
          | succ b=>simp at h1 h2;rw[ih hn' a b h1 h2]
      exact hkj (hnd' ops hnd k j hk (by rw[ho];simpa using hd))
     rw[if_neg hut];exact ht k u hk huv
end Go.Proofs.YtgkidpolomhghaaGreatDoor.AM

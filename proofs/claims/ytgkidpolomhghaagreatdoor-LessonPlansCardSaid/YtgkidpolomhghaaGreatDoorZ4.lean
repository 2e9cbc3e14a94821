/- Parts of the proof, joined: AmI to AmJ. -/
import Derived.IntWalk
import Derived.Lib.AppendZerosOnto
import Derived.Test.YtgkidpolomhghaaGreatDoorZ3
set_option linter.unusedVariables false
set_option linter.unusedSimpArgs false
set_option linter.unusedSectionVars false
namespace Go.Proofs.YtgkidpolomhghaaGreatDoor.AM
variable [Dr]
open Go
variable {P:Program} {m:LM} {X:Nat→Prop} {σ σ':List AObj} {w:World} {r:AV}
theorem QK.map_range {f:Nat→AV} {g:Nat→Value}:∀ (n:Nat),(∀ i,i<n→VRel m X w (f i) (g i))→QK m X w ((List.range n).map f) ((List.range n).map g)
 | 0,_=>by simp[QK]
 | n+1,h=>by
  rw[WM,ZS,ZS]
  exact QK.append (QK.map_range n fun i hi=>h i (by omega)) (by simp only[Q0,WS,QK];exact ⟨h n (by omega),trivial⟩)
theorem T8 (n:Nat) (zs:List AV):YW n zs=(List.range (n*zs.length)).map fun i=>zs.getD (i % zs.length) .undef:=by
 unfold YW
 split
 ·rename_i z
  simp only[List.length_cons,List.length_nil,ZV,W3]
  apply Z1
  intro i
  by_cases hi:i<n
  ·simp[hi,Nat.mod_one]
  ·simp[hi,QN (by simpa using hi:(List.replicate n z).length≤i)]
 ·rfl
theorem FL (n:Nat) (zero:Array Value):QK m X w (YW n (zero.toList.map WC)) ((List.range (n*zero.size)).map fun i=>zero[i % zero.size]!):=by
 rw[T8]
 simp only[ZK,Array.length_toList]
 refine QK.map_range _ fun i hi=>?_
 have h0:0<zero.size:=by
  rcases XF zero.size with h | h
  ·rw[h] at hi;omega
  ·exact h
 have hlt:i % zero.size<zero.size:=Nat.mod_lt _ h0
 have e1:(zero.toList.map WC).getD (i % zero.size) .undef=WC zero[i % zero.size]:=by simp[List.getD,hlt]
 rw[e1,getElem!_pos zero _ hlt]
 exact GZ _
theorem E2 (n:Nat) (g:Nat→Value):((Array.range n).map g).toList=(List.range n).map g:=by simp
theorem Qc6 {t e:TypeId} {i:TypeInfo} {z:Value} {len:Nat} {ps:List (Nat × Value)} {pl:List (Nat × Nat)} {avs:List AV} (h:HRel m X σ w) (hu:P.underlying t=some (.slice e)) (hi:P.info? e=some i) (hz:i.zero=some z)
  (hsz:z.cells.size=i.size) (hpos:0<i.size) (hbig:len*i.size≤2 ^ 24) (hpl:pl=ps.map fun p=>(p.1*i.size,i.size)) (ha:QK m X w avs (ps.map (·.2)))
  (hs:V4 i.size len (YW len (z.cells.toList.map WC)) pl avs σ=some (r,σ')):YP P (do pure (.value (← Instr.buildSlice t len ps.toArray))) m X σ w r σ':=by
 unfold V4 at hs
 simp only[QA] at hs
 obtain ⟨cs,hf,he⟩:=hs;cases he
 have hz0:QK m X w (YW len (z.cells.toList.map WC)) (((Array.range (len*i.size)).map (z.cells[· % z.cells.size]!)).toList):=by
  rw[E2];have:=FL (m:=m) (X:=X) (w:=w) len z.cells;rwa [hsz] at this ⊢
 obtain ⟨out,ho,hr⟩:=P3 (fun i'=>some (i'*i.size,i.size)) ps pl avs _ cs _ (by subst hpl;clear hf ha;induction ps with
  | nil=>rfl
  | cons p ps ih=>simp only[WV,ih,Option.bind_eq_bind,Option.pure_def,Option.bind_some,Q0]) ha hz0 hf
 have hlen:out.size=len*i.size:=by
  have h1:=hr.length;have h2:cs.length=(YW len (z.cells.toList.map WC)).length:=by
   clear ho hr h1 hz0 ha
   revert hf
   generalize YW len (z.cells.toList.map WC)=zs
   intro hf
   have:∀ (pl:List (Nat × Nat)) (as zs cs:List AV),HW zs pl as=some cs→cs.length=zs.length:=by
    intro pl
    induction pl with
    | nil=>intro as zs cs h;cases as <;> simp[HW] at h;subst h;rfl
    | cons p pl ih =>
     intro as zs cs h
     cases as with
     | nil=>simp[HW] at h
     | cons a as =>
      simp only[HW] at h
      split at h
      ·have:=ih _ _ _ h;rw[Z5] at this;exact this
      ·cases h
   exact this _ _ _ _ hf
  have h3:(YW len (z.cells.toList.map WC)).length=len*i.size:=by rw[T8];simp[hsz]
  simp at h1;omega
 obtain ⟨h1,h2,h3⟩:=h.alloc (.cells out e) (.cells cs) (fun hm=>ORel.new (heap_alloc_new _ _) (hr.mono hm _ _))
 refine W7 (v:=.slice (some ⟨w.heap.size,0,none⟩) len len) ?_ ?_ h1 h2
 ·simp only[Instr.buildSlice,Sem.run_bind,QY hu,Result.andThen_ok,YK hi]
  rw[if_neg (by omega)]
  by_cases hl:len=0
  ·subst hl
   simp only[Nat.zero_mul,if_true,Sem.run_bind,Sem.run_pure,Result.andThen_ok]
   have e0:(Array.range 0).map (fun x=>(#[]:Array Value)[x % (#[]:Array Value).size]!)=(Array.range (0*i.size)).map (z.cells[· % z.cells.size]!):=by simp
   rw[e0,ho]
   simp[newRow]
  ·have:len*i.size≠0:=Nat.mul_ne_zero hl (by omega)
   simp only[this,if_false,Sem.run_bind,GV hi hz,Result.andThen_ok,Sem.run_pure,ho]
   simp[newRow]
 ·simp only[VRel]
  exact ⟨w.heap.size,len,LM.put_same _ _ _,rfl,QG _,out,e,heap_alloc_new _ _,by omega⟩
theorem QbZ {t e:TypeId} {i:TypeInfo} {z:Value} {x y:Value} {avs:List AV} (h:HRel m X σ w) (hu:P.underlying t=some (.slice e)) (hi:P.info? e=some i) (hz:i.zero=some z)
  (hsz:z.cells.size=i.size) (hpos:0<i.size) (ha:QK m X w avs [x,y])
  (hs:XB i.size i.bytes (z.cells.toList.map WC) avs σ=some (r,σ')):YP P (do pure (.value (← Instr.makeSlice t x y))) m X σ w r σ':=by
 unfold XB at hs
 split at hs
 ·rename_i k n k' c
  obtain ⟨x',us,hx,hr,hus⟩:=ha.cons
  obtain ⟨y',hy,hra⟩:=hus.one
  subst hy;cases hx
  obtain rfl:=hra.int;obtain rfl:=hr.int
  split at hs
  ·rename_i hc;cases hs
   obtain ⟨hn0,rfl,hb,hn,_⟩:=hc
   have hw:IntKind.i64.wrap n=n:=IntWalk.i64_in _ (by omega)
   have hlen:((Array.range (n.toNat*i.size)).map (z.cells[· % z.cells.size]!)).size=n.toNat*i.size:=by simp
   obtain ⟨h1,h2,h3⟩:=h.alloc (.cells ((Array.range (n.toNat*i.size)).map (z.cells[· % z.cells.size]!)) e) (.cells (YW n.toNat (z.cells.toList.map WC)))
    (fun hm=>ORel.new (heap_alloc_new _ _) (by rw[E2];have:=FL (m:=m.put σ.length w.heap.size) (X:=X) (w:=w.alloc (.cells ((Array.range (n.toNat*i.size)).map (z.cells[· % z.cells.size]!)) e)) n.toNat z.cells;rwa [hsz] at this ⊢))
   refine W7 (v:=.slice (some ⟨w.heap.size,0,none⟩) n.toNat n.toNat) ?_ ?_ h1 h2
   ·have hmul:(i.bytes:Int)*n≤2 ^ 48:=by rw[Int.mul_comm];omega
    simp only[Instr.makeSlice,Sem.run_bind,QY hu,Result.andThen_ok,asInt,asIntOf,Sem.run_pure,YI hi,hw]
    have hc1:(decide (n<0)||decide ((i.bytes:Int)*n>2 ^ 48))=false:=by simp;omega
    simp only[hc1,Y3,QT,if_false]
    have hc2:(decide (n<0)||decide (n>n))=false:=by simp;omega
    simp only[hc2,QT,if_false,Sem.run_bind,run_askRoom,Result.andThen_ok,YK hi]
    by_cases hl:n.toNat*i.size=0
    ·have e0:(Array.range (n.toNat*i.size)).map (fun x=>(#[]:Array Value)[x % (#[]:Array Value).size]!)=(Array.range (n.toNat*i.size)).map (z.cells[· % z.cells.size]!):=by rw[hl];simp
     simp only[hl,if_true,Sem.run_pure,Result.andThen_ok,Sem.run_bind]
     rw[hl] at e0;rw[e0]
     simp[newRow]
    ·simp only[hl,if_false,Sem.run_bind,GV hi hz,Result.andThen_ok,Sem.run_pure]
     simp[newRow]
   ·simp only[VRel]
    exact ⟨w.heap.size,n.toNat,LM.put_same _ _ _,rfl,QG _,_,e,heap_alloc_new _ _,by rw[hlen];omega⟩
  ·cases hs
 ·cases hs
theorem QaY {t e:TypeId} {i:TypeInfo} {z:Value} {x y:Value} {avs:List AV} (h:HRel m X σ w) (hu:P.underlying t=some (.slice e)) (hi:P.info? e=some i) (hz:i.zero=some z)
  (hsz:z.cells.size=i.size) (hpos:0<i.size) (ha:QK m X w avs [x,y])
  (hs:XR i.size i.bytes (z.cells.toList.map WC) avs σ=some (r,σ')):YP P (do pure (.value (← Instr.makeSlice t x y))) m X σ w r σ':=by
 unfold XR at hs
 split at hs
 ·rename_i k n k' c
  obtain ⟨x',us,hx,hr,hus⟩:=ha.cons
  obtain ⟨y',hy,hra⟩:=hus.one
  subst hy;cases hx
  obtain rfl:=hra.int;obtain rfl:=hr.int
  split at hs
  ·rename_i hc;cases hs
   obtain ⟨hn0,rfl,hb,hn,_⟩:=hc
   have hw:IntKind.i64.wrap n=n:=IntWalk.i64_in _ (by omega)
   have hlen:((Array.range (n.toNat*i.size)).map (z.cells[· % z.cells.size]!)).size=n.toNat*i.size:=by simp
   obtain ⟨h1,h2,h3⟩:=h.alloc (.cells ((Array.range (n.toNat*i.size)).map (z.cells[· % z.cells.size]!)) e) (.cells (YW n.toNat (z.cells.toList.map WC)))
    (fun hm=>ORel.new (heap_alloc_new _ _) (by rw[E2];have:=FL (m:=m.put σ.length w.heap.size) (X:=X) (w:=w.alloc (.cells ((Array.range (n.toNat*i.size)).map (z.cells[· % z.cells.size]!)) e)) n.toNat z.cells;rwa [hsz] at this ⊢))
   refine W7 (v:=.slice (some ⟨w.heap.size,0,none⟩) n.toNat n.toNat) ?_ ?_ h1 h2
   ·have hmul:(i.bytes:Int)*n≤2 ^ 48:=by rw[Int.mul_comm];omega
    simp only[Instr.makeSlice,Sem.run_bind,QY hu,Result.andThen_ok,asInt,asIntOf,Sem.run_pure,YI hi,hw]
    have hc1:(decide (n<0)||decide ((i.bytes:Int)*n>2 ^ 48))=false:=by simp;omega
    simp only[hc1,Y3,QT,if_false]
    have hc2:(decide (n<0)||decide (n>n))=false:=by simp;omega
    simp only[hc2,QT,if_false,Sem.run_bind,run_askRoom,Result.andThen_ok,YK hi]
    by_cases hl:n.toNat*i.size=0
    ·have e0:(Array.range (n.toNat*i.size)).map (fun x=>(#[]:Array Value)[x % (#[]:Array Value).size]!)=(Array.range (n.toNat*i.size)).map (z.cells[· % z.cells.size]!):=by rw[hl];simp
     simp only[hl,if_true,Sem.run_pure,Result.andThen_ok,Sem.run_bind]
     rw[hl] at e0;rw[e0]
     simp[newRow]
    ·simp only[hl,if_false,Sem.run_bind,GV hi hz,Result.andThen_ok,Sem.run_pure]
     simp[newRow]
   ·simp only[VRel]
    exact ⟨w.heap.size,LM.put_same _ _ _,rfl,QG _,_,e,heap_alloc_new _ _,by rw[hlen];omega⟩
  ·cases hs
 ·cases hs
theorem Qe6 {t:TypeId} {avs:List AV} (h:HRel m X σ w) (hs:KY avs σ=some (r,σ')):YP P (do pure (.value (← Instr.makeMap t none))) m X σ w r σ':=by
 unfold KY at hs
 split at hs <;> cases hs
 obtain ⟨h1,h2,h3⟩:=h.alloc (.map #[] 0) (.map []) (fun hm=>by simp only[ORel];exact ⟨#[],0,heap_alloc_new _ _,by simp,by simp,by simp,by simp⟩)
 refine W7 (v:=.map (some w.heap.size)) ?_ ?_ h1 h2
 ·simp[Instr.makeMap]
 ·simp only[VRel];exact ⟨_,LM.put_same _ _ _,rfl⟩
theorem QK.map_bytes:∀ (bs:List UInt8),QK m X w (bs.map fun b=>.cv (.int .u8 b.toNat)) (bs.map fun b=>Value.int .u8 b.toNat)
 | []=>by simp[QK]
 | b::bs=>by simp only[Q0,QK];exact ⟨VRel.mk_int _ _,QK.map_bytes bs⟩
theorem HZ {a:AV} {x:Value} {esz n:Nat} {new:List AV} (h:HRel m X σ w) (hr:VRel m X w a x) (hsrc:Z9 σ esz a=some new) (hl:lenF a=some n) :
  ∃ vs:List Value,(∀ w1:World,w1.heap=w.heap→(Builtin.firstCells esz n x).run P w1=.ok vs.toArray w1)∧QK m X w new vs∧(∀ w1:World,(Builtin.lenOf x).run P w1=.ok n w1):=by
 have hcell:∀ w1:World,w1.heap=w.heap→∀ a,w1.cell? a=w.cell? a:=fun w1 hw a=>by simp[World.cell?,hw]
 unfold Z9 at hsrc
 split at hsrc
 ·cases hsrc;simp[lenF] at hl;subst hl
  obtain rfl:=hr.nils
  exact ⟨[],fun _ _=>by simp[Builtin.firstCells],by simp[QK],fun _=>by simp[Builtin.lenOf]⟩
 ·rename_i cs len
  split at hsrc
  ·rename_i hcl;cases hsrc;simp[lenF] at hl;subst hl
   simp only[VRel,CV.rep] at hr
   rcases hr with ⟨rfl,rfl,rfl⟩ | ⟨ad,cap,rfl,_,hreps⟩
   ·exact ⟨[],fun _ _=>by simp[Builtin.firstCells],by simp[QK],fun _=>by simp[Builtin.lenOf]⟩
   ·obtain ⟨vs,h1,h2,h3⟩:=LA hreps
    refine ⟨vs,fun w1 hw=>?_,h2,fun _=>by simp[Builtin.lenOf]⟩
    simp only[Builtin.firstCells]
    rw[← hcl,← h1]
    exact run_loadCells_list w1 ad vs fun j v hj=>by rw[hcell w1 hw];simpa using h3 j v hj
  ·cases hsrc
 ·rename_i l off len e
  split at hsrc
  ·rename_i he;subst he
   simp only[QB] at hsrc
   obtain ⟨cs,hcs,hsrc⟩:=hsrc
   split at hsrc
   ·rename_i hle;cases hsrc;simp[lenF] at hl;subst hl
    simp only[VRel] at hr;obtain ⟨b,cap,hb,rfl,_⟩:=hr
    obtain ⟨b',c,ty,h1,_,h2,h3,h4⟩:=h.row hcs
    rw[hb] at h1;cases h1
    obtain ⟨vs,hlv,hrv,hc⟩:=JS h2 h4 h3 hle
    refine ⟨vs,fun w1 hw=>?_,hrv,fun _=>by simp[Builtin.lenOf]⟩
    simp only[Builtin.firstCells]
    rw[← hlv]
    exact run_loadCells_list w1 _ vs fun j v hj=>by rw[hcell w1 hw];exact hc j v hj
   ·cases hsrc
  ·cases hsrc
 ·rename_i s
  split at hsrc
  ·cases hsrc;simp[lenF] at hl;subst hl
   obtain rfl:=hr.str
   refine ⟨s.data.toList.map fun b=>Value.int .u8 b.toNat,fun w1 hw=>?_,QK.map_bytes _,fun _=>by simp[Builtin.lenOf]⟩
   simp only[Builtin.firstCells,Sem.run_pure]
   congr 1
   have:s.extract 0 s.size=s:=by
    apply ByteArray.ext;simp[ByteArray.data_extract]
   rw[this]
   apply Array.ext'
   simp
  ·cases hsrc
 ·rename_i l off len cap0 e
  split at hsrc
  ·rename_i he;subst he
   simp only[QB] at hsrc
   obtain ⟨cs,hcs,hsrc⟩:=hsrc
   split at hsrc
   ·rename_i hle;cases hsrc;simp[lenF] at hl;subst hl
    simp only[VRel] at hr;obtain ⟨b,hb,rfl,_⟩:=hr
    obtain ⟨b',c,ty,h1,_,h2,h3,h4⟩:=h.row hcs
    rw[hb] at h1;cases h1
    obtain ⟨vs,hlv,hrv,hc⟩:=JS h2 h4 h3 hle
    refine ⟨vs,fun w1 hw=>?_,hrv,fun _=>by simp[Builtin.lenOf]⟩
    simp only[Builtin.firstCells]
    rw[← hlv]
    exact run_loadCells_list w1 _ vs fun j v hj=>by rw[hcell w1 hw];exact hc j v hj
   ·cases hsrc
  ·cases hsrc
 ·cases hsrc
theorem Mono.of_heap {w1:World} (hw:w1.heap=w.heap):Mono m X w m X w1 :=
 ⟨fun _ _ h=>h,fun b hb _=>⟨by rw[hw],hb⟩,fun b c e h=>⟨c,by rw[hw];exact h,rfl⟩⟩
theorem HRel.of_heap (h:HRel m X σ w) {w1:World} (hw:w1.heap=w.heap):HRel m X σ w1 :=
 ⟨fun b hb=>by rw[hw];exact h.xb b hb,fun l b hl=>by rw[hw];exact h.dom l b hl,h.own,h.inj,fun l o ho=>by
  have:=h.obj l o ho
  cases hml:m l with
  | none=>rw[hml] at this;cases o <;> simp[ORel] at this ⊢
  | some b=>rw[hml] at this;exact ORel.mono (Mono.of_heap hw) (by rw[hw]) this,h.gl.mono (Mono.of_heap hw)⟩
theorem Step.of_heap {n0:Nat} {w1:World} (hw:w1.heap=w.heap) (ho:w1.os=w.os) (ht:w1.tape=w.tape) (hp:w1.output=w.output) (hd:w.drawn≤w1.drawn):Step n0 m X w m w1 :=
 ⟨fun _ _=>rfl,fun l b h=>.inl ⟨l,h⟩,by rw[hw];exact QG _,fun _ _ _=>by rw[hw],fun b c e h=>⟨c,by rw[hw];exact h,rfl⟩,ho,ht,hp,fun _=>hd⟩
theorem AY:∀ (r new c:Nat),c<new→Builtin.growBy new r c≤new+(new+768) / 4
 | 0,new,c,h=>by simp[Builtin.growBy];omega
 | r + 1,new,c,h=>by
  simp only[Builtin.growBy]
  split
  ·omega
  ·by_cases hc:c+(c+768) / 4<new
   ·exact AY r new _ hc
   ·have:∀ r',Builtin.growBy new r' (c+(c+768) / 4)=c+(c+768) / 4:=by
     intro r';cases r' with
     | zero=>rfl
     | succ r'=>simp only[Builtin.growBy];rw[if_pos (by omega)]
    rw[this];omega
theorem Qci (need old:Nat) (h:old<need):Builtin.nextslicecap need old≤2*need+192:=by
 unfold Builtin.nextslicecap
 split
 ·omega
 ·split
  ·omega
  ·have:=AY 4 need old h;omega
theorem KP (need old:Nat) (e:TypeId) (t:Nat):need≤(Question.appendCap need old e).cut t:=by
 simp[Question.cut]
theorem ORel.new' {m':LM} {w':World} {b:Nat} {c:Array Value} {t:TypeId} {cs:List AV} {vs rest:List Value} (hb:w'.heap[b]? = some (.cells c t)) (hc:c.toList=vs++rest) (hr:QK m' X w' cs vs):ORel m' X w' (some b) (.cells cs):=by
 simp only[ORel]
 have hl:=hr.length
 have hs:c.size=vs.length+rest.length:=by rw[← Array.length_toList,hc,QM]
 exact ⟨c,t,hb,by omega,by rw[hl,hc,List.take_left'];exact hr;rfl⟩
theorem NA (n:Nat) (h:n≤2 ^ 44):¬ ((n:Int)>IntKind.i64.max):=by
 simp[IntKind.max,IntKind.signed,IntKind.bits];omega
theorem DU {need old bytes:Nat} (h:old<need) (hb:need*bytes≤2 ^ 44) (hb0:bytes≤2 ^ 24):¬ (Builtin.nextslicecap need old*bytes>2 ^ 48):=by
 have h1:=Qci need old h
 have h2:Builtin.nextslicecap need old*bytes≤(2*need+192)*bytes:=YQ _ h1
 have h3:(2*need+192)*bytes=2*(need*bytes)+192*bytes:=by rw[WP,Nat.mul_assoc]
 omega
theorem SH {st xt ty e e':TypeId} {i:TypeInfo} {z:Value} {x y:Value} {avs:List AV} (h:HRel m X σ w) (hu:P.underlying st=some (.slice e)) (hxu:P.underlying xt=some (.slice e')) (hi:P.info? e=some i) (hz:i.zero=some z)
  (hsz:z.cells.size=i.size) (hpos:0<i.size) (hby:i.bytes≤2 ^ 24) (ha:QK m X w avs [x,y]) (hs:ZX i.size i.bytes avs σ=some (r,σ')):YP P (do pure (.value (← Builtin.append_ #[st,xt] ty #[x,y]))) m X σ w r σ':=by
 have hzs:∀ k,(Builtin.zeroCells z.cells k).size=k*i.size:=by intro k;simp[Builtin.zeroCells,hsz]
 unfold ZX at hs
 split at hs
 ·rename_i a
  obtain ⟨x',us,hx,hr,hus⟩:=ha.cons
  obtain ⟨y',hy,hra⟩:=hus.one
  subst hy;cases hx
  obtain rfl:=hr.nils
  simp only[QB] at hs
  obtain ⟨new,hnew,n,hn,hs⟩:=hs
  obtain ⟨vs,hv1,hv2,hv3⟩:=HZ (P:=P) h hra hnew hn
  split at hs
  ·rename_i h0;subst h0;cases hs
   refine ZG h (v:=.slice none 0 0) ?_ (by simp[VRel,CV.rep])
   simp only[Builtin.append_,WG,List.getElem?_cons_zero,List.getElem?_cons_succ,Sem.run_bind,QY hu,Result.andThen_ok,YK hi,QY hxu,Sem.run_pure,QT,if_false,hv3,ZV,QG,if_true,ZY,hv1 w rfl,Sem.run_pure]
  ·rename_i h0
   split at hs
   ·rename_i hc;cases hs
    obtain ⟨hl,hb,hn44,hsc⟩:=hc
    have hlen:=hv2.length
    have hd:HRel m X σ w.drew:=h.of_heap rfl
    have hv2d:QK m X w.drew new vs:=hv2.mono (Mono.of_heap (w:=w) (w1:=w.drew) rfl) _ _
    have hf0:∀ w1:World,(Builtin.firstCells i.size 0 (.slice none 0 0)).run P w1=.ok #[] w1:=fun _=>by simp[Builtin.firstCells]
    obtain ⟨cap,hcap⟩:∃ cap,cap=(Question.appendCap n 0 e).cut (w.tape w.drawn (.appendCap n 0 e)):=⟨_,rfl⟩
    have hle:n≤cap:=by rw[hcap];exact KP _ _ _ _
    obtain ⟨h1,h2,h3⟩:=hd.alloc (.cells (#[]++vs.toArray++Builtin.zeroCells z.cells (cap-n)) e) (.cells new)
     (fun hm=>ORel.new' (heap_alloc_new _ _) (vs:=vs) (rest:=(Builtin.zeroCells z.cells (cap-n)).toList) (by simp) (hv2d.mono hm _ _))
    refine W7 (v:=.slice (some ⟨w.heap.size,0,none⟩) n cap) ?_ ?_ h1 (Step.trans (Step.of_heap (w1:=w.drew) rfl rfl rfl rfl (XE _)) h2)
    ·simp only[Builtin.append_,WG,List.getElem?_cons_zero,List.getElem?_cons_succ,Sem.run_bind,QY hu,Result.andThen_ok,YK hi,QY hxu,Sem.run_pure,QT,if_false,hv3,ZV,Nat.le_zero,h0,YI hi,ZY,if_true]
     rw[if_neg (fun hh=>NA n hn44 hh.1)]
     simp only[Sem.run_bind,YI hi,Result.andThen_ok]
     rw[if_neg (DU (by omega) hb hby)]
     simp only[Sem.run_bind,run_choose,Question.forced,QT,if_false,Result.andThen_ok,YI hi,run_askRoom,hf0,Sem.run_pure,hv1 w.drew rfl,GV hi hz,← hcap,World.drew_eq]
     simp[newRow]
    ·simp only[VRel]
     refine ⟨w.heap.size,cap,LM.put_same _ _ _,rfl,hle,_,e,heap_alloc_new w.drew _,?_⟩
     have:(cap-n)*i.size+n*i.size=cap*i.size:=by rw[← WP];congr 1;omega
     simp[hzs];omega
   ·cases hs
 ·rename_i l len e1 a
  obtain ⟨x',us,hx,hr,hus⟩:=ha.cons
  obtain ⟨y',hy,hra⟩:=hus.one
  subst hy;cases hx
  simp only[VRel] at hr;obtain ⟨b,cap,hb,rfl,hlc,c,ty',hb0,hcz⟩:=hr
  simp only[QB] at hs
  obtain ⟨cs,hcs,new,hnew,n,hn,hs⟩:=hs
  obtain ⟨vs,hv1,hv2,hv3⟩:=HZ (P:=P) h hra hnew hn
  split at hs
  ·rename_i hc;cases hs
   obtain ⟨rfl,hle,hl,hbb,hn44,hsc⟩:=hc
   have hlen:=hv2.length
   obtain ⟨b',c1,ty1,h1,hlobj,h2,h3,h4⟩:=h.row hcs
   rw[hb] at h1;cases h1
   obtain ⟨rfl,rfl⟩:c=c1∧ty'=ty1:=by rw[h2] at hb0;cases hb0;exact ⟨rfl,rfl⟩
   clear hb0
   have hone:=hv2.one_cells hsc
   obtain ⟨old,hol,hor,hoc⟩:=JS h2 h4 h3 (off:=0) (n:=len*i.size) (by omega)
   have holc:old=c.toList.take (len*i.size):=by
    apply Z1
    intro j
    by_cases hj:j<len*i.size
    ·have hjo:j<old.length:=by omega
     have:=hoc j _ (QI hjo)
     rw[JB,F7 h2] at this
     rw[QI hjo,Z7,if_pos hj]
     simpa using this.symm
    ·rw[QN (by omega),QN (by simp;omega)]
   by_cases hcap:len+n≤cap
   · -- IN PLACE
    have hsize:0+len*i.size+vs.length≤c.size:=by
     have:(len+n)*i.size≤cap*i.size:=YQ _ hcap
     rw[WP] at this;omega
    have hrun:=run_storeCells_at P b (0+len*i.size) ty' vs 0 c w h2 (by omega) hone
    simp only[Nat.add_zero] at hrun
    obtain ⟨c',hc'⟩:∃ c',c'=(c.toList.take (0+len*i.size)++vs++c.toList.drop (0+len*i.size+vs.length)).toArray:=⟨_,rfl⟩
    rw[← hc'] at hrun
    have hcs':c'.size=c.size:=by rw[hc'];simp;omega
    have ht:=YZ.row w c' h2 hcs'
    obtain ⟨g1,g2,g3⟩:=h.turn hb hlobj trivial ht (o':=.dead) (fun _=>trivial)
    have hdead:∀ x o,m x=some b→(σ.set l .dead)[x]? = some o→¬ o.live:=by
     intro x o hx ho hv
     rw[ZO] at ho
     split at ho
     ·split at ho
      ·cases ho;exact hv
      ·cases ho
     ·rename_i hne;exact hne (h.inj2 l x b _ o hb hx hlobj ho trivial hv)
    obtain ⟨k1,k2,k3⟩:=g1.adopt (ao:=.cells (cs.take (len*i.size)++new)) hb (h.own l b _ hb hlobj trivial) hdead (fun hm=>by
     refine ORel.new' (setRow_heap w b c c' ty' (0,0) h2) (vs:=old++vs) (rest:=c.toList.drop (0+len*i.size+vs.length)) (by rw[hc',holc];simp) ?_
     refine QK.append (((?_:QK m X w (cs.take (len*i.size)) old).mono g3 _ _).mono hm _ _) ((hv2.mono g3 _ _).mono hm _ _)
     simpa using hor)
    simp only[WE] at k1 k2 k3
    refine W7 (v:=.slice (some ⟨b,0,none⟩) (len+n) cap) ?_ ?_ k1 (Step.trans g2 k2)
    ·simp only[Builtin.append_,WG,List.getElem?_cons_zero,List.getElem?_cons_succ,Sem.run_bind,QY hu,Result.andThen_ok,YK hi,QY hxu,Sem.run_pure,QT,if_false,hv3,hcap,if_true,ZY,hv1 w rfl,Sem.run_pure,JB,hrun]
    ·simp only[VRel]
     exact ⟨b,cap,LM.put_same _ _ _,rfl,hcap,c',ty',setRow_heap w b c c' ty' (0,0) h2,by rw[hcs'];omega⟩
   · -- A NEW ROW
    have hd:HRel m X (σ.set l .dead) w.drew:=(h.kill l).of_heap rfl
    have hv2d:QK m X w.drew (cs.take (len*i.size)++new) (old++vs):=(QK.append (by simpa using hor) hv2:QK m X w _ _).mono (Mono.of_heap (w:=w) (w1:=w.drew) rfl) _ _
    obtain ⟨nc,hnc⟩:∃ nc,nc=(Question.appendCap (len+n) cap e).cut (w.tape w.drawn (.appendCap (len+n) cap e)):=⟨_,rfl⟩
    have hle':len+n≤nc:=by rw[hnc];exact KP _ _ _ _
    obtain ⟨h1,h2',h3'⟩:=hd.alloc (.cells (old.toArray++vs.toArray++Builtin.zeroCells z.cells (nc-(len+n))) e) (.cells (cs.take (len*i.size)++new))
     (fun hm=>ORel.new' (heap_alloc_new _ _) (vs:=old++vs) (rest:=(Builtin.zeroCells z.cells (nc-(len+n))).toList) (by simp) (hv2d.mono hm _ _))
    simp only[WE] at h1 h2' h3'
    refine W7 (v:=.slice (some ⟨w.heap.size,0,none⟩) (len+n) nc) ?_ ?_ h1 (Step.trans (Step.of_heap (w1:=w.drew) rfl rfl rfl rfl (XE _)) h2')
    ·have hfc:∀ w1:World,w1.heap=w.heap→(Builtin.firstCells i.size len (.slice (some ⟨b,0,none⟩) len cap)).run P w1=.ok old.toArray w1:=by
      intro w1 hw
      simp only[Builtin.firstCells]
      rw[← hol]
      exact run_loadCells_list w1 _ old fun j v hj=>by
       have:=hoc j v hj
       simpa[World.cell?,hw] using this
     simp only[Builtin.append_,WG,List.getElem?_cons_zero,List.getElem?_cons_succ,Sem.run_bind,QY hu,Result.andThen_ok,YK hi,QY hxu,Sem.run_pure,QT,if_false,hv3,hcap,YI hi,ZY,if_true]
     rw[if_neg (fun hh=>NA (len+n) hn44 hh.1)]
     simp only[Sem.run_bind,YI hi,Result.andThen_ok]
     rw[if_neg (DU (by omega) hbb hby)]
     simp only[Sem.run_bind,run_choose,Question.forced,QT,if_false,Result.andThen_ok,YI hi,run_askRoom,hfc w.drew rfl,hv1 w.drew rfl,GV hi hz,← hnc,World.drew_eq]
     simp[newRow]
    ·simp only[VRel]
     refine ⟨w.heap.size,nc,LM.put_same _ _ _,rfl,hle',_,e,heap_alloc_new w.drew _,?_⟩
     have e1:(nc-(len+n))*i.size+(len+n)*i.size=nc*i.size:=by rw[← WP];congr 1;omega
     rw[WP] at e1
     simp[hzs,hol];omega
  ·cases hs
 ·rename_i l off len cap e1 a
  obtain ⟨x',us,hx,hr,hus⟩:=ha.cons
  obtain ⟨y',hy,hra⟩:=hus.one
  subst hy;cases hx
  simp only[VRel] at hr;obtain ⟨b,hb,rfl,hlc,c,ty',hb0,hcz⟩:=hr
  simp only[QB] at hs
  obtain ⟨cs,hcs,new,hnew,n,hn,hs⟩:=hs
  obtain ⟨vs,hv1,hv2,hv3⟩:=HZ (P:=P) h hra hnew hn
  obtain ⟨b',c1,ty1,h1,hlobj,h2,h3,h4⟩:=h.row hcs
  rw[hb] at h1;cases h1
  obtain ⟨rfl,rfl⟩:c=c1∧ty'=ty1:=by rw[h2] at hb0;cases hb0;exact ⟨rfl,rfl⟩
  clear hb0
  have hlen:=hv2.length
  split at hs
  ·rename_i hcap
   split at hs
   ·rename_i hc;cases hs
    obtain ⟨rfl,hle,hl,hsc⟩:=hc
    have hone:=hv2.one_cells hsc
    rw[WP] at hle
    have hfit:off+len*i.size+vs.length≤c.size:=by omega
    have hrun:=run_storeCells_at P b (off+len*i.size) ty' vs 0 c w h2 (by simpa using hfit) hone
    simp only[Nat.add_zero] at hrun
    rw[← KG _ _ _ (by simpa using hfit)] at hrun
    have ht:YZ w (w.setRow b (setRange c.toList (off+len*i.size) vs).toArray) b:=YZ.row w _ h2 (by simp[Z5])
    obtain ⟨g1,g2,g3⟩:=h.turn hb hlobj trivial ht (o':=.cells (setRange cs (off+len*i.size) new)) (fun hm=>by
     simp only[ORel]
     refine ⟨_,ty',setRow_heap w b c _ ty' (0,0) h2,by simp[Z5];exact h3,?_⟩
     rw[Z5]
     simp only[List.toList_toArray,V5]
     exact ((h4.setRange _ hv2).mono hm _ _))
    refine W7 (v:=.slice (some ⟨b,off,none⟩) (len+n) cap) ?_ ?_ g1 g2
    ·simp only[Builtin.append_,WG,List.getElem?_cons_zero,List.getElem?_cons_succ,Sem.run_bind,QY hu,Result.andThen_ok,YK hi,QY hxu,Sem.run_pure,QT,if_false,hv3,hcap,if_true,ZY,hv1 w rfl,Sem.run_pure,JB,hrun]
    ·simp only[VRel]
     exact ⟨b,hb,rfl,hcap,_,ty',setRow_heap w b c _ ty' (0,0) h2,by simp[Z5];omega⟩
   ·cases hs
  ·rename_i hcap
   split at hs
   ·rename_i hc;cases hs
    obtain ⟨rfl,hle,hl,hbb,hn44,hsc⟩:=hc
    obtain ⟨old,hol,hor,hoc⟩:=JS h2 h4 h3 (off:=off) (n:=len*i.size) (by omega)
    have hd:HRel m X σ w.drew:=h.of_heap rfl
    have hv2d:QK m X w.drew ((cs.drop off).take (len*i.size)++new) (old++vs):=(QK.append hor hv2:QK m X w _ _).mono (Mono.of_heap (w:=w) (w1:=w.drew) rfl) _ _
    obtain ⟨nc,hnc⟩:∃ nc,nc=(Question.appendCap (len+n) cap e).cut (w.tape w.drawn (.appendCap (len+n) cap e)):=⟨_,rfl⟩
    have hle':len+n≤nc:=by rw[hnc];exact KP _ _ _ _
    obtain ⟨h1,h2',h3'⟩:=hd.alloc (.cells (old.toArray++vs.toArray++Builtin.zeroCells z.cells (nc-(len+n))) e) (.cells ((cs.drop off).take (len*i.size)++new))
     (fun hm=>ORel.new' (heap_alloc_new _ _) (vs:=old++vs) (rest:=(Builtin.zeroCells z.cells (nc-(len+n))).toList) (by simp) (hv2d.mono hm _ _))
    refine W7 (v:=.slice (some ⟨w.heap.size,0,none⟩) (len+n) nc) ?_ ?_ h1 (Step.trans (Step.of_heap (w1:=w.drew) rfl rfl rfl rfl (XE _)) h2')
    ·have hfc:∀ w1:World,w1.heap=w.heap→(Builtin.firstCells i.size len (.slice (some ⟨b,off,none⟩) len cap)).run P w1=.ok old.toArray w1:=by
      intro w1 hw
      simp only[Builtin.firstCells]
      rw[← hol]
      exact run_loadCells_list w1 _ old fun j v hj=>by
       have:=hoc j v hj
       simpa[World.cell?,hw] using this
     simp only[Builtin.append_,WG,List.getElem?_cons_zero,List.getElem?_cons_succ,Sem.run_bind,QY hu,Result.andThen_ok,YK hi,QY hxu,Sem.run_pure,QT,if_false,hv3,hcap,YI hi,ZY,if_true]
     rw[if_neg (fun hh=>NA (len+n) hn44 hh.1)]
     simp only[Sem.run_bind,YI hi,Result.andThen_ok]
     rw[if_neg (DU (by omega) hbb hby)]
     simp only[Sem.run_bind,run_choose,Question.forced,QT,if_false,Result.andThen_ok,YI hi,run_askRoom,hfc w.drew rfl,hv1 w.drew rfl,GV hi hz,← hnc,World.drew_eq]
     simp[newRow]
    ·simp only[VRel]
     refine ⟨w.heap.size,nc,LM.put_same _ _ _,rfl,hle',_,e,heap_alloc_new w.drew _,?_⟩
     have e1:(nc-(len+n))*i.size+(len+n)*i.size=nc*i.size:=by rw[← WP];congr 1;omega
     rw[WP] at e1
     simp[hzs,hol];omega
   ·cases hs
 ·cases hs
theorem BO {st xt ty e:TypeId} {i:TypeInfo} {z:Value} {x y:Value} {avs:List AV} (h:HRel m X σ w) (hu:P.underlying st=some (.slice e)) (hxu:P.underlying xt=some .string) (hi:P.info? e=some i) (hz:i.zero=some z)
  (hsz:z.cells.size=i.size) (hpos:0<i.size) (hby:i.bytes≤2 ^ 24) (ha:QK m X w avs [x,y]) (hs:ZX i.size i.bytes avs σ=some (r,σ')):YP P (do pure (.value (← Builtin.append_ #[st,xt] ty #[x,y]))) m X σ w r σ':=by
 have hzs:∀ k,(Builtin.zeroCells z.cells k).size=k*i.size:=by intro k;simp[Builtin.zeroCells,hsz]
 unfold ZX at hs
 split at hs
 ·rename_i a
  obtain ⟨x',us,hx,hr,hus⟩:=ha.cons
  obtain ⟨y',hy,hra⟩:=hus.one
  subst hy;cases hx
  obtain rfl:=hr.nils
  simp only[QB] at hs
  obtain ⟨new,hnew,n,hn,hs⟩:=hs
  obtain ⟨vs,hv1,hv2,hv3⟩:=HZ (P:=P) h hra hnew hn
  split at hs
  ·rename_i h0;subst h0;cases hs
   refine ZG h (v:=.slice none 0 0) ?_ (by simp[VRel,CV.rep])
   simp only[Builtin.append_,WG,List.getElem?_cons_zero,List.getElem?_cons_succ,Sem.run_bind,QY hu,Result.andThen_ok,YK hi,QY hxu,Sem.run_pure,QT,if_false,hv3,ZV,QG,if_true,ZY,hv1 w rfl,Sem.run_pure]
  ·rename_i h0
   split at hs
   ·rename_i hc;cases hs
    obtain ⟨hl,hb,hn44,hsc⟩:=hc
    have hlen:=hv2.length
    have hd:HRel m X σ w.drew:=h.of_heap rfl
    have hv2d:QK m X w.drew new vs:=hv2.mono (Mono.of_heap (w:=w) (w1:=w.drew) rfl) _ _
    have hf0:∀ w1:World,(Builtin.firstCells i.size 0 (.slice none 0 0)).run P w1=.ok #[] w1:=fun _=>by simp[Builtin.firstCells]
    obtain ⟨cap,hcap⟩:∃ cap,cap=(Question.appendCap n 0 e).cut (w.tape w.drawn (.appendCap n 0 e)):=⟨_,rfl⟩
    have hle:n≤cap:=by rw[hcap];exact KP _ _ _ _
    obtain ⟨h1,h2,h3⟩:=hd.alloc (.cells (#[]++vs.toArray++Builtin.zeroCells z.cells (cap-n)) e) (.cells new)
     (fun hm=>ORel.new' (heap_alloc_new _ _) (vs:=vs) (rest:=(Builtin.zeroCells z.cells (cap-n)).toList) (by simp) (hv2d.mono hm _ _))
    refine W7 (v:=.slice (some ⟨w.heap.size,0,none⟩) n cap) ?_ ?_ h1 (Step.trans (Step.of_heap (w1:=w.drew) rfl rfl rfl rfl (XE _)) h2)
    ·simp only[Builtin.append_,WG,List.getElem?_cons_zero,List.getElem?_cons_succ,Sem.run_bind,QY hu,Result.andThen_ok,YK hi,QY hxu,Sem.run_pure,QT,if_false,hv3,ZV,Nat.le_zero,h0,YI hi,ZY,if_true]
     rw[if_neg (fun hh=>NA n hn44 hh.1)]
     simp only[Sem.run_bind,YI hi,Result.andThen_ok]
     rw[if_neg (DU (by omega) hb hby)]
     simp only[Sem.run_bind,run_choose,Question.forced,QT,if_false,Result.andThen_ok,YI hi,run_askRoom,hf0,Sem.run_pure,hv1 w.drew rfl,GV hi hz,← hcap,World.drew_eq]
     simp[newRow]
    ·simp only[VRel]
     refine ⟨w.heap.size,cap,LM.put_same _ _ _,rfl,hle,_,e,heap_alloc_new w.drew _,?_⟩
     have:(cap-n)*i.size+n*i.size=cap*i.size:=by rw[← WP];congr 1;omega
     simp[hzs];omega
   ·cases hs
 ·rename_i l len e1 a
  obtain ⟨x',us,hx,hr,hus⟩:=ha.cons
  obtain ⟨y',hy,hra⟩:=hus.one
  subst hy;cases hx
  simp only[VRel] at hr;obtain ⟨b,cap,hb,rfl,hlc,c,ty',hb0,hcz⟩:=hr
  simp only[QB] at hs
  obtain ⟨cs,hcs,new,hnew,n,hn,hs⟩:=hs
  obtain ⟨vs,hv1,hv2,hv3⟩:=HZ (P:=P) h hra hnew hn
  split at hs
  ·rename_i hc;cases hs
   obtain ⟨rfl,hle,hl,hbb,hn44,hsc⟩:=hc
   have hlen:=hv2.length
   obtain ⟨b',c1,ty1,h1,hlobj,h2,h3,h4⟩:=h.row hcs
   rw[hb] at h1;cases h1
   obtain ⟨rfl,rfl⟩:c=c1∧ty'=ty1:=by rw[h2] at hb0;cases hb0;exact ⟨rfl,rfl⟩
   clear hb0
   have hone:=hv2.one_cells hsc
   obtain ⟨old,hol,hor,hoc⟩:=JS h2 h4 h3 (off:=0) (n:=len*i.size) (by omega)
   have holc:old=c.toList.take (len*i.size):=by
    apply Z1
    intro j
    by_cases hj:j<len*i.size
    ·have hjo:j<old.length:=by omega
     have:=hoc j _ (QI hjo)
     rw[JB,F7 h2] at this
     rw[QI hjo,Z7,if_pos hj]
     simpa using this.symm
    ·rw[QN (by omega),QN (by simp;omega)]
   by_cases hcap:len+n≤cap
   · -- IN PLACE
    have hsize:0+len*i.size+vs.length≤c.size:=by
     have:(len+n)*i.size≤cap*i.size:=YQ _ hcap
     rw[WP] at this;omega
    have hrun:=run_storeCells_at P b (0+len*i.size) ty' vs 0 c w h2 (by omega) hone
    simp only[Nat.add_zero] at hrun
    obtain ⟨c',hc'⟩:∃ c',c'=(c.toList.take (0+len*i.size)++vs++c.toList.drop (0+len*i.size+vs.length)).toArray:=⟨_,rfl⟩
    rw[← hc'] at hrun
    have hcs':c'.size=c.size:=by rw[hc'];simp;omega
    have ht:=YZ.row w c' h2 hcs'
    obtain ⟨g1,g2,g3⟩:=h.turn hb hlobj trivial ht (o':=.dead) (fun _=>trivial)
    have hdead:∀ x o,m x=some b→(σ.set l .dead)[x]? = some o→¬ o.live:=by
     intro x o hx ho hv
     rw[ZO] at ho
     split at ho
     ·split at ho
      ·cases ho;exact hv
      ·cases ho
     ·rename_i hne;exact hne (h.inj2 l x b _ o hb hx hlobj ho trivial hv)
    obtain ⟨k1,k2,k3⟩:=g1.adopt (ao:=.cells (cs.take (len*i.size)++new)) hb (h.own l b _ hb hlobj trivial) hdead (fun hm=>by
     refine ORel.new' (setRow_heap w b c c' ty' (0,0) h2) (vs:=old++vs) (rest:=c.toList.drop (0+len*i.size+vs.length)) (by rw[hc',holc];simp) ?_
     refine QK.append (((?_:QK m X w (cs.take (len*i.size)) old).mono g3 _ _).mono hm _ _) ((hv2.mono g3 _ _).mono hm _ _)
     simpa using hor)
    simp only[WE] at k1 k2 k3
    refine W7 (v:=.slice (some ⟨b,0,none⟩) (len+n) cap) ?_ ?_ k1 (Step.trans g2 k2)
    ·simp only[Builtin.append_,WG,List.getElem?_cons_zero,List.getElem?_cons_succ,Sem.run_bind,QY hu,Result.andThen_ok,YK hi,QY hxu,Sem.run_pure,QT,if_false,hv3,hcap,if_true,ZY,hv1 w rfl,Sem.run_pure,JB,hrun]
    ·simp only[VRel]
     exact ⟨b,cap,LM.put_same _ _ _,rfl,hcap,c',ty',setRow_heap w b c c' ty' (0,0) h2,by rw[hcs'];omega⟩
   · -- A NEW ROW
    have hd:HRel m X (σ.set l .dead) w.drew:=(h.kill l).of_heap rfl
    have hv2d:QK m X w.drew (cs.take (len*i.size)++new) (old++vs):=(QK.append (by simpa using hor) hv2:QK m X w _ _).mono (Mono.of_heap (w:=w) (w1:=w.drew) rfl) _ _
    obtain ⟨nc,hnc⟩:∃ nc,nc=(Question.appendCap (len+n) cap e).cut (w.tape w.drawn (.appendCap (len+n) cap e)):=⟨_,rfl⟩
    have hle':len+n≤nc:=by rw[hnc];exact KP _ _ _ _
    obtain ⟨h1,h2',h3'⟩:=hd.alloc (.cells (old.toArray++vs.toArray++Builtin.zeroCells z.cells (nc-(len+n))) e) (.cells (cs.take (len*i.size)++new))
     (fun hm=>ORel.new' (heap_alloc_new _ _) (vs:=old++vs) (rest:=(Builtin.zeroCells z.cells (nc-(len+n))).toList) (by simp) (hv2d.mono hm _ _))
    simp only[WE] at h1 h2' h3'
    refine W7 (v:=.slice (some ⟨w.heap.size,0,none⟩) (len+n) nc) ?_ ?_ h1 (Step.trans (Step.of_heap (w1:=w.drew) rfl rfl rfl rfl (XE _)) h2')
    ·have hfc:∀ w1:World,w1.heap=w.heap→(Builtin.firstCells i.size len (.slice (some ⟨b,0,none⟩) len cap)).run P w1=.ok old.toArray w1:=by
      intro w1 hw
      simp only[Builtin.firstCells]
      rw[← hol]
      exact run_loadCells_list w1 _ old fun j v hj=>by
       have:=hoc j v hj
       simpa[World.cell?,hw] using this
     simp only[Builtin.append_,WG,List.getElem?_cons_zero,List.getElem?_cons_succ,Sem.run_bind,QY hu,Result.andThen_ok,YK hi,QY hxu,Sem.run_pure,QT,if_false,hv3,hcap,YI hi,ZY,if_true]
     rw[if_neg (fun hh=>NA (len+n) hn44 hh.1)]
     simp only[Sem.run_bind,YI hi,Result.andThen_ok]
     rw[if_neg (DU (by omega) hbb hby)]
     simp only[Sem.run_bind,run_choose,Question.forced,QT,if_false,Result.andThen_ok,YI hi,run_askRoom,hfc w.drew rfl,hv1 w.drew rfl,GV hi hz,← hnc,World.drew_eq]
     simp[newRow]
    ·simp only[VRel]
     refine ⟨w.heap.size,nc,LM.put_same _ _ _,rfl,hle',_,e,heap_alloc_new w.drew _,?_⟩
     have e1:(nc-(len+n))*i.size+(len+n)*i.size=nc*i.size:=by rw[← WP];congr 1;omega
     rw[WP] at e1
     simp[hzs,hol];omega
  ·cases hs
 ·rename_i l off len cap e1 a
  obtain ⟨x',us,hx,hr,hus⟩:=ha.cons
  obtain ⟨y',hy,hra⟩:=hus.one
  subst hy;cases hx
  simp only[VRel] at hr;obtain ⟨b,hb,rfl,hlc,c,ty',hb0,hcz⟩:=hr
  simp only[QB] at hs
  obtain ⟨cs,hcs,new,hnew,n,hn,hs⟩:=hs
  obtain ⟨vs,hv1,hv2,hv3⟩:=HZ (P:=P) h hra hnew hn
  obtain ⟨b',c1,ty1,h1,hlobj,h2,h3,h4⟩:=h.row hcs
  rw[hb] at h1;cases h1
  obtain ⟨rfl,rfl⟩:c=c1∧ty'=ty1:=by rw[h2] at hb0;cases hb0;exact ⟨rfl,rfl⟩
  clear hb0
  have hlen:=hv2.length
  split at hs
  ·rename_i hcap
   split at hs
   ·rename_i hc;cases hs
    obtain ⟨rfl,hle,hl,hsc⟩:=hc
    have hone:=hv2.one_cells hsc
    rw[WP] at hle
    have hfit:off+len*i.size+vs.length≤c.size:=by omega
    have hrun:=run_storeCells_at P b (off+len*i.size) ty' vs 0 c w h2 (by simpa using hfit) hone
    simp only[Nat.add_zero] at hrun
    rw[← KG _ _ _ (by simpa using hfit)] at hrun
    have ht:YZ w (w.setRow b (setRange c.toList (off+len*i.size) vs).toArray) b:=YZ.row w _ h2 (by simp[Z5])
    obtain ⟨g1,g2,g3⟩:=h.turn hb hlobj trivial ht (o':=.cells (setRange cs (off+len*i.size) new)) (fun hm=>by
     simp only[ORel]
     refine ⟨_,ty',setRow_heap w b c _ ty' (0,0) h2,by simp[Z5];exact h3,?_⟩
     rw[Z5]
     simp only[List.toList_toArray,V5]
     exact ((h4.setRange _ hv2).mono hm _ _))
    refine W7 (v:=.slice (some ⟨b,off,none⟩) (len+n) cap) ?_ ?_ g1 g2
    ·simp only[Builtin.append_,WG,List.getElem?_cons_zero,List.getElem?_cons_succ,Sem.run_bind,QY hu,Result.andThen_ok,YK hi,QY hxu,Sem.run_pure,QT,if_false,hv3,hcap,if_true,ZY,hv1 w rfl,Sem.run_pure,JB,hrun]
    ·simp only[VRel]
     exact ⟨b,hb,rfl,hcap,_,ty',setRow_heap w b c _ ty' (0,0) h2,by simp[Z5];omega⟩
   ·cases hs
  ·rename_i hcap
   split at hs
   ·rename_i hc;cases hs
    obtain ⟨rfl,hle,hl,hbb,hn44,hsc⟩:=hc
    obtain ⟨old,hol,hor,hoc⟩:=JS h2 h4 h3 (off:=off) (n:=len*i.size) (by omega)
    have hd:HRel m X σ w.drew:=h.of_heap rfl
    have hv2d:QK m X w.drew ((cs.drop off).take (len*i.size)++new) (old++vs):=(QK.append hor hv2:QK m X w _ _).mono (Mono.of_heap (w:=w) (w1:=w.drew) rfl) _ _
    obtain ⟨nc,hnc⟩:∃ nc,nc=(Question.appendCap (len+n) cap e).cut (w.tape w.drawn (.appendCap (len+n) cap e)):=⟨_,rfl⟩
    have hle':len+n≤nc:=by rw[hnc];exact KP _ _ _ _
    obtain ⟨h1,h2',h3'⟩:=hd.alloc (.cells (old.toArray++vs.toArray++Builtin.zeroCells z.cells (nc-(len+n))) e) (.cells ((cs.drop off).take (len*i.size)++new))
     (fun hm=>ORel.new' (heap_alloc_new _ _) (vs:=old++vs) (rest:=(Builtin.zeroCells z.cells (nc-(len+n))).toList) (by simp) (hv2d.mono hm _ _))
    refine W7 (v:=.slice (some ⟨w.heap.size,0,none⟩) (len+n) nc) ?_ ?_ h1 (Step.trans (Step.of_heap (w1:=w.drew) rfl rfl rfl rfl (XE _)) h2')
    ·have hfc:∀ w1:World,w1.heap=w.heap→(Builtin.firstCells i.size len (.slice (some ⟨b,off,none⟩) len cap)).run P w1=.ok old.toArray w1:=by
      intro w1 hw
      simp only[Builtin.firstCells]
      rw[← hol]
      exact run_loadCells_list w1 _ old fun j v hj=>by
       have:=hoc j v hj
       simpa[World.cell?,hw] using this
     simp only[Builtin.append_,WG,List.getElem?_cons_zero,List.getElem?_cons_succ,Sem.run_bind,QY hu,Result.andThen_ok,YK hi,QY hxu,Sem.run_pure,QT,if_false,hv3,hcap,YI hi,ZY,if_true]
     rw[if_neg (fun hh=>NA (len+n) hn44 hh.1)]
     simp only[Sem.run_bind,YI hi,Result.andThen_ok]
     rw[if_neg (DU (by omega) hbb hby)]
     simp only[Sem.run_bind,run_choose,Question.forced,QT,if_false,Result.andThen_ok,YI hi,run_askRoom,hfc w.drew rfl,hv1 w.drew rfl,GV hi hz,← hnc,World.drew_eq]
     simp[newRow]
    ·simp only[VRel]
     refine ⟨w.heap.size,nc,LM.put_same _ _ _,rfl,hle',_,e,heap_alloc_new w.drew _,?_⟩
     have e1:(nc-(len+n))*i.size+(len+n)*i.size=nc*i.size:=by rw[← WP];congr 1;omega
     rw[WP] at e1
     simp[hzs,hol];omega
   ·cases hs
 ·cases hs
theorem Qb0 {st xt ty e:TypeId} {kn:IntKind} {i:TypeInfo} {z:Value} {x y:Value} {avs:List AV} (h:HRel m X σ w) (hu:P.underlying st=some (.slice e)) (hxu:P.underlying xt=some (.int kn)) (hi:P.info? e=some i) (hz:i.zero=some z)
  (hsz:z.cells.size=i.size) (hpos:0<i.size) (hby:i.bytes≤2 ^ 24) (ha:QK m X w avs [x,y]) (hs:VQ i.size i.bytes (z.cells.toList.map WC) avs σ=some (r,σ')):YP P (do pure (.value (← Builtin.append_ #[st,xt] ty #[x,y]))) m X σ w r σ':=by
 have hzs:∀ k,(Builtin.zeroCells z.cells k).size=k*i.size:=by intro k;simp[Builtin.zeroCells,hsz]
 unfold VQ at hs
 split at hs
 ·rename_i l off len cap e1 kq nn
  obtain ⟨x',us,hx,hr,hus⟩:=ha.cons
  obtain ⟨y',hy,hra⟩:=hus.one
  subst hy;cases hx
  obtain rfl:=hra.int
  simp only[VRel] at hr;obtain ⟨b,hb,rfl,hlc,c,ty',hb0,hcz⟩:=hr
  simp only[QB] at hs
  obtain ⟨cs,hcs,hs⟩:=hs
  split at hs
  ·rename_i hc;cases hs
   obtain ⟨hn0,hcap,rfl,hle,hbb,hn44⟩:=hc
   obtain ⟨n,rfl⟩:∃ n:Nat,nn=n:=⟨nn.toNat,by omega⟩
   simp only[Int.toNat_natCast] at hcap hbb hn44 ⊢
   obtain ⟨b',c1,ty1,h1,hlobj,h2,h3,h4⟩:=h.row hcs
   rw[hb] at h1;cases h1
   obtain ⟨old,hol,hor,hoc⟩:=JS h2 h4 h3 (off:=off) (n:=len*i.size) (by omega)
   have hd:HRel m X σ w.drew:=h.of_heap rfl
   have hz0:QK m X w (YW n (z.cells.toList.map WC)) (Builtin.zeroCells z.cells n).toList:=by
    have:=FL (m:=m) (X:=X) (w:=w) n z.cells
    simpa[Builtin.zeroCells] using this
   have hv2d:QK m X w.drew ((cs.drop off).take (len*i.size)++YW n (z.cells.toList.map WC)) (old++(Builtin.zeroCells z.cells n).toList):=(QK.append hor hz0:QK m X w _ _).mono (Mono.of_heap (w:=w) (w1:=w.drew) rfl) _ _
   have hle':len+n≤Go.grownCap w (len+n) cap e:=KP _ _ _ _
   generalize hnc:Go.grownCap w (len+n) cap e=nc at hle'
   obtain ⟨h1,h2',h3'⟩:=hd.alloc (.cells (old.toArray++Builtin.zeroCells z.cells n++Builtin.zeroCells z.cells (nc-(len+n))) e) (.cells ((cs.drop off).take (len*i.size)++YW n (z.cells.toList.map WC)))
    (fun hm=>ORel.new' (heap_alloc_new _ _) (vs:=old++(Builtin.zeroCells z.cells n).toList) (rest:=(Builtin.zeroCells z.cells (nc-(len+n))).toList) (by simp) (hv2d.mono hm _ _))
   have hfc:(Builtin.firstCells i.size len (.slice (some ⟨b,off,none⟩) len cap)).run P w.drew=.ok old.toArray w.drew:=by
    simp only[Builtin.firstCells]
    rw[← hol]
    exact run_loadCells_list w.drew _ old fun j v hj=>by
     have:=hoc j v hj
     simpa[World.cell?,show w.drew.heap=w.heap from rfl] using this
   have e44:(2:Nat) ^ 44=17592186044416:=by decide
   have hnb:n*i.bytes≤(len+n)*i.bytes:=YQ _ (by omega)
   have hcm:=DU (need:=len+n) (old:=cap) (bytes:=i.bytes) (by omega) hbb hby
   have e48:(2:Nat) ^ 48=281474976710656:=by decide
   have hrun:=Lib.run_append_grow_zeros w st xt ty e i z kq kn hu hxu hi hz (some ⟨b,off,none⟩) len cap old hfc n (by omega) hpos (by omega) (by omega) (by omega) (by omega)
   rw[hnc] at hrun
   refine W7 (v:=.slice (some ⟨w.heap.size,0,none⟩) (len+n) nc) hrun ?_ h1 (Step.trans (Step.of_heap (w1:=w.drew) rfl rfl rfl rfl (XE _)) h2')
   simp only[VRel]
   refine ⟨w.heap.size,nc,LM.put_same _ _ _,rfl,hle',_,e,heap_alloc_new w.drew _,?_⟩
   have e1:(nc-(len+n))*i.size+(len+n)*i.size=nc*i.size:=by rw[← WP];congr 1;omega
   rw[WP] at e1
   simp[hzs,hol];omega
  ·cases hs
 ·cases hs
theorem S1 {t:TypeId} {i:TypeInfo} {z:Value} {place:Nat→Option (Nat × Nat)} {ps:List (Nat × Value)} {pl:List (Nat × Nat)} {avs:List AV} (h:HRel m X σ w) (hi:P.info? t=some i) (hz:i.zero=some z)
  (hrun:∀ cells:Array Value,Instr.fill place z.cells ps=some cells→(Instr.build t ps.toArray).run P w=.ok (.agg cells) w)
  (hpl:ps.mapM (fun p=>place p.1)=some pl) (ha:QK m X w avs (ps.map (·.2)))
  (hs:DL (cellsOf (VX z)) pl avs σ=some (r,σ')):YP P (do pure (.value (← Instr.build t ps.toArray))) m X σ w r σ':=by
 unfold DL at hs
 simp only[QA] at hs
 obtain ⟨cs,hf,he⟩:=hs;cases he
 obtain ⟨out,ho,hr⟩:=P3 place ps pl avs _ cs z.cells hpl ha (SQ z) hf
 exact ZG h (hrun out ho) (by simp only[VRel];exact ⟨out.toList,by simp,hr⟩)
theorem NV {α β:Type} (g:α→Sem β) (f:α→β) (w:World):∀ (l:List α),(∀ a∈l,(g a).run P w=.ok (f a) w)→(l.mapM g).run P w=.ok (l.map f) w
 | [],_=>by simp
 | a::l,h=>by
  simp[h a (by simp),NV g f w l fun b hb=>h b (by simp[hb])]
theorem OZ {t:TypeId} {fs:Array Field} {i:TypeInfo} {z:Value} (hu:P.underlying t=some (.struct fs)) (hi:P.info? t=some i) (hz:i.zero=some z) (hall:∀ f∈fs.toList,(P.info? f.type).isSome=true) {ps:List (Nat × Value)} {cells:Array Value}
  (hf:Instr.fill (fun k=>(fs[k]?).map fun (f:Field)=>(f.offset,P.cellsOf f.type)) z.cells ps=some cells):(Instr.build t ps.toArray).run P w=.ok (.agg cells) w:=by
 have hm:(fs.mapM fun (f:Field)=>do pure (f.offset,← sizeOf f.type)).run P w=.ok (fs.map fun (f:Field)=>(f.offset,P.cellsOf f.type)) w:=by
  rw[Array.mapM_eq_mapM_toList]
  simp only[Sem.run_map]
  rw[NV _ (fun f:Field=>(f.offset,P.cellsOf f.type)) w fs.toList (fun f hfm=>by
   obtain ⟨j,hj⟩:=Option.isSome_iff_exists.1 (hall f hfm)
   simp[YK hj,Program.cellsOf,hj])]
  simp only[Result.andThen_ok]
  congr 1
  apply Array.ext'
  simp
 simp only[Instr.build,Sem.run_bind,GV hi hz,Result.andThen_ok,QY hu,hm]
 have e:(fun (x:Nat)=>(fs.map fun (f:Field)=>(f.offset,P.cellsOf f.type))[x]?)=(fun (k:Nat)=>(fs[k]?).map fun (f:Field)=>(f.offset,P.cellsOf f.type)):=by funext k;simp
 rw[e,hf];rfl
theorem MC {t e:TypeId} {n:Nat} {i j:TypeInfo} {z:Value} (hu:P.underlying t=some (.array n e)) (hi:P.info? t=some i) (hz:i.zero=some z) (hj:P.info? e=some j) {ps:List (Nat × Value)} {cells:Array Value}
  (hf:Instr.fill (fun k=>some (k*j.size,j.size)) z.cells ps=some cells):(Instr.build t ps.toArray).run P w=.ok (.agg cells) w:=by
 simp only[Instr.build,Sem.run_bind,GV hi hz,Result.andThen_ok,QY hu,YK hj,hf,Sem.run_pure]
theorem snd_copy {dt st ty e:TypeId} {i:TypeInfo} {x y:Value} {avs:List AV} (h:HRel m X σ w) (hu:P.underlying dt=some (.slice e)) (hi:P.info? e=some i) (ha:QK m X w avs [x,y])
  (hs:UE i.size avs σ=some (r,σ')):YP P (do pure (.value (← Builtin.copy_ #[dt,st] ty #[x,y]))) m X σ w r σ':=by
 unfold UE at hs
 split at hs
 ·rename_i l off len e1 a
  obtain ⟨x',us,hx,hr,hus⟩:=ha.cons
  obtain ⟨y',hy,hra⟩:=hus.one
  subst hy;cases hx
  simp only[VRel] at hr;obtain ⟨b,cap,hb,rfl,hlc,c,ty',hb0,hcz⟩:=hr
  simp only[QB] at hs
  obtain ⟨cs,hcs,new,hnew,n,hn,hs⟩:=hs
  split at hs
  ·rename_i hc;cases hs
   obtain ⟨rfl,hle,hl,hsc⟩:=hc
   obtain ⟨vs0,hv1,hv2,hv3⟩:=HZ (P:=P) h hra hnew hn
   obtain ⟨b',c1,ty1,h1,hlobj,h2,h3,h4⟩:=h.row hcs
   rw[hb] at h1;cases h1
   obtain ⟨rfl,rfl⟩:c=c1∧ty'=ty1:=by rw[h2] at hb0;cases hb0;exact ⟨rfl,rfl⟩
   have hk:Nat.min n len*i.size≤new.length:=by rw[← hl];exact YQ _ (Nat.min_le_left _ _)
   have hfirst:∃ vs:List Value,(Builtin.firstCells i.size (Nat.min n len) y).run P w=.ok vs.toArray w∧QK m X w (new.take (Nat.min n len*i.size)) vs:=by
    unfold Z9 at hnew
    split at hnew
    ·cases hnew;simp[lenF] at hn;subst hn
     obtain rfl:=hra.nils
     exact ⟨[],by simp[Builtin.firstCells],by simp[QK]⟩
    ·rename_i cs' len'
     split at hnew
     ·rename_i hcl;cases hnew;simp[lenF] at hn;subst hn
      simp only[VRel,CV.rep] at hra
      rcases hra with ⟨rfl,rfl,rfl⟩ | ⟨ad,cap',rfl,_,hreps⟩
      ·exact ⟨[],by simp[Builtin.firstCells],by simp[QK]⟩
      ·obtain ⟨vs,g1,g2,g3⟩:=LA (LB (Nat.min len' len*i.size) hreps)
       refine ⟨vs,?_,by rw[← List.map_take];exact g2⟩
       simp only[Builtin.firstCells]
       have:vs.length=Nat.min len' len*i.size:=by rw[g1,List.length_take];simp at hk;omega
       rw[← this]
       exact run_loadCells_list w ad vs fun j v hj=>by simpa using g3 j v hj
     ·cases hnew
    ·rename_i l' off' len' e'
     split at hnew
     ·rename_i he;subst he
      simp only[QB] at hnew
      obtain ⟨cs',hcs',hnew⟩:=hnew
      split at hnew
      ·rename_i hle';cases hnew;simp[lenF] at hn;subst hn
       simp only[VRel] at hra;obtain ⟨b2,cap2,hb2,rfl,_⟩:=hra
       obtain ⟨b3,c3,ty3,k1,_,k2,k3,k4⟩:=h.row hcs'
       rw[hb2] at k1;cases k1
       have hmm:Nat.min len' len*i.size≤len'*i.size:=YQ _ (Nat.min_le_left _ _)
       obtain ⟨vs,hlv,hrv,hcc⟩:=JS k2 k4 k3 (off:=off') (n:=Nat.min len' len*i.size) (by omega)
       refine ⟨vs,?_,by rw[List.take_take,VD hmm];exact hrv⟩
       simp only[Builtin.firstCells]
       rw[← hlv]
       exact run_loadCells_list w _ vs hcc
      ·cases hnew
     ·cases hnew
    ·rename_i s
     split at hnew
     ·rename_i h1e;cases hnew;simp[lenF] at hn;subst hn
      obtain rfl:=hra.str
      rw[h1e] at *
      refine ⟨(s.data.toList.take (Nat.min s.size len)).map fun b=>Value.int .u8 b.toNat,?_,?_⟩
      ·simp only[Builtin.firstCells,Sem.run_pure]
       congr 1
       apply Array.ext'
       simp[ByteArray.data_extract]
      ·rw[W3,← List.map_take];exact QK.map_bytes _
     ·cases hnew
    ·rename_i l' off' len' cap' e'
     split at hnew
     ·rename_i he;subst he
      simp only[QB] at hnew
      obtain ⟨cs',hcs',hnew⟩:=hnew
      split at hnew
      ·rename_i hle';cases hnew;simp[lenF] at hn;subst hn
       simp only[VRel] at hra;obtain ⟨b2,hb2,rfl,_⟩:=hra
       obtain ⟨b3,c3,ty3,k1,_,k2,k3,k4⟩:=h.row hcs'
       rw[hb2] at k1;cases k1
       have hmm:Nat.min len' len*i.size≤len'*i.size:=YQ _ (Nat.min_le_left _ _)
       obtain ⟨vs,hlv,hrv,hcc⟩:=JS k2 k4 k3 (off:=off') (n:=Nat.min len' len*i.size) (by omega)
       refine ⟨vs,?_,by rw[List.take_take,VD hmm];exact hrv⟩
       simp only[Builtin.firstCells]
       rw[← hlv]
       exact run_loadCells_list w _ vs hcc
      ·cases hnew
     ·cases hnew
    ·cases hnew
   obtain ⟨vs,hf1,hf2⟩:=hfirst
   have hlen:vs.length=Nat.min n len*i.size:=by rw[← hf2.length,List.length_take];omega
   have hone:=hf2.one_cells (by
    rw[Q1] at hsc ⊢
    exact fun v hv=>hsc v (List.mem_of_mem_take hv))
   have hfit:off+vs.length≤c.size:=by
    have:Nat.min n len*i.size≤len*i.size:=YQ _ (Nat.min_le_right _ _)
    omega
   have hrun:=run_storeCells_at P b off ty' vs 0 c w h2 (by simpa using hfit) hone
   simp only[Nat.add_zero] at hrun
   rw[← KG _ _ _ (by simpa using hfit)] at hrun
   have ht:YZ w (w.setRow b (setRange c.toList off vs).toArray) b:=YZ.row w _ h2 (by simp[Z5])
   obtain ⟨g1,g2,g3⟩:=h.turn hb hlobj trivial ht (o':=.cells (setRange cs off (new.take (Nat.min n len*i.size)))) (fun hm=>by
    simp only[ORel]
    refine ⟨_,ty',setRow_heap w b c _ ty' (0,0) h2,by simp[Z5];exact h3,?_⟩
    rw[Z5]
    simp only[List.toList_toArray,V5]
    exact ((h4.setRange off hf2).mono hm _ _))
   refine W7 (v:=goInt (Nat.min n len:Nat)) ?_ (VRel.mk_int _ _) g1 g2
   simp only[Builtin.copy_,WG,List.getElem?_cons_zero,List.getElem?_cons_succ,Sem.run_bind,QY hu,Result.andThen_ok,hv3,YK hi,hf1,hrun,Sem.run_pure]
  ·cases hs
 ·cases hs
theorem Qec {l:Nat} {cs:List AV} (h:σ[l]? = some (.cells cs)):σ.set l (.cells cs)=σ:=by
 apply Z1
 intro k
 by_cases hk:l=k
 ·subst hk
  rw[Z2 (QH.1 h).1,h]
 ·rw[QU hk]
theorem QcX (n:Nat) (zs:List AV):(YW n zs).length=n*zs.length:=by rw[T8];simp
theorem QeQ {n:Nat} {zs:List AV} (h:zs.all AV.isSc=true):(YW n zs).all AV.isSc=true:=by
 rw[T8,Q1]
 intro v hv
 simp only[ZP,ZI] at hv
 obtain ⟨i,hi,rfl⟩:=hv
 have h0:0<zs.length:=by
  rcases XF zs.length with h0 | h0
  ·rw[h0] at hi;omega
  ·exact h0
 have hlt:i % zs.length<zs.length:=Nat.mod_lt _ h0
 rw[Q1] at h
 rw[WA,QI hlt]
 exact h _ (Q2 hlt)
theorem Qea {st ty e:TypeId} {i:TypeInfo} {z:Value} {x:Value} {avs:List AV} (h:HRel m X σ w) (hu:P.underlying st=some (.slice e)) (hi:P.info? e=some i) (hz:i.zero=some z) (hsz:z.cells.size=i.size) (hpos:0<i.size)
  (ha:QK m X w avs [x]) (hs:UN (z.cells.toList.map WC) avs σ=some (r,σ')):YP P (do pure (.value (← Builtin.clear_ #[st] ty #[x]))) m X σ w r σ':=by
 have key:∀ (l off len e1:Nat),VRel m X w (.sl l off len e1) x→(((rowOf σ l).bind fun cs=>if e1=(z.cells.toList.map WC).length∧off+len*e1≤cs.length∧(z.cells.toList.map WC).all AV.isSc=true then some (AV.tup [],σ.set l (.cells (setRange cs off (YW len (z.cells.toList.map WC))))) else none)=some (r,σ')) →
   YP P (do pure (.value (← Builtin.clear_ #[st] ty #[x]))) m X σ w r σ':=by
  intro l off len e1 hr hs
  simp only[VRel] at hr;obtain ⟨b,cap,hb,rfl,hlc,c,ty',hb0,hcz⟩:=hr
  simp only[QB] at hs
  obtain ⟨cs,hcs,hs⟩:=hs
  split at hs
  ·rename_i hc;cases hs
   obtain ⟨he,hle,hsc⟩:=hc
   obtain ⟨b',c1,ty1,h1,hlobj,h2,h3,h4⟩:=h.row hcs
   rw[hb] at h1;cases h1
   have hz1:(z.cells.toList.map WC).length=i.size:=by simp[hsz]
   rw[hz1] at he
   subst he
   rcases XF len with h0 | h0
   ·subst h0
    have e0:setRange cs off (YW 0 (z.cells.toList.map WC))=cs:=by
     have:YW 0 (z.cells.toList.map WC)=[]:=ZT (by rw[QcX];simp)
     rw[this];rfl
    rw[e0,Qec hlobj]
    refine ZG h (v:=.tuple #[]) ?_ (by simp only[VRel];exact ⟨[],rfl,by simp[QK]⟩)
    simp[Builtin.clear_,QY hu]
   ·have hrel:=FL (m:=m) (X:=X) (w:=w) len z.cells
    generalize hvs:(List.range (len*z.cells.size)).map (fun i=>z.cells[i % z.cells.size]!)=vs at hrel
    have hlen:vs.length=len*i.size:=by rw[← hvs];simp[hsz]
    have hone:=hrel.one_cells (QeQ hsc)
    have hfit:off+vs.length≤c1.size:=by omega
    have hrun:=run_storeCells_at P b off ty1 vs 0 c1 w h2 (by simpa using hfit) hone
    simp only[Nat.add_zero] at hrun
    rw[← KG _ _ _ (by simpa using hfit)] at hrun
    have ht:YZ w (w.setRow b (setRange c1.toList off vs).toArray) b:=YZ.row w _ h2 (by simp[Z5])
    obtain ⟨g1,g2,g3⟩:=h.turn hb hlobj trivial ht (o':=.cells (setRange cs off (YW len (z.cells.toList.map WC)))) (fun hm=>by
     simp only[ORel]
     refine ⟨_,ty1,setRow_heap w b c1 _ ty1 (0,0) h2,by simp[Z5];exact h3,?_⟩
     rw[Z5]
     simp only[List.toList_toArray,V5]
     exact ((h4.setRange off hrel).mono hm _ _))
    refine W7 (v:=.tuple #[]) ?_ (by simp only[VRel];exact ⟨[],rfl,by simp[QK]⟩) g1 g2
    obtain ⟨k,rfl⟩:∃ k,len=k+1:=⟨len-1,by omega⟩
    have hzc:(Builtin.zeroCells z.cells (k+1)).toList=vs:=by rw[← hvs];simp[Builtin.zeroCells]
    simp only[Builtin.clear_,WG,List.getElem?_cons_zero,Sem.run_bind,QY hu,Result.andThen_ok,GV hi hz,hzc,hrun,Sem.run_pure]
  ·cases hs
 unfold UN at hs
 split at hs
 ·obtain ⟨v,hv,hr⟩:=ha.one;cases hv
  exact key _ _ _ _ hr hs
 ·obtain ⟨v,hv,hr⟩:=ha.one;cases hv
  exact key _ _ _ _ hr.slc_sl hs
 ·cases hs
theorem QdW {t st:TypeId} {str:Bool} {x:Value} {avs:List AV} (h:HRel m X σ w) (hu:(str=false∧∃ e,P.underlying st=some (.slice e))∨(str=true∧P.underlying st=some .string)) (ha:QK m X w avs [x]) (hs:RZ str avs σ=some (r,σ')) :
  YP P (do pure (.value (← Builtin.len_ #[st] t #[x]))) m X σ w r σ':=by
 unfold RZ at hs
 split at hs
 ·rename_i s
  obtain ⟨v,hv,hr⟩:=ha.one;cases hv;cases hs
  obtain rfl:=hr.str
  rcases hu with ⟨h0,_⟩ | ⟨_,hu⟩
  ·cases h0
  ·exact ZG h (v:=goInt s.size) (by simp[Builtin.len_,QY hu]) (VRel.mk_int _ _)
 ·obtain ⟨v,hv,hr⟩:=ha.one;cases hv;cases hs
  obtain rfl:=hr.nils
  rcases hu with ⟨_,e,hu⟩ | ⟨h0,_⟩
  ·exact ZG h (v:=goInt 0) (by simp[Builtin.len_,QY hu]) (VRel.mk_int _ _)
  ·cases h0
 ·rename_i len
  obtain ⟨v,hv,hr⟩:=ha.one;cases hv;cases hs
  simp only[VRel,CV.rep] at hr
  rcases hu with ⟨_,e,hu⟩ | ⟨h0,_⟩
  ·rcases hr with ⟨rfl,rfl,_⟩ | ⟨a,cap,rfl,_⟩
   ·exact ZG h (v:=goInt 0) (by simp[Builtin.len_,QY hu]) (VRel.mk_int _ _)
   ·exact ZG h (v:=goInt len) (by simp[Builtin.len_,QY hu]) (VRel.mk_int _ _)
  ·cases h0
 ·rename_i len e1
  obtain ⟨v,hv,hr⟩:=ha.one;cases hv;cases hs
  simp only[VRel] at hr
  obtain ⟨b,cap,_,rfl,_⟩:=hr
  rcases hu with ⟨_,e,hu⟩ | ⟨h0,_⟩
  ·exact ZG h (v:=goInt len) (by simp[Builtin.len_,QY hu]) (VRel.mk_int _ _)
  ·cases h0
 ·rename_i len c1 e1
  obtain ⟨v,hv,hr⟩:=ha.one;cases hv;cases hs
  simp only[VRel] at hr
  obtain ⟨b,_,rfl,_⟩:=hr
  rcases hu with ⟨_,e,hu⟩ | ⟨h0,_⟩
  ·exact ZG h (v:=goInt len) (by simp[Builtin.len_,QY hu]) (VRel.mk_int _ _)
  ·cases h0
 ·cases hs
theorem snd_cap {t st e:TypeId} {x:Value} {avs:List AV} (h:HRel m X σ w) (hu:P.underlying st=some (.slice e)) (ha:QK m X w avs [x]) (hs:NZ avs σ=some (r,σ')) :
  YP P (do pure (.value (← Builtin.cap_ #[st] t #[x]))) m X σ w r σ':=by
 unfold NZ at hs
 split at hs
 ·rename_i cap e1
  obtain ⟨v,hv,hr⟩:=ha.one;cases hv;cases hs
  simp only[VRel] at hr
  obtain ⟨b,_,rfl,_⟩:=hr
  exact ZG h (v:=goInt cap) (by simp[Builtin.cap_,QY hu]) (VRel.mk_int _ _)
 ·cases hs
theorem snd_min2 {at_:Array TypeId} {t:TypeId} {x y:Value} {avs:List AV} (h:HRel m X σ w) (ha:QK m X w avs [x,y]) (hs:DJ avs σ=some (r,σ')) :
  YP P (do pure (.value (← Builtin.min_ at_ t #[x,y]))) m X σ w r σ':=by
 unfold DJ at hs
 split at hs
 ·obtain ⟨x',us,hx,hr,hus⟩:=ha.cons
  obtain ⟨y',hy,hra⟩:=hus.one
  subst hy;cases hx
  obtain rfl:=hra.int;obtain rfl:=hr.int
  split at hs
  ·rename_i hk;subst hk;cases hs
   exact ZG h (v:=_) (by simp[Builtin.min_,Builtin.min2]) (VRel.mk_int _ _)
  ·cases hs
 ·cases hs
theorem snd_max2 {at_:Array TypeId} {t:TypeId} {x y:Value} {avs:List AV} (h:HRel m X σ w) (ha:QK m X w avs [x,y]) (hs:GT avs σ=some (r,σ')) :
  YP P (do pure (.value (← Builtin.max_ at_ t #[x,y]))) m X σ w r σ':=by
 unfold GT at hs
 split at hs
 ·obtain ⟨x',us,hx,hr,hus⟩:=ha.cons
  obtain ⟨y',hy,hra⟩:=hus.one
  subst hy;cases hx
  obtain rfl:=hra.int;obtain rfl:=hr.int
  split at hs
  ·rename_i hk;subst hk;cases hs
   exact ZG h (v:=_) (by simp[Builtin.max_,Builtin.max2]) (VRel.mk_int _ _)
  ·cases hs
 ·have:=ha.length
  simp at this
 ·cases hs
theorem snd_max3 {at_:Array TypeId} {t:TypeId} {x y z:Value} {avs:List AV} (h:HRel m X σ w) (ha:QK m X w avs [x,y,z]) (hs:GT avs σ=some (r,σ')) :
  YP P (do pure (.value (← Builtin.max_ at_ t #[x,y,z]))) m X σ w r σ':=by
 unfold GT at hs
 split at hs
 ·have:=ha.length
  simp at this
 ·obtain ⟨x',us,hx,hr,hus⟩:=ha.cons
  obtain ⟨y',us',hy,hra,hus'⟩:=hus.cons
  obtain ⟨z',hz,hrb⟩:=hus'.one
  subst hz;subst hy;cases hx
  obtain rfl:=hrb.int;obtain rfl:=hra.int;obtain rfl:=hr.int
  split at hs
  ·rename_i hk;obtain ⟨rfl,rfl⟩:=hk;cases hs
   exact ZG h (v:=_) (by simp[Builtin.max_,Builtin.max2]) (VRel.mk_int _ _)
  ·cases hs
 ·cases hs
end Go.Proofs.YtgkidpolomhghaaGreatDoor.AM

/- Parts of the proof, joined: AmYg to AmSo. -/
import Derived.Shelf.SlSortCmp.WholeK
import Derived.Test.YtgkidpolomhghaaGreatDoorZ15
set_option linter.unusedVariables false
set_option linter.unusedSimpArgs false
set_option linter.unusedSectionVars false
namespace Go.Proofs.YtgkidpolomhghaaGreatDoor.AM
variable [Dr]
open Go
def Turn1 (k:Nat) (σ:List AObj) (a b:AV):Prop:=(a=b∧QR k b=true)∨FrzV anyC σ a b
inductive D2 (k:Nat) (σ:List AObj):List AV→List AV→Prop
 | nil:D2 k σ [] []
 | cons {a b:AV} {as_ bs:List AV}:Turn1 k σ a b→D2 k σ as_ bs→D2 k σ (a::as_) (b::bs)
theorem D2.len {k:Nat} {σ:List AObj} {as_ bs:List AV} (h:D2 k σ as_ bs):as_.length=bs.length:=by
 induction h with
 | nil=>rfl
 | cons _ _ ih=>simp[ih]
theorem D2.get {k:Nat} {σ:List AObj} {as_ bs:List AV} (h:D2 k σ as_ bs):∀ i,Turn1 k σ (as_.getD i .undef) (bs.getD i .undef):=by
 induction h with
 | nil=>intro i;exact .inl ⟨by simp[List.getD],by simp[List.getD,QR]⟩
 | cons h _ ih =>
  intro i
  cases i with
  | zero=>simpa[List.getD] using h
  | succ i=>simpa[List.getD] using ih i
theorem Weak.turn {fx:Fx} {vals vals2:List AV} {τ τ2 J:List AObj} (h0:fx.n0=0) (hlen:τ2.length=τ.length)
  (hv:D2 τ.length (List.replicate τ.length .dead++J) vals vals2)
  (ho:∀ (l:Nat) (o2:AObj),τ2[l]? = some o2→∃ o,τ[l]? = some o∧o.live∧((o2=o∧Z3 τ.length o=true)∨∃ as_ bs,o=.cells as_∧o2=.cells bs∧D2 τ.length (List.replicate τ.length .dead++J) as_ bs)) :
  Weak fx ⟨vals,τ++J⟩ ⟨vals2,τ2⟩:=by
 intro m X en ac w hs
 have hh:=hs.heap
 let m2:LM:=fun l=>if l<τ.length then m l else none
 have hm2:∀ l,l<τ.length→m2 l=m l:=fun l hl=>by simp only[m2];rw[if_pos hl]
 have hm2s:∀ l b,m2 l=some b→l<τ.length∧m l=some b:=fun l b hl=>by
  simp only[m2] at hl
  split at hl
  ·rename_i h;exact ⟨h,hl⟩
  ·cases hl
 have how:∀ b,Own m2 X b→Own m X b:=by
  rintro b (hx | ⟨l,hl⟩)
  ·exact .inl hx
  ·exact .inr ⟨l,(hm2s l b hl).2⟩
 have hin:∀ (l:Nat) o,τ[l]? = some o→(τ++J)[l]? = some o:=fun l o hlo=>by rw[QE (QH.1 hlo).1];exact hlo
 have hlv:∀ l,l<τ.length→∃ o,(τ++J)[l]? = some o∧o.live:=fun l hl=>by
  obtain ⟨o,h1,h2,_⟩:=ho l _ (QI (by omega))
  exact ⟨o,hin l o h1,h2⟩
 have hnot:∀ (l b:Nat) (o:AObj),m l=some b→(List.replicate τ.length AObj.dead++J)[l]? = some o→o.live→¬ Own m2 X b:=by
  intro l b o hb hlo hlive hown
  have hge:τ.length≤l:=by
   rcases ZB l τ.length with hlt | hge
   ·rw[QE (by simpa using hlt)] at hlo
    have:=QZ hlo
    rw[List.mem_replicate] at this
    rw[this.2] at hlive;exact hlive.elim
   ·exact hge
  have hlo':(τ++J)[l]? = some o:=by
   rw[QS (by simpa using hge)] at hlo
   rw[QS hge]
   simpa using hlo
  rcases hown with hx | ⟨l2,h2⟩
  ·exact hh.own l b o hb hlo' hlive hx
  ·obtain ⟨h3,h4⟩:=hm2s l2 b h2
   obtain ⟨o2,h6,h7⟩:=hlv l2 h3
   have:=hh.inj l l2 b _ hb h4 h6 h7
   omega
 have one:∀ {a b:AV},Turn1 τ.length (List.replicate τ.length .dead++J) a b→∀ v,VRel m X w a v→VRel m2 X w b v:=by
  rintro a b (⟨rfl,h⟩ | h) v hv
  ·exact VRel.less hm2 how a v h hv
  ·exact RX (HRel.forget hh) (fun c v _ h=>CV.rep_less how c v h) hnot h v hv
 have many:∀ {as_ bs:List AV},D2 τ.length (List.replicate τ.length .dead++J) as_ bs→∀ vs,QK m X w as_ vs→QK m2 X w bs vs:=by
  intro as_ bs h
  induction h with
  | nil=>intro vs hv;rw[QK.nil' hv];simp[QK]
  | cons h1 _ ih =>
   intro vs hv
   obtain ⟨v,us,rfl,g1,g2⟩:=hv.cons
   exact ⟨one h1 v g1,ih us g2⟩
 refine ⟨m2,⟨hs.size,?_,?_,⟨hh.xb,?_,?_,?_,?_,hh.gl.less how⟩,by rw[h0];exact QF _,hs.entry⟩,?_⟩
 ·intro i t hi
  exact one (hv.get i) _ (hs.vars i t hi)
 ·obtain ⟨bs,h1,h2,h3⟩:=hs.defs
  exact ⟨bs,h1,h2,fun b hb=>let ⟨g1,g2,g3,g4⟩:=h3 b hb;⟨g1,g2,g3,fun hx=>g4 (how b hx)⟩⟩
 ·intro l b hl
  obtain ⟨h1,h2⟩:=hm2s l b hl
  exact ⟨by show l<τ2.length;omega,(hh.dom l b h2).2⟩
 ·intro l b o hl hlo hv
  obtain ⟨h1,h2⟩:=hm2s l b hl
  obtain ⟨o',h3,h4⟩:=hlv l h1
  exact hh.own l b o' h2 h3 h4
 ·intro l l' b o' hl hl' hlo hv
  obtain ⟨h1,h2⟩:=hm2s l b hl
  obtain ⟨h1',h2'⟩:=hm2s l' b hl'
  obtain ⟨o2,h3,h4⟩:=hlv l' h1'
  exact hh.inj l l' b o2 h2 h2' h3 h4
 ·intro l o2 hlo
  obtain ⟨o,h1,h2,h3⟩:=ho l o2 hlo
  have hlt:l<τ.length:=(QH.1 h1).1
  have hob:=hh.obj l o (hin l o h1)
  rw[hm2 l hlt]
  rcases h3 with ⟨rfl,hc⟩ | ⟨as_,bs,rfl,rfl,ht⟩
  ·refine ORel.ren (g:=id) hm2 how hc ?_
   rw[E1 (g:=id) (k:=τ.length) (fun _ _=>rfl) hc]
   exact hob
  ·cases hm:m l with
   | none=>rw[hm] at hob;exact hob.elim
   | some b =>
    rw[hm] at hob
    obtain ⟨c,e,g1,g2,g3⟩:=hob
    refine ⟨c,e,g1,by rw[← ht.len];exact g2,?_⟩
    rw[← ht.len]
    exact many ht _ g3
 ·rw[h0]
  exact ⟨fun l hl=>absurd hl (W5 _),fun l b hl=>.inl ⟨l,(hm2s l b hl).2⟩,QG _,fun _ _ _=>rfl,fun b c e hb=>⟨c,hb,rfl⟩,rfl,rfl,rfl,fun _=>QG _⟩
end Go.Proofs.YtgkidpolomhghaaGreatDoor.AM
namespace Go.Proofs.YtgkidpolomhghaaGreatDoor.AM
variable [Dr]
open Go Go.Sort Go.Shelf
section
variable {P:Program} {m m':LM} {X X':Nat→Prop} {σ:List AObj} {w w':World}
abbrev drOn [d:Dr]:Dr:=⟨True,d.gl⟩
omit [Dr] in
theorem Qe0 [d:Dr] (hon:d.on) {n0:Nat} (h:Step n0 nom X w m' w'):∃ q os,w'=grow (w.drewN q) os:=by
 refine ⟨w'.drawn-w.drawn,w'.heap.extract w.heap.size w'.heap.size,?_⟩
 have h1:=h.size
 have h2:=h.os
 have h3:=h.tape
 have h4:=h.output
 have h5:=h.drawn hon
 have h6:∀ b,b<w.heap.size→w'.heap[b]? = w.heap[b]? := fun b hb=>h.fr b hb (.inr fun l hl=>by cases hl)
 obtain ⟨hp,tp,dr,o,out⟩:=w'
 simp only at h1 h2 h3 h4 h5 h6
 simp only[grow,World.drewN,World.mk.injEq]
 refine ⟨?_,h3,by omega,h2,h4⟩
 apply Array.ext_getElem?
 intro i
 by_cases hi:i<w.heap.size
 ·rw[h6 i hi,JF hi]
 ·rw[Array.getElem?_append_right (by omega)]
  by_cases hj:i<hp.size
  ·rw[Array.getElem?_extract,if_pos (by omega),show w.heap.size+(i-w.heap.size)=i by omega]
  ·rw[Array.getElem?_eq_none (by omega),Array.getElem?_eq_none (by simp;omega)]
theorem HRel.turnG (h:HRel m X σ w) {l b:Nat} {o o':AObj} (hl:m l=some b) (ho:σ[l]? = some o) (hlive:o.live) (hs:Step σ.length m X w m w')
  (hot:∀ k,k≠b→k<w.heap.size→w'.heap[k]? = w.heap[k]?) (hr:Mono m X w m X w'→ORel m X w' (some b) o'):HRel m X (σ.set l o') w':=by
 have hm:=h.mono_of_step hs (QG _)
 refine ⟨?_,?_,?_,?_,?_,h.gl.mono hm⟩
 ·intro k hk;exact Z6 (h.xb k hk) hs.size
 ·intro x k hk;have:=h.dom x k hk;exact ⟨by simpa using this.1,Z6 this.2 hs.size⟩
 ·intro x k o1 hx ho1 hv
  rw[ZO] at ho1
  by_cases hxl:l=x
  ·subst hxl;exact h.own l k o hx ho hlive
  ·rw[if_neg hxl] at ho1;exact h.own x k o1 hx ho1 hv
 ·intro x y k o2 hx hy ho2 hv2
  rw[ZO] at ho2
  by_cases hyl:l=y
  ·subst hyl;exact h.inj x l k o hx hy ho hlive
  ·rw[if_neg hyl] at ho2;exact h.inj x y k o2 hx hy ho2 hv2
 ·intro x o1 ho1
  rw[ZO] at ho1
  by_cases hxl:l=x
  ·subst hxl
   rw[if_pos rfl] at ho1
   split at ho1
   ·cases ho1;rw[hl];exact hr hm
   ·cases ho1
  ·rw [if_neg hxl] at ho1
   have hob:=h.obj x o1 ho1
   cases hmx:m x with
   | none=>rw[hmx] at hob;cases o1 <;> simp[ORel] at hob ⊢
   | some k =>
    rw[hmx] at hob
    by_cases hkb:k=b
    ·subst hkb
     by_cases hlv:o1.live
     ·have a1:=h.inj l x k o1 hl hmx ho1 hlv
      have a2:=h.inj x l k o hmx hl ho hlive
      omega
     ·cases o1 with
      | dead=>trivial
      | _=>exact absurd trivial hlv
    ·exact ORel.mono hm (hot k hkb (h.dom x k hmx).2) hob
end
section
variable {α:Type} [Inhabited α] (enc:α→List Value) (k:Nat) (w:World) (b q:Nat) (d:Array α) (os:Array Obj)
theorem so_at {c:Array Value} {e:TypeId} {fr:Nat × Nat} (hb:w.heap[b]? = some (.cells c e fr)):(sortWorldK enc k w b 0 q d os).heap[b]? = some (.cells (putCells id 0 (Sort.flatK enc k d) c) e fr):=by
 have hlt:b<w.heap.size:=(Q3.1 hb).1
 unfold sortWorldK grow putRowK putRow mapBlock Sort.ahead
 simp only
 rw[JF (by simpa using hlt),W8,if_pos rfl,hb]
 rfl
theorem IH {x:Nat} (hx:x≠b) (hlt:x<w.heap.size):(sortWorldK enc k w b 0 q d os).heap[x]? = w.heap[x]? := by
 unfold sortWorldK grow putRowK putRow mapBlock Sort.ahead
 simp only
 rw[JF (by simpa using hlt),W8,if_neg (Ne.symm hx)]
theorem QdV:w.heap.size≤(sortWorldK enc k w b 0 q d os).heap.size:=by
 unfold sortWorldK grow putRowK putRow mapBlock Sort.ahead
 simp
theorem QdU {m:LM} {X:Nat→Prop} {n0 l:Nat} (hl:m l=some b) (hx:¬ X b):Step n0 m X w m (sortWorldK enc k w b 0 q d os) where
 keep _ _:=rfl
 new x c hc:=.inl ⟨x,hc⟩
 size:=QdV enc k w b q d os
 fr x hx' hno:=IH enc k w b q d os (fun h=>by
  subst h
  rcases hno with h | h
  ·exact hx h
  ·exact h l hl) hx'
 shp x c e hc:=by
  by_cases h:x=b
  ·subst h;exact ⟨_,so_at enc k w x q d os hc,by simp[putCells]⟩
  ·exact ⟨c,by rw[IH enc k w b q d os h (Q3.1 hc).1];exact hc,rfl⟩
 os:=rfl
 tape:=rfl
 output:=rfl
 drawn _:=by unfold sortWorldK grow putRowK putRow mapBlock Sort.ahead;simp
end
theorem A2 {α:Type} {f:α→List Value} {e:Nat} (hf:∀ x,(f x).length=e) [Inhabited α]:∀ {xs:List α} {i j:Nat},i<xs.length→j<e→(xs.flatMap f)[i*e+j]? = (f xs[i]!)[j]?
 | [],i,_,h,_=>by simp at h
 | x::xs,0,j,_,hj=>by
  rw[YH,QE (by rw[hf];omega)];simp
 | x::xs,i+1,j,h,hj=>by
  have h1:(i+1)*e+j=(f x).length+(i*e+j):=by rw[hf,XJ];omega
  rw[YH,h1,QS (by omega),X6,A2 hf (by simpa using h) hj]
  simp
theorem ND {α:Type} {f:α→List Value} {e:Nat} (hf:∀ x,(f x).length=e):∀ xs:List α,(xs.flatMap f).length=xs.length*e
 | []=>by simp
 | x::xs=>by rw[YH,QM,hf,ND hf xs,List.length_cons,XJ];omega
theorem Qcy {α:Type} [Inhabited α] (enc:α→List Value) (k:Nat) (hk:∀ x,(enc x).length=k) (d:Array α):(Sort.flatK enc k d).toList=d.toList.flatMap enc:=by
 apply Z1
 intro t
 by_cases ht:t<d.size*k
 ·have k0:0<k:=by
   rcases XF k with h | h
   ·subst h;simp at ht
   ·exact h
  have hq:t / k<d.size:=Nat.div_lt_of_lt_mul (by rw[Nat.mul_comm];exact ht)
  have hm:=Nat.mod_lt t k0
  have he:t=t / k*k+t % k:=by have:=Nat.div_add_mod t k;rw[Nat.mul_comm] at this;omega
  have h1:(Sort.flatK enc k d)[t]? = some (Sort.flatK enc k d)[t]! := by
   rw[getElem!_pos _ _ (by simpa using ht)];exact Q7 _
  have h2:=A2 hk (xs:=d.toList) (i:=t / k) (j:=t % k) (by simpa using hq) hm
  rw[← he] at h2
  rw[Y7,h1,get_flatK _ _ _ _ ht,h2]
  have h3:d.toList[t / k]! = d[t / k]! := by simp[List.getElem!_eq_getElem?_getD,getElem!_def]
  rw[h3,QI (by rw[hk];exact hm),getElem!_pos _ _ (by rw[hk];exact hm)]
 ·rw[QN (by simpa using ht),QN (by rw[ND hk];simpa using ht)]
theorem SJ (F c:Array Value) (h:F.size≤c.size):(putCells id 0 F c).toList=F.toList++c.toList.drop F.size:=by
 apply Z1
 intro t
 rw[Y7]
 unfold putCells
 rw[Array.getElem?_mapIdx]
 by_cases ht:t<F.size
 ·rw[QE (by simpa using ht),Q7 (by omega)]
  simp[ht]
 ·rw[QS (by simpa using ht),X4]
  simp[ht]
  congr 1
  omega
theorem QeZ {A:Nat→List CV} {k:Nat} (hk:∀ i,(A i).length=k) {n i:Nat} (hi:i<n):(((List.range n).flatMap A).drop (i*k)).take k=A i:=by
 rw[G3 hk (by simpa using hi)]
 congr 1
 rw[getElem!_pos _ _ (by simpa using hi)];simp
theorem U5 {A:Nat→List CV} {k:Nat} (hk:∀ i,(A i).length=k) (xs:List Nat):(xs.flatMap A).length=xs.length*k:=UG hk xs
theorem QK.flat {m:LM} {X:Nat→Prop} {w:World} {A:Nat→List CV} {V:Nat→List Value}:∀ {p:List Nat},(∀ i∈p,QK m X w ((A i).map .cv) (V i))→QK m X w ((p.flatMap A).map .cv) (p.flatMap V)
 | [],_=>by simp[QK]
 | i::p,h=>by
  rw[YH,YH,ZS]
  exact QK.append (h i (by simp)) (QK.flat fun j hj=>h j (by simp[hj]))
theorem swo_pull {cf:Nat→Nat→Int} (c:Nat→Nat) (h:SWO (ltOf cf)):SWO (ltOf fun x y=>cf (c x) (c y)) :=
 ⟨fun x=>h.irrefl (c x),fun x y z=>h.trans (c x) (c y) (c z),fun x y z=>h.ntrans (c x) (c y) (c z)⟩
theorem AC_sortK {P:Program} {ρ:Ren} (L:SlLaysF0.n6 P ρ) (k:Nat) (aE:∀ w,(isAgg (ρ.t 24)).run P w=.ok true w) (zE:∀ w,(Go.sizeOf (ρ.t 24)).run P w=.ok k w) (hf:PI P (ρ.f 6)) {g:Nat} {cap:List AV} {n:Nat} (hn:0<n) (hn2:n<4611686018427387904)
  {A:Nat→List CV} (hk:∀ i,(A i).length=k) {cf:Nat→Nat→Int} (hO:SWO (ltOf cf)) (hcl:QO 0 cap=true) (hcmp:∀ i j,i<n→j<n→@AC drOn P g (.agg ((A i).map .cv) :: .agg ((A j).map .cv)::cap) [] fun r _=>r=.i (cf i j))
  {σ:List AObj} {l:Nat} {rest:List AV} (hr:rowOf σ l=some (((List.range n).flatMap A).map .cv++rest)) :
  AC P (ρ.f 6) [.sl l 0 n k,.fn (.func g) cap] σ fun r τ=>r=.tup []∧∃ p:List Nat,p.Perm (List.range n)∧p.Pairwise (fun i j=>¬ cf j i<0)∧τ=σ.set l (.cells ((p.flatMap A).map .cv++rest)):=by
 refine ⟨hf,fun m X w cargs ha hh=>?_⟩
 obtain ⟨v1,us,rfl,h1,k1⟩:=QK.cons ha
 obtain ⟨v2,us,rfl,h2,k2⟩:=QK.cons k1
 have k3:=QK.nil' k2
 subst k3
 simp only[VRel] at h1 h2
 obtain ⟨b,capn,hmb,rfl,hcapn,c0,e0,hb0,hsz0⟩:=h1
 obtain ⟨vs,rfl,hvs⟩:=h2
 have hσ:=WO hr
 have hob:=hh.obj l _ hσ
 rw[hmb] at hob
 obtain ⟨c,e,hb,hcs,hrels⟩:=hob
 rw[hb] at hb0
 have hrl:((((List.range n).flatMap A).map AV.cv)++rest).length=n*k+rest.length:=by
  rw[QM,ZK,U5 hk];simp
 rw[hrl] at hcs hrels
 have hblk:b<w.heap.size:=(hh.dom l b hmb).2
 have hxb:¬ X b:=hh.own l b _ hmb hσ trivial
 let V:Nat→List Value:=fun i=>(c.toList.drop (i*k)).take k
 have hik:∀ i,i<n→i*k+k≤n*k:=fun i hi=>by
  rw[← XJ];exact YQ k hi
 have hVl:∀ i,i<n→(V i).length=k:=fun i hi=>by
  have:=hik i hi
  show ((c.toList.drop (i*k)).take k).length=k
  rw[List.length_take,List.length_drop,Array.length_toList];omega
 have hV:∀ i,i<n→QK m X w ((A i).map .cv) (V i):=fun i hi=>by
  have h:=(hrels.drop (i*k)).take k
  have hi':=hik i hi
  rw[List.drop_append_of_le_length (by rw[ZK,U5 hk];simp;omega),List.take_append_of_le_length (by rw[List.length_drop,ZK,U5 hk];simp;omega),← List.map_drop,← List.map_take,QeZ hk hi,List.drop_take,List.take_take] at h
  rw[show min k (n*k+rest.length-i*k)=k by omega] at h
  exact h
 let cl:Nat→Nat:=fun i=>if i<n then i else 0
 have hcl1:∀ i,cl i<n:=fun i=>by show (if i<n then i else 0)<n;split <;> omega
 have hcl2:∀ i,i<n→cl i=i:=fun i hi=>by show (if i<n then i else 0)=i;rw[if_pos hi]
 let enc:Nat→List Value:=fun i=>V (cl i)
 have hek:∀ x,(enc x).length=k:=fun x=>hVl _ (hcl1 x)
 have hone:∀ x,∀ v∈enc x,v.oneCell'=true:=fun x=>QK.one_cells (hV _ (hcl1 x)) (by simp[AV.isSc])
 have hds:(Array.range n).size=n:=by simp
 have hH:HoldsK enc k w b 0 (Array.range n):=by
  intro j hj
  rw[size_flatK,hds] at hj
  have hjc:j<c.size:=by omega
  have h2:(Sort.flatK enc k (Array.range n))[j]! = c[j]:=by
   have k0:0<k:=by
    rcases XF k with h | h
    ·subst h;simp at hj
    ·exact h
   have hq:j / k<n:=Nat.div_lt_of_lt_mul (by rw[Nat.mul_comm];exact hj)
   have hm:=Nat.mod_lt j k0
   have he:j=j / k*k+j % k:=by have:=Nat.div_add_mod j k;rw[Nat.mul_comm] at this;omega
   rw[get_flatK _ _ _ _ (by rw[hds];exact hj)]
   have h3:(Array.range n)[j / k]! = j / k:=by simp[hq]
   rw[h3]
   show (V (cl (j / k)))[j % k]! = c[j]
   rw[hcl2 _ hq,getElem!_pos _ _ (by rw[hVl _ hq];exact hm)]
   show ((c.toList.drop (j / k*k)).take k)[j % k]'_=c[j]
   rw[List.getElem_take,List.getElem_drop,Array.getElem_toList]
   congr 1
   omega
  refine ⟨?_,?_⟩
  ·simp only[World.cell?,ZV,hb,id,h2]
   simp[hjc]
  ·simp[World.frozen?,hb]
 have hown:∀ b,Own nom (Own m X) b↔Own m X b:=fun b=>⟨fun h=>h.elim id (fun ⟨l,hl⟩=>by cases hl),.inl⟩
 have hcmp':CmpLays P g vs.toArray enc k (fun x y=>cf (cl x) (cl y)) b 0 (Array.range n).size w:=by
  intro mm os dk hsz x y
  have hmono:Mono nom (Own m X) w nom (Own m X) (sortWorldK enc k w b 0 mm dk os):=by
   refine ⟨fun l b hl=>hl,fun b' hb' hc=>?_,(QdU enc k w b mm dk os (n0:=0) hmb hxb).shp⟩
   obtain ⟨c1,e1,fr1,hc1⟩:=hc
   have hne:b'≠b:=fun h=>hb' ((hown b').2 (.inr ⟨l,by rw[h];exact hmb⟩))
   exact ⟨IH enc k w b mm dk os hne (Q3.1 hc1).1,hb'⟩
  have a0:QK m X w (.agg ((A (cl x)).map .cv) :: .agg ((A (cl y)).map .cv)::cap) (.agg (enc x).toArray :: .agg (enc y).toArray::vs):=by
   simp only[QK,VRel]
   exact ⟨⟨_,rfl,hV _ (hcl1 x)⟩,⟨_,rfl,hV _ (hcl1 y)⟩,hvs⟩
  have hcv:∀ cs:List CV,QO 0 (cs.map AV.cv)=true:=fun cs=>by
   rw[Z8]
   intro v hv
   obtain ⟨z,_,rfl⟩:=ZP.1 hv
   rfl
  have a1:=QK.less (k:=0) (m':=nom) (X':=Own m X) (fun l hl=>absurd hl (W5 _)) (fun b hb=>(hown b).1 hb) _ _ (by simp only[QO,QR,hcv,hcl,Bool.and_self]) a0
  have a2:=a1.mono hmono
  have hh0:HRel nom (Own m X) [] (sortWorldK enc k w b 0 mm dk os):=⟨fun b' hb'=>by
    have hs:=QdV enc k w b mm dk os
    rcases hb' with h | ⟨l',h⟩
    ·have:=hh.xb b' h;omega
    ·have:=(hh.dom l' b' h).2;omega,fun l b hl=>(by cases hl),fun l b o hl=>(by cases hl),fun l l' b o hl=>(by cases hl),fun l o ho=>(by cases (List.getElem?_nil.symm.trans ho)),(hh.gl.less fun b hb=>(hown b).1 hb).mono hmono⟩
  have hcall:=callsIn_wide.1 ((hcmp (cl x) (cl y) (hcl1 x) (hcl1 y)).2 nom (Own m X) _ _ a2 (@HRel.mk drOn _ _ _ _ hh0.xb hh0.dom hh0.own hh0.inj hh0.obj hh0.gl))
  have hargs:(#[Value.agg (enc x).toArray,.agg (enc y).toArray]++vs.toArray)=(Value.agg (enc x).toArray :: .agg (enc y).toArray::vs).toArray:=by simp
  rw[hargs]
  refine hcall.mono ?_
  rintro e' w' ⟨cv,r,σ',m',rfl,rfl,hv,hh',hst,_⟩
  simp only[VRel,CV.rep] at hv
  subst hv
  exact ⟨rfl,Qe0 (d:=drOn) trivial hst⟩
 have heg:∀ args w,(callFunc g args).run P w=.ok (.enter g args) w:=(hcmp 0 0 hn hn).1
 have hO':=swo_pull cl hO
 refine callsIn_wide.2 ((AnyQ.slices_SortFunc L k aE zE enc hek hone _ hO' g vs.toArray b 0 capn (Array.range n) w heg hcmp' hH hblk (by rw[hds];exact hn2)).mono ?_) |> fun h=>by rw[hds] at h;exact h
 rintro e' w' ⟨rfl,d',nn,os,hperm,hsort,rfl⟩
 rw[hds] at hperm hsort
 obtain ⟨hps,_,hpp⟩:=hperm
 have hp1:d'.toList.Perm (List.range n):=by
  have e1:d'.extract 0 n=d':=by rw[← hds,← hps];simp
  have e2:(Array.range n).extract 0 n=Array.range n:=by simp
  rw[e1,e2] at hpp
  simpa using hpp
 have hlt:∀ i∈d'.toList,i<n:=fun i hi=>by simpa using (hp1.mem_iff (a:=i)).1 hi
 have hdl:d'.toList.length=n:=by have:=hp1.length_eq;simpa using this
 have hst:=QdU enc k w b nn d' os (n0:=σ.length) hmb hxb
 refine ⟨.tuple #[],.tup [],σ.set l (.cells ((d'.toList.flatMap A).map .cv++rest)),m,rfl,⟨rfl,d'.toList,hp1,?_,rfl⟩,?_,?_,hst,by simp⟩
 ·rw[List.pairwise_iff_getElem]
  intro i j hi hj hij
  have:=hsort i j (QF _) hij (by omega)
  unfold ltOf at this
  have:=of_decide_eq_false this
  rw[getElem!_pos d' j (by simpa using hj),getElem!_pos d' i (by simpa using hi)] at this
  have g1:d'.toList[i]=d'[i]'(by simpa using hi):=by simp
  have g2:d'.toList[j]=d'[j]'(by simpa using hj):=by simp
  rw[g1,g2]
  have f1:=hcl2 (d'[i]'(by simpa using hi)) (hlt _ (by rw[← g1];exact Q2 hi))
  have f2:=hcl2 (d'[j]'(by simpa using hj)) (hlt _ (by rw[← g2];exact Q2 hj))
  have this:¬ cf (cl (d'[j]'(by simpa using hj))) (cl (d'[i]'(by simpa using hi)))<0:=this
  rw[f1,f2] at this
  exact this
 ·simp only[VRel];exact ⟨[],rfl,by simp[QK]⟩
 ·refine hh.turnG hmb hσ trivial hst (fun x hx hlt=>IH enc k w b nn d' os hx hlt) fun hm=>?_
  have hF:(Sort.flatK enc k d').size=n*k:=by rw[size_flatK,hps,hds]
  refine ⟨_,e,so_at enc k w b nn d' os hb,?_,?_⟩
  ·rw[QM,ZK,U5 hk,hdl]
   simp[putCells];omega
  ·have hlen2:((d'.toList.flatMap A).map AV.cv++rest).length=n*k+rest.length:=by rw[QM,ZK,U5 hk,hdl]
   rw[hlen2,SJ _ _ (by rw[hF];omega),Qcy enc k hek,hF]
   have e1:d'.toList.flatMap enc=d'.toList.flatMap V:=by
    have:∀ p:List Nat,(∀ i∈p,i<n)→p.flatMap enc=p.flatMap V:=by
     intro p hp
     induction p with
     | nil=>rfl
     | cons i p ih =>
      rw[YH,YH,ih fun j hj=>hp j (by simp[hj])]
      show V (cl i)++_=_
      rw[hcl2 i (hp i (by simp))]
    exact this _ hlt
   have e2:(d'.toList.flatMap V).length=n*k:=by rw[← e1,ND hek,hdl]
   rw[e1,List.take_append,e2,Q5 (by omega),show n*k+rest.length-n*k=rest.length by omega]
   refine QK.append (QK.flat fun i hi=>(hV i (hlt i hi)).mono hm) ?_
   have h:=hrels.drop (n*k)
   rw[List.drop_left' (by rw[ZK,U5 hk];simp),List.drop_take,show n*k+rest.length-n*k=rest.length by omega] at h
   exact h.mono hm
end Go.Proofs.YtgkidpolomhghaaGreatDoor.AM

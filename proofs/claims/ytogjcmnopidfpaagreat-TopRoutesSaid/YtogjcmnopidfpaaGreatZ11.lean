/- Parts of the proof, joined: AmFr to AmYd. -/
import Derived.Test.YtogjcmnopidfpaaGreatZ10
set_option linter.unusedVariables false
set_option linter.unusedSimpArgs false
set_option linter.unusedSectionVars false
namespace Go.Proofs.YtogjcmnopidfpaaGreat.AM
variable [Dr]
open Go
section
variable {m m2:LM} {X X2:Nat→Prop} {w:World} {g:Nat→Nat}
mutual
theorem VRel.shift (hm:∀ l b,m l=some b→m2 (g l)=some b) (ho:∀ b,Own m2 X2 b→Own m X b):∀ (a:AV) (v:Value),VRel m X w a v→VRel m2 X2 w (AM.ren g a) v
 | .cv c,v,h=>by simp only[AM.ren,VRel] at h ⊢;exact CV.rep_less ho c v h
 | .ptr l off,v,h=>by simp only[AM.ren,VRel] at h ⊢;obtain ⟨b,h1,h2⟩:=h;exact ⟨b,hm l b h1,h2⟩
 | .sl l off len esz,v,h=>by simp only[AM.ren,VRel] at h ⊢;obtain ⟨b,cap,h1,h2⟩:=h;exact ⟨b,cap,hm l b h1,h2⟩
 | .map l,v,h=>by simp only[AM.ren,VRel] at h ⊢;obtain ⟨b,h1,h2⟩:=h;exact ⟨b,hm l b h1,h2⟩
 | .fn f cs,v,h=>by simp only[AM.ren,VRel] at h ⊢;obtain ⟨vs,h1,h2⟩:=h;exact ⟨vs,h1,QK.shift hm ho cs vs h2⟩
 | .bm f cs,v,h=>by simp only[AM.ren,VRel] at h ⊢;obtain ⟨vs,h1,h2⟩:=h;exact ⟨vs,h1,QK.shift hm ho cs vs h2⟩
 | .yld l,v,h=>by simp only[AM.ren,VRel] at h ⊢;obtain ⟨b,h1,h2⟩:=h;exact ⟨b,hm l b h1,h2⟩
 | .agg cs,v,h=>by simp only[AM.ren,VRel] at h ⊢;obtain ⟨vs,h1,h2⟩:=h;exact ⟨vs,h1,QK.shift hm ho cs vs h2⟩
 | .tup cs,v,h=>by simp only[AM.ren,VRel] at h ⊢;obtain ⟨vs,h1,h2⟩:=h;exact ⟨vs,h1,QK.shift hm ho cs vs h2⟩
 | .undef,v,_=>by simp[AM.ren,VRel]
 | .slc l off len cap esz,v,h=>by simp only[AM.ren,VRel] at h ⊢;obtain ⟨b,h1,h2⟩:=h;exact ⟨b,hm l b h1,h2⟩
theorem QK.shift (hm:∀ l b,m l=some b→m2 (g l)=some b) (ho:∀ b,Own m2 X2 b→Own m X b):∀ (as_:List AV) (vs:List Value),QK m X w as_ vs→QK m2 X2 w (AM.rens g as_) vs
 | [],[],_=>by simp[AM.rens,QK]
 | a::as_,v::vs,h=>by simp only[AM.rens,QK] at h ⊢;exact ⟨VRel.shift hm ho a v h.1,QK.shift hm ho as_ vs h.2⟩
 | [],_::_,h=>by simp[QK] at h
 | _::_,[],h=>by simp[QK] at h
end
theorem ORel.shift (hm:∀ l b,m l=some b→m2 (g l)=some b) (ho:∀ b,Own m2 X2 b→Own m X b) {b:Nat} {o:AObj} (h:ORel m X w (some b) o):ORel m2 X2 w (some b) (renO g o):=by
 cases o with
 | dead=>trivial
 | cells cs =>
  simp only[ORel,renO] at h ⊢
  obtain ⟨c,e,h1,h2,h3⟩:=h
  exact ⟨c,e,h1,by rw[UY];exact h2,by rw[UY];exact QK.shift hm ho _ _ h3⟩
 | map es =>
  simp only[ORel,renO] at h ⊢
  obtain ⟨ces,clock,h1,h2,h3,h4,h5⟩:=h
  refine ⟨ces,clock,h1,h2,h3,by simpa using h4,fun i k a hi=>?_⟩
  rw[ZR,QA] at hi
  obtain ⟨⟨k0,a0⟩,hi,he⟩:=hi
  simp only[Prod.mk.injEq] at he
  obtain ⟨rfl,rfl⟩:=he
  obtain ⟨e,g1,g2,g3⟩:=h5 i k0 a0 hi
  exact ⟨e,g1,VRel.shift hm ho _ _ g2,VRel.shift hm ho _ _ g3⟩
 | siter s p=>simpa only[ORel,renO] using h
 | loop r =>
  simp only[ORel,renO] at h ⊢
  obtain ⟨tmps,d,fi,h1,h2,h3,h4⟩:=h
  refine ⟨tmps,d,fi,h1,fun i t hi=>?_,h3,by rw[UY];exact h4⟩
  have:=VRel.shift hm ho _ _ (h2 i t hi)
  rwa [← O3] at this
end
abbrev sh (n:Nat):Nat→Nat:=fun l=>l+n
theorem AC.cut {P:Program} {f:FuncId} {args:List AV} {σ σ2:List AObj} {v:AV} (h:AC P f args σ fun r τ=>r=v∧∃ junk,τ=σ2++junk) (hl:σ2.length=σ.length) (hv:QR σ.length v=true)
  (ho:∀ (l:Nat) (o:AObj),σ2[l]? = some o→σ[l]? = some o∨Z3 σ.length o=true):AC P f args σ fun r τ=>r=v∧τ=σ2:=by
 refine h.tidy ?_
 rintro r τ ⟨rfl,junk,rfl⟩
 refine ⟨id,r,σ2,⟨fun _ _=>rfl,fun _ _ h _=>h,by omega,(PU (g:=id) (k:=σ.length) (fun _ _=>rfl) r hv).symm,by rw[hl];exact hv,fun l o hlo=>?_⟩,rfl,rfl⟩
 have hlt:l<σ2.length:=(QH.1 hlo).1
 have hin:(σ2++junk)[l]? = some o:=by rw[QE hlt];exact hlo
 rcases ho l o hlo with h1 | h1
 ·exact .inl ⟨by omega,h1,hin⟩
 ·refine .inr ⟨by rw[hl];exact h1,?_⟩
  rw[E1 (g:=id) (k:=σ.length) (fun _ _=>rfl) h1];exact hin
def atF (gl:List Nat) (N:Nat) (l:Nat):Nat:=if l<gl.length then gl.getD l 0 else N+(l-gl.length)
def putL (σ:List AObj):List Nat→List AObj→List AObj
 | l::ls,o::os=>putL (σ.set l o) ls os
 | [],os=>σ++os
 | _::_,[]=>σ
def AtOk (σ:List AObj) (g:Nat→Nat) (n:Nat):List Nat→List AObj→Prop
 | l::ls,o::os=>(o.live∧Z3 n o=true∧σ[l]? = some (renO g o))∧AtOk σ g n ls os
 | [],[]=>True
 | _,_=>False
theorem AtOk.get {σ:List AObj} {g:Nat→Nat} {n:Nat}:∀ {ls:List Nat} {os:List AObj},AtOk σ g n ls os→ls.length=os.length∧∀ (k:Nat) (o:AObj),os[k]? = some o→o.live∧Z3 n o=true∧σ[ls.getD k 0]? = some (renO g o)
 | [],[],_=>⟨rfl,fun k o h=>by simp at h⟩
 | l::ls,o::os,h=>by
  obtain ⟨h1,h2⟩:=h
  obtain ⟨h3,h4⟩:=h2.get
  refine ⟨by simp[h3],fun k o' hk=>?_⟩
  cases k with
  | zero=>simp at hk;subst hk;simpa using h1
  | succ k=>simpa using h4 k o' (by simpa using hk)
 | [],_::_,h=>h.elim
 | _::_,[],h=>h.elim
theorem Qbb:∀ (gl:List Nat) (os σ:List AObj),gl.Nodup→(∀ l∈gl,l<σ.length)→gl.length≤os.length →
  (putL σ gl os).length=σ.length+(os.length-gl.length)∧(∀ (k l:Nat),gl[k]? = some l→(putL σ gl os)[l]? = os[k]?)∧(∀ (l:Nat),l<σ.length→l∉gl→(putL σ gl os)[l]? = σ[l]?)∧∀ (j:Nat),(putL σ gl os)[σ.length+j]? = os[gl.length+j]?
 | [],os,σ,_,_,_=>by
  refine ⟨by simp[putL],fun k l h=>by simp at h,fun l hl _=>?_,fun j=>?_⟩
  ·simp only[putL];rw[QE hl]
  ·simp only[putL];rw[QS (by omega)];simp
 | g::gl,[],σ,_,_,h=>by simp at h
 | g::gl,o::os,σ,hnd,hlt,hle=>by
  have hn:=WQ.1 hnd
  obtain ⟨h1,h2,h3,h4⟩:=Qbb gl os (σ.set g o) hn.2 (fun l hl=>by simpa using hlt l (by simp[hl])) (by simpa using hle)
  simp only[putL]
  simp only[WE] at h1 h3 h4
  have hg:=hlt g (by simp)
  refine ⟨by rw[h1];simp,fun k l hk=>?_,fun l hl hm=>?_,fun j=>?_⟩
  ·cases k with
   | zero =>
    simp at hk;subst hk
    rw[h3 g hg hn.1,Z2 hg];rfl
   | succ k=>rw[h2 k l (by simpa using hk)];rfl
  ·simp only[ZD,not_or] at hm
   rw[h3 l hl hm.2,QU (fun h=>hm.1 h.symm)]
  ·rw[h4 j,show (g::gl).length+j=(gl.length+j)+1 by simp;omega];rfl
theorem E7 {g:Nat→Nat} {o:AObj} (h:(renO g o).live):o.live:=by cases o <;> simp_all [renO,AObj.live]
theorem AC.at {P:Program} {f:FuncId} {args:List AV} {σ0 σ:List AObj} {Q:AV→List AObj→Prop} (gl:List Nat) (h:AC P f args σ0 Q) (hnd:gl.Nodup) (hcl:QO σ0.length args=true)
  (hobj:AtOk σ (atF gl σ.length) σ0.length gl σ0) :
  AC P f (rens (atF gl σ.length) args) σ fun r τ=>∃ r0 τ0,Q r0 τ0∧σ0.length≤τ0.length∧r=ren (atF gl σ.length) r0∧τ=putL σ gl (τ0.map (renO (atF gl σ.length))):=by
 refine ⟨h.1,fun m X w cargs ha hh=>?_⟩
 obtain ⟨hlen,hget⟩:=hobj.get
 generalize hn0:σ0.length=n0 at *
 let N:=σ.length
 obtain ⟨g,hg⟩:∃ g,g=atF gl N:=⟨_,rfl⟩
 rw[← hg] at ha hget ⊢
 have glo:∀ l,l<n0→g l=gl.getD l 0:=fun l hl=>by rw[hg];unfold atF;rw[if_pos (by omega)]
 have ghi:∀ j,g (n0+j)=N+j:=fun j=>by rw[hg];unfold atF;rw[if_neg (by omega)];omega
 have gmem:∀ l,l<n0→gl[l]? = some (g l):=fun l hl=>by rw[glo l hl];simp[List.getD,show l<gl.length by omega]
 have hsome:∀ l,l<n0→∃ o,σ0[l]? = some o:=fun l hl=>⟨σ0[l],by simp⟩
 have glt:∀ l,l<n0→g l<N:=fun l hl=>by
  obtain ⟨o,ho⟩:=hsome l hl
  have:=(hget l o ho).2.2
  rw[← glo l hl] at this
  exact (QH.1 this).1
 have gobj:∀ (l:Nat) o,σ0[l]? = some o→l<n0∧o.live∧Z3 n0 o=true∧σ[g l]? = some (renO g o):=fun l o ho=>by
  have hl:l<n0:=by rw[← hn0];exact (QH.1 ho).1
  have:=hget l o ho
  rw[← glo l hl] at this
  exact ⟨hl,this⟩
 have glive:∀ l,l<n0→∃ o,σ[g l]? = some o∧o.live:=fun l hl=>by
  obtain ⟨o,ho⟩:=hsome l hl
  have:=gobj l o ho
  exact ⟨_,this.2.2.2,EI this.2.1⟩
 have ginj:∀ a b,a<n0→b<n0→g a=g b→a=b:=fun a b ha hb he=>by
  have h1:=gmem a ha
  have h2:=gmem b hb
  rw[← he] at h2
  exact (List.getElem?_inj (by omega) hnd).1 (h1.trans h2.symm)
 have hone:∀ l l' b o o',m l=some b→m l'=some b→σ[l]? = some o→σ[l']? = some o'→o.live→o'.live→l=l':=fun l l' b o o' h1 h2 h3 h4 h5 h6=>by
  have:=hh.inj l l' b o' h1 h2 h4 h6
  have:=hh.inj l' l b o h2 h1 h3 h5
  omega
 let m0:LM:=fun l=>if l<n0 then m (g l) else none
 have m0lo:∀ l,l<n0→m0 l=m (g l):=fun l hl=>by simp only[m0];rw[if_pos hl]
 have m0s:∀ l b,m0 l=some b→l<n0∧m (g l)=some b:=fun l b hl=>by
  simp only[m0] at hl
  split at hl
  ·rename_i h;exact ⟨h,hl⟩
  ·cases hl
 let X':Nat→Prop:=fun b=>Own m X b∧∀ l,l<n0→m (g l)≠some b
 have hown:∀ b,Own m X b→Own m0 X' b:=fun b hb=>by
  by_cases hx:∃ l,l<n0∧m (g l)=some b
  ·obtain ⟨l,h1,h2⟩:=hx
   exact .inr ⟨l,by rw[m0lo l h1];exact h2⟩
  ·exact .inl ⟨hb,fun l h1 h2=>hx ⟨l,h1,h2⟩⟩
 have hown':∀ b,Own m0 X' b→Own m0 (Own m X) b:=fun b hb=>hb.elim (fun h=>.inl h.1) .inr
 have hown2:∀ b,Own m0 (Own m X) b→Own m (Own m X) b:=fun b hb=>hb.elim .inl (fun ⟨l,hl⟩=>.inr ⟨_,(m0s l b hl).2⟩)
 have hown3:∀ b,Own m (Own m X) b→Own m X b:=fun b hb=>hb.elim id .inr
 have hlt:∀ b,Own m X b→b<w.heap.size:=fun b hb=>by
  rcases hb with hb | ⟨l,hl⟩
  ·exact hh.xb b hb
  ·exact (hh.dom l b hl).2
 have ha0:QK m0 X' w args cargs:=by
  have hk:=QK.locs (n:=N) (fun l b hl=>(hh.dom l b hl).1) _ _ ha
  have h1:QK m (Own m X) w (rens g args) cargs:=QK.less (k:=N) (fun _ _=>rfl) (fun b hb=>hown3 b hb) _ _ hk ha
  have h2:QK m0 (Own m X) w args cargs:=QK.ren (k:=n0) (g:=g) (fun l hl=>m0lo l hl) (fun b hb=>hown2 b hb) _ _ hcl h1
  exact QK.less (k:=n0) (fun _ _=>rfl) hown' _ _ hcl h2
 have hh0:HRel m0 X' σ0 w:=by
  refine ⟨fun b hb=>hlt b hb.1,fun l b hl=>?_,fun l b o hl ho hv hx=>?_,fun l l' b o' hl hl' ho' hv=>?_,fun l o ho=>?_,hh.gl.less fun b hb=>hown3 b (hown2 b (hown' b hb))⟩
  ·obtain ⟨h1,h2⟩:=m0s l b hl
   exact ⟨by rw[hn0];exact h1,(hh.dom _ b h2).2⟩
  ·obtain ⟨h1,h2⟩:=m0s l b hl
   exact hx.2 l h1 h2
  ·obtain ⟨h1,h2⟩:=m0s l b hl
   obtain ⟨h1',h2'⟩:=m0s l' b hl'
   obtain ⟨o1,e1,e2⟩:=glive l h1
   obtain ⟨o2,e3,e4⟩:=glive l' h1'
   have:=ginj l l' h1 h1' (hone _ _ b o1 o2 h2 h2' e1 e3 e2 e4)
   omega
  ·obtain ⟨h1,h2,h3,h4⟩:=gobj l o ho
   rw[m0lo l h1]
   have hor:=hh.obj _ _ h4
   cases hml:m (g l) with
   | none=>rw[hml] at hor;cases o <;> simp[ORel,renO] at hor ⊢
   | some b =>
    rw[hml] at hor
    have hk:Z3 N (renO g o)=true:=hh.closed _ _ h4
    have h1:ORel m (Own m X) w (some b) (renO g o):=ORel.less (k:=N) (fun _ _=>rfl) (fun b hb=>hown3 b hb) hk hor
    have h2:ORel m0 (Own m X) w (some b) o:=ORel.ren (k:=n0) (g:=g) (fun l hl=>m0lo l hl) (fun b hb=>hown2 b hb) h3 h1
    exact ORel.less (k:=n0) (fun _ _=>rfl) hown' h3 h2
 refine (h.2 m0 X' w cargs ha0 hh0).mono ?_
 rintro e w' ⟨c,r0,τ0,m',rfl,hQ,hv,hh',hst,hle⟩
 rw[hn0] at hst hle
 let m2:LM:=fun l=>if l<N then m l else m' (n0+(l-N))
 have m2lo:∀ l,l<N→m2 l=m l:=fun l hl=>by simp only[m2];rw[if_pos hl]
 have m2hi:∀ j,m2 (N+j)=m' (n0+j):=fun j=>by simp only[m2];rw[if_neg (by omega),X6]
 have mk:∀ l,l<n0→m' l=m (g l):=fun l hl=>by rw[hst.keep l hl,m0lo l hl]
 have m2s:∀ l b,m2 l=some b→(l<N∧m l=some b)∨(∃ j,l=N+j∧m' (n0+j)=some b):=fun l b hl=>by
  rcases ZB l N with h | h
  ·exact .inl ⟨h,by rw[← m2lo l h];exact hl⟩
  ·refine .inr ⟨l-N,by omega,?_⟩
   rw[← m2hi,show N+(l-N)=l by omega];exact hl
 have hnew:∀ l b,m' l=some b→(∃ l0,l0<n0∧m (g l0)=some b)∨w.heap.size≤b:=fun l b hl=>by
  rcases hst.new l b hl with ⟨l',hl'⟩ | hge
  ·exact .inl ⟨l',m0s l' b hl'⟩
  ·exact .inr hge
 have hsame:∀ b,b<w.heap.size→(∀ l,l<n0→m (g l)≠some b)→w'.heap[b]? = w.heap[b]? := fun b hb hno=>hst.fr b hb (.inr fun l hl=>by
  obtain ⟨h1,h2⟩:=m0s l b hl
  exact hno l h1 h2)
 have hmap:∀ l b,m' l=some b→m2 (g l)=some b:=fun l b hl=>by
  rcases ZB l n0 with h | h
  ·rw[m2lo _ (glt l h),← mk l h];exact hl
  ·obtain ⟨j,rfl⟩:∃ j,l=n0+j:=⟨l-n0,by omega⟩
   rw[ghi,m2hi];exact hl
 have hX':∀ b,Own m X b→Own m' X' b:=fun b hb=>by
  rcases hown b hb with h | ⟨l,hl⟩
  ·exact .inl h
  ·obtain ⟨h1,h2⟩:=m0s l b hl
   exact .inr ⟨l,by rw[mk l h1];exact h2⟩
 have how:∀ b,Own m2 X b→Own m' X' b:=by
  rintro b (hx | ⟨l,hl⟩)
  ·exact hX' b (.inl hx)
  ·rcases m2s l b hl with ⟨_,h⟩ | ⟨j,_,h⟩
   ·exact hX' b (.inr ⟨l,h⟩)
   ·exact .inr ⟨_,h⟩
 have hXg:∀ b,X b→∀ l,l<n0→m (g l)≠some b:=fun b hx l hl he=>by
  obtain ⟨o,h1,h2⟩:=glive l hl
  exact hh.own _ b o he h1 h2 hx
 obtain ⟨pl,p1,p2,p3⟩:=Qbb gl (τ0.map (renO g)) σ hnd (fun l hl=>by
  obtain ⟨k,hk,rfl⟩:=WN.1 hl
  have h1:=glt k (by omega)
  rw[glo k (by omega)] at h1
  simpa[List.getD,hk] using h1) (by rw[ZK];omega)
 generalize hτ:putL σ gl (τ0.map (renO g))=τ at *
 have τlen:τ.length=N+(τ0.length-n0):=by rw[pl,ZK,hlen]
 have τim:∀ l,l<n0→τ[g l]? = (τ0[l]?).map (renO g):=fun l hl=>by rw[p1 l _ (gmem l hl),ZR]
 have τhi:∀ j,τ[N+j]? = (τ0[n0+j]?).map (renO g):=fun j=>by rw[p3 j,ZR,hlen]
 have cls:∀ (l:Nat) o,τ[l]? = some o→(l<N∧(∀ k,k<n0→g k≠l)∧σ[l]? = some o)∨(∃ k o0,k<n0∧l=g k∧τ0[k]? = some o0∧o=renO g o0)∨(∃ j o0,l=N+j∧τ0[n0+j]? = some o0∧o=renO g o0):=fun l o ho=>by
  rcases ZB l N with h | h
  ·by_cases hk:∃ k,k<n0∧l=g k
   ·obtain ⟨k,h1,rfl⟩:=hk
    rw[τim k h1,QA] at ho
    obtain ⟨o0,h2,h3⟩:=ho
    exact .inr (.inl ⟨k,o0,h1,rfl,h2,h3.symm⟩)
   ·have hno:∀ k,k<n0→g k≠l:=fun k h1 h2=>hk ⟨k,h1,h2.symm⟩
    refine .inl ⟨h,hno,?_⟩
    rw[← p2 l h (fun hm=>?_)]
    ·exact ho
    ·obtain ⟨k,hk1,hk2⟩:=WN.1 hm
     refine hno k (by omega) ?_
     rw[glo k (by omega)];simp[List.getD,hk1,hk2]
  ·obtain ⟨j,rfl⟩:∃ j,l=N+j:=⟨l-N,by omega⟩
   rw[τhi j,QA] at ho
   obtain ⟨o0,h2,h3⟩:=ho
   exact .inr (.inr ⟨j,o0,rfl,h2,h3.symm⟩)
 refine ⟨c,ren g r0,τ,m2,rfl,⟨r0,τ0,hQ,hle,rfl,hτ.symm⟩,VRel.shift hmap how r0 c hv,⟨?_,?_,?_,?_,?_,hh'.gl.less how⟩,?_,by rw[τlen];exact Nat.le_add_right _ _⟩
 ·exact fun b hb=>Z6 (hh.xb b hb) hst.size
 ·intro l b hl
  rcases m2s l b hl with ⟨h1,h2⟩ | ⟨j,rfl,h2⟩
  ·exact ⟨by rw[τlen];omega,Z6 (hh.dom l b h2).2 hst.size⟩
  ·have:=hh'.dom _ b h2
   exact ⟨by rw[τlen];omega,this.2⟩
 ·intro l b o hl ho hv hx
  rcases cls l o ho with ⟨h1,_,h2⟩ | ⟨k,o0,h1,rfl,h2,h3⟩ | ⟨j,o0,rfl,h2,rfl⟩
  ·rw[m2lo l h1] at hl
   exact hh.own l b o hl h2 hv hx
  ·rw[m2lo _ (glt k h1)] at hl
   exact hXg b hx k h1 hl
  ·rw[m2hi] at hl
   exact hh'.own _ b o0 hl h2 (E7 hv) ⟨.inl hx,hXg b hx⟩
 ·intro l l' b o' hl hl' ho' hv
  rcases cls l' o' ho' with ⟨h1,h1n,h2⟩ | ⟨k,o0,h1,rfl,h2,h3⟩ | ⟨j,o0,rfl,h2,rfl⟩
  ·rw[m2lo l' h1] at hl'
   rcases m2s l b hl with ⟨g1,g2⟩ | ⟨j,rfl,g2⟩
   ·exact hh.inj l l' b o' g2 hl' h2 hv
   ·exfalso
    rcases hnew _ b g2 with ⟨l0,q1,q2⟩ | hge
    ·obtain ⟨o1,e1,e2⟩:=glive l0 q1
     exact h1n l0 q1 (hone _ _ b o1 o' q2 hl' e1 h2 e2 hv)
    ·have:=(hh.dom l' b hl').2;omega
  ·rw[m2lo _ (glt k h1)] at hl'
   obtain ⟨o1,e1,e2⟩:=glive k h1
   rcases m2s l b hl with ⟨g1,g2⟩ | ⟨j,rfl,g2⟩
   ·exact hh.inj l (g k) b o1 g2 hl' e1 e2
   ·exfalso
    have hk:m' k=some b:=by rw[mk k h1];exact hl'
    have:=hh'.inj (n0+j) k b o0 g2 hk h2 (E7 (by rw[← h3];exact hv))
    omega
  ·rw[m2hi] at hl'
   rcases m2s l b hl with ⟨g1,g2⟩ | ⟨j',rfl,g2⟩
   ·omega
   ·have:=hh'.inj (n0+j') (n0+j) b o0 g2 hl' h2 (E7 hv)
    omega
 ·intro l o ho
  rcases cls l o ho with ⟨h1,h1n,h2⟩ | ⟨k,o0,h1,rfl,h2,rfl⟩ | ⟨j,o0,rfl,h2,rfl⟩
  ·rw [m2lo l h1]
   have hor:=hh.obj l o h2
   by_cases hlv:o.live
   ·cases hml:m l with
    | none=>rw[hml] at hor;cases o <;> simp[ORel] at hor ⊢
    | some b =>
     rw[hml] at hor
     have hbs:=(hh.dom l b hml).2
     have hno:∀ l0,l0<n0→m (g l0)≠some b:=fun l0 q1 q2=>by
      obtain ⟨o1,e1,e2⟩:=glive l0 q1
      exact h1n l0 q1 (hone _ _ b o1 o q2 hml e1 h2 e2 hlv)
     have hm:Mono m X w m2 X w':=by
      refine ⟨fun l b hl=>?_,fun b hb hc=>⟨hsame b hc.lt (fun l0 _ q2=>hb (.inr ⟨_,q2⟩)),?_⟩,hst.shp⟩
      ·rw[m2lo l (hh.dom l b hl).1];exact hl
      ·rintro (hx | ⟨l,hl⟩)
       ·exact hb (.inl hx)
       ·rcases m2s l b hl with ⟨_,h⟩ | ⟨j,_,h⟩
        ·exact hb (.inr ⟨l,h⟩)
        ·rcases hnew _ b h with ⟨l0,q1,q2⟩ | hge
         ·exact hb (.inr ⟨_,q2⟩)
         ·have:=hc.lt;omega
     exact ORel.mono hm (hsame b hbs hno) hor
   ·cases o <;> simp[AObj.live,ORel] at hlv ⊢
  ·have hor:=hh'.obj k o0 h2
   rw[m2lo _ (glt k h1),← mk k h1]
   cases hml:m' k with
   | none=>rw[hml] at hor;cases o0 <;> simp[ORel,renO] at hor ⊢
   | some b=>rw[hml] at hor;exact ORel.shift hmap how hor
  ·have hor:=hh'.obj _ o0 h2
   rw[m2hi]
   cases hml:m' (n0+j) with
   | none=>rw[hml] at hor;cases o0 <;> simp[ORel,renO] at hor ⊢
   | some b=>rw[hml] at hor;exact ORel.shift hmap how hor
 ·refine ⟨fun l hl=>m2lo l hl,fun l b hl=>?_,hst.size,fun b hb hx=>hsame b hb fun l0 q1 q2=>?_,hst.shp,hst.os,hst.tape,hst.output,hst.drawn⟩
  ·rcases m2s l b hl with ⟨_,h⟩ | ⟨j,_,h⟩
   ·exact .inl ⟨l,h⟩
   ·rcases hnew _ b h with ⟨l0,q1,q2⟩ | hge
    ·exact .inl ⟨_,q2⟩
    ·exact .inr hge
  ·rcases hx with hx | hx
   ·exact hXg b hx l0 q1 q2
   ·exact hx _ q2
section
variable {P:Program}
theorem tidy_cut {σ σ2:List AObj} {v r:AV} {τ:List AObj} (hl:σ2.length=σ.length) (hv:QR σ.length v=true) (ho:∀ (l:Nat) (o:AObj),σ2[l]? = some o→σ[l]? = some o∨Z3 σ.length o=true)
  (h:r=v∧∃ junk,τ=σ2++junk):∃ g r2 σ3,Tidy σ.length σ r τ g r2 σ3∧(r2=v∧σ3=σ2):=by
 obtain ⟨rfl,junk,rfl⟩:=h
 refine ⟨id,r,σ2,⟨fun _ _=>rfl,fun _ _ h _=>h,by omega,(PU (g:=id) (k:=σ.length) (fun _ _=>rfl) r hv).symm,by rw[hl];exact hv,fun l o hlo=>?_⟩,rfl,rfl⟩
 have hlt:l<σ2.length:=(QH.1 hlo).1
 have hin:(σ2++junk)[l]? = some o:=by rw[QE hlt];exact hlo
 rcases ho l o hlo with h1 | h1
 ·exact .inl ⟨by omega,h1,hin⟩
 ·refine .inr ⟨by rw[hl];exact h1,?_⟩
  rw[E1 (g:=id) (k:=σ.length) (fun _ _=>rfl) h1];exact hin
def kRnd (l:Nat) (Q:AV→List AObj→Prop):Exit→St→Prop:=fun e s2=>match e with
 | .panic _ | .outgrown=>False
 | e=>∃ r2,s2.heap[l]? = some (.loop r2)∧Q (.b (GQ e).isNone) (setLoop s2.heap l r2 (if (GQ e).isNone then .ready else .done) (GQ e))
theorem P0 {l:Nat} {Q:AV→List AObj→Prop} {s:St}:kRnd l Q .normal s = ∃ r2,s.heap[l]? = some (.loop r2)∧Q (.b true) (setLoop s.heap l r2 .ready none):=Eq.trans rfl rfl
theorem kRnd_x {l i:Nat} {Q:AV→List AObj→Prop} {s:St}:kRnd l Q (.exit i) s = ∃ r2,s.heap[l]? = some (.loop r2)∧Q (.b false) (setLoop s.heap l r2 .done (some (.exit i))):=Eq.trans rfl rfl
def kAsg (P:Program) (fx:Fx) (l:Nat) (ib:IC) (Q:AV→List AObj→Prop):Exit→St→Prop:=fun e s1=>match e with
 | .normal=>∃ r1,s1.heap[l]? = some (.loop r1)∧r1.state=.ready∧IS P fx ib ⟨s1.vals,setLoop s1.heap l r1 .busy r1.pending⟩ (kRnd l Q) .mk .mk
 | _=>False
theorem Qam {fx:Fx} {l:Nat} {ib:IC} {Q:AV→List AObj→Prop} {s:St}:kAsg P fx l ib Q .normal s = ∃ r1,s.heap[l]? = some (.loop r1)∧r1.state=.ready∧IS P fx ib ⟨s.vals,setLoop s.heap l r1 .busy r1.pending⟩ (kRnd l Q) .mk .mk:=Eq.trans rfl rfl
theorem QeH {l:Nat} {σ:List AObj} {r:XC} {args:List AV} {Q:AV→List AObj→Prop} (ia ib:IC) (hl:σ[l]? = some (.loop r)) (hst:r.state=.ready) (hargs:args.length=r.params.length)
  (hvp:(decide r.vars.Nodup&&r.params.all fun t=>r.vars.contains t&&decide (t<r.ntmps))=true)
  (hca:QL P r.vars r.ntmps r.assign=some ia) (hcb:QL P r.vars r.ntmps r.body=some ib)
  (h:IS P ⟨r.vars,r.ntmps,some l,σ.length⟩ ia ⟨JM r.vars r.params args r.vals,σ⟩ (kAsg P ⟨r.vars,r.ntmps,some l,σ.length⟩ l ib Q) .mk .mk):YC P l args σ Q:=by
 simp only[QD,decide_eq_true_eq,Q1,XS] at hvp
 refine N5 hl hst hargs hvp.1 (fun t ht=>(hvp.2 t ht).1) (fun t ht=>(hvp.2 t ht).2) ?_
 refine Y6 _ ia _ _ hca (BC ia _ _ _ ?_ (VT _ _ _ _ _ h))
 intro e s1 h1
 cases e with
 | normal =>
  obtain ⟨r1,g1,g2,g3⟩:=h1
  refine ⟨r1,g1,g2,?_⟩
  refine Y6 _ ib _ _ hcb (BC ib _ _ _ ?_ (VT _ _ _ _ _ g3))
  intro e s2 h2
  cases e <;> exact h2
 | _=>exact h1
theorem RW_s {fx:Fx} {s:St} {Q:Exit→St→Prop} {g:Opd} {ps:Array Nat} {assign body:Code} {gf:FuncId} {cap:List AV} (hg:WY s.vals [] g=.fn (.func gf) cap) (hvl:s.vals.length≤fx.vars.length) (hr0:∀ l0,fx.r=some l0→∃ r0,s.heap[l0]? = some (.loop r0))
  (h:AC P gf (.yld s.heap.length::cap) (s.heap++[.loop (VJ fx s.vals ps assign body)]) fun _ σ'=>U9 P fx s.vals s.heap.length Q σ'):RW P fx g ps assign body s Q:=⟨gf,cap,hg,hvl,hr0,h⟩
end
def Subs:List AV→List AV→Prop
 | [],[]=>True
 | a::as_,b::bs=>sub1 a b∧Subs as_ bs
 | _,_=>False
theorem Subs.get:∀ {as_ bs:List AV},Subs as_ bs→∀ i,sub1 (as_.getD i .undef) (bs.getD i .undef)
 | [],[],_,i=>.inl rfl
 | a::as_,b::bs,h,0=>h.1
 | a::as_,b::bs,h,i+1=>by simpa using Subs.get h.2 i
 | [],_::_,h,_=>h.elim
 | _::_,[],h,_=>h.elim
theorem Weak.cut {fx:Fx} {vals vals':List AV} {τ J:List AObj} (hv:Subs vals vals') (hk:fx.n0≤τ.length) (hl:QO τ.length vals'=true) (ho:∀ o∈τ,Z3 τ.length o=true):Weak fx ⟨vals,τ++J⟩ ⟨vals',τ⟩:=by
 have:=Weak.drop (fx:=fx) (s:=⟨vals,τ++J⟩) (vals':=vals') (k:=τ.length) hv.get hk hl (fun o h=>ho o (by simpa using h)) (by simp)
 simpa using this
theorem GH {σ τ:List AObj} {v:AV} (hl:τ.length=σ.length) (hv:QR τ.length v=true) (ho:∀ (l:Nat) o,τ[l]? = some o→σ[l]?≠some o→Z3 τ.length o=true):HM σ v τ :=
 ⟨hv,by omega,fun l o h1 h2=>⟨ho l o h1 h2,fun h=>by have:=(QH.1 h1).1;omega⟩⟩
section
variable {P:Program}
theorem AC.cut0 {f:FuncId} {args:List AV} {σ:List AObj} {v:AV} (h:AC P f args σ fun r τ=>r=v∧∃ junk,τ=σ++junk) (hv:QR σ.length v=true):AC P f args σ fun r τ=>r=v∧τ=σ :=
 h.cut rfl hv fun l o h=>.inl h
theorem AC.cutF {f:FuncId} {args:List AV} {σ:List AObj} {v:AV} (h:AC P f args σ fun r τ=>r=v∧∃ junk,τ=σ++junk) (hv:QR 0 v=true):AC P f args σ fun r τ=>r=v∧τ=σ :=
 h.cut0 (Y8 (QF _) v hv)
end
def clip (k:Nat):List AV→List AV
 | []=>[]
 | a::as_=>(if QR k a=true then a else .undef)::clip k as_
theorem QaF (k:Nat):∀ vals:List AV,Subs vals (clip k vals)
 | []=>trivial
 | a::as_=>⟨by by_cases h:QR k a=true <;> simp[sub1,h],QaF k as_⟩
theorem Qdz (k:Nat):∀ vals:List AV,QO k (clip k vals)=true
 | []=>rfl
 | a::as_=>by
  simp only[clip,QO,QD]
  refine ⟨?_,Qdz k as_⟩
  by_cases h:QR k a=true
  ·rw[if_pos h];exact h
  ·rw[if_neg h];rfl
theorem W1 {fx:Fx} {c:Prop} {S:St→Prop} {Q:Exit→St→Prop} {vals:List AV} {heap:List AObj} (τ J:List AObj) (hh:heap=τ++J) (hc:c) (hn:fx.n0≤τ.length) (ho:∀ o∈τ,Z3 τ.length o=true)
  (h:S ⟨clip τ.length vals,τ⟩):kFor fx c S Q .normal ⟨vals,heap⟩:=by
 subst hh
 exact AS hc (Weak.cut (QaF _ _) hn (Qdz _ _) ho) h
end Go.Proofs.YtogjcmnopidfpaaGreat.AM

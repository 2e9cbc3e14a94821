/- Parts of the proof, joined: AmJ2 to AmS. -/
import Derived.DeepKeys3
import Derived.Test.YtgkidpolomhghaaGreatDoorZ4
set_option linter.unusedVariables false
set_option linter.unusedSimpArgs false
set_option linter.unusedSectionVars false
namespace Go.Proofs.YtgkidpolomhghaaGreatDoor.AM
variable [Dr]
open Go Go.WideShapes
variable {P:Program} {m:LM} {X:Nat→Prop} {σ σ':List AObj} {w:World} {r:AV}
def LV:AV→Lit
 | .cv (.int k n)=>.int k n
 | .cv (.str s)=>.string s.data.toList
 | .cv (.bool b)=>.bool b
 | _=>.bool false
theorem G2:∀ {ks:List KK} {xs:List AV},Y4 ks xs=true→xs.length=ks.length
 | [],[],_=>rfl
 | k::ks,x::xs,h=>by simp only[Y4,QD] at h;simp[G2 h.2]
 | [],_::_,h=>by simp[Y4] at h
 | _::_,[],h=>by simp[Y4] at h
theorem E9:∀ {k1 k2:List KK} {xs:List AV},Y4 (k1++k2) xs=true→Y4 k1 (xs.take k1.length)=true∧Y4 k2 (xs.drop k1.length)=true
 | [],k2,xs,h=>by simpa[Y4] using h
 | k::k1,k2,[],h=>by simp[Y4] at h
 | k::k1,k2,x::xs,h=>by
  simp only[List.cons_append,Y4,QD] at h
  obtain ⟨g1,g2⟩:=E9 h.2
  simp[Y4,h.1,g1,g2]
theorem kk_inv {k:KK} {a:AV} (h:kkOk k a=true):(∃ q n,k=.int q∧a=.cv (.int q n)∧(Lit.int q n).wf=true)∨(∃ s,k=.str∧a=.cv (.str s)∧s.size≤maxLen)∨(∃ b,k=.bool∧a=.cv (.bool b)):=by
 unfold kkOk at h
 split at h
 ·simp only[QD,decide_eq_true_eq] at h
  obtain ⟨rfl,hw⟩:=h
  exact .inl ⟨_,_,rfl,rfl,hw⟩
 ·simp only[decide_eq_true_eq] at h
  exact .inr (.inl ⟨_,rfl,rfl,h⟩)
 ·exact .inr (.inr ⟨_,rfl,rfl⟩)
 ·cases h
theorem UF {k:KK} {a:AV} {v:Value} (h:kkOk k a=true) (hr:VRel m X w a v) :
  (∃ q n,k=.int q∧a=.cv (.int q n)∧v=.int q n∧(Lit.int q n).wf=true)∨(∃ s,k=.str∧a=.cv (.str s)∧v=.string s∧s.size≤maxLen)∨(∃ b,k=.bool∧a=.cv (.bool b)∧v=.bool b):=by
 unfold kkOk at h
 split at h
 ·simp only[QD,decide_eq_true_eq] at h
  obtain ⟨rfl,hw⟩:=h
  exact .inl ⟨_,_,rfl,rfl,hr.int,hw⟩
 ·simp only[decide_eq_true_eq] at h
  exact .inr (.inl ⟨_,rfl,rfl,hr.str,h⟩)
 ·exact .inr (.inr ⟨_,rfl,rfl,hr.bool⟩)
 ·cases h
theorem Qcg {α:Type} {l:List α} (h:l.length=1):∃ a,l=[a]:=by
 match l,h with
 | [a],_=>exact ⟨a,rfl⟩
theorem KI:∀ (d:Nat) (t:TypeId) (ks:List KK) (xs:List AV) (vs:List Value),flatK P d t=some ks→Y4 ks xs=true→QK m X w xs vs→P.keyLits d t vs=some (xs.map LV)
 | 0,t,ks,xs,vs,h,_,_=>by simp[flatK] at h
 | d + 1,t,ks,xs,vs,h,hk,hr=>by
  have hlx:=G2 hk
  have hlv:=hr.length
  simp only[flatK] at h
  have scal:∀ k,ks=[k]→∃ a v,xs=[a]∧vs=[v]∧kkOk k a=true∧VRel m X w a v:=by
   rintro k rfl
   obtain ⟨a,rfl⟩:=Qcg hlx
   obtain ⟨v,rfl,hv⟩:=hr.one
   simp only[Y4,WH] at hk
   exact ⟨a,v,rfl,rfl,hk,hv⟩
  split at h
  ·rename_i hu
   obtain ⟨a,v,rfl,rfl,h1,h2⟩:=scal _ (Option.some.inj h).symm
   rcases UF h1 h2 with ⟨q,n,hq,_⟩ | ⟨s,hq,_⟩ | ⟨b,_,rfl,rfl⟩
   ·cases hq
   ·cases hq
   ·unfold Program.keyLits;rw[hu];rfl
  ·rename_i k hu
   obtain ⟨a,v,rfl,rfl,h1,h2⟩:=scal _ (Option.some.inj h).symm
   rcases UF h1 h2 with ⟨q,n,hq,rfl,rfl,hw⟩ | ⟨s,hq,_⟩ | ⟨b,hq,_⟩
   ·cases hq;unfold Program.keyLits;rw[hu];simp[hw,LV]
   ·cases hq
   ·cases hq
  ·rename_i hu
   obtain ⟨a,v,rfl,rfl,h1,h2⟩:=scal _ (Option.some.inj h).symm
   rcases UF h1 h2 with ⟨q,n,hq,_⟩ | ⟨s,_,rfl,rfl,hs⟩ | ⟨b,hq,_⟩
   ·cases hq
   ·unfold Program.keyLits;rw[hu];simp[hs,LV]
   ·cases hq
  ·rename_i n e hu
   simp only[QB] at h
   obtain ⟨ke,hke,h⟩:=h
   split at h
   ·rename_i hc
    cases h
    obtain ⟨hc1,hc2⟩:=hc
    have main:∀ (q i0:Nat),Y4 (List.replicate q ke).flatten (xs.drop (i0*P.cellsOf e))=true →
      ∃ L,(List.range' i0 q).mapM (fun i=>P.keyLits d e ((vs.drop (i*P.cellsOf e)).take (P.cellsOf e)))=some L∧L.flatten=(xs.drop (i0*P.cellsOf e)).map LV:=by
     intro q
     induction q with
     | zero =>
      intro i0 hk0
      have:=G2 hk0
      simp at this
      exact ⟨[],by simp,by simp[List.drop_eq_nil_iff.2 (by omega:xs.length≤i0*P.cellsOf e)]⟩
     | succ q ih =>
      intro i0 hk0
      rw[List.replicate_succ,List.flatten_cons] at hk0
      obtain ⟨g1,g2⟩:=E9 hk0
      rw[hc1] at g1 g2
      rw[List.drop_drop,show i0*P.cellsOf e+P.cellsOf e=(i0+1)*P.cellsOf e by rw[WP,Nat.one_mul]] at g2
      obtain ⟨L,h1,h2⟩:=ih (i0+1) g2
      have h0:=KI d e ke _ _ hke g1 ((hr.drop (i0*P.cellsOf e)).take (P.cellsOf e))
      refine ⟨_::L,by rw[List.range'_succ,WV,h0,h1];rfl,?_⟩
      rw[List.flatten_cons,h2,← ZS]
      congr 1
      rw[show (i0+1)*P.cellsOf e=i0*P.cellsOf e+P.cellsOf e by rw[WP,Nat.one_mul],← List.drop_drop,List.take_append_drop]
    obtain ⟨L,h1,h2⟩:=main n 0 (by simpa using hk)
    unfold Program.keyLits;rw[hu]
    have hlen:vs.length=P.cellsOf t:=by
     rw[hlv.symm.trans hlx];simp[hc1,hc2]
    rw[← List.range_eq_range'] at h1
    simp only[hlen,if_true,h1,Option.map_some,h2]
    simp
   ·cases h
  ·rename_i fs hu
   split at h
   ·rename_i hend
    have main:∀ (fs:List Field) (n N:Nat) (ks:List KK),J8 P fs n=some N→CK P (flatK P d) fs=some ks→Y4 ks (xs.drop n)=true →
      (∃ L,fs.mapM (fun f=>P.keyLits d f.type ((vs.drop f.offset).take (P.cellsOf f.type)))=some L∧L.flatten=(xs.drop n).map LV)∧n+ks.length=N∧∀ f∈fs,f.name ≠ "_" := by
     intro fs
     induction fs with
     | nil =>
      intro n N ks h1 h2 h3
      simp only[CK,Option.some.injEq] at h2;subst h2
      simp only[J8,Option.some.injEq] at h1
      have:=G2 h3
      simp at this
      exact ⟨⟨[],by simp,by simp[List.drop_eq_nil_iff.2 (by omega:xs.length≤n)]⟩,by simp[h1],by simp⟩
     | cons f fs ih =>
      intro n N ks h1 h2 h3
      simp only[CK,QB] at h2
      obtain ⟨k1,hk1,h2⟩:=h2
      split at h2
      ·rename_i hc
       simp only[QA] at h2
       obtain ⟨k2,hk2,rfl⟩:=h2
       simp only[J8] at h1
       split at h1
       ·rename_i hoff
        obtain ⟨g1,g2⟩:=E9 h3
        rw[hc.1] at g1 g2
        rw[List.drop_drop] at g2
        obtain ⟨⟨L,e1,e2⟩,e3,e4⟩:=ih _ _ _ h1 hk2 g2
        have h0:=KI d f.type k1 _ _ hk1 g1 ((hr.drop n).take (P.cellsOf f.type))
        refine ⟨⟨_::L,by rw[WV,hoff,h0,e1];rfl,?_⟩,by simp[hc.1];omega,?_⟩
        ·rw[List.flatten_cons,e2,← ZS]
         congr 1
         rw[← List.drop_drop,List.take_append_drop]
        ·intro f' hf'
         rcases ZD.1 hf' with rfl | hf'
         ·exact hc.2
         ·exact e4 f' hf'
       ·cases h1
      ·cases h2
    obtain ⟨⟨L,h1,h2⟩,h3,h4⟩:=main fs.toList 0 _ ks hend h (by simpa using hk)
    unfold Program.keyLits;rw[hu]
    have hlen:vs.length=P.cellsOf t:=by omega
    have hall:fs.all (·.name != "_")=true:=by
     rw[Array.all_eq_true']
     intro f hf
     simpa using h4 f (by simpa using hf)
    simp only[hlen,hall,and_self,if_true,h1,Option.map_some,h2]
    simp
   ·cases h
  ·cases h
theorem Qaf:∀ {ks:List KK} {xs ys:List AV},Y4 ks xs=true→Y4 ks ys=true→(xs.map LV=ys.map LV↔VZ xs ys=true)
 | [],[],[],_,_=>by simp[VZ]
 | k::ks,x::xs,y::ys,h1,h2=>by
  simp only[Y4,QD] at h1 h2
  have ih:=Qaf h1.2 h2.2
  simp only[Q0,List.cons.injEq,VZ,QD,ih]
  refine and_congr ?_ Iff.rfl
  rcases kk_inv h1.1 with ⟨q,n,rfl,rfl,_⟩ | ⟨s,rfl,rfl,_⟩ | ⟨c,rfl,rfl⟩ <;> rcases kk_inv h2.1 with ⟨q',n',hq,rfl,_⟩ | ⟨s',hq,rfl,_⟩ | ⟨c',hq,rfl⟩ <;> cases hq
  ·simp[LV,EB]
  ·simp only[LV,EB,decide_eq_true_eq,Lit.string.injEq]
   constructor
   ·intro hh
    obtain ⟨⟨d⟩⟩:=s;obtain ⟨⟨d'⟩⟩:=s'
    simp at hh;rw[hh]
   ·rintro rfl;rfl
  ·simp[LV,EB]
 | [],_::_,_,h,_=>by simp[Y4] at h
 | [],[],_::_,_,h=>by simp[Y4] at h
 | _::_,[],_,h,_=>by simp[Y4] at h
 | _::_,_::_,[],_,h=>by simp[Y4] at h
theorem bytes_beq (s:ByteArray):(s == s)=true:=by
 show (s.data == s.data)=true
 simp
theorem SbC:∀ {ks:List KK} {xs:List AV} {vs:List Value} (n:Nat),Y4 ks xs=true→QK m X w xs vs→((vs.zip vs).all fun (x,y)=>Instr.sameBits n x y)=true
 | [],[],vs,n,_,hr=>by rw[hr.nil'];rfl
 | k::ks,x::xs,vs,n,h,hr=>by
  obtain ⟨v,us,rfl,h1,h2⟩:=hr.cons
  simp only[Y4,QD] at h
  simp only[List.zip_cons_cons,List.all_cons,QD]
  refine ⟨?_,SbC n h.2 h2⟩
  rcases UF h.1 h1 with ⟨q,i,_,_,rfl,_⟩ | ⟨s,_,_,rfl,_⟩ | ⟨b,_,_,rfl⟩ <;> cases n <;> simp[Instr.sameBits,bytes_beq]
 | [],_::_,_,_,h,_=>by simp[Y4] at h
 | _::_,[],_,_,h,_=>by simp[Y4] at h
theorem P8:∀ {ks:List KK} {xs ys:List AV} {vs us:List Value},Y4 ks xs=true→Y4 ks ys=true→VZ xs ys=true→QK m X w xs vs→QK m X w ys us→vs=us
 | [],[],[],vs,us,_,_,_,h1,h2=>by rw[h1.nil',h2.nil']
 | k::ks,x::xs,y::ys,vs,us,g1,g2,he,h1,h2=>by
  obtain ⟨v,vs,rfl,a1,a2⟩:=h1.cons
  obtain ⟨u,us,rfl,b1,b2⟩:=h2.cons
  simp only[Y4,VZ,QD] at g1 g2 he
  have:=P8 g1.2 g2.2 he.2 a2 b2
  subst this
  congr 1
  rcases UF g1.1 a1 with ⟨q,n,rfl,rfl,rfl,_⟩ | ⟨s,rfl,rfl,rfl,_⟩ | ⟨c,rfl,rfl,rfl⟩ <;> rcases UF g2.1 b1 with ⟨q',n',hq,rfl,rfl,_⟩ | ⟨s',hq,rfl,rfl,_⟩ | ⟨c',hq,rfl,rfl⟩ <;> cases hq <;> simp[EB] at he <;> simp[he.1]
 | [],_::_,_,_,_,h,_,_,_,_=>by simp[Y4] at h
 | [],[],_::_,_,_,_,h,_,_,_=>by simp[Y4] at h
 | _::_,[],_,_,_,h,_,_,_,_=>by simp[Y4] at h
 | _::_,_::_,[],_,_,_,h,_,_,_=>by simp[Y4] at h
theorem PZ {kt:TypeId} {ks:Bool × List KK} (h:keyK P kt=some ks) :
  (∃ d k,ks=(false,[k])∧P.underlying kt=some d∧((∃ q,d=.int q∧k=.int q)∨(d=.string∧k=.str))) ∨
  (∃ kk,ks=(true,kk)∧P.keyTypeAt 8 kt=true∧flatK P 8 kt=some kk∧(match P.underlying kt with | some (.array _ _) | some (.struct _)=>true | _=>false)=true):=by
 unfold keyK at h
 split at h
 ·rename_i k hu;cases h;exact .inl ⟨_,_,rfl,hu,.inl ⟨k,rfl,rfl⟩⟩
 ·rename_i hu;cases h;exact .inl ⟨_,_,rfl,hu,.inr ⟨rfl,rfl⟩⟩
 ·rename_i hu
  split at h
  ·rename_i hk
   simp only[QA] at h
   obtain ⟨kk,h1,rfl⟩:=h
   exact .inr ⟨kk,rfl,hk,h1,by rw[hu]⟩
  ·cases h
 ·rename_i hu
  split at h
  ·rename_i hk
   simp only[QA] at h
   obtain ⟨kk,h1,rfl⟩:=h
   exact .inr ⟨kk,rfl,hk,h1,by rw[hu]⟩
  ·cases h
 ·cases h
theorem F3 {kt:TypeId} {kk:List KK} {xs:List AV} {vs:List Value} (hf:flatK P 8 kt=some kk) (hw:(match P.underlying kt with | some (.array _ _) | some (.struct _)=>true | _=>false)=true) (hk:Y4 kk xs=true) (hr:QK m X w xs vs) :
  (Value.agg vs.toArray).formed P kt=true:=by
 have h:=KI 8 kt kk xs vs hf hk hr
 unfold Program.keyLits at h
 unfold Value.formed
 split at hw
 ·rename_i n e hu
  rw[hu] at h ⊢
  simp only at h ⊢
  split at h
  ·rename_i hl;simpa using hl
  ·cases h
 ·rename_i fs hu
  rw[hu] at h ⊢
  simp only at h ⊢
  split at h
  ·rename_i hl;simpa using hl.1
  ·cases h
 ·cases hw
theorem CE {kk:List KK} {k:AV} (h:F4 (true,kk) k=true):∃ xs,k=.agg xs∧Y4 kk xs=true:=by
 unfold F4 JK at h
 cases k <;> simp at h
 exact ⟨_,rfl,h⟩
theorem KO {kt:TypeId} {ks:Bool × List KK} (hks:keyK P kt=some ks) {k:AV} {x:Value} (hi:F4 ks k=true) (hr:VRel m X w k x) (em:Bool):(Instr.checkKey em 10000 kt x).run P w=.ok () w:=by
 rcases PZ hks with ⟨d,kk,rfl,hu,hd⟩ | ⟨kk,rfl,hty,hf,hw⟩
 ·show (Instr.checkKey em (9999+1) kt x).run P w=_
  unfold Instr.checkKey
  rcases hd with ⟨q,rfl,_⟩ | ⟨rfl,_⟩ <;> simp only[Sem.run_bind,QY hu,Result.andThen_ok,Sem.run_pure]
 ·obtain ⟨xs,rfl,hi⟩:=CE hi
  simp only[VRel] at hr
  obtain ⟨vs,rfl,hrs⟩:=hr
  have:=run_checkKey_deep em 9992 8 kt hty w 8 (.agg vs.toArray) _ (F3 hf hw hi hrs) (KI 8 kt _ _ _ hf hi hrs)
  exact this
def HB (m:LM) (X:Nat→Prop) (w:World):List (AV × AV)→List MapEntry→Prop
 | [],[]=>True
 | (k,a)::es,e::ces=>VRel m X w k e.key∧VRel m X w a e.val∧HB m X w es ces
 | _,_=>False
theorem QcR:∀ (es:List (AV × AV)) (ces:List MapEntry),ces.length=es.length→(∀ (i:Nat) (k a:AV),es[i]? = some (k,a)→∃ e:MapEntry,ces[i]? = some e∧VRel m X w k e.key∧VRel m X w a e.val)→HB m X w es ces
 | [],[],_,_=>trivial
 | (k,a)::es,e::ces,hl,h=>by
  obtain ⟨e',h1,h2,h3⟩:=h 0 k a rfl
  simp at h1;subst h1
  exact ⟨h2,h3,QcR es ces (by simpa using hl) fun i k a hi=>by simpa using h (i+1) k a (by simpa using hi)⟩
 | [],_::_,hl,_=>by simp at hl
 | _::_,[],hl,_=>by simp at hl
def FRel (m:LM) (X:Nat→Prop) (w:World) (x:Value) (i:Nat) (ces:List MapEntry):Option (Nat × AV)→Option (Nat × Value)→Prop
 | none,none=>True
 | some (j,a),some (j',v)=>j=j'∧i≤j∧∃ e:MapEntry,ces[j-i]? = some e∧e.val=v∧VRel m X w a v∧e.key=x
 | _,_=>False
theorem FRel.next {x:Value} {i:Nat} {e:MapEntry} {ces:List MapEntry}:∀ {a:Option (Nat × AV)} {b:Option (Nat × Value)},FRel m X w x (i+1) ces a b→FRel m X w x i (e::ces) a b
 | none,none,_=>trivial
 | some (j,a),some (j',v),h=>by
  obtain ⟨h1,h2,e',h3,h4,h5,h6⟩:=h
  refine ⟨h1,by omega,e',?_,h4,h5,h6⟩
  rw[show j-i=(j-(i+1))+1 by omega];simpa using h3
 | none,some _,h=>h.elim
 | some _,none,h=>h.elim
theorem L9 {d:TypeDesc} {kk:KK} (hd:(∃ q,d=.int q∧kk=.int q)∨(d=.string∧kk=.str)) {k:AV} {x:Value} (hr:VRel m X w k x):∀ (es:List (AV × AV)) (ces:List MapEntry) (i:Nat) (res:Option (Nat × AV)),HB m X w es ces→findKey (false,[kk]) k es i=some res →
  ∃ res',Instr.findNow d x ces i=some res'∧FRel m X w x i ces res res'
 | [],[],i,res,_,h=>by simp[findKey] at h;subst h;exact ⟨none,rfl,trivial⟩
 | (k', a)::es,e::ces,i,res,he,h=>by
  obtain ⟨h1,h2,h3⟩:=he
  simp only[findKey] at h
  have same:∀ r,JW (false,[kk]) k k'=some r→Instr.sameNow d x e.key=some r∧(r=true→e.key=x):=by
   intro r hkr
   simp only[JW,JK] at hkr
   split at hkr
   ·rename_i hok;cases hkr
    simp only[Y4,WH,QD] at hok
    simp only[VZ,WH]
    rcases hd with ⟨q,rfl,rfl⟩ | ⟨rfl,rfl⟩
    ·rcases UF hok.1 hr with ⟨q1,n,hq,rfl,rfl,_⟩ | ⟨s,hq,_⟩ | ⟨c,hq,_⟩ <;> cases hq
     rcases UF hok.2 h1 with ⟨q1,n',hq,rfl,hk,_⟩ | ⟨s,hq,_⟩ | ⟨c,hq,_⟩ <;> cases hq
     rw[hk]
     refine ⟨?_,?_⟩
     ·simp only[Instr.sameNow,if_true,EB];congr 1
     ·simp only[EB,decide_eq_true_eq];rintro rfl;rfl
    ·rcases UF hok.1 hr with ⟨q1,n,hq,_⟩ | ⟨s,hq,rfl,rfl,_⟩ | ⟨c,hq,_⟩ <;> cases hq
     rcases UF hok.2 h1 with ⟨q1,n',hq,_⟩ | ⟨s',hq,rfl,hk,_⟩ | ⟨c,hq,_⟩ <;> cases hq
     rw[hk]
     refine ⟨?_,?_⟩
     ·simp only[Instr.sameNow,EB];congr 1
      by_cases hss:s=s'
      ·subst hss;simp[bytes_beq]
      ·have:(s == s')=false:=by
        show (s.data == s'.data)=false
        rw[beq_eq_false_iff_ne]
        rintro hh;apply hss;cases s;cases s';simp at hh;rw[hh]
       simp[hss,this]
     ·simp only[EB,decide_eq_true_eq];rintro rfl;rfl
   ·cases hkr
  simp only[Instr.findNow]
  split at h
  ·rename_i hr';cases h
   obtain ⟨g1,g2⟩:=same _ hr'
   rw[g1]
   exact ⟨some (i,e.val),rfl,rfl,QG _,e,by simp,rfl,h2,g2 rfl⟩
  ·rename_i hr'
   obtain ⟨g1,_⟩:=same _ hr'
   rw[g1]
   obtain ⟨res',g3,g4⟩:=L9 hd hr es ces (i+1) res h3 h
   exact ⟨res',g3,g4.next⟩
  ·cases h
 | [],_::_,_,_,h,_=>h.elim
 | _::_,[],_,_,h,_=>by simp[HB] at h
theorem EN {kt:TypeId} {kk:List KK} (hty:P.keyTypeAt 8 kt=true) (hf:flatK P 8 kt=some kk) (hw:(match P.underlying kt with | some (.array _ _) | some (.struct _)=>true | _=>false)=true) {k:AV} {x:Value} (hr:VRel m X w k x) :
  ∀ (es:List (AV × AV)) (ces:List MapEntry) (i:Nat) (res:Option (Nat × AV)),HB m X w es ces→findKey (true,kk) k es i=some res→∃ res',(Instr.findAsking kt x ces i).run P w=.ok res' w∧FRel m X w x i ces res res'
 | [],[],i,res,_,h=>by simp[findKey] at h;subst h;exact ⟨none,by simp[Instr.findAsking],trivial⟩
 | (k',a)::es,e::ces,i,res,he,h=>by
  obtain ⟨h1,h2,h3⟩:=he
  simp only[findKey] at h
  have same:∀ r,JW (true,kk) k k'=some r→(Op.equal kt x e.key).run P w=.ok r w∧(r=true→e.key=x):=by
   intro r hkr
   unfold JW at hkr
   split at hkr
   ·rename_i xs ys hxs hys
    have ex:k=.agg xs:=by cases k <;> simp[JK] at hxs;rw[hxs]
    have ey:k'=.agg ys:=by cases k' <;> simp[JK] at hys;rw[hys]
    subst ex ey
    split at hkr
    ·rename_i hok;cases hkr
     simp only[QD] at hok
     simp only[VRel] at hr h1
     obtain ⟨vs,rfl,hrs⟩:=hr
     obtain ⟨us,hus,hrs'⟩:=h1
     rw[hus]
     obtain ⟨r',g1,g2⟩:=run_equalIn_deep 9992 8 kt hty w 8 8 (.agg vs.toArray) (.agg us.toArray) _ _ (F3 hf hw hok.1 hrs) (F3 hf hw hok.2 hrs') (KI 8 kt _ _ _ hf hok.1 hrs) (KI 8 kt _ _ _ hf hok.2 hrs')
     rw[Qaf hok.1 hok.2] at g2
     have hb:r'=VZ xs ys:=by
      cases hc:VZ xs ys
      ·cases r'
       ·rfl
       ·rw[hc] at g2;exact absurd (g2.1 rfl) (by simp)
      ·exact g2.2 hc
     subst hb
     exact ⟨g1,fun hc=>by rw[P8 hok.1 hok.2 hc hrs hrs']⟩
    ·cases hkr
   ·cases hkr
  simp only[Instr.findAsking]
  split at h
  ·rename_i hr';cases h
   obtain ⟨g1,g2⟩:=same _ hr'
   exact ⟨some (i,e.val),by simp[g1],rfl,QG _,e,by simp,rfl,h2,g2 rfl⟩
  ·rename_i hr'
   obtain ⟨g1,_⟩:=same _ hr'
   obtain ⟨res',g3,g4⟩:=EN hty hf hw hr es ces (i+1) res h3 h
   exact ⟨res',by simp[g1,g3],g4.next⟩
  ·cases h
 | [],_::_,_,_,h,_=>h.elim
 | _::_,[],_,_,h,_=>by simp[HB] at h
theorem UH {kt:TypeId} {ks:Bool × List KK} (hks:keyK P kt=some ks) {k:AV} {x:Value} (hr:VRel m X w k x) {es:List (AV × AV)} {ces:List MapEntry} {res:Option (Nat × AV)} (he:HB m X w es ces) (h:findKey ks k es 0=some res) :
  ∃ res',(Instr.findKey kt x ces).run P w=.ok res' w∧FRel m X w x 0 ces res res':=by
 rcases PZ hks with ⟨d,kk,rfl,hu,hd⟩ | ⟨kk,rfl,hty,hf,hw⟩
 ·obtain ⟨res',h1,h2⟩:=L9 hd hr es ces 0 res he h
  refine ⟨res',?_,h2⟩
  simp only[Instr.findKey,Sem.run_bind,QY hu,Result.andThen_ok,h1,Sem.run_pure]
 ·rw[run_findKey_eq _ hw]
  exact EN hty hf hw hr es ces 0 res he h
theorem HRel.mapRow (h:HRel m X σ w) {l:Nat} {es:List (AV × AV)} (hc:mapOf σ l=some es) :
  ∃ b ces clock,m l=some b∧σ[l]? = some (.map es)∧w.heap[b]? = some (.map ces clock)∧(∀ e∈ces,e.born<clock)∧(ces.toList.map (·.born)).Nodup∧ces.size=es.length∧HB m X w es ces.toList ∧
   (∀ (i:Nat) (k a:AV),es[i]? = some (k,a)→∃ e:MapEntry,ces[i]? = some e∧VRel m X w k e.key∧VRel m X w a e.val):=by
 unfold mapOf at hc
 split at hc
 ·rename_i es' ho;cases hc
  have hr:=h.obj l _ ho
  cases hm:m l with
  | none=>rw[hm] at hr;simp[ORel] at hr
  | some b =>
   rw[hm] at hr
   simp only[ORel] at hr
   obtain ⟨ces,clock,h1,h2,h3,h4,h5⟩:=hr
   exact ⟨b,ces,clock,rfl,ho,h1,h2,h3,h4,QcR _ _ (by simpa using h4) (by simpa using h5),h5⟩
 ·cases hc
theorem KH {b:Nat} {es:Array MapEntry} {c:Nat} {o:Obj} (h:w.heap[b]? = some (.map es c)):(setObj b o).run P w=.ok () (w.putObj b o):=MapKept.run_setObj_map o h
theorem BN {t kt e:TypeId} {ks:Bool × List KK} {z:AV} {ok:Bool} {x y:Value} {avs:List AV} (h:HRel m X σ w) (hu:P.underlying t=some (.map kt e)) (hks:keyK P kt=some ks) (hz:zeroOf P e=some z) (ha:QK m X w avs [x,y])
  (hs:KL ks z ok avs σ=some (r,σ')):YP P (do pure (.value (← Instr.lookup t x y ok))) m X σ w r σ':=by
 unfold KL at hs
 split at hs
 ·rename_i l k
  obtain ⟨x',us,hx,hr,hus⟩:=ha.cons
  obtain ⟨y',hy,hrk⟩:=hus.one
  subst hy;cases hx
  simp only[VRel] at hr;obtain ⟨b,hb,rfl⟩:=hr
  cases hc:mapOf σ l with
  | none=>simp[hc] at hs
  | some es =>
   simp only[hc,Option.bind_some] at hs
   split at hs
   ·cases hs
   ·rename_i hi
    simp only[QA] at hs
    obtain ⟨res,hres,he⟩:=hs
    obtain ⟨b',ces,clock,g1,_,g2,_,_,_,g3,_⟩:=h.mapRow hc
    rw[hb] at g1;cases g1
    obtain ⟨res',h1,h2⟩:=UH hks hrk g3 hres
    have hck:=KO hks (by simpa using hi) hrk ces.isEmpty
    unfold zeroOf at hz
    cases hin:P.info? e with
    | none=>rw[hin] at hz;cases hz
    | some inf =>
     rw[hin] at hz
     simp only[Option.bind_some,QA] at hz
     obtain ⟨z0,hz0,rfl⟩:=hz
     cases res with
     | none =>
      cases res' with
      | some q=>exact h2.elim
      | none =>
       simp only[Prod.mk.injEq] at he
       obtain ⟨rfl,rfl⟩:=he
       refine ZG h (v:=if ok then .tuple #[z0,.bool false] else z0) ?_ ?_
       ·simp only[Instr.lookup,Sem.run_bind,QY hu,MapKept.run_getObj_map g2,Result.andThen_ok,Sem.run_pure,hck,h1,GV hin hz0]
       ·cases ok
        ·exact UZ z0
        ·simp only[if_true,VRel]
         exact ⟨[z0,.bool false],rfl,by simp only[QK];exact ⟨UZ z0,VRel.mk_bool _,trivial⟩⟩
     | some p =>
      cases res' with
      | none=>exact h2.elim
      | some p' =>
       obtain ⟨j,a⟩:=p;obtain ⟨j',v⟩:=p'
       obtain ⟨rfl,_,e',_,rfl,hav,_⟩:=h2
       simp only[Prod.mk.injEq] at he
       obtain ⟨rfl,rfl⟩:=he
       refine ZG h (v:=if ok then .tuple #[e'.val,.bool true] else e'.val) ?_ ?_
       ·simp only[Instr.lookup,Sem.run_bind,QY hu,MapKept.run_getObj_map g2,Result.andThen_ok,Sem.run_pure,hck,h1]
       ·cases ok
        ·exact hav
        ·simp only[if_true,VRel]
         exact ⟨[e'.val,.bool true],rfl,by simp only[QK];exact ⟨hav,VRel.mk_bool _,trivial⟩⟩
 ·cases hs
theorem AQ {kt:TypeId} {ks:Bool × List KK} (hks:keyK P kt=some ks) {k:AV} {x:Value} (hi:F4 ks k=true) (hr:VRel m X w k x):(Instr.keyThatStays x x).run P w=.ok x w:=by
 have:Instr.sameBits 10000 x x=true:=by
  rcases PZ hks with ⟨d,kk,rfl,hu,hd⟩ | ⟨kk,rfl,hty,hf,hw⟩
  ·simp only[F4,JK] at hi
   have:=SbC (ks:=[kk]) (xs:=[k]) (vs:=[x]) (m:=m) (X:=X) (w:=w) 10000 hi (by simp only[QK];exact ⟨hr,trivial⟩)
   simpa using this
  ·obtain ⟨xs,rfl,hi⟩:=CE hi
   simp only[VRel] at hr
   obtain ⟨vs,rfl,hrs⟩:=hr
   show Instr.sameBits (9999+1) _ _=true
   simp only[Instr.sameBits,beq_self_eq_true,XI]
   exact SbC 9999 hi hrs
 unfold Instr.keyThatStays
 rw[if_pos this];rfl
theorem Qc4 {t kt e:TypeId} {ks:Bool × List KK} {x y v:Value} {avs:List AV} (h:HRel m X σ w) (hu:P.underlying t=some (.map kt e)) (hks:keyK P kt=some ks) (ha:QK m X w avs [x,y,v])
  (hs:JZ ks avs σ=some (r,σ')):YP P (do Instr.mapUpdate t x y v;pure .skip) m X σ w r σ':=by
 unfold JZ at hs
 split at hs
 ·rename_i l k a
  obtain ⟨x',us,hx,hr,hus⟩:=ha.cons
  obtain ⟨y',us',hy,hrk,hus'⟩:=hus.cons
  obtain ⟨v',hv,hra⟩:=hus'.one
  subst hv;cases hy;cases hx
  simp only[VRel] at hr;obtain ⟨b,hb,rfl⟩:=hr
  cases hc:mapOf σ l with
  | none=>simp[hc] at hs
  | some es =>
   simp only[hc,Option.bind_some] at hs
   split at hs
   ·cases hs
   ·rename_i hi
    have hi':F4 ks k=true:=by simpa using hi
    simp only[QA,Prod.mk.injEq] at hs
    obtain ⟨res,hres,rfl,rfl⟩:=hs
    obtain ⟨b',ces,clock,g1,hl,g2,hborn,hnd,hsz,g3,g4⟩:=h.mapRow hc
    rw[hb] at g1;cases g1
    obtain ⟨res',h1,h2⟩:=UH hks hrk g3 hres
    have hck:=KO hks hi' hrk false
    cases res with
    | none =>
     cases res' with
     | some q=>exact h2.elim
     | none =>
      have ht:YZ w (w.putObj b (.map (ces.push { key:=y,val:=v,born:=clock }) (clock+1))) b:=YZ.obj w _ g2 (by simp)
      obtain ⟨q1,q2,q3⟩:=h.turn hb hl trivial ht (o':=.map (XU es k a none)) (fun hm=>by
       simp only[ORel,XU]
       refine ⟨_,_,World.putObj_heap_same (lt_of_heap g2),?_,?_,by simp[hsz],?_⟩
       ·intro e' he'
        rcases Array.mem_push.1 he' with he' | rfl
        ·exact Nat.lt_succ_of_lt (hborn e' he')
        ·exact Nat.lt_succ_self _
       ·simp only[Array.toList_push,ZS,Q0,WS]
        refine List.nodup_append.2 ⟨hnd,by simp,?_⟩
        intro p hp q hq
        simp only[WZ] at hq
        subst hq
        obtain ⟨e',he',rfl⟩:=ZP.1 hp
        exact Nat.ne_of_lt (hborn e' (by simpa using he'))
       ·intro i k' a' hi
        rcases ZB i es.length with hlt | hge
        ·rw[QE hlt] at hi
         obtain ⟨e',p1,p2,p3⟩:=g4 i k' a' hi
         exact ⟨e',by rw[K5,if_neg (by omega)];exact p1,p2.mono hm _ _,p3.mono hm _ _⟩
        ·rw[QS hge] at hi
         have hil:i=es.length:=by
          have:=(QH.1 hi).1
          simp at this;omega
         subst hil
         simp at hi
         obtain ⟨rfl,rfl⟩:=hi
         exact ⟨{ key:=y,val:=v,born:=clock },by rw[K5,if_pos hsz.symm],hrk.mono hm _ _,hra.mono hm _ _⟩)
      refine PT ?_ q1 q2
      simp only[Instr.mapUpdate,Sem.run_bind,QY hu,MapKept.run_getObj_map g2,Result.andThen_ok,Sem.run_pure,hck,h1]
      exact KH g2
    | some p =>
     cases res' with
     | none=>exact h2.elim
     | some p' =>
      obtain ⟨j,a0⟩:=p;obtain ⟨j',v0⟩:=p'
      obtain ⟨rfl,_,e0,hj,rfl,_,hkey⟩:=h2
      have hj':ces[j]? = some e0:=by simpa using hj
      have ht:YZ w (w.putObj b (.map (ces.modify j fun e=>{ e with key:=y,val:=v }) clock)) b:=YZ.obj w _ g2 (by simp)
      have hbs:(ces.modify j fun e=>{ e with key:=y,val:=v }).toList.map (·.born)=ces.toList.map (·.born):=by
       apply Z1
       intro q
       simp only[ZR,Y7,W8]
       split <;> cases ces[q]? <;> simp
      obtain ⟨q1,q2,q3⟩:=h.turn hb hl trivial ht (o':=.map (XU es k a (some (j,a0)))) (fun hm=>by
       simp only[ORel,XU]
       refine ⟨_,_,World.putObj_heap_same (lt_of_heap g2),?_,by rw[hbs];exact hnd,by simp[hsz],?_⟩
       ·intro e' he'
        have:e'.born∈ces.toList.map (·.born):=by
         rw[← hbs];exact ZP.2 ⟨e',XG.2 he',rfl⟩
        obtain ⟨e2,p1,p2⟩:=ZP.1 this
        have:=hborn e2 (XG.1 p1)
        omega
       ·intro i k' a' hi
        rw[ZO] at hi
        by_cases hij:j=i
        ·subst hij
         rw[if_pos rfl] at hi
         split at hi
         ·simp at hi
          obtain ⟨rfl,rfl⟩:=hi
          exact ⟨{ e0 with key:=y,val:=v },by simp[W8,hj'],hrk.mono hm _ _,hra.mono hm _ _⟩
         ·cases hi
        ·rw[if_neg hij] at hi
         obtain ⟨e',p1,p2,p3⟩:=g4 i k' a' hi
         exact ⟨e',by rw[W8,if_neg hij];exact p1,p2.mono hm _ _,p3.mono hm _ _⟩)
      refine PT ?_ q1 q2
      have hst:(Instr.keyThatStays (((ces[j]?).map (·.key)).getD y) y).run P w=.ok y w:=by
       rw[hj'];simp only[Option.map_some,Option.getD_some]
       rw[hkey];exact AQ hks hi' hrk
      simp only[Instr.mapUpdate,Sem.run_bind,QY hu,MapKept.run_getObj_map g2,Result.andThen_ok,Sem.run_pure,hck,h1,hst]
      exact KH g2
 ·cases hs
theorem Qc5 {t kt e:TypeId} {ks:Bool × List KK} {x y:Value} {t2 ty:TypeId} {avs:List AV} (h:HRel m X σ w) (hu:P.underlying t=some (.map kt e)) (hks:keyK P kt=some ks) (ha:QK m X w avs [x,y])
  (hs:J0 ks avs σ=some (r,σ')):YP P (do pure (.value (← Builtin.delete_ #[t,t2] ty #[x,y]))) m X σ w r σ':=by
 unfold J0 at hs
 split at hs
 ·rename_i l k
  obtain ⟨x',us,hx,hr,hus⟩:=ha.cons
  obtain ⟨y',hy,hrk⟩:=hus.one
  subst hy;cases hx
  simp only[VRel] at hr;obtain ⟨b,hb,rfl⟩:=hr
  cases hc:mapOf σ l with
  | none=>simp[hc] at hs
  | some es =>
   simp only[hc,Option.bind_some] at hs
   split at hs
   ·cases hs
   ·rename_i hi
    have hi':F4 ks k=true:=by simpa using hi
    simp only[QA,Prod.mk.injEq] at hs
    obtain ⟨res,hres,rfl,rfl⟩:=hs
    obtain ⟨b',ces,clock,g1,hl,g2,hborn,hnd,hsz,g3,g4⟩:=h.mapRow hc
    rw[hb] at g1;cases g1
    obtain ⟨res',h1,h2⟩:=UH hks hrk g3 hres
    have hck:=KO hks hi' hrk ces.isEmpty
    have hv:VRel m X w (.tup []) (.tuple #[]):=by simp only[VRel];exact ⟨[],rfl,by simp[QK]⟩
    cases res with
    | none =>
     cases res' with
     | some q=>exact h2.elim
     | none =>
      have ht:YZ w (w.putObj b (.map ces clock)) b:=YZ.obj w _ g2 (by simp)
      obtain ⟨q1,q2,q3⟩:=h.turn hb hl trivial ht (o':=.map es) (fun hm=>by
       simp only[ORel]
       refine ⟨_,_,World.putObj_heap_same (lt_of_heap g2),hborn,hnd,hsz,?_⟩
       intro i k' a' hi
       obtain ⟨e',p1,p2,p3⟩:=g4 i k' a' hi
       exact ⟨e',p1,p2.mono hm _ _,p3.mono hm _ _⟩)
      refine W7 (v:=.tuple #[]) ?_ (by simp only[VRel];exact ⟨[],rfl,by simp[QK]⟩) q1 q2
      simp[Builtin.delete_,QY hu,MapKept.run_getObj_map g2,hck,h1,KH g2]
    | some p =>
     cases res' with
     | none=>exact h2.elim
     | some p' =>
      obtain ⟨j,a0⟩:=p;obtain ⟨j',v0⟩:=p'
      obtain ⟨rfl,_,e0,hj,rfl,_,hkey⟩:=h2
      have hj':ces[j]? = some e0:=by simpa using hj
      have hjl:j<ces.size:=(Q3.1 hj').1
      have htl:(ces.eraseIdxIfInBounds j).toList=ces.toList.eraseIdx j:=by
       simp[Array.eraseIdxIfInBounds,hjl]
      have ht:YZ w (w.putObj b (.map (ces.eraseIdxIfInBounds j) clock)) b:=YZ.obj w _ g2 (by simp)
      obtain ⟨q1,q2,q3⟩:=h.turn hb hl trivial ht (o':=.map (es.eraseIdx j)) (fun hm=>by
       simp only[ORel]
       refine ⟨_,_,World.putObj_heap_same (lt_of_heap g2),?_,?_,?_,?_⟩
       ·intro e' he'
        have:e'∈(ces.eraseIdxIfInBounds j).toList:=XG.2 he'
        rw[htl] at this
        exact hborn e' (by simpa using (List.eraseIdx_sublist _ j).subset this)
       ·rw[htl]
        exact hnd.sublist (List.Sublist.map _ (List.eraseIdx_sublist _ j))
       ·rw[← Array.length_toList,htl,List.length_eraseIdx,List.length_eraseIdx,Array.length_toList,hsz]
       ·intro i k' a' hi
        rw[← Y7,htl]
        rw[List.getElem?_eraseIdx] at hi ⊢
        split at hi
        ·rename_i hij
         obtain ⟨e',p1,p2,p3⟩:=g4 _ k' a' hi
         exact ⟨e',by rw[if_pos hij,Y7];exact p1,p2.mono hm _ _,p3.mono hm _ _⟩
        ·rename_i hij
         obtain ⟨e',p1,p2,p3⟩:=g4 _ k' a' hi
         exact ⟨e',by rw[if_neg hij,Y7];exact p1,p2.mono hm _ _,p3.mono hm _ _⟩)
      refine W7 (v:=.tuple #[]) ?_ (by simp only[VRel];exact ⟨[],rfl,by simp[QK]⟩) q1 q2
      simp[Builtin.delete_,QY hu,MapKept.run_getObj_map g2,hck,h1,KH g2]
 ·cases hs
theorem QaA {kt:TypeId} {kk:List KK} (hty:P.keyTypeAt 8 kt=true) (hf:flatK P 8 kt=some kk) (hw:(match P.underlying kt with | some (.array _ _) | some (.struct _)=>true | _=>false)=true) {k k':AV} {x y:Value} (hr:VRel m X w k x) (h1:VRel m X w k' y) :
  ∀ r,JW (true,kk) k k'=some r→(Op.equal kt x y).run P w=.ok r w∧(r=true→y=x):=by
 intro r hkr
 unfold JW at hkr
 split at hkr
 ·rename_i xs ys hxs hys
  have ex:k=.agg xs:=by cases k <;> simp[JK] at hxs;rw[hxs]
  have ey:k'=.agg ys:=by cases k' <;> simp[JK] at hys;rw[hys]
  subst ex ey
  split at hkr
  ·rename_i hok;cases hkr
   simp only[QD] at hok
   simp only[VRel] at hr h1
   obtain ⟨vs,rfl,hrs⟩:=hr
   obtain ⟨us,hus,hrs'⟩:=h1
   rw[hus]
   obtain ⟨r',g1,g2⟩:=run_equalIn_deep 9992 8 kt hty w 8 8 (.agg vs.toArray) (.agg us.toArray) _ _ (F3 hf hw hok.1 hrs) (F3 hf hw hok.2 hrs') (KI 8 kt _ _ _ hf hok.1 hrs) (KI 8 kt _ _ _ hf hok.2 hrs')
   rw[Qaf hok.1 hok.2] at g2
   have hb:r'=VZ xs ys:=by
    cases hc:VZ xs ys
    ·cases r'
     ·rfl
     ·rw[hc] at g2;exact absurd (g2.1 rfl) (by simp)
    ·exact g2.2 hc
   subst hb
   exact ⟨g1,fun hc=>by rw[P8 hok.1 hok.2 hc hrs hrs']⟩
  ·cases hkr
 ·cases hkr
theorem Qbo {t:TypeId} {kk:List KK} (h:keyK P t=some (true,kk)):P.keyTypeAt 8 t=true∧flatK P 8 t=some kk∧(match P.underlying t with | some (.array _ _) | some (.struct _)=>true | _=>false)=true:=by
 unfold keyK at h
 split at h
 ·cases h
 ·cases h
 ·rename_i hu
  split at h
  ·rename_i hk
   simp only[QA,Prod.mk.injEq,true_and] at h
   obtain ⟨ks,h1,rfl⟩:=h
   exact ⟨hk,h1,by rw[hu]⟩
  ·cases h
 ·rename_i hu
  split at h
  ·rename_i hk
   simp only[QA,Prod.mk.injEq,true_and] at h
   obtain ⟨ks,h1,rfl⟩:=h
   exact ⟨hk,h1,by rw[hu]⟩
  ·cases h
 ·cases h
theorem AR {kk:List KK} {a b:AV} {r:Bool} (h:JW (true,kk) a b=some r):∃ xs ys,a=.agg xs∧b=.agg ys:=by
 unfold JW at h
 split at h
 ·rename_i xs ys hxs hys
  exact ⟨xs,ys,by cases a <;> simp[JK] at hxs;rw[hxs],by cases b <;> simp[JK] at hys;rw[hys]⟩
 ·cases h
theorem snd_eqS {t:TypeId} {kk:List KK} {xo yo:Operand} {x y:Value} {avs:List AV} (h:HRel m X σ w) (hg:P.eqGuardType P.depth t=false) (hk:keyK P t=some (true,kk)) (ha:QK m X w avs [x,y])
  (hs:ZQ (.eqS false (true,kk)) avs σ=some (r,σ')):YP P (do pure (.value (← (do eqGuard .eql t xo yo x y;binOp .eql t x y)))) m X σ w r σ':=by
 simp only[ZQ,OI] at hs
 split at hs
 ·rename_i a b
  simp only[QA] at hs
  obtain ⟨v,hv,he⟩:=hs;cases he
  obtain ⟨x',us,hx,hr,hus⟩:=ha.cons;cases hx
  obtain ⟨y',hy,hra⟩:=hus.one;cases hy
  obtain ⟨k1,k2,k3⟩:=Qbo hk
  have he:=(QaA k1 k2 k3 hr hra v hv).1
  obtain ⟨xs,ys,rfl,rfl⟩:=AR hv
  simp only[VRel] at hr hra
  obtain ⟨vs,rfl,_⟩:=hr
  obtain ⟨us,rfl,_⟩:=hra
  refine ZG h (v:=.bool v) ?_ (by simpa using VRel.mk_bool _)
  simp[eqGuard,binOp,he,hg]
 ·cases hs
theorem snd_neS {t:TypeId} {kk:List KK} {xo yo:Operand} {x y:Value} {avs:List AV} (h:HRel m X σ w) (hg:P.eqGuardType P.depth t=false) (hk:keyK P t=some (true,kk)) (ha:QK m X w avs [x,y])
  (hs:ZQ (.eqS true (true,kk)) avs σ=some (r,σ')):YP P (do pure (.value (← (do eqGuard .neq t xo yo x y;binOp .neq t x y)))) m X σ w r σ':=by
 simp only[ZQ,OI] at hs
 split at hs
 ·rename_i a b
  simp only[QA] at hs
  obtain ⟨v,hv,he⟩:=hs;cases he
  obtain ⟨x',us,hx,hr,hus⟩:=ha.cons;cases hx
  obtain ⟨y',hy,hra⟩:=hus.one;cases hy
  obtain ⟨k1,k2,k3⟩:=Qbo hk
  have he:=(QaA k1 k2 k3 hr hra v hv).1
  obtain ⟨xs,ys,rfl,rfl⟩:=AR hv
  simp only[VRel] at hr hra
  obtain ⟨vs,rfl,_⟩:=hr
  obtain ⟨us,rfl,_⟩:=hra
  refine ZG h (v:=.bool (!v)) ?_ (by simpa using VRel.mk_bool _)
  simp[eqGuard,binOp,he,hg]
 ·cases hs
theorem II {σ:List AObj} {l:Nat} {s:ByteArray} {p:Nat} (h:RH σ l=some (s,p)):σ[l]? = some (.siter s p):=by
 unfold RH at h
 split at h
 ·rename_i s' p' ho;cases h;exact ho
 ·cases h
theorem LY {r:Nat} {s:ByteArray} {p:Nat} (h:w.heap[r]? = some (.stringIter s p)):(getObj r).run P w=.ok (.stringIter s p) w:=by simp[getObj,Sem.run,h]
theorem SI {r:Nat} {s:ByteArray} {p:Nat} (o:Obj) (h:w.heap[r]? = some (.stringIter s p)):(setObj r o).run P w=.ok () (w.putObj r o):=by simp[setObj,Sem.run,h,World.putObj]
theorem snd_rstr {t:TypeId} {x:Value} {avs:List AV} (h:HRel m X σ w) (hu:P.underlying t=some .string) (ha:QK m X w avs [x])
  (hs:F6 avs σ=some (r,σ')):YP P (do pure (.value (← Instr.range t x))) m X σ w r σ':=by
 unfold F6 at hs
 split at hs
 ·rename_i s
  cases hs
  obtain ⟨v,hv,hr⟩:=ha.one;cases hv
  simp only[VRel,CV.rep] at hr
  subst hr
  obtain ⟨h1,h2,h3⟩:=h.alloc (.stringIter s 0) (.siter s 0) (fun hm=>by simp only[ORel];exact heap_alloc_new _ _)
  refine W7 (v:=.pointer (some ⟨w.heap.size,0,none⟩)) ?_ ?_ h1 h2
  ·simp[Instr.range,QY hu]
  ·simp only[VRel];exact ⟨_,LM.put_same _ _ _,rfl⟩
 ·cases hs
theorem Qe4 {ty:TypeId} {x:Value} {avs:List AV} (h:HRel m X σ w) (ha:QK m X w avs [x])
  (hs:KX avs σ=some (r,σ')):YP P (do pure (.value (← Instr.next x true ty))) m X σ w r σ':=by
 unfold KX at hs
 split at hs
 ·rename_i l
  obtain ⟨v,hv,hr⟩:=ha.one;cases hv
  simp only[VRel] at hr;obtain ⟨b,hb,rfl⟩:=hr
  simp only[QA] at hs
  obtain ⟨⟨s,p⟩,hsp,he⟩:=hs
  have ho:=II hsp
  have hob:=h.obj l _ ho
  rw[hb] at hob
  simp only[ORel] at hob
  by_cases hlt:p<s.size
  ·simp only[hlt,if_true] at he
   cases he
   have ht:YZ w (w.putObj b (.stringIter s (p+(Utf8.decode s p).2))) b:=YZ.obj w _ hob (by simp)
   obtain ⟨q1,q2,q3⟩:=h.turn hb ho trivial ht (o':=.siter s (p+(Utf8.decode s p).2)) (fun hm=>by
    simp only[ORel];exact World.putObj_heap_same (lt_of_heap hob))
   refine W7 (v:=.tuple #[.bool true,.int .i64 p,.int .i32 (Utf8.decode s p).1]) ?_ ?_ q1 q2
   ·simp[Instr.next,LY hob,hlt,SI _ hob,goInt]
   ·simp only[VRel]
    exact ⟨_,rfl,by simp[QK,VRel,CV.rep]⟩
  ·simp only[hlt,if_false] at he
   cases he
   refine ZG h (v:=.tuple #[.bool false]) ?_ (by simp only[VRel];exact ⟨_,rfl,by simp[QK,VRel,CV.rep]⟩)
   simp[Instr.next,LY hob,hlt]
 ·cases hs
end Go.Proofs.YtgkidpolomhghaaGreatDoor.AM
namespace Go.Proofs.YtgkidpolomhghaaGreatDoor.AM
variable [Dr]
open Go
variable {P:Program} {m:LM} {X:Nat→Prop} {σ σ':List AObj} {w:World} {r:AV}
theorem Qbi (ρ:Operand→Value) (ps:Array (Nat × Operand)):ps.map (fun (i,x)=>(i,ρ x))=((ps.toList.map fun p=>(p.1,ρ p.2))).toArray:=by
 apply Array.ext';simp
theorem NW {P:Program} {fs:Array Field}:∀ (ps:List (Nat × Operand)) (ρ:Operand→Value) (pl:List (Nat × Nat)),(ps.mapM fun p=>(fs[p.1]?).bind fun f=>(P.info? f.type).map fun i=>(f.offset,i.size))=some pl →
  (ps.map fun p=>(p.1,ρ p.2)).mapM (fun p=>(fs[p.1]?).map fun (f:Field)=>(f.offset,P.cellsOf f.type))=some pl
 | [],ρ,pl,h=>by simpa using h
 | p::ps,ρ,pl,h=>by
  simp only[WV,Option.bind_eq_bind,QB,Option.pure_def,Option.some.injEq,QA] at h
  obtain ⟨q,⟨f,hf,i,hi,rfl⟩,pl',hpl,rfl⟩:=h
  simp only[Q0,WV,hf,Option.map_some,Option.bind_eq_bind,Option.bind_some,NW ps ρ pl' hpl,Option.pure_def]
  simp[Program.cellsOf,hi]
theorem QcY {ρ:Operand→Value} {args:Array Operand} {avs:List AV} (ha:QK m X w avs (args.toList.map ρ)) (hl:avs.length=3):∃ x y z,args.map ρ = #[x,y,z]∧QK m X w avs [x,y,z]:=by
 have h1:=ha.length
 obtain ⟨l⟩:=args
 match l,h1 with
 | [a,b,c],_=>exact ⟨ρ a,ρ b,ρ c,by simp,ha⟩
 | [],h1=>simp only[ZK,List.length_cons,List.length_nil] at h1;omega
 | [a],h1=>simp only[ZK,List.length_cons,List.length_nil] at h1;omega
 | [a,b],h1=>simp only[ZK,List.length_cons,List.length_nil] at h1;omega
 | a::b::c::d::l,h1=>simp only[ZK,List.length_cons] at h1;omega
theorem FN {ρ:Operand→Value} {args:Array Operand} {avs:List AV} (ha:QK m X w avs (args.toList.map ρ)) (hl:avs.length=2):∃ x y,args.map ρ = #[x,y]∧QK m X w avs [x,y]:=by
 have h1:=ha.length
 obtain ⟨l⟩:=args
 match l,h1 with
 | [a,b],_=>exact ⟨ρ a,ρ b,by simp,ha⟩
 | [],h1=>simp only[ZK,List.length_cons,List.length_nil] at h1;omega
 | [a],h1=>simp only[ZK,List.length_cons,List.length_nil] at h1;omega
 | a::b::c::l,h1=>simp only[ZK,List.length_cons,List.length_nil] at h1;omega
theorem Qaa {ρ:Operand→Value} {args:Array Operand} {avs:List AV} (ha:QK m X w avs (args.toList.map ρ)) (hl:avs.length=1):∃ x,args.map ρ = #[x]∧QK m X w avs [x]:=by
 have h1:=ha.length
 obtain ⟨l⟩:=args
 match l,h1 with
 | [a],_=>exact ⟨ρ a,by simp,ha⟩
 | [],h1=>simp only[ZK,List.length_cons,List.length_nil] at h1;omega
 | a::b::l,h1=>simp only[ZK,List.length_cons,List.length_nil] at h1;omega
theorem SN {b:Builtin} {argTypes:Array TypeId} {args:Array Operand} {t:TypeId} {io:IOp} {ρ:Operand→Value} {avs:List AV} (hc:GG P b argTypes.toList=some io) (h:HRel m X σ w) (ha:QK m X w avs (args.toList.map ρ)) (hs:ZQ io avs σ=some (r,σ')) :
  YP P (do let d ← resolve ρ { callee:=.builtin b,args,argTypes } t;invoke d.target d.args) m X σ w r σ':=by
 have key:∀ {s:Sem Next},(∀ cs,builtin b argTypes t cs (args.map ρ)=s)→YP P s m X σ w r σ'→YP P (do let d ← resolve ρ { callee:=.builtin b,args,argTypes } t;invoke d.target d.args) m X σ w r σ':=by
  rintro s hb ⟨nx,w',m',h1,h2⟩
  refine ⟨nx,w',m',?_,h2⟩
  simp only[resolve,Sem.run_bind,Sem.run_pure,Result.andThen_ok,invoke,hb]
  exact h1
 unfold GG at hc
 split at hc
 ·rename_i st hat
  have hat':argTypes = #[st]:=by apply Array.ext';simpa using hat
  subst hat'
  have hl:avs.length=1:=by
   split at hc <;> first | (cases hc;done) | (cases hc;simp only[ZQ,RZ] at hs;split at hs <;> first | (cases hs;done) | rfl)
  obtain ⟨x,hx,hv⟩:=Qaa ha hl
  refine key (fun cs=>by rw[hx];rfl) ?_
  split at hc
  ·rename_i hu;cases hc
   exact QdW (t:=t) h (.inr ⟨rfl,hu⟩) hv hs
  ·rename_i e hu;cases hc
   exact QdW (t:=t) h (.inl ⟨rfl,e,hu⟩) hv hs
  ·cases hc
 ·cases hc
  have hl:avs.length=2:=by
   simp only[ZQ,DJ] at hs;split at hs <;> first | (cases hs;done) | rfl
  obtain ⟨x,y,hx,hv⟩:=FN ha hl
  exact key (fun cs=>by rw[hx];rfl) (snd_min2 (at_:=argTypes) (t:=t) h hv hs)
 iterate 2
  cases hc
  have hl:avs.length=2∨avs.length=3:=by
   simp only[ZQ,GT] at hs;split at hs <;> first | (cases hs;done) | exact .inl rfl | exact .inr rfl
  rcases hl with hl | hl
  ·obtain ⟨x,y,hx,hv⟩:=FN ha hl
   exact key (fun cs=>by rw[hx];rfl) (snd_max2 (at_:=argTypes) (t:=t) h hv hs)
  ·obtain ⟨x,y,z,hx,hv⟩:=QcY ha hl
   exact key (fun cs=>by rw[hx];rfl) (snd_max3 (at_:=argTypes) (t:=t) h hv hs)
 ·rename_i st xt hat
  have hat':argTypes = #[st,xt]:=by apply Array.ext';simpa using hat
  subst hat'
  split at hc
  ·rename_i e e' hu hxu
   simp only[QB] at hc
   obtain ⟨i,hi,z,hz,hc⟩:=hc
   split at hc
   ·rename_i hcond;cases hc
    have hl:avs.length=2:=by
     simp only[ZQ,ZX] at hs;split at hs <;> first | (cases hs;done) | rfl
    obtain ⟨x,y,hx,hv⟩:=FN ha hl
    exact key (fun cs=>by rw[hx];rfl) (SH (ty:=t) h hu hxu hi hz hcond.1 hcond.2.1 hcond.2.2 hv hs)
   ·cases hc
  ·rename_i e hu hxu
   simp only[QB] at hc
   obtain ⟨i,hi,z,hz,hc⟩:=hc
   split at hc
   ·rename_i hcond;cases hc
    have hl:avs.length=2:=by
     simp only[ZQ,ZX] at hs;split at hs <;> first | (cases hs;done) | rfl
    obtain ⟨x,y,hx,hv⟩:=FN ha hl
    exact key (fun cs=>by rw[hx];rfl) (BO (ty:=t) h hu hxu hi hz hcond.1 hcond.2.1 hcond.2.2 hv hs)
   ·cases hc
  ·rename_i e kn hu hxu
   simp only[QB] at hc
   obtain ⟨i,hi,z,hz,hc⟩:=hc
   split at hc
   ·rename_i hcond;cases hc
    have hl:avs.length=2:=by
     simp only[ZQ,VQ] at hs;split at hs <;> first | (cases hs;done) | rfl
    obtain ⟨x,y,hx,hv⟩:=FN ha hl
    exact key (fun cs=>by rw[hx];rfl) (Qb0 (ty:=t) h hu hxu hi hz hcond.1 hcond.2.1 hcond.2.2 hv hs)
   ·cases hc
  ·cases hc
 ·rename_i dt st hat
  have hat':argTypes = #[dt,st]:=by apply Array.ext';simpa using hat
  subst hat'
  split at hc
  ·rename_i e hu
   simp only[QA] at hc
   obtain ⟨i,hi,he⟩:=hc;cases he
   have hl:avs.length=2:=by
    simp only[ZQ,UE] at hs;split at hs <;> first | (cases hs;done) | rfl
   obtain ⟨x,y,hx,hv⟩:=FN ha hl
   exact key (fun cs=>by rw[hx];rfl) (snd_copy (st:=st) (ty:=t) h hu hi hv hs)
  ·cases hc
 ·rename_i st hat
  have hat':argTypes = #[st]:=by apply Array.ext';simpa using hat
  subst hat'
  split at hc
  ·rename_i e hu
   simp only[QB] at hc
   obtain ⟨i,hi,z,hz,hc⟩:=hc
   split at hc
   ·rename_i hcond;cases hc
    have hl:avs.length=1:=by
     simp only[ZQ,UN] at hs;split at hs <;> first | (cases hs;done) | rfl
    obtain ⟨x,hx,hv⟩:=Qaa ha hl
    exact key (fun cs=>by rw[hx];rfl) (Qea (ty:=t) h hu hi hz hcond.1 hcond.2 hv hs)
   ·cases hc
  ·cases hc
 ·rename_i st hat
  have hat':argTypes = #[st]:=by apply Array.ext';simpa using hat
  subst hat'
  split at hc
  ·rename_i e hu
   cases hc
   have hl:avs.length=1:=by
    simp only[ZQ,NZ] at hs;split at hs <;> first | (cases hs;done) | rfl
   obtain ⟨x,hx,hv⟩:=Qaa ha hl
   exact key (fun cs=>by rw[hx];rfl) (snd_cap (t:=t) h hu hv hs)
  ·cases hc
 ·rename_i dt st hat
  have hat':argTypes = #[dt,st]:=by apply Array.ext';simpa using hat
  subst hat'
  split at hc
  ·rename_i kt e hu
   simp only[QA] at hc
   obtain ⟨ks,hks,he⟩:=hc;cases he
   have hl:avs.length=2:=by
    simp only[ZQ,J0] at hs;split at hs <;> first | (cases hs;done) | rfl
   obtain ⟨x,y,hx,hv⟩:=FN ha hl
   exact key (fun cs=>by rw[hx];rfl) (Qc5 (t2:=st) (ty:=t) h hu hks hv hs)
  ·cases hc
 ·cases hc
theorem FV {cm:Bool} {o:Oper} {io:IOp} {os:List Operand} {ρ:Operand→Value} {avs:List AV} (hc:TV P cm o=some (io,os)) (h:HRel m X σ w) (ha:QK m X w avs (os.map ρ)) (hs:ZQ io avs σ=some (r,σ')) :
  YP P (execOp ρ o) m X σ w r σ':=by
 unfold TV at hc
 unfold execOp
 split at hc
 ·rename_i x ho
  cases hc;rw[ho]
  simp only[ZQ,f_mv] at hs
  split at hs <;> cases hs
  obtain ⟨v,hv,hr⟩:=ha.one;cases hv
  exact FQ h (by simp) hr
 ·rename_i x ho
  cases hc;rw[ho]
  simp only[ZQ,f_mv] at hs
  split at hs <;> cases hs
  obtain ⟨v,hv,hr⟩:=ha.one;cases hv
  exact FQ h (by simp) hr
 ·rename_i c a b ho
  cases hc;rw[ho]
  simp only[ZQ,P4] at hs
  split at hs <;> cases hs
  obtain ⟨v,us,hv,hr,hus⟩:=ha.cons;cases hv
  obtain ⟨v,us,hv,hr2,hus⟩:=hus.cons;cases hv
  obtain ⟨v,hv,hr3⟩:=hus.one;cases hv
  have hb:=hr.bool
  have key:∀ cb:Bool,ρ c=.bool cb→∀ av bv:AV,VRel m X w av (ρ a)→VRel m X w bv (ρ b)→YP P (do pure (.value (if ← asBool (ρ c) then ρ a else ρ b))) m X σ w (if cb then av else bv) σ:=by
   intro cb hcb av bv h1 h2
   refine ⟨.value (if cb then ρ a else ρ b),w,m,?_,.inl ⟨_,rfl,?_⟩,h,Step.refl _ _ _ _⟩
   ·rw[hcb];cases cb <;> simp[asBool]
   ·cases cb <;> simpa
  exact key _ hb _ _ hr2 hr3
 ·rename_i t ho
  rw[ho]
  simp only[QA] at hc
  obtain ⟨z,hz,he⟩:=hc;cases he
  exact Qeb h hz hs
 ·rename_i t x ho
  cases hc;rw[ho]
  exact snd_box h ha hs
 ·rename_i t ps ho
  rw[ho];dsimp only
  rw[Qbi]
  split at hc
  ·rename_i fs z hu hz
   split at hc
   ·cases hc
   rename_i hfs
   simp only[QA] at hc
   obtain ⟨pl,hpl,he⟩:=hc;cases he
   unfold zeroOf at hz
   simp only[QB,QA] at hz
   obtain ⟨i,hi,z0,hz0,rfl⟩:=hz
   have hall:∀ cells:Array Value,Instr.fill (fun k=>(fs[k]?).map fun (f:Field)=>(f.offset,P.cellsOf f.type)) z0.cells (ps.toList.map fun p=>(p.1,ρ p.2))=some cells→(Instr.build t ((ps.toList.map fun p=>(p.1,ρ p.2))).toArray).run P w=.ok (.agg cells) w:=by
    intro cells hf
    refine OZ hu hi hz0 ?_ hf
    intro f hf
    have h0:=hfs
    simp only[Bool.not_eq_false,Q1] at h0
    exact h0 f hf
   exact S1 h hi hz0 hall (NW _ ρ pl hpl) (by rw[XW] at ha ⊢;exact ha) hs
  ·rename_i n e z hu hz
   simp only[QA] at hc
   obtain ⟨j,hj,he⟩:=hc;cases he
   unfold zeroOf at hz
   simp only[QB,QA] at hz
   obtain ⟨i,hi,z0,hz0,rfl⟩:=hz
   refine S1 (place:=fun k=>some (k*j.size,j.size)) h hi hz0 (fun cells hf=>MC hu hi hz0 hj hf) ?_ (by rw[XW] at ha ⊢;exact ha) hs
   generalize ps.toList=l
   induction l with
   | nil=>rfl
   | cons p l ih=>simp only[Q0,WV,Option.bind_eq_bind,Option.bind_some,ih,Option.pure_def]
  ·cases hc
 ·rename_i t len ps ho
  rw[ho];dsimp only
  rw[Qbi]
  split at hc
  ·rename_i e hu
   simp only[QB] at hc
   obtain ⟨i,hi,z,hz,hc⟩:=hc
   split at hc
   ·rename_i hcond;cases hc
    obtain ⟨hbig,hsz,hpos⟩:=hcond
    exact Qc6 h hu hi hz hsz hpos hbig (by simp[XW]) (by rw[XW] at ha ⊢;exact ha) hs
   ·cases hc
  ·cases hc
 ·rename_i t a ho
  rw[ho]
  simp only[QB] at hc
  obtain ⟨g,hg,hc⟩:=hc
  cases g with
  | true =>
   simp only[if_true,QA] at hc
   obtain ⟨i,hi,he⟩:=hc;cases he
   exact Qe7 h hg hi ha hs
  | false =>
   simp only[QT,if_false] at hc;cases hc
   exact Qe8 h hg ha hs
 ·rename_i t a x ho
  rw[ho]
  simp only[QA] at hc
  obtain ⟨i,hi,he⟩:=hc;cases he
  have hr:r=.undef:=by
   simp only[ZQ,UM] at hs
   split at hs
   ·simp only[QB] at hs
    obtain ⟨cs,_,hs⟩:=hs
    split at hs <;> cases hs;rfl
   ·cases hs
  subst hr
  exact Qe3 h hi ha hs
 ·rename_i x ho
  cases hc;rw[ho]
  simp only[ZQ,G4] at hs
  split at hs
  ·cases hs
   obtain ⟨v,hv,hr⟩:=ha.one;cases hv
   have hr0:=hr
   simp only[VRel] at hr;obtain ⟨b,hb,he⟩:=hr
   exact FQ h (v:=ρ x) (by simp[he]) hr0
  ·cases hs
   obtain ⟨v,hv,hr⟩:=ha.one;cases hv
   have hr0:=hr
   simp only[VRel,CV.rep] at hr;obtain ⟨b,he,_⟩:=hr
   exact FQ h (v:=ρ x) (by simp[he]) hr0
  ·cases hs
   obtain ⟨v,hv,hr⟩:=ha.one;cases hv
   have hr0:=hr
   simp only[VRel] at hr;obtain ⟨vs,he,_⟩:=hr
   exact FQ h (v:=ρ x) (by simp[he]) hr0
  ·cases hs
 ·rename_i op t x y yt ho
  rw[ho]
  split at hc
  ·rename_i tk htk
   cases hc
   simp only[ZQ,OJ] at hs
   split at hs
   ·simp only[QA] at hs
    obtain ⟨v,hv,he⟩:=hs;cases he
    obtain ⟨x',us,hx,hr,hus⟩:=ha.cons;cases hx
    obtain ⟨y',hy,hra⟩:=hus.one;cases hy
    obtain ⟨v',hv',hrr⟩:=QdH (P:=P) (xo:=x) (yo:=y) htk hr hra hv
    exact ZG h hv' hrr
   ·have:=ha.length;simp at this
   ·cases hs
  ·split at hc
   ·cases hc
   ·rename_i hgd
    have hgd:P.eqGuardType P.depth t=false:=by simpa using hgd
    split at hc
    ·rename_i ks hks
     cases hc
     exact snd_eqS (xo:=x) (yo:=y) h hgd hks ha hs
    ·rename_i ks hks
     cases hc
     exact snd_neS (xo:=x) (yo:=y) h hgd hks ha hs
    ·cases hc
 ·rename_i t x ho
  cases hc;rw[ho]
  simp only[ZQ,CN] at hs
  split at hs <;> cases hs
  obtain ⟨v,hv,hr⟩:=ha.one;cases hv
  have hb:=hr.bool
  exact ZG h (v:=_) (by rw[hb];simp[Op.unary]) (VRel.mk_bool _)
 ·rename_i t x ho
  rw[ho]
  simp only[QB] at hc
  obtain ⟨tk,htk,hc⟩:=hc
  split at hc
  ·cases hc
   simp only[ZQ,OJ] at hs
   split at hs
   ·have:=ha.length
    simp at this
   ·simp only[binI,Option.map_some,Option.some.injEq,Prod.mk.injEq] at hs
    obtain ⟨rfl,rfl⟩:=hs
    obtain ⟨v,hv,hr⟩:=ha.one;cases hv
    have hb:=hr.int
    exact ZG h (v:=_) (by rw[hb];simp[Op.unary,Op.intArith]) (VRel.mk_int _ _)
   ·cases hs
  ·cases hc
 ·rename_i s t x ho
  rw[ho]
  split at hc
  ·rename_i d k hu1 hu2
   cases hc
   simp only[ZQ,P5] at hs
   split at hs <;> cases hs
   obtain ⟨v,hv,hr⟩:=ha.one;cases hv
   have hb:=hr.int
   exact ZG h (v:=_) (by rw[hb];simp[Go.convert,QY hu1,QY hu2,Conv.intToInt]) (VRel.mk_int _ _)
  ·cases hc
 ·rename_i f first captured ho
  rw[ho]
  split at hc
  ·rename_i hfirst
   cases hc
   simp only[ZQ,NI] at hs
   cases hs
   refine ZG h (v:=.func f #[] (captured.map ρ)) ?_ ?_
   ·have:first = #[]:=by simpa using hfirst
    simp only[Instr.makeFunc,this,Array.map_empty];rfl
   ·simp only[VRel]
    exact ⟨captured.toList.map ρ,by rw[show captured.map ρ=(captured.toList.map ρ).toArray from by apply Array.ext';simp],ha⟩
  ·split at hc
   ·rename_i hcap
    split at hc
    ·rename_i g
     cases hc
     simp only[ZQ,NJ] at hs
     cases hs
     refine ZG h (v:=.func (.func g) (first.map ρ) #[]) ?_ ?_
     ·have:captured = #[]:=by simpa using hcap
      simp only[Instr.makeFunc,this,Array.map_empty];rfl
     ·simp only[VRel]
      exact ⟨first.toList.map ρ,by rw[show first.map ρ=(first.toList.map ρ).toArray from by apply Array.ext';simp],ha⟩
    ·cases hc
   ·cases hc
 ·rename_i t ho
  cases hc;rw[ho]
  exact Qe6 h hs
 ·rename_i t x ix ok ho
  rw[ho]
  split at hc
  ·rename_i kt e hu
   simp only[QB,QA] at hc
   obtain ⟨ks,hks,z,hz,he⟩:=hc;cases he
   exact BN h hu hks hz ha hs
  ·cases hc
 ·rename_i t x k v ho
  rw[ho]
  split at hc
  ·rename_i kt e hu
   simp only[QA] at hc
   obtain ⟨ks,hks,he⟩:=hc;cases he
   exact Qc4 h hu hks ha hs
  ·cases hc
 ·rename_i t l c ho
  rw[ho]
  split at hc
  ·rename_i e hu
   simp only[QB] at hc
   obtain ⟨i,hi,z,hz,hc⟩:=hc
   split at hc
   ·rename_i hcond
    cases cm with
    | true=>cases hc;exact QaY h hu hi hz hcond.1 hcond.2 ha hs
    | false=>cases hc;exact QbZ h hu hi hz hcond.1 hcond.2 ha hs
   ·cases hc
  ·cases hc
 ·rename_i t x lo hi ho
  rw[ho]
  have ha':∀ (a:List AV),QK m X w a ((x::(lo.toList++hi.toList)).map ρ)→QK m X w a (ρ x::((lo.map ρ).toList++(hi.map ρ).toList)):=by
   intro a;cases lo <;> cases hi <;> simp
  have e1:lo.isSome=(lo.map ρ).isSome:=by cases lo <;> rfl
  have e2:hi.isSome=(hi.map ρ).isSome:=by cases hi <;> rfl
  split at hc
  ·rename_i n e hu
   simp only[QA] at hc
   obtain ⟨i,hi',he⟩:=hc;cases he
   rw[e1,e2] at hs
   exact snd_slA h hu hi' (ha' _ ha) hs
  ·rename_i e hu
   simp only[QA] at hc
   obtain ⟨i,hi',he⟩:=hc;cases he
   rw[e1,e2] at hs
   exact snd_slS h hu hi' (ha' _ ha) hs
  ·rename_i hu
   cases hc
   rw[e1,e2] at hs
   exact Qe5 h hu (ha' _ ha) hs
  ·cases hc
 ·rename_i t x lo hi mx ho
  rw[ho]
  split at hc
  ·rename_i e hu
   simp only[QA] at hc
   obtain ⟨i,hi',he⟩:=hc;cases he
   exact snd_slS3 h hu hi' ha hs
  ·cases hc
 ·rename_i s x f ho
  rw[ho]
  split at hc
  ·rename_i fs hu
   simp only[QB] at hc
   obtain ⟨fd,hf,i,hi,hc⟩:=hc
   split at hc
   ·rename_i h0;cases hc
    exact snd_fadd h hu hf hi h0 ha hs
   ·cases hc
  ·cases hc
 ·rename_i s x f ho
  rw[ho]
  split at hc
  ·rename_i fs hu
   simp only[QB,QA] at hc
   obtain ⟨fd,hf,i,hi,g,hg,he⟩:=hc;cases he
   exact snd_fld h hu hf hi hg ha hs
  ·cases hc
 ·rename_i t x ix ho
  rw[ho]
  split at hc
  ·rename_i n e hu
   simp only[QA] at hc
   obtain ⟨i,hi,he⟩:=hc;cases he
   exact snd_iaA h hu hi ha hs
  ·rename_i e hu
   simp only[QA] at hc
   obtain ⟨i,hi,he⟩:=hc;cases he
   exact snd_iaS h hu hi ha hs
  ·cases hc
 ·rename_i t x ix ho
  rw[ho]
  split at hc
  ·rename_i n e hu
   simp only[QB,QA] at hc
   obtain ⟨i,hi,g,hg,he⟩:=hc;cases he
   exact snd_ixA h hu hi hg ha hs
  ·rename_i hu
   cases hc
   exact Qe9 h hu ha hs
  ·cases hc
 ·rename_i t i ho
  cases hc;rw[ho]
  simp only[ZQ,U6] at hs
  split at hs
  ·simp only[QA] at hs
   obtain ⟨a,haa,he⟩:=hs;cases he
   obtain ⟨v,hv,hr⟩:=ha.one;cases hv
   simp only[VRel] at hr;obtain ⟨vs,he,hrs⟩:=hr
   obtain ⟨v,hv,hr⟩:=hrs.get _ _ haa
   refine ZG h (v:=v) ?_ hr
   rw[he];simp[Instr.extract,hv]
  ·cases hs
 ·rename_i b args at_ ho
  rw[ho]
  simp only[QA] at hc
  obtain ⟨io',hio,he⟩:=hc;cases he
  exact SN hio h ha hs
 ·rename_i t x ho
  rw[ho]
  split at hc
  ·rename_i hu
   cases hc
   exact snd_rstr h hu ha hs
  ·cases hc
 ·rename_i it ho
  cases hc;rw[ho]
  exact Qe4 h ha hs
 ·cases hc;simp only[ZQ] at hs;cases hs
 ·cases hc;simp only[ZQ] at hs;cases hs
 ·split at hc
  ·simp only[QB,QA] at hc
   obtain ⟨_,_,_,_,he⟩:=hc;cases he
   simp only[ZQ] at hs;cases hs
  ·cases hc
 ·cases hc;simp only[ZQ] at hs;cases hs
 ·cases hc
end Go.Proofs.YtgkidpolomhghaaGreatDoor.AM
namespace Go.Proofs.YtgkidpolomhghaaGreatDoor.AM
set_option linter.unusedSectionVars false
variable [Dr]
open Go
set_option linter.unusedVariables false
set_option linter.unusedSimpArgs false
structure Fx where
 vars:List Nat
 N:Nat
 r:Option Nat
 n0:Nat
structure St where
 vals:List AV
 heap:List AObj
structure En where
 n:Nat
 ds:List Deferred
def DRel (m:LM) (X:Nat→Prop) (e:En) (w:World) (ds:List Deferred):Prop :=
 ∃ bs:List Nat,ds=bs.map (fun b=>{ target:=.collected b,args:=#[] })++e.ds∧bs.Nodup∧∀ b∈bs,e.n≤b∧b<w.heap.size∧w.heap[b]? = some (.deferred (some []))∧¬ Own m X b
structure SRel (fx:Fx) (m:LM) (X:Nat→Prop) (e:En) (s:St) (ac:Act) (w:World):Prop where
 size:ac.tmps.size=fx.N
 vars:ARel m X w fx.vars s.vals ac.tmps
 defs:DRel m X e w ac.defers
 heap:HRel m X s.heap w
 base:fx.n0≤s.heap.length
 entry:e.n≤w.heap.size
theorem DRel.step {m m':LM} {X:Nat→Prop} {e:En} {n0:Nat} {w w':World} {ds:List Deferred} (h:DRel m X e w ds) (hs:Step n0 m X w m' w'):DRel m' X e w' ds:=by
 obtain ⟨bs,h1,h2,h3⟩:=h
 refine ⟨bs,h1,h2,fun b hb=>?_⟩
 obtain ⟨g1,g2,g3,g4⟩:=h3 b hb
 refine ⟨g1,Z6 g2 hs.size,by rw[hs.fr b g2 (.inr fun l hl=>g4 (.inr ⟨l,hl⟩))];exact g3,?_⟩
 rintro (hx | ⟨l,hl⟩)
 ·exact g4 (.inl hx)
 ·rcases hs.new l b hl with ⟨l',hl'⟩ | hge
  ·exact g4 (.inr ⟨l',hl'⟩)
  ·omega
def fen (m:LM) (r:Option Nat):Fence:={ Fence.wide with round:=r.bind m }
def rok (fx:Fx) (m:LM):Prop:=∀ l,fx.r=some l→l<fx.n0∧∃ b,m l=some b
theorem EQ {fx:Fx} {m m':LM} {X:Nat→Prop} {w w':World} (h:rok fx m) (hs:Step fx.n0 m X w m' w'):fen m' fx.r=fen m fx.r:=by
 unfold fen
 cases hr:fx.r with
 | none=>rfl
 | some l=>simp[hs.keep l (h l hr).1]
theorem EH {fx:Fx} {m m':LM} {X:Nat→Prop} {w w':World} (h:rok fx m) (hs:Step fx.n0 m X w m' w'):rok fx m':=fun l hl=>by
 obtain ⟨h1,b,h2⟩:=h l hl
 exact ⟨h1,b,by rw[hs.keep l h1];exact h2⟩
def Lift (fx:Fx) (m:LM) (X:Nat→Prop) (en:En) (w:World) (Q:Exit→St→Prop):Exit→Act→World→Prop :=
 fun e ac' w'=>∃ s' m',Q e s'∧SRel fx m' X en s' ac' w'∧Step fx.n0 m X w m' w'
def W (P:Program) (fx:Fx) (c:Code) (s:St) (Q:Exit→St→Prop):Prop :=
 ∀ m X en ac w,SRel fx m X en s ac w→rok fx m→c.wpIn (fen m fx.r) 0 P (Lift fx m X en w Q) ac w
def PI (P:Program) (f:FuncId):Prop:=∀ (args:Array Value) (w:World),(callFunc f args).run P w=.ok (.enter f args) w
def OT (m:LM) (X:Nat→Prop) (w:World) (σ:List AObj) (Q:AV→List AObj→Prop):Ending→World→Prop :=
 fun e w'=>∃ c r σ' m',e=.returned c∧Q r σ'∧VRel m' X w' r c∧HRel m' X σ' w'∧Step σ.length m X w m' w'∧σ.length≤σ'.length
def AC (P:Program) (f:FuncId) (args:List AV) (σ:List AObj) (Q:AV→List AObj→Prop):Prop :=
 PI P f∧∀ m X w cargs,QK m X w args cargs→HRel m X σ w→CallsIn Fence.wide 0 P f cargs.toArray w (OT m X w σ Q)
def YC (P:Program) (l:Nat) (args:List AV) (σ:List AObj) (Q:AV→List AObj→Prop):Prop :=
 ∀ m X w cargs b,m l=some b→QK m X w args cargs→HRel m X σ w→∃ L:Loop,w.heap[b]? = some (.loop L)∧cargs.length=L.params.size ∧
  RoundIn Fence.wide 0 P b L.fn ((L.params.zip cargs.toArray).foldl (fun tmps (t,a)=>tmps.setIfInBounds t a) L.tmps) L.assign L.body w (OT m X w σ Q)
def X0 (P:Program) (fv:AV) (args:List AV) (σ:List AObj) (Q:AV→List AObj→Prop):Prop :=
 match fv with
 | .fn (.func f) cap=>AC P f (args++cap) σ Q
 | .bm f first=>AC P f (first++args) σ Q
 | .yld l=>YC P l args σ Q
 | _=>False
theorem AC.mono {P:Program} {f:FuncId} {args:List AV} {σ:List AObj} {Q Q':AV→List AObj→Prop} (h:AC P f args σ Q) (hq:∀ r σ',Q r σ'→Q' r σ'):AC P f args σ Q' :=
 ⟨h.1,fun m X w cargs ha hh=>(h.2 m X w cargs ha hh).mono fun e w' ⟨c,r,σ',m',h1,h2,h3⟩=>⟨c,r,σ',m',h1,hq _ _ h2,h3⟩⟩
theorem YC.mono {P:Program} {l:Nat} {args:List AV} {σ:List AObj} {Q Q':AV→List AObj→Prop} (h:YC P l args σ Q) (hq:∀ r σ',Q r σ'→Q' r σ'):YC P l args σ Q' :=
 fun m X w cargs b hb ha hh=>let ⟨L,h1,h2,h3⟩:=h m X w cargs b hb ha hh
  ⟨L,h1,h2,h3.mono fun e w' ⟨c,r,σ',m',h1,h2,h3⟩=>⟨c,r,σ',m',h1,hq _ _ h2,h3⟩⟩
inductive Opd where
 | v (i:Nat)
 | t (j:Nat)
 | c (a:AV)
inductive IK where
 | prim (io:IOp)
 | call
structure Ins where
 dst:Option Nat
 gd:Option (Nat × Bool)
 op:IK
 args:List Opd
def WY (vals ρ:List AV):Opd→AV
 | .v i=>vals.getD i .undef
 | .t j=>ρ.getD j .undef
 | .c a=>a
def setD (dst:Option Nat) (vals:List AV) (v:AV):List AV :=
 match dst with
 | some i=>vals.set i v
 | none=>vals
def gdOk (ρ:List AV):Option (Nat × Bool)→Option Bool
 | none=>some true
 | some (j,want) =>
  match ρ.getD j .undef with
  | .cv (.bool b)=>some (b == want)
  | .tup _=>some false
  | _=>none
def RG (P:Program):List Ins→List AV→List AV→List AObj→(List AV→List AV→List AObj→Prop)→Prop
 | [],vals,ρ,σ,K=>K vals ρ σ
 | i::is,vals,ρ,σ,K =>
  match gdOk ρ i.gd with
  | none=>False
  | some false=>RG P is (setD i.dst vals (.tup [])) (ρ++[.tup []]) σ K
  | some true =>
   match i.op,i.args.map (WY vals ρ) with
   | .prim io,as =>
    match ZQ io as σ with
    | some (v,σ')=>RG P is (setD i.dst vals v) (ρ++[v]) σ' K
    | none=>False
   | .call,fv::as=>X0 P fv as σ fun v σ'=>RG P is (setD i.dst vals v) (ρ++[v]) σ' K
   | .call,[]=>False
def glV (g:Nat):List (Nat × List CV)→AV
 | []=>.undef
 | (k,cs)::r=>if Nat.beq k g=true then .cv (.rp cs 0) else glV g r
theorem Qat {m:LM} {X:Nat→Prop} {w:World} (g:Nat):∀ l:List (Nat × List CV),(∀ p∈l,CV.reps w (Own m X) p.2 ⟨p.1,0,none⟩ 0)→VRel m X w (glV g l) (.pointer (some ⟨g,0,none⟩))
 | [],_=>by simp[glV,VRel]
 | (k,cs)::r,h=>by
  simp only[glV]
  split
  ·rename_i e
   have e:=ZJ e
   subst e
   exact ⟨⟨k,0,none⟩,rfl,h (k,cs) (List.mem_cons_self ..)⟩
  ·exact Qat g r fun p hp=>h p (WU _ hp)
def XA (vars:List Nat) (dsts:List (Option Nat)):Operand→Opd
 | .tmp t =>
  match vars.idxOf? t with
  | some i=>.v i
  | none =>
   match dsts.idxOf? (some t) with
   | some j=>.t j
   | none=>.c .undef
 | .const v=>.c (VX v)
 | .func f=>.c (.fn (.func f) [])
 | .global g=>.c (glV g Dr.gl)
def KA (vars:List Nat):Option Nat→Option Nat
 | some t=>vars.idxOf? t
 | none=>none
def QeD (vars:List Nat):Bool :=
 match vars.reverse with
 | a::b::_=>Nat.blt a b
 | _=>false
def JP (P:Program) (vars:List Nat) (dsts:List (Option Nat)) (o:Oper):Option Ins :=
 match o.op with
 | .call { callee:=.value f,args,.. }=>some ⟨KA vars o.dst,o.guard,.call,(f::args.toList).map (XA vars dsts)⟩
 | _=>(TV P (QeD vars) o).map fun x=>⟨KA vars o.dst,o.guard,.prim x.1,x.2.map (XA vars dsts)⟩
def GU (vars:List Nat) (N:Nat) (ops:List Oper):Bool :=
 let ts:=(ops.filterMap (·.dst)).filter fun t=>!vars.contains t
 decide ts.Nodup&&decide vars.Nodup&&(ops.filterMap (·.dst)).all (· < N)&&vars.all (· < N) &&
 ops.all fun o=>match o.guard with
  | none=>true
  | some (j,_)=>match (ops[j]?).bind (·.dst) with
   | some t=>!vars.contains t
   | none=>false
def HK (P:Program) (vars:List Nat) (dsts:List (Option Nat)):List Oper→Option (List Ins)
 | []=>some []
 | o::os =>
  match JP P vars dsts o with
  | none=>none
  | some i =>
   match HK P vars dsts os with
   | none=>none
   | some is=>some (i::is)
theorem UV (P:Program) (vars:List Nat) (dsts:List (Option Nat)):∀ os,HK P vars dsts os=os.mapM (JP P vars dsts)
 | []=>by simp[HK]
 | o::os=>by
  simp only[HK,WV,UV P vars dsts os,Option.bind_eq_bind,Option.pure_def]
  cases JP P vars dsts o <;> simp
  cases os.mapM (JP P vars dsts) <;> rfl
def VY (P:Program) (vars:List Nat) (N:Nat) (ops:Array Oper):Option (List Ins) :=
 if GU vars N ops.toList then HK P vars (ops.toList.map (·.dst)) ops.toList else none
def TRel (m:LM) (X:Nat→Prop) (w:World) (vars:List Nat) (ops:List Oper) (ρ:List AV) (tmps:Array Value):Prop :=
 ∀ (j t:Nat),(ops[j]?).bind (·.dst)=some t→t∉vars→VRel m X w (ρ.getD j .undef) (tmps.getD t Go.undef)
theorem Y9 {α:Type} [BEq α] [LawfulBEq α] {l:List α} {a:α} {i:Nat} (h:l.idxOf? a=some i):l[i]? = some a:=by
 rw[List.idxOf?,List.findIdx?_eq_some_iff_getElem] at h
 obtain ⟨h1,h2,_⟩:=h
 rw[QI h1];simpa using h2
theorem U3 {α:Type} [BEq α] [LawfulBEq α] {l:List α} {a:α} (h:l.idxOf? a=none):a∉l:=by
 rw[List.idxOf?_eq_none_iff] at h;exact h
variable {P:Program} {fx:Fx} {m:LM} {X:Nat→Prop} {w:World}
theorem U7 {vals ρ:List AV} {ops:List Oper} {tmps:Array Value} {ds:List Deferred} (hg:GlOk m X w) (hv:ARel m X w fx.vars vals tmps) (ht:TRel m X w fx.vars ops ρ tmps) (x:Operand) :
  VRel m X w (WY vals ρ (XA fx.vars (ops.map (·.dst)) x)) (Act.eval { tmps,defers:=ds } x):=by
 cases x with
 | tmp t =>
  simp only[XA,Act.eval]
  split
  ·rename_i i hi
   exact hv i t (Y9 hi)
  ·rename_i hi
   split
   ·rename_i j hj
    have:=Y9 hj
    simp only[ZR,QA] at this
    obtain ⟨o,ho,hd⟩:=this
    exact ht j t (by rw[ho];simpa using hd) (U3 hi)
   ·simp[WY,VRel]
 | const v=>simp only[XA,WY,Act.eval];exact UZ v
 | global g=>simp only[XA,WY,Act.eval];exact Qat g _ hg
 | func f=>simp only[XA,WY,Act.eval,VRel];exact ⟨[],rfl,by simp[QK]⟩
theorem UT {vals ρ:List AV} {ops:List Oper} {a:Act} (hg:GlOk m X w) (hv:ARel m X w fx.vars vals a.tmps) (ht:TRel m X w fx.vars ops ρ a.tmps):∀ (xs:List Operand),
  QK m X w ((xs.map (XA fx.vars (ops.map (·.dst)))).map (WY vals ρ)) (xs.map a.eval)
 | []=>by simp[QK]
 | x::xs=>by simp only[Q0,QK];exact ⟨U7 (ds:=a.defers) hg hv ht x,UT hg hv ht xs⟩
theorem Qd2 {en:En} {s:St} {ρ:List AV} {ops:List Oper} {a:Act} {v:AV} {c:Value} {o:Oper} {j:Nat} (hok:GU fx.vars fx.N ops=true) (ho:ops[j]? = some o) (hj:ρ.length=j)
  (hs:SRel fx m X en s a w) (ht:TRel m X w fx.vars ops ρ a.tmps) (hv:VRel m X w v c) :
  SRel fx m X en { s with vals:=setD (KA fx.vars o.dst) s.vals v } (a.put o.dst c) w∧TRel m X w fx.vars ops (ρ++[v]) (a.put o.dst c).tmps:=by
 unfold GU at hok
 simp only[QD,decide_eq_true_eq,Q1] at hok
 obtain ⟨⟨⟨⟨hnd,hvn⟩,hlt⟩,hvlt⟩,hg⟩:=hok
 have ρget:∀ k,k≠j→(ρ++[v]).getD k .undef=ρ.getD k .undef:=by
  intro k hk
  rcases ZB k ρ.length with h | h
  ·simp[List.getD,QE h]
  ·have h1:ρ.length<k:=by omega
   simp only[List.getD]
   rw[QS (by omega),QN (l:=ρ) (by omega),QN (by simp;omega)]
 have ρj:(ρ++[v]).getD j .undef=v:=by
  simp only[List.getD]
  rw[QS (by omega)];simp[hj]
 cases hd:o.dst with
 | none =>
  refine ⟨by simpa[KA,setD,Act.put] using hs,?_⟩
  intro k t hk htv
  have:k≠j:=by rintro rfl;rw[ho] at hk;simp[hd] at hk
  rw[ρget k this];exact ht k t hk htv
 | some t =>
  have htN:t<a.tmps.size:=by
   rw[hs.size]
   have:=hlt t (X3.2 ⟨o,QZ ho,hd⟩)
   simpa using this
  have getD_set:∀ u,(a.tmps.setIfInBounds t c).getD u Go.undef=if u=t then c else a.tmps.getD u Go.undef:=by
   intro u
   simp only[QV]
   by_cases hu:u=t
   ·subst hu;simp[htN]
   ·rw[if_neg hu,W2 (fun h=>hu h.symm)]
  simp only[KA]
  cases hi:fx.vars.idxOf? t with
  | some i =>
   have hit:=Y9 hi
   refine ⟨⟨by simpa[Act.put] using hs.size,?_,hs.defs,hs.heap,hs.base,hs.entry⟩,?_⟩
   ·intro k u hk
    simp only[Act.put,setD,getD_set]
    by_cases hki:k=i
    ·subst hki
     rw[hit] at hk;cases hk
     rw[if_pos rfl]
     rcases ZB k s.vals.length with h | h
     ·simp[List.getD,h];exact hv
     ·rw[KE h]
      simp[List.getD,QN h,VRel]
    ·have hut:u≠t:=by
      rintro rfl
      have h1:k<fx.vars.length:=(QH.1 hk).1
      exact hki ((List.getElem?_inj h1 hvn).1 (hk.trans hit.symm))
     rw[if_neg hut]
     have:(s.vals.set i v).getD k .undef=s.vals.getD k .undef:=by
      simp only[List.getD];rw[QU (fun h=>hki h.symm)]
     rw[this];exact hs.vars k u hk
   ·intro k u hk huv
    simp only[Act.put,getD_set]
    have hut:u≠t:=by rintro rfl;exact huv (QZ hit)
    rw[if_neg hut]
    have:k≠j:=by
     rintro rfl;rw[ho] at hk;simp[hd] at hk;exact hut hk.symm
    rw[ρget k this];exact ht k u hk huv
  | none =>
   have htv:=U3 hi
   refine ⟨⟨by simpa[Act.put] using hs.size,?_,hs.defs,hs.heap,hs.base,hs.entry⟩,?_⟩
   ·intro k u hk
    simp only[Act.put,setD,getD_set]
    have hut:u≠t:=by rintro rfl;exact htv (QZ hk)
    rw[if_neg hut];exact hs.vars k u hk
   ·intro k u hk huv
    simp only[Act.put,getD_set]
    by_cases hkj:k=j
    ·subst hkj
     rw[ho] at hk;simp[hd] at hk;subst hk
     rw[if_pos rfl,ρj];exact hv
    ·rw [ρget k hkj]
     have hut:u≠t:=by
      rintro rfl
      have hnd':∀ (l:List Oper),((l.filterMap (·.dst)).filter fun t=>!fx.vars.contains t).Nodup→∀ (a b:Nat),(l[a]?).bind (·.dst)=some u→(l[b]?).bind (·.dst)=some u→a=b:=by
       intro l
       induction l with
       | nil=>intro _ a b h;simp at h
       | cons x l ih =>
        intro hn a b h1 h2
        have hmem:∀ (q:Nat),(l[q]?).bind (fun o:Oper=>o.dst)=some u→u∈(l.filterMap (·.dst)).filter fun t=>!fx.vars.contains t:=by
         intro q hq
         cases hlq:l[q]? with
         | none=>rw[hlq] at hq;simp at hq
         | some y =>
          rw[hlq] at hq
          refine YB.2 ⟨X3.2 ⟨y,QZ hlq,by simpa using hq⟩,by simpa using huv⟩
        cases hx:x.dst with
        | none =>
         simp only[List.filterMap_cons,hx] at hn
         cases a with
         | zero=>simp[hx] at h1
         | succ a=>cases b with
          | zero=>simp[hx] at h2
          | succ b=>simp at h1 h2;rw[ih hn a b h1 h2]
        | some tx =>
         simp only[List.filterMap_cons,hx] at hn
         have hn':((l.filterMap (·.dst)).filter fun t=>!fx.vars.contains t).Nodup:=by
          rw[XK] at hn;split at hn
          ·exact (WQ.1 hn).2
          ·exact hn
         have hno:tx=u→∀ q:Nat,(l[q]?).bind (fun o:Oper=>o.dst)=some u→False:=by
          rintro rfl q hq
          rw[XK,if_pos (by simpa using huv)] at hn
          exact (WQ.1 hn).1 (hmem q hq)
         cases a with
         | zero =>
          cases b with
          | zero=>rfl
          | succ b=>simp[hx] at h1;simp at h2;exact (hno h1 b h2).elim
         | succ a =>
          cases b with
          | zero=>simp[hx] at h2;simp at h1;exact (hno h2 a h1).elim
          | succ b=>simp at h1 h2;rw[ih hn' a b h1 h2]
      exact hkj (hnd' ops hnd k j hk (by rw[ho];simpa using hd))
     rw[if_neg hut];exact ht k u hk huv
end Go.Proofs.YtgkidpolomhghaaGreatDoor.AM
namespace Go.Proofs.YtgkidpolomhghaaGreatDoor.AM
variable [Dr]
open Go
variable {P:Program} {fx:Fx} {m:LM} {X:Nat→Prop} {en:En} {w:World}
theorem SRel.of_heap {s:St} {σ':List AObj} {m':LM} {ac:Act} {w':World} (h:SRel fx m X en s ac w) (h':HRel m' X σ' w') (hs:Step s.heap.length m X w m' w') (hl:s.heap.length≤σ'.length):SRel fx m' X en { s with heap:=σ' } ac w' where
 size:=h.size
 vars:=h.vars.mono (h.heap.mono_of_step hs (QG _))
 defs:=h.defs.step hs
 heap:=h'
 base:=YR h.base hl
 entry:=YR h.entry hs.size
theorem TRel.mono {vars:List Nat} {ops:List Oper} {ρ:List AV} {tmps:Array Value} {m':LM} {w':World} (h:TRel m X w vars ops ρ tmps) (hm:Mono m X w m' X w'):TRel m' X w' vars ops ρ tmps :=
 fun j t hj hv=>VRel.mono hm _ _ (h j t hj hv)
theorem ED {io:IOp} {as:List AV} {σ σ':List AObj} {r:AV} (h:ZQ io as σ=some (r,σ')):σ.length≤σ'.length:=by
 cases io <;> simp only[ZQ] at h
 case mv=>unfold f_mv at h;split at h <;> cases h;exact QG _
 case pick=>unfold P4 at h;split at h <;> cases h;exact QG _
 case not=>unfold CN at h;split at h <;> cases h;exact QG _
 case bin=>unfold OJ at h;split at h <;> first | (simp only[QA] at h;obtain ⟨_,_,h⟩:=h;cases h;exact QG _) | cases h
 case conv=>unfold P5 at h;split at h <;> cases h;exact QG _
 case alloc=>unfold UO at h;split at h <;> cases h;simp
 case box=>unfold WI at h;split at h <;> first | (split at h <;> cases h;simp) | cases h
 case build=>unfold DL at h;simp only[QA] at h;obtain ⟨_,_,h⟩:=h;cases h;exact QG _
 case bslice=>unfold V4 at h;simp only[QA] at h;obtain ⟨_,_,h⟩:=h;cases h;simp
 case load1=>unfold KZ at h;split at h <;> first | (simp only[QB,QA] at h;obtain ⟨_,_,_,_,h⟩:=h;cases h;exact QG _) | (simp only[QA] at h;obtain ⟨_,_,h⟩:=h;cases h;exact QG _) | cases h
 case loadN=>unfold YF at h;split at h <;> first | (simp only[QB] at h;obtain ⟨_,_,h⟩:=h;split at h <;> cases h;exact QG _) | (split at h <;> cases h;exact QG _) | cases h
 case store=>unfold UM at h;split at h <;> first | (simp only[QB] at h;obtain ⟨_,_,h⟩:=h;split at h <;> cases h;simp) | cases h
 case nilck=>unfold G4 at h;split at h <;> cases h <;> exact QG _
 case mkfn=>unfold NI at h;cases h;exact QG _
 case mkbm=>unfold NJ at h;cases h;exact QG _
 case mkmap=>unfold KY at h;split at h <;> cases h;simp
 case mkslice=>unfold XB at h;split at h <;> first | (split at h <;> cases h;simp) | cases h
 case slA=>unfold OG at h;split at h <;> first | (simp only[QB] at h;obtain ⟨_,_,_,_,h⟩:=h;split at h <;> cases h;exact QG _) | cases h
 case slS=>unfold VG at h;split at h <;> first | (simp only[QB] at h;obtain ⟨_,_,h⟩:=h;split at h <;> first | (split at h <;> cases h <;> exact QG _) | (cases h;exact QG _) | cases h) | cases h
 case slStr=>unfold LN at h;split at h <;> first | (simp only[QB] at h;obtain ⟨_,_,h⟩:=h;split at h <;> cases h;exact QG _) | cases h
 case fadd=>unfold DK at h;split at h <;> cases h <;> exact QG _
 case fld=>unfold OH at h;split at h <;> first | (split at h <;> cases h;exact QG _) | (simp only[QA] at h;obtain ⟨_,_,h⟩:=h;cases h;exact QG _) | cases h
 case iaA=>unfold PD at h;split at h <;> first | (split at h <;> cases h;exact QG _) | cases h
 case iaS=>unfold VP at h;split at h <;> first | (split at h <;> cases h;exact QG _) | cases h
 case ixA=>unfold A7 at h;split at h <;> first | (split at h <;> first | (cases h;exact QG _) | (simp only[QA] at h;obtain ⟨_,_,h⟩:=h;cases h;exact QG _) | cases h) | cases h
 case ixStr=>unfold G5 at h;split at h <;> first | (split at h <;> first | (simp only[QA] at h;obtain ⟨_,_,h⟩:=h;cases h;exact QG _) | cases h) | cases h
 case extract=>unfold U6 at h;split at h <;> first | (simp only[QA] at h;obtain ⟨_,_,h⟩:=h;cases h;exact QG _) | cases h
 case len=>unfold RZ at h;split at h <;> cases h <;> exact QG _
 case min2=>unfold DJ at h;split at h <;> first | (split at h <;> cases h;exact QG _) | cases h
 case max2=>unfold GT at h;split at h <;> first | (split at h <;> cases h;exact QG _) | cases h
 case append =>
  unfold ZX at h
  split at h
  ·simp only[QB] at h;obtain ⟨_,_,_,_,h⟩:=h
   split at h
   ·cases h;exact QG _
   ·split at h <;> cases h;simp
  ·simp only[QB] at h;obtain ⟨_,_,_,_,_,_,h⟩:=h
   split at h <;> cases h;simp
  ·simp only[QB] at h;obtain ⟨_,_,_,_,_,_,h⟩:=h
   split at h <;> (split at h <;> cases h;simp)
  ·cases h
 case clear=>unfold UN at h;split at h <;> first | (simp only[QB] at h;obtain ⟨_,_,h⟩:=h;split at h <;> cases h;simp) | cases h
 case copy=>unfold UE at h;split at h <;> first | (simp only[QB] at h;obtain ⟨_,_,_,_,_,_,h⟩:=h;split at h <;> cases h;simp) | cases h
 case lookup=>unfold KL at h;split at h <;> first | (simp only[QB] at h;obtain ⟨_,_,h⟩:=h;split at h <;> first | (cases h;done) | (simp only[QA] at h;obtain ⟨_,_,h⟩:=h;cases h;exact QG _)) | cases h
 case mapset=>unfold JZ at h;split at h <;> first | (simp only[QB] at h;obtain ⟨_,_,h⟩:=h;split at h <;> first | (cases h;done) | (simp only[QA] at h;obtain ⟨_,_,h⟩:=h;cases h;simp)) | cases h
 case mapdel=>unfold J0 at h;split at h <;> first | (simp only[QB] at h;obtain ⟨_,_,h⟩:=h;split at h <;> first | (cases h;done) | (simp only[QA] at h;obtain ⟨_,_,h⟩:=h;cases h;simp)) | cases h
 case maplen=>unfold TS at h;split at h <;> first | (simp only[QA] at h;obtain ⟨_,_,h⟩:=h;cases h;exact QG _) | cases h
 case stuck=>cases h
 case mapent=>cases h
 case entst=>cases h
 case eqS=>unfold OI at h;split at h <;> (try (cases h;done));simp only[QA] at h;obtain ⟨v,hv,he⟩:=h;cases he;exact QG _
 case mksliceC=>unfold XR at h;split at h <;> first | (split at h <;> cases h;simp) | cases h
 case slS3=>unfold TR at h;split at h <;> (try (cases h;done)) <;> (simp only[QB] at h;obtain ⟨_,_,_,_,_,_,h⟩:=h;split at h <;> cases h;exact QG _)
 case cap=>unfold NZ at h;split at h <;> cases h;exact QG _
 case appendz=>unfold VQ at h;split at h <;> (try (cases h;done));simp only[QB] at h;obtain ⟨_,_,h⟩:=h;split at h <;> cases h;simp
 case rstr=>unfold F6 at h;split at h <;> cases h;simp
 case snext=>unfold KX at h;split at h <;> (try (cases h;done));simp only[QA] at h;obtain ⟨_,_,h⟩:=h;split at h <;> cases h <;> simp
def wfen (ro:Option Nat):Fence:={ Fence.wide with round:=ro }
theorem VC {vars:List Nat} {dsts:List (Option Nat)} {o:Oper} {i:Ins} {io:IOp} (h:JP P vars dsts o=some i) (hop:i.op=.prim io) :
  ∃ os,TV P (QeD vars) o=some (io,os)∧i.args=os.map (XA vars dsts)∧i.dst=KA vars o.dst∧i.gd=o.guard:=by
 unfold JP at h
 split at h
 ·cases h;cases hop
 ·simp only[QA] at h
  obtain ⟨⟨io',os⟩,hc,he⟩:=h;subst he;cases hop
  exact ⟨os,hc,rfl,rfl,rfl⟩
theorem DR {vars:List Nat} {dsts:List (Option Nat)} {o:Oper} {i:Ins} (h:JP P vars dsts o=some i) (hop:i.op=.call) :
  ∃ f args at_,o.op=.call { callee:=.value f,args,argTypes:=at_ }∧i.args=(f::args.toList).map (XA vars dsts)∧i.dst=KA vars o.dst∧i.gd=o.guard:=by
 unfold JP at h
 split at h
 ·rename_i f args at_ ho;cases h;exact ⟨f,args,at_,ho,rfl,rfl,rfl⟩
 ·simp only[QA] at h
  obtain ⟨⟨io',os⟩,hc,he⟩:=h;subst he;cases hop
theorem R1 {vars:List Nat} {dsts:List (Option Nat)} {o:Oper} {i:Ins} (h:JP P vars dsts o=some i):i.dst=KA vars o.dst∧i.gd=o.guard:=by
 unfold JP at h
 split at h
 ·cases h;exact ⟨rfl,rfl⟩
 ·simp only[QA] at h
  obtain ⟨⟨io',os⟩,hc,he⟩:=h;subst he;exact ⟨rfl,rfl⟩
theorem YY {cm:Bool} {o:Oper} {x:IOp × List Operand} (h:TV P cm o=some x):∀ c,o.op≠.defer c:=by
 intro c hc
 unfold TV at h
 rw[hc] at h
 cases h
theorem Qav {ops:Array Oper} {ρ:List AV} {tmps:Array Value} {o:Oper} {b:Bool} (hok:GU fx.vars fx.N ops.toList=true) (ho:o∈ops.toList) (ht:TRel m X w fx.vars ops.toList ρ tmps) (hsz:tmps.size=fx.N)
  (hg:gdOk ρ o.guard=some b):Region.wanted o (yielded ops tmps)=b:=by
 unfold Region.wanted
 cases hgd:o.guard with
 | none=>rw[hgd] at hg;simp[gdOk] at hg;simp[hg]
 | some jw =>
  obtain ⟨j,want⟩:=jw
  rw[hgd] at hg
  simp only[gdOk] at hg
  split at hg
  ·rename_i bb hb
   cases hg
   unfold GU at hok
   simp only[QD,decide_eq_true_eq,Q1] at hok
   obtain ⟨⟨⟨⟨_,_⟩,hlt⟩,_⟩,hgs⟩:=hok
   have h1:=hgs o ho
   rw[hgd] at h1
   simp only at h1
   split at h1
   ·rename_i t htj
    have htv:t∉fx.vars:=by simpa using h1
    have hr:=ht j t htj htv
    rw[hb] at hr
    have hv:=hr.bool
    cases hoj:ops.toList[j]? with
    | none=>rw[hoj] at htj;simp at htj
    | some oj =>
     rw[hoj] at htj;simp at htj
     have htN:t<tmps.size:=by
      rw[hsz];have:=hlt t (X3.2 ⟨oj,QZ hoj,htj⟩);simpa using this
     have e1:tmps[t]? = some (.bool bb):=by
      rw[Q7 htN]
      rw[QV,Q7 htN] at hv
      simpa using hv
     have e2:ops[j]? = some oj:=by simpa using hoj
     simp only[yielded,e2,Option.bind_some,htj,e1]
     cases bb <;> cases want <;> rfl
   ·cases h1
  ·rename_i us hb
   cases hg
   unfold GU at hok
   simp only[QD,decide_eq_true_eq,Q1] at hok
   obtain ⟨⟨⟨⟨_,_⟩,hlt⟩,_⟩,hgs⟩:=hok
   have h1:=hgs o ho
   rw[hgd] at h1
   simp only at h1
   split at h1
   ·rename_i t htj
    have htv:t∉fx.vars:=by simpa using h1
    have hr:=ht j t htj htv
    rw[hb] at hr
    simp only[VRel] at hr
    obtain ⟨vs,hv,_⟩:=hr
    cases hoj:ops.toList[j]? with
    | none=>rw[hoj] at htj;simp at htj
    | some oj =>
     rw[hoj] at htj;simp at htj
     have htN:t<tmps.size:=by
      rw[hsz];have:=hlt t (X3.2 ⟨oj,QZ hoj,htj⟩);simpa using this
     have e1:tmps[t]? = some (.tuple vs.toArray):=by
      rw[Q7 htN]
      rw[QV,Q7 htN] at hv
      simpa using hv
     have e2:ops[j]? = some oj:=by simpa using hoj
     simp only[yielded,e2,Option.bind_some,htj,e1]
     cases want <;> rfl
   ·cases h1
  ·cases hg
theorem C8 {ro:Option Nat} {ops:Array Oper} (hok:GU fx.vars fx.N ops.toList=true) {Qc:Exit→Act→World→Prop} :
  ∀ (is:List Ins) (j:Nat) (m:LM) (w:World) (vals ρ:List AV) (σ:List AObj) (K:List AV→List AV→List AObj→Prop) (ac:Act),
  (ops.toList.drop j).mapM (JP P fx.vars (ops.toList.map (·.dst)))=some is→ρ.length=j →
  RG P is vals ρ σ K→SRel fx m X en ⟨vals,σ⟩ ac w→TRel m X w fx.vars ops.toList ρ ac.tmps →
  (∀ m' ac' w' vals ρ σ,K vals ρ σ→SRel fx m' X en ⟨vals,σ⟩ ac' w'→Step fx.n0 m X w m' w'→Qc .normal ac' w') →
  wpOpsIn (wfen ro) 0 P ops Qc (List.range' j (ops.size-j)) ac w
 | [],j,m,w,vals,ρ,σ,K,ac,hc,hj,hrg,hs,ht,hk=>by
  have:ops.size-j=0:=by
   cases hd:ops.toList.drop j with
   | nil=>have:=congrArg List.length hd;simp at this;omega
   | cons o os =>
    rw[hd] at hc
    simp only[WV,Option.bind_eq_bind,QB,Option.pure_def] at hc
    obtain ⟨_,_,_,_,h⟩:=hc;cases h
  rw[this]
  simp only[List.range'_zero,wpOpsIn]
  exact hk m ac w vals ρ σ hrg hs (Step.refl _ _ _ _)
 | i :: is,j,m,w,vals,ρ,σ,K,ac,hc,hj,hrg,hs,ht,hk=>by
  cases hd:ops.toList.drop j with
  | nil=>rw[hd] at hc;simp at hc
  | cons o os =>
   rw[hd] at hc
   simp only[WV,Option.bind_eq_bind,QB,Option.pure_def,Option.some.injEq,List.cons.injEq] at hc
   obtain ⟨i0,hi,is0,his,he1,he2⟩:=hc
   rw[he1] at hi;rw[he2] at his;clear he1 he2
   have hoj:ops.toList[j]? = some o:=by
    have:=congrArg List.head? hd;simpa using this
   have hlt:j<ops.size:=by
    have:=(QH.1 hoj).1;simpa using this
   have hoj':ops[j]? = some o:=by simpa using hoj
   have hos:ops.toList.drop (j+1)=os:=by rw[← List.tail_drop,hd];rfl
   rw[← hos] at his
   have hn:ops.size-j=(ops.size-(j+1))+1:=by omega
   rw[hn,List.range'_succ]
   simp only[wpOpsIn,hoj']
   obtain ⟨hdst,hgd⟩:=R1 hi
   have next:∀ (m':LM) (w':World) (σ':List AObj) (v:AV) (c:Value),HRel m' X σ' w'→Step σ.length m X w m' w'→σ.length≤σ'.length→VRel m' X w' v c →
     RG P is (setD i.dst vals v) (ρ++[v]) σ' K→wpOpsIn (wfen ro) 0 P ops Qc (List.range' (j+1) (ops.size-(j+1))) (ac.put o.dst c) w':=by
    intro m' w' σ' v c hh hst hle hv hrg'
    have hs1:SRel fx m' X en ⟨vals,σ'⟩ ac w':=hs.of_heap hh hst hle
    have ht1:=ht.mono (hs.heap.mono_of_step hst (QG _))
    obtain ⟨hs2,ht2⟩:=Qd2 hok hoj hj hs1 ht1 hv
    rw[← hdst] at hs2
    refine C8 hok is (j+1) m' w' _ _ σ' K _ his (by simp[hj]) hrg' hs2 ht2 ?_
    intro m2 ac2 w2 vals2 ρ2 σ2 hK hs3 hst2
    exact hk m2 ac2 w2 vals2 ρ2 σ2 hK hs3 (Step.trans (hst.less hs.base) hst2)
   simp only[RG] at hrg
   split at hrg
   ·exact hrg.elim
   ·rename_i hg
    rw[hgd] at hg
    have:=Qav hok (QZ hoj) ht hs.size hg
    rw[this]
    simp only[QT,if_false]
    exact ⟨fun _ _=>trivial,next m w σ (.tup []) Go.undef hs.heap (Step.refl _ _ _ _) (QG _) (by simp[VRel,QK,Go.undef]) hrg⟩
   ·rename_i hg
    rw[hgd] at hg
    have:=Qav hok (QZ hoj) ht hs.size hg
    rw[this]
    simp only[if_true]
    refine ⟨fun _ _=>trivial,?_⟩
    generalize has:i.args.map (WY vals ρ)=as at hrg
    cases hop:i.op with
    | prim io =>
     rw[hop] at hrg
     dsimp only at hrg
     obtain ⟨os',hco,hargs,_,_⟩:=VC hi hop
     rw[hargs] at has
     have hrel:=UT hs.heap.gl hs.vars ht os'
     rw[has] at hrel
     split at hrg
     ·rename_i v σ' hsf
      obtain ⟨nx,w',m',hrun,hres,hh,hst⟩:=FV hco hs.heap hrel hsf
      rw[Oper.semAt_eq _ _ _ (YY hco),hrun]
      rcases hres with ⟨c,rfl,hv⟩ | ⟨rfl,rfl⟩
      ·exact next m' w' σ' v c hh hst (ED hsf) hv hrg
      ·exact next m' w' σ' .undef Go.undef hh hst (ED hsf) (by simp[VRel]) hrg
     ·exact hrg.elim
    | call =>
     rw[hop] at hrg
     cases as with
     | nil=>exact hrg.elim
     | cons fv as =>
     dsimp only at hrg
     obtain ⟨f,args,at_,hop',hargs,_,_⟩:=DR hi hop
     rw[hargs] at has
     have hrel:=UT hs.heap.gl hs.vars ht (f::args.toList)
     rw[has] at hrel
     obtain ⟨fc,us,he,hfv,hrest⟩:=hrel.cons
     simp only[Q0,List.cons.injEq] at he
     obtain ⟨rfl,rfl⟩:=he
     have hnd:∀ c,o.op≠.defer c:=by rw[hop'];simp
     rw[Oper.semAt_eq _ _ _ hnd]
     have hex:execOp ac.eval o=(do let d ← resolve ac.eval { callee:=.value f,args,argTypes:=at_ } o.type;invoke d.target d.args):=by
      simp only[execOp,hop']
     rw[hex]
     unfold X0 at hrg
     split at hrg
     ·rename_i g cap
      simp only[VRel] at hfv
      obtain ⟨vs,hfe,hcap⟩:=hfv
      have hrun:(do let d ← resolve ac.eval { callee:=.value f,args,argTypes:=at_ } o.type;invoke d.target d.args:Sem Next).run P w=.ok (.enter g ((args.toList.map ac.eval)++vs).toArray) w:=by
       simp only[resolve,hfe,Deferred.ofValue,Sem.run_bind,Sem.run_pure,Result.andThen_ok,invoke]
       rw[hrg.1]
       congr 2
       apply Array.ext';simp
      rw[hrun]
      refine ⟨by simp[wfen,Fence.wide],?_⟩
      have hcall:=hrg.2 m X w _ (QK.append hrest hcap) hs.heap
      refine CallsIn.mono (F:=wfen ro) (n:=0) hcall ?_
      rintro e w' ⟨c,r,σ',m',rfl,hq,hv,hh,hst,hle⟩
      exact next m' w' σ' r c hh hst hle hv hq
     ·rename_i g first
      simp only[VRel] at hfv
      obtain ⟨vs,hfe,hcap⟩:=hfv
      have hrun:(do let d ← resolve ac.eval { callee:=.value f,args,argTypes:=at_ } o.type;invoke d.target d.args:Sem Next).run P w=.ok (.enter g (vs++(args.toList.map ac.eval)).toArray) w:=by
       simp only[resolve,hfe,Deferred.ofValue,Sem.run_bind,Sem.run_pure,Result.andThen_ok,invoke]
       rw[hrg.1]
       congr 2
       apply Array.ext';simp
      rw[hrun]
      refine ⟨by simp[wfen,Fence.wide],?_⟩
      have hcall:=hrg.2 m X w _ (QK.append hcap hrest) hs.heap
      refine CallsIn.mono (F:=wfen ro) (n:=0) hcall ?_
      rintro e w' ⟨c,r,σ',m',rfl,hq,hv,hh,hst,hle⟩
      exact next m' w' σ' r c hh hst hle hv hq
     ·rename_i l
      simp only[VRel] at hfv
      obtain ⟨b,hb,hfe⟩:=hfv
      obtain ⟨L,hL,hsz,hround⟩:=hrg m X w _ b hb hrest hs.heap
      have hrun:(do let d ← resolve ac.eval { callee:=.value f,args,argTypes:=at_ } o.type;invoke d.target d.args:Sem Next).run P w=.ok (.round b L.fn ((L.params.zip (args.toList.map ac.eval).toArray).foldl (fun tmps (t,a)=>tmps.setIfInBounds t a) L.tmps) L.assign L.body) w:=by
       simp only[resolve,hfe,Deferred.ofValue,Sem.run_bind,Sem.run_pure,Result.andThen_ok,invoke]
       have e:#[]++args.map ac.eval=(args.toList.map ac.eval).toArray:=by apply Array.ext';simp
       rw[e]
       exact run_yield hL (by simpa using hsz)
      rw[hrun]
      refine ⟨by simp[wfen,Fence.wide],?_⟩
      refine RoundIn.mono (F:=wfen ro) (n:=0) hround ?_
      rintro e w' ⟨c,r,σ',m',rfl,hq,hv,hh,hst,hle⟩
      exact next m' w' σ' r c hh hst hle hv hq
     ·exact hrg.elim
end Go.Proofs.YtgkidpolomhghaaGreatDoor.AM
namespace Go.Proofs.YtgkidpolomhghaaGreatDoor.AM
variable [Dr]
open Go
variable {P:Program} {fx:Fx} {m:LM} {X:Nat→Prop} {en:En} {w:World} {s:St} {Q:Exit→St→Prop}
theorem fen_eq (m:LM) (r:Option Nat):fen m r=wfen (r.bind m):=rfl
theorem W.mono {c:Code} {Q':Exit→St→Prop} (h:W P fx c s Q) (hq:∀ e s',Q e s'→Q' e s'):W P fx c s Q' :=
 fun m X en ac w hs hr=>wpIn_mono (h m X en ac w hs hr) fun e ac' w' ⟨s',m',h1,h2⟩=>⟨s',m',hq _ _ h1,h2⟩
theorem W_skip (h:Q .normal s):W P fx .skip s Q :=
 fun m X en ac w hs hr=>wpIn_skip ⟨s,m,h,hs,Step.refl _ _ _ _⟩
theorem QeJ {l:Nat} (h:Q .normal s):W P fx (.label l) s Q :=
 fun m X en ac w hs hr=>wpIn_label ⟨s,m,h,hs,Step.refl _ _ _ _⟩
theorem QbM {i:Nat} (h:Q (.exit i) s):W P fx (.exit i) s Q :=
 fun m X en ac w hs hr=>wpIn_exit ⟨s,m,h,hs,Step.refl _ _ _ _⟩
theorem QcP (h:Q .ret s):W P fx .ret s Q :=
 fun m X en ac w hs hr=>wpIn_ret ⟨s,m,h,hs,Step.refl _ _ _ _⟩
theorem W.later {c:Code} {s':St} {m':LM} {w':World} {ac':Act} (h:W P fx c s' Q) (hr:rok fx m) (hs':SRel fx m' X en s' ac' w') (hst:Step fx.n0 m X w m' w') :
  c.wpIn (fen m fx.r) 0 P (Lift fx m X en w Q) ac' w':=by
 rw[← EQ hr hst]
 exact wpIn_mono (h m' X en ac' w' hs' (EH hr hst)) fun e ac2 w2 ⟨s2,m2,h1,h2,h3⟩=>⟨s2,m2,h1,h2,hst.trans h3⟩
theorem QcO {x y:Code} (h:W P fx x s fun e s'=>match e with | .normal=>W P fx y s' Q | e=>Q e s'):W P fx (.seq x y) s Q:=by
 intro m X en ac w hs hr
 refine wpIn_seq (wpIn_mono (h m X en ac w hs hr) ?_)
 rintro e ac' w' ⟨s',m',hq,hs',hst⟩
 cases e with
 | normal=>exact W.later hq hr hs' hst
 | _=>exact ⟨s',m',hq,hs',hst⟩
theorem QbO {i:Nat} {x:Code} (h:W P fx x s fun e s'=>match e with | .exit i'=>if i'=i then Q .normal s' else Q (.exit i') s' | e=>Q e s'):W P fx (.block i x) s Q:=by
 intro m X en ac w hs hr
 refine wpIn_block (wpIn_mono (h m X en ac w hs hr) ?_)
 rintro e ac' w' ⟨s',m',hq,hs',hst⟩
 cases e with
 | exit i' =>
  simp only[Exit.inBlock]
  dsimp only at hq
  split
  ·rename_i hi;rw[if_pos hi] at hq;exact ⟨s',m',hq,hs',hst⟩
  ·rename_i hi;rw[if_neg hi] at hq;exact ⟨s',m',hq,hs',hst⟩
 | _=>exact ⟨s',m',hq,hs',hst⟩
theorem QbN {t i:Nat} {b:Bool} {x y:Code} (hv:fx.vars[i]? = some t) (hb:s.vals.getD i .undef=.b b) (h:W P fx (if b then x else y) s Q):W P fx (.cond (.tmp t) x y) s Q:=by
 intro m X en ac w hs hr
 have:=hs.vars i t hv
 rw[hb] at this
 exact wpIn_cond (t:=b) this.bool (h m X en ac w hs hr)
def Weak (fx:Fx) (s s':St):Prop:=∀ m X en ac w,SRel fx m X en s ac w→∃ m',SRel fx m' X en s' ac w∧Step fx.n0 m X w m' w
theorem Weak.refl (fx:Fx) (s:St):Weak fx s s:=fun m X en ac w h=>⟨m,h,Step.refl _ _ _ _⟩
theorem Weak.trans {fx:Fx} {a b c:St} (h:Weak fx a b) (k:Weak fx b c):Weak fx a c:=fun m X en ac w hs =>
 let ⟨m1,h1,s1⟩:=h m X en ac w hs
 let ⟨m2,h2,s2⟩:=k m1 X en ac w h1
 ⟨m2,h2,s1.trans s2⟩
def RA (F:Fence) (P:Program) (c:Code) (Q:Exit→Act→World→Prop) (a:Act) (w:World):Prop :=
 ∀ (b:Frame) (k:List Item) (cs:List Frame),b.roundOf=F.round→F.fn b.fn→F.room (cs.length+1+0) →
  ∃ e a' w',Q e a' w'∧ArrivesIn (Machine.fenced P F) P (lone (b.atR a (.code c :: .inLoop c::k)) cs w) b k cs e a' w'
theorem D6 {F:Fence} {c:Code} {Q:Exit→Act→World→Prop} {a:Act} {w:World} (h:RA F P c Q a w):(Code.loop c).wpIn F 0 P Q a w:=by
 intro b k cs hro hb hr
 obtain ⟨e,a',w',hq,harr⟩:=h b k cs hro hb hr
 exact ⟨e,a',w',hq,.of_steps (.one (fenced_calm hb hr rfl) stepR_loop) harr⟩
theorem L4 {F:Fence} {c:Code} {Q:Exit→Act→World→Prop} {a:Act} {w:World} (h:c.wpIn F 0 P (Exit.then (fun a' w'=>RA F P c Q a' w') Q) a w):RA F P c Q a w:=by
 intro b k cs hro hb hr
 obtain ⟨e,a₁,w₁,hq,harr⟩:=h b (.inLoop c::k) cs hro hb hr
 cases e with
 | normal =>
  obtain ⟨e₂,a₂,w₂,hq₂,harr₂⟩:=hq b k cs hro hb hr
  exact ⟨e₂,a₂,w₂,hq₂,.of_steps (StepsIn.trans harr (.one (fenced_calm hb hr rfl) stepR_inLoop)) harr₂⟩
 | exit id=>exact ⟨_,a₁,w₁,hq,.pass (x:=.inLoop c) rfl (fun _ _=>.inl (by simp)) harr⟩
 | goto l=>exact ⟨_,a₁,w₁,hq,.pass (x:=.inLoop c) rfl (fun _ _=>.inl (by simp)) harr⟩
 | ret=>exact ⟨_,a₁,w₁,hq,.pass (x:=.inLoop c) rfl (fun _ _=>.inl (by simp)) harr⟩
 | panic ch=>exact ⟨_,a₁,w₁,hq,.pass (x:=.inLoop c) rfl (fun _ _=>.inl (by simp)) harr⟩
 | outgrown=>exact ⟨_,a₁,w₁,hq,.pass (x:=.inLoop c) rfl (fun _ _=>.inl (by simp)) harr⟩
def WL (P:Program) (fx:Fx) (c:Code) (s:St) (Q:Exit→St→Prop):Prop :=
 ∀ m X en ac w,SRel fx m X en s ac w→rok fx m→RA (fen m fx.r) P c (Lift fx m X en w Q) ac w
theorem W_loop {c:Code} (h:WL P fx c s Q):W P fx (.loop c) s Q :=
 fun m X en ac w hs hr=>D6 (h m X en ac w hs hr)
theorem RA.mono {F:Fence} {c:Code} {Q Q':Exit→Act→World→Prop} {a:Act} {w:World} (h:RA F P c Q a w) (hq:∀ e a w,Q e a w→Q' e a w):RA F P c Q' a w :=
 fun b k cs h1 h2 h3=>let ⟨e,a',w',q,r⟩:=h b k cs h1 h2 h3;⟨e,a',w',hq _ _ _ q,r⟩
theorem WL.later {c:Code} {s':St} {m':LM} {w':World} {ac':Act} (h:WL P fx c s' Q) (hr:rok fx m) (hs':SRel fx m' X en s' ac' w') (hst:Step fx.n0 m X w m' w') :
  RA (fen m fx.r) P c (Lift fx m X en w Q) ac' w':=by
 rw[← EQ hr hst]
 exact RA.mono (h m' X en ac' w' hs' (EH hr hst)) fun e ac2 w2 ⟨s2,m2,h1,h2,h3⟩=>⟨s2,m2,h1,h2,hst.trans h3⟩
theorem FG {c:Code} (h:W P fx c s fun e s'=>match e with | .normal=>WL P fx c s' Q | e=>Q e s'):WL P fx c s Q:=by
 intro m X en ac w hs hr
 refine L4 (wpIn_mono (h m X en ac w hs hr) ?_)
 rintro e ac' w' ⟨s',m',hq,hs',hst⟩
 cases e with
 | normal=>exact WL.later hq hr hs' hst
 | _=>exact ⟨s',m',hq,hs',hst⟩
theorem WL.weak {c:Code} {s':St} (hw:Weak fx s s') (h:WL P fx c s' Q):WL P fx c s Q:=by
 intro m X en ac w hs hr
 obtain ⟨m',hs',hst⟩:=hw m X en ac w hs
 exact WL.later h hr hs' hst
theorem WL.mono {c:Code} {Q':Exit→St→Prop} (h:WL P fx c s Q) (hq:∀ e s',Q e s'→Q' e s'):WL P fx c s Q' :=
 fun m X en ac w hs hr=>RA.mono (h m X en ac w hs hr) fun e ac' w' ⟨s',m',h1,h2⟩=>⟨s',m',hq _ _ h1,h2⟩
theorem C5 {id:Nat} {ops:Array Oper} {is:List Ins} (hc:VY P fx.vars fx.N ops=some is) (h:RG P is s.vals [] s.heap fun vals _ σ=>Q .normal ⟨vals,σ⟩):W P fx (.region id ops false) s Q:=by
 intro m X en ac w hs hr
 unfold VY at hc
 split at hc
 ·rename_i hok
  have:=C8 (ro:=fx.r.bind m) (Qc:=Lift fx m X en w Q) hok is 0 m w s.vals [] s.heap _ ac (by rw[← UV];simpa using hc) rfl h hs (fun j t _ _=>by simp[VRel]) ?_
  ·refine wpIn_region ?_
   rw[List.range_eq_range'];exact this
  ·intro m' ac' w' vals ρ σ hK hs' hst
   exact ⟨_,m',hK,hs',hst⟩
 ·cases hc
def resF (vars:List Nat) (vals:List AV) (σ:List AObj) (P:Program):ResultVar→Option AV
 | .tmp t=>(vars.idxOf? t).map fun i=>vals.getD i .undef
 | .cell a t=>(vars.idxOf? a).bind fun i=>(UD P t).bind fun g=>if g then (P.info? t).bind fun ti=>(YF ti.size [vals.getD i .undef] σ).map (·.1) else (KZ [vals.getD i .undef] σ).map (·.1)
def UB (P:Program) (vars:List Nat) (vals:List AV) (σ:List AObj) (rs:List ResultVar):Option AV :=
 match rs with
 | [r]=>resF vars vals σ P r
 | rs=>(rs.mapM (resF vars vals σ P)).map .tup
def Y5 (vars:List Nat) (args:List AV):List AV:=vars.map fun t=>args.getD t .undef
theorem res_one {s:St} {ac:Act} (hs:SRel fx m X en s ac w) {rv:ResultVar} {a:AV} (h:resF fx.vars s.vals s.heap P rv=some a) :
  ∃ v,(match rv with | .tmp t=>pure (ac.tmps.getD t Go.undef) | .cell c t=>do loadVar t (← asAddr (ac.tmps.getD c Go.undef)):Sem Value).run P w=.ok v w∧VRel m X w a v:=by
 cases rv with
 | tmp t =>
  simp only[resF,QA] at h
  obtain ⟨i,hi,rfl⟩:=h
  exact ⟨_,rfl,hs.vars i t (Y9 hi)⟩
 | cell c t =>
  simp only[resF,QB] at h
  obtain ⟨i,hi,g,hg,h⟩:=h
  have hv:=hs.vars i c (Y9 hi)
  cases g with
  | true =>
   simp only[if_true,QB,QA] at h
   obtain ⟨ti,hti,⟨a',σ'⟩,hl,rfl⟩:=h
   obtain ⟨ad,v,he,h1,h2,_⟩:=AI hs.heap hg hti (by simp only[QK];exact ⟨hv,trivial⟩:QK m X w [_] [ac.tmps.getD c Go.undef]) hl
   refine ⟨v,?_,h2⟩
   simp only[he,asAddr,Sem.run_bind,Sem.run_pure,Result.andThen_ok];exact h1
  | false =>
   simp only[QT,if_false,QA] at h
   obtain ⟨⟨a',σ'⟩,hl,rfl⟩:=h
   obtain ⟨ad,v,he,h1,h2,_⟩:=AJ hs.heap hg (by simp only[QK];exact ⟨hv,trivial⟩:QK m X w [_] [ac.tmps.getD c Go.undef]) hl
   refine ⟨v,?_,h2⟩
   simp only[he,asAddr,Sem.run_bind,Sem.run_pure,Result.andThen_ok];exact h1
theorem Qb7 {s:St} {ac:Act} (hs:SRel fx m X en s ac w):∀ {rs:List ResultVar} {as:List AV},rs.mapM (resF fx.vars s.vals s.heap P)=some as →
  ∃ vs:List Value,(rs.mapM fun | .tmp t=>pure (ac.tmps.getD t Go.undef) | .cell c t=>do loadVar t (← asAddr (ac.tmps.getD c Go.undef)):Sem (List Value)).run P w=.ok vs w∧QK m X w as vs
 | [],as,h=>by simp at h;subst h;exact ⟨[],by simp,by simp[QK]⟩
 | rv::rs,as,h=>by
  simp only[WV,Option.bind_eq_bind,QB,Option.pure_def,Option.some.injEq] at h
  obtain ⟨a,ha,as',has,rfl⟩:=h
  obtain ⟨v,h1,h2⟩:=res_one hs ha
  obtain ⟨vs,h3,h4⟩:=Qb7 hs has
  refine ⟨v::vs,?_,by simp only[QK];exact ⟨h2,h4⟩⟩
  simp only[WV,Sem.run_bind]
  rw[h1];simp only[Result.andThen_ok];rw[h3];simp
theorem O1 {s:St} {ac:Act} {fn:Func} {r:AV} (hs:SRel fx m X en s ac w) (h:UB P fx.vars s.vals s.heap fn.results.toList=some r) :
  ∃ v,(results fn ac.tmps).run P w=.ok v w∧VRel m X w r v:=by
 have hm:∀ {as:List AV},fn.results.toList.mapM (resF fx.vars s.vals s.heap P)=some as→∃ vs:List Value,vs.length=fn.results.toList.length∧(results fn ac.tmps).run P w=.ok (if h:vs.length=1 then vs[0] else .tuple vs.toArray) w∧QK m X w as vs:=by
  intro as has
  obtain ⟨vs,h1,h2⟩:=Qb7 hs has
  have hl:vs.length=fn.results.toList.length:=by
   rw[← h2.length]
   have:∀ (l:List ResultVar) (bs:List AV),l.mapM (resF fx.vars s.vals s.heap P)=some bs→bs.length=l.length:=by
    intro l
    induction l with
    | nil=>intro bs h;simp at h;subst h;rfl
    | cons x l ih =>
     intro bs h
     simp only[WV,Option.bind_eq_bind,QB,Option.pure_def,Option.some.injEq] at h
     obtain ⟨_,_,bs',hbs,rfl⟩:=h
     simp[ih _ hbs]
   exact this _ _ has
  refine ⟨vs,hl,?_,h2⟩
  unfold results
  rw[Array.mapM_eq_mapM_toList]
  simp only[Sem.run_bind,Sem.run_map]
  erw [h1]
  simp
 unfold UB at h
 split at h
 ·rename_i rv hrv
  obtain ⟨vs,hl,h1,h2⟩:=hm (as:=[r]) (by rw[hrv];simp[h])
  rw[hrv] at hl
  match vs,hl,h1,h2 with
  | [v],_,h1,h2=>exact ⟨v,by simpa using h1,by simp only[QK] at h2;exact h2.1⟩
 ·rename_i rs hrs
  simp only[QA] at h
  obtain ⟨as,has,rfl⟩:=h
  obtain ⟨vs,hl,h1,h2⟩:=hm has
  refine ⟨.tuple vs.toArray,?_,by simp only[VRel];exact ⟨vs,rfl,h2⟩⟩
  have:vs.length≠1:=by
   intro h1l
   rw[hl] at h1l
   match hq:fn.results.toList,h1l with
   | [rv],_=>exact hrs rv hq
  rw[h1,dif_neg this]
structure HA (w w':World) (e:Nat):Prop where
 size:w'.heap.size=w.heap.size
 old:∀ b:Nat,b<e→w'.heap[b]? = w.heap[b]?
 same:∀ (b:Nat) (o:Obj),w.heap[b]? = some o→(∀ d,o≠.deferred d)→w'.heap[b]? = some o
 os:w'.os=w.os
 tape:w'.tape=w.tape
 output:w'.output=w.output
 drawn:w.drawn≤w'.drawn
theorem HA.refl (w:World) (e:Nat):HA w w e:=⟨rfl,fun _ _=>rfl,fun _ _ h _=>h,rfl,rfl,rfl,QG _⟩
theorem HA.put {w w1:World} {e b:Nat} {d:Option (List Deferred)} (h:HA w w1 e) (hb:e≤b) (hw:w1.heap[b]? = some (.deferred d)) (d':Option (List Deferred)):HA w (w1.putObj b (.deferred d')) e where
 size:=by simp[h.size]
 old k hk:=by rw[World.putObj_heap_other (by omega)];exact h.old k hk
 same k o hk hd:=by
  have:=h.same k o hk hd
  have hne:k≠b:=by
   rintro rfl;rw[hw] at this;cases this;exact hd d rfl
  rw[World.putObj_heap_other hne];exact this
 os:=h.os
 tape:=h.tape
 output:=h.output
 drawn:=h.drawn
theorem HA.mono {w w':World} {e:Nat} (h:HA w w' e):Mono m X w m X w' where
 sub _ _ hl:=hl
 cl b hb hc:=by
  obtain ⟨c,ty,fr,hc⟩:=hc
  exact ⟨by rw[h.same b _ hc (by simp),hc],hb⟩
 shp b c e hb:=⟨c,h.same b _ hb (by simp),rfl⟩
theorem HRel.taken {σ:List AObj} {w':World} {e:Nat} (hh:HRel m X σ w) (h:HA w w' e):HRel m X σ w':=by
 refine ⟨fun b hb=>by rw[h.size];exact hh.xb b hb,fun l b hl=>by rw[h.size];exact hh.dom l b hl,hh.own,hh.inj,fun l o ho=>?_,hh.gl.mono h.mono⟩
 have:=hh.obj l o ho
 cases hml:m l with
 | none=>rw[hml] at this;cases o <;> simp[ORel] at this ⊢
 | some b =>
  rw[hml] at this
  cases o with
  | dead=>trivial
  | cells cs =>
   have h2:=this;simp only[ORel] at h2;obtain ⟨c,ty,hb,_⟩:=h2
   exact ORel.mono h.mono (by rw[hb];exact h.same b _ hb (by simp)) this
  | map es =>
   have h2:=this;simp only[ORel] at h2;obtain ⟨c,ty,hb,_⟩:=h2
   exact ORel.mono h.mono (by rw[hb];exact h.same b _ hb (by simp)) this
  | siter s0 p =>
   have h2:=this;simp only[ORel] at h2
   exact ORel.mono h.mono (by rw[h2];exact h.same b _ h2 (by simp)) this
  | loop r =>
   have h2:=this;simp only[ORel] at h2;obtain ⟨_,_,_,_,_,hb,_⟩:=h2
   exact ORel.mono h.mono (by rw[hb];exact h.same b _ hb (by simp)) this
theorem Step.taken {n0:Nat} {m':LM} {w' w'':World} {e:Nat} (hs:Step n0 m X w m' w') (h:HA w' w'' e) (he:w.heap.size≤e):Step n0 m X w m' w'' where
 keep:=hs.keep
 new:=hs.new
 size:=by rw[h.size];exact hs.size
 fr b hb hno:=by rw[h.old b (by omega)];exact hs.fr b hb hno
 shp b c ty hb:=by
  obtain ⟨c',h1,h2⟩:=hs.shp b c ty hb
  exact ⟨c',h.same b _ h1 (by simp),h2⟩
 os:=h.os.trans hs.os
 tape:=h.tape.trans hs.tape
 output:=h.output.trans hs.output
 drawn o:=YR (hs.drawn o) h.drawn
theorem G1 {fn:Func} {tmps:Array Value} {R:Ending→World→Prop} {e:Nat} {w:World}:∀ (bs:List Nat) (w1:World),HA w w1 e→bs.Nodup→(∀ b∈bs,e≤b∧w1.heap[b]? = some (.deferred (some []))) →
  (∀ w2,HA w w2 e→∃ v,(results fn tmps).run P w2=.ok v w2∧R (.returned v) w2)→LeavesInM Fence.wide 0 P fn tmps R (bs.map fun b=>{ target:=.collected b,args:=#[] }) .returning w1
 | [],w1,ht,_,_,h=>by
  obtain ⟨v,h1,h2⟩:=h w1 ht
  simp only[WS,LeavesInM,LeavesIn]
  exact ⟨v,h1,h2⟩
 | b::bs,w1,ht,hnd,hall,h=>by
  simp only[Q0,LeavesInM]
  obtain ⟨hb1,hb2⟩:=hall b (by simp)
  refine ⟨by simp,.inl ⟨b,w1.putObj b (.deferred none),rfl,run_takeDeferred hb2,?_⟩⟩
  refine G1 bs _ (ht.put hb1 hb2 none) (WQ.1 hnd).2 ?_ h
  intro b' hb'
  have hne:b'≠b:=by rintro rfl;exact (WQ.1 hnd).1 hb'
  refine ⟨(hall b' (by simp[hb'])).1,?_⟩
  rw[World.putObj_heap_other hne];exact (hall b' (by simp[hb'])).2
theorem IB {f:FuncId} {fn:Func} {c:Code} {args:List AV} {σ:List AObj} {vars:List Nat} {Q:AV→List AObj→Prop} (hf:P.funcs[f]? = some fn) (hb:fn.body=some c) (hen:PI P f) (hargs:args.length≤fn.ntmps)
  (h:W P ⟨vars,fn.ntmps,none,σ.length⟩ c ⟨Y5 vars args,σ⟩ fun e s'=>match e with
   | .normal | .ret=>∃ r,UB P vars s'.vals s'.heap fn.results.toList=some r∧Q r s'.heap
   | _=>False):AC P f args σ Q:=by
 refine ⟨hen,fun m X w cargs ha hh=>?_⟩
 refine callsIn_of_wp_marks hf hb trivial ?_
 have hlen:=ha.length
 have hs0:SRel ⟨vars,fn.ntmps,none,σ.length⟩ m X ⟨w.heap.size,[]⟩ ⟨Y5 vars args,σ⟩ { tmps:=cargs.toArray++Array.replicate (fn.ntmps-cargs.toArray.size) Go.undef,defers:=[] } w:=by
  refine ⟨by simp;omega,?_,⟨[],rfl,YU,by simp⟩,hh,QG _,QG _⟩
  intro i t hi
  have e1:(Y5 vars args).getD i .undef=args.getD t .undef:=by
   simp only[Y5,List.getD,ZR]
   rw[show vars[i]? = some t from hi];rfl
  rw[e1]
  rw[QV]
  by_cases ht:t<cargs.length
  ·have e2:(cargs.toArray++Array.replicate (fn.ntmps-cargs.toArray.size) Go.undef)[t]? = some cargs[t]:=by
    rw[JF (by simpa using ht)];simp[ht]
   rw[e2]
   have:=ha.getD t Go.undef
   simpa[List.getD,ht] using this
  ·have:args.getD t .undef=.undef:=by simp[List.getD,QN (show args.length≤t by omega)]
   rw[this];simp[VRel]
 have key:=h m X ⟨w.heap.size,[]⟩ _ w hs0 (by intro l hl;cases hl)
 refine wpIn_mono key ?_
 rintro e ac' w' ⟨s',m',hq,hs',hst⟩
 have fin:(∃ r,UB P vars s'.vals s'.heap fn.results.toList=some r∧Q r s'.heap)→LeavesInM Fence.wide 0 P fn ac'.tmps (OT m X w σ Q) ac'.defers .returning w':=by
  rintro ⟨r,hr,hQ⟩
  obtain ⟨bs,hbs,hnd,hall⟩:=hs'.defs
  rw[hbs,ZU]
  refine G1 (e:=w.heap.size) (w:=w') bs w' (HA.refl _ _) hnd (fun b hb=>⟨(hall b hb).1,(hall b hb).2.2.1⟩) ?_
  intro w2 ht
  have hh2:=hs'.heap.taken ht
  have hs2:SRel ⟨vars,fn.ntmps,none,σ.length⟩ m' X ⟨0,[]⟩ s' { ac' with defers:=[] } w2 :=
   ⟨hs'.size,hs'.vars.mono ht.mono,⟨[],rfl,YU,by simp⟩,hh2,hs'.base,QF _⟩
  obtain ⟨v,h1,h2⟩:=O1 (fx:=⟨vars,fn.ntmps,none,σ.length⟩) (fn:=fn) hs2 hr
  exact ⟨v,h1,v,r,s'.heap,m',rfl,hQ,h2,hh2,hst.taken ht (QG _),hs'.base⟩
 cases e with
 | normal=>exact fin hq
 | ret=>exact fin hq
 | exit i=>exact hq.elim
 | goto l=>exact hq.elim
 | panic ch=>exact hq.elim
 | outgrown=>exact hq.elim
mutual
def QR (k:Nat):AV→Bool
 | .cv _=>true
 | .ptr l _=>decide (l<k)
 | .sl l _ _ _=>decide (l<k)
 | .map l=>decide (l<k)
 | .fn _ cs=>QO k cs
 | .bm _ cs=>QO k cs
 | .yld l=>decide (l<k)
 | .agg cs=>QO k cs
 | .tup cs=>QO k cs
 | .undef=>true
 | .slc l _ _ _ _=>decide (l<k)
def QO (k:Nat):List AV→Bool
 | []=>true
 | a::as=>QR k a&&QO k as
end
def Z3 (k:Nat):AObj→Bool
 | .dead=>true
 | .cells cs=>QO k cs
 | .map es=>es.all fun e=>QR k e.1&&QR k e.2
 | .siter _ _=>true
 | .loop r=>QO k r.vals
def LM.upto (m:LM) (k:Nat):LM:=fun l=>if l<k then m l else none
theorem B5 {k b:Nat} (h:Own (m.upto k) X b):Own m X b:=by
 rcases h with h | ⟨l,hl⟩
 ·exact .inl h
 ·unfold LM.upto at hl;split at hl
  ·exact .inr ⟨l,hl⟩
  ·cases hl
mutual
theorem VRel.upto {k:Nat}:∀ (a:AV) (v:Value),QR k a=true→VRel m X w a v→VRel (m.upto k) X w a v
 | .cv c,v,_,h=>by simp only[VRel] at h ⊢;exact CV.rep_mono (fun b hb _=>⟨rfl,fun ho=>hb (B5 ho)⟩) c v h
 | .ptr l off,v,hk,h=>by simp only[VRel,QR,decide_eq_true_eq] at h hk ⊢;obtain ⟨b,h1,h2⟩:=h;exact ⟨b,by simp[LM.upto,hk,h1],h2⟩
 | .sl l off len esz,v,hk,h=>by simp only[VRel,QR,decide_eq_true_eq] at h hk ⊢;obtain ⟨b,cap,h1,h2⟩:=h;exact ⟨b,cap,by simp[LM.upto,hk,h1],h2⟩
 | .map l,v,hk,h=>by simp only[VRel,QR,decide_eq_true_eq] at h hk ⊢;obtain ⟨b,h1,h2⟩:=h;exact ⟨b,by simp[LM.upto,hk,h1],h2⟩
 | .fn f cs,v,hk,h=>by simp only[VRel,QR] at h hk ⊢;obtain ⟨vs,h1,h2⟩:=h;exact ⟨vs,h1,QK.upto cs vs hk h2⟩
 | .bm f cs,v,hk,h=>by simp only[VRel,QR] at h hk ⊢;obtain ⟨vs,h1,h2⟩:=h;exact ⟨vs,h1,QK.upto cs vs hk h2⟩
 | .yld l,v,hk,h=>by simp only[VRel,QR,decide_eq_true_eq] at h hk ⊢;obtain ⟨b,h1,h2⟩:=h;exact ⟨b,by simp[LM.upto,hk,h1],h2⟩
 | .agg cs,v,hk,h=>by simp only[VRel,QR] at h hk ⊢;obtain ⟨vs,h1,h2⟩:=h;exact ⟨vs,h1,QK.upto cs vs hk h2⟩
 | .tup cs,v,hk,h=>by simp only[VRel,QR] at h hk ⊢;obtain ⟨vs,h1,h2⟩:=h;exact ⟨vs,h1,QK.upto cs vs hk h2⟩
 | .undef,v,_,_=>by simp[VRel]
 | .slc l off len cap esz,v,hk,h=>by simp only[VRel,QR,decide_eq_true_eq] at h hk ⊢;obtain ⟨b,h1,h2⟩:=h;exact ⟨b,by simp[LM.upto,hk,h1],h2⟩
theorem QK.upto {k:Nat}:∀ (as:List AV) (vs:List Value),QO k as=true→QK m X w as vs→QK (m.upto k) X w as vs
 | [],[],_,_=>by simp[QK]
 | a::as,v::vs,hk,h=>by simp only[QK,QO,QD] at h hk ⊢;exact ⟨VRel.upto a v hk.1 h.1,QK.upto as vs hk.2 h.2⟩
 | [],_::_,_,h=>by simp[QK] at h
 | _::_,[],_,h=>by simp[QK] at h
end
theorem XO {k:Nat}:∀ {as:List AV},QO k as=true→∀ i,QR k (as.getD i .undef)=true
 | [],_,i=>by simp[List.getD,QR]
 | a::as,h,0=>by simp only[QO,QD] at h;simpa[List.getD] using h.1
 | a::as,h,i+1=>by simp only[QO,QD] at h;simpa[List.getD] using XO h.2 i
def sub1:AV→AV→Prop:=fun a b=>b=a∨b=.undef
theorem Weak.drop {vals':List AV} {k:Nat} (hv:∀ i,sub1 (s.vals.getD i .undef) (vals'.getD i .undef)) (hk:fx.n0≤k) (hl:QO k vals'=true) (ho:∀ o∈s.heap.take k,Z3 k o=true) (hkl:k≤s.heap.length):Weak fx s ⟨vals',s.heap.take k⟩:=by
 intro m X en ac w hs
 refine ⟨m.upto k,⟨hs.size,?_,?_,?_,?_,hs.entry⟩,?_⟩
 ·intro i t hi
  have hrel:=hs.vars i t hi
  rcases hv i with h1 | h1
  ·rw[h1];rw[← h1]
   have:=XO hl i
   rw[h1] at this ⊢
   exact VRel.upto _ _ this hrel
  ·rw[h1];simp[VRel]
 ·obtain ⟨bs,h1,h2,h3⟩:=hs.defs
  refine ⟨bs,h1,h2,fun b hb=>?_⟩
  obtain ⟨g1,g2,g3,g4⟩:=h3 b hb
  exact ⟨g1,g2,g3,fun ho=>g4 (B5 ho)⟩
 ·have hh:=hs.heap
  refine ⟨hh.xb,?_,?_,?_,?_,hh.gl.less fun b hb=>B5 hb⟩
  ·intro l b hb
   unfold LM.upto at hb
   split at hb
   ·rename_i hlk
    have:=hh.dom l b hb
    exact ⟨by simp;omega,this.2⟩
   ·cases hb
  ·intro l b o hb ho1 hv
   unfold LM.upto at hb
   split at hb
   ·rename_i hlk
    rw[Z7,if_pos hlk] at ho1
    exact hh.own l b o hb ho1 hv
   ·cases hb
  ·intro l l' b o' h1 h2 ho2 hv2
   unfold LM.upto at h1 h2
   split at h1
   ·split at h2
    ·rw[Z7,if_pos (by assumption)] at ho2
     exact hh.inj l l' b o' h1 h2 ho2 hv2
    ·cases h2
   ·cases h1
  ·intro l o hlo
   have hin:=ho o (QZ hlo)
   rw[Z7] at hlo
   split at hlo
   ·rename_i hlk
    have hr:=hh.obj l o hlo
    have hml:m.upto k l=m l:=by simp[LM.upto,hlk]
    rw[hml]
    cases hm:m l with
    | none=>rw[hm] at hr;cases o <;> simp[ORel] at hr ⊢
    | some b =>
     rw[hm] at hr
     cases o with
     | dead=>trivial
     | cells cs =>
      simp only[ORel,Z3] at hr hin ⊢
      obtain ⟨c,e,h1,h2,h3⟩:=hr
      exact ⟨c,e,h1,h2,QK.upto _ _ hin h3⟩
     | map es =>
      simp only[ORel,Z3] at hr hin ⊢
      obtain ⟨ces,clock,h1,h2,h3,h4,h5⟩:=hr
      refine ⟨ces,clock,h1,h2,h3,h4,fun i kk a hi=>?_⟩
      obtain ⟨e,he,g1,g2⟩:=h5 i kk a hi
      rw[Q1] at hin
      have:=hin _ (QZ hi)
      simp only[QD] at this
      exact ⟨e,he,VRel.upto _ _ this.1 g1,VRel.upto _ _ this.2 g2⟩
     | siter s0 p=>exact hr
     | loop r =>
      simp only[ORel,Z3] at hr hin ⊢
      obtain ⟨tmps,d,fi,h1,h2,h3⟩:=hr
      exact ⟨tmps,d,fi,h1,fun i t hi=>VRel.upto _ _ (XO hin i) (h2 i t hi),h3⟩
   ·cases hlo
 ·simp;have:=hs.base;omega
 ·refine ⟨fun l hl=>by simp[LM.upto];omega,fun l b hb=>?_,QG _,fun _ _ _=>rfl,fun b c e h=>⟨c,h,rfl⟩,rfl,rfl,rfl,fun _=>QG _⟩
  unfold LM.upto at hb;split at hb
  ·exact .inl ⟨l,hb⟩
  ·cases hb
end Go.Proofs.YtgkidpolomhghaaGreatDoor.AM
namespace Go.Proofs.YtgkidpolomhghaaGreatDoor.AM
variable [Dr]
open Go
variable {P:Program} {fx:Fx} {m:LM} {X:Nat→Prop} {en:En} {w:World}
inductive C7 (dir:Nat→List Nat) (n:Nat):List Nat→List Nat→Prop
 | nil {D:List Nat}:(∀ i,i<n→i∈D)→C7 dir n D []
 | cons {D:List Nat} {i:Nat} {l:List Nat}:i<n→i∉D→(∀ e∈dir i,e∈D)→C7 dir n (i::D) l→C7 dir n D (i::l)
def V9 (ops:Array Oper) (i:Nat):List Nat :=
 match ops[i]? with
 | some o=>(o.after.toList.filter (Region.binds .any)).map (·.on)
 | none=>[]
theorem QaB {ops:Array Oper} {i:Nat} {o:Oper} (h:ops[i]? = some o) (listed:Array Bool) :
  (o.after.all fun e=>!Region.binds .any e||listed.getD e.on false)=true↔∀ e∈V9 ops i,listed.getD e false=true:=by
 simp only[V9,h,Array.all_eq_true',ZP,YB]
 constructor
 ·rintro hall e ⟨x,⟨hx,hb⟩,rfl⟩
  have:=hall x (by simpa using hx)
  simpa[hb] using this
 ·intro hall x hx
  by_cases hb:Region.binds .any x=true
  ·have:=hall x.on ⟨x,⟨by simpa using hx,hb⟩,rfl⟩
   simp[this]
  ·simp[hb]
theorem NG {α:Type} (p q:α→Bool) (l:List α) (h:∀ x,q x=true→p x=true) (a:α) (ha:a∈l) (hp:p a=true) (hq:q a=false):(l.filter q).length<(l.filter p).length:=by
 induction l with
 | nil=>simp at ha
 | cons x l ih =>
  have hle:(l.filter q).length≤(l.filter p).length:=by
   clear ih ha
   induction l with
   | nil=>simp
   | cons y l ih =>
    simp only[XK]
    by_cases hy:q y=true
    ·simp[hy,h y hy,ih]
    ·simp only[hy,if_false,QT]
     split <;> (try simp only[List.length_cons]) <;> omega
  simp only[XK]
  rcases ZD.1 ha with rfl | ha'
  ·simp[hp,hq];omega
  ·have:=ih ha'
   by_cases hx:q x=true
   ·simp[hx,h x hx];omega
   ·rw[if_neg hx]
    split <;> (try simp only[List.length_cons]) <;> omega
theorem Qb3 {ops:Array Oper} (hback:∀ i,i<ops.size→∀ e∈V9 ops i,e<i):∀ (fuel t:Nat) (listed:Array Bool) (acc D:List Nat),listed.size=ops.size →
  (∀ i,i<ops.size→(listed.getD i false=true↔i∈D))→((List.range ops.size).filter fun i=>!listed.getD i false).length≤fuel →
  ∃ l,Region.linearise.go .any ops fuel t listed acc=acc.reverse++l∧C7 (V9 ops) ops.size D l
 | 0,t,listed,acc,D,hsz,hl,hf=>by
  refine ⟨[],by simp[Region.linearise.go],.nil fun i hi=>?_⟩
  rw[← hl i hi]
  have h0:((List.range ops.size).filter fun i=>!listed.getD i false)=[]:=ZT (by omega)
  rw[List.filter_eq_nil_iff] at h0
  have:=h0 i (by simpa using hi)
  simpa using this
 | fuel + 1,t,listed,acc,D,hsz,hl,hf=>by
  simp only[Region.linearise.go]
  generalize hrs:((List.range ops.size).filter fun i=>!listed.getD i true&&((ops[i]?).map (fun o:Oper=>o.after.all fun e=>!Region.binds .any e||listed.getD e.on false)).getD false)=rs
  have hmem:∀ i,i∈rs↔i<ops.size∧i∉D∧∀ e∈V9 ops i,e∈D:=by
   intro i
   rw[← hrs]
   simp only[YB,ZI,QD,Z0]
   constructor
   ·rintro ⟨hi,h1,h2⟩
    have hio:ops[i]? = some ops[i]:=Q7 hi
    have e1:listed.getD i false=listed.getD i true:=by simp[QV,Q7 (show i<listed.size by omega)]
    rw[hio] at h2
    simp only[Option.map_some,Option.getD_some] at h2
    rw[QaB hio] at h2
    refine ⟨hi,fun hD=>?_,fun e he=>(hl e (Nat.lt_trans (hback i hi e he) hi)).1 (h2 e he)⟩
    have:=(hl i hi).2 hD;rw[e1,h1] at this;cases this
   ·rintro ⟨hi,h1,h2⟩
    have hio:ops[i]? = some ops[i]:=Q7 hi
    have e1:listed.getD i false=listed.getD i true:=by simp[QV,Q7 (show i<listed.size by omega)]
    refine ⟨hi,?_,?_⟩
    ·rw[← e1]
     cases hq:listed.getD i false with
     | false=>rfl
     | true=>exact absurd ((hl i hi).1 hq) h1
    ·rw[hio];simp only[Option.map_some,Option.getD_some]
     rw[QaB hio]
     exact fun e he=>(hl e (Nat.lt_trans (hback i hi e he) hi)).2 (h2 e he)
  by_cases hall:∀ i,i<ops.size→i∈D
  ·have:rs=[]:=by
    apply List.eq_nil_iff_forall_not_mem.2
    intro i hi
    have:=(hmem i).1 hi
    exact this.2.1 (hall i this.1)
   rw[this]
   exact ⟨[],by simp,.nil hall⟩
  · -- THE FIRST ONE THAT IS LEFT
   have hne:rs≠[]:=by
    intro hnil
    apply hall
    intro i
    induction i using Nat.strongRecOn with
    | _ i ih =>
     intro hi
     by_cases hD:i∈D
     ·exact hD
     ·exfalso
      have:i∈rs:=(hmem i).2 ⟨hi,hD,fun e he=>ih e (hback i hi e he) (Nat.lt_trans (hback i hi e he) hi)⟩
      rw[hnil] at this;simp at this
   have hlen:0<rs.length:=List.length_pos_iff.2 hne
   have hidx:t % rs.length<rs.length:=Nat.mod_lt _ hlen
   rw[QI hidx]
   have hin:rs[t % rs.length]∈rs:=Q2 hidx
   generalize rs[t % rs.length]=i at hin ⊢
   obtain ⟨hi,hiD,hdir⟩:=(hmem i).1 hin
   obtain ⟨l,h1,h2⟩:=Qb3 hback fuel (t / rs.length) (listed.setIfInBounds i true) (i::acc) (i::D) (by simp[hsz]) (by
    intro j hj
    by_cases hji:j=i
    ·subst hji;simp[QV,hsz,hj]
    ·have:(listed.setIfInBounds i true).getD j false=listed.getD j false:=by
      simp only[QV];rw[W2 (fun h=>hji h.symm)]
     rw[this,hl j hj];simp[hji]) (by
    have:((List.range ops.size).filter fun j=>!(listed.setIfInBounds i true).getD j false).length<((List.range ops.size).filter fun j=>!listed.getD j false).length:=by
     refine NG _ _ _ ?_ i (by simpa using hi) ?_ ?_
     ·intro j hj
      by_cases hji:j=i
      ·subst hji;simp[QV,hsz,hi] at hj
      ·have:(listed.setIfInBounds i true).getD j false=listed.getD j false:=by
        simp only[QV];rw[W2 (fun h=>hji h.symm)]
       rwa [this] at hj
     ·cases hq:listed.getD i false with
      | false=>rfl
      | true=>exact absurd ((hl i hi).1 hq) hiD
     ·simp[QV,hsz,hi]
    omega)
   exact ⟨i::l,by simp[h1],.cons hi hiD hdir h2⟩
theorem FR {ops:Array Oper} (hback:∀ i,i<ops.size→∀ e∈V9 ops i,e<i) (t:Nat):C7 (V9 ops) ops.size [] (Region.linearise .any ops t):=by
 obtain ⟨l,h1,h2⟩:=Qb3 hback ops.size t (Array.replicate ops.size false) [] [] (by simp) (by
  intro i hi;simp[QV,hi]) (by
  refine YR (HC _ _) (by simp))
 unfold Region.linearise
 rw[h1];simpa using h2
end Go.Proofs.YtgkidpolomhghaaGreatDoor.AM
namespace Go.Proofs.YtgkidpolomhghaaGreatDoor.AM
set_option linter.unusedSectionVars false
variable [Dr]
open Go
set_option linter.unusedVariables false
set_option linter.unusedSimpArgs false
def lastOf (p:Nat→Bool):Nat→Option Nat
 | 0=>none
 | k+1=>if p k then some k else lastOf p k
theorem JN {p q:Nat→Bool}:∀ {n:Nat},(∀ k,k<n→p k=q k)→lastOf p n=lastOf q n
 | 0,_=>rfl
 | n+1,h=>by simp only[lastOf,h n (by omega),JN (n:=n) fun k hk=>h k (by omega)]
theorem F1 {p:Nat→Bool} {j:Nat}:∀ {n:Nat},j≤n→(∀ k,j≤k→k<n→p k=false)→lastOf p n=lastOf p j
 | 0, h, _ => by have:j=0:=by omega
                 subst this;rfl
 | n+1,h,hf=>by
  by_cases hj:j=n+1
  ·subst hj;rfl
  ·simp only[lastOf,hf n (by omega) (by omega),QT,if_false]
   exact F1 (by omega) fun k h1 h2=>hf k h1 (by omega)
theorem E8 {p:Nat→Bool} {j n:Nat} (hj:j<n) (hp:p j=true) (hf:∀ k,j<k→k<n→p k=false):lastOf p n=some j:=by
 rw[F1 (j:=j+1) (by omega) fun k h1 h2=>hf k (by omega) h2]
 simp[lastOf,hp]
def VU (f:Nat→Bool) (σ:List AObj):List AObj:=σ.mapIdx fun l o=>if f l then .dead else o
theorem J6 (f:Nat→Bool) (σ:List AObj) (l:Nat):(VU f σ)[l]? = (σ[l]?).map fun o=>if f l then .dead else o:=by
 simp[VU,List.getElem?_mapIdx]
theorem YA (f:Nat→Bool) (σ:List AObj):(VU f σ).length=σ.length:=by simp[VU]
structure Free (P:Program) (fx:Fx) (ops:Array Oper) (is:List Ins) (V:Nat→List AV) (r:Nat→AV) (S:Nat→List AObj) (pd:Nat→List Nat) (ch hd:Nat→Nat→Bool):Prop where
 back:∀ i,i<ops.size→∀ e∈V9 ops i,e<i
 pdlt:∀ j,j<ops.size→∀ k∈pd j,k<j
 pddir:∀ j,j<ops.size→∀ k∈pd j,k∈V9 ops j∨∃ e∈V9 ops j,k∈pd e
 V0:(V 0).length=fx.vars.length
 Vs:∀ j i,is[j]? = some i→V (j+1)=setD i.dst (V j) (r j)
 le:∀ j,j<ops.size→(S j).length≤(S (j+1)).length
 nch:∀ j,j<ops.size→∀ l,ch j l=false→(S (j+1))[l]? = (S j)[l]?
 chl:∀ j,j<ops.size→∀ l,ch j l=true→l<(S (j+1)).length
 un:∀ j k,j<ops.size→k<ops.size→k≠j→k∉pd j→j∉pd k→∀ l,ch k l=true→hd j l=true
 mine:∀ j,j<ops.size→∀ l,ch j l=true→hd j l=false
 made:∀ j,j<ops.size→∀ l o,(S j).length≤l→(S (j+1))[l]? = some o→o.live
 rl:∀ j,j<ops.size→QR (S (j+1)).length (r j)=true
 cl:∀ j,j<ops.size→∀ l o,ch j l=true→(S (j+1))[l]? = some o→Z3 (S (j+1)).length o=true
 rds:∀ j i,is[j]? = some i→∀ k,.t k∈i.args→k∈pd j
 gds:∀ j i k b,is[j]? = some i→i.gd=some (k,b)→k∈pd j
 vrs:∀ j k i i' x,is[j]? = some i→is[k]? = some i'→j≠k→i'.dst=some x→(.v x∈i.args∨i.dst=some x)→k∈pd j∨j∈pd k
 op:∀ j i,is[j]? = some i→match gdOk ((List.range j).map r) i.gd with
  | none=>False
  | some false=>r j=.tup []∧S (j+1)=S j
  | some true=>match i.op,i.args.map (WY (V j) ((List.range j).map r)) with
   | .prim io,as=>ZQ io as (VU (hd j) (S j))=some (r j,VU (hd j) (S (j+1)))
   | .call,fv::as=>X0 P fv as (VU (hd j) (S j)) fun v σ'=>v=r j∧σ'=VU (hd j) (S (j+1))
   | .call,[]=>False
variable {P:Program} {fx:Fx} {ops:Array Oper} {is:List Ins} {V:Nat→List AV} {r:Nat→AV} {S:Nat→List AObj} {pd:Nat→List Nat} {ch hd:Nat→Nat→Bool}
def dstI (is:List Ins) (k i:Nat):Bool:=((is[k]?).bind (·.dst)) == some i
def vAt (is:List Ins) (r:Nat→AV) (v0:List AV) (n:Nat) (p:Nat→Bool) (i:Nat):AV :=
 match lastOf (fun k=>p k&&dstI is k i) n with
 | some k=>r k
 | none=>v0.getD i .undef
def oAt (S:Nat→List AObj) (ch:Nat→Nat→Bool) (n:Nat) (p:Nat→Bool) (l:Nat):Option AObj :=
 match lastOf (fun k=>p k&&ch k l) n with
 | some k=>(S (k+1))[l]?
 | none=>(S 0)[l]?
def hAt (S:Nat→List AObj) (ch:Nat→Nat→Bool) (n:Nat) (p:Nat→Bool):List AObj :=
 (List.range (S n).length).map fun l=>(oAt S ch n p l).getD .dead
theorem LH {n:Nat} {p:Nat→Bool} {l:Nat} (hl:l<(S n).length):(hAt S ch n p)[l]? = some ((oAt S ch n p l).getD .dead):=by
 simp[hAt,hl]
theorem Free.size (h:Free P fx ops is V r S pd ch hd) (hc:HK P fx.vars (ops.toList.map (·.dst)) ops.toList=some is):is.length=ops.size∧∀ (j:Nat) o,ops[j]? = some o→∃ i,is[j]? = some i∧JP P fx.vars (ops.toList.map (·.dst)) o=some i:=by
 rw[UV] at hc
 have key:∀ (l:List Oper) (is:List Ins),l.mapM (JP P fx.vars (ops.toList.map (·.dst)))=some is→is.length=l.length∧∀ (j:Nat) o,l[j]? = some o→∃ i,is[j]? = some i∧JP P fx.vars (ops.toList.map (·.dst)) o=some i:=by
  intro l
  induction l with
  | nil=>intro is h;simp at h;subst h;simp
  | cons x l ih =>
   intro is h
   simp only[WV,Option.bind_eq_bind,QB,Option.pure_def,Option.some.injEq] at h
   obtain ⟨i,hi,is',his,rfl⟩:=h
   obtain ⟨h1,h2⟩:=ih _ his
   refine ⟨by simp[h1],fun j o hj=>?_⟩
   cases j with
   | zero=>simp at hj;subst hj;exact ⟨i,by simp,hi⟩
   | succ j=>simp at hj;simpa using h2 j o hj
 obtain ⟨h1,h2⟩:=key _ _ hc
 exact ⟨by simpa using h1,fun j o hj=>h2 j o (by simpa using hj)⟩
theorem Free.V_at (h:Free P fx ops is V r S pd ch hd) (hlen:is.length=ops.size):∀ j,j≤ops.size→(V j).length=fx.vars.length∧∀ i,i<fx.vars.length→(V j).getD i .undef=vAt is r (V 0) ops.size (fun k=>decide (k<j)) i
 | 0,_=>by
  refine ⟨h.V0,fun i hi=>?_⟩
  have:lastOf (fun k=>decide (k<0)&&dstI is k i) ops.size=none:=by
   rw[F1 (j:=0) (QF _) (by intro k _ _;simp)];rfl
  simp only[vAt,this]
 | j + 1,hj=>by
  obtain ⟨h1,h2⟩:=Free.V_at h hlen j (by omega)
  have hij:is[j]? = some is[j]:=QI (by omega)
  rw[h.Vs j _ hij]
  constructor
  ·unfold setD;split <;> simp[h1]
  ·intro i hi
   by_cases hd:is[j].dst=some i
   ·have e1:lastOf (fun k=>decide (k<j+1)&&dstI is k i) ops.size=some j:=by
     refine E8 (by omega) (by simp[dstI,hij,hd]) fun k hk _=>by simp;omega
    simp only[vAt,e1,hd,setD]
    simp[List.getD,h1,hi]
   ·have e1:lastOf (fun k=>decide (k<j+1)&&dstI is k i) ops.size=lastOf (fun k=>decide (k<j)&&dstI is k i) ops.size:=by
     refine JN fun k hk=>?_
     by_cases hkj:k=j
     ·subst hkj;simp[dstI,hij,hd]
     ·have:decide (k<j+1)=decide (k<j):=by simp;omega
      simp[this]
    have e2:=h2 i hi
    simp only[vAt] at e2 ⊢
    rw[e1,← e2]
    unfold setD
    split
    ·rename_i x hx
     have:x≠i:=by rintro rfl;exact hd hx
     simp only[List.getD];rw[QU this]
    ·rfl
theorem Free.S_at (h:Free P fx ops is V r S pd ch hd):∀ j,j≤ops.size→∀ l,(S j)[l]? = oAt S ch ops.size (fun k=>decide (k<j)) l
 | 0,_,l=>by
  have:lastOf (fun k=>decide (k<0)&&ch k l) ops.size=none:=by
   rw[F1 (j:=0) (QF _) (by intro k _ _;simp)];rfl
  simp only[oAt,this]
 | j + 1,hj,l=>by
  cases hc:ch j l with
  | true =>
   have e1:lastOf (fun k=>decide (k<j+1)&&ch k l) ops.size=some j :=
    E8 (by omega) (by simp[hc]) fun k hk _=>by simp;omega
   simp[oAt,e1]
  | false =>
   have e1:lastOf (fun k=>decide (k<j+1)&&ch k l) ops.size=lastOf (fun k=>decide (k<j)&&ch k l) ops.size:=by
    refine JN fun k hk=>?_
    by_cases hkj:k=j
    ·subst hkj;simp[hc]
    ·have:decide (k<j+1)=decide (k<j):=by simp;omega
     simp[this]
   have e2:=Free.S_at h j (by omega) l
   simp only[oAt] at e2 ⊢
   rw[e1,← e2];exact h.nch j (by omega) l hc
theorem Free.le' (h:Free P fx ops is V r S pd ch hd) {a b:Nat} (hab:a≤b) (hb:b≤ops.size):(S a).length≤(S b).length:=by
 induction b with
 | zero => have:a=0:=by omega
           subst this;exact QG _
 | succ b ih =>
  by_cases e:a=b+1
  ·subst e;exact QG _
  ·exact YR (ih (by omega) (by omega)) (h.le b (by omega))
structure Inv (fx:Fx) (ops:Array Oper) (is:List Ins) (V:Nat→List AV) (r:Nat→AV) (S:Nat→List AObj) (pd:Nat→List Nat) (ch:Nat→Nat→Bool) (X:Nat→Prop) (en:En) (D:List Nat) (m:LM) (ac:Act) (w:World):Prop where
 inn:∀ k∈D,k<ops.size
 clos:∀ k∈D,∀ e∈pd k,e∈D
 size:ac.tmps.size=fx.N
 vars:∀ i t,fx.vars[i]? = some t→VRel m X w (vAt is r (V 0) ops.size (fun k=>decide (k∈D)) i) (ac.tmps.getD t Go.undef)
 tmps:∀ k∈D,∀ t,(ops.toList[k]?).bind (·.dst)=some t→t∉fx.vars→VRel m X w (r k) (ac.tmps.getD t Go.undef)
 defs:DRel m X en w ac.defers
 heap:HRel m X (hAt S ch ops.size fun k=>decide (k∈D)) w
 fresh:∀ l,(S 0).length≤l→(∀ k∈D,¬ ((S k).length≤l∧l<(S (k+1)).length))→m l=none
 entry:en.n≤w.heap.size
theorem sameAt {p:Nat→Bool} {D:List Nat} {j n:Nat} {pd:Nat→List Nat} (hn:j<n) (hpdlt:∀ j,j<n→∀ k∈pd j,k<j) (hclos:∀ k∈D,∀ e∈pd k,e∈D) (hjD:j∉D) (hpj:∀ e∈pd j,e∈D)
  (hord:∀ k,k<n→p k=true→k≠j→k∈pd j∨j∈pd k) (hself:p j=true→False∨True) :
  ∀ k,k<n→k≠j→(decide (k∈D)&&p k)=(decide (k<j)&&p k):=by
 intro k hk hkj
 cases hp:p k with
 | false=>simp
 | true =>
  simp only[WH]
  rcases hord k hk hp hkj with h1 | h1
  ·have:=hpdlt j hn k h1;simp[hpj k h1,this]
  ·have h2:=hpdlt k hk j h1
   have h3:k∉D:=fun hkD=>hjD (hclos k hkD j h1)
   simp[h3];omega
theorem Free.vEq (h:Free P fx ops is V r S pd ch hd) (hlen:is.length=ops.size) {D:List Nat} {j:Nat} {i0:Ins} {x:Nat} (hj:is[j]? = some i0) (hclos:∀ k∈D,∀ e∈pd k,e∈D) (hjD:j∉D) (hpj:∀ e∈pd j,e∈D)
  (hx:.v x∈i0.args∨i0.dst=some x):vAt is r (V 0) ops.size (fun k=>decide (k∈D)) x=vAt is r (V 0) ops.size (fun k=>decide (k<j)) x:=by
 have hjn:j<ops.size:=by rw[← hlen];exact (QH.1 hj).1
 have:lastOf (fun k=>decide (k∈D)&&dstI is k x) ops.size=lastOf (fun k=>decide (k<j)&&dstI is k x) ops.size:=by
  refine JN fun k hk=>?_
  by_cases hkj:k=j
  ·subst hkj;simp[hjD]
  ·refine sameAt (p:=fun k=>dstI is k x) hjn h.pdlt hclos hjD hpj ?_ (fun _=>.inr trivial) k hk hkj
   intro k hk hp hkj
   have hik:is[k]? = some is[k]:=QI (by omega)
   have hd:is[k].dst=some x:=by simpa[dstI,hik] using hp
   exact h.vrs j k i0 _ x hj hik (Ne.symm hkj) hd hx
 simp only[vAt,this]
theorem Free.oEq (h:Free P fx ops is V r S pd ch hd) {D:List Nat} {j l:Nat} (hjn:j<ops.size) (hin:∀ k∈D,k<ops.size) (hclos:∀ k∈D,∀ e∈pd k,e∈D) (hjD:j∉D) (hpj:∀ e∈pd j,e∈D)
  (hl:hd j l=false):oAt S ch ops.size (fun k=>decide (k∈D)) l=oAt S ch ops.size (fun k=>decide (k<j)) l:=by
 have:lastOf (fun k=>decide (k∈D)&&ch k l) ops.size=lastOf (fun k=>decide (k<j)&&ch k l) ops.size:=by
  refine JN fun k hk=>?_
  by_cases hkj:k=j
  ·subst hkj;simp[hjD]
  ·refine sameAt (p:=fun k=>ch k l) hjn h.pdlt hclos hjD hpj ?_ (fun _=>.inr trivial) k hk hkj
   intro k hk hp hkj
   by_cases h1:k∈pd j
   ·exact .inl h1
   ·by_cases h2:j∈pd k
    ·exact .inr h2
    ·have:=h.un j k hjn hk hkj h1 h2 l hp;rw[hl] at this;cases this
 simp only[oAt,this]
theorem Free.closedAt (h:Free P fx ops is V r S pd ch hd) (h0:∀ (l:Nat) o,(S 0)[l]? = some o→Z3 (S 0).length o=true) (mono:∀ (a b:Nat) o,a≤b→Z3 a o=true→Z3 b o=true):∀ j,j≤ops.size→∀ (l:Nat) o,(S j)[l]? = some o→Z3 (S j).length o=true
 | 0,_,l,o,ho=>h0 l o ho
 | j+1,hj,l,o,ho=>by
  cases hc:ch j l with
  | true=>exact h.cl j (by omega) l o hc ho
  | false =>
   rw[h.nch j (by omega) l hc] at ho
   exact mono _ _ o (h.le j (by omega)) (Free.closedAt h h0 mono j (by omega) l o ho)
mutual
theorem Y8 {a b:Nat} (hab:a≤b):∀ v:AV,QR a v=true→QR b v=true
 | .cv _,_=>rfl
 | .ptr l _,h=>by simp only[QR,decide_eq_true_eq] at h ⊢;omega
 | .sl l _ _ _,h=>by simp only[QR,decide_eq_true_eq] at h ⊢;omega
 | .map l,h=>by simp only[QR,decide_eq_true_eq] at h ⊢;omega
 | .fn _ cs,h=>by simp only[QR] at h ⊢;exact XN hab cs h
 | .bm _ cs,h=>by simp only[QR] at h ⊢;exact XN hab cs h
 | .yld l,h=>by simp only[QR,decide_eq_true_eq] at h ⊢;omega
 | .agg cs,h=>by simp only[QR] at h ⊢;exact XN hab cs h
 | .tup cs,h=>by simp only[QR] at h ⊢;exact XN hab cs h
 | .undef,_=>rfl
 | .slc l _ _ _ _,h=>by simp only[QR,decide_eq_true_eq] at h ⊢;omega
theorem XN {a b:Nat} (hab:a≤b):∀ vs:List AV,QO a vs=true→QO b vs=true
 | [],_=>rfl
 | v::vs,h=>by simp only[QO,QD] at h ⊢;exact ⟨Y8 hab v h.1,XN hab vs h.2⟩
end
theorem H1 (a b:Nat) (o:AObj) (hab:a≤b) (h:Z3 a o=true):Z3 b o=true:=by
 cases o with
 | dead=>rfl
 | cells cs=>exact XN hab cs h
 | map es =>
  simp only[Z3,Q1,QD] at h ⊢
  exact fun e he=>⟨Y8 hab _ (h e he).1,Y8 hab _ (h e he).2⟩
 | siter _ _=>rfl
 | loop r=>exact XN hab _ h
mutual
theorem VRel.locs {m:LM} {X:Nat→Prop} {w:World} {n:Nat} (hm:∀ l b,m l=some b→l<n):∀ (a:AV) (v:Value),VRel m X w a v→QR n a=true
 | .cv _,_,_=>rfl
 | .ptr l _,v,h=>by simp only[VRel] at h;obtain ⟨b,h1,_⟩:=h;simpa[QR] using hm _ _ h1
 | .sl l _ _ _,v,h=>by simp only[VRel] at h;obtain ⟨b,c,h1,_⟩:=h;simpa[QR] using hm _ _ h1
 | .map l,v,h=>by simp only[VRel] at h;obtain ⟨b,h1,_⟩:=h;simpa[QR] using hm _ _ h1
 | .fn _ cs,v,h=>by simp only[VRel] at h;obtain ⟨vs,_,h2⟩:=h;simp only[QR];exact QK.locs hm cs vs h2
 | .bm _ cs,v,h=>by simp only[VRel] at h;obtain ⟨vs,_,h2⟩:=h;simp only[QR];exact QK.locs hm cs vs h2
 | .yld l,v,h=>by simp only[VRel] at h;obtain ⟨b,h1,_⟩:=h;simpa[QR] using hm _ _ h1
 | .agg cs,v,h=>by simp only[VRel] at h;obtain ⟨vs,_,h2⟩:=h;simp only[QR];exact QK.locs hm cs vs h2
 | .tup cs,v,h=>by simp only[VRel] at h;obtain ⟨vs,_,h2⟩:=h;simp only[QR];exact QK.locs hm cs vs h2
 | .undef,_,_=>rfl
 | .slc l _ _ _ _,v,h=>by simp only[VRel] at h;obtain ⟨b,h1,_⟩:=h;simpa[QR] using hm _ _ h1
theorem QK.locs {m:LM} {X:Nat→Prop} {w:World} {n:Nat} (hm:∀ l b,m l=some b→l<n):∀ (as:List AV) (vs:List Value),QK m X w as vs→QO n as=true
 | [],[],_=>rfl
 | a::as,v::vs,h=>by simp only[QK] at h;simp only[QO,QD];exact ⟨VRel.locs hm a v h.1,QK.locs hm as vs h.2⟩
 | [],_::_,h=>by simp[QK] at h
 | _::_,[],h=>by simp[QK] at h
end
theorem CV.rep_less {w:World} {O O':Nat→Prop} (h:∀ b,O' b→O b) (c:CV) (v:Value) (hr:c.rep w O v):c.rep w O' v :=
 CV.rep_mono (fun b hb _=>⟨rfl,fun ho=>hb (h b ho)⟩) c v hr
mutual
theorem VRel.less {m m':LM} {X X':Nat→Prop} {w:World} {k:Nat} (hm:∀ l,l<k→m' l=m l) (ho:∀ b,Own m' X' b→Own m X b):∀ (a:AV) (v:Value),QR k a=true→VRel m X w a v→VRel m' X' w a v
 | .cv c,v,_,h=>by simp only[VRel] at h ⊢;exact CV.rep_less ho c v h
 | .ptr l off,v,hk,h=>by simp only[VRel,QR,decide_eq_true_eq] at h hk ⊢;rw[hm l hk];exact h
 | .sl l off len esz,v,hk,h=>by simp only[VRel,QR,decide_eq_true_eq] at h hk ⊢;rw[hm l hk];exact h
 | .map l,v,hk,h=>by simp only[VRel,QR,decide_eq_true_eq] at h hk ⊢;rw[hm l hk];exact h
 | .fn f cs,v,hk,h=>by simp only[VRel,QR] at h hk ⊢;obtain ⟨vs,h1,h2⟩:=h;exact ⟨vs,h1,QK.less hm ho cs vs hk h2⟩
 | .bm f cs,v,hk,h=>by simp only[VRel,QR] at h hk ⊢;obtain ⟨vs,h1,h2⟩:=h;exact ⟨vs,h1,QK.less hm ho cs vs hk h2⟩
 | .yld l,v,hk,h=>by simp only[VRel,QR,decide_eq_true_eq] at h hk ⊢;rw[hm l hk];exact h
 | .agg cs,v,hk,h=>by simp only[VRel,QR] at h hk ⊢;obtain ⟨vs,h1,h2⟩:=h;exact ⟨vs,h1,QK.less hm ho cs vs hk h2⟩
 | .tup cs,v,hk,h=>by simp only[VRel,QR] at h hk ⊢;obtain ⟨vs,h1,h2⟩:=h;exact ⟨vs,h1,QK.less hm ho cs vs hk h2⟩
 | .undef,v,_,_=>by simp[VRel]
 | .slc l off len cap esz,v,hk,h=>by simp only[VRel,QR,decide_eq_true_eq] at h hk ⊢;rw[hm l hk];exact h
theorem QK.less {m m':LM} {X X':Nat→Prop} {w:World} {k:Nat} (hm:∀ l,l<k→m' l=m l) (ho:∀ b,Own m' X' b→Own m X b):∀ (as:List AV) (vs:List Value),QO k as=true→QK m X w as vs→QK m' X' w as vs
 | [],[],_,_=>by simp[QK]
 | a::as,v::vs,hk,h=>by simp only[QK,QO,QD] at h hk ⊢;exact ⟨VRel.less hm ho a v hk.1 h.1,QK.less hm ho as vs hk.2 h.2⟩
 | [],_::_,_,h=>by simp[QK] at h
 | _::_,[],_,h=>by simp[QK] at h
end
theorem ORel.less {m m':LM} {X X':Nat→Prop} {w:World} {k:Nat} (hm:∀ l,l<k→m' l=m l) (ho:∀ b,Own m' X' b→Own m X b) {b:Option Nat} {o:AObj} (hk:Z3 k o=true) (h:ORel m X w b o):ORel m' X' w b o:=by
 cases b with
 | none=>cases o <;> simp[ORel] at h ⊢
 | some b =>
  cases o with
  | dead=>trivial
  | cells cs =>
   simp only[ORel,Z3] at h hk ⊢
   obtain ⟨c,e,h1,h2,h3⟩:=h
   exact ⟨c,e,h1,h2,QK.less hm ho _ _ hk h3⟩
  | map es =>
   simp only[ORel,Z3] at h hk ⊢
   obtain ⟨ces,clock,h1,h2,h3,h4,h5⟩:=h
   refine ⟨ces,clock,h1,h2,h3,h4,fun i kk a hi=>?_⟩
   obtain ⟨e,he,g1,g2⟩:=h5 i kk a hi
   rw[Q1] at hk
   have:=hk _ (QZ hi)
   simp only[QD] at this
   exact ⟨e,he,VRel.less hm ho _ _ this.1 g1,VRel.less hm ho _ _ this.2 g2⟩
  | siter s0 p=>exact h
  | loop r =>
   simp only[ORel,Z3] at h hk ⊢
   obtain ⟨tmps,d,fi,h1,h2,h3⟩:=h
   exact ⟨tmps,d,fi,h1,fun i t hi=>VRel.less hm ho _ _ (XO hk i) (h2 i t hi),h3⟩
theorem I4 {k:Nat}:∀ {as:List AV},(∀ i,i<as.length→QR k (as.getD i .undef)=true)→QO k as=true
 | [],_=>rfl
 | a::as,h=>by
  simp only[QO,QD]
  exact ⟨by simpa using h 0 (by simp),I4 fun i hi=>by simpa using h (i+1) (by simpa using hi)⟩
theorem HRel.closed {m:LM} {X:Nat→Prop} {σ:List AObj} {w:World} (h:HRel m X σ w) (l:Nat) (o:AObj) (ho:σ[l]? = some o):Z3 σ.length o=true:=by
 have hm:∀ l b,m l=some b→l<σ.length:=fun l b hl=>(h.dom l b hl).1
 have hr:=h.obj l o ho
 cases hb:m l with
 | none=>rw[hb] at hr;cases o <;> simp[ORel] at hr;rfl
 | some b =>
  rw[hb] at hr
  cases o with
  | dead=>rfl
  | cells cs=>simp only[ORel] at hr;obtain ⟨c,e,_,_,h3⟩:=hr;exact QK.locs hm _ _ h3
  | map es =>
   simp only[ORel] at hr;obtain ⟨ces,clock,_,_,_,_,h5⟩:=hr
   simp only[Z3,Q1,QD]
   rintro ⟨kk,a⟩ he
   obtain ⟨i,hi⟩:=List.getElem?_of_mem he
   obtain ⟨e,_,g1,g2⟩:=h5 i kk a hi
   exact ⟨VRel.locs hm _ _ g1,VRel.locs hm _ _ g2⟩
  | siter _ _=>rfl
  | loop r =>
   simp only[ORel] at hr;obtain ⟨tmps,d,fi,h1,h2,h3,h4⟩:=hr
   exact I4 fun i hi=>VRel.locs hm _ _ (h2 i r.vars[i] (QI (by omega)))
end Go.Proofs.YtgkidpolomhghaaGreatDoor.AM
namespace Go.Proofs.YtgkidpolomhghaaGreatDoor.AM
set_option linter.unusedSectionVars false
variable [Dr]
open Go
set_option linter.unusedVariables false
set_option linter.unusedSimpArgs false
theorem Qdv {vars:List Nat} {u:Nat} (huv:u∉vars):∀ (l:List Oper),((l.filterMap (·.dst)).filter fun t=>!vars.contains t).Nodup→∀ (a b:Nat),(l[a]?).bind (fun o:Oper=>o.dst)=some u→(l[b]?).bind (fun o:Oper=>o.dst)=some u→a=b:=by
 intro l
 induction l with
 | nil=>intro _ a b h;simp at h
 | cons x l ih =>
  intro hn a b h1 h2
  have hmem:∀ (q:Nat),(l[q]?).bind (fun o:Oper=>o.dst)=some u→u∈(l.filterMap (·.dst)).filter fun t=>!vars.contains t:=by
   intro q hq
   cases hlq:l[q]? with
   | none=>rw[hlq] at hq;simp at hq
   | some y =>
    rw[hlq] at hq
    refine YB.2 ⟨X3.2 ⟨y,QZ hlq,by simpa using hq⟩,by simpa using huv⟩
  cases hx:x.dst with
  | none =>
   simp only[List.filterMap_cons,hx] at hn
   cases a with
   | zero=>simp[hx] at h1
   | succ a=>cases b with
    | zero=>simp[hx] at h2
    | succ b=>simp at h1 h2;rw[ih hn a b h1 h2]
  | some tx =>
   simp only[List.filterMap_cons,hx] at hn
   have hn':((l.filterMap (·.dst)).filter fun t=>!vars.contains t).Nodup:=by
    rw[XK] at hn;split at hn
    ·exact (WQ.1 hn).2
    ·exact hn
   have hno:tx=u→∀ q:Nat,(l[q]?).bind (fun o:Oper=>o.dst)=some u→False:=by
    rintro rfl q hq
    rw[XK,if_pos (by simpa using huv)] at hn
    exact (WQ.1 hn).1 (hmem q hq)
   cases a with
   | zero =>
    cases b with
    | zero=>rfl
    | succ b=>simp[hx] at h1;simp at h2;exact (hno h1 b h2).elim
   | succ a =>
    cases b with
    | zero=>simp[hx] at h2;simp at h1;exact (hno h2 a h1).elim
    | succ b=>simp at h1 h2;rw[ih hn' a b h1 h2]
variable {P:Program} {fx:Fx} {ops:Array Oper} {is:List Ins} {V:Nat→List AV} {r:Nat→AV} {S:Nat→List AObj} {pd:Nat→List Nat} {ch hd:Nat→Nat→Bool}
variable {m:LM} {X:Nat→Prop} {en:En} {w:World} {D:List Nat} {ac:Act} {j:Nat}
def mAt (S:Nat→List AObj) (j:Nat) (m:LM):LM:=fun l=>if l<(S j).length then m l else none
def xAt (S:Nat→List AObj) (ch hd:Nat→Nat→Bool) (n:Nat) (D:List Nat) (j:Nat) (m:LM) (X:Nat→Prop):Nat→Prop:=fun b =>
 X b∨∃ l,m l=some b∧((S j).length≤l∨(hd j l=true∧∃ o,(hAt S ch n fun k=>decide (k∈D))[l]? = some o∧o.live))
theorem EJ {l b:Nat} (h:mAt S j m l=some b):l<(S j).length∧m l=some b:=by
 unfold mAt at h;split at h
 ·exact ⟨by assumption,h⟩
 ·cases h
theorem Qa7 {b:Nat} (h:Own (mAt S j m) (xAt S ch hd ops.size D j m X) b):Own m X b:=by
 rcases h with (h | ⟨l,h,_⟩) | ⟨l,h⟩
 ·exact .inl h
 ·exact .inr ⟨l,h⟩
 ·exact .inr ⟨l,(EJ h).2⟩
theorem Inv.restrict (h:Free P fx ops is V r S pd ch hd) (inv:Inv fx ops is V r S pd ch X en D m ac w) (hcl0:∀ (l:Nat) o,(S 0)[l]? = some o→Z3 (S 0).length o=true)
  (hjn:j<ops.size) (hjD:j∉D) (hpj:∀ e∈pd j,e∈D):HRel (mAt S j m) (xAt S ch hd ops.size D j m X) (VU (hd j) (S j)) w:=by
 have hle:=h.le' (show j≤ops.size by omega) (QG _)
 have obj:∀ (l:Nat) o,(S j)[l]? = some o→hd j l=false→(hAt S ch ops.size fun k=>decide (k∈D))[l]? = some o:=by
  intro l o hl hh
  have hlt:l<(S j).length:=(QH.1 hl).1
  rw[LH (by omega),h.oEq hjn inv.inn inv.clos hjD hpj hh,← h.S_at j (by omega),hl];rfl
 refine ⟨?_,?_,?_,?_,?_,inv.heap.gl.less fun b hb=>Qa7 hb⟩
 ·rintro b (hb | ⟨l,hb,_⟩)
  ·exact inv.heap.xb b hb
  ·exact (inv.heap.dom l b hb).2
 ·intro l b hb
  obtain ⟨h1,h2⟩:=EJ hb
  exact ⟨by rw[YA];exact h1,(inv.heap.dom l b h2).2⟩
 ·intro l b o hb ho hv
  obtain ⟨h1,h2⟩:=EJ hb
  rw[J6,QA] at ho
  obtain ⟨o0,ho0,he⟩:=ho
  cases hh:hd j l with
  | true=>rw[hh] at he;simp at he;subst he;exact hv.elim
  | false =>
   rw[hh] at he;simp at he;subst he
   have hD:=obj l o0 ho0 hh
   rintro (hx | ⟨l',hl',hc⟩)
   ·exact inv.heap.own l b o0 h2 hD hv hx
   ·rcases hc with hc | ⟨hc1,o',hc2,hc3⟩
    ·have:=inv.heap.inj l' l b o0 hl' h2 hD hv;omega
    ·have:=inv.heap.inj2 l l' b o0 o' h2 hl' hD hc2 hv hc3
     subst this;rw[hh] at hc1;cases hc1
 ·intro l l' b o' hb hb' ho hv
  obtain ⟨h1,h2⟩:=EJ hb
  obtain ⟨h3,h4⟩:=EJ hb'
  rw[J6,QA] at ho
  obtain ⟨o0,ho0,he⟩:=ho
  cases hh:hd j l' with
  | true=>rw[hh] at he;simp at he;subst he;exact hv.elim
  | false =>
   rw[hh] at he;simp at he;subst he
   exact inv.heap.inj l l' b o0 h2 h4 (obj l' o0 ho0 hh) hv
 ·intro l o ho
  rw[J6,QA] at ho
  obtain ⟨o0,ho0,he⟩:=ho
  cases hh:hd j l with
  | true=>rw[hh] at he;simp at he;subst he;simp[ORel]
  | false =>
   rw[hh] at he;simp at he;subst he
   have hlt:l<(S j).length:=(QH.1 ho0).1
   have hr:=inv.heap.obj l o0 (obj l o0 ho0 hh)
   have e1:mAt S j m l=m l:=by simp[mAt,hlt]
   rw[e1]
   exact ORel.less (k:=(S j).length) (fun x hx=>by simp[mAt,hx]) (fun b hb=>Qa7 hb) (h.closedAt hcl0 H1 j (by omega) l o0 ho0) hr
theorem Inv.step (h:Free P fx ops is V r S pd ch hd) (hlen:is.length=ops.size) (hok:GU fx.vars fx.N ops.toList=true) (inv:Inv fx ops is V r S pd ch X en D m ac w) (hn0:fx.n0≤(S 0).length)
  (hjn:j<ops.size) (hjD:j∉D) (hpj:∀ e∈pd j,e∈D) {o:Oper} {i0:Ins} (ho:ops[j]? = some o) (hi0:is[j]? = some i0) (hdst:i0.dst=KA fx.vars o.dst)
  {mj:LM} {w':World} {c:Value} (hh:HRel mj (xAt S ch hd ops.size D j m X) (VU (hd j) (S (j+1))) w') (hst:Step (S j).length (mAt S j m) (xAt S ch hd ops.size D j m X) w mj w')
  (hv:VRel mj (xAt S ch hd ops.size D j m X) w' (r j) c):∃ m',Inv fx ops is V r S pd ch X en (j::D) m' (ac.put o.dst c) w'∧Step fx.n0 m X w m' w':=by
 have hle:=h.le j hjn
 have hleN:=h.le' (show j+1≤ops.size by omega) (QG _)
 have hle0:=h.le' (QF j) (by omega)
 let m':LM:=fun l=>if (S j).length≤l∧l<(S (j+1)).length then mj l else m l
 have m'new:∀ l,(S j).length≤l→l<(S (j+1)).length→m' l=mj l:=fun l h1 h2=>by simp[m',h1,h2]
 have m'old:∀ l,¬ ((S j).length≤l∧l<(S (j+1)).length)→m' l=m l:=fun l h1=>by simp only[m',if_neg h1]
 have keepj:∀ l,l<(S j).length→mj l=m l:=fun l hl=>by rw[hst.keep l hl];simp[mAt,hl]
 have m'lo:∀ l,l<(S (j+1)).length→m' l=mj l:=fun l hl=>by
  by_cases h1:(S j).length≤l
  ·exact m'new l h1 hl
  ·rw[m'old l (by omega),keepj l (by omega)]
 have xsub:∀ b,X b→xAt S ch hd ops.size D j m X b:=fun b hb=>.inl hb
 have xlate:∀ l b,m l=some b→(S j).length≤l→xAt S ch hd ops.size D j m X b:=fun l b h1 h2=>.inr ⟨l,h1,.inl h2⟩
 have fresh:∀ l,(S j).length≤l→l<(S (j+1)).length→m l=none:=fun l h1 h2=>by
  refine inv.fresh l (by omega) fun k hk hc=>?_
  have hkn:=inv.inn k hk
  rcases Nat.lt_trichotomy k j with hlt | he | hgt
  ·have:=h.le' (show k+1≤j by omega) (by omega);omega
  ·subst he;exact hjD hk
  ·have:=h.le' (show j+1≤k by omega) (by omega);omega
 have hmj:∀ l b,mAt S j m l=some b→m l=some b:=fun l b hb=>(EJ hb).2
 have hst':Step fx.n0 m X w m' w' :=
  {keep:=fun l hl=>m'old l (by omega)
   new:=fun l b hb=>by
    by_cases hr:(S j).length≤l∧l<(S (j+1)).length
    ·rw[m'new l hr.1 hr.2] at hb
     rcases hst.new l b hb with ⟨l',hl'⟩ | hge
     ·exact .inl ⟨l',hmj _ _ hl'⟩
     ·exact .inr hge
    ·rw[m'old l hr] at hb;exact .inl ⟨l,hb⟩
   size:=hst.size
   fr:=fun b hb hno=>hst.fr b hb (hno.imp (xsub b) fun hno l hl=>hno l (hmj _ _ hl))
   shp:=hst.shp,os:=hst.os,tape:=hst.tape,output:=hst.output,drawn:=hst.drawn }
 have MM:Mono m X w m' X w' :=
  {sub:=fun l b hb=>by
    by_cases hr:(S j).length≤l∧l<(S (j+1)).length
    ·rw[fresh l hr.1 hr.2] at hb;cases hb
    ·rw[m'old l hr];exact hb
   cl:=fun b hb hc=>by
    refine ⟨hst.fr b hc.lt (.inr fun l hl=>hb (.inr ⟨l,hmj _ _ hl⟩)),?_⟩
    rintro (hx | ⟨l,hl⟩)
    ·exact hb (.inl hx)
    ·rcases hst'.new l b hl with ⟨l',hl'⟩ | hge
     ·exact hb (.inr ⟨l',hl'⟩)
     ·have:=hc.lt;omega
   shp:=hst.shp }
 have hjdom:∀ l b,mj l=some b→l<(S (j+1)).length:=fun l b hb=>by have:=(hh.dom l b hb).1;rwa [YA] at this
 have MJ:Mono mj (xAt S ch hd ops.size D j m X) w' m' X w' :=
  {sub:=fun l b hb=>by rw[m'lo l (hjdom l b hb)];exact hb
   cl:=fun b hb hc=>by
    refine ⟨rfl,?_⟩
    rintro (hx | ⟨l,hl⟩)
    ·exact hb (.inl (xsub b hx))
    ·by_cases hlt:l<(S (j+1)).length
     ·rw[m'lo l hlt] at hl;exact hb (.inr ⟨l,hl⟩)
     ·rw[m'old l (by omega)] at hl;exact hb (.inl (xlate l b hl (by omega)))
   shp:=fun b c e hb=>⟨c,hb,rfl⟩ }
 have chNew:∀ l,(S j).length≤l→l<(S (j+1)).length→ch j l=true:=fun l h1 h2=>by
  cases hc:ch j l with
  | true=>rfl
  | false =>
   have:=h.nch j hjn l hc
   rw[QN h1,QI h2] at this;cases this
 have oCh:∀ l,ch j l=true→oAt S ch ops.size (fun k=>decide (k∈j::D)) l=(S (j+1))[l]? := fun l hc=>by
  have:lastOf (fun k=>decide (k∈j::D)&&ch k l) ops.size=some j:=by
   refine E8 hjn (by simp[hc]) fun k hk hkn=>?_
   cases hck:ch k l with
   | false=>simp
   | true =>
    simp only[WH,decide_eq_false_iff_not,ZD,not_or]
    refine ⟨by omega,fun hkD=>?_⟩
    by_cases h1:k∈pd j
    ·have:=h.pdlt j hjn k h1;omega
    ·by_cases h2:j∈pd k
     ·exact hjD (inv.clos k hkD j h2)
     ·have:=h.un j k hjn hkn (by omega) h1 h2 l hck
      rw[h.mine j hjn l hc] at this;cases this
  simp only[oAt,this]
 have oNc:∀ l,ch j l=false→oAt S ch ops.size (fun k=>decide (k∈j::D)) l=oAt S ch ops.size (fun k=>decide (k∈D)) l:=fun l hc=>by
  have:lastOf (fun k=>decide (k∈j::D)&&ch k l) ops.size=lastOf (fun k=>decide (k∈D)&&ch k l) ops.size:=by
   refine JN fun k hk=>?_
   by_cases hkj:k=j
   ·subst hkj;simp[hc]
   ·simp[hkj]
  simp only[oAt,this]
 have oA:∀ l,l<(S (j+1)).length→hd j l=false→oAt S ch ops.size (fun k=>decide (k∈j::D)) l=(S (j+1))[l]? := fun l hl hdl=>by
  cases hc:ch j l with
  | true=>exact oCh l hc
  | false=>rw[oNc l hc,h.oEq hjn inv.inn inv.clos hjD hpj hdl,← h.S_at j (by omega),h.nch j hjn l hc]
 have getA:∀ l o1,l<(S (j+1)).length→hd j l=false→(hAt S ch ops.size fun k=>decide (k∈j::D))[l]? = some o1→(VU (hd j) (S (j+1)))[l]? = some o1:=fun l o1 hl hdl ho1=>by
  rw[LH (by omega),oA l hl hdl,QI hl] at ho1
  rw[J6,QI hl]
  simpa[hdl] using ho1
 have getB:∀ l o1,ch j l=false→(hAt S ch ops.size fun k=>decide (k∈j::D))[l]? = some o1→(hAt S ch ops.size fun k=>decide (k∈D))[l]? = some o1:=fun l o1 hc ho1=>by
  have hl:l<(S ops.size).length:=by have:=(QH.1 ho1).1;simpa[hAt] using this
  rw[LH hl,oNc l hc] at ho1
  rw[LH hl];exact ho1
 have kinds:∀ l,(l<(S (j+1)).length∧hd j l=false)∨(l<(S j).length∧hd j l=true∧ch j l=false)∨((S (j+1)).length≤l∧ch j l=false):=fun l=>by
  by_cases hl:l<(S (j+1)).length
  ·cases hdl:hd j l with
   | false=>exact .inl ⟨hl,rfl⟩
   | true =>
    have hc:ch j l=false:=by
     cases hc:ch j l with
     | false=>rfl
     | true=>rw[h.mine j hjn l hc] at hdl;cases hdl
    by_cases hl2:l<(S j).length
    ·exact .inr (.inl ⟨hl2,rfl,hc⟩)
    ·rw[chNew l (by omega) hl] at hc;cases hc
  ·refine .inr (.inr ⟨by omega,?_⟩)
   cases hc:ch j l with
   | false=>rfl
   | true=>have:=h.chl j hjn l hc;omega
 have hheap:HRel m' X (hAt S ch ops.size fun k=>decide (k∈j::D)) w':=by
  refine ⟨fun b hb=>Z6 (inv.heap.xb b hb) hst.size,?_,?_,?_,?_,inv.heap.gl.mono MM⟩
  ·intro l b hb
   by_cases hr:(S j).length≤l∧l<(S (j+1)).length
   ·rw[m'new l hr.1 hr.2] at hb
    have:=hh.dom l b hb
    exact ⟨by simp[hAt];omega,this.2⟩
   ·rw[m'old l hr] at hb
    have:=inv.heap.dom l b hb
    refine ⟨by simpa[hAt] using this.1,Z6 this.2 hst.size⟩
  ·intro l b o1 hb ho1 hv1
   rcases kinds l with ⟨h1,h2⟩ | ⟨h1,h2,h3⟩ | ⟨h1,h3⟩
   ·rw[m'lo l h1] at hb
    exact fun hx=>hh.own l b o1 hb (getA l o1 h1 h2 ho1) hv1 (xsub b hx)
   ·rw[m'old l (by omega)] at hb;exact inv.heap.own l b o1 hb (getB l o1 h3 ho1) hv1
   ·rw[m'old l (by omega)] at hb;exact inv.heap.own l b o1 hb (getB l o1 h3 ho1) hv1
  ·intro l l' b o1 hb hb' ho1 hv1
   rcases kinds l' with ⟨h1,h2⟩ | ⟨h1,h2,h3⟩ | ⟨h1,h3⟩
   ·rw[m'lo l' h1] at hb'
    have hg:=getA l' o1 h1 h2 ho1
    by_cases hl:l<(S (j+1)).length
    ·rw[m'lo l hl] at hb;exact hh.inj l l' b o1 hb hb' hg hv1
    ·rw[m'old l (by omega)] at hb
     exact absurd (xlate l b hb (by omega)) (hh.own l' b o1 hb' hg hv1)
   ·rw[m'old l' (by omega)] at hb'
    have hg:=getB l' o1 h3 ho1
    by_cases hr:(S j).length≤l∧l<(S (j+1)).length
    ·exfalso
     rw[m'new l hr.1 hr.2] at hb
     have hlo:(S (j+1))[l]? = some (S (j+1))[l]:=QI hr.2
     have hlive:=h.made j hjn l _ hr.1 hlo
     have hdl:=h.mine j hjn l (chNew l hr.1 hr.2)
     exact hh.own l b _ hb (by rw[J6,hlo];simp[hdl]) hlive (.inr ⟨l',hb',.inr ⟨h2,o1,hg,hv1⟩⟩)
    ·rw[m'old l hr] at hb;exact inv.heap.inj l l' b o1 hb hb' hg hv1
   ·rw[m'old l' (by omega)] at hb'
    have hg:=getB l' o1 h3 ho1
    by_cases hr:(S j).length≤l∧l<(S (j+1)).length
    ·omega
    ·rw[m'old l hr] at hb;exact inv.heap.inj l l' b o1 hb hb' hg hv1
  ·intro l o1 ho1
   rcases kinds l with ⟨h1,h2⟩ | ⟨h1,h2,h3⟩ | ⟨h1,h3⟩
   ·have hr:=hh.obj l o1 (getA l o1 h1 h2 ho1)
    rw[m'lo l h1]
    cases hb:mj l with
    | none=>rw[hb] at hr;cases o1 <;> simp[ORel] at hr ⊢
    | some b=>rw[hb] at hr;exact ORel.mono MJ rfl hr
   ·have hg:=getB l o1 h3 ho1
    have hr:=inv.heap.obj l o1 hg
    rw[m'old l (by omega)]
    cases hb:m l with
    | none=>rw[hb] at hr;cases o1 <;> simp[ORel] at hr ⊢
    | some b =>
     rw[hb] at hr
     by_cases hv1:o1.live
     ·exact ORel.mono MM (hst.fr b (inv.heap.dom l b hb).2 (.inl (.inr ⟨l,hb,.inr ⟨h2,o1,hg,hv1⟩⟩))) hr
     ·cases o1 <;> simp[AObj.live] at hv1
      simp[ORel]
   ·have hg:=getB l o1 h3 ho1
    have hr:=inv.heap.obj l o1 hg
    rw[m'old l (by omega)]
    cases hb:m l with
    | none=>rw[hb] at hr;cases o1 <;> simp[ORel] at hr ⊢
    | some b=>rw[hb] at hr;exact ORel.mono MM (hst.fr b (inv.heap.dom l b hb).2 (.inl (xlate l b hb (by omega)))) hr
 have hvr:VRel m' X w' (r j) c:=VRel.mono MJ _ _ hv
 have hok':=hok
 unfold GU at hok'
 simp only[QD,decide_eq_true_eq,Q1] at hok'
 obtain ⟨⟨⟨⟨hnd,hvn⟩,hlt⟩,hvlt⟩,hgs⟩:=hok'
 have hol:ops.toList[j]? = some o:=by simpa using ho
 have getD_put:∀ u,(ac.put o.dst c).tmps.getD u Go.undef=if o.dst=some u then c else ac.tmps.getD u Go.undef:=by
  intro u
  cases hd0:o.dst with
  | none=>simp[Act.put]
  | some t =>
   have htN:t<ac.tmps.size:=by
    rw[inv.size];have:=hlt t (X3.2 ⟨o,QZ hol,hd0⟩);simpa using this
   simp only[Act.put,QV,Option.some.injEq]
   by_cases hu:t=u
   ·subst hu;simp[htN]
   ·rw[if_neg hu,W2 hu]
 have hdefs:DRel m' X en w' (ac.put o.dst c).defers:=by
  have:=inv.defs.step hst'
  cases hd0:o.dst <;> simpa[Act.put] using this
 refine ⟨m',⟨?_,?_,?_,?_,?_,hdefs,hheap,?_,YR inv.entry hst.size⟩,hst'⟩
 ·intro k hk;rcases ZD.1 hk with rfl | hk
  ·exact hjn
  ·exact inv.inn k hk
 ·intro k hk e he;rcases ZD.1 hk with rfl | hk
  ·exact WU _ (hpj e he)
  ·exact WU _ (inv.clos k hk e he)
 ·cases hd0:o.dst <;> simp[Act.put,inv.size]
 ·intro i t hi
  rw[getD_put]
  by_cases hdi:i0.dst=some i
  ·have hot:o.dst=some t:=by
    rw[hdst] at hdi
    cases hd0:o.dst with
    | none=>rw[hd0] at hdi;simp[KA] at hdi
    | some u =>
     rw[hd0] at hdi;simp only[KA] at hdi
     have:=Y9 hdi
     rw[hi] at this;cases this;rfl
   rw[if_pos hot]
   have:lastOf (fun k=>decide (k∈j::D)&&dstI is k i) ops.size=some j:=by
    refine E8 hjn (by simp[dstI,hi0,hdi]) fun k hk hkn=>?_
    cases hck:dstI is k i with
    | false=>simp
    | true =>
     simp only[WH,decide_eq_false_iff_not,ZD,not_or]
     refine ⟨by omega,fun hkD=>?_⟩
     have hik:is[k]? = some is[k]:=QI (by omega)
     have hdk:is[k].dst=some i:=by simpa[dstI,hik] using hck
     rcases h.vrs j k i0 _ i hi0 hik (by omega) hdk (.inr hdi) with h1 | h1
     ·have:=h.pdlt j hjn k h1;omega
     ·exact hjD (inv.clos k hkD j h1)
   simp only[vAt,this];exact hvr
  ·have hot:o.dst≠some t:=by
    intro hot
    apply hdi
    rw[hdst,hot];simp only[KA]
    cases hx:fx.vars.idxOf? t with
    | none=>exact absurd (QZ hi) (U3 hx)
    | some i' =>
     have h1:=Y9 hx
     have h2:i<fx.vars.length:=(QH.1 hi).1
     rw[(List.getElem?_inj h2 hvn).1 (hi.trans h1.symm)]
   rw[if_neg hot]
   have:lastOf (fun k=>decide (k∈j::D)&&dstI is k i) ops.size=lastOf (fun k=>decide (k∈D)&&dstI is k i) ops.size:=by
    refine JN fun k hk=>?_
    by_cases hkj:k=j
    ·subst hkj;simp[dstI,hi0,hdi]
    ·simp[hkj]
   simp only[vAt,this]
   exact VRel.mono MM _ _ (inv.vars i t hi)
 ·intro k hk t hkt htv
  rw[getD_put]
  rcases ZD.1 hk with rfl | hkD
  ·have:o.dst=some t:=by rw[hol] at hkt;simpa using hkt
   rw[if_pos this];exact hvr
  ·have:o.dst≠some t:=by
    intro hot
    have hkj:=Qdv htv ops.toList hnd k j hkt (by rw[hol];simpa using hot)
    rw[hkj] at hkD;exact hjD hkD
   rw[if_neg this];exact VRel.mono MM _ _ (inv.tmps k hkD t hkt htv)
 ·intro l hl hno
  have h1:¬ ((S j).length≤l∧l<(S (j+1)).length):=hno j (by simp)
  rw[m'old l h1]
  exact inv.fresh l hl fun k hk=>hno k (by simp[hk])
theorem Free.V_locs (h:Free P fx ops is V r S pd ch hd) (hlen:is.length=ops.size) (hv0:QO (S 0).length (V 0)=true):∀ j,j≤ops.size→QO (S j).length (V j)=true
 | 0,_=>hv0
 | j + 1,hj=>by
  have ih:=Free.V_locs h hlen hv0 j (by omega)
  rw[h.Vs j _ (QI (show j<is.length by omega))]
  have h1:=XN (h.le j (by omega)) _ ih
  unfold setD
  split
  ·rename_i x _
   generalize V j=vs at h1
   have h2:=h.rl j (by omega)
   clear ih
   revert x
   induction vs with
   | nil=>intro x _;rfl
   | cons v vs ihv =>
    intro x hx
    simp only[QO,QD] at h1
    cases x with
    | zero=>simp only[List.set_cons_zero,QO,QD];exact ⟨h2,h1.2⟩
    | succ x =>
     simp only[List.set_cons_succ,QO,QD]
     refine ⟨h1.1,?_⟩
     have:∀ (vs:List AV) (x:Nat),QO (S (j+1)).length vs=true→QO (S (j+1)).length (vs.set x (r j))=true:=by
      intro vs
      induction vs with
      | nil=>intro x _;rfl
      | cons v vs ih2 =>
       intro x hvs
       simp only[QO,QD] at hvs
       cases x with
       | zero=>simp only[List.set_cons_zero,QO,QD];exact ⟨h2,hvs.2⟩
       | succ x=>simp only[List.set_cons_succ,QO,QD];exact ⟨hvs.1,ih2 x hvs.2⟩
     exact this vs x h1.2
  ·exact h1
theorem RD_go {ro:Option Nat} (h:Free P fx ops is V r S pd ch hd) (hok:GU fx.vars fx.N ops.toList=true) (hc:HK P fx.vars (ops.toList.map (·.dst)) ops.toList=some is)
  (hcl0:∀ (l:Nat) o,(S 0)[l]? = some o→Z3 (S 0).length o=true) (hv0:QO (S 0).length (V 0)=true) (hn0:fx.n0≤(S 0).length) {Qc:Exit→Act→World→Prop} :
  ∀ (l:List Nat) (D:List Nat) (m:LM) (w:World) (ac:Act),C7 (V9 ops) ops.size D l→Inv fx ops is V r S pd ch X en D m ac w →
  (∀ m' ac' w',SRel fx m' X en ⟨V ops.size,S ops.size⟩ ac' w'→Step fx.n0 m X w m' w'→Qc .normal ac' w')→wpOpsIn (wfen ro) 0 P ops Qc l ac w
 | [], D,m,w,ac,hs,inv,hk=>by
  cases hs with
  | nil hall =>
   simp only[wpOpsIn]
   obtain ⟨hlen,_⟩:=h.size hc
   refine hk m ac w ⟨inv.size,?_,inv.defs,?_,YR hn0 (h.le' (QF _) (QG _)),inv.entry⟩ (Step.refl _ _ _ _)
   ·intro i t hi
    have hv:=inv.vars i t hi
    have hil:i<fx.vars.length:=(QH.1 hi).1
    have e1:vAt is r (V 0) ops.size (fun k=>decide (k∈D)) i=vAt is r (V 0) ops.size (fun k=>decide (k<ops.size)) i:=by
     have:lastOf (fun k=>decide (k∈D)&&dstI is k i) ops.size=lastOf (fun k=>decide (k<ops.size)&&dstI is k i) ops.size:=JN fun k hk=>by simp[hk,hall k hk]
     simp only[vAt,this]
    rw[e1,← (h.V_at hlen ops.size (QG _)).2 i hil] at hv
    exact hv
   ·have e:(hAt S ch ops.size fun k=>decide (k∈D))=S ops.size:=by
     apply Z1
     intro l
     by_cases hl:l<(S ops.size).length
     ·rw[LH hl]
      have:oAt S ch ops.size (fun k=>decide (k∈D)) l=oAt S ch ops.size (fun k=>decide (k<ops.size)) l:=by
       have:lastOf (fun k=>decide (k∈D)&&ch k l) ops.size=lastOf (fun k=>decide (k<ops.size)&&ch k l) ops.size:=JN fun k hk=>by simp[hk,hall k hk]
       simp only[oAt,this]
      rw[this,← h.S_at ops.size (QG _),QI hl];rfl
     ·rw[QN (by simp[hAt];omega),QN (by omega)]
    rw[← e];exact inv.heap
 | j :: l,D,m,w,ac,hs,inv,hk=>by
  cases hs with
  | cons hjn hjD hdir hs' =>
  obtain ⟨hlen,hcomp⟩:=h.size hc
  have hoj:ops[j]? = some ops[j]:=Q7 hjn
  obtain ⟨i,hij,hi⟩:=hcomp j _ hoj
  generalize ops[j]=o at hoj hi
  have hpj:∀ e∈pd j,e∈D:=fun e he=>by
   rcases h.pddir j hjn e he with h1 | ⟨x,hx,h1⟩
   ·exact hdir e h1
   ·exact inv.clos x (hdir x hx) e h1
  simp only[wpOpsIn,hoj]
  obtain ⟨hdst,hgd⟩:=R1 hi
  have hol:ops.toList[j]? = some o:=by simpa using hoj
  have hrj:=inv.restrict h hcl0 hjn hjD hpj
  have hgdr:∀ b,gdOk ((List.range j).map r) i.gd=some b→Region.wanted o (yielded ops ac.tmps)=b:=by
   intro b hb
   unfold Region.wanted
   rw[hgd] at hb
   cases hg:o.guard with
   | none=>rw[hg] at hb;simp[gdOk] at hb;simp[hb]
   | some kw =>
    obtain ⟨k,want⟩:=kw
    have hkp:=h.gds j i k want hij (by rw[hgd];exact hg)
    have hkD:=hpj k hkp
    have hkj:=h.pdlt j hjn k hkp
    rw[hg] at hb
    simp only[gdOk] at hb
    have e1:((List.range j).map r).getD k .undef=r k:=by simp[List.getD,hkj]
    rw[e1] at hb
    split at hb
    ·rename_i bb hbb
     cases hb
     have hok':=hok
     unfold GU at hok'
     simp only[QD,decide_eq_true_eq,Q1] at hok'
     obtain ⟨⟨⟨⟨_,_⟩,hlt⟩,_⟩,hgs⟩:=hok'
     have h1:=hgs o (QZ hol)
     rw[hg] at h1
     simp only at h1
     split at h1
     ·rename_i t htk
      have htv:t∉fx.vars:=by simpa using h1
      have hr:=inv.tmps k hkD t htk htv
      rw[hbb] at hr
      have hv:=hr.bool
      cases hok2:ops.toList[k]? with
      | none=>rw[hok2] at htk;simp at htk
      | some ok =>
       rw[hok2] at htk;simp at htk
       have htN:t<ac.tmps.size:=by
        rw[inv.size];have:=hlt t (X3.2 ⟨ok,QZ hok2,htk⟩);simpa using this
       have e2:ac.tmps[t]? = some (.bool bb):=by
        rw[QV,Q7 htN] at hv
        rw[Q7 htN];simpa using hv
       have e3:ops[k]? = some ok:=by simpa using hok2
       simp only[yielded,e3,Option.bind_some,htk,e2]
       cases bb <;> cases want <;> rfl
     ·cases h1
    ·rename_i us hbb
     cases hb
     have hok':=hok
     unfold GU at hok'
     simp only[QD,decide_eq_true_eq,Q1] at hok'
     obtain ⟨⟨⟨⟨_,_⟩,hlt⟩,_⟩,hgs⟩:=hok'
     have h1:=hgs o (QZ hol)
     rw[hg] at h1
     simp only at h1
     split at h1
     ·rename_i t htk
      have htv:t∉fx.vars:=by simpa using h1
      have hr:=inv.tmps k hkD t htk htv
      rw[hbb] at hr
      simp only[VRel] at hr
      obtain ⟨vs,hv,_⟩:=hr
      cases hok2:ops.toList[k]? with
      | none=>rw[hok2] at htk;simp at htk
      | some ok =>
       rw[hok2] at htk;simp at htk
       have htN:t<ac.tmps.size:=by
        rw[inv.size];have:=hlt t (X3.2 ⟨ok,QZ hok2,htk⟩);simpa using this
       have e2:ac.tmps[t]? = some (.tuple vs.toArray):=by
        rw[QV,Q7 htN] at hv
        rw[Q7 htN];simpa using hv
       have e3:ops[k]? = some ok:=by simpa using hok2
       simp only[yielded,e3,Option.bind_some,htk,e2]
       cases want <;> rfl
     ·cases h1
    ·cases hb
  have hargs:∀ (xs:List Operand),(∀ x∈xs.map (XA fx.vars (ops.toList.map (·.dst))),x∈i.args) →
    QK (mAt S j m) (xAt S ch hd ops.size D j m X) w ((xs.map (XA fx.vars (ops.toList.map (·.dst)))).map (WY (V j) ((List.range j).map r))) (xs.map ac.eval):=by
   intro xs
   induction xs with
   | nil=>intro _;simp[QK]
   | cons x xs ih =>
    intro hall
    simp only[Q0,QK]
    refine ⟨?_,ih fun y hy=>hall y (by simp only[Q0];exact WU _ hy)⟩
    have hx:=hall (XA fx.vars (ops.toList.map (·.dst)) x) (by simp)
    have less:∀ a v,QR (S j).length a=true→VRel m X w a v→VRel (mAt S j m) (xAt S ch hd ops.size D j m X) w a v :=
     fun a v=>VRel.less (fun l hl=>by simp[mAt,hl]) (fun b hb=>Qa7 hb) a v
    cases x with
    | tmp t =>
     simp only[XA,Act.eval] at hx ⊢
     split at hx
     ·rename_i x hxi
      simp only[WY]
      have h1:=Y9 hxi
      have h2:x<fx.vars.length:=(QH.1 h1).1
      rw[(h.V_at hlen j (by omega)).2 x h2]
      refine less _ _ ?_ ?_
      ·rw[← (h.V_at hlen j (by omega)).2 x h2]
       exact XO (h.V_locs hlen hv0 j (by omega)) x
      ·rw[← h.vEq hlen hij inv.clos hjD hpj (.inl hx)];exact inv.vars x t h1
     ·rename_i hxi
      split at hx
      ·rename_i k hki
       simp only[WY]
       have hkp:=h.rds j i hij k hx
       have hkj:=h.pdlt j hjn k hkp
       have e1:((List.range j).map r).getD k .undef=r k:=by simp[List.getD,hkj]
       rw[e1]
       refine less _ _ (Y8 (h.le' (show k+1≤j by omega) (by omega)) _ (h.rl k (by omega))) ?_
       have:=Y9 hki
       simp only[ZR,QA] at this
       obtain ⟨ok,hok2,hd2⟩:=this
       exact inv.tmps k (hpj k hkp) t (by rw[hok2];simpa using hd2) (U3 hxi)
      ·rename_i hki
       simp[WY,VRel]
    | const v=>simp only[XA,WY,Act.eval];exact UZ v
    | global g=>simp only[XA,WY,Act.eval];exact Qat g _ (inv.heap.gl.less fun b hb=>Qa7 hb)
    | func f=>simp only[XA,WY,Act.eval,VRel];exact ⟨[],rfl,by simp[QK]⟩
  have next:∀ (mj:LM) (w':World) (c:Value),HRel mj (xAt S ch hd ops.size D j m X) (VU (hd j) (S (j+1))) w'→Step (S j).length (mAt S j m) (xAt S ch hd ops.size D j m X) w mj w' →
    VRel mj (xAt S ch hd ops.size D j m X) w' (r j) c→wpOpsIn (wfen ro) 0 P ops Qc l (ac.put o.dst c) w':=by
   intro mj w' c hh hst hv
   obtain ⟨m',inv',hst'⟩:=inv.step h hlen hok hn0 hjn hjD hpj hoj hij hdst hh hst hv
   exact RD_go h hok hc hcl0 hv0 hn0 l (j::D) m' w' _ hs' inv' fun m2 ac2 w2 h1 h2=>hk m2 ac2 w2 h1 (hst'.trans h2)
  have hop:=h.op j i hij
  split at hop
  ·exact hop.elim
  ·rename_i hg
   rw[hgdr _ hg]
   simp only[QT,if_false]
   refine ⟨fun _ _=>trivial,next _ w Go.undef ?_ (Step.refl _ _ _ _) ?_⟩
   ·rw[hop.2];exact hrj
   ·rw[hop.1];simp[VRel,QK,Go.undef]
  ·rename_i hg
   rw[hgdr _ hg]
   simp only[if_true]
   refine ⟨fun _ _=>trivial,?_⟩
   have hHl:(VU (hd j) (S j)).length=(S j).length:=YA _ _
   generalize has:i.args.map (WY (V j) ((List.range j).map r))=as at hop
   cases hiop:i.op with
   | prim io =>
    rw[hiop] at hop
    dsimp only at hop
    obtain ⟨os',hco,hia,_,_⟩:=VC hi hiop
    have hrel:=hargs os' (fun x hx=>by rw[hia];exact hx)
    rw[← hia,has] at hrel
    obtain ⟨nx,w',mj,hrun,hres,hh,hst⟩:=FV hco hrj hrel hop
    rw[hHl] at hst
    rw[Oper.semAt_eq _ _ _ (YY hco),hrun]
    rcases hres with ⟨c,rfl,hv⟩ | ⟨rfl,hr⟩
    ·exact next mj w' c hh hst hv
    ·exact next mj w' Go.undef hh hst (by rw[hr];simp[VRel])
   | call =>
    rw[hiop] at hop
    cases as with
    | nil=>exact hop.elim
    | cons fv as =>
    dsimp only at hop
    obtain ⟨f,args,at_,hop',hia,_,_⟩:=DR hi hiop
    have hrel:=hargs (f::args.toList) (fun x hx=>by rw[hia];exact hx)
    rw[← hia,has] at hrel
    obtain ⟨fc,us,he,hfv,hrest⟩:=hrel.cons
    simp only[Q0,List.cons.injEq] at he
    obtain ⟨rfl,rfl⟩:=he
    have hnd:∀ c,o.op≠.defer c:=by rw[hop'];simp
    rw[Oper.semAt_eq _ _ _ hnd]
    have hex:execOp ac.eval o=(do let d ← resolve ac.eval { callee:=.value f,args,argTypes:=at_ } o.type;invoke d.target d.args):=by
     simp only[execOp,hop']
    rw[hex]
    unfold X0 at hop
    split at hop
    ·rename_i g cap
     simp only[VRel] at hfv
     obtain ⟨vs,hfe,hcap⟩:=hfv
     have hrun:(do let d ← resolve ac.eval { callee:=.value f,args,argTypes:=at_ } o.type;invoke d.target d.args:Sem Next).run P w=.ok (.enter g ((args.toList.map ac.eval)++vs).toArray) w:=by
      simp only[resolve,hfe,Deferred.ofValue,Sem.run_bind,Sem.run_pure,Result.andThen_ok,invoke]
      rw[hop.1]
      congr 2
      apply Array.ext';simp
     rw[hrun]
     refine ⟨by simp[wfen,Fence.wide],?_⟩
     have hcall:=hop.2 _ _ w _ (QK.append hrest hcap) hrj
     refine CallsIn.mono (F:=wfen ro) (n:=0) hcall ?_
     rintro e w' ⟨c,r',σ',mj,rfl,⟨rfl,rfl⟩,hv,hh,hst,_⟩
     rw[hHl] at hst
     exact next mj w' c hh hst hv
    ·rename_i g first
     simp only[VRel] at hfv
     obtain ⟨vs,hfe,hcap⟩:=hfv
     have hrun:(do let d ← resolve ac.eval { callee:=.value f,args,argTypes:=at_ } o.type;invoke d.target d.args:Sem Next).run P w=.ok (.enter g (vs++(args.toList.map ac.eval)).toArray) w:=by
      simp only[resolve,hfe,Deferred.ofValue,Sem.run_bind,Sem.run_pure,Result.andThen_ok,invoke]
      rw[hop.1]
      congr 2
      apply Array.ext';simp
     rw[hrun]
     refine ⟨by simp[wfen,Fence.wide],?_⟩
     have hcall:=hop.2 _ _ w _ (QK.append hcap hrest) hrj
     refine CallsIn.mono (F:=wfen ro) (n:=0) hcall ?_
     rintro e w' ⟨c,r',σ',mj,rfl,⟨rfl,rfl⟩,hv,hh,hst,_⟩
     rw[hHl] at hst
     exact next mj w' c hh hst hv
    ·rename_i lc
     simp only[VRel] at hfv
     obtain ⟨b,hb,hfe⟩:=hfv
     obtain ⟨L,hL,hsz,hround⟩:=hop _ _ w _ b hb hrest hrj
     have hrun:(do let d ← resolve ac.eval { callee:=.value f,args,argTypes:=at_ } o.type;invoke d.target d.args:Sem Next).run P w=.ok (.round b L.fn ((L.params.zip (args.toList.map ac.eval).toArray).foldl (fun tmps (t,a)=>tmps.setIfInBounds t a) L.tmps) L.assign L.body) w:=by
      simp only[resolve,hfe,Deferred.ofValue,Sem.run_bind,Sem.run_pure,Result.andThen_ok,invoke]
      have e:#[]++args.map ac.eval=(args.toList.map ac.eval).toArray:=by apply Array.ext';simp
      rw[e]
      exact run_yield hL (by simpa using hsz)
     rw[hrun]
     refine ⟨by simp[wfen,Fence.wide],?_⟩
     refine RoundIn.mono (F:=wfen ro) (n:=0) hround ?_
     rintro e w' ⟨c,r',σ',mj,rfl,⟨rfl,rfl⟩,hv,hh,hst,_⟩
     rw[hHl] at hst
     exact next mj w' c hh hst hv
    ·exact hop.elim
end Go.Proofs.YtgkidpolomhghaaGreatDoor.AM
namespace Go.Proofs.YtgkidpolomhghaaGreatDoor.AM
variable [Dr]
open Go
variable {P:Program} {fx:Fx} {m:LM} {X:Nat→Prop} {en:En} {w:World} {s:St} {Q:Exit→St→Prop}
theorem SRel.drew {ac:Act} (h:SRel fx m X en s ac w):SRel fx m X en s ac w.drew :=
 have hs:Step s.heap.length m X w m w.drew:=Step.of_heap rfl rfl rfl rfl (XE _)
 h.of_heap (h.heap.of_heap rfl) hs (QG _)
theorem SRel.vals_locs {ac:Act} (h:SRel fx m X en s ac w) (hl:s.vals.length≤fx.vars.length):QO s.heap.length s.vals=true:=by
 have key:∀ (vs:List AV) (n:Nat),(∀ i,i<vs.length→QR n (vs.getD i .undef)=true)→QO n vs=true:=by
  intro vs n
  induction vs with
  | nil=>intro _;rfl
  | cons v vs ih =>
   intro hall
   simp only[QO,QD]
   exact ⟨by simpa[List.getD] using hall 0 (by simp),ih fun i hi=>by simpa[List.getD] using hall (i+1) (by simp;omega)⟩
 refine key _ _ fun i hi=>?_
 have hlt:i<fx.vars.length:=by omega
 exact VRel.locs (fun l b hb=>(h.heap.dom l b hb).1) _ _ (h.vars i fx.vars[i] (QI hlt))
theorem PG {id:Nat} {ops:Array Oper} {is:List Ins} {V:Nat→List AV} {r:Nat→AV} {S:Nat→List AObj} {pd:Nat→List Nat} {ch hd:Nat→Nat→Bool} (hmix:P.follows .mixedOrders=true)
  (hc:VY P fx.vars fx.N ops=some is) (hF:Free P fx ops is V r S pd ch hd) (hV:V 0=s.vals) (hS:S 0=s.heap) (hQ:Q .normal ⟨V ops.size,S ops.size⟩):W P fx (.region id ops true) s Q:=by
 intro m X en ac w hs hr
 unfold VY at hc
 split at hc
 ·rename_i hok
  refine wpIn_region_draw fun t=>?_
  have hsch:Region.schedule (P.follows .mixedOrders) ops t=Region.linearise .any ops t:=by simp[Region.schedule,hmix]
  rw[hsch]
  have hs':SRel fx m X en s ac w.drew:=hs.drew
  have hst:Step fx.n0 m X w m w.drew:=Step.of_heap rfl rfl rfl rfl (XE _)
  have hlen:=(hF.size hc).1
  have hvl:s.vals.length≤fx.vars.length:=by rw[← hV,hF.V0];exact QG _
  refine RD_go (X:=X) (en:=en) (ro:=fx.r.bind m) hF hok hc ?_ ?_ ?_ _ [] m w.drew ac (FR hF.back t) ?_ ?_
  ·intro l o ho;rw[hS] at ho ⊢;exact hs.heap.closed l o ho
  ·rw[hS,hV];exact hs.vals_locs hvl
  ·rw[hS];exact hs.base
  ·have hnone:∀ (p:Nat→Bool),(∀ k,p k=false)→lastOf p ops.size=none:=fun p hp=>by
    rw[F1 (j:=0) (QF _) fun k _ _=>hp k];rfl
   refine ⟨by simp,by simp,hs'.size,?_,by simp,hs'.defs,?_,?_,hs'.entry⟩
   ·intro i t hi
    have:vAt is r (V 0) ops.size (fun k=>decide (k∈([]:List Nat))) i=(V 0).getD i .undef:=by
     simp only[vAt];rw[hnone _ (by simp)]
    rw[this,hV];exact hs'.vars i t hi
   · -- the heap at the start: what is made later is not there yet
    have hle:=hF.le' (QF _) (QG ops.size)
    have hget:∀ (l:Nat) (o:AObj),(hAt S ch ops.size fun k=>decide (k∈([]:List Nat)))[l]? = some o→o.live→(S 0)[l]? = some o:=by
     intro l o ho hv
     have hl:l<(S ops.size).length:=by have:=(QH.1 ho).1;simpa[hAt] using this
     rw[LH hl] at ho
     have:oAt S ch ops.size (fun k=>decide (k∈([]:List Nat))) l=(S 0)[l]? := by
      simp only[oAt];rw[hnone _ (by simp)]
     rw[this] at ho
     cases h0:(S 0)[l]? with
     | none=>rw[h0] at ho;simp at ho;subst ho;exact hv.elim
     | some o'=>rw[h0] at ho;simpa using ho
    have hh:=hs'.heap
    rw[hS] at hget hle
    refine ⟨hh.xb,fun l b hb=>?_,?_,?_,?_,hh.gl⟩
    ·have:=hh.dom l b hb;exact ⟨by simp[hAt];omega,this.2⟩
    ·intro l b o hb ho hv;exact hh.own l b o hb (hget l o ho hv) hv
    ·intro l l' b o hb hb' ho hv;exact hh.inj l l' b o hb hb' (hget l' o ho hv) hv
    ·intro l o ho
     by_cases hv:o.live
     ·exact hh.obj l o (hget l o ho hv)
     ·cases o <;> simp[AObj.live] at hv
      simp[ORel]
   ·intro l hl _
    cases hml:m l with
    | none=>rfl
    | some b=>have:=(hs.heap.dom l b hml).1;rw[hS] at hl;omega
  ·intro m' ac' w' h1 h2
   exact ⟨_,m',hQ,h1,hst.trans h2⟩
 ·cases hc
def JM (vars:List Nat):List Nat→List AV→List AV→List AV
 | t::ts,a::as,vals=>JM vars ts as (setD (vars.idxOf? t) vals a)
 | _,_,vals=>vals
theorem TD {vars:List Nat} (hvn:vars.Nodup):∀ (ts:List Nat) (as:List AV) (cs:List Value) (vals:List AV) (tmps:Array Value),as.length=ts.length→QK m X w as cs→(∀ t∈ts,t<tmps.size)→(∀ t∈ts,t∈vars)→vals.length≤vars.length→ARel m X w vars vals tmps →
  ARel m X w vars (JM vars ts as vals) ((ts.zip cs).foldl (fun tmps (t,a)=>tmps.setIfInBounds t a) tmps)∧((ts.zip cs).foldl (fun tmps (t,a)=>tmps.setIfInBounds t a) tmps).size=tmps.size∧(JM vars ts as vals).length=vals.length
 | [],as,cs,vals,tmps,hl,ha,ht,hv,hlen,har=>by
  have:as=[]:=ZT (by simpa using hl)
  subst this;simpa[JM] using har
 | t::ts,[],cs,vals,tmps,hl,ha,ht,hv,hlen,har=>by simp at hl
 | t :: ts,a::as,cs,vals,tmps,hl,ha,ht,hv,hlen,har=>by
  obtain ⟨c,cs',rfl,h1,h2⟩:=ha.cons
  simp only[JM,List.zip_cons_cons,List.foldl_cons]
  have htN:=ht t (by simp)
  have har':ARel m X w vars (setD (vars.idxOf? t) vals a) (tmps.setIfInBounds t c):=by
   intro k u hk
   have getD_set:∀ u,(tmps.setIfInBounds t c).getD u Go.undef=if u=t then c else tmps.getD u Go.undef:=by
    intro u
    simp only[QV]
    by_cases hu:u=t
    ·subst hu;simp[htN]
    ·rw[if_neg hu,W2 (fun h=>hu h.symm)]
   rw[getD_set]
   cases hi:vars.idxOf? t with
   | none=>exact absurd (hv t (by simp)) (U3 hi)
   | some i =>
    have hit:=Y9 hi
    simp only[setD]
    by_cases hki:k=i
    ·subst hki;rw[hit] at hk;cases hk
     rw[if_pos rfl]
     rcases ZB k vals.length with h | h
     ·simp[List.getD,h];exact h1
     ·rw[KE h];simp[List.getD,QN h,VRel]
    ·have hut:u≠t:=by
      rintro rfl
      have hkl:k<vars.length:=(QH.1 hk).1
      exact hki ((List.getElem?_inj hkl hvn).1 (hk.trans hit.symm))
     rw[if_neg hut]
     have:(vals.set i a).getD k .undef=vals.getD k .undef:=by simp only[List.getD];rw[QU (fun h=>hki h.symm)]
     rw[this];exact har k u hk
  have hlen':(setD (vars.idxOf? t) vals a).length=vals.length:=by unfold setD;split <;> simp
  obtain ⟨g1,g2,g3⟩:=TD hvn ts as cs' _ _ (by simpa using hl) h2 (fun u hu=>by simpa using ht u (by simp[hu])) (fun u hu=>hv u (by simp[hu])) (by rw[hlen'];exact hlen) har'
  exact ⟨g1,by rw[g2];simp,by rw[g3,hlen']⟩
def setLoop (σ:List AObj) (l:Nat) (r:XC) (st:LoopState) (p:Option Code):List AObj:=σ.set l (.loop { r with state:=st,pending:=p })
def GQ:Exit→Option Code
 | .ret=>some .ret
 | .exit i=>some (.exit i)
 | .goto t=>some (.goto t)
 | _=>none
theorem HRel.loop (h:HRel m X s.heap w) {l b:Nat} {r:XC} (hm:m l=some b) (hl:s.heap[l]? = some (.loop r)):∃ (tmps:Array Value) (d fi:Nat),tmps.size=r.ntmps∧ARel m X w r.vars r.vals tmps ∧
  w.heap[b]? = some (.loop { state:=r.state,pending:=r.pending,fn:=fi,tmps,params:=r.params.toArray,assign:=r.assign,body:=r.body,defers:=d })∧r.vals.length≤r.vars.length∧∀ f,r.fi=some f→fi=f:=by
 have:=h.obj l _ hl
 rw[hm] at this
 simpa only[ORel] using this
theorem HRel.setLoop {σ:List AObj} (h:HRel m X σ w) {l b:Nat} {r:XC} (hm:m l=some b) (hl:σ[l]? = some (.loop r)) {L:Loop} (hL:w.heap[b]? = some (.loop L)) (st:LoopState) (p:Option Code) :
  HRel m X (setLoop σ l r st p) (w.putObj b (.loop { L with state:=st,pending:=p }))∧Step σ.length m X w m (w.putObj b (.loop { L with state:=st,pending:=p }))∧Mono m X w m X (w.putObj b (.loop { L with state:=st,pending:=p })):=by
 have hr:=h.obj l _ hl
 rw[hm] at hr
 simp only[ORel] at hr
 obtain ⟨tmps,d,fi,h1,h2,h3,h4⟩:=hr
 rw[h3] at hL;cases hL
 refine h.turn hm hl trivial (YZ.obj w _ h3 (by simp)) fun hmn=>?_
 simp only[ORel]
 exact ⟨tmps,d,fi,h1,h2.mono hmn,World.putObj_heap_same (lt_of_heap h3),h4⟩
theorem N5 {l:Nat} {σ:List AObj} {r:XC} {args:List AV} {Q:AV→List AObj→Prop} (hl:σ[l]? = some (.loop r)) (hst:r.state=.ready) (hargs:args.length=r.params.length) (hvn:r.vars.Nodup) (hpv:∀ t∈r.params,t∈r.vars) (hpN:∀ t∈r.params,t<r.ntmps)
  (h : W P ⟨r.vars,r.ntmps,some l,σ.length⟩ r.assign ⟨JM r.vars r.params args r.vals,σ⟩ fun e s1=>match e with
   | .normal=>∃ r1,s1.heap[l]? = some (.loop r1)∧r1.state=.ready ∧
     W P ⟨r.vars,r.ntmps,some l,σ.length⟩ r.body ⟨s1.vals,setLoop s1.heap l r1 .busy r1.pending⟩ fun e s2=>match e with
      | .panic _ | .outgrown=>False
      | e=>∃ r2,s2.heap[l]? = some (.loop r2)∧Q (.b (GQ e).isNone) (setLoop s2.heap l r2 (if (GQ e).isNone then .ready else .done) (GQ e))
   | _=>False):YC P l args σ Q:=by
 intro m X w cargs b hb ha hh
 have hrl:=hh.obj l _ hl
 rw[hb] at hrl
 simp only[ORel] at hrl
 obtain ⟨tmps,d,fi,h1,h2,h3,h4⟩:=hrl
 have hlen:=ha.length
 refine ⟨_,h3,by simp;omega,?_⟩
 obtain ⟨g1,g2,g3⟩:=TD hvn r.params args cargs r.vals tmps hargs ha (fun t ht=>by rw[h1];exact hpN t ht) hpv h4.1 h2
 have hzip:(r.params.toArray.zip cargs.toArray).foldl (fun tmps (x:Nat × Value)=>tmps.setIfInBounds x.1 x.2) tmps=(r.params.zip cargs).foldl (fun tmps (x:Nat × Value)=>tmps.setIfInBounds x.1 x.2) tmps:=by
  simp
 have hlσ:l<σ.length:=(hh.dom l b hb).1
 have hs0:SRel ⟨r.vars,r.ntmps,some l,σ.length⟩ m X ⟨w.heap.size,[]⟩ ⟨JM r.vars r.params args r.vals,σ⟩ { tmps:=(r.params.zip cargs).foldl (fun tmps (x:Nat × Value)=>tmps.setIfInBounds x.1 x.2) tmps,defers:=[] } w :=
  ⟨by rw[g2];exact h1,g1,⟨[],rfl,YU,by simp⟩,hh,QG _,QG _⟩
 have hrok:rok ⟨r.vars,r.ntmps,some l,σ.length⟩ m:=by intro x hx;cases hx;exact ⟨hlσ,b,hb⟩
 have hfen:fen m (some l)=Fence.wide.inRound b:=by simp[fen,Fence.inRound,hb]
 refine roundIn_of_wpIn (F:=Fence.wide) (n:=0) trivial ?_
 dsimp only
 rw[hzip]
 have key:=h m X ⟨w.heap.size,[]⟩ _ w hs0 hrok
 rw[show fen m (Fx.r ⟨r.vars,r.ntmps,some l,σ.length⟩)=Fence.wide.inRound b from hfen] at key
 refine wpIn_mono key ?_
 rintro e a1 w1 ⟨s1,m1,hq,hs1,hst1⟩
 cases e with
 | normal =>
  obtain ⟨r1,hl1,hr1,hbody⟩:=hq
  have hb1:m1 l=some b:=by rw[hst1.keep l hlσ];exact hb
  obtain ⟨tm1,d1,fi1,k1,k2,k3,k4⟩:=hs1.heap.loop hb1 hl1
  rw[hr1] at k3
  refine ⟨_,run_beginRound k3 rfl,?_⟩
  obtain ⟨u1,u2,u3⟩:=hs1.heap.setLoop hb1 hl1 (by rw[← hr1] at k3;exact k3) .busy r1.pending
  have hs1':=hs1.of_heap u1 u2 (by simp[AM.setLoop])
  have e1:({ ({ state:=r1.state,pending:=r1.pending,fn:=fi1,tmps:=tm1,params:=r1.params.toArray,assign:=r1.assign,body:=r1.body,defers:=d1 }:Loop) with state:=.busy,pending:=r1.pending }:Loop) = { ({ state:=.ready,pending:=r1.pending,fn:=fi1,tmps:=tm1,params:=r1.params.toArray,assign:=r1.assign,body:=r1.body,defers:=d1 }:Loop) with state:=.busy }:=rfl
  rw[e1] at hs1' u1 u2 u3
  have hst1':=hst1.trans (u2.less hs1.base)
  have key2:=W.later hbody hrok hs1' hst1'
  rw[show fen m (Fx.r ⟨r.vars,r.ntmps,some l,σ.length⟩)=Fence.wide.inRound b from hfen] at key2
  refine wpIn_mono key2 ?_
  rintro e a2 w2 ⟨s2,m2,hq2,hs2,hst2⟩
  have fin:∀ (jmp:Option Code),(∃ r2,s2.heap[l]? = some (.loop r2)∧Q (.b jmp.isNone) (AM.setLoop s2.heap l r2 (if jmp.isNone then .ready else .done) jmp))→∃ v w',(Instr.endRound b jmp).run P w2=.ok v w'∧OT m X w σ Q (.returned v) w':=by
   rintro jmp ⟨r2,hl2,hQ⟩
   have hb2:m2 l=some b:=by rw[hst2.keep l hlσ];exact hb
   obtain ⟨tm2,d2,fi2,v1,v2,v3,v4⟩:=hs2.heap.loop hb2 hl2
   obtain ⟨x1,x2,x3⟩:=hs2.heap.setLoop hb2 hl2 v3 (if jmp.isNone then .ready else .done) jmp
   refine ⟨.bool jmp.isNone,_,run_endRound jmp v3,_,_,_,m2,rfl,hQ,?_,x1,hst2.trans (x2.less hs2.base),?_⟩
   ·exact VRel.mk_bool _
   ·simp only[AM.setLoop,WE];exact hs2.base
  cases e with
  | normal=>exact fin none hq2
  | ret=>exact fin (some .ret) hq2
  | exit i=>exact fin (some (.exit i)) hq2
  | goto t=>exact fin (some (.goto t)) hq2
  | panic c=>exact hq2.elim
  | outgrown=>exact hq2.elim
 | ret=>exact hq.elim
 | exit i=>exact hq.elim
 | goto t=>exact hq.elim
 | panic c=>exact hq.elim
 | outgrown=>exact hq.elim
end Go.Proofs.YtgkidpolomhghaaGreatDoor.AM

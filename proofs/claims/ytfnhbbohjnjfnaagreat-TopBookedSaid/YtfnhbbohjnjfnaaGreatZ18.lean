/- Parts of the proof, joined: BkC4 to BkD2. -/
import Derived.Test.YtfnhbbohjnjfnaaGreatZ17
set_option linter.unusedVariables false
set_option linter.unusedSimpArgs false
set_option linter.unusedSectionVars false
namespace Go.Proofs.YtfnhbbohjnjfnaaGreat.AM
variable [Dr]
open Go Go.Proofs.YtfnhbbohjnjfnaaGreat.Qu Pl
structure Le where
 l:Int
 c:Int
 s:Int
 h:Int
 t:Int
instance:Inhabited Le:=⟨⟨0,0,0,0,0⟩⟩
def leC (x:Le):List CV:=[.int .i64 x.l,.int .i64 x.c,.int .i64 x.s,.int .i64 x.h,.int .i64 x.t]
theorem leC_len5 (x:Le):(leC x).length=5:=rfl
abbrev lesX (ls:List Le):List AV:=(ls.flatMap leC).map .cv
structure LeOk (x:Le):Prop where
 s:0≤x.s∧x.s≤5000
 h:0≤x.h∧x.h≤100
def LsAt (σ:List AObj) (lv:AV) (ls:List Le):Prop:=(lv=.cv .nils∧ls=[])∨∃ p,lv=.sl p 0 ls.length 5∧rowOf σ p=some (lesX ls)
section
variable {ls:List Le} {i:Nat}
end
structure BK₀ where
 ws:List ByteArray
 cs:List Car
 pr:Int
 ex:Int
 lo:Int
 hi:Int
 tc:CV
 k:Nat
 s:Nat
 c:Nat
 w:Nat
abbrev bX (b:BK₀) (lv pv:AV) (tm ev:Int):List AV:=[.cv (.rsl (b.ws.map CV.str) b.ws.length),carL b.cs,.i b.pr,.i b.ex,.i b.lo,.i b.hi,.cv b.tc,lv,.sl b.k 0 b.cs.length 1,.sl b.s 0 b.cs.length 1,.sl b.c 0 (b.ws.length+4) 1,.map b.w,pv,.i tm,.i ev]
structure BOk (b:BK₀):Prop where
 w8:b.ws.length≤8
 c5:b.cs.length≤5
 ne:∀ i,i<b.cs.length→binF .and .int (.i (b.cs[i]!).ne) (.i 0)=some (.i 0)
structure Fit (b:BK₀) (l c s h:Nat) (at_:Nat):Prop where
 fl:l<b.ws.length
 fc:c<b.cs.length
 f1:1≤h
 f4:h≤4
 fs:s≤4800
 fa:at_<s
 lo:b.lo≤((s % 24:Nat):Int)
 hi:((s % 24+h:Nat):Int)≤b.hi
theorem out_at (lo hi a:Int) (h:lo≤a∧a≤hi) {σ:List AObj} {l:Nat} (hr:rowOf σ l=some [.i a]) {K:AV→List AObj→Prop} (hk:K (.b false) σ):AC Tryz.prog 45 [.i lo,.i hi,.sl l 0 1 1] σ K :=
 (out_in lo hi a h).call (.cons (.c (.c _ trivial)) (.cons (.c (.c _ trivial)) (.cons (frz_one (fun _=>trivial) hr) .nil))) hk
structure Po where
 e:Int
 f:Int
 t:Int
 c:Int
instance:Inhabited Po:=⟨⟨0,0,0,0⟩⟩
def poC (x:Po):List CV:=[.int .i64 x.e,.int .i64 x.f,.int .i64 x.t,.int .i64 x.c]
theorem poC_len (x:Po):(poC x).length=4:=rfl
abbrev posX (ps:List Po):List AV:=(ps.flatMap poC).map .cv
def PsAt (σ:List AObj) (pv:AV) (ps:List Po):Prop:=(pv=.cv .nils∧ps=[])∨∃ p,pv=.sl p 0 ps.length 4∧rowOf σ p=some (posX ps)
structure BS₀ where
 ls:List Le
 km:List Int
 sn:List Int
 ac:List Int
 wm:List (AV × AV)
 ps:List Po
 tm:Int
 ev:Int
def slOf:AV→List Nat
 | .sl l _ _ _=>[l]
 | _=>[]
structure BkAt (σ:List AObj) (a:Nat) (b:BK₀) (st:BS₀) (lv pv:AV) (O:List (Nat × AObj)):Prop where
 hX:rowOf σ a=some (bX b lv pv st.tm st.ev)
 hk:rowOf σ b.k=some (st.km.map AV.i)
 hs:rowOf σ b.s=some (st.sn.map AV.i)
 hc:rowOf σ b.c=some (st.ac.map AV.i)
 hm:mapOf σ b.w=some st.wm
 hl:LsAt σ lv st.ls
 hp:PsAt σ pv st.ps
 hO:∀ o∈O,σ[o.1]? = some o.2
 nd:(a::b.k::b.s::b.c::b.w::(slOf lv++(slOf pv++O.map (·.1)))).Nodup
 pn:st.ps=[]→pv=.cv .nils
def Same (E:List Nat) (σ τ:List AObj):Prop:=∀ l,l<σ.length→l∉E→τ[l]? = σ[l]?
theorem Same.row {E:List Nat} {σ τ:List AObj} (h:Same E σ τ) {l:Nat} {cs:List AV} (hr:rowOf σ l=some cs) (hn:l∉E):rowOf τ l=some cs:=by
 have h1:=WO hr
 unfold rowOf
 rw[h l (QH.1 h1).1 hn,h1]
theorem Same.map {E:List Nat} {σ τ:List AObj} (h:Same E σ τ) {l:Nat} {es:List (AV × AV)} (hr:mapOf σ l=some es) (hn:l∉E):mapOf τ l=some es:=by
 unfold mapOf at hr ⊢
 cases hg:σ[l]? with
 | none=>rw[hg] at hr;cases hr
 | some o=>rw[h l (QH.1 hg).1 hn,hg];rw[hg] at hr;exact hr
theorem Same.app {σ:List AObj} (E:List Nat) (J:List AObj):Same E σ (σ++J):=fun l hl _=>QE hl
theorem Same.set {E:List Nat} {σ τ:List AObj} (h:Same E σ τ) {l:Nat} (hl:l∈E∨σ.length≤l) (o:AObj):Same E σ (τ.set l o):=fun x hx hn=>by
 rw[QU]
 ·exact h x hx hn
 ·rintro rfl
  rcases hl with hl | hl
  ·exact hn hl
  ·omega
theorem Same.push {E:List Nat} {σ τ:List AObj} (h:Same E σ τ) (hl:σ.length≤τ.length) (J:List AObj):Same E σ (τ++J):=fun x hx hn=>by
 rw[QE (by omega)];exact h x hx hn
theorem Same.trans {E:List Nat} {σ τ ρ:List AObj} (h:Same E σ τ) (k:Same E τ ρ) (hl:σ.length≤τ.length):Same E σ ρ:=fun x hx hn=>by rw[k x (by omega) hn,h x hx hn]
section
variable {σ τ:List AObj} {a:Nat} {b:BK₀} {st:BS₀} {lv pv:AV} {O:List (Nat × AObj)}
theorem row_lt {l:Nat} {cs:List AV} (h:rowOf σ l=some cs):l<σ.length:=(QH.1 (WO h)).1
theorem map_lt {l:Nat} {es:List (AV × AV)} (h:mapOf σ l=some es):l<σ.length:=by
 unfold mapOf at h
 cases hg:σ[l]? with
 | none=>rw[hg] at h;cases h
 | some o=>exact (QH.1 hg).1
theorem LsAt.loc {ls:List Le} (h:LsAt σ lv ls):∀ l∈slOf lv,l<σ.length:=by
 rcases h with ⟨rfl,_⟩ | ⟨p,rfl,hp⟩
 ·intro l hl;simp[slOf] at hl
 ·intro l hl;simp[slOf] at hl;subst hl;exact row_lt hp
theorem PsAt.loc {ps:List Po} (h:PsAt σ pv ps):∀ l∈slOf pv,l<σ.length:=by
 rcases h with ⟨rfl,_⟩ | ⟨p,rfl,hp⟩
 ·intro l hl;simp[slOf] at hl
 ·intro l hl;simp[slOf] at hl;subst hl;exact row_lt hp
theorem LsAt.same {E:List Nat} {ls:List Le} (h:LsAt σ lv ls) (hS:Same E σ τ) (hn:∀ l∈slOf lv,l∉E):LsAt τ lv ls:=by
 rcases h with h | ⟨p,rfl,hp⟩
 ·exact .inl h
 ·exact .inr ⟨p,rfl,hS.row hp (hn p (by simp[slOf]))⟩
theorem PsAt.same {E:List Nat} {ps:List Po} (h:PsAt σ pv ps) (hS:Same E σ τ) (hn:∀ l∈slOf pv,l∉E):PsAt τ pv ps:=by
 rcases h with h | ⟨p,rfl,hp⟩
 ·exact .inl h
 ·exact .inr ⟨p,rfl,hS.row hp (hn p (by simp[slOf]))⟩
theorem BkAt.lt (h:BkAt σ a b st lv pv O):∀ l∈a::b.k::b.s::b.c::b.w::(slOf lv++(slOf pv++O.map (·.1))),l<σ.length:=by
 intro l hl
 simp only[ZD,YV,ZP] at hl
 rcases hl with rfl | rfl | rfl | rfl | rfl | hl | hl | ⟨o,ho,rfl⟩
 ·exact row_lt h.hX
 ·exact row_lt h.hk
 ·exact row_lt h.hs
 ·exact row_lt h.hc
 ·exact map_lt h.hm
 ·exact h.hl.loc l hl
 ·exact h.hp.loc l hl
 ·exact (QH.1 (h.hO o ho)).1
theorem BkAt.turn (h:BkAt σ a b st lv pv O) {st':BS₀} {lv' pv':AV} (hS:Same (a::b.c::(slOf lv++slOf pv)) σ τ)
  (hX:rowOf τ a=some (bX b lv' pv' st'.tm st'.ev)) (hk:st'.km=st.km) (hs:st'.sn=st.sn) (hc:rowOf τ b.c=some (st'.ac.map AV.i)) (hw:st'.wm=st.wm)
  (hl:LsAt τ lv' st'.ls) (hp:PsAt τ pv' st'.ps) (hlv:slOf lv'=slOf lv∨∃ l,σ.length≤l∧slOf lv'=[l]) (hpv:slOf pv'=slOf pv∨∃ l,σ.length≤l∧slOf pv'=[l]) (hd:∀ l∈slOf lv',l∉slOf pv') (hpn:st'.ps=[]→pv'=.cv .nils) :
  BkAt τ a b st' lv' pv' O:=by
 have hlt:=h.lt
 obtain ⟨x1,x2,x3,x4,x5,x6,x7,x8,nd,_⟩:=h
 simp only[WQ,ZD,YV,not_or,List.nodup_append] at nd
 simp only[ZD,YV] at hlt
 obtain ⟨⟨n1,n2,n3,n4,n5,n6,n7⟩,⟨n8,n9,n10,n11,n12,n13⟩,⟨n14,n15,n16,n17,n18⟩,⟨n19,n20,n21,n22⟩,⟨n23,n24,n25⟩,n26,⟨n27,n28,n29⟩,n30⟩:=nd
 have fl:∀ l∈slOf lv',l∈slOf lv∨σ.length≤l:=fun l hl=>by
  rcases hlv with e | ⟨x,hx,e⟩
  ·rw[e] at hl;exact .inl hl
  ·rw[e] at hl;simp at hl;subst hl;exact .inr hx
 have fp:∀ l∈slOf pv',l∈slOf pv∨σ.length≤l:=fun l hl=>by
  rcases hpv with e | ⟨x,hx,e⟩
  ·rw[e] at hl;exact .inl hl
  ·rw[e] at hl;simp at hl;subst hl;exact .inr hx
 have nl:(slOf lv').Nodup:=by unfold slOf;split <;> simp
 have np:(slOf pv').Nodup:=by unfold slOf;split <;> simp
 have no:∀ {x:Nat},x<σ.length→x∉slOf lv→x∉slOf lv':=fun hx hn hm=>by rcases fl _ hm with h | h;exact hn h;omega
 have no2:∀ {x:Nat},x<σ.length→x∉slOf pv→x∉slOf pv':=fun hx hn hm=>by rcases fp _ hm with h | h;exact hn h;omega
 have mk:b.k∉a::b.c::(slOf lv++slOf pv):=by simp only[ZD,YV,not_or];exact ⟨fun e=>n1 e.symm,n9,n11,n12⟩
 have ms:b.s∉a::b.c::(slOf lv++slOf pv):=by simp only[ZD,YV,not_or];exact ⟨fun e=>n2 e.symm,n14,n16,n17⟩
 have mw:b.w∉a::b.c::(slOf lv++slOf pv):=by simp only[ZD,YV,not_or];exact ⟨fun e=>n4 e.symm,fun e=>n19 e.symm,n23,n24⟩
 refine ⟨hX,by rw[hk];exact hS.row x2 mk,by rw[hs];exact hS.row x3 ms,hc,by rw[hw];exact hS.map x5 mw,hl,hp,fun o ho=>?_,?_,hpn⟩
 ·have hm:o.1∈O.map (·.1):=List.mem_map_of_mem ho
  rw[hS o.1 (QH.1 (x8 o ho)).1]
  ·exact x8 o ho
  ·simp only[ZD,YV,not_or]
   refine ⟨fun e=>n7 (e ▸ hm),fun e=>n22 (e ▸ hm),fun e=>n30 _ e _ (.inr hm) rfl,fun e=>n29 _ e _ hm rfl⟩
 ·simp only[WQ,ZD,YV,not_or,List.nodup_append]
  have la:=hlt a (.inl rfl)
  have lk:=hlt b.k (.inr (.inl rfl))
  have ls:=hlt b.s (.inr (.inr (.inl rfl)))
  have lc:=hlt b.c (.inr (.inr (.inr (.inl rfl))))
  have lw:=hlt b.w (.inr (.inr (.inr (.inr (.inl rfl)))))
  refine ⟨⟨n1,n2,n3,n4,no la n5,no2 la n6,n7⟩,⟨n8,n9,n10,no lk n11,no2 lk n12,n13⟩,⟨n14,n15,no ls n16,no2 ls n17,n18⟩,⟨n19,no lc n20,no2 lc n21,n22⟩,⟨no lw n23,no2 lw n24,n25⟩,nl,⟨np,n28,fun x hx y hy e=>?_⟩,fun x hx y hy e=>?_⟩
  ·subst e
   rcases fp x hx with h | h
   ·exact n29 x h x hy rfl
   ·obtain ⟨o,ho,rfl⟩:=ZP.1 hy
    have:=(QH.1 (x8 o ho)).1;omega
  ·subst e
   rcases hy with hy | hy
   ·exact hd x hx hy
   ·rcases fl x hx with h | h
    ·exact n30 x h x (.inr hy) rfl
    ·obtain ⟨o,ho,rfl⟩:=ZP.1 hy
     have:=(QH.1 (x8 o ho)).1;omega
theorem BkAt.more (h:BkAt σ a b st lv pv O) (o:AObj):BkAt (σ++[o]) a b st lv pv (O++[(σ.length,o)]):=by
 have hlt:=h.lt
 obtain ⟨x1,x2,x3,x4,x5,x6,x7,x8,nd,pn⟩:=h
 have hS:Same [] σ (σ++[o]):=Same.app _ _
 have hn:∀ {x:Nat},x∉([]:List Nat):=fun h=>by cases h
 refine ⟨hS.row x1 hn,hS.row x2 hn,hS.row x3 hn,hS.row x4 hn,hS.map x5 hn,x6.same hS fun _ _=>hn,x7.same hS fun _ _=>hn,fun p hp=>?_,?_,pn⟩
 ·rcases YV.1 hp with hp | hp
  ·rw[QE (QH.1 (x8 p hp)).1];exact x8 p hp
  ·rw[WZ] at hp;subst hp;simp
 ·have e:(a::b.k::b.s::b.c::b.w::(slOf lv++(slOf pv++(O++[(σ.length,o)]).map (·.1))))=(a::b.k::b.s::b.c::b.w::(slOf lv++(slOf pv++O.map (·.1))))++[σ.length]:=by simp
  rw[e,List.nodup_append]
  refine ⟨nd,by simp,fun x hx y hy hxy=>?_⟩
  simp at hy
  subst hy;subst hxy
  have:=hlt _ hx
  omega
theorem BkAt.sub (h:BkAt σ a b st lv pv O) {O':List (Nat × AObj)} (hO:O'.Sublist O):BkAt σ a b st lv pv O':=by
 obtain ⟨x1,x2,x3,x4,x5,x6,x7,x8,nd,pn⟩:=h
 refine ⟨x1,x2,x3,x4,x5,x6,x7,fun o ho=>x8 o (hO.subset ho),nd.sublist ?_,pn⟩
 exact (((((((hO.map _).append_left _).append_left _).cons_cons _).cons_cons _).cons_cons _).cons_cons _).cons_cons _
theorem BkAt.push (h:BkAt σ a b st lv pv O) (J:List AObj):BkAt (σ++J) a b st lv pv O :=
 h.turn (Same.app _ _) (ZH h.hX J) rfl rfl (ZH h.hc J) rfl (h.hl.same (Same.app [] J) fun _ _ h=>by cases h) (h.hp.same (Same.app [] J) fun _ _ h=>by cases h) (.inl rfl) (.inl rfl) (fun l h1 h2=>by
  have nd:=h.nd
  simp only[WQ,List.nodup_append] at nd
  exact nd.2.2.2.2.2.2.2 l h1 l (by simp[h2]) rfl) h.pn
end
theorem sc_cells (cs:List CV):(cs.map AV.cv).all AV.isSc=true:=by
 rw[Q1]
 intro v hv
 obtain ⟨z,_,rfl⟩:=ZP.1 hv
 rfl
theorem closed_cells (cs:List CV):Z3 0 (.cells (cs.map AV.cv))=true:=by
 simp only[Z3]
 rw[Z8]
 intro v hv
 obtain ⟨z,_,rfl⟩:=ZP.1 hv
 rfl
theorem row_append {α:Type} [Inhabited α] {f:α→List CV} {e by_:Nat} (hf:∀ x,(f x).length=e) (he:0<e) {H:List AObj} {lv:AV} {xs:List α} {x:α} {q:Nat}
  (hl:(lv=.cv .nils∧xs=[])∨∃ p,lv=.sl p 0 xs.length e∧rowOf H p=some ((xs.flatMap f).map .cv)) (hq:rowOf H q=some ((f x).map .cv)) (hn:(xs.length+1)*by_≤2 ^ 44) (hn2:xs.length+1≤2 ^ 44) :
  ∃ (v':AV) (τ:List AObj) (z:Nat),ZX e by_ [lv,.sl q 0 1 e] H=some (v',τ)∧v'=.sl z 0 (xs.length+1) e∧H.length≤z∧rowOf τ z=some (((xs++[x]).flatMap f).map .cv)∧Same (slOf lv) H τ∧H.length≤τ.length∧∀ (l:Nat) (o:AObj),τ[l]? = some o→H[l]? = some o∨(Z3 0 o=true∧(H.length≤l→o.live)):=by
 have hsrc:Z9 H e (.sl q 0 1 e)=some ((f x).map .cv):=by
  simp[Z9,hq,hf]
  exact Q5 (by simp[hf])
 have hfx:1*e=((f x).map AV.cv).length:=by simp[hf]
 rcases hl with ⟨rfl,rfl⟩ | ⟨p,rfl,hp⟩
 ·refine ⟨.sl H.length 0 1 e,H++[.cells ((f x).map .cv)],H.length,?_,rfl,QG _,?_,Same.app _ _,by simp,?_⟩
  ·simp only[ZX,hsrc,lenF,Option.bind_some]
   rw[if_neg (by decide),if_pos ⟨hfx,by simpa using hn,by omega,sc_cells _⟩]
  ·rw[XH];simp
  ·intro l o ho
   by_cases hl:l<H.length
   ·rw[QE hl] at ho;exact .inl ho
   ·rw[QS (by omega)] at ho
    obtain ⟨j,hj⟩:∃ j,l-H.length=j:=⟨_,rfl⟩
    rw[hj] at ho
    cases j with
    | zero=>cases ho;exact .inr ⟨closed_cells _,fun _=>trivial⟩
    | succ j=>simp at ho
 ·have hlen:(xs.flatMap f).length=xs.length*e:=UG hf xs
  have hpl:=row_lt hp
  refine ⟨.sl H.length 0 (xs.length+1) e,H.set p .dead++[.cells (((xs++[x]).flatMap f).map .cv)],H.length,?_,rfl,QG _,?_,?_,by simp,?_⟩
  ·simp only[ZX,hp,hsrc,lenF,Option.bind_some]
   rw[if_pos ⟨trivial,by simp[hlen],hfx,hn,hn2,sc_cells _⟩,Q5 (by simp[hlen])]
   simp
  ·have:H.length=(H.set p AObj.dead).length:=by simp
   rw[this,XH]
  ·intro l hl hm
   simp only[slOf,WZ] at hm
   rw[QE (by simpa using hl),QU (fun e=>hm e.symm)]
  ·intro l o ho
   by_cases hl:l<H.length
   ·rw[QE (by simpa using hl)] at ho
    by_cases hlp:p=l
    ·subst hlp;rw[Z2 hl] at ho;cases ho
     exact .inr ⟨rfl,fun h=>by omega⟩
    ·rw[QU hlp] at ho;exact .inl ho
   ·rw[QS (by simp;omega)] at ho
    obtain ⟨j,hj⟩:∃ j,l-(H.set p AObj.dead).length=j:=⟨_,rfl⟩
    rw[hj] at ho
    cases j with
    | zero=>cases ho;exact .inr ⟨closed_cells _,fun _=>trivial⟩
    | succ j=>simp at ho
abbrev bvA (kd at_ l c bk s h d w km ce:Int):AV:=.agg [.i kd,.i at_,.i l,.i c,.i bk,.i s,.i h,.i d,.i w,.i km,.i ce]
structure LsOk (ls:List Le):Prop where
 ok:∀ i,i<ls.length→LeOk ls[i]!
 n:ls.length≤1000
end Go.Proofs.YtfnhbbohjnjfnaaGreat.AM

/- Parts of the proof, joined: AmC to AmC. -/
import GoSem.ClaimKeys
import Derived.Test.YtogjcmnopidfpaaGreatZ1
set_option linter.unusedVariables false
set_option linter.unusedSimpArgs false
set_option linter.unusedSectionVars false
namespace Go.Proofs.YtogjcmnopidfpaaGreat.AM
variable [Dr]
open Go
abbrev AV.i (n:Int):AV:=.cv (.int .i64 n)
abbrev AV.b (b:Bool):AV:=.cv (.bool b)
inductive TK where
 | int | bool | str | ptr | slc | fn
 deriving DecidableEq,Repr
inductive KK where
 | int (k:IntKind) | str | bool
 deriving DecidableEq,Repr
inductive IOp where
 | mv | pick | not
 | bin (op:BinOp) (tk:TK)
 | conv (k:IntKind)
 | alloc (zs:List AV)
 | box
 | build (zs:List AV) (places:List (Nat × Nat))
 | bslice (esz len:Nat) (zs:List AV) (places:List (Nat × Nat))
 | load1
 | loadN (n:Nat)
 | store (n:Nat)
 | nilck
 | mkfn (f:Fn)
 | mkbm (f:FuncId)
 | mkmap
 | mkslice (esz bytes:Nat) (zs:List AV)
 | slA (n esz:Nat) (lo hi:Bool)
 | slS (esz:Nat) (lo hi:Bool)
 | slStr (lo hi:Bool)
 | fadd (off:Nat)
 | fld (off n:Nat) (agg:Bool)
 | iaA (len esz:Nat)
 | iaS (esz:Nat)
 | ixA (len esz n:Nat) (agg:Bool)
 | ixStr
 | extract (i:Nat)
 | len (str:Bool)
 | min2 | max2
 | append (esz bytes:Nat)
 | copy (esz:Nat)
 | clear (zs:List AV)
 | lookup (ks:Bool × List KK) (zs:AV) (ok:Bool)
 | mapset (ks:Bool × List KK)
 | mapdel (ks:Bool × List KK)
 | maplen
 | rstr
 | snext
 | stuck
 | eqS (neg:Bool) (ks:Bool × List KK)
 | mksliceC (esz bytes:Nat) (zs:List AV)
 | slS3
 | cap
 | appendz (esz bytes:Nat) (zs:List AV)
 | mapent (ks:Bool × List KK) (z:AV)
 | entst
def AV.isSc:AV→Bool
 | .agg _ | .tup _ | .undef=>false
 | _=>true
def AV.isUndef:AV→Bool | .undef=>true | _=>false
def cellsOf:AV→List AV
 | .agg cs=>cs
 | v=>[v]
def binI (op:BinOp) (k:IntKind) (x y:Int):Option AV :=
 match op with
 | .add=>some (.cv (.int k (k.wrap (x+y))))
 | .sub=>some (.cv (.int k (k.wrap (x-y))))
 | .mul=>some (.cv (.int k (k.wrap (x*y))))
 | .quo=>if y=0 then none else some (.cv (.int k (k.wrap (x.tdiv y))))
 | .rem=>if y=0 then none else some (.cv (.int k (x.tmod y)))
 | .and=>some (.cv (.int k (k.wrap (BitVec.ofInt k.bits x &&& BitVec.ofInt k.bits y).toNat)))
 | .or=>some (.cv (.int k (k.wrap (BitVec.ofInt k.bits x ||| BitVec.ofInt k.bits y).toNat)))
 | .xor=>some (.cv (.int k (k.wrap (BitVec.ofInt k.bits x ^^^ BitVec.ofInt k.bits y).toNat)))
 | .andNot=>some (.cv (.int k (k.wrap (BitVec.ofInt k.bits x &&& ~~~BitVec.ofInt k.bits y).toNat)))
 | .eql=>some (.b (x == y))
 | .neq=>some (.b (x != y))
 | .lss=>some (.b (decide (x<y)))
 | .leq=>some (.b (decide (x≤y)))
 | .gtr=>some (.b (decide (x>y)))
 | .geq=>some (.b (decide (x≥y)))
 | _=>none
def VK (op:BinOp) (k:IntKind) (x y:Int):Option AV :=
 if y<0 then none else
 match op with
 | .shl=>some (.cv (.int k (k.wrap (x*2 ^ min y.toNat k.bits))))
 | .shr=>some (.cv (.int k (x.fdiv (2 ^ min y.toNat k.bits))))
 | _=>none
def RV:BinOp→Bool | .shl | .shr=>true | _=>false
def binS (op:BinOp) (x y:ByteArray):Option AV :=
 match op with
 | .add=>if x.size+y.size≤2 ^ 62 then some (.cv (.str (x++y))) else none
 | .eql=>some (.b (x.toList == y.toList))
 | .neq=>some (.b (!(x.toList == y.toList)))
 | .lss=>some (.b (Op.bytesLess x.toList y.toList))
 | .leq=>some (.b (Op.bytesLess x.toList y.toList||(x.toList == y.toList)))
 | .gtr=>some (.b (!(Op.bytesLess x.toList y.toList||(x.toList == y.toList))))
 | .geq=>some (.b (!Op.bytesLess x.toList y.toList))
 | _=>none
def K8 (op:BinOp) (r:Bool):Option AV :=
 match op with
 | .eql=>some (.b r)
 | .neq=>some (.b (!r))
 | _=>none
def binF (op:BinOp) (tk:TK) (x y:AV):Option AV :=
 match tk,x,y with
 | .int,.cv (.int k a),.cv (.int k' b)=>if RV op then VK op k a b else if k=k' then binI op k a b else none
 | .bool,.cv (.bool a),.cv (.bool b)=>K8 op (a == b)
 | .str,.cv (.str a),.cv (.str b)=>binS op a b
 | .ptr,.cv .nilp,.cv .nilp=>K8 op true
 | .ptr,.ptr _ _,.cv .nilp=>K8 op false
 | .ptr,.cv (.rp _ _),.cv .nilp=>K8 op false
 | .slc,.cv .nils,.cv .nils=>K8 op true
 | .slc,.sl _ _ _ _,.cv .nils=>K8 op false
 | .fn,.fn _ _,.cv .nilf=>K8 op false
 | .slc,.slc _ _ _ _ _,.cv .nils=>K8 op false
 | .slc,.cv (.rsl _ (_+1)),.cv .nils=>K8 op false
 | _,_,_=>none
def setRange {α:Type} (cs:List α) (off:Nat):List α→List α
 | []=>cs
 | v::vs=>setRange (cs.set off v) (off+1) vs
def YW (n:Nat):List AV→List AV
 | [z]=>List.replicate n z
 | zs=>(List.range (n*zs.length)).map fun i=>zs.getD (i % zs.length) .undef
def HW (zs:List AV):List (Nat × Nat)→List AV→Option (List AV)
 | [],[]=>some zs
 | (off,n)::ps,v::vs=>if (cellsOf v).length=n∧off+n≤zs.length∧v.isUndef=false then HW (setRange zs off (cellsOf v)) ps vs else none
 | _,_=>none
def bnd (x:AV):Option Nat :=
 match x with
 | .cv (.int _ n)=>if 0≤n then some n.toNat else none
 | _=>none
def bnds (lo hi:Bool) (len:Nat) (args:List AV):Option (Nat × Nat) :=
 match lo,hi,args with
 | false,false,[]=>some (0,len)
 | true,false,[l]=>(bnd l).map fun l=>(l,len)
 | false,true,[h]=>(bnd h).map fun h=>(0,h)
 | true,true,[l,h]=>(bnd l).bind fun l=>(bnd h).map fun h=>(l,h)
 | _,_,_=>none
def kkOk:KK→AV→Bool
 | .int k,.cv (.int k' n)=>decide (k'=k)&&(Lit.int k n).wf
 | .str,.cv (.str s)=>decide (s.size≤maxLen)
 | .bool,.cv (.bool _)=>true
 | _,_=>false
def Y4:List KK→List AV→Bool
 | [],[]=>true
 | k::ks,a::as_=>kkOk k a&&Y4 ks as_
 | _,_=>false
def EB:AV→AV→Bool
 | .cv (.int _ a),.cv (.int _ b)=>decide (a=b)
 | .cv (.str a),.cv (.str b)=>decide (a=b)
 | .cv (.bool a),.cv (.bool b)=>a == b
 | _,_=>false
def VZ:List AV→List AV→Bool
 | [],[]=>true
 | a::as_,b::bs=>EB a b&&VZ as_ bs
 | _,_=>false
def JK:Bool→AV→Option (List AV)
 | true,.agg xs=>some xs
 | true,_=>none
 | false,a=>some [a]
def F4 (ks:Bool × List KK) (a:AV):Bool :=
 match JK ks.1 a with
 | some xs=>Y4 ks.2 xs
 | none=>false
def JW (ks:Bool × List KK) (a b:AV):Option Bool :=
 match JK ks.1 a,JK ks.1 b with
 | some xs,some ys=>if Y4 ks.2 xs&&Y4 ks.2 ys then some (VZ xs ys) else none
 | _,_=>none
def findKey (ks:Bool × List KK) (k:AV):List (AV × AV)→Nat→Option (Option (Nat × AV))
 | [],_=>some none
 | (k',v)::es,i =>
  match JW ks k k' with
  | some true=>some (some (i,v))
  | some false=>findKey ks k es (i+1)
  | none=>none
def rowOf (σ:List AObj) (l:Nat):Option (List AV) :=
 match σ[l]? with
 | some (.cells cs)=>some cs
 | _=>none
def Z9 (σ:List AObj) (esz:Nat):AV→Option (List AV)
 | .cv .nils=>some []
 | .cv (.rsl cs len)=>if cs.length=len*esz then some (cs.map .cv) else none
 | .sl l off len e=>if e=esz then (rowOf σ l).bind fun cs=>if off+len*esz≤cs.length then some ((cs.drop off).take (len*esz)) else none else none
 | .cv (.str s)=>if esz=1 then some (s.data.toList.map fun b=>.cv (.int .u8 b.toNat)) else none
 | .slc l off len _ e=>if e=esz then (rowOf σ l).bind fun cs=>if off+len*esz≤cs.length then some ((cs.drop off).take (len*esz)) else none else none
 | _=>none
def lenF:AV→Option Nat
 | .cv .nils=>some 0
 | .cv (.rsl _ len)=>some len
 | .sl _ _ len _=>some len
 | .cv (.str s)=>some s.size
 | .slc _ _ len _ _=>some len
 | _=>none
def f_mv  (args:List AV) (σ:List AObj):Option (AV × List AObj) :=
 match args with
 | [x]=>some (x,σ)
 | _=>none
def P4  (args:List AV) (σ:List AObj):Option (AV × List AObj) :=
 match args with
 | [.cv (.bool c),a,b]=>some (if c then a else b,σ)
 | _=>none
def CN  (args:List AV) (σ:List AObj):Option (AV × List AObj) :=
 match args with
 | [.cv (.bool c)]=>some (.b (!c),σ)
 | _=>none
def OJ (op:BinOp) (tk:TK) (args:List AV) (σ:List AObj):Option (AV × List AObj) :=
 match args with
 | [x,y]=>(binF op tk x y).map (·,σ)
 | [.cv (.int k a)]=>(binI op k 0 a).map (·,σ)
 | _=>none
def P5 (k:IntKind) (args:List AV) (σ:List AObj):Option (AV × List AObj) :=
 match args with
 | [.cv (.int _ n)]=>some (.cv (.int k (k.wrap n)),σ)
 | _=>none
def UO (zs:List AV) (args:List AV) (σ:List AObj):Option (AV × List AObj) :=
 match args with
 | []=>some (.ptr σ.length 0,σ++[.cells zs])
 | _=>none
def WI  (args:List AV) (σ:List AObj):Option (AV × List AObj) :=
 match args with
 | [x]=>if x.isUndef=true then none else some (.ptr σ.length 0,σ++[.cells (cellsOf x)])
 | _=>none
def DL (zs:List AV) (ps:List (Nat × Nat)) (args:List AV) (σ:List AObj):Option (AV × List AObj) :=
 match args with
 | vs=>(HW zs ps vs).map fun cs=>(.agg cs,σ)
def V4 (esz len:Nat) (zs:List AV) (ps:List (Nat × Nat)) (args:List AV) (σ:List AObj):Option (AV × List AObj) :=
 match args with
 | vs=>(HW zs ps vs).map fun cs=>(.sl σ.length 0 len esz,σ++[.cells cs])
def KZ  (args:List AV) (σ:List AObj):Option (AV × List AObj) :=
 match args with
 | [.ptr l off]=>(rowOf σ l).bind fun cs=>(cs[off]?).map (·,σ)
 | [.cv (.rp cs off)]=>(cs[off]?).map fun c=>(.cv c,σ)
 | _=>none
def YF (n:Nat) (args:List AV) (σ:List AObj):Option (AV × List AObj) :=
 match args with
 | [.ptr l off]=>(rowOf σ l).bind fun cs=>if off+n≤cs.length then some (.agg ((cs.drop off).take n),σ) else none
 | [.cv (.rp cs off)]=>if off+n≤cs.length then some (.agg (((cs.drop off).take n).map .cv),σ) else none
 | _=>none
def UM (n:Nat) (args:List AV) (σ:List AObj):Option (AV × List AObj) :=
 match args with
 | [.ptr l off,v]=>(rowOf σ l).bind fun cs =>
   if (cellsOf v).length=n∧off+n≤cs.length∧(cellsOf v).all AV.isSc=true then some (.undef,σ.set l (.cells (setRange cs off (cellsOf v)))) else none
 | _=>none
def G4  (args:List AV) (σ:List AObj):Option (AV × List AObj) :=
 match args with
 | [.ptr l off]=>some (.ptr l off,σ)
 | [.cv (.rp cs off)]=>some (.cv (.rp cs off),σ)
 | [.fn (.func f) cs]=>some (.fn (.func f) cs,σ)
 | _=>none
def NI (f:Fn) (args:List AV) (σ:List AObj):Option (AV × List AObj) :=
 match args with
 | vs=>some (.fn f vs,σ)
def NJ (f:FuncId) (args:List AV) (σ:List AObj):Option (AV × List AObj) :=
 match args with
 | vs=>some (.bm f vs,σ)
def KY  (args:List AV) (σ:List AObj):Option (AV × List AObj) :=
 match args with
 | []=>some (.map σ.length,σ++[.map []])
 | _=>none
def XB (esz bytes:Nat) (zs:List AV) (args:List AV) (σ:List AObj):Option (AV × List AObj) :=
 match args with
 | [.cv (.int _ n),.cv (.int _ c)] =>
   if 0≤n∧n=c∧n*bytes≤2 ^ 46∧n≤2 ^ 46∧zs.length=esz then some (.sl σ.length 0 n.toNat esz,σ++[.cells (YW n.toNat zs)]) else none
 | _=>none
def XR (esz bytes:Nat) (zs:List AV) (args:List AV) (σ:List AObj):Option (AV × List AObj) :=
 match args with
 | [.cv (.int _ n),.cv (.int _ c)] =>
   if 0≤n∧n=c∧n*bytes≤2 ^ 46∧n≤2 ^ 46∧zs.length=esz then some (.slc σ.length 0 n.toNat n.toNat esz,σ++[.cells (YW n.toNat zs)]) else none
 | _=>none
def TR (args:List AV) (σ:List AObj):Option (AV × List AObj) :=
 match args with
 | [.sl _ _ len _,a,b,c]=>(bnd a).bind fun a=>(bnd b).bind fun b=>(bnd c).bind fun c=>if a≤b∧b≤c∧c≤len then some (.undef,σ) else none
 | [.slc _ _ len _ _,a,b,c]=>(bnd a).bind fun a=>(bnd b).bind fun b=>(bnd c).bind fun c=>if a≤b∧b≤c∧c≤len then some (.undef,σ) else none
 | [.sl l off len e,b,c]=>(bnd b).bind fun b=>(bnd c).bind fun c=>if b≤c∧c≤len then some (.slc l off b c e,σ) else none
 | _=>none
def NZ (args:List AV) (σ:List AObj):Option (AV × List AObj) :=
 match args with
 | [.slc _ _ _ cap _]=>some (.i cap,σ)
 | _=>none
def OG (n esz:Nat) (lo hi:Bool) (args:List AV) (σ:List AObj):Option (AV × List AObj) :=
 match args with
 | .ptr l off::bs=>(rowOf σ l).bind fun cs=>(bnds lo hi n bs).bind fun (a,b)=>if a≤b∧b≤n∧a<n∧off+n*esz≤cs.length then some (.sl l (off+a*esz) (b-a) esz,σ) else none
 | _=>none
def VG (esz:Nat) (lo hi:Bool) (args:List AV) (σ:List AObj):Option (AV × List AObj) :=
 match args with
 | .sl l off len e::bs=>(bnds lo hi len bs).bind fun (a,b) =>
   if a≤b∧b≤len∧e=esz then (if a=b∧0<a then some (.cv (.rsl [] 0),σ) else some (.sl l (off+a*esz) (b-a) esz,σ)) else none
 | .cv (.rsl cs len)::bs=>(bnds lo hi len bs).bind fun (a,b) =>
   if a≤b∧b≤len∧cs.length=len*esz then some (.cv (.rsl ((cs.drop (a*esz)).take ((b-a)*esz)) (b-a)),σ) else none
 | .cv .nils::bs=>(bnds lo hi 0 bs).bind fun (a,b)=>if a=0∧b=0 then some (.cv .nils,σ) else none
 | .slc l off len cap e::bs=>(bnds lo hi len bs).bind fun (a,b) =>
   if a≤b∧b≤cap∧e=esz then (if a=cap∧0<a then some (.slc l off 0 0 esz,σ) else some (.slc l (off+a*esz) (b-a) (cap-a) esz,σ)) else none
 | _=>none
def LN (lo hi:Bool) (args:List AV) (σ:List AObj):Option (AV × List AObj) :=
 match args with
 | .cv (.str s)::bs=>(bnds lo hi s.size bs).bind fun (a,b)=>if a≤b∧b≤s.size then some (.cv (.str (s.extract a b)),σ) else none
 | _=>none
def DK (off:Nat) (args:List AV) (σ:List AObj):Option (AV × List AObj) :=
 match args with
 | [.ptr l o]=>some (.ptr l (o+off),σ)
 | [.cv (.rp cs o)]=>some (.cv (.rp cs (o+off)),σ)
 | _=>none
def OH (off n:Nat) (agg:Bool) (args:List AV) (σ:List AObj):Option (AV × List AObj) :=
 match agg,args with
 | true,[.agg cs]=>if off+n≤cs.length then some (.agg ((cs.drop off).take n),σ) else none
 | false,[.agg cs]=>(cs[off]?).map (·,σ)
 | _,_=>none
def PD (len esz:Nat) (args:List AV) (σ:List AObj):Option (AV × List AObj) :=
 match args with
 | [.ptr l o,.cv (.int _ i)]=>if 0≤i∧i<len then some (.ptr l (o+i.toNat*esz),σ) else none
 | [.cv (.rp cs o),.cv (.int _ i)]=>if 0≤i∧i<len then some (.cv (.rp cs (o+i.toNat*esz)),σ) else none
 | _=>none
def VP (esz:Nat) (args:List AV) (σ:List AObj):Option (AV × List AObj) :=
 match args with
 | [.sl l o len e,.cv (.int _ i)]=>if 0≤i∧i<len then some (.ptr l (o+i.toNat*esz),σ) else none
 | [.cv (.rsl cs len),.cv (.int _ i)]=>if 0≤i∧i<len then some (.cv (.rp cs (i.toNat*esz)),σ) else none
 | [.slc l o len _ e,.cv (.int _ i)]=>if 0≤i∧i<len then some (.ptr l (o+i.toNat*esz),σ) else none
 | _=>none
def A7 (len esz n:Nat) (agg:Bool) (args:List AV) (σ:List AObj):Option (AV × List AObj) :=
 match agg,args with
 | true,[.agg cs,.cv (.int _ i)]=>if 0≤i∧i<len∧i.toNat*esz+n≤cs.length then some (.agg ((cs.drop (i.toNat*esz)).take n),σ) else none
 | false,[.agg cs,.cv (.int _ i)]=>if 0≤i∧i<len then (cs[i.toNat*esz]?).map (·,σ) else none
 | _,_=>none
def G5  (args:List AV) (σ:List AObj):Option (AV × List AObj) :=
 match args with
 | [.cv (.str s),.cv (.int _ i)]=>if 0≤i then (s.data[i.toNat]?).map fun b=>(.cv (.int .u8 b.toNat),σ) else none
 | _=>none
def U6 (i:Nat) (args:List AV) (σ:List AObj):Option (AV × List AObj) :=
 match args with
 | [.tup vs]=>(vs[i]?).map (·,σ)
 | _=>none
def RZ (str:Bool) (args:List AV) (σ:List AObj):Option (AV × List AObj) :=
 match str,args with
 | true,[.cv (.str s)]=>some (.i s.size,σ)
 | false,[.cv .nils]=>some (.i 0,σ)
 | false,[.cv (.rsl _ len)]=>some (.i len,σ)
 | false,[.sl _ _ len _]=>some (.i len,σ)
 | false,[.slc _ _ len _ _]=>some (.i len,σ)
 | _,_=>none
def DJ  (args:List AV) (σ:List AObj):Option (AV × List AObj) :=
 match args with
 | [.cv (.int k a),.cv (.int k' b)]=>if k=k' then some (.cv (.int k (if b<a then b else a)),σ) else none
 | _=>none
def GT  (args:List AV) (σ:List AObj):Option (AV × List AObj) :=
 match args with
 | [.cv (.int k a),.cv (.int k' b)]=>if k=k' then some (.cv (.int k (if b>a then b else a)),σ) else none
 | [.cv (.int k a),.cv (.int k' b),.cv (.int k'' c)]=>if k=k'∧k=k'' then some (.cv (.int k (if c>(if b>a then b else a) then c else if b>a then b else a)),σ) else none
 | _=>none
def ZX (esz bytes:Nat) (args:List AV) (σ:List AObj):Option (AV × List AObj) :=
 match args with
 | [.cv .nils,x]=>(Z9 σ esz x).bind fun new=>(lenF x).bind fun n =>
   if n=0 then some (.cv .nils,σ) else
   if n*esz=new.length∧n*bytes≤2 ^ 44∧n≤2 ^ 44∧new.all AV.isSc=true then some (.sl σ.length 0 n esz,σ++[.cells new]) else none
 | [.sl l 0 len e,x]=>(rowOf σ l).bind fun cs=>(Z9 σ esz x).bind fun new=>(lenF x).bind fun n =>
   if e=esz∧len*esz≤cs.length∧n*esz=new.length∧(len+n)*bytes≤2 ^ 44∧len+n≤2 ^ 44∧new.all AV.isSc=true then
    some (.sl σ.length 0 (len+n) esz,σ.set l .dead++[.cells (cs.take (len*esz)++new)]) else none
 | [.slc l off len cap e,x]=>(rowOf σ l).bind fun cs=>(Z9 σ esz x).bind fun new=>(lenF x).bind fun n =>
   if len+n≤cap then
    if e=esz∧off+(len+n)*esz≤cs.length∧n*esz=new.length∧new.all AV.isSc=true then
     some (.slc l off (len+n) cap esz,σ.set l (.cells (setRange cs (off+len*esz) new))) else none
   else if e=esz∧off+len*esz≤cs.length∧n*esz=new.length∧(len+n)*bytes≤2 ^ 44∧len+n≤2 ^ 44∧new.all AV.isSc=true then
    some (.sl σ.length 0 (len+n) esz,σ++[.cells ((cs.drop off).take (len*esz)++new)]) else none
 | _=>none
def VQ (esz bytes:Nat) (zs:List AV) (args:List AV) (σ:List AObj):Option (AV × List AObj) :=
 match args with
 | [.slc l off len cap e,.cv (.int _ n)]=>(rowOf σ l).bind fun cs =>
   if 0<n∧cap<len+n.toNat∧e=esz∧off+len*esz≤cs.length∧(len+n.toNat)*bytes≤2 ^ 44∧len+n.toNat≤2 ^ 44 then
    some (.sl σ.length 0 (len+n.toNat) esz,σ++[.cells ((cs.drop off).take (len*esz)++YW n.toNat zs)]) else none
 | _=>none
def UE (esz:Nat) (args:List AV) (σ:List AObj):Option (AV × List AObj) :=
 match args with
 | [.sl l off len e,x]=>(rowOf σ l).bind fun cs=>(Z9 σ esz x).bind fun new=>(lenF x).bind fun n =>
   if e=esz∧off+len*esz≤cs.length∧n*esz=new.length∧new.all AV.isSc=true then
    some (.i (Nat.min n len:Nat),σ.set l (.cells (setRange cs off (new.take (Nat.min n len*esz))))) else none
 | _=>none
def UN (zs:List AV) (args:List AV) (σ:List AObj):Option (AV × List AObj) :=
 match args with
 | [.sl l off len e]=>(rowOf σ l).bind fun cs =>
   if e=zs.length∧off+len*e≤cs.length∧zs.all AV.isSc=true then some (.tup [],σ.set l (.cells (setRange cs off (YW len zs)))) else none
 | [.slc l off len _ e]=>(rowOf σ l).bind fun cs =>
   if e=zs.length∧off+len*e≤cs.length∧zs.all AV.isSc=true then some (.tup [],σ.set l (.cells (setRange cs off (YW len zs)))) else none
 | _=>none
def mapOf (σ:List AObj) (l:Nat):Option (List (AV × AV)) :=
 match σ[l]? with
 | some (.map es)=>some es
 | _=>none
def KL (ks:Bool × List KK) (z:AV) (ok:Bool) (args:List AV) (σ:List AObj):Option (AV × List AObj) :=
 match args with
 | [.map l,k]=>(mapOf σ l).bind fun es=>if F4 ks k=false then none else (findKey ks k es 0).map fun r=>(if ok then .tup [(r.map (·.2)).getD z,.b r.isSome] else (r.map (·.2)).getD z,σ)
 | _=>none
def XU (es:List (AV × AV)) (k v:AV):Option (Nat × AV)→List (AV × AV)
 | some (i,_)=>es.set i (k,v)
 | none=>es++[(k,v)]
def JZ (ks:Bool × List KK) (args:List AV) (σ:List AObj):Option (AV × List AObj) :=
 match args with
 | [.map l,k,v]=>(mapOf σ l).bind fun es=>if F4 ks k=false then none else (findKey ks k es 0).map fun r=>(.undef,σ.set l (.map (XU es k v r)))
 | _=>none
def mapDel (es:List (AV × AV)):Option (Nat × AV)→List (AV × AV)
 | some (i,_)=>es.eraseIdx i
 | none=>es
def J0 (ks:Bool × List KK) (args:List AV) (σ:List AObj):Option (AV × List AObj) :=
 match args with
 | [.map l,k]=>(mapOf σ l).bind fun es=>if F4 ks k=false then none else (findKey ks k es 0).map fun r=>(.tup [],σ.set l (.map (mapDel es r)))
 | _=>none
def TS (args:List AV) (σ:List AObj):Option (AV × List AObj) :=
 match args with
 | [.map l]=>(mapOf σ l).map fun es=>(.i es.length,σ)
 | _=>none
def RH (σ:List AObj) (l:Nat):Option (ByteArray × Nat) :=
 match σ[l]? with
 | some (.siter s p)=>some (s,p)
 | _=>none
def OI (neg:Bool) (ks:Bool × List KK) (args:List AV) (σ:List AObj):Option (AV × List AObj) :=
 match args with
 | [a,b]=>(JW ks a b).map fun r=>(.b (if neg then !r else r),σ)
 | _=>none
def F6 (args:List AV) (σ:List AObj):Option (AV × List AObj) :=
 match args with
 | [.cv (.str s)]=>some (.ptr σ.length 0,σ++[.siter s 0])
 | _=>none
def KX (args:List AV) (σ:List AObj):Option (AV × List AObj) :=
 match args with
 | [.ptr l 0]=>(RH σ l).map fun sp=>if sp.2<sp.1.size then (.tup [.b true,.i sp.2,.cv (.int .i32 (Utf8.decode sp.1 sp.2).1)],σ.set l (.siter sp.1 (sp.2+(Utf8.decode sp.1 sp.2).2))) else (.tup [.b false],σ)
 | _=>none
def ZQ (op:IOp) (args:List AV) (σ:List AObj):Option (AV × List AObj) :=
 match op with
 | .mv=>f_mv args σ
 | .pick=>P4 args σ
 | .not=>CN args σ
 | .bin op tk=>OJ op tk args σ
 | .conv k=>P5 k args σ
 | .alloc zs=>UO zs args σ
 | .box=>WI args σ
 | .build zs ps=>DL zs ps args σ
 | .bslice esz len zs ps=>V4 esz len zs ps args σ
 | .load1=>KZ args σ
 | .loadN n=>YF n args σ
 | .store n=>UM n args σ
 | .nilck=>G4 args σ
 | .mkfn f=>NI f args σ
 | .mkbm f=>NJ f args σ
 | .mkmap=>KY args σ
 | .mkslice esz bytes zs=>XB esz bytes zs args σ
 | .slA n esz lo hi=>OG n esz lo hi args σ
 | .slS esz lo hi=>VG esz lo hi args σ
 | .slStr lo hi=>LN lo hi args σ
 | .fadd off=>DK off args σ
 | .fld off n agg=>OH off n agg args σ
 | .iaA len esz=>PD len esz args σ
 | .iaS esz=>VP esz args σ
 | .ixA len esz n agg=>A7 len esz n agg args σ
 | .ixStr=>G5 args σ
 | .extract i=>U6 i args σ
 | .len str=>RZ str args σ
 | .min2=>DJ args σ
 | .max2=>GT args σ
 | .append esz bytes=>ZX esz bytes args σ
 | .copy esz=>UE esz args σ
 | .clear zs=>UN zs args σ
 | .lookup ks z ok=>KL ks z ok args σ
 | .mapset ks=>JZ ks args σ
 | .mapdel ks=>J0 ks args σ
 | .maplen=>TS args σ
 | .rstr=>F6 args σ
 | .snext=>KX args σ
 | .stuck=>none
 | .eqS neg ks=>OI neg ks args σ
 | .mksliceC esz bytes zs=>XR esz bytes zs args σ
 | .slS3=>TR args σ
 | .cap=>NZ args σ
 | .appendz esz bytes zs=>VQ esz bytes zs args σ
 | .mapent _ _=>none
 | .entst=>none
def WC:Value→AV
 | .bool b=>.cv (.bool b)
 | .int k n=>.cv (.int k n)
 | .string s=>.cv (.str s)
 | .pointer none=>.cv .nilp
 | .slice none 0 0=>.cv .nils
 | .map none=>.cv .nilm
 | .nilFunc=>.cv .nilf
 | .nilIface=>.cv .nili
 | _=>.undef
def VX:Value→AV
 | .agg cs=>.agg (cs.toList.map WC)
 | v=>WC v
def tkOf (P:Program) (t:TypeId):Option TK :=
 match P.underlying t with
 | some (.int _)=>some .int
 | some .bool=>some .bool
 | some .string=>some .str
 | some (.pointer e)=>if P.cellsOf e≠0 then some .ptr else none
 | some (.slice _)=>some .slc
 | some (.func ..)=>some .fn
 | _=>none
def UD (P:Program) (t:TypeId):Option Bool :=
 match P.underlying t with
 | some (.struct _) | some (.array _ _)=>some true
 | some _=>some false
 | none=>none
def J8 (P:Program):List Field→Nat→Option Nat
 | [],n=>some n
 | f::fs,n=>if f.offset=n then J8 P fs (n+P.cellsOf f.type) else none
def CK (P:Program) (g:TypeId→Option (List KK)):List Field→Option (List KK)
 | []=>some []
 | f::fs=>(g f.type).bind fun ks=>if ks.length=P.cellsOf f.type∧f.name ≠ "_" then (CK P g fs).map (ks ++ ·) else none
def flatK (P:Program):Nat→TypeId→Option (List KK)
 | 0,_=>none
 | d+1,t =>
  match P.underlying t with
  | some .bool=>some [.bool]
  | some (.int k)=>some [.int k]
  | some .string=>some [.str]
  | some (.array n e)=>(flatK P d e).bind fun ks=>if ks.length=P.cellsOf e∧P.cellsOf t=n*P.cellsOf e then some (List.replicate n ks).flatten else none
  | some (.struct fs)=>if J8 P fs.toList 0=some (P.cellsOf t) then CK P (flatK P d) fs.toList else none
  | _=>none
def keyK (P:Program) (k:TypeId):Option (Bool × List KK) :=
 match P.underlying k with
 | some (.int q)=>some (false,[.int q])
 | some .string=>some (false,[.str])
 | some (.struct _) | some (.array _ _)=>if P.keyTypeAt 8 k then (flatK P 8 k).map (true,·) else none
 | _=>none
def zeroOf (P:Program) (t:TypeId):Option AV:=(P.info? t).bind fun i=>i.zero.map VX
def GG (P:Program) (b:Builtin) (ats:List TypeId):Option IOp :=
 match b,ats with
 | .len,[t] =>
  match P.underlying t with
  | some .string=>some (.len true)
  | some (.slice _)=>some (.len false)
  | _=>none
 | .min,[_,_]=>some .min2
 | .max,[_,_]=>some .max2
 | .max,[_,_,_]=>some .max2
 | .append,[s,x] =>
  match P.underlying s,P.underlying x with
  | some (.slice e),some (.slice _)=>(P.info? e).bind fun i=>i.zero.bind fun z=>if z.cells.size=i.size∧0<i.size∧i.bytes≤2 ^ 24 then some (.append i.size i.bytes) else none
  | some (.slice e),some .string=>(P.info? e).bind fun i=>i.zero.bind fun z=>if z.cells.size=i.size∧0<i.size∧i.bytes≤2 ^ 24 then some (.append i.size i.bytes) else none
  | some (.slice e),some (.int _)=>(P.info? e).bind fun i=>i.zero.bind fun z=>if z.cells.size=i.size∧0<i.size∧i.bytes≤2 ^ 24 then some (.appendz i.size i.bytes (z.cells.toList.map WC)) else none
  | _,_=>none
 | .copy,[d,_] =>
  match P.underlying d with
  | some (.slice e)=>(P.info? e).map fun i=>.copy i.size
  | _=>none
 | .clear,[s] =>
  match P.underlying s with
  | some (.slice e)=>(P.info? e).bind fun i=>i.zero.bind fun z=>if z.cells.size=i.size∧0<i.size then some (.clear (z.cells.toList.map WC)) else none
  | _=>none
 | .cap,[s] =>
  match P.underlying s with
  | some (.slice _)=>some .cap
  | _=>none
 | .delete,[d,_] =>
  match P.underlying d with
  | some (.map k _)=>(keyK P k).map fun ks=>.mapdel ks
  | _=>none
 | _,_=>none
def TV (P:Program) (cm:Bool) (o:Oper):Option (IOp × List Operand) :=
 match o.op with
 | .move x | .assign x=>some (.mv,[x])
 | .pick c a b=>some (.pick,[c,a,b])
 | .alloc t=>(zeroOf P t).map fun z=>(.alloc (cellsOf z),[])
 | .box _ x=>some (.box,[x])
 | .build t ps =>
  match P.underlying t,zeroOf P t with
  | some (.struct fs),some z=>if fs.toList.all (fun f=>(P.info? f.type).isSome)=false then none else (ps.toList.mapM fun p=>(fs[p.1]?).bind fun f=>(P.info? f.type).map fun i=>(f.offset,i.size)).map fun pl=>(.build (cellsOf z) pl,ps.toList.map (·.2))
  | some (.array _ e),some z=>(P.info? e).map fun i=>(.build (cellsOf z) (ps.toList.map fun p=>(p.1*i.size,i.size)),ps.toList.map (·.2))
  | _,_=>none
 | .buildSlice t len ps =>
  match P.underlying t with
  | some (.slice e)=>(P.info? e).bind fun i=>i.zero.bind fun z =>
    if len*i.size≤2 ^ 24∧z.cells.size=i.size∧0<i.size then some (.bslice i.size len (YW len (z.cells.toList.map WC)) (ps.toList.map fun p=>(p.1*i.size,i.size)),ps.toList.map (·.2)) else none
  | _=>none
 | .load t a=>(UD P t).bind fun g=>if g then (P.info? t).map fun i=>(.loadN i.size,[a]) else some (.load1,[a])
 | .store t a x=>(P.info? t).map fun i=>(.store i.size,[a,x])
 | .nilCheck x=>some (.nilck,[x])
 | .binOp op t x y _ =>
  match tkOf P t with
  | some k=>some (.bin op k,[x,y])
  | none=>if P.eqGuardType P.depth t then none else
   match op,keyK P t with
   | .eql,some (true,ks)=>some (.eqS false (true,ks),[x,y])
   | .neq,some (true,ks)=>some (.eqS true (true,ks),[x,y])
   | _,_=>none
 | .unOp .not _ x=>some (.not,[x])
 | .unOp .neg t x=>(tkOf P t).bind fun k=>match k with | .int=>some (.bin .sub .int,[x]) | _=>none
 | .convert s t x =>
  match P.underlying s,P.underlying t with
  | some _,some (.int k)=>some (.conv k,[x])
  | _,_=>none
 | .makeFunc f first captured=>if first.isEmpty then some (.mkfn f,captured.toList) else if captured.isEmpty then (match f with | .func g=>some (.mkbm g,first.toList) | _=>none) else none
 | .makeMap t none=>some (.mkmap,[])
 | .lookup t x ix ok =>
  match P.underlying t with
  | some (.map k e)=>(keyK P k).bind fun ks=>(zeroOf P e).map fun z=>(.lookup ks z ok,[x,ix])
  | _=>none
 | .mapUpdate t x k v =>
  match P.underlying t with
  | some (.map kt _)=>(keyK P kt).map fun ks=>(.mapset ks,[x,k,v])
  | _=>none
 | .makeSlice t l c =>
  match P.underlying t with
  | some (.slice e)=>(P.info? e).bind fun i=>i.zero.bind fun z=>if z.cells.size=i.size∧0<i.size then some ((match cm with | true=>.mksliceC i.size i.bytes (z.cells.toList.map WC) | false=>.mkslice i.size i.bytes (z.cells.toList.map WC)),[l,c]) else none
  | _=>none
 | .slice t x lo hi none =>
  match P.underlying t with
  | some (.array n e)=>(P.info? e).map fun i=>(.slA n i.size lo.isSome hi.isSome,x::(lo.toList++hi.toList))
  | some (.slice e)=>(P.info? e).map fun i=>(.slS i.size lo.isSome hi.isSome,x::(lo.toList++hi.toList))
  | some .string=>some (.slStr lo.isSome hi.isSome,x::(lo.toList++hi.toList))
  | _=>none
 | .slice t x (some lo) (some hi) (some mx) =>
  match P.underlying t with
  | some (.slice e)=>(P.info? e).map fun i=>(.slS3,[x,lo,hi,mx])
  | _=>none
 | .slice t x none (some hi) (some mx) =>
  match P.underlying t with
  | some (.slice e)=>(P.info? e).map fun i=>(.slS3,[x,hi,mx])
  | _=>none
 | .fieldAddr s x f =>
  match P.underlying s with
  | some (.struct fs)=>(fs[f]?).bind fun fd=>(P.info? fd.type).bind fun i=>if i.size≠0 then some (.fadd fd.offset,[x]) else none
  | _=>none
 | .field s x f =>
  match P.underlying s with
  | some (.struct fs)=>(fs[f]?).bind fun fd=>(P.info? fd.type).bind fun i=>(UD P fd.type).map fun g=>(.fld fd.offset i.size g,[x])
  | _=>none
 | .indexAddr t x ix =>
  match P.underlying t with
  | some (.array n e)=>(P.info? e).map fun i=>(.iaA n i.size,[x,ix])
  | some (.slice e)=>(P.info? e).map fun i=>(.iaS i.size,[x,ix])
  | _=>none
 | .index t x ix =>
  match P.underlying t with
  | some (.array n e)=>(P.info? e).bind fun i=>(UD P e).map fun g=>(.ixA n i.size i.size g,[x,ix])
  | some .string=>some (.ixStr,[x,ix])
  | _=>none
 | .extract t i=>some (.extract i,[t])
 | .call { callee:=.builtin b,args,argTypes }=>(GG P b argTypes.toList).map fun io=>(io,args.toList)
 | .range t x =>
  match P.underlying t with
  | some .string=>some (.rstr,[x])
  | _=>none
 | .next it true=>some (.snext,[it])
 | .makeInterface .. => some (.stuck,[])
 | .panic .. => some (.stuck,[])
 | .mapEntry t x k =>
  match P.underlying t with
  | some (.map kt e)=>(keyK P kt).bind fun ks=>(zeroOf P e).map fun z=>(.mapent ks z,[x,k])
  | _=>none
 | .entryStore _ x st v=>some (.entst,[x,st,v])
 | _=>none
end Go.Proofs.YtogjcmnopidfpaaGreat.AM

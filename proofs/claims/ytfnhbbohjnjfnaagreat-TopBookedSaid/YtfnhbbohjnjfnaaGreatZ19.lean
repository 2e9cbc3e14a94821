/- Parts of the proof, joined: AmU to AmU. -/
import Derived.Test.YtfnhbbohjnjfnaaGreatRows
import Derived.WalkKit
import Derived.ProofKit
import Derived.OpenShut
import Derived.Carry
import Derived.Test.YtfnhbbohjnjfnaaGreatZ18
set_option linter.unusedVariables false
set_option linter.unusedSimpArgs false
set_option linter.unusedSectionVars false
namespace Go.Proofs.YtfnhbbohjnjfnaaGreat.AM
variable [Dr]
open Go Go.ChangeShapes Go.WideShapes Go.ChangeAt Go.RowKit
inductive Typed (P:Program):TypeId→List CV→Prop
 | bool {t:TypeId} (ht:P.underlying t=some .bool) (b:Bool):Typed P t [.bool b]
 | int {t:TypeId} {k:IntKind} (ht:P.underlying t=some (.int k)) (n:Int) (hw:(Lit.int k n).wf=true):Typed P t [.int k n]
 | str {t:TypeId} (ht:P.underlying t=some .string) (s:ByteArray) (hs:s.size≤maxLen):Typed P t [.str s]
 | slc {t e:TypeId} (ht:P.underlying t=some (.slice e)) (L:List (List CV)) (hn:L.length≤maxLen) (hl:∀ l∈L,l.length=P.cellsOf e) (h:∀ l∈L,Typed P e l):Typed P t [.rsl L.flatten L.length]
 | arr {t e:TypeId} {n:Nat} (ht:P.underlying t=some (.array n e)) (L:List (List CV)) (hn:L.length=n) (hl:∀ l∈L,l.length=P.cellsOf e) (h:∀ l∈L,Typed P e l):Typed P t L.flatten
 | struct {t:TypeId} {fs:Array Field} (ht:P.underlying t=some (.struct fs)) (L:List (List CV)) (hn:L.length=fs.size)
   (hl:∀ (i:Nat) (f:Field) (l:List CV),fs[i]? = some f→L[i]? = some l→l.length=P.cellsOf f.type)
   (h:∀ (i:Nat) (f:Field) (l:List CV),fs[i]? = some f→L[i]? = some l→Typed P f.type l):Typed P t L.flatten
def TG (P:Program):Nat→TypeId→Bool
 | 0,_=>false
 | n+1,t =>
  match P.underlying t with
  | some .bool | some (.int _) | some .string=>true
  | some (.slice e)=>TG P n e
  | some (.array k e)=>TG P n e&&decide (P.cellsOf t=k*P.cellsOf e)
  | some (.struct fs)=>fs.toList.all (fun f=>TG P n f.type)&&decide (J8 P fs.toList 0=some (P.cellsOf t))
  | _=>false
section
variable {H:Type} {enc:TypeId × Value→H} {P:Program} {W:World}
def avOf (P:Program) (t:TypeId) (cs:List CV):AV :=
 match P.underlying t with
 | some (.struct _) | some (.array _ _)=>.agg (cs.map .cv)
 | _=>.cv (cs.headD .nilp)
inductive Args (P:Program):List TypeId→List AV→Prop
 | nil:Args P [] []
 | cons {t:TypeId} {ts:List TypeId} {cs:List CV} {avs:List AV} (h:Typed P t cs) (hs:Args P ts avs):Args P (t::ts) (avOf P t cs::avs)
end
end Go.Proofs.YtfnhbbohjnjfnaaGreat.AM

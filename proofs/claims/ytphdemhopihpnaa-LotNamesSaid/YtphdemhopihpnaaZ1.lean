/- Parts of the proof, joined: AmA to AmA. -/
import Derived.Laws.World
import Derived.Laws.Sem
import Derived.RangeFuncLeaves
import Derived.RangeFuncRecord

namespace Go.Proofs.Ytphdemhopihpnaa.AM
open Go
set_option linter.unusedVariables false

/-- Closed values: no place in the abstract heap is named in them. 'rsl': a slice that is only read, by its cells and its length; 'rp': a pointer into a row of cells that is only read; 'nils': the slice nil. -/
inductive CV where
  | int (k : IntKind) (n : Int)
  | bool (b : Bool)
  | str (s : ByteArray)
  | nilp | nilm | nilf | nili | nils
  | rsl (cs : List CV) (len : Nat)
  | rp (cs : List CV) (off : Nat)
  deriving Inhabited

/-- Values ('slc': a slice whose capacity is known, too): closed ones; pointers, slices and maps that lead into the abstract heap; functions with what they captured; structs and arrays by their cells; tuples; and 'undef', which stands for any value. -/
inductive AV where
  | cv (c : CV)
  | ptr (l off : Nat)
  | sl (l off len esz : Nat)
  | map (l : Nat)
  | fn (f : Fn) (captured : List AV)
  | bm (f : FuncId) (first : List AV)
  | yld (l : Nat)
  | agg (cs : List AV)
  | tup (vs : List AV)
  | undef
  | slc (l off len cap esz : Nat)
  deriving Inhabited

structure ALoop where
  state : LoopState
  pending : Option Code
  vars : List Nat
  ntmps : Nat
  vals : List AV
  params : List Nat
  assign : Code
  body : Code

inductive AObj where
  | dead
  | cells (cs : List AV)
  | map (es : List (AV × AV))
  | siter (s : ByteArray) (pos : Nat)
  | loop (r : ALoop)

abbrev LM := Nat → Option Nat
/-- The blocks that somebody may write: those of the abstract heap, and those of X. -/
def Own (m : LM) (X : Nat → Prop) (b : Nat) : Prop := X b ∨ ∃ l, m l = some b

mutual
def CV.rep (w : World) (O : Nat → Prop) : CV → Value → Prop
  | .int k n, v => v = .int k n
  | .bool b, v => v = .bool b
  | .str s, v => v = .string s
  | .nilp, v => v = .pointer none
  | .nilm, v => v = .map none
  | .nilf, v => v = .nilFunc
  | .nili, v => v = .nilIface
  | .nils, v => v = .slice none 0 0
  | .rsl cs len, v => (v = .slice none 0 0 ∧ len = 0 ∧ cs = []) ∨ ∃ a cap, v = .slice (some a) len cap ∧ len ≤ cap ∧ CV.reps w O cs a 0
  | .rp cs off, v => ∃ a : Addr, v = .pointer (some (a.add off)) ∧ CV.reps w O cs a 0
def CV.reps (w : World) (O : Nat → Prop) : List CV → Addr → Nat → Prop
  | [], _, _ => True
  | c :: cs, a, i => ¬ O a.block ∧ (∃ v, w.cell? (a.add i) = some v ∧ CV.rep w O c v) ∧ CV.reps w O cs a (i + 1)
end

mutual
def VRel (m : LM) (X : Nat → Prop) (w : World) : AV → Value → Prop
  | .cv c, v => c.rep w (Own m X) v
  | .ptr l off, v => ∃ b, m l = some b ∧ v = .pointer (some ⟨b, off, none⟩)
  | .sl l off len esz, v => ∃ b cap, m l = some b ∧ v = .slice (some ⟨b, off, none⟩) len cap ∧ len ≤ cap ∧ ∃ c e, w.heap[b]? = some (.cells c e (0, 0)) ∧ off + cap * esz ≤ c.size
  | .map l, v => ∃ b, m l = some b ∧ v = .map (some b)
  | .fn f cs, v => ∃ vs : List Value, v = .func f #[] vs.toArray ∧ VRels m X w cs vs
  | .bm f cs, v => ∃ vs : List Value, v = .func (.func f) vs.toArray #[] ∧ VRels m X w cs vs
  | .yld l, v => ∃ b, m l = some b ∧ v = .func (.yield b) #[] #[]
  | .agg cs, v => ∃ vs : List Value, v = .agg vs.toArray ∧ VRels m X w cs vs
  | .tup cs, v => ∃ vs : List Value, v = .tuple vs.toArray ∧ VRels m X w cs vs
  | .undef, _ => True
  | .slc l off len cap esz, v => ∃ b, m l = some b ∧ v = .slice (some ⟨b, off, none⟩) len cap ∧ len ≤ cap ∧ ∃ c e, w.heap[b]? = some (.cells c e (0, 0)) ∧ off + cap * esz ≤ c.size
def VRels (m : LM) (X : Nat → Prop) (w : World) : List AV → List Value → Prop
  | [], [] => True
  | a :: as, v :: vs => VRel m X w a v ∧ VRels m X w as vs
  | _, _ => False
end

/-- The variables of a frame, by their slots. -/
def ARel (m : LM) (X : Nat → Prop) (w : World) (vars : List Nat) (vals : List AV) (tmps : Array Value) : Prop :=
  ∀ i t, vars[i]? = some t → VRel m X w (vals.getD i .undef) (tmps.getD t Go.undef)

def ORel (m : LM) (X : Nat → Prop) (w : World) : Option Nat → AObj → Prop
  | _, .dead => True
  | none, _ => False
  | some b, .cells cs => ∃ c e, w.heap[b]? = some (.cells c e (0, 0)) ∧ cs.length ≤ c.size ∧ VRels m X w cs (c.toList.take cs.length)
  | some b, .map es => ∃ (ces : Array MapEntry) (clock : Nat), w.heap[b]? = some (.map ces clock) ∧ (∀ e ∈ ces, e.born < clock) ∧ (ces.toList.map (·.born)).Nodup ∧ ces.size = es.length ∧
      ∀ (i : Nat) (k a : AV), es[i]? = some (k, a) → ∃ e : MapEntry, ces[i]? = some e ∧ VRel m X w k e.key ∧ VRel m X w a e.val
  | some b, .siter s pos => w.heap[b]? = some (.stringIter s pos)
  | some b, .loop r => ∃ (tmps : Array Value) (d fnid : Nat), tmps.size = r.ntmps ∧ ARel m X w r.vars r.vals tmps ∧
      w.heap[b]? = some (.loop { state := r.state, pending := r.pending, fn := fnid, tmps, params := r.params.toArray, assign := r.assign, body := r.body, defers := d }) ∧ r.vals.length ≤ r.vars.length

def AObj.live : AObj → Prop | .dead => False | _ => True

structure HRel (m : LM) (X : Nat → Prop) (σ : List AObj) (w : World) : Prop where
  xb : ∀ b, X b → b < w.heap.size
  dom : ∀ l b, m l = some b → l < σ.length ∧ b < w.heap.size
  own : ∀ l b o, m l = some b → σ[l]? = some o → o.live → ¬ X b
  inj : ∀ l l' b o', m l = some b → m l' = some b → σ[l']? = some o' → o'.live → l ≤ l'
  obj : ∀ l o, σ[l]? = some o → ORel m X w (m l) o

/-- From (m, w) to (m', w'): places below n0 keep their blocks; blocks that are written are of the abstract heap, or new; no block changes its size. -/
structure Step (n0 : Nat) (m : LM) (X : Nat → Prop) (w : World) (m' : LM) (w' : World) : Prop where
  keep : ∀ l, l < n0 → m' l = m l
  new : ∀ l b, m' l = some b → (∃ l', m l' = some b) ∨ w.heap.size ≤ b
  size : w.heap.size ≤ w'.heap.size
  fr : ∀ b : Nat, b < w.heap.size → (X b ∨ ∀ l, m l ≠ some b) → w'.heap[b]? = w.heap[b]?
  shp : ∀ (b : Nat) (c : Array Value) (e : TypeId), w.heap[b]? = some (Obj.cells c e (0, 0)) → ∃ c', w'.heap[b]? = some (Obj.cells c' e (0, 0)) ∧ c'.size = c.size
  os : w'.os = w.os
  tape : w'.tape = w.tape
  output : w'.output = w.output
  drawn : w.drawn ≤ w'.drawn

end Go.Proofs.Ytphdemhopihpnaa.AM


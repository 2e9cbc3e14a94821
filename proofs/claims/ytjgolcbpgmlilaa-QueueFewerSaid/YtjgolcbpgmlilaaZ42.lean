/- Parts of the proof, joined: QuD1 to QuC11. -/
import GoSem.Op.String
import Derived.Lib.Strings
import Derived.Test.YtjgolcbpgmlilaaZ41

namespace Go.Proofs.Ytjgolcbpgmlilaa.Qu
open Go Pl

theorem bl_irr : ∀ x : List UInt8, Op.bytesLess x x = false
  | [] => rfl
  | a :: x => by
    have : ¬ a < a := UInt8.lt_irrefl a
    simp [Op.bytesLess, bl_irr x]

theorem bl_tr : ∀ x y z : List UInt8, Op.bytesLess x y = true → Op.bytesLess y z = true → Op.bytesLess x z = true
  | _, [], _, h, _ => by simp [Op.bytesLess] at h
  | [], _ :: _, [], _, h => by simp [Op.bytesLess] at h
  | [], _ :: _, _ :: _, _, _ => rfl
  | _ :: _, _ :: _, [], _, h => by simp [Op.bytesLess] at h
  | a :: x, b :: y, c :: z, h, g => by
    simp only [Op.bytesLess, Bool.or_eq_true, Bool.and_eq_true, decide_eq_true_eq, beq_iff_eq] at h g ⊢
    rcases h with h | ⟨rfl, h⟩
    · rcases g with g | ⟨rfl, g⟩
      · exact Or.inl (UInt8.lt_trans h g)
      · exact Or.inl h
    · rcases g with g | ⟨rfl, g⟩
      · exact Or.inl g
      · exact Or.inr ⟨rfl, bl_tr x y z h g⟩

theorem bl_tot : ∀ x y : List UInt8, x ≠ y → Op.bytesLess x y = true ∨ Op.bytesLess y x = true
  | [], [], h => absurd rfl h
  | [], _ :: _, _ => Or.inl rfl
  | _ :: _, [], _ => Or.inr rfl
  | a :: x, b :: y, h => by
    simp only [Op.bytesLess, Bool.or_eq_true, Bool.and_eq_true, decide_eq_true_eq, beq_iff_eq]
    by_cases e : a = b
    · subst e
      rcases bl_tot x y (fun e => h (by rw [e])) with g | g
      · exact Or.inl (Or.inr ⟨rfl, g⟩)
      · exact Or.inr (Or.inr ⟨rfl, g⟩)
    · rcases UInt8.lt_or_lt_of_ne e with g | g
      · exact Or.inl (Or.inl g)
      · exact Or.inr (Or.inl g)

theorem bytes_inj {a b : ByteArray} (h : a.toList = b.toList) : a = b := by
  rw [Lib.toList_data, Lib.toList_data] at h
  cases a; cases b
  simp only at h
  congr
  exact Array.toList_inj.1 h

structure Cen where
  nm : ByteArray
  pl : Int
  ru : List Int
  deriving Inhabited

structure Lea where
  nm : ByteArray
  si : Int
  ho : Int
  fa : Int
  wi : List Int
  deriving Inhabited

structure QL where
  cs : List Cen
  ls : List Lea

/-- whether a byte may be in a name -/
def lowB (x : UInt8) : Bool := decide (97 ≤ x.toNat ∧ x.toNat ≤ 122)
def digB (x : UInt8) : Bool := decide (48 ≤ x.toNat ∧ x.toNat ≤ 57)

def nameOk (s : ByteArray) : Bool := decide (1 ≤ s.size ∧ s.size ≤ 16) && (match s.data.toList with | [] => false | x :: _ => lowB x) && s.data.toList.all fun x => lowB x || digB x

/-- the error of the first number that is none of so many, or is there twice -/
def unl (many : Int) : List Int → List Int → Int
  | _, [] => 0
  | seen, x :: xs => if x < 0 ∨ many ≤ x then 4 else if x ∈ seen then 5 else unl many (seen ++ [x]) xs

def cenE (q : QL) (i : Nat) : Int :=
  let c := q.cs[i]!
  if nameOk c.nm = false then 6 else if ∃ k, k < i ∧ (q.cs[k]!).nm = c.nm then 5 else if c.pl < 0 ∨ 6 < c.pl then 7 else unl 3 [] c.ru

def leaE (q : QL) (i : Nat) : Int :=
  let x := q.ls[i]!
  if nameOk x.nm = false then 6 else if ∃ k, k < i ∧ (q.ls[k]!).nm = x.nm then 5 else if (x.si < 0 ∨ 40000 < x.si) ∨ (x.fa < 0 ∨ 20 < x.fa) then 7 else
    if x.ho < -1 ∨ (q.cs.length : Int) - 1 < x.ho then 4 else unl q.cs.length [] x.wi

/-- the first index from i on, of so many, with an error -/
def firstE (f : Nat → Int) : Nat → Nat → Option (Nat × Int)
  | 0, _ => none
  | n + 1, i => if f i ≠ 0 then some (i, f i) else firstE f n (i + 1)

def checkQ (q : QL) : Int × Int × Int :=
  if ¬ (1 ≤ q.cs.length ∧ q.cs.length ≤ 5) ∨ 8 < q.ls.length then (1, 0, 3) else
    match firstE (cenE q) q.cs.length 0 with
    | some (i, e) => (2, i, e)
    | none => match firstE (leaE q) q.ls.length 0 with
      | some (i, e) => (3, i, e)
      | none => (0, 0, 0)

theorem firstE_none {f : Nat → Int} : ∀ {n i : Nat}, firstE f n i = none → ∀ k, i ≤ k → k < i + n → f k = 0
  | 0, i, _, k, h1, h2 => by omega
  | n + 1, i, h, k, h1, h2 => by
    unfold firstE at h
    by_cases e : f i ≠ 0
    · rw [if_pos e] at h; exact absurd h (by simp)
    · rw [if_neg e] at h
      by_cases hk : k = i
      · subst hk; simpa using e
      · exact firstE_none h k (by omega) (by omega)

theorem firstE_some {f : Nat → Int} : ∀ {n i j : Nat} {e : Int}, firstE f n i = some (j, e) → e ≠ 0
  | 0, i, _, _, h => by simp [firstE] at h
  | n + 1, i, j, e, h => by
    unfold firstE at h
    by_cases e' : f i ≠ 0
    · rw [if_pos e'] at h; simp at h; omega
    · rw [if_neg e'] at h; exact firstE_some h

def Valid (q : QL) : Prop := (checkQ q).2.2 = 0

theorem valid_iff {q : QL} : Valid q → (1 ≤ q.cs.length ∧ q.cs.length ≤ 5 ∧ q.ls.length ≤ 8) ∧ (∀ i, i < q.cs.length → cenE q i = 0) ∧ (∀ i, i < q.ls.length → leaE q i = 0) ∧ checkQ q = (0, 0, 0) := by
  unfold Valid
  intro h
  unfold checkQ at h ⊢
  by_cases h1 : ¬ (1 ≤ q.cs.length ∧ q.cs.length ≤ 5) ∨ 8 < q.ls.length
  · rw [if_pos h1] at h; exact absurd h (by decide)
  · rw [if_neg h1] at h ⊢
    cases h2 : firstE (cenE q) q.cs.length 0 with
    | some p => rw [h2] at h; exact absurd h (firstE_some (j := p.1) h2)
    | none =>
      rw [h2] at h
      cases h3 : firstE (leaE q) q.ls.length 0 with
      | some p => rw [h3] at h; exact absurd h (firstE_some (j := p.1) h3)
      | none =>
        exact ⟨by omega, fun i hi => firstE_none h2 i (by omega) (by omega), fun i hi => firstE_none h3 i (by omega) (by omega), rfl⟩

theorem unl_ok {many : Int} : ∀ {l seen : List Int}, unl many seen l = 0 → (∀ x ∈ l, 0 ≤ x ∧ x < many) ∧ l.Nodup ∧ ∀ x ∈ l, x ∉ seen
  | [], _, _ => ⟨by simp, List.nodup_nil, by simp⟩
  | x :: l, seen, h => by
    unfold unl at h
    by_cases h1 : x < 0 ∨ many ≤ x
    · rw [if_pos h1] at h; exact absurd h (by decide)
    · rw [if_neg h1] at h
      by_cases h2 : x ∈ seen
      · rw [if_pos h2] at h; exact absurd h (by decide)
      · rw [if_neg h2] at h
        obtain ⟨g1, g2, g3⟩ := unl_ok h
        refine ⟨?_, ?_, ?_⟩
        · intro y hy
          rcases List.mem_cons.1 hy with rfl | hy
          · omega
          · exact g1 y hy
        · rw [List.nodup_cons]
          exact ⟨fun hx => g3 x hx (by simp), g2⟩
        · intro y hy
          rcases List.mem_cons.1 hy with rfl | hy
          · exact h2
          · exact fun hs => g3 y hy (by simp [hs])

/-- what is known of a learner of a valid list -/
structure LeaOk (q : QL) (i : Nat) : Prop where
  nm : ∀ k, k < i → (q.ls[k]!).nm ≠ (q.ls[i]!).nm
  si : 0 ≤ (q.ls[i]!).si ∧ (q.ls[i]!).si ≤ 40000
  fa : 0 ≤ (q.ls[i]!).fa ∧ (q.ls[i]!).fa ≤ 20
  ho : -1 ≤ (q.ls[i]!).ho ∧ (q.ls[i]!).ho < q.cs.length
  wi : ∀ x ∈ (q.ls[i]!).wi, 0 ≤ x ∧ x < q.cs.length
  nd : (q.ls[i]!).wi.Nodup

theorem leaE_ok {q : QL} {i : Nat} (h : leaE q i = 0) : LeaOk q i := by
  unfold leaE at h
  simp only at h
  by_cases h1 : nameOk (q.ls[i]!).nm = false
  · rw [if_pos h1] at h; exact absurd h (by decide)
  rw [if_neg h1] at h
  by_cases h2 : ∃ k, k < i ∧ (q.ls[k]!).nm = (q.ls[i]!).nm
  · rw [if_pos h2] at h; exact absurd h (by decide)
  rw [if_neg h2] at h
  by_cases h3 : ((q.ls[i]!).si < 0 ∨ 40000 < (q.ls[i]!).si) ∨ ((q.ls[i]!).fa < 0 ∨ 20 < (q.ls[i]!).fa)
  · rw [if_pos h3] at h; exact absurd h (by decide)
  rw [if_neg h3] at h
  by_cases h4 : (q.ls[i]!).ho < -1 ∨ (q.cs.length : Int) - 1 < (q.ls[i]!).ho
  · rw [if_pos h4] at h; exact absurd h (by decide)
  rw [if_neg h4] at h
  obtain ⟨g1, g2, _⟩ := unl_ok h
  exact ⟨fun k hk e => h2 ⟨k, hk, e⟩, by omega, by omega, by omega, g1, g2⟩

structure CenOk (q : QL) (i : Nat) : Prop where
  pl : 0 ≤ (q.cs[i]!).pl ∧ (q.cs[i]!).pl ≤ 6
  ru : ∀ x ∈ (q.cs[i]!).ru, 0 ≤ x ∧ x < 3

theorem cenE_ok {q : QL} {i : Nat} (h : cenE q i = 0) : CenOk q i := by
  unfold cenE at h
  simp only at h
  by_cases h1 : nameOk (q.cs[i]!).nm = false
  · rw [if_pos h1] at h; exact absurd h (by decide)
  rw [if_neg h1] at h
  by_cases h2 : ∃ k, k < i ∧ (q.cs[k]!).nm = (q.cs[i]!).nm
  · rw [if_pos h2] at h; exact absurd h (by decide)
  rw [if_neg h2] at h
  by_cases h3 : (q.cs[i]!).pl < 0 ∨ 6 < (q.cs[i]!).pl
  · rw [if_pos h3] at h; exact absurd h (by decide)
  rw [if_neg h3] at h
  obtain ⟨g1, _, _⟩ := unl_ok h
  exact ⟨by omega, g1⟩

/-- what a rule of a centre looks at -/
def key (c : Int) (x : Lea) (r : Int) : Int := if r = 0 then x.si else if r = 1 then (if x.ho = c then 0 else 1) else if r = 2 then x.fa else 0

/-- whether a learner comes before another one, by the rules of a centre -/
def byRules (c : Int) (a b : Lea) : List Int → Bool
  | [] => Op.bytesLess a.nm.toList b.nm.toList
  | r :: rs => if key c a r = key c b r then byRules c a b rs else decide (key c a r < key c b r)

theorem byRules_irr (c : Int) (a : Lea) : ∀ rs, byRules c a a rs = false
  | [] => bl_irr _
  | r :: rs => by simp [byRules, byRules_irr c a rs]

theorem byRules_tot (c : Int) {a b : Lea} (h : a.nm ≠ b.nm) : ∀ rs, byRules c a b rs = true ∨ byRules c b a rs = true
  | [] => bl_tot _ _ fun e => h (bytes_inj e)
  | r :: rs => by
    have ih := byRules_tot c h rs
    unfold byRules
    by_cases h1 : key c a r = key c b r
    · rw [if_pos h1, if_pos h1.symm]; exact ih
    · rw [if_neg h1, if_neg (Ne.symm h1)]
      simp only [decide_eq_true_eq]; omega

theorem byRules_tr (c : Int) (x y z : Lea) : ∀ rs, byRules c x y rs = true → byRules c y z rs = true → byRules c x z rs = true
  | [], h, g => bl_tr _ _ _ h g
  | r :: rs, h, g => by
    have ih := byRules_tr c x y z rs
    unfold byRules at h g ⊢
    by_cases e1 : key c x r = key c y r
    · rw [if_pos e1] at h
      by_cases e2 : key c y r = key c z r
      · rw [if_pos e2] at g
        rw [if_pos (e1.trans e2)]; exact ih h g
      · rw [if_neg e2] at g
        rw [if_neg (by rw [e1]; exact e2)]
        simp only [decide_eq_true_eq] at g ⊢; omega
    · rw [if_neg e1] at h
      simp only [decide_eq_true_eq] at h
      by_cases e2 : key c y r = key c z r
      · rw [if_neg (by rw [← e2]; exact e1)]
        simp only [decide_eq_true_eq]; omega
      · rw [if_neg e2] at g
        simp only [decide_eq_true_eq] at g
        rw [if_neg (by omega)]
        simp only [decide_eq_true_eq]; omega

/-- a centre ranks a learner before another one -/
def bef (q : QL) (c i k : Nat) : Bool := byRules c (q.ls[i]!) (q.ls[k]!) (q.cs[c]!).ru

theorem bef_strict {q : QL} (h : ∀ i, i < q.ls.length → LeaOk q i) (c : Nat) : Mk.Strict q.ls.length (bef q c) := by
  refine ⟨fun i _ => byRules_irr _ _ _, fun i j k _ _ _ => byRules_tr _ _ _ _ _, fun i j hi hj e => ?_⟩
  apply byRules_tot
  rcases Nat.lt_or_gt_of_ne e with g | g
  · exact (h j hj).nm i g
  · exact Ne.symm ((h i hi).nm j g)

/-- the list as learners with wishes and centres with places -/
def mk (q : QL) : Mk := ⟨q.ls.length, fun i => (q.ls[i]!).wi.map Int.toNat, fun c => (q.cs[c]!).pl.toNat, fun c i => Mk.rankOf q.ls.length (bef q c) i⟩

theorem mk_inj {q : QL} (h : ∀ i, i < q.ls.length → LeaOk q i) : (mk q).Inj := fun c _ _ hi hk e => Mk.rank_inj (bef_strict h c) hi hk e

theorem mk_lt {q : QL} (h : ∀ i, i < q.ls.length → LeaOk q i) {c i k : Nat} (hi : i < q.ls.length) (hk : k < q.ls.length) : bef q c k i = decide ((mk q).rk c k < (mk q).rk c i) := by
  have := Mk.rank_lt (bef_strict h c) hi hk
  cases hb : bef q c k i with
  | true => exact (decide_eq_true (this.1 hb)).symm
  | false =>
    refine (decide_eq_false fun e => ?_).symm
    rw [this.2 e] at hb
    exact absurd hb (by decide)

/-- the best distribution, as wishes and as numbers -/
noncomputable def bestP (q : QL) : Nat → Nat := open Classical in if h : ∃ p, (mk q).Best p then h.choose else fun _ => 0

theorem bestP_best {q : QL} (h : ∀ i, i < q.ls.length → LeaOk q i) : (mk q).Best (bestP q) := by
  have h1 : ∃ p, (mk q).Best p := Mk.best_exists (mk_inj h)
  unfold bestP
  rw [dif_pos h1]
  exact h1.choose_spec

def numOf : Option Nat → Int
  | none => -1
  | some c => c

noncomputable def giveQ (q : QL) : List Int := (List.range q.ls.length).map fun i => numOf ((mk q).has (bestP q) i)

theorem giveQ_of {q : QL} (h : ∀ i, i < q.ls.length → LeaOk q i) {p : Nat → Nat} (hp : (mk q).Best p) : (List.range q.ls.length).map (fun i => numOf ((mk q).has p i)) = giveQ q := by
  apply List.map_congr_left
  intro i hi
  have hi : i < q.ls.length := by simpa using hi
  have := hp.same (bestP_best h) i hi
  simp only [Mk.has, this]

end Go.Proofs.Ytjgolcbpgmlilaa.Qu

namespace Go.Proofs.Ytjgolcbpgmlilaa.Qu
open Go Pl

theorem cnt_range (n : Nat) (P : Nat → Bool) : cnt n P = (List.range n).countP P := by
  induction n with
  | zero => rfl
  | succ n ih => rw [List.range_succ, List.countP_append, ← ih]; simp [cnt, List.countP_cons]

theorem list_range (g : List Int) : g = (List.range g.length).map fun i => g[i]! := by
  apply List.ext_getElem
  · simp
  · intro i h1 h2; simp [h1]

theorem count_cnt (g : List Int) (c : Int) : g.count c = cnt g.length fun i => g[i]! == c := by
  rw [cnt_range]
  conv => lhs; rw [list_range g]
  rw [List.count, List.countP_map]; rfl

/-- the place of a centre among wishes -/
def place (w : List Int) (c : Int) : Nat := w.findIdx (· == c)

theorem place_le (w : List Int) (c : Int) : place w c ≤ w.length := List.findIdx_le_length

theorem place_none {w : List Int} {c : Int} (h : c ∉ w) : place w c = w.length := by
  unfold place
  rw [List.findIdx_eq_length]
  intro x hx
  have : x ≠ c := fun e => h (e ▸ hx)
  simpa using this

theorem place_mem {w : List Int} {c : Int} (h : c ∈ w) : place w c < w.length := by
  unfold place
  rw [List.findIdx_lt_length]
  exact ⟨c, h, by simp⟩

theorem place_get {w : List Int} {c : Int} (h : place w c < w.length) : w[place w c]? = some c := by
  have : (w[place w c] == c) = true := List.findIdx_getElem (w := h)
  rw [List.getElem?_eq_getElem h]
  simpa using this

theorem place_idx {w : List Int} (hn : w.Nodup) {j : Nat} {c : Int} (h : w[j]? = some c) : place w c = j := by
  have hc : c ∈ w := List.mem_of_getElem? h
  have h1 := place_get (place_mem hc)
  obtain ⟨a1, a2⟩ := List.getElem?_eq_some_iff.1 h
  obtain ⟨b1, b2⟩ := List.getElem?_eq_some_iff.1 h1
  have hp := List.pairwise_iff_getElem.1 hn
  rcases Nat.lt_trichotomy (place w c) j with e | e | e
  · exact absurd (b2.trans a2.symm) (hp _ _ b1 a1 e)
  · exact e
  · exact absurd (a2.trans b2.symm) (hp _ _ a1 b1 e)

theorem toNat_get {w : List Int} (h : ∀ x ∈ w, 0 ≤ x) (j : Nat) : numOf ((w.map Int.toNat)[j]?) = (match w[j]? with | some c => c | none => -1) := by
  rw [List.getElem?_map]
  cases hj : w[j]? with
  | none => rfl
  | some c =>
    have := h c (List.mem_of_getElem? hj)
    simp [numOf, Int.toNat_of_nonneg this]

/-- who is given the j-th wish, by numbers -/
theorem place_num {w : List Int} (hn : w.Nodup) (h0 : ∀ x ∈ w, 0 ≤ x) {j : Nat} (hj : j ≤ w.length) : place w (numOf ((w.map Int.toNat)[j]?)) = j := by
  rw [toNat_get h0]
  cases hw : w[j]? with
  | some c => exact place_idx hn hw
  | none =>
    have : w.length ≤ j := by simpa using hw
    show place w (-1) = j
    rw [place_none (fun h => by have := h0 _ h; omega)]
    omega

section
variable {q : QL} (hL : ∀ i, i < q.ls.length → LeaOk q i)
include hL

theorem wi_pos {i : Nat} (hi : i < q.ls.length) : ∀ x ∈ (q.ls[i]!).wi, 0 ≤ x := fun x hx => ((hL i hi).wi x hx).1

/-- the places of what is given -/
def rOf (q : QL) (g : List Int) (i : Nat) : Nat := place (q.ls[i]!).wi (g[i]!)

def OkG (q : QL) (g : List Int) : Prop := g.length = q.ls.length ∧ ∀ i, i < q.ls.length → g[i]! = -1 ∨ g[i]! ∈ (q.ls[i]!).wi

theorem has_rOf {g : List Int} (h : OkG q g) {i : Nat} (hi : i < q.ls.length) : numOf ((mk q).has (rOf q g) i) = g[i]! := by
  have e : (mk q).has (rOf q g) i = ((q.ls[i]!).wi.map Int.toNat)[place (q.ls[i]!).wi (g[i]!)]? := rfl
  rw [e, toNat_get (wi_pos hL hi)]
  rcases h.2 i hi with h1 | h1
  · have : g[i]! ∉ (q.ls[i]!).wi := fun hm => by have := wi_pos hL hi _ hm; omega
    rw [place_none this, List.getElem?_eq_none (Nat.le_refl _), h1]
  · rw [place_get (place_mem h1)]

theorem has_some {g : List Int} (h : OkG q g) {i : Nat} (hi : i < q.ls.length) (c : Nat) : (mk q).has (rOf q g) i = some c ↔ g[i]! = (c : Int) := by
  rw [← has_rOf hL h hi]
  cases (mk q).has (rOf q g) i with
  | none => simp [numOf]
  | some d => simp [numOf]; omega

theorem num_count {g : List Int} (h : OkG q g) (c : Nat) : (mk q).num (rOf q g) c = g.count (c : Int) := by
  rw [count_cnt, h.1]
  apply cnt_congr
  intro i hi
  have := has_some hL h hi c
  rw [Bool.eq_iff_iff]
  simpa using this

/-- a distribution without complaints -/
structure Accepts (q : QL) (g : List Int) : Prop where
  ok : OkG q g
  cap : ∀ c : Nat, c < q.cs.length → (g.count (c : Int) : Int) ≤ (q.cs[c]!).pl
  calm : ∀ i, i < q.ls.length → ∀ j c, j < place (q.ls[i]!).wi (g[i]!) → (q.ls[i]!).wi[j]? = some c → ¬ (g.count c : Int) < (q.cs[c.toNat]!).pl ∧ ∀ k, k < q.ls.length → g[k]! = c → bef q c.toNat i k = false

theorem accepts_fair (hC : ∀ c, c < q.cs.length → CenOk q c) {g : List Int} (h : Accepts q g) : (mk q).Fair (rOf q g) := by
  refine ⟨?_, ?_, ?_, ?_⟩
  · intro i _
    have := place_le (q.ls[i]!).wi (g[i]!)
    simpa [mk, rOf] using this
  · intro c
    rw [num_count hL h.ok]
    by_cases hc : c < q.cs.length
    · have h1 := h.cap c hc
      have := (hC c hc).pl
      show g.count (c : Int) ≤ ((q.cs[c]!).pl).toNat
      omega
    · have : g.count (c : Int) = 0 := by
        rw [List.count_eq_zero]
        intro hm
        obtain ⟨i, hi, e⟩ := List.getElem_of_mem hm
        have hi' : i < q.ls.length := by have := h.ok.1; omega
        have e' : g[i]! = (c : Int) := by simp [hi, e]
        rcases h.ok.2 i hi' with h1 | h1
        · omega
        · have := ((hL i hi').wi _ h1).2; omega
      omega
  · intro i k c j hi hk hj hc hh
    have hi : i < q.ls.length := hi
    have hk : k < q.ls.length := hk
    have hc' : (q.ls[i]!).wi[j]? = some (c : Int) := by
      have e : ((q.ls[i]!).wi.map Int.toNat)[j]? = some c := hc
      rw [List.getElem?_map] at e
      cases hw : (q.ls[i]!).wi[j]? with
      | none => rw [hw] at e; exact absurd e (by simp)
      | some d =>
        rw [hw] at e
        have := wi_pos hL hi d (List.mem_of_getElem? hw)
        have : d.toNat = c := by simpa using e
        congr 1; omega
    have h1 := (h.calm i hi j c hj hc').2 k hk ((has_some hL h.ok hk c).1 hh)
    have hne : i ≠ k := by
      intro e
      subst e
      have g1 := (has_some hL h.ok hi c).1 hh
      have hj : j < place (q.ls[i]!).wi (g[i]!) := hj
      rw [g1, place_idx (hL i hi).nd hc'] at hj
      omega
    have h2 := (bef_strict hL c).tot i k hi hk hne
    rcases h2 with h2 | h2
    · have : bef q (c : Int).toNat i k = bef q c i k := by simp
      rw [this, h2] at h1
      exact absurd h1 (by decide)
    · exact (Mk.rank_lt (bef_strict hL c) hi hk).1 h2
  · intro i c j hi hj hc
    have hi : i < q.ls.length := hi
    have hc' : (q.ls[i]!).wi[j]? = some (c : Int) := by
      have e : ((q.ls[i]!).wi.map Int.toNat)[j]? = some c := hc
      rw [List.getElem?_map] at e
      cases hw : (q.ls[i]!).wi[j]? with
      | none => rw [hw] at e; exact absurd e (by simp)
      | some d =>
        rw [hw] at e
        have := wi_pos hL hi d (List.mem_of_getElem? hw)
        have : d.toNat = c := by simpa using e
        congr 1; omega
    have h1 := (h.calm i hi j c hj hc').1
    rw [num_count hL h.ok]
    have hcl := ((hL i hi).wi _ (List.mem_of_getElem? hc')).2
    show ((q.cs[c]!).pl).toNat ≤ g.count (c : Int)
    have : (q.cs[(c : Int).toNat]!).pl = (q.cs[c]!).pl := by simp
    rw [this] at h1
    omega

theorem fair_accepts (hC : ∀ c, c < q.cs.length → CenOk q c) {g : List Int} (ho : OkG q g) (h : (mk q).Fair (rOf q g)) : Accepts q g := by
  refine ⟨ho, ?_, ?_⟩
  · intro c hc
    have h1 := h.cap c
    rw [num_count hL ho] at h1
    have := (hC c hc).pl
    have h2 : g.count (c : Int) ≤ ((q.cs[c]!).pl).toNat := h1
    omega
  · intro i hi j c hj hc
    obtain ⟨h0, h1⟩ := (hL i hi).wi c (List.mem_of_getElem? hc)
    obtain ⟨d, rfl⟩ : ∃ d : Nat, c = (d : Int) := ⟨c.toNat, by omega⟩
    have hc' : ((mk q).w i)[j]? = some d := by
      show ((q.ls[i]!).wi.map Int.toNat)[j]? = some d
      rw [List.getElem?_map, hc]; simp
    have a1 := h.full i d j hi hj hc'
    rw [num_count hL ho] at a1
    have a1 : ((q.cs[d]!).pl).toNat ≤ g.count (d : Int) := a1
    have := (hC d (by omega)).pl
    refine ⟨?_, fun k hk hg => ?_⟩
    · simp only [Int.toNat_natCast]; omega
    · have a2 := h.calm i k d j hi hk hj hc' ((has_some hL ho hk d).2 hg)
      simp only [Int.toNat_natCast]
      rw [mk_lt hL hk hi]
      simp only [decide_eq_false_iff_not]
      omega

omit hL in
/-- what Give returns -/
theorem give_len : (giveQ q).length = q.ls.length := by simp [giveQ]

omit hL in
theorem give_get {i : Nat} (hi : i < q.ls.length) : (giveQ q)[i]! = numOf ((mk q).has (bestP q) i) := by
  simp [giveQ, hi]

theorem give_place {i : Nat} (hi : i < q.ls.length) : rOf q (giveQ q) i = bestP q i := by
  have h1 := (bestP_best hL).fair.len i hi
  have h1 : bestP q i ≤ ((q.ls[i]!).wi.map Int.toNat).length := h1
  unfold rOf
  rw [give_get hi]
  exact place_num (hL i hi).nd (wi_pos hL hi) (by simpa using h1)

theorem give_ok : OkG q (giveQ q) := by
  refine ⟨give_len, fun i hi => ?_⟩
  rw [give_get hi]
  have e : (mk q).has (bestP q) i = ((q.ls[i]!).wi.map Int.toNat)[bestP q i]? := rfl
  rw [e, toNat_get (wi_pos hL hi)]
  cases hw : (q.ls[i]!).wi[bestP q i]? with
  | none => exact Or.inl rfl
  | some c => exact Or.inr (List.mem_of_getElem? hw)

omit hL in
theorem fair_congr {M : Mk} {p r : Nat → Nat} (h : ∀ i, i < M.n → p i = r i) (hp : M.Fair p) : M.Fair r := by
  have hs : ∀ i, i < M.n → M.has r i = M.has p i := fun i hi => by simp only [Mk.has, h i hi]
  have hn : ∀ c, M.num r c = M.num p c := fun c => cnt_congr fun i hi => by rw [hs i hi]
  refine ⟨fun i hi => by rw [← h i hi]; exact hp.len i hi, fun c => by rw [hn]; exact hp.cap c, ?_, ?_⟩
  · intro i k c j hi hk hj hc hh
    rw [hs k hk] at hh
    exact hp.calm i k c j hi hk (by rw [h i hi]; exact hj) hc hh
  · intro i c j hi hj hc
    rw [hn]
    exact hp.full i c j hi (by rw [h i hi]; exact hj) hc

/-- P12.7 -/
theorem give_accepts (hC : ∀ c, c < q.cs.length → CenOk q c) : Accepts q (giveQ q) :=
  fair_accepts hL hC (give_ok hL) (fair_congr (fun _ hi => (give_place hL hi).symm) (bestP_best hL).fair)

/-- P12.8 -/
theorem give_best (hC : ∀ c, c < q.cs.length → CenOk q c) {g : List Int} (h : Accepts q g) {i : Nat} (hi : i < q.ls.length) : place (q.ls[i]!).wi ((giveQ q)[i]!) ≤ place (q.ls[i]!).wi (g[i]!) := by
  have hf := accepts_fair hL hC h
  have h1 := (bestP_best hL).best _ hf.cap hf.calm i hi
  have h2 := give_place hL hi
  unfold rOf at h1 h2
  omega

/-- P12.12 -/
theorem give_rural (hC : ∀ c, c < q.cs.length → CenOk q c) {g : List Int} (h : Accepts q g) : (∀ c : Nat, c < q.cs.length → (giveQ q).count (c : Int) = g.count (c : Int)) ∧ ∀ i, i < q.ls.length → ((giveQ q)[i]! = -1 ↔ g[i]! = -1) := by
  have hf := accepts_fair hL hC h
  have hm : ∀ i, i < (mk q).n → ∀ c ∈ (mk q).w i, c < q.cs.length := by
    intro i hi c hc
    obtain ⟨x, hx, rfl⟩ := List.mem_map.1 hc
    have := (hL i hi).wi x hx
    omega
  have hb : (mk q).Best (rOf q (giveQ q)) := ⟨fair_congr (fun _ hi => (give_place hL hi).symm) (bestP_best hL).fair, fun r h1 h2 i hi => by
    rw [give_place hL hi]; exact (bestP_best hL).best r h1 h2 i hi⟩
  obtain ⟨r1, r2⟩ := Mk.rural hm hb hf
  refine ⟨fun c hc => ?_, fun i hi => ?_⟩
  · rw [← num_count hL (give_ok hL), ← num_count hL h.ok]; exact r1 c hc
  · have h1 := r2 i hi
    rw [← has_rOf hL (give_ok hL) hi, ← has_rOf hL h.ok hi]
    cases ha : (mk q).has (rOf q (giveQ q)) i <;> cases hb : (mk q).has (rOf q g) i <;> simp [ha, hb, numOf] at h1 ⊢ <;> omega

end

end Go.Proofs.Ytjgolcbpgmlilaa.Qu

namespace Go.Proofs.Ytjgolcbpgmlilaa.Qu
open Go Pl

/-- a list in which a learner has other wishes -/
def wishQ (q : QL) (i : Nat) (v : List Int) : QL := ⟨q.cs, q.ls.set i { q.ls[i]! with wi := v }⟩

theorem wishQ_get (q : QL) {i : Nat} (hi : i < q.ls.length) (v : List Int) (k : Nat) : (wishQ q i v).ls[k]! = if k = i then { q.ls[i]! with wi := v } else q.ls[k]! := by
  show (q.ls.set i _)[k]! = _
  by_cases h : k = i
  · subst h; rw [if_pos rfl]; simp [hi]
  · rw [if_neg h]
    simp only [List.getElem!_eq_getElem?_getD, List.getElem?_set]
    rw [if_neg (Ne.symm h)]

theorem byRules_wi (c : Int) {a b a' b' : Lea} (h1 : a.nm = a'.nm ∧ a.si = a'.si ∧ a.ho = a'.ho ∧ a.fa = a'.fa) (h2 : b.nm = b'.nm ∧ b.si = b'.si ∧ b.ho = b'.ho ∧ b.fa = b'.fa) : ∀ rs, byRules c a b rs = byRules c a' b' rs
  | [] => by simp [byRules, h1.1, h2.1]
  | r :: rs => by
    have e1 : key c a r = key c a' r := by simp [key, h1]
    have e2 : key c b r = key c b' r := by simp [key, h2]
    simp [byRules, e1, e2, byRules_wi c h1 h2 rs]

theorem bef_wish (q : QL) {i : Nat} (hi : i < q.ls.length) (v : List Int) (c a b : Nat) : bef (wishQ q i v) c a b = bef q c a b := by
  unfold bef
  rw [wishQ_get q hi, wishQ_get q hi]
  apply byRules_wi
  · by_cases h : a = i <;> simp [h]
  · by_cases h : b = i <;> simp [h]

theorem mk_wish (q : QL) {i : Nat} (hi : i < q.ls.length) (v : List Int) : mk (wishQ q i v) = (mk q).wish i (v.map Int.toNat) := by
  have hb : bef (wishQ q i v) = bef q := by funext c a b; exact bef_wish q hi v c a b
  have hl : (wishQ q i v).ls.length = q.ls.length := by simp [wishQ]
  unfold mk Mk.wish
  simp only [hb, hl]
  congr 1
  funext k
  rw [wishQ_get q hi]
  by_cases h : k = i <;> simp [h]

theorem leaOk_wish {q : QL} (hL : ∀ i, i < q.ls.length → LeaOk q i) {i : Nat} (hi : i < q.ls.length) {v : List Int} (hv : ∀ x ∈ v, 0 ≤ x ∧ x < q.cs.length) (hn : v.Nodup) : ∀ k, k < (wishQ q i v).ls.length → LeaOk (wishQ q i v) k := by
  intro k hk
  have hk : k < q.ls.length := by simpa [wishQ] using hk
  have hf : ∀ k : Nat, ((wishQ q i v).ls[k]!).nm = (q.ls[k]!).nm ∧ ((wishQ q i v).ls[k]!).si = (q.ls[k]!).si ∧ ((wishQ q i v).ls[k]!).ho = (q.ls[k]!).ho ∧ ((wishQ q i v).ls[k]!).fa = (q.ls[k]!).fa := by
    intro k
    rw [wishQ_get q hi]
    by_cases h : k = i <;> simp [h]
  have h := hL k hk
  refine ⟨fun j hj => ?_, ?_, ?_, ?_, ?_, ?_⟩
  · rw [(hf j).1, (hf k).1]; exact h.nm j hj
  · rw [(hf k).2.1]; exact h.si
  · rw [(hf k).2.2.2]; exact h.fa
  · rw [(hf k).2.2.1]; exact h.ho
  · rw [wishQ_get q hi]
    by_cases e : k = i
    · subst e; simpa [wishQ] using hv
    · simpa [e, wishQ] using h.wi
  · rw [wishQ_get q hi]
    by_cases e : k = i
    · subst e; simpa using hn
    · simpa [e] using h.nd

section
variable {q : QL} (hL : ∀ i, i < q.ls.length → LeaOk q i)
include hL

theorem wish_lt : ∀ i, i < (mk q).n → ∀ c ∈ (mk q).w i, c < q.cs.length := by
  intro i hi c hc
  obtain ⟨x, hx, rfl⟩ := List.mem_map.1 hc
  have := (hL i hi).wi x hx
  omega

omit hL in
theorem w_get {i : Nat} {j : Nat} {c : Int} (h : (q.ls[i]!).wi[j]? = some c) : ((mk q).w i)[j]? = some c.toNat := by
  show ((q.ls[i]!).wi.map Int.toNat)[j]? = _
  rw [List.getElem?_map, h]; rfl

/-- P12.9 -/
theorem give_gains {i : Nat} (hi : i < q.ls.length) {v : List Int} (hv : ∀ x ∈ v, 0 ≤ x ∧ x < q.cs.length) (hn : v.Nodup) :
    place (q.ls[i]!).wi ((giveQ q)[i]!) ≤ place (q.ls[i]!).wi ((giveQ (wishQ q i v))[i]!) := by
  have hL' := leaOk_wish hL hi hv hn
  have hi' : i < (wishQ q i v).ls.length := by simpa [wishQ] using hi
  have hb' := bestP_best hL'
  rw [mk_wish q hi] at hb'
  have h1 := give_place hL hi
  unfold rOf at h1
  rw [h1, give_get hi']
  have hle : bestP q i ≤ (q.ls[i]!).wi.length := by simpa [mk] using (bestP_best hL).fair.len i hi
  by_cases hm : numOf ((mk (wishQ q i v)).has (bestP (wishQ q i v)) i) ∈ (q.ls[i]!).wi
  · have h0 := wi_pos hL hi _ hm
    have hg := place_get (place_mem hm)
    cases hh : (mk (wishQ q i v)).has (bestP (wishQ q i v)) i with
    | none => rw [hh] at h0; simp [numOf] at h0
    | some c =>
      rw [hh] at hg
      rw [mk_wish q hi] at hh
      have hc : (v.map Int.toNat)[bestP (wishQ q i v) i]? = some c := by simpa [Mk.has, Mk.wish] using hh
      have := w_get hg
      exact Mk.gains (mk_inj hL) hi (wish_lt hL) (bestP_best hL) hb' hc (by simpa [numOf] using this)
  · rw [place_none hm]; exact hle

/-- P12.13: fewer wishes -/
theorem give_fewer {i : Nat} (hi : i < q.ls.length) {v : List Int} (hv : List.Sublist v (q.ls[i]!).wi) (hk : (giveQ q)[i]! ≠ -1 → (giveQ q)[i]! ∈ v) : (giveQ (wishQ q i v))[i]! = (giveQ q)[i]! := by
  have hL' := leaOk_wish hL hi (fun x hx => (hL i hi).wi x (hv.subset hx)) ((hL i hi).nd.sublist hv)
  have hi' : i < (wishQ q i v).ls.length := by simpa [wishQ] using hi
  have hb' := bestP_best hL'
  rw [mk_wish q hi] at hb'
  have hnd : ((mk q).w i).Nodup := by
    show ((q.ls[i]!).wi.map Int.toNat).Nodup
    rw [List.Nodup, List.pairwise_map]
    refine (hL i hi).nd.imp_of_mem ?_
    intro a b ha hb hne e
    have := wi_pos hL hi a ha
    have := wi_pos hL hi b hb
    omega
  have h := Mk.fewer (mk_inj hL) hi (wish_lt hL) hnd (v := v.map Int.toNat) (hv.map _) (bestP_best hL) hb' (fun c hc => by
    have e : (giveQ q)[i]! = (c : Int) := by rw [give_get hi, hc]; rfl
    have := hk (by rw [e]; omega)
    rw [e] at this
    exact List.mem_map.2 ⟨_, this, by simp⟩)
  rw [give_get hi', give_get hi, mk_wish q hi, h]

/-- a part of a list, with no fewer places -/
theorem give_sub {q' : QL} (hL' : ∀ i, i < q'.ls.length → LeaOk q' i) {σ : Nat → Nat} (h1 : ∀ k, k < q'.ls.length → σ k < q.ls.length) (h2 : ∀ k k', k < q'.ls.length → k' < q'.ls.length → σ k = σ k' → k = k')
    (hw : ∀ k, k < q'.ls.length → q'.ls[k]! = q.ls[σ k]!) (hq : ∀ c : Nat, (q.cs[c]!).pl.toNat ≤ (q'.cs[c]!).pl.toNat) (hr : ∀ c : Nat, (q'.cs[c]!).ru = (q.cs[c]!).ru) {k : Nat} (hk : k < q'.ls.length) :
    place (q.ls[σ k]!).wi ((giveQ q')[k]!) ≤ place (q.ls[σ k]!).wi ((giveQ q)[σ k]!) := by
  have h := Mk.sub (M := mk q) (M1 := mk q') (σ := σ) h1 h2 (fun k hk => by show _ = _; simp only [mk, hw k hk]) hq (fun c k k' hk hk' hlt => by
    have e : bef q' c k k' = bef q c (σ k) (σ k') := by simp only [bef, hw k hk, hw k' hk', hr]
    have := (Mk.rank_lt (bef_strict hL c) (h1 k' hk') (h1 k hk)).2 hlt
    rw [← e] at this
    exact (Mk.rank_lt (bef_strict hL' c) hk' hk).1 this) (bestP_best hL).fair.cap (bestP_best hL).fair.calm (bestP_best hL') k hk
  have g1 := give_place hL (h1 k hk)
  have g2 := give_place hL' hk
  unfold rOf at g1 g2
  rw [hw k hk] at g2
  omega

/-- P12.13: in another order -/
theorem give_turned {q' : QL} {s : List Nat} (hs : s.Perm (List.range q.ls.length)) (hc : q'.cs = q.cs) (hl : q'.ls = s.map fun i => q.ls[i]!) : giveQ q' = s.map fun i => (giveQ q)[i]! := by
  have hlen : s.length = q.ls.length := by have := hs.length_eq; simpa using this
  have hlen' : q'.ls.length = q.ls.length := by rw [hl]; simpa using hlen
  have hnd : s.Nodup := hs.nodup_iff.2 List.nodup_range
  have hlt : ∀ i ∈ s, i < q.ls.length := fun i hi => by simpa using (hs.mem_iff (a := i)).1 hi
  have hget : ∀ k, k < q.ls.length → q'.ls[k]! = q.ls[s.getD k 0]! := by
    intro k hk
    rw [hl]
    simp [hlen, hk]
  have hgl : ∀ k, k < q.ls.length → s.getD k 0 < q.ls.length := by
    intro k hk
    apply hlt
    rw [List.getD_eq_getElem?_getD, List.getElem?_eq_getElem (by omega)]
    exact List.getElem_mem _
  have hginj : ∀ k k', k < q.ls.length → k' < q.ls.length → s.getD k 0 = s.getD k' 0 → k = k' := by
    intro k k' hk hk' e
    refine Mk.nodup_idx hnd (c := s.getD k 0) ?_ ?_
    · rw [List.getD_eq_getElem?_getD, List.getElem?_eq_getElem (by omega)]; rfl
    · rw [e, List.getD_eq_getElem?_getD, List.getElem?_eq_getElem (by omega)]; rfl
  have hL' : ∀ i, i < q'.ls.length → LeaOk q' i := by
    intro i hi
    rw [hlen'] at hi
    have h := hL _ (hgl i hi)
    refine ⟨fun j hj => ?_, ?_, ?_, ?_, ?_, ?_⟩
    · rw [hget i hi, hget j (by omega)]
      have hne : s.getD j 0 ≠ s.getD i 0 := fun e => by have := hginj j i (by omega) hi e; omega
      rcases Nat.lt_or_gt_of_ne hne with g | g
      · exact h.nm _ g
      · exact Ne.symm ((hL _ (hgl j (by omega))).nm _ g)
    · rw [hget i hi]; exact h.si
    · rw [hget i hi]; exact h.fa
    · rw [hget i hi, hc]; exact h.ho
    · rw [hget i hi, hc]; exact h.wi
    · rw [hget i hi]; exact h.nd
  have h := Mk.turned (M := mk q) (M1 := mk q') hs hlen' (fun k hk => by show _ = _; simp only [mk, hget k hk]) (fun c => by simp only [mk, hc]) (fun c k k' hk hk' => by
    have e : bef q' c k k' = bef q c (s.getD k 0) (s.getD k' 0) := by simp only [bef, hget k hk, hget k' hk', hc]
    have a := Mk.rank_lt (bef_strict hL c) (hgl k' hk') (hgl k hk)
    have b := Mk.rank_lt (bef_strict hL' c) (i := k') (k := k) (by rw [hlen']; exact hk') (by rw [hlen']; exact hk)
    rw [e] at b
    exact a.symm.trans b) (bestP_best hL) (bestP_best hL')
  apply List.ext_getElem
  · simp [giveQ, hlen, hlen']
  · intro k h3 h4
    have hk : k < q.ls.length := by simpa [hlen] using h4
    have e1 : (giveQ q')[k] = (giveQ q')[k]! := by simp [h3]
    have e2 : s[k]'(by omega) = s.getD k 0 := by rw [List.getD_eq_getElem?_getD, List.getElem?_eq_getElem (by omega)]; rfl
    rw [e1, give_get (by omega), List.getElem_map, e2, give_get (hgl k hk)]
    simp only [Mk.has]
    rw [h k hk]
    show numOf (((q'.ls[k]!).wi.map Int.toNat)[_]?) = numOf (((q.ls[s.getD k 0]!).wi.map Int.toNat)[_]?)
    rw [hget k hk]

end

/-- the rank of a learner -/
def rankQ (q : QL) (c i : Nat) : Nat := Mk.rankOf q.ls.length (bef q c) i + 1

/-- the greatest rank of those who are given a centre, of so many first ones -/
def maxTo (q : QL) (g : List Int) (c : Nat) : Nat → Nat
  | 0 => 0
  | n + 1 => if g[n]! = (c : Int) then max (maxTo q g c n) (rankQ q c n) else maxTo q g c n

noncomputable def cutQ (q : QL) : List Int := (List.range q.cs.length).map fun c : Nat =>
  if ((giveQ q).count (c : Int) : Int) < (q.cs[c]!).pl then (q.ls.length : Int) else (maxTo q (giveQ q) c q.ls.length : Nat)

theorem maxTo_ge {q : QL} {g : List Int} {c : Nat} : ∀ {n i : Nat}, i < n → g[i]! = (c : Int) → rankQ q c i ≤ maxTo q g c n
  | 0, i, h, _ => by omega
  | n + 1, i, h, e => by
    unfold maxTo
    by_cases hi : i = n
    · subst hi; rw [if_pos e]; omega
    · have := maxTo_ge (q := q) (n := n) (i := i) (by omega) e
      split <;> omega

theorem maxTo_lt {q : QL} {g : List Int} {c R : Nat} (hR : 0 < R) : ∀ {n : Nat}, (∀ i, i < n → g[i]! = (c : Int) → rankQ q c i < R) → maxTo q g c n < R
  | 0, _ => hR
  | n + 1, h => by
    have := maxTo_lt (q := q) (g := g) (c := c) hR (n := n) (fun i hi => h i (by omega))
    unfold maxTo
    by_cases e : g[n]! = (c : Int)
    · rw [if_pos e]; have := h n (by omega) e; omega
    · rw [if_neg e]; exact this

theorem rank_le {q : QL} {c i : Nat} (hL : ∀ i, i < q.ls.length → LeaOk q i) (hi : i < q.ls.length) : rankQ q c i ≤ q.ls.length := by
  unfold rankQ Mk.rankOf
  have h1 : cnt q.ls.length (fun k => bef q c k i) + 1 ≤ cnt q.ls.length (fun _ => true) := cnt_lt (k := i) (fun _ _ _ => rfl) hi ((bef_strict hL c).irr i hi) rfl
  have := cnt_le (n := q.ls.length) (P := fun _ => true)
  omega

/-- P12.10: below what is given the rank is greater than what is printed, at it it is not -/
theorem give_printed {q : QL} (hL : ∀ i, i < q.ls.length → LeaOk q i) (hC : ∀ c, c < q.cs.length → CenOk q c) {i j : Nat} {c : Int} (hi : i < q.ls.length) (hc : (q.ls[i]!).wi[j]? = some c) :
    (j < place (q.ls[i]!).wi ((giveQ q)[i]!) → (cutQ q)[c.toNat]! < (rankQ q c.toNat i : Int)) ∧ (j = place (q.ls[i]!).wi ((giveQ q)[i]!) → (rankQ q c.toNat i : Int) ≤ (cutQ q)[c.toNat]!) := by
  have ha := give_accepts hL hC
  obtain ⟨h0, h1⟩ := (hL i hi).wi c (List.mem_of_getElem? hc)
  obtain ⟨d, rfl⟩ : ∃ d : Nat, c = (d : Int) := ⟨c.toNat, by omega⟩
  have hd : d < q.cs.length := by omega
  have hcut : (cutQ q)[(d : Int).toNat]! = if ((giveQ q).count (d : Int) : Int) < (q.cs[d]!).pl then (q.ls.length : Int) else (maxTo q (giveQ q) d q.ls.length : Nat) := by
    simp [cutQ, hd]
  rw [hcut]
  simp only [Int.toNat_natCast]
  refine ⟨fun hj => ?_, fun hj => ?_⟩
  · obtain ⟨g1, g2⟩ := ha.calm i hi j d hj hc
    simp only [Int.toNat_natCast] at g1 g2
    rw [if_neg g1]
    have : maxTo q (giveQ q) d q.ls.length < rankQ q d i := by
      apply maxTo_lt (by unfold rankQ; omega)
      intro k hk hg
      have g3 := g2 k hk hg
      have hne : i ≠ k := by
        intro e
        subst e
        rw [hg, place_idx (hL i hi).nd hc] at hj
        omega
      rcases (bef_strict hL d).tot i k hi hk hne with g4 | g4
      · rw [g3] at g4; exact absurd g4 (by decide)
      · have := (Mk.rank_lt (bef_strict hL d) hi hk).1 g4
        unfold rankQ; omega
    omega
  · have hg : (giveQ q)[i]! = (d : Int) := by
      have hlt : j < (q.ls[i]!).wi.length := (List.getElem?_eq_some_iff.1 hc).1
      have := place_get (w := (q.ls[i]!).wi) (c := (giveQ q)[i]!) (by omega)
      rw [← hj, hc] at this
      simpa using this.symm
    split
    · have := rank_le (c := d) hL hi; omega
    · have := maxTo_ge (q := q) hi hg; omega

end Go.Proofs.Ytjgolcbpgmlilaa.Qu

namespace Go.Proofs.Ytjgolcbpgmlilaa.Qu
open Pl
set_option linter.unusedVariables false

def woQ (q : QL) (i : Nat) : QL := ⟨q.cs, q.ls.eraseIdx i⟩
def moreQ (q : QL) (c : Nat) : QL := ⟨q.cs.set c { q.cs[c]! with pl := (q.cs[c]!).pl + 1 }, q.ls⟩
def upI (i k : Nat) : Nat := if k < i then k else k + 1

theorem wo_len (q : QL) {i : Nat} (hi : i < q.ls.length) : (woQ q i).ls.length = q.ls.length - 1 := by
  simp [woQ, List.length_eraseIdx, hi]
theorem wo_get (q : QL) {i k : Nat} (hk : k < (woQ q i).ls.length) : (woQ q i).ls[k]! = q.ls[upI i k]! := by
  have hl := List.length_eraseIdx (l := q.ls) (i := i)
  simp only [woQ, upI, List.getElem!_eq_getElem?_getD] at hk ⊢
  rw [List.getElem?_eraseIdx]
  split <;> rfl

theorem leaOk_wo {q : QL} (hL : ∀ i, i < q.ls.length → LeaOk q i) {i : Nat} (hi : i < q.ls.length) : ∀ k, k < (woQ q i).ls.length → LeaOk (woQ q i) k := by
  intro k hk
  have hl := wo_len q hi
  have hu : upI i k < q.ls.length := by unfold upI; split <;> omega
  have h := hL _ hu
  have e := wo_get q hk
  refine ⟨fun k' hk' => ?_, by rw [e]; exact h.si, by rw [e]; exact h.fa, by rw [e]; exact h.ho, fun x hx => h.wi x (by rw [← e]; exact hx), by rw [e]; exact h.nd⟩
  rw [e, wo_get q (by omega)]
  refine h.nm _ ?_
  unfold upI
  split <;> split <;> omega

theorem more_len (q : QL) (c : Nat) : (moreQ q c).cs.length = q.cs.length := by simp [moreQ]
theorem more_get (q : QL) {c k : Nat} (hc : c < q.cs.length) : (moreQ q c).cs[k]! = if k = c then { q.cs[c]! with pl := (q.cs[c]!).pl + 1 } else q.cs[k]! := by
  by_cases h : k = c
  · subst h; rw [if_pos rfl, getElem!_pos _ _ (by rw [more_len]; exact hc)]; simp [moreQ]
  · rw [if_neg h]
    simp only [moreQ, List.getElem!_eq_getElem?_getD]
    rw [List.getElem?_set_ne (Ne.symm h)]

theorem leaOk_more {q : QL} (hL : ∀ i, i < q.ls.length → LeaOk q i) (c : Nat) : ∀ k, k < (moreQ q c).ls.length → LeaOk (moreQ q c) k := fun k hk =>
  let h := hL k hk
  ⟨h.nm, h.si, h.fa, by rw [more_len]; exact h.ho, by rw [more_len]; exact h.wi, h.nd⟩
theorem cenOk_more {q : QL} (hC : ∀ c, c < q.cs.length → CenOk q c) {c : Nat} (hc : c < q.cs.length) (hp : (q.cs[c]!).pl ≠ 6) : ∀ k, k < (moreQ q c).cs.length → CenOk (moreQ q c) k := by
  intro k hk
  rw [more_len] at hk
  by_cases h : k = c
  · subst h
    have := hC k hk
    refine ⟨?_, ?_⟩
    · rw [more_get q hc, if_pos rfl]
      have := this.pl
      exact ⟨by show 0 ≤ (q.cs[k]!).pl + 1; omega, by show (q.cs[k]!).pl + 1 ≤ 6; omega⟩
    · rw [more_get q hc, if_pos rfl]; exact this.ru
  · have := hC k hk
    exact ⟨by rw [more_get q hc, if_neg h]; exact this.pl, by rw [more_get q hc, if_neg h]; exact this.ru⟩

/-- who moves, from where and to where -/
def movs (b a : Nat → Int) : Nat → List (Nat × Int × Int)
  | 0 => []
  | n + 1 => movs b a n ++ if a n = b n then [] else [(n, b n, a n)]

theorem movs_congr {b a b' a' : Nat → Int} : ∀ {n : Nat}, (∀ k, k < n → b k = b' k ∧ a k = a' k) → movs b a n = movs b' a' n
  | 0, _ => rfl
  | n + 1, h => by
    simp only [movs]
    rw [movs_congr fun k hk => h k (by omega), (h n (by omega)).1, (h n (by omega)).2]
theorem movs_len {b a : Nat → Int} : ∀ n : Nat, (movs b a n).length ≤ n
  | 0 => Nat.le_refl _
  | n + 1 => by
    have := movs_len (b := b) (a := a) n
    simp only [movs, List.length_append]
    split <;> simp <;> omega

theorem giveQ_len (q : QL) : (giveQ q).length = q.ls.length := by simp [giveQ]

/-- what everybody has when learner i has left -/
noncomputable def leftA (q : QL) (i k : Nat) : Int := if k = i then (giveQ q)[k]! else (giveQ (woQ q i))[if k < i then k else k - 1]!
noncomputable def cancM (q : QL) (i : Nat) : List (Nat × Int × Int) := movs (fun k => (giveQ q)[k]!) (leftA q i) q.ls.length
noncomputable def openM (q : QL) (c : Nat) : List (Nat × Int × Int) := movs (fun k => (giveQ q)[k]!) (fun k => (giveQ (moreQ q c))[k]!) q.ls.length

theorem left_at {q : QL} {i : Nat} (hi : i < q.ls.length) {k : Nat} (hk : k < q.ls.length) : ((giveQ (woQ q i)).take i ++ (giveQ q)[i]! :: (giveQ (woQ q i)).drop i)[k]! = leftA q i k := by
  have hl : (giveQ (woQ q i)).length = q.ls.length - 1 := by rw [giveQ_len, wo_len q hi]
  unfold leftA
  rcases Nat.lt_trichotomy k i with h | h | h
  · rw [if_neg (by omega), if_pos h, List.getElem!_eq_getElem?_getD, List.getElem?_append_left (by simp; omega), List.getElem?_take, if_pos h, List.getElem!_eq_getElem?_getD]
  · subst h
    rw [if_pos rfl, List.getElem!_eq_getElem?_getD, List.getElem?_append_right (by simp; omega)]
    simp [hl, show min k (q.ls.length - 1) = k by omega]
  · rw [if_neg (by omega), if_neg (by omega), List.getElem!_eq_getElem?_getD, List.getElem?_append_right (by simp; omega), List.length_take, hl, show min i (q.ls.length - 1) = i by omega]
    obtain ⟨d, rfl⟩ : ∃ d, k = i + (d + 1) := ⟨k - i - 1, by omega⟩
    rw [show i + (d + 1) - i = d + 1 by omega, List.getElem?_cons_succ, List.getElem?_drop, show i + (d + 1) - 1 = i + d by omega, List.getElem!_eq_getElem?_getD]

end Go.Proofs.Ytjgolcbpgmlilaa.Qu

namespace Go.Proofs.Ytjgolcbpgmlilaa.AM
open Go Go.Proofs.Ytjgolcbpgmlilaa.Qu
set_option linter.unusedVariables false
set_option linter.unusedSimpArgs false

def cenC (c : Cen) : List CV := [.str c.nm, .int .i64 c.pl, .rsl (c.ru.map (.int .i64)) c.ru.length]
def leaC (x : Lea) : List CV := [.str x.nm, .int .i64 x.si, .int .i64 x.ho, .int .i64 x.fa, .rsl (x.wi.map (.int .i64)) x.wi.length]
abbrev cenA (c : Cen) : AV := .agg [.cv (.str c.nm), .i c.pl, ints c.ru]
abbrev leaA (x : Lea) : AV := .agg [.cv (.str x.nm), .i x.si, .i x.ho, .i x.fa, ints x.wi]
def cenCs (cs : List Cen) : List CV := cs.flatMap cenC
def leaCs (ls : List Lea) : List CV := ls.flatMap leaC
abbrev cenL (cs : List Cen) : AV := .cv (.rsl (cenCs cs) cs.length)
abbrev leaL (ls : List Lea) : AV := .cv (.rsl (leaCs ls) ls.length)
abbrev qV (q : QL) : AV := .agg [cenL q.cs, leaL q.ls]

theorem cenC_len (c : Cen) : (cenC c).length = 3 := rfl
theorem leaC_len (x : Lea) : (leaC x).length = 5 := rfl
theorem cenCs_len (cs : List Cen) : (cenCs cs).length = cs.length * 3 := flat_len cenC_len cs
theorem leaCs_len (ls : List Lea) : (leaCs ls).length = ls.length * 5 := flat_len leaC_len ls

section
variable {cs : List Cen} {ls : List Lea} {k : Nat}
theorem cen_0 (h : k < cs.length) : (cenCs cs)[k * 3]? = some (.str (cs[k]!).nm) := flat_get cenC_len h (j := 0) (by omega)
theorem cen_1 (h : k < cs.length) : (cenCs cs)[k * 3 + 1]? = some (.int .i64 (cs[k]!).pl) := flat_get cenC_len h (j := 1) (by omega)
theorem cen_2 (h : k < cs.length) : (cenCs cs)[k * 3 + 2]? = some (.rsl ((cs[k]!).ru.map (.int .i64)) (cs[k]!).ru.length) := flat_get cenC_len h (j := 2) (by omega)
theorem cen_ld (h : k < cs.length) (σ : List AObj) : f_loadN 3 [.cv (.rp (cenCs cs) (k * 3))] σ = some (cenA cs[k]!, σ) := by
  have h1 : k * 3 + 3 ≤ (cenCs cs).length := by rw [cenCs_len]; omega
  have h2 := flat_at cenC_len h
  simp only [f_loadN, h1, if_true]
  unfold cenCs; rw [h2]; rfl
theorem cen_sl (h : k ≤ cs.length) (σ : List AObj) : f_slS 3 false true [cenL cs, .cv (.int .i64 k)] σ = some (cenL (cs.take k), σ) := by
  rw [sl_rsl h (cenCs_len cs)]; unfold cenCs; rw [flat_take cenC_len]; simp [h, cenCs]
theorem lea_0 (h : k < ls.length) : (leaCs ls)[k * 5]? = some (.str (ls[k]!).nm) := flat_get leaC_len h (j := 0) (by omega)
theorem lea_1 (h : k < ls.length) : (leaCs ls)[k * 5 + 1]? = some (.int .i64 (ls[k]!).si) := flat_get leaC_len h (j := 1) (by omega)
theorem lea_2 (h : k < ls.length) : (leaCs ls)[k * 5 + 2]? = some (.int .i64 (ls[k]!).ho) := flat_get leaC_len h (j := 2) (by omega)
theorem lea_3 (h : k < ls.length) : (leaCs ls)[k * 5 + 3]? = some (.int .i64 (ls[k]!).fa) := flat_get leaC_len h (j := 3) (by omega)
theorem lea_4 (h : k < ls.length) : (leaCs ls)[k * 5 + 4]? = some (.rsl ((ls[k]!).wi.map (.int .i64)) (ls[k]!).wi.length) := flat_get leaC_len h (j := 4) (by omega)
theorem lea_ld (h : k < ls.length) (σ : List AObj) : f_loadN 5 [.cv (.rp (leaCs ls) (k * 5))] σ = some (leaA ls[k]!, σ) := by
  have h1 : k * 5 + 5 ≤ (leaCs ls).length := by rw [leaCs_len]; omega
  have h2 := flat_at leaC_len h
  simp only [f_loadN, h1, if_true]
  unfold leaCs; rw [h2]; rfl
theorem lea_sl (h : k ≤ ls.length) (σ : List AObj) : f_slS 5 false true [leaL ls, .cv (.int .i64 k)] σ = some (leaL (ls.take k), σ) := by
  rw [sl_rsl h (leaCs_len ls)]; unfold leaCs; rw [flat_take leaC_len]; simp [h, leaCs]
end

/-- what is known of the sizes of a list -/
structure QSz (q : QL) : Prop where
  cs : q.cs.length < 2 ^ 63
  ls : q.ls.length < 2 ^ 63
  nm : ∀ i, i < q.cs.length → (q.cs[i]!).nm.size < 2 ^ 63
  ru : ∀ i, i < q.cs.length → (q.cs[i]!).ru.length < 2 ^ 63
  lm : ∀ i, i < q.ls.length → (q.ls[i]!).nm.size < 2 ^ 63
  wi : ∀ i, i < q.ls.length → (q.ls[i]!).wi.length < 2 ^ 63

end Go.Proofs.Ytjgolcbpgmlilaa.AM

namespace Go.Proofs.Ytjgolcbpgmlilaa.AM
open Go
set_option linter.unusedVariables false

abbrev vs17 : List Nat := [0, 1, 2, 3, 4, 5, 6, 7, 8, 19, 24, 31, 38, 45]
def ic17l0 : IC := (.seq (.seq (.region [jv 7, jF 1 1, jl 1, je 2, jw 12 (.bin .lss .int) [.t 0, .t 3]])
 (.cond 12 .skip
 (.exit 2)))
 (.seq (.block 3 (.seq (.region [jN 2 1, jv 7, jk 47 [.t 0, .t 1], jm 8 2])
 (.seq (.region [jv 8, jw 13 (.bin .neq .int) [.t 0, jn 0]])
 (.cond 13 (.seq (.region [jv 7, jv 8, jz 2 3, jm 3 0, jm 4 1])
 .ret)
 .skip))))
 (.region [jv 7, jq (.bin .add .int) [.t 0, jn 1], jm 7 1])))
def ic17l1 : IC := (.seq (.seq (.region [jv 5, jF 0 1, jl 1, je 2, jw 10 (.bin .lss .int) [.t 0, .t 3]])
 (.cond 10 .skip
 (.exit 0)))
 (.seq (.block 1 (.seq (.region [jN 2 1, jv 5, jk 46 [.t 0, .t 1], jm 6 2])
 (.seq (.region [jv 6, jw 11 (.bin .neq .int) [.t 0, jn 0]])
 (.cond 11 (.seq (.region [jv 5, jv 6, jz 2 2, jm 3 0, jm 4 1])
 .ret)
 .skip))))
 (.region [jv 5, jq (.bin .add .int) [.t 0, jn 1], jm 5 1])))
def ic17 : IC := (.seq (.region [jb 1 0, jz 2 0, jz 3 0, jz 4 0])
 (.seq (.seq (.region [jF 0 1, jl 0, je 1, jk 45 [.t 2, jn 1, jn 5], jq .not [.t 3], jt 4, jg 5 false (.fadd 1) [.v 1], ji 5 false 6, jg 5 false (.len false) [.t 7], jg 5 false (.bin .gtr .int) [.t 8, jn 8], jw 9 .pick [.t 5, jB true, .t 9]])
 (.cond 9 (.seq (.region [jz 2 1, jz 3 0, jz 4 3])
 .ret)
 .skip))
 (.seq (.seq (.region [jz 5 0])
 (.block 0 (.loop ic17l1)))
 (.seq (.seq (.region [jz 7 0])
 (.block 2 (.loop ic17l0)))
 (.seq (.region [jz 2 0, jz 3 0, jz 4 0])
 .ret)))))
abbrev rs17 : List RC := [(.v 2), (.v 3), (.v 4)]
theorem fok17 (p : Bool) : FnOk Try.prog 17 ⟨ic17, vs17, 48, rs17, p⟩ := .mk2 Try.func17 (by kernel_rfl) (by kernel_rfl) (by kernel_rfl) (by kernel_rfl) (by kernel_rfl)

abbrev vs19 : List Nat := [0, 1, 2, 4, 5, 8, 9, 10, 11, 28, 30, 39]
def ic19l0 : IC := (.seq (.seq (.region [jv 7, jv 6, je 1, jw 11 (.bin .lss .int) [.t 0, .t 2]])
 (.cond 11 .skip
 (.exit 0)))
 (.seq (.block 1 (.seq (.region [jN 2 2, jv 1, jv 7, jk 37 [.t 0, .t 1, .t 2], jm 8 3])
 (.region [jv 6, jv 8, jq (.bin .sub .int) [.t 1, jn 1], jv 7, ja 1 0 2, jq (.store 1) [.t 4, .t 3]])))
 (.region [jv 7, jq (.bin .add .int) [.t 0, jn 1], jm 7 1])))
def ic19 : IC := (.seq (.region [jb 2 0, jw 3 .mv [jS], jz 4 0])
 (.seq (.region [jN 2 2, jk 17 [.t 0], jt 1, jx 0 2, jx 1 2, jx 2 2, jt 3, jt 4, jm 5 5])
 (.seq (.seq (.region [jv 5, jq (.bin .eql .int) [.t 0, jn 0], jt 1, jh 2 true 1, jg 2 true (.fadd 0) [.v 2], ji 2 true 4, jg 2 true (.len false) [.t 5], jg 2 true (.bin .sub .int) [.t 6, jn 1], jf 2 true 45 [.t 3, jn 0, .t 7], jg 2 true .not [.t 8], jw 9 .pick [.t 2, .t 9, jB false]])
 (.cond 9 (.region [jz 5 4])
 .skip))
 (.seq (.seq (.region [jv 5, jw 10 (.bin .neq .int) [.t 0, jn 0]])
 (.cond 10 (.seq (.region [jv 5, jw 3 .mv [jS], jm 4 0])
 .ret)
 .skip))
 (.seq (.region [jF 1 2, jl 0, je 1, jq (.mkslice 1 8 [(.cv (.int .i64 0))]) [.t 2, .t 2], jm 6 3])
 (.seq (.seq (.region [jz 7 0])
 (.block 0 (.loop ic19l0)))
 (.seq (.region [jv 6, jm 3 0, jz 4 0])
 .ret)))))))
abbrev rs19 : List RC := [(.v 3), (.v 4)]
theorem fok19 (p : Bool) : FnOk Try.prog 19 ⟨ic19, vs19, 52, rs19, p⟩ := .mk2 Try.func19 (by kernel_rfl) (by kernel_rfl) (by kernel_rfl) (by kernel_rfl) (by kernel_rfl)

abbrev vs20 : List Nat := [0, 1, 4, 5, 10, 14, 25]
def ic20l0 : IC := (.seq (.seq (.region [jv 3, jv 0, je 1, jw 5 (.bin .lss .int) [.t 0, .t 2]])
 (.cond 5 .skip
 (.exit 0)))
 (.seq (.block 1 (.seq (.dr [[], [], [0, 1], [2], [], [], [4, 5], [6], [3, 7]] [jv 0, jv 3, ja 1 0 1, jl 2, jv 1, jv 3, ja 1 4 5, jl 6, jw 6 (.bin .neq .int) [.t 3, .t 7]])
 (.cond 6 (.seq (.region [jw 2 .mv [jB false]])
 .ret)
 .skip)))
 (.region [jv 3, jq (.bin .add .int) [.t 0, jn 1], jm 3 1])))
def ic20 : IC := (.seq (.region [jw 2 .mv [jB false]])
 (.seq (.seq (.region [jv 0, je 0, jv 1, je 2, jw 4 (.bin .neq .int) [.t 1, .t 3]])
 (.cond 4 (.seq (.region [jw 2 .mv [jB false]])
 .ret)
 .skip))
 (.seq (.seq (.region [jz 3 0])
 (.block 0 (.loop ic20l0)))
 (.seq (.region [jw 2 .mv [jB true]])
 .ret))))
abbrev rs20 : List RC := [(.v 2)]
theorem fok20 (p : Bool) : FnOk Try.prog 20 ⟨ic20, vs20, 26, rs20, p⟩ := .mk2 Try.func20 (by kernel_rfl) (by kernel_rfl) (by kernel_rfl) (by kernel_rfl) (by kernel_rfl)

abbrev vs23 : List Nat := [0, 1, 2, 3, 6, 14]
def ic23 : IC := (.seq (.region [jb 1 0, jw 2 .mv [jS], jz 3 0])
 (.seq (.region [jN 2 1, jk 17 [.t 0], jt 1, jx 0 2, jx 1 2, jx 2 2, jt 3, jt 4, jm 4 5])
 (.seq (.seq (.region [jv 4, jw 5 (.bin .neq .int) [.t 0, jn 0]])
 (.cond 5 (.seq (.region [jv 4, jw 2 .mv [jS], jm 3 0])
 .ret)
 .skip))
 (.seq (.region [jN 2 1, jk 51 [.t 0], jm 2 1, jz 3 0])
 .ret))))
abbrev rs23 : List RC := [(.v 2), (.v 3)]
theorem fok23 (p : Bool) : FnOk Try.prog 23 ⟨ic23, vs23, 18, rs23, p⟩ := .mk2 Try.func23 (by kernel_rfl) (by kernel_rfl) (by kernel_rfl) (by kernel_rfl) (by kernel_rfl)

abbrev vs25 : List Nat := [0, 1, 2, 3, 4, 5, 6, 7, 8, 9, 16, 22, 28, 36, 52]
def ic25l0 : IC := (.seq (.seq (.region [jv 9, jv 4, je 1, jw 12 (.bin .lss .int) [.t 0, .t 2]])
 (.cond 12 .skip
 (.exit 2)))
 (.seq (.block 3 (.seq (.region [jv 4, jv 9, ja 1 0 1, jl 2, jv 7, jw 13 (.bin .eql .int) [.t 3, .t 4]])
 (.cond 13 (.region [jv 8, jN 2 1, jv 7, jv 9, jk 37 [.t 1, .t 2, .t 3], jq .max2 [.t 0, .t 4], jm 8 5])
 .skip)))
 (.region [jv 9, jq (.bin .add .int) [.t 0, jn 1], jm 9 1])))
def ic25l1 : IC := (.seq (.seq (.region [jv 7, jF 0 1, jl 1, je 2, jw 11 (.bin .lss .int) [.t 0, .t 3]])
 (.cond 11 .skip
 (.exit 0)))
 (.seq (.block 1 (.seq (.region [jz 8 0])
 (.seq (.seq (.region [jz 9 0])
 (.block 2 (.loop ic25l0)))
 (.seq (.seq (.dr [[], [], [0, 1], [], [3], [], [4, 5], [6], [7], [2, 8]] [jv 4, jv 7, jk 38 [.t 0, .t 1], jF 0 1, jl 3, jv 7, ja 3 4 5, jG 1 6, jl 7, jw 14 (.bin .lss .int) [.t 2, .t 8]])
 (.cond 14 (.region [jF 1 1, jl 0, je 1, jm 8 2])
 .skip))
 (.region [jv 6, jv 8, jq (.bslice 1 1 [(.cv (.int .i64 0))] [(0, 1)]) [.t 1], jq (.append 1 8) [.t 0, .t 2], jm 6 3])))))
 (.region [jv 7, jq (.bin .add .int) [.t 0, jn 1], jm 7 1])))
def ic25 : IC := (.seq (.region [jb 1 0, jw 2 .mv [jS], jz 3 0])
 (.seq (.region [jN 2 1, jk 23 [.t 0], jt 1, jx 0 2, jx 1 2, jm 4 3, jm 5 4])
 (.seq (.seq (.region [jv 5, jw 10 (.bin .neq .int) [.t 0, jn 0]])
 (.cond 10 (.seq (.region [jv 5, jw 2 .mv [jS], jm 3 0])
 .ret)
 .skip))
 (.seq (.region [jw 6 .mv [jS]])
 (.seq (.seq (.region [jz 7 0])
 (.block 0 (.loop ic25l1)))
 (.seq (.region [jv 6, jm 2 0, jz 3 0])
 .ret))))))
abbrev rs25 : List RC := [(.v 2), (.v 3)]
theorem fok25 (p : Bool) : FnOk Try.prog 25 ⟨ic25, vs25, 61, rs25, p⟩ := .mk2 Try.func25 (by kernel_rfl) (by kernel_rfl) (by kernel_rfl) (by kernel_rfl) (by kernel_rfl)

abbrev vs27 : List Nat := [0, 1, 2, 4, 5, 6, 9, 10, 11, 12, 13, 29, 31, 36, 63, 69, 81, 86, 94]
def ic27l0 : IC := (.seq (.seq (.region [jv 9, jv 1, je 1, jw 17 (.bin .lss .int) [.t 0, .t 2]])
 (.cond 17 .skip
 (.exit 4)))
 (.seq (.block 5 (.seq (.region [jN 2 2, jv 1, jv 9, jk 56 [.t 0, .t 1, .t 2], jm 10 3])
 (.seq (.region [jv 10, jw 18 (.bin .geq .int) [.t 0, jn 0]])
 (.cond 18 (.seq (.region [jv 9, jv 10, jm 3 0, jm 4 1, jz 5 9])
 .ret)
 .skip))))
 (.region [jv 9, jq (.bin .add .int) [.t 0, jn 1], jm 9 1])))
def ic27l1 : IC := (.seq (.seq (.region [jv 8, jF 0 2, jl 1, je 2, jw 15 (.bin .lss .int) [.t 0, .t 3]])
 (.cond 15 .skip
 (.exit 2)))
 (.seq (.block 3 (.seq (.dr [[], [], [0, 1], [], [3], [], [4, 5], [6], [7], [2, 8]] [jv 1, jv 8, jk 38 [.t 0, .t 1], jF 0 2, jl 3, jv 8, ja 3 4 5, jG 1 6, jl 7, jw 16 (.bin .gtr .int) [.t 2, .t 8]])
 (.cond 16 (.seq (.region [jv 8, jz 3 0, jm 4 0, jz 5 7])
 .ret)
 .skip)))
 (.region [jv 8, jq (.bin .add .int) [.t 0, jn 1], jm 8 1])))
def ic27l2 : IC := (.seq (.seq (.region [jv 7, jv 1, je 1, jw 13 (.bin .lss .int) [.t 0, .t 2]])
 (.cond 13 .skip
 (.exit 0)))
 (.seq (.block 1 (.seq (.dr [[], [], [0, 1], [2], [3], [4], [5], [6, 5], [5], [7, 8, 5], [9, 5], [5], [5], [11, 12, 5], [13, 5], [10, 14, 5, 5], [5], [16, 5], [5], [17, 18, 5], [19, 5], [20, 5], [21, 5], [15, 22, 5], [5, 23]] [jv 1, jv 7, ja 1 0 1, jl 2, jq (.bin .neq .int) [.t 3, jn (-1)], jt 4, jg 5 true (.fadd 1) [.v 2], ji 5 true 6, jh 5 true 7, jg 5 true (.iaS 5) [.t 7, .t 8], jg 5 true (.loadN 5) [.t 9], jh 5 true 1, jh 5 true 7, jg 5 true (.iaS 1) [.t 11, .t 12], ji 5 true 13, jf 5 true 35 [.t 10, .t 14], jg 5 true (.fadd 1) [.v 2], ji 5 true 16, jh 5 true 7, jg 5 true (.iaS 5) [.t 17, .t 18], jg 5 true (.fadd 4) [.t 19], ji 5 true 20, jg 5 true (.len false) [.t 21], jg 5 true (.bin .eql .int) [.t 15, .t 22], jw 14 .pick [.t 5, .t 23, jB false]])
 (.cond 14 (.seq (.region [jv 7, jm 3 0, jz 4 0, jz 5 4])
 .ret)
 .skip)))
 (.region [jv 7, jq (.bin .add .int) [.t 0, jn 1], jm 7 1])))
def ic27 : IC := (.seq (.region [jb 2 0, jz 3 0, jz 4 0, jz 5 0])
 (.seq (.region [jN 2 2, jk 17 [.t 0], jt 1, jx 0 2, jx 1 2, jx 2 2, jt 3, jt 4, jm 6 5])
 (.seq (.seq (.region [jv 6, jq (.bin .eql .int) [.t 0, jn 0], jt 1, jh 2 true 1, jg 2 true (.len false) [.t 3], jg 2 true (.fadd 1) [.v 2], ji 2 true 5, jg 2 true (.len false) [.t 6], jg 2 true (.bin .neq .int) [.t 4, .t 7], jw 11 .pick [.t 2, .t 8, jB false]])
 (.cond 11 (.region [jz 6 3])
 .skip))
 (.seq (.seq (.region [jv 6, jw 12 (.bin .neq .int) [.t 0, jn 0]])
 (.cond 12 (.seq (.region [jv 6, jz 3 0, jz 4 0, jm 5 0])
 .ret)
 .skip))
 (.seq (.seq (.region [jz 7 0])
 (.block 0 (.loop ic27l2)))
 (.seq (.seq (.region [jz 8 0])
 (.block 2 (.loop ic27l1)))
 (.seq (.seq (.region [jz 9 0])
 (.block 4 (.loop ic27l0)))
 (.seq (.region [jz 3 0, jz 4 0, jz 5 0])
 .ret))))))))
abbrev rs27 : List RC := [(.v 3), (.v 4), (.v 5)]
theorem fok27 (p : Bool) : FnOk Try.prog 27 ⟨ic27, vs27, 97, rs27, p⟩ := .mk2 Try.func27 (by kernel_rfl) (by kernel_rfl) (by kernel_rfl) (by kernel_rfl) (by kernel_rfl)

abbrev vs29 : List Nat := [0, 1, 2, 4, 5, 6, 7, 8, 9, 10, 11, 27, 29, 38, 44, 60]
def ic29l0 : IC := (.seq (.seq (.region [jv 9, jv 5, je 1, jw 13 (.bin .lss .int) [.t 0, .t 2]])
 (.cond 13 .skip
 (.exit 0)))
 (.seq (.block 1 (.seq (.region [jv 9, jm 10 0])
 (.seq (.seq (.region [jv 9, jv 1, jw 14 (.bin .gtr .int) [.t 0, .t 1]])
 (.cond 14 (.region [jv 9, jq (.bin .sub .int) [.t 0, jn 1], jm 10 1])
 .skip))
 (.seq (.dr [[], [], [0, 1], [2], [3], [3], [4, 5, 3], [6, 3], [3], [3], [8, 9, 3], [10, 3], [7, 11, 3], [3, 12]] [jv 9, jv 1, jq (.bin .neq .int) [.t 0, .t 1], jt 2, jh 3 true 7, jh 3 true 10, jg 3 true (.iaS 1) [.t 4, .t 5], ji 3 true 6, jh 3 true 5, jh 3 true 9, jg 3 true (.iaS 1) [.t 8, .t 9], ji 3 true 10, jg 3 true (.bin .neq .int) [.t 7, .t 11], jw 15 .pick [.t 3, .t 12, jB false]])
 (.cond 15 (.dr [[], [], [], [], [2, 3], [4], [], [], [6, 7], [8], [1, 5, 9], [10], [0, 11], [12, 12, 0, 1, 2, 3, 4, 5, 6, 7, 8, 9, 10, 11, 12]] [jv 8, jv 9, jv 5, jv 9, ja 1 2 3, jl 4, jv 7, jv 10, ja 1 6 7, jl 8, jq (.build [(.cv (.int .i64 0)), (.cv (.int .i64 0)), (.cv (.int .i64 0))] [(0, 1), (1, 1), (2, 1)]) [.t 1, .t 5, .t 9], jq (.bslice 3 1 [(.cv (.int .i64 0)), (.cv (.int .i64 0)), (.cv (.int .i64 0))] [(0, 3)]) [.t 10], jq (.append 3 24) [.t 0, .t 11], jm 8 12])
 .skip)))))
 (.region [jv 9, jq (.bin .add .int) [.t 0, jn 1], jm 9 1])))
def ic29 : IC := (.seq (.region [jb 2 0, jw 3 .mv [jS], jz 4 0])
 (.seq (.region [jN 2 2, jk 23 [.t 0], jt 1, jx 0 2, jx 1 2, jm 5 3, jm 6 4])
 (.seq (.seq (.region [jv 6, jq (.bin .eql .int) [.t 0, jn 0], jt 1, jh 2 true 1, jg 2 true (.fadd 1) [.v 2], ji 2 true 4, jg 2 true (.len false) [.t 5], jg 2 true (.bin .sub .int) [.t 6, jn 1], jf 2 true 45 [.t 3, jn 0, .t 7], jg 2 true .not [.t 8], jw 11 .pick [.t 2, .t 9, jB false]])
 (.cond 11 (.region [jz 6 4])
 .skip))
 (.seq (.seq (.region [jv 6, jw 12 (.bin .neq .int) [.t 0, jn 0]])
 (.cond 12 (.seq (.region [jv 6, jw 3 .mv [jS], jm 4 0])
 .ret)
 .skip))
 (.seq (.region [jN 2 2, jv 1, jk 62 [.t 0, .t 1], jk 51 [.t 2], jm 7 3])
 (.seq (.region [jw 8 .mv [jS]])
 (.seq (.seq (.region [jz 9 0])
 (.block 0 (.loop ic29l0)))
 (.seq (.region [jv 8, jm 3 0, jz 4 0])
 .ret))))))))
abbrev rs29 : List RC := [(.v 3), (.v 4)]
theorem fok29 (p : Bool) : FnOk Try.prog 29 ⟨ic29, vs29, 75, rs29, p⟩ := .mk2 Try.func29 (by kernel_rfl) (by kernel_rfl) (by kernel_rfl) (by kernel_rfl) (by kernel_rfl)

abbrev vs30 : List Nat := [0, 1, 4, 5, 10, 14, 25]
def ic30l0 : IC := (.seq (.seq (.region [jv 3, jv 0, je 1, jw 5 (.bin .lss .int) [.t 0, .t 2]])
 (.cond 5 .skip
 (.exit 0)))
 (.seq (.block 1 (.seq (.dr [[], [], [0, 1], [2], [], [], [4, 5], [6], [3, 7]] [jv 0, jv 3, ja 3 0 1, jq (.loadN 3) [.t 2], jv 1, jv 3, ja 3 4 5, jq (.loadN 3) [.t 6], jw 6 (.eqS true (true, [(.int .i64), (.int .i64), (.int .i64)])) [.t 3, .t 7]])
 (.cond 6 (.seq (.region [jw 2 .mv [jB false]])
 .ret)
 .skip)))
 (.region [jv 3, jq (.bin .add .int) [.t 0, jn 1], jm 3 1])))
def ic30 : IC := (.seq (.region [jw 2 .mv [jB false]])
 (.seq (.seq (.region [jv 0, je 0, jv 1, je 2, jw 4 (.bin .neq .int) [.t 1, .t 3]])
 (.cond 4 (.seq (.region [jw 2 .mv [jB false]])
 .ret)
 .skip))
 (.seq (.seq (.region [jz 3 0])
 (.block 0 (.loop ic30l0)))
 (.seq (.region [jw 2 .mv [jB true]])
 .ret))))
abbrev rs30 : List RC := [(.v 2)]
theorem fok30 (p : Bool) : FnOk Try.prog 30 ⟨ic30, vs30, 26, rs30, p⟩ := .mk2 Try.func30 (by kernel_rfl) (by kernel_rfl) (by kernel_rfl) (by kernel_rfl) (by kernel_rfl)

abbrev vs32 : List Nat := [0, 1, 2, 4, 5, 6, 7, 8, 9, 10, 26, 37, 39, 48, 59]
def ic32l0 : IC := (.seq (.seq (.region [jv 9, jv 5, je 1, jw 13 (.bin .lss .int) [.t 0, .t 2]])
 (.cond 13 .skip
 (.exit 0)))
 (.seq (.block 1 (.seq (.dr [[], [], [0, 1], [2], [], [], [4, 5], [6], [3, 7]] [jv 7, jv 9, ja 1 0 1, jl 2, jv 5, jv 9, ja 1 4 5, jl 6, jw 14 (.bin .neq .int) [.t 3, .t 7]])
 (.cond 14 (.dr [[], [], [], [], [2, 3], [4], [], [], [6, 7], [8], [1, 5, 9], [10], [0, 11], [12, 12, 0, 1, 2, 3, 4, 5, 6, 7, 8, 9, 10, 11, 12]] [jv 8, jv 9, jv 5, jv 9, ja 1 2 3, jl 4, jv 7, jv 9, ja 1 6 7, jl 8, jq (.build [(.cv (.int .i64 0)), (.cv (.int .i64 0)), (.cv (.int .i64 0))] [(0, 1), (1, 1), (2, 1)]) [.t 1, .t 5, .t 9], jq (.bslice 3 1 [(.cv (.int .i64 0)), (.cv (.int .i64 0)), (.cv (.int .i64 0))] [(0, 3)]) [.t 10], jq (.append 3 24) [.t 0, .t 11], jm 8 12])
 .skip)))
 (.region [jv 9, jq (.bin .add .int) [.t 0, jn 1], jm 9 1])))
def ic32 : IC := (.seq (.region [jb 2 0, jw 3 .mv [jS], jz 4 0])
 (.seq (.region [jN 2 2, jk 23 [.t 0], jt 1, jx 0 2, jx 1 2, jm 5 3, jm 6 4])
 (.seq (.seq (.region [jv 6, jq (.bin .eql .int) [.t 0, jn 0], jt 1, jh 2 true 1, jg 2 true (.fadd 0) [.v 2], ji 2 true 4, jg 2 true (.len false) [.t 5], jg 2 true (.bin .sub .int) [.t 6, jn 1], jf 2 true 45 [.t 3, jn 0, .t 7], jg 2 true .not [.t 8], jw 10 .pick [.t 2, .t 9, jB false]])
 (.cond 10 (.region [jz 6 4])
 .skip))
 (.seq (.seq (.region [jv 6, jq (.bin .eql .int) [.t 0, jn 0], jt 1, jg 2 true (.fadd 0) [.v 2], ji 2 true 3, jh 2 true 1, jg 2 true (.iaS 3) [.t 4, .t 5], jg 2 true (.fadd 1) [.t 6], ji 2 true 7, jg 2 true (.bin .eql .int) [.t 8, jn 6], jw 11 .pick [.t 2, .t 9, jB false]])
 (.cond 11 (.region [jz 6 7])
 .skip))
 (.seq (.seq (.region [jv 6, jw 12 (.bin .neq .int) [.t 0, jn 0]])
 (.cond 12 (.seq (.region [jv 6, jw 3 .mv [jS], jm 4 0])
 .ret)
 .skip))
 (.seq (.region [jN 2 2, jv 1, jk 64 [.t 0, .t 1], jk 51 [.t 2], jm 7 3])
 (.seq (.region [jw 8 .mv [jS]])
 (.seq (.seq (.region [jz 9 0])
 (.block 0 (.loop ic32l0)))
 (.seq (.region [jv 8, jm 3 0, jz 4 0])
 .ret)))))))))
abbrev rs32 : List RC := [(.v 3), (.v 4)]
theorem fok32 (p : Bool) : FnOk Try.prog 32 ⟨ic32, vs32, 74, rs32, p⟩ := .mk2 Try.func32 (by kernel_rfl) (by kernel_rfl) (by kernel_rfl) (by kernel_rfl) (by kernel_rfl)

abbrev vs34 : List Nat := [0, 1, 2, 5]
def ic34 : IC := (.seq (.region [jb 1 0, jw 2 .mv [jB false]])
 (.seq (.region [jN 2 1, jk 17 [.t 0], jt 1, jx 0 2, jx 1 2, jx 2 2, jt 3, jt 4, jm 3 5])
 (.seq (.region [jv 3, jq (.bin .eql .int) [.t 0, jn 0], jm 2 1])
 .ret)))
abbrev rs34 : List RC := [(.v 2)]
theorem fok34 (p : Bool) : FnOk Try.prog 34 ⟨ic34, vs34, 14, rs34, p⟩ := .mk2 Try.func34 (by kernel_rfl) (by kernel_rfl) (by kernel_rfl) (by kernel_rfl) (by kernel_rfl)

abbrev vs35 : List Nat := [0, 1, 2, 4, 5, 10, 19]
def ic35l0 : IC := (.seq (.seq (.region [jv 4, jF 4 2, jl 1, je 2, jw 5 (.bin .lss .int) [.t 0, .t 3]])
 (.cond 5 .skip
 (.exit 0)))
 (.seq (.block 1 (.seq (.region [jF 4 2, jl 0, jv 4, ja 1 1 2, jl 3, jv 1, jw 6 (.bin .eql .int) [.t 4, .t 5]])
 (.cond 6 (.seq (.region [jv 4, jm 3 0])
 .ret)
 .skip)))
 (.region [jv 4, jq (.bin .add .int) [.t 0, jn 1], jm 4 1])))
def ic35 : IC := (.seq (.region [jb 2 0, jz 3 0])
 (.seq (.seq (.region [jz 4 0])
 (.block 0 (.loop ic35l0)))
 (.seq (.region [jF 4 2, jl 0, je 1, jm 3 2])
 .ret)))
abbrev rs35 : List RC := [(.v 3)]
theorem fok35 (p : Bool) : FnOk Try.prog 35 ⟨ic35, vs35, 24, rs35, p⟩ := .mk2 Try.func35 (by kernel_rfl) (by kernel_rfl) (by kernel_rfl) (by kernel_rfl) (by kernel_rfl)

abbrev vs36 : List Nat := [0, 1, 2, 3, 6, 7, 8, 9, 10, 11, 12, 23, 38, 51]
def ic36l0 : IC := (.seq (.seq (.region [jv 10, jv 6, je 1, jw 12 (.bin .lss .int) [.t 0, .t 2]])
 (.cond 12 .skip
 (.exit 2)))
 (.seq (.block 3 (.region [jv 9, jt 0, jh 1 false 6, jh 1 false 10, jg 1 false (.iaS 1) [.t 2, .t 3], ji 1 false 4, jh 1 false 8, jg 1 false (.bin .eql .int) [.t 5, .t 6], jq .pick [.t 1, jB true, .t 7], jm 9 8]))
 (.region [jv 10, jq (.bin .add .int) [.t 0, jn 1], jm 10 1])))
def ic36l1 : IC := (.seq (.seq (.region [jv 7, jv 2, je 1, jw 11 (.bin .lss .int) [.t 0, .t 2]])
 (.cond 11 .skip
 (.exit 0)))
 (.seq (.block 1 (.seq (.dr [[], [], [0, 1], [2], [3], [], [5], [6], [4, 7], [8, 0, 1, 2, 3, 4, 5, 6, 7, 8], [9, 0, 1, 2, 3, 4, 5, 6, 7, 8, 9]] [jv 2, jv 7, ja 1 0 1, jl 2, jq (.conv .i64) [.t 3], jF 0 3, jl 5, je 6, jq (.bin .rem .int) [.t 4, .t 7], jm 8 8, jw 9 .mv [jB false]])
 (.seq (.seq (.region [jz 10 0])
 (.block 2 (.loop ic36l0)))
 (.seq (.region [jv 9, jw 13 .not [.t 0]])
 (.cond 13 (.region [jv 6, jv 8, jq (.bslice 1 1 [(.cv (.int .i64 0))] [(0, 1)]) [.t 1], jq (.append 1 8) [.t 0, .t 2], jm 6 3])
 .skip)))))
 (.region [jv 7, jq (.bin .add .int) [.t 0, jn 1], jm 7 1])))
def ic36 : IC := (.seq (.region [jb 3 0, jw 4 (.alloc [(.cv .nils), (.cv .nils)]) []])
 (.seq (.dr [[], [0], [], [], [3], [2, 4], [1, 5], [], [7, 6, 5, 0, 1, 2, 3, 4, 5, 6, 7]] [jF 0 3, jl 0, jq (.bslice 5 0 [] []) [], jF 1 3, jl 3, jq (.append 5 64) [.t 2, .t 4], jq (.build [(.cv .nils), (.cv .nils)] [(0, 1), (1, 1)]) [.t 1, .t 5], jw 5 (.alloc [(.cv .nils), (.cv .nils)]) [], jq (.store 2) [.v 5, .t 6]])
 (.seq (.region [jw 6 .mv [jS]])
 (.seq (.seq (.region [jz 7 0])
 (.block 0 (.loop ic36l1)))
 (.seq (.region [jF 1 5, jl 0, jv 1, jv 6, ja 5 1 2, jG 4 4, jq (.store 1) [.t 5, .t 3]])
 (.seq (.region [jN 2 5, jq (.store 2) [.v 4, .t 0]])
 .ret))))))
abbrev rs36 : List RC := [(.lN 4 2)]
theorem fok36 (p : Bool) : FnOk Try.prog 36 ⟨ic36, vs36, 63, rs36, p⟩ := .mk2 Try.func36 (by kernel_rfl) (by kernel_rfl) (by kernel_rfl) (by kernel_rfl) (by kernel_rfl)

abbrev vs37 : List Nat := [0, 1, 2, 3, 6, 7, 8, 13, 25]
def ic37l0 : IC := (.seq (.seq (.region [jv 6, jF 1 3, jl 1, je 2, jw 7 (.bin .lss .int) [.t 0, .t 3]])
 (.cond 7 .skip
 (.exit 0)))
 (.seq (.block 1 (.seq (.region [jv 6, jv 2, jq (.bin .neq .int) [.t 0, .t 1], jt 2, jg 3 true (.loadN 2) [.v 3], jh 3 true 1, jh 3 true 6, jh 3 true 2, jf 3 true 65 [.t 4, .t 5, .t 6, .t 7], jw 8 .pick [.t 3, .t 8, jB false]])
 (.cond 8 (.region [jv 5, jq (.bin .add .int) [.t 0, jn 1], jm 5 1])
 .skip)))
 (.region [jv 6, jq (.bin .add .int) [.t 0, jn 1], jm 6 1])))
def ic37 : IC := (.seq (.region [jb 3 0, jz 4 0])
 (.seq (.region [jz 5 1])
 (.seq (.seq (.region [jz 6 0])
 (.block 0 (.loop ic37l0)))
 (.seq (.region [jv 5, jm 4 0])
 .ret))))
abbrev rs37 : List RC := [(.v 4)]
theorem fok37 (p : Bool) : FnOk Try.prog 37 ⟨ic37, vs37, 29, rs37, p⟩ := .mk2 Try.func37 (by kernel_rfl) (by kernel_rfl) (by kernel_rfl) (by kernel_rfl) (by kernel_rfl)

abbrev vs38 : List Nat := [0, 1, 4, 5, 6, 10, 18]
def ic38l0 : IC := (.seq (.seq (.region [jv 4, jv 0, je 1, jw 5 (.bin .lss .int) [.t 0, .t 2]])
 (.cond 5 .skip
 (.exit 0)))
 (.seq (.block 1 (.seq (.region [jv 0, jv 4, ja 1 0 1, jl 2, jv 1, jw 6 (.bin .eql .int) [.t 3, .t 4]])
 (.cond 6 (.region [jv 3, jq (.bin .add .int) [.t 0, jn 1], jm 3 1])
 .skip)))
 (.region [jv 4, jq (.bin .add .int) [.t 0, jn 1], jm 4 1])))
def ic38 : IC := (.seq (.region [jz 2 0])
 (.seq (.region [jz 3 0])
 (.seq (.seq (.region [jz 4 0])
 (.block 0 (.loop ic38l0)))
 (.seq (.region [jv 3, jm 2 0])
 .ret))))
abbrev rs38 : List RC := [(.v 2)]
theorem fok38 (p : Bool) : FnOk Try.prog 38 ⟨ic38, vs38, 22, rs38, p⟩ := .mk2 Try.func38 (by kernel_rfl) (by kernel_rfl) (by kernel_rfl) (by kernel_rfl) (by kernel_rfl)

abbrev vs45 : List Nat := [0, 1, 2, 6]
def ic45 : IC := (.seq (.region [jw 3 .mv [jB false]])
 (.seq (.region [jv 0, jv 1, jq (.bin .geq .int) [.t 0, .t 1], jt 2, jh 3 true 0, jh 3 true 2, jg 3 true (.bin .leq .int) [.t 4, .t 5], jq .pick [.t 3, .t 6, jB false], jm 3 7])
 .ret))
abbrev rs45 : List RC := [(.v 3)]
theorem fok45 (p : Bool) : FnOk Try.prog 45 ⟨ic45, vs45, 15, rs45, p⟩ := .mk2 Try.func45 (by kernel_rfl) (by kernel_rfl) (by kernel_rfl) (by kernel_rfl) (by kernel_rfl)

abbrev vs46 : List Nat := [0, 1, 2, 4, 5, 6, 15, 18, 29, 33]
def ic46l0 : IC := (.seq (.seq (.region [jv 5, jv 1, jw 7 (.bin .lss .int) [.t 0, .t 1]])
 (.cond 7 .skip
 (.exit 0)))
 (.seq (.block 1 (.seq (.dr [[], [0], [], [1, 2], [3], [4], [], [6], [5, 7]] [jF 0 2, jl 0, jv 5, ja 3 1 2, jG 0 3, jl 4, jF 0 4, jl 6, jw 8 (.bin .eql .str) [.t 5, .t 7]])
 (.cond 8 (.seq (.region [jz 3 5])
 .ret)
 .skip)))
 (.region [jv 5, jq (.bin .add .int) [.t 0, jn 1], jm 5 1])))
def ic46 : IC := (.seq (.region [jb 2 0, jz 3 0])
 (.seq (.region [jF 0 2, jl 0, jv 1, ja 3 1 2, jq (.loadN 3) [.t 3], jw 4 (.alloc [(.cv (.str (bts []))), (.cv (.int .i64 0)), (.cv .nils)]) [], jq (.store 3) [.v 4, .t 4]])
 (.seq (.seq (.region [jF 0 4, jl 0, jk 73 [.t 1], jw 6 .not [.t 2]])
 (.cond 6 (.seq (.region [jz 3 6])
 .ret)
 .skip))
 (.seq (.seq (.region [jz 5 0])
 (.block 0 (.loop ic46l0)))
 (.seq (.seq (.region [jF 1 4, jl 0, jk 45 [.t 1, jn 0, jn 6], jw 9 .not [.t 2]])
 (.cond 9 (.seq (.region [jz 3 7])
 .ret)
 .skip))
 (.seq (.region [jF 2 4, jl 0, jk 74 [.t 1, jn 3], jm 3 2])
 .ret))))))
abbrev rs46 : List RC := [(.v 3)]
theorem fok46 (p : Bool) : FnOk Try.prog 46 ⟨ic46, vs46, 37, rs46, p⟩ := .mk2 Try.func46 (by kernel_rfl) (by kernel_rfl) (by kernel_rfl) (by kernel_rfl) (by kernel_rfl)

abbrev vs47 : List Nat := [0, 1, 2, 4, 5, 6, 15, 18, 29, 39, 47]
def ic47l0 : IC := (.seq (.seq (.region [jv 5, jv 1, jw 7 (.bin .lss .int) [.t 0, .t 1]])
 (.cond 7 .skip
 (.exit 0)))
 (.seq (.block 1 (.seq (.dr [[], [0], [], [1, 2], [3], [4], [], [6], [5, 7]] [jF 1 2, jl 0, jv 5, ja 5 1 2, jG 0 3, jl 4, jF 0 4, jl 6, jw 8 (.bin .eql .str) [.t 5, .t 7]])
 (.cond 8 (.seq (.region [jz 3 5])
 .ret)
 .skip)))
 (.region [jv 5, jq (.bin .add .int) [.t 0, jn 1], jm 5 1])))
def ic47 : IC := (.seq (.region [jb 2 0, jz 3 0])
 (.seq (.region [jF 1 2, jl 0, jv 1, ja 5 1 2, jq (.loadN 5) [.t 3], jw 4 (.alloc [(.cv (.str (bts []))), (.cv (.int .i64 0)), (.cv (.int .i64 0)), (.cv (.int .i64 0)), (.cv .nils)]) [], jq (.store 5) [.v 4, .t 4]])
 (.seq (.seq (.region [jF 0 4, jl 0, jk 73 [.t 1], jw 6 .not [.t 2]])
 (.cond 6 (.seq (.region [jz 3 6])
 .ret)
 .skip))
 (.seq (.seq (.region [jz 5 0])
 (.block 0 (.loop ic47l0)))
 (.seq (.seq (.region [jF 1 4, jl 0, jk 45 [.t 1, jn 0, jn 40000], jq .not [.t 2], jt 3, jg 4 false (.fadd 3) [.v 4], ji 4 false 5, jf 4 false 45 [.t 6, jn 0, jn 20], jg 4 false .not [.t 7], jw 9 .pick [.t 4, jB true, .t 8]])
 (.cond 9 (.seq (.region [jz 3 7])
 .ret)
 .skip))
 (.seq (.seq (.region [jF 2 4, jl 0, jF 0 2, jl 2, je 3, jq (.bin .sub .int) [.t 4, jn 1], jk 45 [.t 1, jn (-1), .t 5], jw 10 .not [.t 6]])
 (.cond 10 (.seq (.region [jz 3 4])
 .ret)
 .skip))
 (.seq (.region [jF 4 4, jl 0, jF 0 2, jl 2, je 3, jk 74 [.t 1, .t 4], jm 3 5])
 .ret)))))))
abbrev rs47 : List RC := [(.v 3)]
theorem fok47 (p : Bool) : FnOk Try.prog 47 ⟨ic47, vs47, 54, rs47, p⟩ := .mk2 Try.func47 (by kernel_rfl) (by kernel_rfl) (by kernel_rfl) (by kernel_rfl) (by kernel_rfl)

abbrev vs51 : List Nat := [0, 1, 2, 3, 4, 5, 6, 7, 8, 16, 30, 50, 77, 85]
def ic51l0 : IC := (.seq (.seq (.region [jv 8, jv 4, je 1, jw 11 (.bin .lss .int) [.t 0, .t 2]])
 (.cond 11 .skip
 (.exit 4)))
 (.seq (.block 5 (.seq (.dr [[], [], [0, 1], [2], [3], [4], [5], [5], [5], [5], [8, 9, 5], [10, 5], [5], [6, 7, 11, 12, 5, 5], [5], [14, 5], [5], [5], [16, 17, 5], [18, 5], [15, 19, 5], [20, 5], [21, 5], [13, 22, 5], [5, 23]] [jv 4, jv 8, ja 1 0 1, jl 2, jq (.bin .geq .int) [.t 3, jn 0], jt 4, jg 5 true (.loadN 2) [.v 1], jh 5 true 4, jh 5 true 4, jh 5 true 8, jg 5 true (.iaS 1) [.t 8, .t 9], ji 5 true 10, jh 5 true 8, jf 5 true 87 [.t 6, .t 7, .t 11, .t 12], jg 5 true (.fadd 0) [.v 1], ji 5 true 14, jh 5 true 4, jh 5 true 8, jg 5 true (.iaS 1) [.t 16, .t 17], ji 5 true 18, jg 5 true (.iaS 3) [.t 15, .t 19], jg 5 true (.fadd 1) [.t 20], ji 5 true 21, jg 5 true (.bin .geq .int) [.t 13, .t 22], jw 12 .pick [.t 5, .t 23, jB false]])
 (.cond 12 (.seq (.region [jv 3, jv 8, ja 1 0 1, jl 2, jq (.bin .add .int) [.t 3, jn 1], ja 1 0 1, jq (.store 1) [.t 5, .t 4]])
 (.region [jw 7 .mv [jB true]]))
 .skip)))
 (.region [jv 8, jq (.bin .add .int) [.t 0, jn 1], jm 8 1])))
def ic51l1 : IC := (.seq (.seq (.region [jv 5, jv 3, je 1, jw 9 (.bin .lss .int) [.t 0, .t 2]])
 (.cond 9 .skip
 (.exit 2)))
 (.seq (.block 3 (.seq (.region [jz 6 (-1)])
 (.seq (.seq (.dr [[], [], [0, 1], [2], [], [4], [], [5, 6], [7], [8], [9], [3, 10]] [jv 3, jv 5, ja 1 0 1, jl 2, jF 1 1, jl 4, jv 5, ja 5 5 6, jG 4 7, jl 8, je 9, jw 10 (.bin .lss .int) [.t 3, .t 10]])
 (.cond 10 (.dr [[], [0], [], [1, 2], [3], [4], [], [], [6, 7], [8], [5, 9], [10], [11, 0, 1, 2, 3, 4, 5, 6, 7, 8, 9, 10, 11]] [jF 1 1, jl 0, jv 5, ja 5 1 2, jG 4 3, jl 4, jv 3, jv 5, ja 1 6 7, jl 8, ja 1 5 9, jl 10, jm 6 11])
 .skip))
 (.region [jv 4, jv 6, jq (.bslice 1 1 [(.cv (.int .i64 0))] [(0, 1)]) [.t 1], jq (.append 1 8) [.t 0, .t 2], jm 4 3]))))
 (.region [jv 5, jq (.bin .add .int) [.t 0, jn 1], jm 5 1])))
def ic51l2 : IC := (.block 1 (.seq (.region [jw 4 .mv [jS]])
 (.seq (.seq (.region [jz 5 0])
 (.block 2 (.loop ic51l1)))
 (.seq (.region [jw 7 .mv [jB false]])
 (.seq (.seq (.region [jz 8 0])
 (.block 4 (.loop ic51l0)))
 (.seq (.region [jv 7, jw 13 .not [.t 0]])
 (.cond 13 (.seq (.region [jv 4, jm 2 0])
 .ret)
 .skip)))))))
def ic51 : IC := (.seq (.region [jb 1 0, jw 2 .mv [jS]])
 (.seq (.region [jF 1 1, jl 0, je 1, jq (.mkslice 1 8 [(.cv (.int .i64 0))]) [.t 2, .t 2], jm 3 3])
 (.block 0 (.loop ic51l2))))
abbrev rs51 : List RC := [(.v 2)]
theorem fok51 (p : Bool) : FnOk Try.prog 51 ⟨ic51, vs51, 87, rs51, p⟩ := .mk2 Try.func51 (by kernel_rfl) (by kernel_rfl) (by kernel_rfl) (by kernel_rfl) (by kernel_rfl)

abbrev vs56 : List Nat := [0, 1, 2, 3, 6, 7, 8, 9, 10, 23, 40, 45, 60]
def ic56l0 : IC := (.seq (.seq (.region [jv 8, jv 1, je 1, jw 11 (.bin .lss .int) [.t 0, .t 2]])
 (.cond 11 .skip
 (.exit 2)))
 (.seq (.block 3 (.seq (.region [jv 1, jv 8, ja 1 0 1, jl 2, jv 7, jq (.bin .eql .int) [.t 3, .t 4], jt 5, jg 6 true (.loadN 2) [.v 3], jh 6 true 7, jh 6 true 2, jh 6 true 8, jf 6 true 65 [.t 7, .t 8, .t 9, .t 10], jw 12 .pick [.t 6, .t 11, jB false]])
 (.cond 12 (.seq (.region [jv 7, jm 4 0])
 .ret)
 .skip)))
 (.region [jv 8, jq (.bin .add .int) [.t 0, jn 1], jm 8 1])))
def ic56l1 : IC := (.seq (.seq (.dr [[], [], [], [], [2, 3], [4], [1, 5], [0, 6]] [jv 6, jN 5 5, jv 1, jv 2, ja 1 2 3, jl 4, jk 35 [.t 1, .t 5], jw 9 (.bin .lss .int) [.t 0, .t 6]])
 (.cond 9 .skip
 (.exit 0)))
 (.seq (.block 1 (.seq (.region [jF 4 5, jl 0, jv 6, ja 1 1 2, jl 3, jm 7 4])
 (.seq (.seq (.dr [[], [], [0, 1], [], [3], [], [4, 5], [6], [7], [2, 8]] [jv 1, jv 7, jk 38 [.t 0, .t 1], jF 0 3, jl 3, jv 7, ja 3 4 5, jG 1 6, jl 7, jw 10 (.bin .lss .int) [.t 2, .t 8]])
 (.cond 10 (.seq (.region [jv 7, jm 4 0])
 .ret)
 .skip))
 (.seq (.region [jz 8 0])
 (.block 2 (.loop ic56l0))))))
 (.region [jv 6, jq (.bin .add .int) [.t 0, jn 1], jm 6 1])))
def ic56 : IC := (.seq (.region [jb 3 0, jz 4 0])
 (.seq (.region [jF 1 3, jl 0, jv 2, ja 5 1 2, jq (.loadN 5) [.t 3], jw 5 (.alloc [(.cv (.str (bts []))), (.cv (.int .i64 0)), (.cv (.int .i64 0)), (.cv (.int .i64 0)), (.cv .nils)]) [], jq (.store 5) [.v 5, .t 4]])
 (.seq (.seq (.region [jz 6 0])
 (.block 0 (.loop ic56l1)))
 (.seq (.region [jz 4 (-1)])
 .ret))))
abbrev rs56 : List RC := [(.v 4)]
theorem fok56 (p : Bool) : FnOk Try.prog 56 ⟨ic56, vs56, 62, rs56, p⟩ := .mk2 Try.func56 (by kernel_rfl) (by kernel_rfl) (by kernel_rfl) (by kernel_rfl) (by kernel_rfl)

abbrev vs62 : List Nat := [0, 1, 2, 4]
def ic62 : IC := (.seq (.region [jb 2 0, jw 3 (.alloc [(.cv .nils), (.cv .nils)]) []])
 (.seq (.dr [[], [0], [], [], [3], [], [4, 5], [2, 6], [], [8], [], [10], [9, 11], [7, 12, 7], [1, 13], [14, 13, 0, 1, 2, 3, 4, 5, 6, 7, 8, 9, 10, 11, 12, 13, 14]] [jF 0 2, jl 0, jq (.bslice 5 0 [] []) [], jF 1 2, jl 3, jv 1, jq (.slS 5 false true) [.t 4, .t 5], jq (.append 5 64) [.t 2, .t 6], jF 1 2, jl 8, jv 1, jq (.bin .add .int) [.t 10, jn 1], jq (.slS 5 true false) [.t 9, .t 11], jq (.append 5 64) [.t 7, .t 12], jq (.build [(.cv .nils), (.cv .nils)] [(0, 1), (1, 1)]) [.t 1, .t 13], jq (.store 2) [.v 3, .t 14]])
 .ret))
abbrev rs62 : List RC := [(.lN 3 2)]
theorem fok62 (p : Bool) : FnOk Try.prog 62 ⟨ic62, vs62, 20, rs62, p⟩ := .mk2 Try.func62 (by kernel_rfl) (by kernel_rfl) (by kernel_rfl) (by kernel_rfl) (by kernel_rfl)

abbrev vs64 : List Nat := [0, 1, 2, 4, 5]
def ic64 : IC := (.seq (.region [jb 2 0, jw 3 (.alloc [(.cv .nils), (.cv .nils)]) []])
 (.seq (.dr [[], [], [1], [0, 2], [], [4], [3, 5], [], [7, 6, 3, 0, 1, 2, 3, 4, 5, 6, 7]] [jq (.bslice 3 0 [] []) [], jF 0 2, jl 1, jq (.append 3 48) [.t 0, .t 2], jF 1 2, jl 4, jq (.build [(.cv .nils), (.cv .nils)] [(0, 1), (1, 1)]) [.t 3, .t 5], jw 4 (.alloc [(.cv .nils), (.cv .nils)]) [], jq (.store 2) [.v 4, .t 6]])
 (.seq (.region [jF 0 4, jl 0, jv 1, ja 3 1 2, jG 1 3, jl 4, jq (.bin .add .int) [.t 5, jn 1], ja 3 1 2, jG 1 7, jq (.store 1) [.t 8, .t 6]])
 (.seq (.region [jN 2 4, jq (.store 2) [.v 3, .t 0]])
 .ret))))
abbrev rs64 : List RC := [(.lN 3 2)]
theorem fok64 (p : Bool) : FnOk Try.prog 64 ⟨ic64, vs64, 23, rs64, p⟩ := .mk2 Try.func64 (by kernel_rfl) (by kernel_rfl) (by kernel_rfl) (by kernel_rfl) (by kernel_rfl)

abbrev vs65 : List Nat := [0, 1, 2, 3, 4, 8, 9, 10, 11, 12, 32, 46, 67, 83]
def ic65l0 : IC := (.seq (.seq (.region [jv 9, jv 8, je 1, jw 10 (.bin .lss .int) [.t 0, .t 2]])
 (.cond 10 .skip
 (.exit 0)))
 (.seq (.block 1 (.seq (.seq (.region [jv 8, jv 9, ja 1 0 1, jl 2, jq (.bin .eql .int) [.t 3, jn 0], jt 4, jg 5 true (.fadd 1) [.v 6], ji 5 true 6, jg 5 true (.fadd 1) [.v 7], ji 5 true 8, jg 5 true (.bin .neq .int) [.t 7, .t 9], jw 11 .pick [.t 5, .t 10, jB false]])
 (.cond 11 (.seq (.region [jF 1 6, jl 0, jF 1 7, jl 2, jq (.bin .lss .int) [.t 1, .t 3], jm 5 4])
 .ret)
 .skip))
 (.seq (.seq (.region [jv 8, jv 9, ja 1 0 1, jl 2, jq (.bin .eql .int) [.t 3, jn 1], jt 4, jg 5 true (.fadd 2) [.v 6], ji 5 true 6, jh 5 true 1, jg 5 true (.bin .eql .int) [.t 7, .t 8], jg 5 true (.fadd 2) [.v 7], ji 5 true 10, jh 5 true 1, jg 5 true (.bin .eql .int) [.t 11, .t 12], jg 5 true (.bin .neq .bool) [.t 9, .t 13], jw 12 .pick [.t 5, .t 14, jB false]])
 (.cond 12 (.seq (.region [jF 2 6, jl 0, jv 1, jq (.bin .eql .int) [.t 1, .t 2], jm 5 3])
 .ret)
 .skip))
 (.seq (.region [jv 8, jv 9, ja 1 0 1, jl 2, jq (.bin .eql .int) [.t 3, jn 2], jt 4, jg 5 true (.fadd 3) [.v 6], ji 5 true 6, jg 5 true (.fadd 3) [.v 7], ji 5 true 8, jg 5 true (.bin .neq .int) [.t 7, .t 9], jw 13 .pick [.t 5, .t 10, jB false]])
 (.cond 13 (.seq (.region [jF 3 6, jl 0, jF 3 7, jl 2, jq (.bin .lss .int) [.t 1, .t 3], jm 5 4])
 .ret)
 .skip)))))
 (.region [jv 9, jq (.bin .add .int) [.t 0, jn 1], jm 9 1])))
def ic65 : IC := (.seq (.region [jb 4 0, jw 5 .mv [jB false]])
 (.seq (.dr [[], [0], [], [1, 2], [3], [], [5], [], [6, 7], [8], [], [], [10, 4, 0, 1, 2, 3, 4, 10, 11], [11, 9, 12, 0, 1, 2, 3, 4, 5, 6, 7, 8, 9, 10, 11, 12]] [jF 1 4, jl 0, jv 2, ja 5 1 2, jq (.loadN 5) [.t 3], jF 1 4, jl 5, jv 3, ja 5 6 7, jq (.loadN 5) [.t 8], jw 6 (.alloc [(.cv (.str (bts []))), (.cv (.int .i64 0)), (.cv (.int .i64 0)), (.cv (.int .i64 0)), (.cv .nils)]) [], jw 7 (.alloc [(.cv (.str (bts []))), (.cv (.int .i64 0)), (.cv (.int .i64 0)), (.cv (.int .i64 0)), (.cv .nils)]) [], jq (.store 5) [.v 6, .t 4], jq (.store 5) [.v 7, .t 9]])
 (.seq (.region [jF 0 4, jl 0, jv 1, ja 3 1 2, jG 2 3, jl 4, jm 8 5])
 (.seq (.seq (.region [jz 9 0])
 (.block 0 (.loop ic65l0)))
 (.seq (.region [jF 0 6, jl 0, jF 0 7, jl 2, jk 92 [.t 1, .t 3], jm 5 4])
 .ret)))))
abbrev rs65 : List RC := [(.v 5)]
theorem fok65 (p : Bool) : FnOk Try.prog 65 ⟨ic65, vs65, 94, rs65, p⟩ := .mk2 Try.func65 (by kernel_rfl) (by kernel_rfl) (by kernel_rfl) (by kernel_rfl) (by kernel_rfl)

abbrev vs73 : List Nat := [0, 2, 3, 14, 18, 34]
def ic73l0 : IC := (.seq (.seq (.region [jv 2, jv 0, jq (.len true) [.t 1], jw 4 (.bin .lss .int) [.t 0, .t 2]])
 (.cond 4 .skip
 (.exit 0)))
 (.seq (.block 1 (.seq (.region [jv 0, jv 2, jq .ixStr [.t 0, .t 1], jq (.conv .i64) [.t 2], jk 97 [.t 3, jn 97, jn 122], jq .not [.t 4], jt 5, jh 6 true 0, jh 6 true 2, jg 6 true .ixStr [.t 7, .t 8], jg 6 true (.conv .i64) [.t 9], jf 6 true 97 [.t 10, jn 48, jn 57], jg 6 true .not [.t 11], jw 5 .pick [.t 6, .t 12, jB false]])
 (.cond 5 (.seq (.region [jw 1 .mv [jB false]])
 .ret)
 .skip)))
 (.region [jv 2, jq (.bin .add .int) [.t 0, jn 1], jm 2 1])))
def ic73 : IC := (.seq (.region [jw 1 .mv [jB false]])
 (.seq (.seq (.region [jv 0, jq (.len true) [.t 0], jk 97 [.t 1, jn 1, jn 16], jq .not [.t 2], jt 3, jh 4 false 0, jg 4 false .ixStr [.t 5, jn 0], jg 4 false (.conv .i64) [.t 6], jf 4 false 97 [.t 7, jn 97, jn 122], jg 4 false .not [.t 8], jw 3 .pick [.t 4, jB true, .t 9]])
 (.cond 3 (.seq (.region [jw 1 .mv [jB false]])
 .ret)
 .skip))
 (.seq (.seq (.region [jz 2 0])
 (.block 0 (.loop ic73l0)))
 (.seq (.region [jw 1 .mv [jB true]])
 .ret))))
abbrev rs73 : List RC := [(.v 1)]
theorem fok73 (p : Bool) : FnOk Try.prog 73 ⟨ic73, vs73, 35, rs73, p⟩ := .mk2 Try.func73 (by kernel_rfl) (by kernel_rfl) (by kernel_rfl) (by kernel_rfl) (by kernel_rfl)

abbrev vs74 : List Nat := [0, 1, 4, 5, 6, 10, 20, 23, 34]
def ic74l0 : IC := (.seq (.seq (.region [jv 4, jv 3, jw 7 (.bin .lss .int) [.t 0, .t 1]])
 (.cond 7 .skip
 (.exit 2)))
 (.seq (.block 3 (.seq (.dr [[], [], [0, 1], [2], [], [], [4, 5], [6], [3, 7]] [jv 0, jv 4, ja 1 0 1, jl 2, jv 0, jv 3, ja 1 4 5, jl 6, jw 8 (.bin .eql .int) [.t 3, .t 7]])
 (.cond 8 (.seq (.region [jz 2 5])
 .ret)
 .skip)))
 (.region [jv 4, jq (.bin .add .int) [.t 0, jn 1], jm 4 1])))
def ic74l1 : IC := (.seq (.seq (.region [jv 3, jv 0, je 1, jw 5 (.bin .lss .int) [.t 0, .t 2]])
 (.cond 5 .skip
 (.exit 0)))
 (.seq (.block 1 (.seq (.seq (.region [jv 0, jv 3, ja 1 0 1, jl 2, jv 1, jq (.bin .sub .int) [.t 4, jn 1], jk 45 [.t 3, jn 0, .t 5], jw 6 .not [.t 6]])
 (.cond 6 (.seq (.region [jz 2 4])
 .ret)
 .skip))
 (.seq (.region [jz 4 0])
 (.block 2 (.loop ic74l0)))))
 (.region [jv 3, jq (.bin .add .int) [.t 0, jn 1], jm 3 1])))
def ic74 : IC := (.seq (.region [jz 2 0])
 (.seq (.seq (.region [jz 3 0])
 (.block 0 (.loop ic74l1)))
 (.seq (.region [jz 2 0])
 .ret)))
abbrev rs74 : List RC := [(.v 2)]
theorem fok74 (p : Bool) : FnOk Try.prog 74 ⟨ic74, vs74, 35, rs74, p⟩ := .mk2 Try.func74 (by kernel_rfl) (by kernel_rfl) (by kernel_rfl) (by kernel_rfl) (by kernel_rfl)

abbrev vs87 : List Nat := [0, 1, 2, 3, 4, 8, 9, 10, 14, 29]
def ic87l0 : IC := (.seq (.seq (.region [jv 7, jv 1, je 1, jw 8 (.bin .lss .int) [.t 0, .t 2]])
 (.cond 8 .skip
 (.exit 0)))
 (.seq (.block 1 (.seq (.region [jv 1, jv 7, ja 1 0 1, jl 2, jv 2, jq (.bin .eql .int) [.t 3, .t 4], jt 5, jg 6 true (.loadN 2) [.v 4], jh 6 true 2, jh 6 true 7, jh 6 true 3, jf 6 true 65 [.t 7, .t 8, .t 9, .t 10], jw 9 .pick [.t 6, .t 11, jB false]])
 (.cond 9 (.region [jv 6, jq (.bin .add .int) [.t 0, jn 1], jm 6 1])
 .skip)))
 (.region [jv 7, jq (.bin .add .int) [.t 0, jn 1], jm 7 1])))
def ic87 : IC := (.seq (.region [jb 4 0, jz 5 0])
 (.seq (.region [jz 6 0])
 (.seq (.seq (.region [jz 7 0])
 (.block 0 (.loop ic87l0)))
 (.seq (.region [jv 6, jm 5 0])
 .ret))))
abbrev rs87 : List RC := [(.v 5)]
theorem fok87 (p : Bool) : FnOk Try.prog 87 ⟨ic87, vs87, 33, rs87, p⟩ := .mk2 Try.func87 (by kernel_rfl) (by kernel_rfl) (by kernel_rfl) (by kernel_rfl) (by kernel_rfl)

abbrev vs92 : List Nat := [0, 1, 4, 5, 15, 24]
def ic92l0 : IC := (.seq (.seq (.region [jv 3, jv 0, jq (.len true) [.t 1], jq (.bin .lss .int) [.t 0, .t 2], jt 3, jh 4 true 3, jh 4 true 1, jg 4 true (.len true) [.t 6], jg 4 true (.bin .lss .int) [.t 5, .t 7], jw 4 .pick [.t 4, .t 8, jB false]])
 (.cond 4 .skip
 (.exit 0)))
 (.seq (.block 1 (.seq (.dr [[], [], [0, 1], [], [], [3, 4], [2, 5]] [jv 0, jv 3, jq .ixStr [.t 0, .t 1], jv 1, jv 3, jq .ixStr [.t 3, .t 4], jw 5 (.bin .neq .int) [.t 2, .t 5]])
 (.cond 5 (.seq (.dr [[], [], [0, 1], [], [], [3, 4], [2, 5], [6, 0, 1, 2, 3, 4, 5, 6]] [jv 0, jv 3, jq .ixStr [.t 0, .t 1], jv 1, jv 3, jq .ixStr [.t 3, .t 4], jq (.bin .lss .int) [.t 2, .t 5], jm 2 6])
 .ret)
 .skip)))
 (.region [jv 3, jq (.bin .add .int) [.t 0, jn 1], jm 3 1])))
def ic92 : IC := (.seq (.region [jw 2 .mv [jB false]])
 (.seq (.seq (.region [jz 3 0])
 (.block 0 (.loop ic92l0)))
 (.seq (.region [jv 0, jq (.len true) [.t 0], jv 1, jq (.len true) [.t 2], jq (.bin .lss .int) [.t 1, .t 3], jm 2 4])
 .ret)))
abbrev rs92 : List RC := [(.v 2)]
theorem fok92 (p : Bool) : FnOk Try.prog 92 ⟨ic92, vs92, 37, rs92, p⟩ := .mk2 Try.func92 (by kernel_rfl) (by kernel_rfl) (by kernel_rfl) (by kernel_rfl) (by kernel_rfl)

abbrev vs97 : List Nat := [0, 1, 2, 6]
def ic97 : IC := (.seq (.region [jw 3 .mv [jB false]])
 (.seq (.region [jv 0, jv 1, jq (.bin .geq .int) [.t 0, .t 1], jt 2, jh 3 true 0, jh 3 true 2, jg 3 true (.bin .leq .int) [.t 4, .t 5], jq .pick [.t 3, .t 6, jB false], jm 3 7])
 .ret))
abbrev rs97 : List RC := [(.v 3)]
theorem fok97 (p : Bool) : FnOk Try.prog 97 ⟨ic97, vs97, 15, rs97, p⟩ := .mk2 Try.func97 (by kernel_rfl) (by kernel_rfl) (by kernel_rfl) (by kernel_rfl) (by kernel_rfl)

end Go.Proofs.Ytjgolcbpgmlilaa.AM

namespace Go.Proofs.Ytjgolcbpgmlilaa.AM
open Go
set_option linter.unusedVariables false

abbrev vs16 : List Nat := [0, 1, 2, 3, 4, 5, 6, 7, 8, 19, 21, 22, 23, 24, 41, 43, 48, 53, 54, 55, 56, 72, 75, 86, 96]
def ic16l0 : IC := (.seq (.region [jw 20 (.bin .lss .int) [.v 19, .v 18]])
 (.seq (.cond 20 .skip
 (.exit 2))
 (.seq (.block 3 (.seq (.region [jv 19, jq (.iaS 5) [.v 17, .v 19], jq (.loadN 5) [.t 1], jw 8 (.alloc [(.cv (.str (bts []))), (.cv (.int .i64 0)), (.cv (.int .i64 0)), (.cv (.int .i64 0)), (.cv .nils)]) [], jm 7 0, jq (.store 5) [.v 8, .t 2]])
 (.seq (.region [jF 1 1, jl 0, jv 7, jq (.bin .add .int) [.t 2, jn 1], jq (.slS 5 false true) [.t 1, .t 3], jk 43 [.t 4, .c (.fn (.func 44) [])], jm 4 5])
 (.seq (.block 4 (.seq (.region [jv 4, jq (.bin .neq .int) [.t 0, jn 0], jm 21 1])
 (.cond 21 .skip
 (.seq (.region [jF 1 8, jl 0, jq (.bslice 1 1 [(.cv (.int .i64 0))] [(0, 1)]) [.t 1], jk 39 [jn 0, jn 40000, .t 2], jt 3, jg 4 false (.fadd 3) [.v 8], ji 4 false 5, jg 4 false (.bslice 1 1 [(.cv (.int .i64 0))] [(0, 1)]) [.t 6], jf 4 false 39 [jn 0, jn 20, .t 7], jq .pick [.t 4, jB true, .t 8], jm 22 9])
 (.cond 22 (.region [jz 4 7])
 (.seq (.region [jF 0 1, jl 0, je 1, jq (.bin .sub .int) [.t 2, jn 1], jF 2 8, jl 4, jq (.bslice 1 1 [(.cv (.int .i64 0))] [(0, 1)]) [.t 5], jk 39 [jn (-1), .t 3, .t 6], jm 23 7])
 (.cond 23 (.region [jz 4 4])
 (.region [jF 4 8, jl 0, jF 0 1, jl 2, je 3, jk 42 [.t 1, .t 4], jm 4 5]))))))))
 (.seq (.region [jv 4, jw 24 (.bin .neq .int) [.t 0, jn 0]])
 (.cond 24 (.seq (.region [jv 7, jv 4, jz 2 3, jm 3 0, jm 4 1])
 .ret)
 .skip))))))
 (.region [jq (.bin .add .int) [.v 19, jn 1], jm 19 0]))))
def ic16l1 : IC := (.seq (.region [jw 13 (.bin .lss .int) [.v 12, .v 11]])
 (.seq (.cond 13 .skip
 (.exit 0))
 (.seq (.block 1 (.seq (.region [jv 12, jq (.iaS 3) [.v 10, .v 12], jq (.loadN 3) [.t 1], jw 6 (.alloc [(.cv (.str (bts []))), (.cv (.int .i64 0)), (.cv .nils)]) [], jm 5 0, jq (.store 3) [.v 6, .t 2]])
 (.seq (.region [jF 0 1, jl 0, jv 5, jq (.bin .add .int) [.t 2, jn 1], jq (.slS 3 false true) [.t 1, .t 3], jk 40 [.t 4, .c (.fn (.func 41) [])], jm 4 5])
 (.seq (.seq (.region [jv 4, jq (.bin .eql .int) [.t 0, jn 0], jt 1, jg 2 true (.fadd 1) [.v 6], ji 2 true 3, jg 2 true (.bslice 1 1 [(.cv (.int .i64 0))] [(0, 1)]) [.t 4], jf 2 true 39 [jn 0, jn 6, .t 5], jw 14 .pick [.t 2, .t 6, jB false]])
 (.cond 14 (.region [jz 4 7])
 .skip))
 (.seq (.seq (.region [jv 4, jw 15 (.bin .eql .int) [.t 0, jn 0]])
 (.cond 15 (.region [jF 2 6, jl 0, jk 42 [.t 1, jn 3], jm 4 2])
 .skip))
 (.seq (.region [jv 4, jw 16 (.bin .neq .int) [.t 0, jn 0]])
 (.cond 16 (.seq (.region [jv 5, jv 4, jz 2 2, jm 3 0, jm 4 1])
 .ret)
 .skip)))))))
 (.region [jq (.bin .add .int) [.v 12, jn 1], jm 12 0]))))
def ic16 : IC := (.seq (.region [jb 1 0, jz 2 0, jz 3 0, jz 4 0])
 (.seq (.seq (.region [jF 0 1, jl 0, je 1, jq (.bslice 1 1 [(.cv (.int .i64 0))] [(0, 1)]) [.t 2], jk 39 [jn 1, jn 5, .t 3], jt 4, jg 5 false (.fadd 1) [.v 1], ji 5 false 6, jg 5 false (.len false) [.t 7], jg 5 false (.bin .gtr .int) [.t 8, jn 8], jw 9 .pick [.t 5, jB true, .t 9]])
 (.cond 9 (.seq (.region [jz 2 1, jz 3 0, jz 4 3])
 .ret)
 .skip))
 (.seq (.seq (.region [jF 0 1, jw 10 .load1 [.t 0], jw 11 (.len false) [.v 10], jz 12 0])
 (.block 0 (.loop ic16l1)))
 (.seq (.seq (.region [jF 1 1, jw 17 .load1 [.t 0], jw 18 (.len false) [.v 17], jz 19 0])
 (.block 2 (.loop ic16l0)))
 (.seq (.region [jz 2 0, jz 3 0, jz 4 0])
 .ret)))))
abbrev rs16 : List RC := [(.v 2), (.v 3), (.v 4)]
theorem fok16 (p : Bool) : FnOk Try.prog 16 ⟨ic16, vs16, 100, rs16, p⟩ := .mk2 Try.func16 (by kernel_rfl) (by kernel_rfl) (by kernel_rfl) (by kernel_rfl) (by kernel_rfl)

abbrev vs18 : List Nat := [0, 1, 2, 4, 5, 6, 7, 13, 17]
def ic18 : IC := (.seq (.region [jb 2 0, jw 3 .mv [jS], jz 4 0])
 (.seq (.region [jN 2 2, jk 48 [.t 0], jt 1, jx 0 2, jx 1 2, jm 5 3, jm 6 4])
 (.seq (.block 0 (.seq (.region [jv 6, jq (.bin .neq .int) [.t 0, jn 0], jm 7 1])
 (.cond 7 (.seq (.region [jv 6, jw 3 .mv [jS], jm 4 0])
 .ret)
 (.seq (.region [jv 5, jc 0, jG 0 1, jG 0 2, jl 3, je 4, jq (.bin .sub .int) [.t 5, jn 1], jv 1, jq (.bslice 1 1 [(.cv (.int .i64 0))] [(0, 1)]) [.t 7], jk 39 [jn 0, .t 6, .t 8], jm 8 9])
 (.cond 8 (.seq (.region [jw 3 .mv [jS], jz 4 4])
 .ret)
 .skip)))))
 (.seq (.region [jv 5, jv 1, jk 49 [.t 0, .t 1], jm 3 2, jz 4 0])
 .ret))))
abbrev rs18 : List RC := [(.v 3), (.v 4)]
theorem fok18 (p : Bool) : FnOk Try.prog 18 ⟨ic18, vs18, 31, rs18, p⟩ := .mk2 Try.func18 (by kernel_rfl) (by kernel_rfl) (by kernel_rfl) (by kernel_rfl) (by kernel_rfl)

abbrev vs22 : List Nat := [0, 1, 2, 3, 4, 5, 12]
def ic22 : IC := (.seq (.region [jb 1 0, jw 2 .mv [jS], jz 3 0])
 (.seq (.region [jN 2 1, jk 48 [.t 0], jt 1, jx 0 2, jx 1 2, jm 4 3, jm 5 4])
 (.seq (.seq (.region [jv 5, jw 6 (.bin .neq .int) [.t 0, jn 0]])
 (.cond 6 (.seq (.region [jv 5, jw 2 .mv [jS], jm 3 0])
 .ret)
 .skip))
 (.seq (.region [jv 4, jk 50 [.t 0], jm 2 1, jz 3 0])
 .ret))))
abbrev rs22 : List RC := [(.v 2), (.v 3)]
theorem fok22 (p : Bool) : FnOk Try.prog 22 ⟨ic22, vs22, 16, rs22, p⟩ := .mk2 Try.func22 (by kernel_rfl) (by kernel_rfl) (by kernel_rfl) (by kernel_rfl) (by kernel_rfl)

abbrev vs24 : List Nat := [0, 1, 2, 3, 4, 5, 6, 7, 8, 9, 16, 27, 28, 29, 30, 35, 57, 58, 59, 60, 69]
def ic24l0 : IC := (.seq (.region [jw 19 (.bin .lss .int) [.v 18, .v 17]])
 (.seq (.cond 19 .skip
 (.exit 2))
 (.seq (.block 3 (.seq (.region [jv 18, jq (.iaS 3) [.v 16, .v 18], jq (.loadN 3) [.t 1], jw 9 (.alloc [(.cv (.str (bts []))), (.cv (.int .i64 0)), (.cv .nils)]) [], jm 8 0, jq (.store 3) [.v 9, .t 2]])
 (.seq (.dr [[], [], [0, 1], [], [3], [2, 4]] [jv 5, jv 8, jk 52 [.t 0, .t 1], jF 1 9, jl 3, jw 20 (.bin .lss .int) [.t 2, .t 4]])
 (.cond 20 (.region [jv 2, jv 8, jv 4, jc 2, jG 0 3, jG 1 4, jl 5, je 6, ja 1 0 1, jq (.store 1) [.t 8, .t 7]])
 .skip))))
 (.region [jq (.bin .add .int) [.v 18, jn 1], jm 18 0]))))
def ic24l1 : IC := (.seq (.region [jw 14 (.bin .lss .int) [.v 13, .v 12]])
 (.seq (.cond 14 .skip
 (.exit 0))
 (.seq (.block 1 (.seq (.region [jv 13, jq (.iaS 1) [.v 11, .v 13], jl 1, jm 6 0, jm 7 2])
 (.seq (.region [jv 7, jw 15 (.bin .geq .int) [.t 0, jn 0]])
 (.cond 15 (.dr [[], [], [], [], [2, 3], [4], [], [6], [7], [8], [], [], [10, 11], [9, 12], [5, 13], [0, 1, 0, 1, 2, 3, 4, 5, 6, 7, 8, 9, 10, 11, 12, 13, 14], [15, 14, 0, 1, 2, 3, 4, 5, 6, 7, 8, 9, 10, 11, 12, 13, 14]] [jv 2, jv 7, jv 2, jv 7, ja 1 2 3, jl 4, jv 4, jc 6, jG 2 7, jl 8, jv 7, jv 6, jq (.build [(.cv (.int .i64 0)), (.cv (.int .i64 0))] [(0, 1), (1, 1)]) [.t 10, .t 11], jq (.lookup (true, [(.int .i64), (.int .i64)]) (.cv (.int .i64 0)) false) [.t 9, .t 12], jq .max2 [.t 5, .t 13], ja 1 0 1, jq (.store 1) [.t 15, .t 14]])
 .skip))))
 (.region [jq (.bin .add .int) [.v 13, jn 1], jm 13 0]))))
def ic24 : IC := (.seq (.region [jb 1 0, jw 2 .mv [jS], jz 3 0])
 (.seq (.region [jN 2 1, jk 48 [.t 0], jt 1, jx 0 2, jx 1 2, jm 4 3, jm 3 4])
 (.seq (.seq (.region [jv 3, jw 10 (.bin .neq .int) [.t 0, jn 0]])
 (.cond 10 (.seq (.region [jv 3, jw 2 .mv [jS], jm 3 0])
 .ret)
 .skip))
 (.seq (.region [jv 4, jk 50 [.t 0], jm 5 1])
 (.seq (.region [jv 4, jc 0, jG 0 1, jG 0 2, jl 3, je 4, jq (.mkslice 1 8 [(.cv (.int .i64 0))]) [.t 5, .t 5], jm 2 6])
 (.seq (.seq (.region [jw 11 .mv [.v 5], jw 12 (.len false) [.v 11], jz 13 0])
 (.block 0 (.loop ic24l1)))
 (.seq (.seq (.region [jv 4, jc 0, jG 0 1, jG 0 2, jw 16 .load1 [.t 3], jw 17 (.len false) [.v 16], jz 18 0])
 (.block 2 (.loop ic24l0)))
 (.seq (.region [jv 2, jm 2 0, jz 3 0])
 .ret))))))))
abbrev rs24 : List RC := [(.v 2), (.v 3)]
theorem fok24 (p : Bool) : FnOk Try.prog 24 ⟨ic24, vs24, 81, rs24, p⟩ := .mk2 Try.func24 (by kernel_rfl) (by kernel_rfl) (by kernel_rfl) (by kernel_rfl) (by kernel_rfl)

theorem hb26 : Try.f26.body = some (Try.f26.body.getD .skip) := by kernel_rfl
abbrev vs26 : List Nat := [0, 1, 2, 3, 4, 5, 6, 7, 8, 9, 10, 11, 12, 13, 14, 20, 24, 34, 35, 36, 37, 56, 63, 64, 65, 66, 75, 78, 79, 80, 81, 88, 89, 94]
def ic26l0 (b26 : Code) : IC := (.seq (.region [jw 30 (.bin .lss .int) [.v 29, .v 28]])
 (.seq (.cond 30 .skip
 (.exit 5))
 (.seq (.block 6 (.seq (.region [jv 29, jq (.iaS 1) [.v 27, .v 29], jl 1, jw 12 (.alloc [(.cv (.int .i64 0))]) [], jq (.store 1) [.v 12, .t 0], jm 13 2])
 (.seq (.region [jL 7, jL 12, jv 13, jd 31 54 [.t 0, .t 1, .t 2]])
 (.block 7 (.rangef (.v 31) #[89] (nav [1, 1, 1, 1, 1, 0, 1, 0, 0, 1, 1, 0, 0, 1, 1, 0, 2] b26) (nav [1, 1, 1, 1, 1, 0, 1, 0, 0, 1, 1, 0, 0, 1, 1, 0, 3] b26) (.region [jw 14 .mv [.v 32]])
 (.block 8 (.seq (.region [jL 7, jL 3, jL 12, jv 14, jd 33 55 [.t 0, .t 1, .t 2, .t 3]])
 (.cond 33 (.seq (.region [jL 12, jv 14, jq (.store 1) [.v 4, .t 0], jq (.store 1) [.v 5, .t 1], jq (.store 1) [.v 6, jn 9]])
 .ret)
 .skip))))))))
 (.region [jq (.bin .add .int) [.v 29, jn 1], jm 29 0]))))
def ic26l1 : IC := (.seq (.region [jw 25 (.bin .lss .int) [.v 24, .v 23]])
 (.seq (.cond 25 .skip
 (.exit 3))
 (.seq (.block 4 (.seq (.region [jv 24, jq (.iaS 3) [.v 22, .v 24], jq (.loadN 3) [.t 1], jw 11 (.alloc [(.cv (.str (bts []))), (.cv (.int .i64 0)), (.cv .nils)]) [], jm 10 0, jq (.store 3) [.v 11, .t 2]])
 (.seq (.dr [[], [], [0, 1], [], [3], [2, 4]] [jL 3, jv 10, jk 52 [.t 0, .t 1], jF 1 11, jl 3, jw 26 (.bin .gtr .int) [.t 2, .t 4]])
 (.cond 26 (.seq (.region [jv 10, jq (.store 1) [.v 4, jn 0], jq (.store 1) [.v 5, .t 0], jq (.store 1) [.v 6, jn 7]])
 .ret)
 .skip))))
 (.region [jq (.bin .add .int) [.v 24, jn 1], jm 24 0]))))
def ic26l2 : IC := (.seq (.region [jw 20 (.bin .lss .int) [.v 19, .v 18]])
 (.seq (.cond 20 .skip
 (.exit 1))
 (.seq (.block 2 (.seq (.region [jv 19, jq (.iaS 1) [.v 17, .v 19], jl 1, jm 8 0, jm 9 2])
 (.seq (.region [jv 9, jq (.bin .neq .int) [.t 0, jn (-1)], jt 1, jg 2 true .load1 [.v 7], jg 2 true .nilck [.t 3], jg 2 true (.fadd 0) [.t 4], jg 2 true (.fadd 1) [.t 5], ji 2 true 6, jh 2 true 8, jg 2 true (.iaS 5) [.t 7, .t 8], jg 2 true (.fadd 4) [.t 9], ji 2 true 10, jh 2 true 9, jf 2 true 53 [.t 11, .t 12], jg 2 true .not [.t 13], jw 21 .pick [.t 2, .t 14, jB false]])
 (.cond 21 (.seq (.region [jv 8, jq (.store 1) [.v 4, .t 0], jq (.store 1) [.v 5, jn 0], jq (.store 1) [.v 6, jn 4]])
 .ret)
 .skip))))
 (.region [jq (.bin .add .int) [.v 19, jn 1], jm 19 0]))))
def ic26 (b26 : Code) : IC := (.seq (.region [jb 2 0, jb 3 1, jw 4 (.alloc [(.cv (.int .i64 0))]) [], jw 5 (.alloc [(.cv (.int .i64 0))]) [], jw 6 (.alloc [(.cv (.int .i64 0))]) []])
 (.seq (.region [jN 2 2, jk 48 [.t 0], jt 1, jx 0 2, jx 1 2, jw 7 (.alloc [(.cv .nilp)]) [], jq (.store 1) [.v 7, .t 3], jq (.store 1) [.v 6, .t 4]])
 (.seq (.block 0 (.seq (.region [jL 6, jq (.bin .neq .int) [.t 0, jn 0], jm 15 1])
 (.cond 15 (.seq (.dr [[], [], [1, 1], [0, 2, 0, 1, 2]] [jL 6, jq (.store 1) [.v 4, jn 0], jq (.store 1) [.v 5, jn 0], jq (.store 1) [.v 6, .t 0]])
 .ret)
 (.seq (.dr [[], [0], [], [2], [3], [4], [5], [6], [1, 7], [8]] [jL 3, je 0, jL 7, jc 2, jG 0 3, jG 1 4, jl 5, je 6, jq (.bin .neq .int) [.t 1, .t 7], jm 16 8])
 (.cond 16 (.seq (.region [jq (.store 1) [.v 4, jn 0], jq (.store 1) [.v 5, jn 0], jq (.store 1) [.v 6, jn 3]])
 .ret)
 .skip)))))
 (.seq (.seq (.region [jw 17 .load1 [.v 3], jw 18 (.len false) [.v 17], jz 19 0])
 (.block 1 (.loop ic26l2)))
 (.seq (.seq (.region [jL 7, jc 0, jG 0 1, jG 0 2, jw 22 .load1 [.t 3], jw 23 (.len false) [.v 22], jz 24 0])
 (.block 3 (.loop ic26l1)))
 (.seq (.seq (.region [jw 27 .load1 [.v 3], jw 28 (.len false) [.v 27], jz 29 0])
 (.block 5 (.loop  (ic26l0 b26))))
 (.seq (.region [jq (.store 1) [.v 4, jn 0], jq (.store 1) [.v 5, jn 0], jq (.store 1) [.v 6, jn 0]])
 .ret)))))))
theorem cc26 : compC Try.prog vs26 Try.f26.ntmps (Try.f26.body.getD .skip) = some (ic26 (Try.f26.body.getD .skip)) := by kernel_rfl
abbrev rs26 : List RC := [(.l1 4), (.l1 5), (.l1 6)]
theorem fok26 (p : Bool) : FnOk Try.prog 26 ⟨ic26 (Try.f26.body.getD .skip), vs26, 98, rs26, p⟩ := FnOk.mk' Try.func26 hb26 (by kernel_rfl) cc26 (by kernel_rfl) (by kernel_rfl)

abbrev vs28 : List Nat := [0, 1, 2, 4, 5, 6, 7, 8, 9, 15, 19]
def ic28 : IC := (.seq (.region [jb 2 0, jw 3 .mv [jS], jz 4 0])
 (.seq (.region [jN 2 2, jk 48 [.t 0], jt 1, jx 0 2, jx 1 2, jm 5 3, jm 6 4])
 (.seq (.block 0 (.seq (.region [jv 6, jq (.bin .neq .int) [.t 0, jn 0], jm 9 1])
 (.cond 9 (.seq (.region [jv 6, jw 3 .mv [jS], jm 4 0])
 .ret)
 (.seq (.region [jv 5, jc 0, jG 0 1, jG 1 2, jl 3, je 4, jq (.bin .sub .int) [.t 5, jn 1], jv 1, jq (.bslice 1 1 [(.cv (.int .i64 0))] [(0, 1)]) [.t 7], jk 39 [jn 0, .t 6, .t 8], jm 10 9])
 (.cond 10 (.seq (.region [jw 3 .mv [jS], jz 4 4])
 .ret)
 .skip)))))
 (.seq (.region [jv 5, jk 50 [.t 0], jm 7 1])
 (.seq (.region [jF 1 2, jl 0, jk 58 [.t 1], jv 1, jv 1, jq (.bin .add .int) [.t 4, jn 1], jk 57 [.t 2, .t 3, .t 5], jF 1 2, jq (.store 1) [.t 7, .t 6]])
 (.seq (.dr [[], [0], [1, 1], [], [], [], [4, 5], [6], [7], [2, 3, 8, 2], [9, 9, 0, 1, 2, 3, 4, 5, 6, 7, 8, 9]] [jN 2 2, jk 60 [.t 0], jk 50 [.t 1], jv 1, jv 7, jv 1, ja 1 4 5, jl 6, jq (.bslice 1 1 [(.cv (.int .i64 0))] [(0, 1)]) [.t 7], jk 59 [.t 2, .t 3, .t 8], jm 8 9])
 (.seq (.region [jv 7, jv 8, jk 61 [.t 0, .t 1], jm 3 2, jz 4 0])
 .ret)))))))
abbrev rs28 : List RC := [(.v 3), (.v 4)]
theorem fok28 (p : Bool) : FnOk Try.prog 28 ⟨ic28, vs28, 53, rs28, p⟩ := .mk2 Try.func28 (by kernel_rfl) (by kernel_rfl) (by kernel_rfl) (by kernel_rfl) (by kernel_rfl)

abbrev vs31 : List Nat := [0, 1, 2, 4, 5, 6, 7, 8, 14, 18, 29]
def ic31 : IC := (.seq (.region [jb 2 0, jw 3 .mv [jS], jz 4 0])
 (.seq (.region [jN 2 2, jk 48 [.t 0], jt 1, jx 0 2, jx 1 2, jm 5 3, jm 6 4])
 (.seq (.block 0 (.seq (.region [jv 6, jq (.bin .neq .int) [.t 0, jn 0], jm 8 1])
 (.cond 8 (.seq (.region [jv 6, jw 3 .mv [jS], jm 4 0])
 .ret)
 (.seq (.region [jv 5, jc 0, jG 0 1, jG 0 2, jl 3, je 4, jq (.bin .sub .int) [.t 5, jn 1], jv 1, jq (.bslice 1 1 [(.cv (.int .i64 0))] [(0, 1)]) [.t 7], jk 39 [jn 0, .t 6, .t 8], jm 9 9])
 (.cond 9 (.seq (.region [jw 3 .mv [jS], jz 4 4])
 .ret)
 (.seq (.region [jv 5, jc 0, jG 0 1, jG 0 2, jl 3, jv 1, ja 3 4 5, jG 1 6, jl 7, jq (.bin .eql .int) [.t 8, jn 6], jm 10 9])
 (.cond 10 (.seq (.region [jw 3 .mv [jS], jz 4 7])
 .ret)
 .skip)))))))
 (.seq (.region [jv 5, jk 50 [.t 0], jm 7 1])
 (.seq (.region [jF 0 2, jl 0, jk 63 [.t 1], jF 0 2, jq (.store 1) [.t 3, .t 2]])
 (.seq (.region [jF 0 2, jl 0, jv 1, ja 3 1 2, jG 1 3, jl 4, jq (.bin .add .int) [.t 5, jn 1], ja 3 1 2, jG 1 7, jq (.store 1) [.t 8, .t 6]])
 (.seq (.region [jv 7, jN 2 2, jk 60 [.t 1], jk 50 [.t 2], jk 61 [.t 0, .t 3], jm 3 4, jz 4 0])
 .ret)))))))
abbrev rs31 : List RC := [(.v 3), (.v 4)]
theorem fok31 (p : Bool) : FnOk Try.prog 31 ⟨ic31, vs31, 60, rs31, p⟩ := .mk2 Try.func31 (by kernel_rfl) (by kernel_rfl) (by kernel_rfl) (by kernel_rfl) (by kernel_rfl)

abbrev vs33 : List Nat := [0]
def ic33 : IC := (.seq (.region [jw 0 (.alloc [(.cv .nils), (.cv .nils)]) []])
 (.seq (.region [jq (.bslice 1 2 [(.cv (.int .i64 0)), (.cv (.int .i64 0))] [(0, 1), (1, 1)]) [jn 1, jn 0], jq (.build [(.cv (.str (bts []))), (.cv (.int .i64 0)), (.cv .nils)] [(0, 1), (1, 1), (2, 1)]) [.c (.cv (.str (bts [110, 111, 114, 116, 104]))), jn 1, .t 0], jq (.bslice 1 1 [(.cv (.int .i64 0))] [(0, 1)]) [jn 0], jq (.build [(.cv (.str (bts []))), (.cv (.int .i64 0)), (.cv .nils)] [(0, 1), (1, 1), (2, 1)]) [.c (.cv (.str (bts [115, 111, 117, 116, 104]))), jn 1, .t 2], jq (.bslice 3 2 [(.cv (.str (bts []))), (.cv (.int .i64 0)), (.cv .nils), (.cv (.str (bts []))), (.cv (.int .i64 0)), (.cv .nils)] [(0, 3), (3, 3)]) [.t 1, .t 3], jq (.bslice 1 2 [(.cv (.int .i64 0)), (.cv (.int .i64 0))] [(0, 1), (1, 1)]) [jn 0, jn 1], jq (.build [(.cv (.str (bts []))), (.cv (.int .i64 0)), (.cv (.int .i64 0)), (.cv (.int .i64 0)), (.cv .nils)] [(0, 1), (1, 1), (2, 1), (4, 1)]) [.c (.cv (.str (bts [97, 110, 110]))), jn 10, jn (-1), .t 5], jq (.bslice 1 2 [(.cv (.int .i64 0)), (.cv (.int .i64 0))] [(0, 1), (1, 1)]) [jn 0, jn 1], jq (.build [(.cv (.str (bts []))), (.cv (.int .i64 0)), (.cv (.int .i64 0)), (.cv (.int .i64 0)), (.cv .nils)] [(0, 1), (1, 1), (4, 1)]) [.c (.cv (.str (bts [98, 101, 110]))), jn 20, .t 7], jq (.bslice 1 2 [(.cv (.int .i64 0)), (.cv (.int .i64 0))] [(0, 1), (1, 1)]) [jn 1, jn 0], jq (.build [(.cv (.str (bts []))), (.cv (.int .i64 0)), (.cv (.int .i64 0)), (.cv (.int .i64 0)), (.cv .nils)] [(0, 1), (1, 1), (2, 1), (4, 1)]) [.c (.cv (.str (bts [99, 121]))), jn 15, jn (-1), .t 9], jq (.bslice 5 3 [(.cv (.str (bts []))), (.cv (.int .i64 0)), (.cv (.int .i64 0)), (.cv (.int .i64 0)), (.cv .nils), (.cv (.str (bts []))), (.cv (.int .i64 0)), (.cv (.int .i64 0)), (.cv (.int .i64 0)), (.cv .nils), (.cv (.str (bts []))), (.cv (.int .i64 0)), (.cv (.int .i64 0)), (.cv (.int .i64 0)), (.cv .nils)] [(0, 5), (5, 5), (10, 5)]) [.t 6, .t 8, .t 10], jq (.build [(.cv .nils), (.cv .nils)] [(0, 1), (1, 1)]) [.t 4, .t 11], jq (.store 2) [.v 0, .t 12]])
 .ret))
abbrev rs33 : List RC := [(.lN 0 2)]
theorem fok33 (p : Bool) : FnOk Try.prog 33 ⟨ic33, vs33, 14, rs33, p⟩ := .mk2 Try.func33 (by kernel_rfl) (by kernel_rfl) (by kernel_rfl) (by kernel_rfl) (by kernel_rfl)

abbrev vs39 : List Nat := [0, 1, 2, 3, 4, 6]
def ic39 : IC := (.seq (.region [jb 3 0, jb 4 1, jw 5 .mv [jB false]])
 (.seq (.region [jv 2, jq (.mkfn (.func 67)) [.v 3, .v 4], jk 66 [.t 0, .t 1], jm 5 2])
 .ret))
abbrev rs39 : List RC := [(.v 5)]
theorem fok39 (p : Bool) : FnOk Try.prog 39 ⟨ic39, vs39, 10, rs39, p⟩ := .mk2 Try.func39 (by kernel_rfl) (by kernel_rfl) (by kernel_rfl) (by kernel_rfl) (by kernel_rfl)

abbrev vs40 : List Nat := [0, 1, 3, 4, 5, 6, 16, 20]
def ic40 : IC := (.seq (.region [jb 2 1, jz 3 0])
 (.seq (.region [jv 0, je 0, jq (.bin .sub .int) [.t 1, jn 1], jm 4 2])
 (.seq (.dr [[], [], [], [1, 2], [3], [0, 4], [], [6, 5, 5, 0, 1, 2, 3, 4, 5, 6]] [jL 2, jv 0, jv 4, ja 3 1 2, jq (.loadN 3) [.t 3], ⟨none, none, .call, [(.t 0), (.t 4)]⟩, jw 5 (.alloc [(.cv (.str (bts [])))]) [], jq (.store 1) [.v 5, .t 5]])
 (.seq (.block 0 (.seq (.region [jL 5, jk 68 [.t 0], jq .not [.t 1], jm 6 2])
 (.cond 6 (.seq (.region [jz 3 6])
 .ret)
 (.seq (.region [jv 0, jv 4, jq (.slS 3 false true) [.t 0, .t 1], jq (.mkfn (.func 70)) [.v 2, .v 5], jk 69 [.t 2, .t 3], jm 7 4])
 (.cond 7 (.seq (.region [jz 3 5])
 .ret)
 .skip)))))
 (.seq (.region [jz 3 0])
 .ret)))))
abbrev rs40 : List RC := [(.v 3)]
theorem fok40 (p : Bool) : FnOk Try.prog 40 ⟨ic40, vs40, 26, rs40, p⟩ := .mk2 Try.func40 (by kernel_rfl) (by kernel_rfl) (by kernel_rfl) (by kernel_rfl) (by kernel_rfl)

abbrev vs41 : List Nat := [0, 1, 2]
def ic41 : IC := (.seq (.region [jb 1 0, jw 2 .mv [.c (.cv (.str (bts [])))]])
 (.seq (.region [jF 0 1, jl 0, jm 2 1])
 .ret))
abbrev rs41 : List RC := [(.v 2)]
theorem fok41 (p : Bool) : FnOk Try.prog 41 ⟨ic41, vs41, 5, rs41, p⟩ := .mk2 Try.func41 (by kernel_rfl) (by kernel_rfl) (by kernel_rfl) (by kernel_rfl) (by kernel_rfl)

abbrev vs42 : List Nat := [0, 1, 4, 5, 6, 7, 8, 9, 10, 14, 20]
def ic42l0 : IC := (.seq (.region [jw 8 (.bin .lss .int) [.v 7, .v 6]])
 (.seq (.cond 8 .skip
 (.exit 0))
 (.seq (.block 1 (.seq (.region [jv 7, jq (.iaS 1) [.v 5, .v 7], jl 1, jm 3 0, jm 4 2])
 (.block 2 (.seq (.region [jv 1, jq (.bin .sub .int) [.t 0, jn 1], jv 4, jq (.bslice 1 1 [(.cv (.int .i64 0))] [(0, 1)]) [.t 2], jk 39 [jn 0, .t 1, .t 3], jm 9 4])
 (.cond 9 (.seq (.region [jz 2 4])
 .ret)
 (.seq (.region [jv 0, jv 3, jq (.slS 1 false true) [.t 0, .t 1], jv 4, jk 53 [.t 2, .t 3], jm 10 4])
 (.cond 10 (.seq (.region [jz 2 5])
 .ret)
 .skip)))))))
 (.region [jq (.bin .add .int) [.v 7, jn 1], jm 7 0]))))
def ic42 : IC := (.seq (.region [jz 2 0])
 (.seq (.seq (.region [jw 5 .mv [.v 0], jw 6 (.len false) [.v 5], jz 7 0])
 (.block 0 (.loop ic42l0)))
 (.seq (.region [jz 2 0])
 .ret)))
abbrev rs42 : List RC := [(.v 2)]
theorem fok42 (p : Bool) : FnOk Try.prog 42 ⟨ic42, vs42, 27, rs42, p⟩ := .mk2 Try.func42 (by kernel_rfl) (by kernel_rfl) (by kernel_rfl) (by kernel_rfl) (by kernel_rfl)

abbrev vs43 : List Nat := [0, 1, 3, 4, 5, 6, 16, 20]
def ic43 : IC := (.seq (.region [jb 2 1, jz 3 0])
 (.seq (.region [jv 0, je 0, jq (.bin .sub .int) [.t 1, jn 1], jm 4 2])
 (.seq (.dr [[], [], [], [1, 2], [3], [0, 4], [], [6, 5, 5, 0, 1, 2, 3, 4, 5, 6]] [jL 2, jv 0, jv 4, ja 5 1 2, jq (.loadN 5) [.t 3], ⟨none, none, .call, [(.t 0), (.t 4)]⟩, jw 5 (.alloc [(.cv (.str (bts [])))]) [], jq (.store 1) [.v 5, .t 5]])
 (.seq (.block 0 (.seq (.region [jL 5, jk 68 [.t 0], jq .not [.t 1], jm 6 2])
 (.cond 6 (.seq (.region [jz 3 6])
 .ret)
 (.seq (.region [jv 0, jv 4, jq (.slS 5 false true) [.t 0, .t 1], jq (.mkfn (.func 72)) [.v 2, .v 5], jk 71 [.t 2, .t 3], jm 7 4])
 (.cond 7 (.seq (.region [jz 3 5])
 .ret)
 .skip)))))
 (.seq (.region [jz 3 0])
 .ret)))))
abbrev rs43 : List RC := [(.v 3)]
theorem fok43 (p : Bool) : FnOk Try.prog 43 ⟨ic43, vs43, 26, rs43, p⟩ := .mk2 Try.func43 (by kernel_rfl) (by kernel_rfl) (by kernel_rfl) (by kernel_rfl) (by kernel_rfl)

abbrev vs44 : List Nat := [0, 1, 2]
def ic44 : IC := (.seq (.region [jb 1 0, jw 2 .mv [.c (.cv (.str (bts [])))]])
 (.seq (.region [jF 0 1, jl 0, jm 2 1])
 .ret))
abbrev rs44 : List RC := [(.v 2)]
theorem fok44 (p : Bool) : FnOk Try.prog 44 ⟨ic44, vs44, 5, rs44, p⟩ := .mk2 Try.func44 (by kernel_rfl) (by kernel_rfl) (by kernel_rfl) (by kernel_rfl) (by kernel_rfl)

abbrev vs48 : List Nat := [0, 1, 2, 3, 6, 14]
def ic48 : IC := (.seq (.region [jb 1 0, jw 2 .mv [.c (.cv .nilp)], jz 3 0])
 (.seq (.seq (.region [jN 2 1, jk 16 [.t 0], jt 1, jx 0 2, jx 1 2, jx 2 2, jt 3, jt 4, jm 4 5])
 (.seq (.region [jv 4, jw 5 (.bin .neq .int) [.t 0, jn 0]])
 (.cond 5 (.seq (.region [jv 4, jw 2 .mv [.c (.cv .nilp)], jm 3 0])
 .ret)
 .skip)))
 (.seq (.region [jN 2 1, jk 60 [.t 0], jm 2 1, jz 3 0])
 .ret)))
abbrev rs48 : List RC := [(.v 2), (.v 3)]
theorem fok48 (p : Bool) : FnOk Try.prog 48 ⟨ic48, vs48, 18, rs48, p⟩ := .mk2 Try.func48 (by kernel_rfl) (by kernel_rfl) (by kernel_rfl) (by kernel_rfl) (by kernel_rfl)

abbrev vs49 : List Nat := [0, 1, 2, 3, 4, 5, 6, 7, 16, 17, 18]
def ic49l0 : IC := (.seq (.region [jw 10 (.bin .lss .int) [.v 9, .v 8]])
 (.seq (.cond 10 .skip
 (.exit 0))
 (.seq (.block 1 (.seq (.region [jv 9, jm 6 0])
 (.region [jv 5, jv 6, jv 6, ja 1 0 1, jq (.store 1) [.t 3, .t 2]])))
 (.region [jq (.bin .add .int) [.v 9, jn 1], jm 9 0]))))
def ic49 : IC := (.seq (.region [jb 2 0, jb 3 1, jw 4 .mv [jS]])
 (.seq (.region [jL 2, jc 0, jG 0 1, jG 1 2, jl 3, je 4, jq (.mkslice 1 8 [(.cv (.int .i64 0))]) [.t 5, .t 5], jm 5 6])
 (.seq (.seq (.region [jv 5, jw 8 (.len false) [.t 0], jz 9 0])
 (.block 0 (.loop ic49l0)))
 (.seq (.region [jL 2, jq (.mkbm 75) [.t 0], jL 2, jq (.mkbm 76) [.t 2], jL 2, jq (.mkbm 77) [.t 4], jq (.build [(.cv .nilf), (.cv .nilf), (.cv .nilf)] [(0, 1), (1, 1), (2, 1)]) [.t 1, .t 3, .t 5], jw 7 (.alloc [(.cv .nilf), (.cv .nilf), (.cv .nilf)]) [], jq (.store 3) [.v 7, .t 6]])
 (.seq (.region [jv 5, jq (.mkfn (.func 79)) [.v 2, .v 3, .v 7], jk 78 [.t 0, .t 1]])
 (.seq (.region [jv 5, jm 4 0])
 .ret))))))
abbrev rs49 : List RC := [(.v 4)]
theorem fok49 (p : Bool) : FnOk Try.prog 49 ⟨ic49, vs49, 36, rs49, p⟩ := .mk2 Try.func49 (by kernel_rfl) (by kernel_rfl) (by kernel_rfl) (by kernel_rfl) (by kernel_rfl)

abbrev vs50 : List Nat := [0, 1, 2, 3, 4, 5, 6, 7, 35, 37, 36]
def ic50l0 : IC := (.seq (.region [jw 9 (.bin .lss .int) [.v 10, .v 8]])
 (.seq (.cond 9 .skip
 (.exit 0))
 (.seq (.block 1 (.seq (.region [jv 10, jm 7 0])
 (.region [jL 6, jv 7, ⟨none, none, .call, [(.t 0), (.t 1)]⟩])))
 (.region [jq (.bin .add .int) [.v 10, jn 1], jm 10 0]))))
def ic50 : IC := (.seq (.region [jb 1 0, jw 2 .mv [jS]])
 (.seq (.dr [[], [0], [1], [2], [3], [4], [5, 5], [], [7], [8], [9], [10], [11], [12, 12], [], [14], [15], [16], [17], [18], [19, 19], [], [], [], [21, 6, 0, 1, 2, 3, 4, 5, 6, 21, 22, 23], [22, 13, 24, 0, 1, 2, 3, 4, 5, 6, 7, 8, 9, 10, 11, 12, 13, 21, 22, 23, 24], [23, 20, 25, 0, 1, 2, 3, 4, 5, 6, 7, 8, 9, 10, 11, 12, 13, 14, 15, 16, 17, 18, 19, 20, 21, 22, 23, 24, 25]] [jL 1, jc 0, jG 0 1, jG 1 2, jl 3, je 4, jq (.mksliceC 1 8 [(.cv (.int .i64 0))]) [.t 5, .t 5], jL 1, jc 7, jG 0 8, jG 1 9, jl 10, je 11, jq (.mksliceC 1 8 [(.cv (.int .i64 0))]) [.t 12, .t 12], jL 1, jc 14, jG 0 15, jG 0 16, jl 17, je 18, jq (.mksliceC 1 24 [(.cv .nils)]) [.t 19, .t 19], jw 3 (.alloc [(.cv .nils)]) [], jw 4 (.alloc [(.cv .nils)]) [], jw 5 (.alloc [(.cv .nils)]) [], jq (.store 1) [.v 3, .t 6], jq (.store 1) [.v 4, .t 13], jq (.store 1) [.v 5, .t 20]])
 (.seq (.region [jw 6 (.alloc [(.cv .nilf)]) []])
 (.seq (.region [jq (.mkfn (.func 81)) [.v 3, .v 4, .v 1, .v 5, .v 6], jq (.store 1) [.v 6, .t 0]])
 (.seq (.seq (.region [jL 1, jc 0, jG 0 1, jG 1 2, jl 3, jw 8 (.len false) [.t 4], jz 10 0])
 (.block 0 (.loop ic50l0)))
 (.seq (.region [jL 3, jm 2 0])
 .ret))))))
abbrev rs50 : List RC := [(.v 2)]
theorem fok50 (p : Bool) : FnOk Try.prog 50 ⟨ic50, vs50, 44, rs50, p⟩ := .mk2 Try.func50 (by kernel_rfl) (by kernel_rfl) (by kernel_rfl) (by kernel_rfl) (by kernel_rfl)

abbrev vs52 : List Nat := [0, 1, 4, 6, 7, 8, 9, 10, 15]
def ic52l0 : IC := (.seq (.region [jw 7 (.bin .lss .int) [.v 6, .v 5]])
 (.seq (.cond 7 .skip
 (.exit 0))
 (.seq (.block 1 (.seq (.region [jq (.iaS 1) [.v 4, .v 6], jl 0, jm 3 1])
 (.seq (.region [jv 3, jv 1, jw 8 (.bin .eql .int) [.t 0, .t 1]])
 (.cond 8 (.region [jv 2, jq (.bin .add .int) [.t 0, jn 1], jm 2 1])
 .skip))))
 (.region [jq (.bin .add .int) [.v 6, jn 1], jm 6 0]))))
def ic52 : IC := (.seq (.region [jz 2 0])
 (.seq (.seq (.region [jw 4 .mv [.v 0], jw 5 (.len false) [.v 4], jz 6 0])
 (.block 0 (.loop ic52l0)))
 (.seq (.region [jv 2, jm 2 0])
 .ret)))
abbrev rs52 : List RC := [(.v 2)]
theorem fok52 (p : Bool) : FnOk Try.prog 52 ⟨ic52, vs52, 20, rs52, p⟩ := .mk2 Try.func52 (by kernel_rfl) (by kernel_rfl) (by kernel_rfl) (by kernel_rfl) (by kernel_rfl)

abbrev vs53 : List Nat := [0, 1, 4]
def ic53 : IC := (.seq (.region [jw 2 .mv [jB false]])
 (.seq (.region [jv 0, jv 1, jk 88 [.t 0, .t 1], jq (.bin .geq .int) [.t 2, jn 0], jm 2 3])
 .ret))
abbrev rs53 : List RC := [(.v 2)]
theorem fok53 (p : Bool) : FnOk Try.prog 53 ⟨ic53, vs53, 9, rs53, p⟩ := .mk2 Try.func53 (by kernel_rfl) (by kernel_rfl) (by kernel_rfl) (by kernel_rfl) (by kernel_rfl)

abbrev vs54 : List Nat := [0, 1, 2, 3, 4, 5, 6]
def ic54 : IC := (.seq (.region [jb 3 0, jb 4 1, jb 5 2, jw 6 .mv [.c (.cv .nilf)]])
 (.seq (.region [jq (.mkfn (.func 89)) [.v 3, .v 4, .v 5], jm 6 0])
 .ret))
abbrev rs54 : List RC := [(.v 6)]
theorem fok54 (p : Bool) : FnOk Try.prog 54 ⟨ic54, vs54, 8, rs54, p⟩ := .mk2 Try.func54 (by kernel_rfl) (by kernel_rfl) (by kernel_rfl) (by kernel_rfl) (by kernel_rfl)

abbrev vs55 : List Nat := [0, 1, 2, 3, 8, 9, 10, 23, 24, 25, 26, 27, 52]
def ic55l0 : IC := (.seq (.region [jw 11 (.bin .lss .int) [.v 10, .v 9]])
 (.seq (.cond 11 .skip
 (.exit 0))
 (.seq (.block 1 (.seq (.region [jv 10, jq (.iaS 1) [.v 8, .v 10], jl 1, jm 5 0, jm 6 2])
 (.seq (.dr [[], [], [0, 1], [2], [3], [4, 3], [5, 3], [6, 3], [3], [3], [8, 9, 3], [7, 10, 3], [3], [12, 3], [13, 3], [14, 3], [3], [3], [16, 17, 3], [15, 18, 3], [11, 19, 3], [3, 20]] [jv 6, jv 3, jq (.bin .eql .int) [.t 0, .t 1], jt 2, jh 3 true 0, jg 3 true .nilck [.t 4], jg 3 true (.fadd 2) [.t 5], ji 3 true 6, jh 3 true 3, jh 3 true 5, jg 3 true (.build [(.cv (.int .i64 0)), (.cv (.int .i64 0))] [(0, 1), (1, 1)]) [.t 8, .t 9], jg 3 true (.lookup (true, [(.int .i64), (.int .i64)]) (.cv (.int .i64 0)) false) [.t 7, .t 10], jh 3 true 0, jg 3 true .nilck [.t 12], jg 3 true (.fadd 2) [.t 13], ji 3 true 14, jh 3 true 3, jh 3 true 2, jg 3 true (.build [(.cv (.int .i64 0)), (.cv (.int .i64 0))] [(0, 1), (1, 1)]) [.t 16, .t 17], jg 3 true (.lookup (true, [(.int .i64), (.int .i64)]) (.cv (.int .i64 0)) false) [.t 15, .t 18], jg 3 true (.bin .gtr .int) [.t 11, .t 19], jw 12 .pick [.t 3, .t 20, jB false]])
 (.cond 12 (.seq (.region [jw 4 .mv [jB true]])
 .ret)
 .skip))))
 (.region [jq (.bin .add .int) [.v 10, jn 1], jm 10 0]))))
def ic55 : IC := (.seq (.region [jw 4 .mv [jB false]])
 (.seq (.seq (.dr [[], [], [0, 1], [], [3], [4], [5], [6], [], [7, 8], [9], [10], [2, 11]] [jv 1, jv 3, jk 52 [.t 0, .t 1], jv 0, jc 3, jG 0 4, jG 0 5, jl 6, jv 3, ja 3 7 8, jG 1 9, jl 10, jw 7 (.bin .lss .int) [.t 2, .t 11]])
 (.cond 7 (.seq (.region [jw 4 .mv [jB true]])
 .ret)
 .skip))
 (.seq (.seq (.region [jw 8 .mv [.v 1], jw 9 (.len false) [.v 8], jz 10 0])
 (.block 0 (.loop ic55l0)))
 (.seq (.region [jw 4 .mv [jB false]])
 .ret))))
abbrev rs55 : List RC := [(.v 4)]
theorem fok55 (p : Bool) : FnOk Try.prog 55 ⟨ic55, vs55, 54, rs55, p⟩ := .mk2 Try.func55 (by kernel_rfl) (by kernel_rfl) (by kernel_rfl) (by kernel_rfl) (by kernel_rfl)

abbrev vs57 : List Nat := [0, 1, 2, 6, 7, 16]
def ic57 : IC := (.seq (.region [jw 3 .mv [jS]])
 (.seq (.region [jv 0, jv 1, jv 2, jv 0, je 3, jq .slS3 [.t 0, .t 1, .t 2, .t 4]])
 (.seq (.seq (.region [jv 1, jv 2, jw 5 (.bin .eql .int) [.t 0, .t 1]])
 (.cond 5 (.seq (.region [jv 0, jm 3 0])
 .ret)
 .skip))
 (.seq (.region [jv 0, je 0, jm 4 1])
 (.seq (.dr [[], [], [0, 1], [], [], [3, 4], [2, 5], [6, 6, 0, 1, 2, 3, 4, 5, 6]] [jv 0, jv 1, jq (.slS 5 false true) [.t 0, .t 1], jv 0, jv 2, jq (.slS 5 true false) [.t 3, .t 4], jq (.append 5 64) [.t 2, .t 5], jm 0 6])
 (.seq (.region [jv 0, jv 0, je 1, jv 4, jq (.slS 5 true true) [.t 0, .t 2, .t 3], jq (.clear [(.cv (.str (bts []))), (.cv (.int .i64 0)), (.cv (.int .i64 0)), (.cv (.int .i64 0)), (.cv .nils)]) [.t 4]])
 (.seq (.region [jv 0, jm 3 0])
 .ret)))))))
abbrev rs57 : List RC := [(.v 3)]
theorem fok57 (p : Bool) : FnOk Try.prog 57 ⟨ic57, vs57, 33, rs57, p⟩ := .mk2 Try.func57 (by kernel_rfl) (by kernel_rfl) (by kernel_rfl) (by kernel_rfl) (by kernel_rfl)

abbrev vs58 : List Nat := [0, 2, 4]
def ic58 : IC := (.seq (.region [jw 1 .mv [jS]])
 (.seq (.seq (.region [jv 0, jw 2 (.bin .eql .slc) [.t 0, jS]])
 (.cond 2 (.seq (.region [jw 1 .mv [jS]])
 .ret)
 .skip))
 (.seq (.region [jq (.bslice 5 0 [] []) [], jv 0, jq (.append 5 64) [.t 0, .t 1], jm 1 2])
 .ret)))
abbrev rs58 : List RC := [(.v 1)]
theorem fok58 (p : Bool) : FnOk Try.prog 58 ⟨ic58, vs58, 8, rs58, p⟩ := .mk2 Try.func58 (by kernel_rfl) (by kernel_rfl) (by kernel_rfl) (by kernel_rfl) (by kernel_rfl)

abbrev vs59 : List Nat := [0, 1, 2, 6, 7, 8, 9, 16, 22, 31, 68]
def ic59 : IC := (.seq (.region [jw 3 .mv [jS]])
 (.seq (.region [jv 0, jv 1, jq (.slS 1 true false) [.t 0, .t 1]])
 (.seq (.region [jv 2, je 0, jm 4 1])
 (.seq (.seq (.region [jv 4, jw 7 (.bin .eql .int) [.t 0, jn 0]])
 (.cond 7 (.seq (.region [jv 0, jm 3 0])
 .ret)
 .skip))
 (.seq (.region [jv 0, je 0, jm 5 1])
 (.seq (.seq (.region [jv 1, jv 5, jw 8 (.bin .eql .int) [.t 0, .t 1]])
 (.cond 8 (.seq (.region [jv 0, jv 2, jq (.append 1 8) [.t 0, .t 1], jm 3 2])
 .ret)
 .skip))
 (.seq (.seq (.region [jv 5, jv 4, jq (.bin .add .int) [.t 0, .t 1], jv 0, jq .cap [.t 3], jw 9 (.bin .gtr .int) [.t 2, .t 4]])
 (.cond 9 (.seq (.region [jv 0, jv 1, jq (.slS 1 false true) [.t 0, .t 1], jv 5, jv 4, jq (.bin .add .int) [.t 3, .t 4], jv 1, jq (.bin .sub .int) [.t 5, .t 6], jq (.appendz 1 8 [(.cv (.int .i64 0))]) [.t 2, .t 7], jm 6 8])
 (.seq (.region [jv 6, jv 1, jq (.slS 1 true false) [.t 0, .t 1], jv 2, jq (.copy 1) [.t 2, .t 3]])
 (.seq (.dr [[], [], [], [1, 2], [0, 3], [], [], [5, 6], [4, 7]] [jv 6, jv 1, jv 4, jq (.bin .add .int) [.t 1, .t 2], jq (.slS 1 true false) [.t 0, .t 3], jv 0, jv 1, jq (.slS 1 true false) [.t 5, .t 6], jq (.copy 1) [.t 4, .t 7]])
 (.seq (.region [jv 6, jm 3 0])
 .ret))))
 .skip))
 (.seq (.region [jv 0, jv 5, jv 4, jq (.bin .add .int) [.t 1, .t 2], jq (.slS 1 false true) [.t 0, .t 3], jm 0 4])
 (.seq (.seq (.region [jv 2, jv 0, jv 1, jv 4, jq (.bin .add .int) [.t 2, .t 3], jq (.slS 1 true false) [.t 1, .t 4], jk 90 [.t 0, .t 5], jw 10 .not [.t 6]])
 (.cond 10 (.seq (.dr [[], [], [], [1, 2], [0, 3], [], [], [5, 6], [4, 7]] [jv 0, jv 1, jv 4, jq (.bin .add .int) [.t 1, .t 2], jq (.slS 1 true false) [.t 0, .t 3], jv 0, jv 1, jq (.slS 1 true false) [.t 5, .t 6], jq (.copy 1) [.t 4, .t 7]])
 (.seq (.region [jv 0, jv 1, jq (.slS 1 true false) [.t 0, .t 1], jv 2, jq (.copy 1) [.t 2, .t 3]])
 (.seq (.region [jv 0, jm 3 0])
 .ret)))
 .skip))
 (.seq (.region [jv 0, jv 5, jq (.slS 1 true false) [.t 0, .t 1], jv 2, jq (.copy 1) [.t 2, .t 3]])
 (.seq (.region [jv 0, jv 1, jq (.slS 1 true false) [.t 0, .t 1], jv 4, jk 91 [.t 2, .t 3]])
 (.seq (.region [jv 0, jm 3 0])
 .ret))))))))))))
abbrev rs59 : List RC := [(.v 3)]
theorem fok59 (p : Bool) : FnOk Try.prog 59 ⟨ic59, vs59, 95, rs59, p⟩ := .mk2 Try.func59 (by kernel_rfl) (by kernel_rfl) (by kernel_rfl) (by kernel_rfl) (by kernel_rfl)

abbrev vs60 : List Nat := [0, 1, 2, 3, 4, 5, 6, 16, 17, 18, 22, 23, 24, 25]
def ic60l0 : IC := (.seq (.region [jw 13 (.bin .lss .int) [.v 12, .v 11]])
 (.seq (.cond 13 .skip
 (.exit 2))
 (.seq (.block 3 (.seq (.region [jv 12, jq (.iaS 1) [.v 10, .v 12], jl 1, jm 5 0, jm 6 2])
 (.region [jv 3, jc 0, jG 2 1, jl 2, jv 4, jv 6, jq (.build [(.cv (.int .i64 0)), (.cv (.int .i64 0))] [(0, 1), (1, 1)]) [.t 4, .t 5], jv 5, jq (.bin .add .int) [.t 7, jn 1], jq (.mapset (true, [(.int .i64), (.int .i64)])) [.t 3, .t 6, .t 8]])))
 (.region [jq (.bin .add .int) [.v 12, jn 1], jm 12 0]))))
def ic60l1 : IC := (.seq (.region [jw 9 (.bin .lss .int) [.v 8, .v 7]])
 (.seq (.cond 9 .skip
 (.exit 0))
 (.seq (.block 1 (.seq (.region [jv 8, jm 4 0])
 (.seq (.region [jv 3, jv 4, jd 10 49 [.t 0, .t 1], jw 11 (.len false) [.v 10], jz 12 0])
 (.block 2 (.loop ic60l0)))))
 (.region [jq (.bin .add .int) [.v 8, jn 1], jm 8 0]))))
def ic60 : IC := (.seq (.region [jb 1 0, jw 2 .mv [.c (.cv .nilp)]])
 (.seq (.region [jN 2 1, jq .mkmap [], jq (.build [(.cv .nils), (.cv .nils), (.cv .nilm)] [(0, 2), (2, 1)]) [.t 0, .t 1], jq .box [.t 2], jm 3 3])
 (.seq (.seq (.region [jv 3, jc 0, jG 0 1, jG 0 2, jl 3, jw 7 (.len false) [.t 4], jz 8 0])
 (.block 0 (.loop ic60l1)))
 (.seq (.region [jv 3, jm 2 0])
 .ret))))
abbrev rs60 : List RC := [(.v 2)]
theorem fok60 (p : Bool) : FnOk Try.prog 60 ⟨ic60, vs60, 41, rs60, p⟩ := .mk2 Try.func60 (by kernel_rfl) (by kernel_rfl) (by kernel_rfl) (by kernel_rfl) (by kernel_rfl)

abbrev vs61 : List Nat := [0, 1, 4, 5, 6, 7, 8, 9, 10, 19]
def ic61l0 : IC := (.seq (.region [jw 8 (.bin .lss .int) [.v 7, .v 6]])
 (.seq (.cond 8 .skip
 (.exit 0))
 (.seq (.block 1 (.seq (.region [jv 7, jq (.iaS 1) [.v 5, .v 7], jl 1, jm 3 0, jm 4 2])
 (.seq (.region [jv 1, jv 3, ja 1 0 1, jl 2, jv 4, jw 9 (.bin .neq .int) [.t 3, .t 4]])
 (.cond 9 (.region [jv 2, jv 3, jv 4, jv 1, jv 3, ja 1 3 4, jl 5, jq (.build [(.cv (.int .i64 0)), (.cv (.int .i64 0)), (.cv (.int .i64 0))] [(0, 1), (1, 1), (2, 1)]) [.t 1, .t 2, .t 6], jq (.bslice 3 1 [(.cv (.int .i64 0)), (.cv (.int .i64 0)), (.cv (.int .i64 0))] [(0, 3)]) [.t 7], jq (.append 3 24) [.t 0, .t 8], jm 2 9])
 .skip))))
 (.region [jq (.bin .add .int) [.v 7, jn 1], jm 7 0]))))
def ic61 : IC := (.seq (.region [jw 2 .mv [jS]])
 (.seq (.seq (.region [jw 5 .mv [.v 0], jw 6 (.len false) [.v 5], jz 7 0])
 (.block 0 (.loop ic61l0)))
 (.seq (.region [jv 2, jm 2 0])
 .ret)))
abbrev rs61 : List RC := [(.v 2)]
theorem fok61 (p : Bool) : FnOk Try.prog 61 ⟨ic61, vs61, 32, rs61, p⟩ := .mk2 Try.func61 (by kernel_rfl) (by kernel_rfl) (by kernel_rfl) (by kernel_rfl) (by kernel_rfl)

abbrev vs63 : List Nat := [0, 2, 4]
def ic63 : IC := (.seq (.region [jw 1 .mv [jS]])
 (.seq (.seq (.region [jv 0, jw 2 (.bin .eql .slc) [.t 0, jS]])
 (.cond 2 (.seq (.region [jw 1 .mv [jS]])
 .ret)
 .skip))
 (.seq (.region [jq (.bslice 3 0 [] []) [], jv 0, jq (.append 3 48) [.t 0, .t 1], jm 1 2])
 .ret)))
abbrev rs63 : List RC := [(.v 1)]
theorem fok63 (p : Bool) : FnOk Try.prog 63 ⟨ic63, vs63, 8, rs63, p⟩ := .mk2 Try.func63 (by kernel_rfl) (by kernel_rfl) (by kernel_rfl) (by kernel_rfl) (by kernel_rfl)

abbrev vs66 : List Nat := [0, 1, 4]
def ic66 : IC := (.seq (.region [jw 2 .mv [jB false]])
 (.seq (.region [jv 0, jv 1, jk 93 [.t 0, .t 1], jq (.bin .geq .int) [.t 2, jn 0], jm 2 3])
 .ret))
abbrev rs66 : List RC := [(.v 2)]
theorem fok66 (p : Bool) : FnOk Try.prog 66 ⟨ic66, vs66, 9, rs66, p⟩ := .mk2 Try.func66 (by kernel_rfl) (by kernel_rfl) (by kernel_rfl) (by kernel_rfl) (by kernel_rfl)

abbrev vs67 : List Nat := [0, 1, 2, 4]
def ic67 : IC := (.seq (.region [jw 3 .mv [jB false]])
 (.seq (.region [jv 0, jL 1, jq (.bin .lss .int) [.t 0, .t 1], jt 2, jh 3 false 0, jg 3 false .load1 [.v 2], jg 3 false (.bin .gtr .int) [.t 4, .t 5], jq .pick [.t 3, jB true, .t 6], jm 3 7])
 .ret))
abbrev rs67 : List RC := [(.v 3)]
theorem fok67 (p : Bool) : FnOk Try.prog 67 ⟨ic67, vs67, 13, rs67, p⟩ := .mk2 Try.func67 (by kernel_rfl) (by kernel_rfl) (by kernel_rfl) (by kernel_rfl) (by kernel_rfl)

abbrev vs68 : List Nat := [0, 2, 3, 4, 6, 7, 8, 28]
def ic68l0 : IC := (.seq (.region [jw 5 .snext [.v 4], jw 6 (.extract 0) [.v 5]])
 (.seq (.cond 6 .skip
 (.exit 0))
 (.block 1 (.seq (.region [jq (.extract 1) [.v 5], jq (.extract 2) [.v 5], jm 2 0, jm 3 1])
 (.seq (.region [jv 3, jq (.bin .lss .int) [.t 0, .c (.cv (.int .i32 97))], jt 1, jh 2 false 3, jg 2 false (.bin .gtr .int) [.t 3, .c (.cv (.int .i32 122))], jq .pick [.t 2, jB true, .t 4], jt 5, jh 6 true 2, jg 6 true (.bin .eql .int) [.t 7, jn 0], jg 6 true .mv [.t 8], jh 9 false 3, jg 9 false (.bin .lss .int) [.t 10, .c (.cv (.int .i32 48))], jg 6 true .pick [.t 9, jB true, .t 11], jg 6 true .mv [.t 12], jh 13 false 3, jg 13 false (.bin .gtr .int) [.t 14, .c (.cv (.int .i32 57))], jg 6 true .pick [.t 13, jB true, .t 15], jw 7 .pick [.t 6, .t 16, jB false]])
 (.cond 7 (.seq (.region [jw 1 .mv [jB false]])
 .ret)
 .skip))))))
def ic68 : IC := (.seq (.region [jw 1 .mv [jB false]])
 (.seq (.seq (.region [jv 0, jw 4 .rstr [.t 0]])
 (.block 0 (.loop ic68l0)))
 (.seq (.region [jv 0, jq (.len true) [.t 0], jq (.bslice 1 1 [(.cv (.int .i64 0))] [(0, 1)]) [.t 1], jk 94 [jn 1, jn 16, .t 2], jq .not [.t 3], jm 1 4])
 .ret)))
abbrev rs68 : List RC := [(.v 1)]
theorem fok68 (p : Bool) : FnOk Try.prog 68 ⟨ic68, vs68, 34, rs68, p⟩ := .mk2 Try.func68 (by kernel_rfl) (by kernel_rfl) (by kernel_rfl) (by kernel_rfl) (by kernel_rfl)

abbrev vs69 : List Nat := [0, 1, 4]
def ic69 : IC := (.seq (.region [jw 2 .mv [jB false]])
 (.seq (.region [jv 0, jv 1, jk 95 [.t 0, .t 1], jq (.bin .geq .int) [.t 2, jn 0], jm 2 3])
 .ret))
abbrev rs69 : List RC := [(.v 2)]
theorem fok69 (p : Bool) : FnOk Try.prog 69 ⟨ic69, vs69, 9, rs69, p⟩ := .mk2 Try.func69 (by kernel_rfl) (by kernel_rfl) (by kernel_rfl) (by kernel_rfl) (by kernel_rfl)

abbrev vs70 : List Nat := [0, 1, 2, 3, 4]
def ic70 : IC := (.seq (.region [jb 3 0, jw 4 .mv [jB false]])
 (.seq (.dr [[], [], [0, 1], [], [2, 3], [4, 2, 0, 1, 2, 3, 4]] [jL 1, jN 3 3, ⟨none, none, .call, [(.t 0), (.t 1)]⟩, jL 2, jq (.bin .eql .str) [.t 2, .t 3], jm 4 4])
 .ret))
abbrev rs70 : List RC := [(.v 4)]
theorem fok70 (p : Bool) : FnOk Try.prog 70 ⟨ic70, vs70, 10, rs70, p⟩ := .mk2 Try.func70 (by kernel_rfl) (by kernel_rfl) (by kernel_rfl) (by kernel_rfl) (by kernel_rfl)

abbrev vs71 : List Nat := [0, 1, 4]
def ic71 : IC := (.seq (.region [jw 2 .mv [jB false]])
 (.seq (.region [jv 0, jv 1, jk 96 [.t 0, .t 1], jq (.bin .geq .int) [.t 2, jn 0], jm 2 3])
 .ret))
abbrev rs71 : List RC := [(.v 2)]
theorem fok71 (p : Bool) : FnOk Try.prog 71 ⟨ic71, vs71, 9, rs71, p⟩ := .mk2 Try.func71 (by kernel_rfl) (by kernel_rfl) (by kernel_rfl) (by kernel_rfl) (by kernel_rfl)

abbrev vs72 : List Nat := [0, 1, 2, 3, 4]
def ic72 : IC := (.seq (.region [jb 3 0, jw 4 .mv [jB false]])
 (.seq (.dr [[], [], [0, 1], [], [2, 3], [4, 2, 0, 1, 2, 3, 4]] [jL 1, jN 5 3, ⟨none, none, .call, [(.t 0), (.t 1)]⟩, jL 2, jq (.bin .eql .str) [.t 2, .t 3], jm 4 4])
 .ret))
abbrev rs72 : List RC := [(.v 4)]
theorem fok72 (p : Bool) : FnOk Try.prog 72 ⟨ic72, vs72, 10, rs72, p⟩ := .mk2 Try.func72 (by kernel_rfl) (by kernel_rfl) (by kernel_rfl) (by kernel_rfl) (by kernel_rfl)

abbrev vs75 : List Nat := [0, 1, 2, 3, 6, 7, 8]
def ic75 : IC := (.seq (.region [jb 4 2, jb 5 3, jz 6 0])
 (.seq (.region [jF 1 4, jl 0, jF 1 5, jl 2, jk 84 [.t 1, .t 3], jm 6 4])
 .ret))
abbrev rs75 : List RC := [(.v 6)]
theorem fok75 (p : Bool) : FnOk Try.prog 75 ⟨ic75, vs75, 14, rs75, p⟩ := .mk2 Try.func75 (by kernel_rfl) (by kernel_rfl) (by kernel_rfl) (by kernel_rfl) (by kernel_rfl)

abbrev vs76 : List Nat := [0, 1, 2, 3, 6, 7, 8, 9, 27]
def ic76 : IC := (.seq (.region [jb 4 2, jb 5 3, jz 6 0])
 (.seq (.block 0 (.seq (.region [jF 2 4, jl 0, jF 2 5, jl 2, jq (.bin .eql .int) [.t 1, .t 3], jt 4, jg 5 false (.fadd 2) [.v 4], ji 5 false 6, jh 5 false 1, jg 5 false (.bin .neq .int) [.t 7, .t 8], jg 5 false .mv [.t 9], jg 10 true (.fadd 2) [.v 5], ji 10 true 11, jh 10 true 1, jg 10 true (.bin .neq .int) [.t 12, .t 13], jg 5 false .pick [.t 10, .t 14, jB false], jq .pick [.t 5, jB true, .t 15], jm 7 16])
 (.cond 7 (.seq (.region [jz 6 0])
 .ret)
 (.seq (.region [jF 2 4, jl 0, jv 1, jq (.bin .eql .int) [.t 1, .t 2], jm 8 3])
 (.cond 8 (.seq (.region [jz 6 (-1)])
 .ret)
 .skip)))))
 (.seq (.region [jz 6 1])
 .ret)))
abbrev rs76 : List RC := [(.v 6)]
theorem fok76 (p : Bool) : FnOk Try.prog 76 ⟨ic76, vs76, 32, rs76, p⟩ := .mk2 Try.func76 (by kernel_rfl) (by kernel_rfl) (by kernel_rfl) (by kernel_rfl) (by kernel_rfl)

abbrev vs77 : List Nat := [0, 1, 2, 3, 6, 7, 8]
def ic77 : IC := (.seq (.region [jb 4 2, jb 5 3, jz 6 0])
 (.seq (.region [jF 3 4, jl 0, jF 3 5, jl 2, jk 84 [.t 1, .t 3], jm 6 4])
 .ret))
abbrev rs77 : List RC := [(.v 6)]
theorem fok77 (p : Bool) : FnOk Try.prog 77 ⟨ic77, vs77, 14, rs77, p⟩ := .mk2 Try.func77 (by kernel_rfl) (by kernel_rfl) (by kernel_rfl) (by kernel_rfl) (by kernel_rfl)

abbrev vs78 : List Nat := [0, 1, 4]
def ic78 : IC := (.seq (.region [jv 0, je 0, jm 2 1])
 (.region [jv 0, jv 2, jv 2, jq (.conv .u64) [.t 2], jk 99 [.t 3], jv 1, jk 98 [.t 0, jn 0, .t 1, .t 4, .t 5]]))
abbrev rs78 : List RC := []
theorem fok78 (p : Bool) : FnOk Try.prog 78 ⟨ic78, vs78, 14, rs78, p⟩ := .mk2 Try.func78 (by kernel_rfl) (by kernel_rfl) (by kernel_rfl) (by kernel_rfl) (by kernel_rfl)

abbrev vs79 : List Nat := [0, 1, 2, 3, 4, 7, 8, 9, 11, 12, 37, 38, 39, 40, 51]
def ic79l0 : IC := (.seq (.region [jw 13 (.bin .lss .int) [.v 12, .v 11]])
 (.seq (.cond 13 .skip
 (.exit 0))
 (.seq (.block 1 (.seq (.region [jq (.iaS 1) [.v 10, .v 12], jl 0, jm 8 1])
 (.seq (.dr [[], [0], [1], [], [], [], [2, 3, 4, 5], [6, 6, 0, 1, 2, 3, 4, 5, 6]] [jv 8, jq (.iaA 3 1) [.v 4, .t 0], jl 1, jL 3, jN 5 6, jN 5 7, ⟨none, none, .call, [(.t 2), (.t 3), (.t 4), (.t 5)]⟩, jm 9 6])
 (.seq (.seq (.region [jv 9, jw 14 (.bin .eql .int) [.t 0, jn 0]])
 (.cond 14 (.exit 1)
 .skip))
 (.seq (.region [jv 9, jm 5 0])
 .ret)))))
 (.region [jq (.bin .add .int) [.v 12, jn 1], jm 12 0]))))
def ic79 : IC := (.seq (.region [jz 5 0])
 (.scope (.seq (.dr [[], [0], [1], [2], [3], [], [4, 5], [6], [], [8], [9], [10], [11], [], [12, 13], [14], [], [], [16, 7, 0, 1, 2, 3, 4, 5, 6, 7, 16, 17], [17, 15, 18, 0, 1, 2, 3, 4, 5, 6, 7, 8, 9, 10, 11, 12, 13, 14, 15, 16, 17, 18]] [jL 2, jc 0, jG 0 1, jG 1 2, jl 3, jv 0, ja 5 4 5, jq (.loadN 5) [.t 6], jL 2, jc 8, jG 0 9, jG 1 10, jl 11, jv 1, ja 5 12 13, jq (.loadN 5) [.t 14], jw 6 (.alloc [(.cv (.str (bts []))), (.cv (.int .i64 0)), (.cv (.int .i64 0)), (.cv (.int .i64 0)), (.cv .nils)]) [], jw 7 (.alloc [(.cv (.str (bts []))), (.cv (.int .i64 0)), (.cv (.int .i64 0)), (.cv (.int .i64 0)), (.cv .nils)]) [], jq (.store 5) [.v 6, .t 7], jq (.store 5) [.v 7, .t 15]])
 (.seq (.label 0)
 (.seq (.seq (.dr [[], [0], [1], [2], [3], [], [4, 5], [6], [7], [8], []] [jL 2, jc 0, jG 0 1, jG 0 2, jl 3, jL 3, ja 3 4 5, jG 2 6, jw 10 .load1 [.t 7], jw 11 (.len false) [.v 10], jz 12 0])
 (.block 0 (.loop ic79l0)))
 (.seq (.region [jF 0 6, jl 0, jF 0 7, jl 2, jk 80 [.t 1, .t 3], jm 5 4])
 .ret))))))
abbrev rs79 : List RC := [(.v 5)]
theorem fok79 (p : Bool) : FnOk Try.prog 79 ⟨ic79, vs79, 59, rs79, p⟩ := .mk2 Try.func79 (by kernel_rfl) (by kernel_rfl) (by kernel_rfl) (by kernel_rfl) (by kernel_rfl)

abbrev vs80 : List Nat := [0, 1, 4, 5, 6, 11, 12, 13, 16, 19]
def ic80 : IC := (.seq (.region [jz 2 0])
 (.seq (.region [jv 0, jk 100 [.t 0], jm 3 1])
 (.seq (.region [jv 1, jk 100 [.t 0], jm 4 1])
 (.seq (.seq (.region [jw 5 .mv [.v 3]])
 (.cond 5 (.seq (.seq (.region [jw 6 .mv [.v 4]])
 (.cond 6 (.seq (.region [jz 2 0])
 .ret)
 .skip))
 (.seq (.region [jz 2 (-1)])
 .ret))
 .skip))
 (.seq (.seq (.region [jw 7 .mv [.v 4]])
 (.cond 7 (.seq (.region [jz 2 1])
 .ret)
 .skip))
 (.seq (.seq (.region [jv 0, jv 1, jw 8 (.bin .lss .str) [.t 0, .t 1]])
 (.cond 8 (.seq (.region [jz 2 (-1)])
 .ret)
 .skip))
 (.seq (.seq (.region [jv 0, jv 1, jw 9 (.bin .gtr .str) [.t 0, .t 1]])
 (.cond 9 (.seq (.region [jz 2 1])
 .ret)
 .skip))
 (.seq (.region [jz 2 0])
 .ret))))))))
abbrev rs80 : List RC := [(.v 2)]
theorem fok80 (p : Bool) : FnOk Try.prog 80 ⟨ic80, vs80, 20, rs80, p⟩ := .mk2 Try.func80 (by kernel_rfl) (by kernel_rfl) (by kernel_rfl) (by kernel_rfl) (by kernel_rfl)

abbrev vs81 : List Nat := [0, 1, 2, 3, 4, 5, 7, 8, 26, 76]
def ic81 : IC := (.seq (.region [jL 1, jv 0, ja 1 0 1, jq (.store 1) [.t 2, jn (-1)]])
 (.seq (.seq (.dr [[], [], [0, 1], [2], [], [4], [5], [6], [7], [], [8, 9], [10], [11], [12], [3, 13]] [jL 2, jv 0, ja 1 0 1, jl 2, jL 3, jc 4, jG 0 5, jG 1 6, jl 7, jv 0, ja 5 8 9, jG 4 10, jl 11, je 12, jw 8 (.bin .eql .int) [.t 3, .t 13]])
 (.cond 8 .ret
 .skip))
 (.seq (.dr [[], [0], [1], [2], [3], [], [4, 5], [6], [7], [], [], [9, 10], [11], [8, 12], [13], [], [15, 14, 0, 1, 2, 3, 4, 5, 6, 7, 8, 9, 10, 11, 12, 13, 14, 15]] [jL 3, jc 0, jG 0 1, jG 1 2, jl 3, jv 0, ja 5 4 5, jG 4 6, jl 7, jL 2, jv 0, ja 1 9 10, jl 11, ja 1 8 12, jl 13, jw 6 (.alloc [(.cv (.int .i64 0))]) [], jq (.store 1) [.v 6, .t 14]])
 (.seq (.region [jL 2, jv 0, ja 1 0 1, jl 2, jq (.bin .add .int) [.t 3, jn 1], ja 1 0 1, jq (.store 1) [.t 5, .t 4]])
 (.seq (.region [jL 1, jv 0, jL 6, ja 1 0 1, jq (.store 1) [.t 3, .t 2]])
 (.seq (.dr [[], [], [], [], [2, 3], [4], [], [6], [5, 7], [0, 1, 0, 1, 2, 3, 4, 5, 6, 7, 8], [9, 8, 8, 0, 1, 2, 3, 4, 5, 6, 7, 8]] [jL 4, jL 6, jL 4, jL 6, ja 1 2 3, jl 4, jv 0, jq (.bslice 1 1 [(.cv (.int .i64 0))] [(0, 1)]) [.t 6], jq (.append 1 8) [.t 5, .t 7], ja 1 0 1, jq (.store 1) [.t 9, .t 8]])
 (.seq (.seq (.dr [[], [], [0, 1], [2], [3], [], [5], [6], [7], [8], [], [9, 10], [11], [12], [4, 13]] [jL 4, jL 6, ja 1 0 1, jl 2, je 3, jL 3, jc 5, jG 0 6, jG 0 7, jl 8, jL 6, ja 3 9 10, jG 1 11, jl 12, jw 9 (.bin .leq .int) [.t 4, .t 13]])
 (.cond 9 .ret
 .skip))
 (.seq (.region [jL 4, jL 6, ja 1 0 1, jl 2, jq (.mkfn (.func 83)) [.v 3, .v 6], jk 82 [.t 3, .t 4], jw 7 (.alloc [(.cv (.int .i64 0))]) [], jq (.store 1) [.v 7, .t 5]])
 (.seq (.dr [[], [], [], [], [2, 3], [4], [], [5, 6], [0, 1, 0, 1, 2, 3, 4, 5, 6, 7], [8, 7, 7, 0, 1, 2, 3, 4, 5, 6, 7]] [jL 4, jL 6, jL 4, jL 6, ja 1 2 3, jl 4, jq (.mkfn (.func 86)) [.v 7], jk 85 [.t 5, .t 6], ja 1 0 1, jq (.store 1) [.t 8, .t 7]])
 (.region [jL 5, jL 7, ⟨none, none, .call, [(.t 0), (.t 1)]⟩]))))))))))
abbrev rs81 : List RC := []
theorem fok81 (p : Bool) : FnOk Try.prog 81 ⟨ic81, vs81, 95, rs81, p⟩ := .mk2 Try.func81 (by kernel_rfl) (by kernel_rfl) (by kernel_rfl) (by kernel_rfl) (by kernel_rfl)

abbrev vs82 : List Nat := [0, 1, 4, 5, 6, 9, 17, 27]
def ic82l0 : IC := (.seq (.seq (.region [jv 4, jv 0, je 1, jw 6 (.bin .lss .int) [.t 0, .t 2]])
 (.cond 6 .skip
 (.exit 0)))
 (.seq (.block 1 (.seq (.region [jv 1, jv 0, jv 4, ja 1 1 2, jl 3, jv 3, ⟨none, none, .call, [(.t 0), (.t 4), (.t 5)]⟩, jw 7 (.bin .gtr .int) [.t 6, jn 0]])
 (.cond 7 (.region [jv 0, jv 4, ja 1 0 1, jl 2, jm 3 3])
 .skip)))
 (.region [jv 4, jq (.bin .add .int) [.t 0, jn 1], jm 4 1])))
def ic82 : IC := (.seq (.region [jz 2 0])
 (.seq (.seq (.region [jv 0, je 0, jw 5 (.bin .lss .int) [.t 1, jn 1]])
 (.cond 5 (.region [jq .stuck [], jq .stuck []])
 .skip))
 (.seq (.region [jv 0, jq (.iaS 1) [.t 0, jn 0], jl 1, jm 3 2])
 (.seq (.seq (.region [jz 4 1])
 (.block 0 (.loop ic82l0)))
 (.seq (.region [jv 3, jm 2 0])
 .ret)))))
abbrev rs82 : List RC := [(.v 2)]
theorem fok82 (p : Bool) : FnOk Try.prog 82 ⟨ic82, vs82, 33, rs82, p⟩ := .mk2 Try.func82 (by kernel_rfl) (by kernel_rfl) (by kernel_rfl) (by kernel_rfl) (by kernel_rfl)

abbrev vs83 : List Nat := [0, 1, 2, 3, 6]
def ic83 : IC := (.seq (.region [jz 4 0])
 (.seq (.dr [[], [0], [1], [2], [], [], [4, 5], [3, 6], [], [8], [9], [10], [], [], [12, 13], [11, 14], [7, 15], [16, 16, 0, 1, 2, 3, 4, 5, 6, 7, 8, 9, 10, 11, 12, 13, 14, 15, 16]] [jL 2, jc 0, jG 2 1, jl 2, jL 3, jv 0, jq (.build [(.cv (.int .i64 0)), (.cv (.int .i64 0))] [(0, 1), (1, 1)]) [.t 4, .t 5], jq (.lookup (true, [(.int .i64), (.int .i64)]) (.cv (.int .i64 0)) false) [.t 3, .t 6], jL 2, jc 8, jG 2 9, jl 10, jL 3, jv 1, jq (.build [(.cv (.int .i64 0)), (.cv (.int .i64 0))] [(0, 1), (1, 1)]) [.t 12, .t 13], jq (.lookup (true, [(.int .i64), (.int .i64)]) (.cv (.int .i64 0)) false) [.t 11, .t 14], jk 84 [.t 7, .t 15], jm 4 16])
 .ret))
abbrev rs83 : List RC := [(.v 4)]
theorem fok83 (p : Bool) : FnOk Try.prog 83 ⟨ic83, vs83, 24, rs83, p⟩ := .mk2 Try.func83 (by kernel_rfl) (by kernel_rfl) (by kernel_rfl) (by kernel_rfl) (by kernel_rfl)

abbrev vs84 : List Nat := [0, 1, 4, 5, 6, 11, 12, 13, 16, 19]
def ic84 : IC := (.seq (.region [jz 2 0])
 (.seq (.region [jv 0, jk 101 [.t 0], jm 3 1])
 (.seq (.region [jv 1, jk 101 [.t 0], jm 4 1])
 (.seq (.seq (.region [jw 5 .mv [.v 3]])
 (.cond 5 (.seq (.seq (.region [jw 6 .mv [.v 4]])
 (.cond 6 (.seq (.region [jz 2 0])
 .ret)
 .skip))
 (.seq (.region [jz 2 (-1)])
 .ret))
 .skip))
 (.seq (.seq (.region [jw 7 .mv [.v 4]])
 (.cond 7 (.seq (.region [jz 2 1])
 .ret)
 .skip))
 (.seq (.seq (.region [jv 0, jv 1, jw 8 (.bin .lss .int) [.t 0, .t 1]])
 (.cond 8 (.seq (.region [jz 2 (-1)])
 .ret)
 .skip))
 (.seq (.seq (.region [jv 0, jv 1, jw 9 (.bin .gtr .int) [.t 0, .t 1]])
 (.cond 9 (.seq (.region [jz 2 1])
 .ret)
 .skip))
 (.seq (.region [jz 2 0])
 .ret))))))))
abbrev rs84 : List RC := [(.v 2)]
theorem fok84 (p : Bool) : FnOk Try.prog 84 ⟨ic84, vs84, 20, rs84, p⟩ := .mk2 Try.func84 (by kernel_rfl) (by kernel_rfl) (by kernel_rfl) (by kernel_rfl) (by kernel_rfl)

abbrev vs85 : List Nat := [0, 1, 4, 5, 6, 7, 12, 19, 29]
def ic85l0 : IC := (.seq (.seq (.region [jv 4, jv 0, je 1, jw 7 (.bin .lss .int) [.t 0, .t 2]])
 (.cond 7 .skip
 (.exit 0)))
 (.seq (.block 1 (.seq (.region [jv 0, jv 4, ja 1 0 1, jl 2, jm 5 3])
 (.seq (.region [jv 1, jv 5, ⟨none, none, .call, [(.t 0), (.t 1)]⟩, jw 8 .not [.t 2]])
 (.cond 8 (.seq (.region [jv 0, jv 3, jv 5, ja 1 0 1, jq (.store 1) [.t 3, .t 2]])
 (.region [jv 3, jq (.bin .add .int) [.t 0, jn 1], jm 3 1]))
 .skip))))
 (.region [jv 4, jq (.bin .add .int) [.t 0, jn 1], jm 4 1])))
def ic85 : IC := (.seq (.region [jw 2 .mv [jS]])
 (.seq (.region [jv 0, jv 1, jk 93 [.t 0, .t 1], jm 3 2])
 (.seq (.seq (.region [jv 3, jw 6 (.bin .eql .int) [.t 0, jn (-1)]])
 (.cond 6 (.seq (.region [jv 0, jm 2 0])
 .ret)
 .skip))
 (.seq (.seq (.region [jv 3, jq (.bin .add .int) [.t 0, jn 1], jm 4 1])
 (.block 0 (.loop ic85l0)))
 (.seq (.region [jv 0, jv 3, jq (.slS 1 true false) [.t 0, .t 1], jq (.clear [(.cv (.int .i64 0))]) [.t 2]])
 (.seq (.region [jv 0, jv 3, jq (.slS 1 false true) [.t 0, .t 1], jm 2 2])
 .ret))))))
abbrev rs85 : List RC := [(.v 2)]
theorem fok85 (p : Bool) : FnOk Try.prog 85 ⟨ic85, vs85, 42, rs85, p⟩ := .mk2 Try.func85 (by kernel_rfl) (by kernel_rfl) (by kernel_rfl) (by kernel_rfl) (by kernel_rfl)

abbrev vs86 : List Nat := [0, 1, 3]
def ic86 : IC := (.seq (.region [jw 2 .mv [jB false]])
 (.seq (.region [jv 0, jL 1, jq (.bin .eql .int) [.t 0, .t 1], jm 2 2])
 .ret))
abbrev rs86 : List RC := [(.v 2)]
theorem fok86 (p : Bool) : FnOk Try.prog 86 ⟨ic86, vs86, 7, rs86, p⟩ := .mk2 Try.func86 (by kernel_rfl) (by kernel_rfl) (by kernel_rfl) (by kernel_rfl) (by kernel_rfl)

abbrev vs88 : List Nat := [0, 1, 4, 5, 7, 8, 9, 16]
def ic88l0 : IC := (.seq (.region [jw 6 (.bin .lss .int) [.v 5, .v 4]])
 (.seq (.cond 6 .skip
 (.exit 0))
 (.seq (.block 1 (.seq (.region [jv 5, jm 3 0])
 (.seq (.region [jv 1, jv 0, jv 3, ja 1 1 2, jl 3, jw 7 (.bin .eql .int) [.t 0, .t 4]])
 (.cond 7 (.seq (.region [jv 3, jm 2 0])
 .ret)
 .skip))))
 (.region [jq (.bin .add .int) [.v 5, jn 1], jm 5 0]))))
def ic88 : IC := (.seq (.region [jz 2 0])
 (.seq (.seq (.region [jv 0, jw 4 (.len false) [.t 0], jz 5 0])
 (.block 0 (.loop ic88l0)))
 (.seq (.region [jz 2 (-1)])
 .ret)))
abbrev rs88 : List RC := [(.v 2)]
theorem fok88 (p : Bool) : FnOk Try.prog 88 ⟨ic88, vs88, 19, rs88, p⟩ := .mk2 Try.func88 (by kernel_rfl) (by kernel_rfl) (by kernel_rfl) (by kernel_rfl) (by kernel_rfl)

abbrev vs89 : List Nat := [0, 1, 2, 3, 6, 15, 16, 17, 18, 29]
def ic89l0 : IC := (.seq (.region [jw 8 (.bin .lss .int) [.v 7, .v 6]])
 (.seq (.cond 8 .skip
 (.exit 0))
 (.seq (.block 1 (.seq (.region [jq (.iaS 1) [.v 5, .v 7], jl 0, jm 4 1])
 (.seq (.region [jv 4, jL 3, jq (.bin .eql .int) [.t 0, .t 1], jt 2, jh 3 false 0, jh 3 false 4, ⟨none, (.some (3, false)), .call, [(.t 4), (.t 5)]⟩, jg 3 false .not [.t 6], jw 9 .pick [.t 3, jB true, .t 7]])
 (.cond 9 .ret
 .skip))))
 (.region [jq (.bin .add .int) [.v 7, jn 1], jm 7 0]))))
def ic89 : IC := (.seq (.dr [[], [0], [1], [2], [3], [], [4, 5], [6], [7], [8], []] [jL 1, jc 0, jG 0 1, jG 1 2, jl 3, jL 2, ja 5 4 5, jG 4 6, jw 5 .load1 [.t 7], jw 6 (.len false) [.v 5], jz 7 0])
 (.block 0 (.loop ic89l0)))
abbrev rs89 : List RC := []
theorem fok89 (p : Bool) : FnOk Try.prog 89 ⟨ic89, vs89, 31, rs89, p⟩ := .mk2 Try.func89 (by kernel_rfl) (by kernel_rfl) (by kernel_rfl) (by kernel_rfl) (by kernel_rfl)

abbrev vs93 : List Nat := [0, 1, 4, 5, 7, 8, 9, 16]
def ic93l0 : IC := (.seq (.region [jw 6 (.bin .lss .int) [.v 5, .v 4]])
 (.seq (.cond 6 .skip
 (.exit 0))
 (.seq (.block 1 (.seq (.region [jv 5, jm 3 0])
 (.seq (.region [jv 1, jv 0, jv 3, ja 1 1 2, jl 3, ⟨(.some 7), none, .call, [(.t 0), (.t 4)]⟩])
 (.cond 7 (.seq (.region [jv 3, jm 2 0])
 .ret)
 .skip))))
 (.region [jq (.bin .add .int) [.v 5, jn 1], jm 5 0]))))
def ic93 : IC := (.seq (.region [jz 2 0])
 (.seq (.seq (.region [jv 0, jw 4 (.len false) [.t 0], jz 5 0])
 (.block 0 (.loop ic93l0)))
 (.seq (.region [jz 2 (-1)])
 .ret)))
abbrev rs93 : List RC := [(.v 2)]
theorem fok93 (p : Bool) : FnOk Try.prog 93 ⟨ic93, vs93, 19, rs93, p⟩ := .mk2 Try.func93 (by kernel_rfl) (by kernel_rfl) (by kernel_rfl) (by kernel_rfl) (by kernel_rfl)

abbrev vs94 : List Nat := [0, 1, 2, 3, 4, 6]
def ic94 : IC := (.seq (.region [jb 3 0, jb 4 1, jw 5 .mv [jB false]])
 (.seq (.region [jv 2, jq (.mkfn (.func 103)) [.v 3, .v 4], jk 66 [.t 0, .t 1], jm 5 2])
 .ret))
abbrev rs94 : List RC := [(.v 5)]
theorem fok94 (p : Bool) : FnOk Try.prog 94 ⟨ic94, vs94, 10, rs94, p⟩ := .mk2 Try.func94 (by kernel_rfl) (by kernel_rfl) (by kernel_rfl) (by kernel_rfl) (by kernel_rfl)

abbrev vs95 : List Nat := [0, 1, 4, 5, 7, 8, 9, 16]
def ic95l0 : IC := (.seq (.region [jw 6 (.bin .lss .int) [.v 5, .v 4]])
 (.seq (.cond 6 .skip
 (.exit 0))
 (.seq (.block 1 (.seq (.region [jv 5, jm 3 0])
 (.seq (.region [jv 1, jv 0, jv 3, ja 3 1 2, jq (.loadN 3) [.t 3], ⟨(.some 7), none, .call, [(.t 0), (.t 4)]⟩])
 (.cond 7 (.seq (.region [jv 3, jm 2 0])
 .ret)
 .skip))))
 (.region [jq (.bin .add .int) [.v 5, jn 1], jm 5 0]))))
def ic95 : IC := (.seq (.region [jz 2 0])
 (.seq (.seq (.region [jv 0, jw 4 (.len false) [.t 0], jz 5 0])
 (.block 0 (.loop ic95l0)))
 (.seq (.region [jz 2 (-1)])
 .ret)))
abbrev rs95 : List RC := [(.v 2)]
theorem fok95 (p : Bool) : FnOk Try.prog 95 ⟨ic95, vs95, 19, rs95, p⟩ := .mk2 Try.func95 (by kernel_rfl) (by kernel_rfl) (by kernel_rfl) (by kernel_rfl) (by kernel_rfl)

abbrev vs96 : List Nat := [0, 1, 4, 5, 7, 8, 9, 16]
def ic96l0 : IC := (.seq (.region [jw 6 (.bin .lss .int) [.v 5, .v 4]])
 (.seq (.cond 6 .skip
 (.exit 0))
 (.seq (.block 1 (.seq (.region [jv 5, jm 3 0])
 (.seq (.region [jv 1, jv 0, jv 3, ja 5 1 2, jq (.loadN 5) [.t 3], ⟨(.some 7), none, .call, [(.t 0), (.t 4)]⟩])
 (.cond 7 (.seq (.region [jv 3, jm 2 0])
 .ret)
 .skip))))
 (.region [jq (.bin .add .int) [.v 5, jn 1], jm 5 0]))))
def ic96 : IC := (.seq (.region [jz 2 0])
 (.seq (.seq (.region [jv 0, jw 4 (.len false) [.t 0], jz 5 0])
 (.block 0 (.loop ic96l0)))
 (.seq (.region [jz 2 (-1)])
 .ret)))
abbrev rs96 : List RC := [(.v 2)]
theorem fok96 (p : Bool) : FnOk Try.prog 96 ⟨ic96, vs96, 19, rs96, p⟩ := .mk2 Try.func96 (by kernel_rfl) (by kernel_rfl) (by kernel_rfl) (by kernel_rfl) (by kernel_rfl)

abbrev vs98 : List Nat := [0, 1, 2, 3, 4, 10, 11, 12, 13, 14, 15, 16, 17, 18, 19, 20, 25, 32, 39, 56, 75, 80, 97, 125]
def ic98l0 : IC := (.block 1 (.seq (.region [jv 2, jv 1, jq (.bin .sub .int) [.t 0, .t 1], jm 7 2])
 (.seq (.seq (.region [jv 7, jw 16 (.bin .leq .int) [.t 0, jn 12]])
 (.cond 16 (.seq (.region [jv 0, jv 1, jv 2, jv 4, jk 104 [.t 0, .t 1, .t 2, .t 3]])
 .ret)
 .skip))
 (.seq (.seq (.region [jv 3, jw 17 (.bin .eql .int) [.t 0, jn 0]])
 (.cond 17 (.seq (.region [jv 0, jv 1, jv 2, jv 4, jk 105 [.t 0, .t 1, .t 2, .t 3]])
 .ret)
 .skip))
 (.seq (.seq (.region [jv 5, jw 18 .not [.t 0]])
 (.cond 18 (.seq (.region [jv 0, jv 1, jv 2, jv 4, jk 106 [.t 0, .t 1, .t 2, .t 3]])
 (.region [jv 3, jq (.bin .sub .int) [.t 0, jn 1], jm 3 1]))
 .skip))
 (.seq (.region [jv 0, jv 1, jv 2, jv 4, jk 107 [.t 0, .t 1, .t 2, .t 3], jt 4, jx 0 5, jx 1 5, jm 8 6, jm 9 7])
 (.seq (.seq (.region [jv 9, jw 19 (.bin .eql .int) [.t 0, jn 2]])
 (.cond 19 (.seq (.region [jv 0, jv 1, jv 2, jv 4, jk 108 [.t 0, .t 1, .t 2, .t 3]])
 (.seq (.region [jv 2, jq (.bin .sub .int) [.t 0, jn 1], jv 8, jv 1, jq (.bin .sub .int) [.t 2, .t 3], jq (.bin .sub .int) [.t 1, .t 4], jm 8 5])
 (.region [jz 9 1])))
 .skip))
 (.seq (.seq (.region [jv 5, jt 0, jh 1 true 6, jq .pick [.t 1, .t 2, jB false], jt 3, jh 4 true 9, jg 4 true (.bin .eql .int) [.t 5, jn 1], jw 20 .pick [.t 4, .t 6, jB false]])
 (.cond 20 (.seq (.region [jv 0, jv 1, jv 2, jv 4, jd 21 109 [.t 0, .t 1, .t 2, .t 3]])
 (.cond 21 .ret
 .skip))
 .skip))
 (.seq (.seq (.dr [[], [0], [1], [2], [2], [2], [5, 2], [4, 6, 2], [7, 2], [2], [2], [9, 10, 2], [11, 2], [3, 8, 12, 2, 2], [13, 2], [14, 2], [2, 15]] [jv 1, jq (.bin .gtr .int) [.t 0, jn 0], jt 1, jh 2 true 4, jh 2 true 0, jh 2 true 1, jg 2 true (.bin .sub .int) [.t 5, jn 1], jg 2 true (.iaS 1) [.t 4, .t 6], ji 2 true 7, jh 2 true 0, jh 2 true 8, jg 2 true (.iaS 1) [.t 9, .t 10], ji 2 true 11, ⟨none, (.some (2, true)), .call, [(.t 3), (.t 8), (.t 12)]⟩, jg 2 true (.bin .lss .int) [.t 13, jn 0], jg 2 true .not [.t 14], jw 22 .pick [.t 2, .t 15, jB false]])
 (.cond 22 (.seq (.region [jv 0, jv 1, jv 2, jv 8, jv 4, jk 110 [.t 0, .t 1, .t 2, .t 3, .t 4], jm 10 5])
 (.seq (.region [jv 10, jm 1 0])
 (.exit 1)))
 .skip))
 (.seq (.region [jv 0, jv 1, jv 2, jv 8, jv 4, jk 111 [.t 0, .t 1, .t 2, .t 3, .t 4], jt 5, jx 0 6, jx 1 6, jm 11 7, jm 12 8])
 (.seq (.region [jv 12, jm 6 0])
 (.seq (.region [jv 11, jv 1, jq (.bin .sub .int) [.t 0, .t 1], jv 2, jv 11, jq (.bin .sub .int) [.t 3, .t 4], jm 13 2, jm 14 5])
 (.seq (.region [jv 7, jq (.bin .quo .int) [.t 0, jn 8], jm 15 1])
 (.seq (.region [jv 13, jv 14, jw 23 (.bin .lss .int) [.t 0, .t 1]])
 (.cond 23 (.seq (.region [jv 13, jv 15, jq (.bin .geq .int) [.t 0, .t 1], jm 5 2])
 (.seq (.region [jv 0, jv 1, jv 11, jv 3, jv 4, jk 98 [.t 0, .t 1, .t 2, .t 3, .t 4]])
 (.region [jv 11, jq (.bin .add .int) [.t 0, jn 1], jm 1 1])))
 (.seq (.region [jv 14, jv 15, jq (.bin .geq .int) [.t 0, .t 1], jm 5 2])
 (.seq (.region [jv 0, jv 11, jq (.bin .add .int) [.t 1, jn 1], jv 2, jv 3, jv 4, jk 98 [.t 0, .t 2, .t 3, .t 4, .t 5]])
 (.region [jv 11, jm 2 0]))))))))))))))))))
def ic98 : IC := (.seq (.region [jw 5 .mv [jB true]])
 (.seq (.region [jw 6 .mv [jB true]])
 (.block 0 (.loop ic98l0))))
abbrev rs98 : List RC := []
theorem fok98 (p : Bool) : FnOk Try.prog 98 ⟨ic98, vs98, 148, rs98, p⟩ := .mk2 Try.func98 (by kernel_rfl) (by kernel_rfl) (by kernel_rfl) (by kernel_rfl) (by kernel_rfl)

abbrev vs99 : List Nat := [0, 2]
def ic99 : IC := (.seq (.region [jz 1 0])
 (.seq .skip
 (.seq (.region [jv 0, jk 113 [.t 0], jm 1 1])
 .ret)))
abbrev rs99 : List RC := [(.v 1)]
theorem fok99 (p : Bool) : FnOk Try.prog 99 ⟨ic99, vs99, 8, rs99, p⟩ := .mk2 Try.func99 (by kernel_rfl) (by kernel_rfl) (by kernel_rfl) (by kernel_rfl) (by kernel_rfl)

abbrev vs100 : List Nat := [0, 2]
def ic100 : IC := (.seq (.region [jw 1 .mv [jB false]])
 (.seq (.region [jv 0, jv 0, jq (.bin .neq .str) [.t 0, .t 1], jm 1 2])
 .ret))
abbrev rs100 : List RC := [(.v 1)]
theorem fok100 (p : Bool) : FnOk Try.prog 100 ⟨ic100, vs100, 6, rs100, p⟩ := .mk2 Try.func100 (by kernel_rfl) (by kernel_rfl) (by kernel_rfl) (by kernel_rfl) (by kernel_rfl)

abbrev vs101 : List Nat := [0, 2]
def ic101 : IC := (.seq (.region [jw 1 .mv [jB false]])
 (.seq (.region [jv 0, jv 0, jq (.bin .neq .int) [.t 0, .t 1], jm 1 2])
 .ret))
abbrev rs101 : List RC := [(.v 1)]
theorem fok101 (p : Bool) : FnOk Try.prog 101 ⟨ic101, vs101, 6, rs101, p⟩ := .mk2 Try.func101 (by kernel_rfl) (by kernel_rfl) (by kernel_rfl) (by kernel_rfl) (by kernel_rfl)

abbrev vs103 : List Nat := [0, 1, 2, 4]
def ic103 : IC := (.seq (.region [jw 3 .mv [jB false]])
 (.seq (.region [jv 0, jL 1, jq (.bin .lss .int) [.t 0, .t 1], jt 2, jh 3 false 0, jg 3 false .load1 [.v 2], jg 3 false (.bin .gtr .int) [.t 4, .t 5], jq .pick [.t 3, jB true, .t 6], jm 3 7])
 .ret))
abbrev rs103 : List RC := [(.v 3)]
theorem fok103 (p : Bool) : FnOk Try.prog 103 ⟨ic103, vs103, 13, rs103, p⟩ := .mk2 Try.func103 (by kernel_rfl) (by kernel_rfl) (by kernel_rfl) (by kernel_rfl) (by kernel_rfl)

abbrev vs104 : List Nat := [0, 1, 2, 3, 8, 9, 14, 34]
def ic104l0 : IC := (.seq (.seq (.dr [[], [], [0, 1], [2], [3], [3], [3], [5, 6, 3], [7, 3], [3], [3], [10, 3], [9, 11, 3], [12, 3], [4, 8, 13, 3, 3], [14, 3], [3, 15]] [jv 5, jv 1, jq (.bin .gtr .int) [.t 0, .t 1], jt 2, jh 3 true 3, jh 3 true 0, jh 3 true 5, jg 3 true (.iaS 1) [.t 5, .t 6], ji 3 true 7, jh 3 true 0, jh 3 true 5, jg 3 true (.bin .sub .int) [.t 10, jn 1], jg 3 true (.iaS 1) [.t 9, .t 11], ji 3 true 12, ⟨none, (.some (3, true)), .call, [(.t 4), (.t 8), (.t 13)]⟩, jg 3 true (.bin .lss .int) [.t 14, jn 0], jw 7 .pick [.t 3, .t 15, jB false]])
 (.cond 7 .skip
 (.exit 2)))
 (.seq (.block 3 (.dr [[], [], [], [], [3], [], [], [6], [5, 7], [8], [], [], [10, 11], [12], [0, 1, 0, 1, 5, 6, 7, 8, 9, 13], [14, 9, 0, 1, 5, 6, 7, 8, 9, 13], [2, 4, 0, 1, 2, 3, 4, 5, 6, 7, 8, 9, 10, 11, 12, 13, 14, 15], [16, 13, 15, 0, 1, 2, 3, 4, 5, 6, 7, 8, 9, 10, 11, 12, 13, 14, 15]] [jv 0, jv 5, jv 0, jv 5, jq (.bin .sub .int) [.t 3, jn 1], jv 0, jv 5, jq (.bin .sub .int) [.t 6, jn 1], ja 1 5 7, jl 8, jv 0, jv 5, ja 1 10 11, jl 12, ja 1 0 1, jq (.store 1) [.t 14, .t 9], ja 1 2 4, jq (.store 1) [.t 16, .t 13]]))
 (.region [jv 5, jq (.bin .sub .int) [.t 0, jn 1], jm 5 1])))
def ic104l1 : IC := (.seq (.seq (.region [jv 4, jv 2, jw 6 (.bin .lss .int) [.t 0, .t 1]])
 (.cond 6 .skip
 (.exit 0)))
 (.seq (.block 1 (.seq (.region [jv 4, jm 5 0])
 (.block 2 (.loop ic104l0))))
 (.region [jv 4, jq (.bin .add .int) [.t 0, jn 1], jm 4 1])))
def ic104 : IC := (.seq (.region [jv 1, jq (.bin .add .int) [.t 0, jn 1], jm 4 1])
 (.block 0 (.loop ic104l1)))
abbrev rs104 : List RC := []
theorem fok104 (p : Bool) : FnOk Try.prog 104 ⟨ic104, vs104, 53, rs104, p⟩ := .mk2 Try.func104 (by kernel_rfl) (by kernel_rfl) (by kernel_rfl) (by kernel_rfl) (by kernel_rfl)

abbrev vs113 : List Nat := [0, 2, 4, 8, 14]
def ic113 : IC := (.seq (.region [jz 1 0])
 (.seq (.seq (.region [jv 0, jw 2 (.bin .geq .int) [.t 0, .c (.cv (.int .u64 4294967296))]])
 (.cond 2 (.seq (.region [jv 0, jq (.bin .shr .int) [.t 0, .c (.cv (.int .u64 32))], jm 0 1])
 (.region [jz 1 32]))
 .skip))
 (.seq (.seq (.region [jv 0, jw 3 (.bin .geq .int) [.t 0, .c (.cv (.int .u64 65536))]])
 (.cond 3 (.seq (.region [jv 0, jq (.bin .shr .int) [.t 0, .c (.cv (.int .u64 16))], jm 0 1])
 (.region [jv 1, jq (.bin .add .int) [.t 0, jn 16], jm 1 1]))
 .skip))
 (.seq (.seq (.region [jv 0, jw 4 (.bin .geq .int) [.t 0, .c (.cv (.int .u64 256))]])
 (.cond 4 (.seq (.region [jv 0, jq (.bin .shr .int) [.t 0, .c (.cv (.int .u64 8))], jm 0 1])
 (.region [jv 1, jq (.bin .add .int) [.t 0, jn 8], jm 1 1]))
 .skip))
 (.seq (.region [jv 1, jv 0, jq (.conv .u8) [.t 1], jq .ixStr [.c (.cv (.str (bts [0, 1, 2, 2, 3, 3, 3, 3, 4, 4, 4, 4, 4, 4, 4, 4, 5, 5, 5, 5, 5, 5, 5, 5, 5, 5, 5, 5, 5, 5, 5, 5, 6, 6, 6, 6, 6, 6, 6, 6, 6, 6, 6, 6, 6, 6, 6, 6, 6, 6, 6, 6, 6, 6, 6, 6, 6, 6, 6, 6, 6, 6, 6, 6, 7, 7, 7, 7, 7, 7, 7, 7, 7, 7, 7, 7, 7, 7, 7, 7, 7, 7, 7, 7, 7, 7, 7, 7, 7, 7, 7, 7, 7, 7, 7, 7, 7, 7, 7, 7, 7, 7, 7, 7, 7, 7, 7, 7, 7, 7, 7, 7, 7, 7, 7, 7, 7, 7, 7, 7, 7, 7, 7, 7, 7, 7, 7, 7, 8, 8, 8, 8, 8, 8, 8, 8, 8, 8, 8, 8, 8, 8, 8, 8, 8, 8, 8, 8, 8, 8, 8, 8, 8, 8, 8, 8, 8, 8, 8, 8, 8, 8, 8, 8, 8, 8, 8, 8, 8, 8, 8, 8, 8, 8, 8, 8, 8, 8, 8, 8, 8, 8, 8, 8, 8, 8, 8, 8, 8, 8, 8, 8, 8, 8, 8, 8, 8, 8, 8, 8, 8, 8, 8, 8, 8, 8, 8, 8, 8, 8, 8, 8, 8, 8, 8, 8, 8, 8, 8, 8, 8, 8, 8, 8, 8, 8, 8, 8, 8, 8, 8, 8, 8, 8, 8, 8, 8, 8, 8, 8, 8, 8, 8, 8, 8, 8, 8, 8, 8, 8, 8, 8, 8, 8, 8, 8]))), .t 2], jq (.conv .i64) [.t 3], jq (.bin .add .int) [.t 0, .t 4], jm 1 5])
 .ret)))))
abbrev rs113 : List RC := [(.v 1)]
theorem fok113 (p : Bool) : FnOk Try.prog 113 ⟨ic113, vs113, 25, rs113, p⟩ := .mk2 Try.func113 (by kernel_rfl) (by kernel_rfl) (by kernel_rfl) (by kernel_rfl) (by kernel_rfl)

end Go.Proofs.Ytjgolcbpgmlilaa.AM

namespace Go.Proofs.Ytjgolcbpgmlilaa.AM
open Go
set_option linter.unusedVariables false
set_option linter.unusedSimpArgs false

theorem hmix : Try.prog.follows .mixedOrders = true := Checked.mixed Try.checked

theorem c45 (n lo hi : Int) : PC Try.prog 45 [.i n, .i lo, .i hi] (.b (inB n lo hi)) := by
  refine ⟨AC_FE (fok45 true) (Nat.le_of_ble_eq_true rfl) ?_, rfl⟩
  unfold inB
  by_cases h : n ≥ lo <;> simp only [ic45, h, evA, if_true, if_false, beq_false, simprocAttr] <;> exact frz
theorem c97 (n lo hi : Int) : PC Try.prog 97 [.i n, .i lo, .i hi] (.b (inB n lo hi)) := by
  refine ⟨AC_FE (fok97 true) (Nat.le_of_ble_eq_true rfl) ?_, rfl⟩
  unfold inB
  by_cases h : n ≥ lo <;> simp only [ic97, h, evA, if_true, if_false, beq_false, simprocAttr] <;> exact frz

theorem c103 (z lo hi : Int) (σ : List AObj) : AC Try.prog 103 [.i z, .cv (.rp [.int .i64 lo] 0), .cv (.rp [.int .i64 hi] 0)] σ fun r τ => r = .b (decide (z < lo) || decide (z > hi)) ∧ τ = σ := by
  refine AC_FE (fok103 true) (Nat.le_of_ble_eq_true rfl) ?_
  by_cases h : z < lo <;> simp only [ic103, h, evA, if_true, if_false, beq_false, simprocAttr]
theorem c67 (z lo hi : Int) (σ : List AObj) : AC Try.prog 67 [.i z, .cv (.rp [.int .i64 lo] 0), .cv (.rp [.int .i64 hi] 0)] σ fun r τ => r = .b (decide (z < lo) || decide (z > hi)) ∧ τ = σ := by
  refine AC_FE (fok67 true) (Nat.le_of_ble_eq_true rfl) ?_
  by_cases h : z < lo <;> simp only [ic67, h, evA, if_true, if_false, beq_false, simprocAttr]

/-- slices.IndexFunc -/
theorem c93 (zs : List Int) (fv : AV) (p : Nat → Bool) (hz : zs.length < 2 ^ 63) (σ : List AObj) (hf : ∀ i, i < zs.length → CallV Try.prog fv [.i (zs[i]?.getD 0)] σ fun r τ => r = .b (p i) ∧ τ = σ) :
    AC Try.prog 93 [ints zs, fv] σ fun r τ => r = .i (idxN p zs.length) ∧ τ = σ := by
  refine AC_FE (fok93 true) (Nat.le_of_ble_eq_true rfl) ?_
  simp only [ic93, evA, if_true, if_false, beq_false, simprocAttr]
  refine IL_for zs.length (fun i s => (∀ j, j < i → p j = false) ∧ ∃ v3 v6 v7, s = ⟨[ints zs, fv, .i 0, v3, .i zs.length, .i i, v6, v7], σ⟩) ?_ 0 (Nat.zero_le _) ⟨by omega, _, _, _, rfl⟩
  rintro i s hi ⟨hall, v3, v6, v7, rfl⟩
  by_cases h : i < zs.length
  · simp only [ic93l0, Int.ofNat_lt, h, evA, if_true, if_false, beq_false, simprocAttr]
    refine (hf i h).run ?_
    cases hp : p i
    · simp only [evA, if_true, if_false, beq_false, simprocAttr]
      refine kFor_go (by first | trivial | omega) ⟨fun j hj => ?_, _, _, _, by rw [wrap_in (by omega)]; rfl⟩
      rcases Nat.lt_succ_iff_lt_or_eq.1 hj with hj | rfl
      · exact hall j hj
      · exact hp
    · simp only [evA, if_true, if_false, beq_false, simprocAttr]
      exact (idxN_some h hall hp).symm
  · simp only [ic93l0, Int.ofNat_lt, h, evA, if_true, if_false, beq_false, simprocAttr]
    have : i = zs.length := by omega
    subst this
    exact (idxN_none hall).symm

theorem c66 (zs : List Int) (fv : AV) (p : Nat → Bool) (hz : zs.length < 2 ^ 63) (σ : List AObj) (hf : ∀ i, i < zs.length → CallV Try.prog fv [.i (zs[i]?.getD 0)] σ fun r τ => r = .b (p i) ∧ τ = σ) :
    AC Try.prog 66 [ints zs, fv] σ fun r τ => r = .b (anyN p zs.length) ∧ τ = σ := by
  refine AC_FE (fok66 true) (Nat.le_of_ble_eq_true rfl) ?_
  simp only [ic66, evA, if_true, if_false, beq_false, simprocAttr]
  refine (c93 zs fv p hz _ hf).run ?_
  simp only [evA, if_true, if_false, beq_false, simprocAttr, idxN_ge]

/-- slices.Index -/
theorem c88 (zs : List Int) (z : Int) (hz : zs.length < 2 ^ 63) : PC Try.prog 88 [ints zs, .i z] (.i (idxN (fun i => zs[i]?.getD 0 == z) zs.length)) := by
  refine ⟨AC_FE (fok88 true) (Nat.le_of_ble_eq_true rfl) ?_, rfl⟩
  simp only [ic88, evA, if_true, if_false, beq_false, simprocAttr]
  refine IL_for zs.length (fun i s => (∀ j, j < i → (zs[j]?.getD 0 == z) = false) ∧ ∃ v3 v6 v7, s = ⟨[ints zs, .i z, .i 0, v3, .i zs.length, .i i, v6, v7], []⟩) ?_ 0 (Nat.zero_le _) ⟨by omega, _, _, _, rfl⟩
  rintro i s hi ⟨hall, v3, v6, v7, rfl⟩
  by_cases h : i < zs.length
  · have hc : (z == zs[i]?.getD 0) = (zs[i]?.getD 0 == z) := by rw [Bool.eq_iff_iff]; simp; exact eq_comm
    simp only [ic88l0, Int.ofNat_lt, h, hc, evA, if_true, if_false, beq_false, simprocAttr]
    cases hp : (zs[i]?.getD 0 == z)
    · simp only [evA, if_true, if_false, beq_false, simprocAttr]
      refine kFor_go (by first | trivial | omega) ⟨fun j hj => ?_, _, _, _, by rw [wrap_in (by omega)]; rfl⟩
      rcases Nat.lt_succ_iff_lt_or_eq.1 hj with hj | rfl
      · exact hall j hj
      · exact hp
    · simp only [evA, if_true, if_false, beq_false, simprocAttr]
      rw [idxN_some (p := fun i => zs[i]?.getD 0 == z) h hall hp]
      exact frz
  · simp only [ic88l0, Int.ofNat_lt, h, evA, if_true, if_false, beq_false, simprocAttr]
    have : i = zs.length := by omega
    subst this
    rw [idxN_none (p := fun i => zs[i]?.getD 0 == z) hall]
    exact frz

theorem c53 (zs : List Int) (z : Int) (hz : zs.length < 2 ^ 63) : PC Try.prog 53 [ints zs, .i z] (.b (zs.any (· == z))) := by
  refine ⟨AC_FE (fok53 true) (Nat.le_of_ble_eq_true rfl) ?_, rfl⟩
  simp only [ic53, evA, if_true, if_false, beq_false, simprocAttr]
  refine (c88 zs z hz).call frz ?_
  simp only [evA, if_true, if_false, beq_false, simprocAttr, idxN_ge, anyN_list (· == z)]
  exact frz

theorem c94 (lo hi : Int) (zs : List Int) (hz : zs.length < 2 ^ 63) : PC Try.prog 94 [.i lo, .i hi, ints zs] (.b (outF lo hi zs)) := by
  have hp : PC Try.prog 66 [ints zs, .fn (.func 103) [.cv (.rp [.int .i64 lo] 0), .cv (.rp [.int .i64 hi] 0)]] (.b (outF lo hi zs)) := by
    refine ⟨(c66 zs (.fn (.func 103) [.cv (.rp [.int .i64 lo] 0), .cv (.rp [.int .i64 hi] 0)]) (fun i => decide (zs[i]?.getD 0 < lo) || decide (zs[i]?.getD 0 > hi)) hz [] (fun i hi' => c103 _ lo hi [])).run ?_, rfl⟩
    rw [anyN_list (fun z => decide (z < lo) || decide (z > hi))]; exact frz
  refine ⟨AC_FE (fok94 true) (Nat.le_of_ble_eq_true rfl) ?_, rfl⟩
  simp only [ic94, evA, if_true, if_false, beq_false, simprocAttr]
  refine hp.call frz ?_
  exact frz
theorem c39 (lo hi : Int) (zs : List Int) (hz : zs.length < 2 ^ 63) : PC Try.prog 39 [.i lo, .i hi, ints zs] (.b (outF lo hi zs)) := by
  have hp : PC Try.prog 66 [ints zs, .fn (.func 67) [.cv (.rp [.int .i64 lo] 0), .cv (.rp [.int .i64 hi] 0)]] (.b (outF lo hi zs)) := by
    refine ⟨(c66 zs (.fn (.func 67) [.cv (.rp [.int .i64 lo] 0), .cv (.rp [.int .i64 hi] 0)]) (fun i => decide (zs[i]?.getD 0 < lo) || decide (zs[i]?.getD 0 > hi)) hz [] (fun i hi' => c67 _ lo hi [])).run ?_, rfl⟩
    rw [anyN_list (fun z => decide (z < lo) || decide (z > hi))]; exact frz
  refine ⟨AC_FE (fok39 true) (Nat.le_of_ble_eq_true rfl) ?_, rfl⟩
  simp only [ic39, evA, if_true, if_false, beq_false, simprocAttr]
  refine hp.call frz ?_
  exact frz

end Go.Proofs.Ytjgolcbpgmlilaa.AM

namespace Go.Proofs.Ytjgolcbpgmlilaa.AM
open Go Go.Proofs.Ytjgolcbpgmlilaa.Qu
set_option linter.unusedVariables false
set_option linter.unusedSimpArgs false

/-- byte i of a string may be in a name there -/
def chk (s : ByteArray) (i : Nat) : Bool := match s.data[i]? with | none => false | some x => lowB x || (decide (i ≠ 0) && digB x)

theorem nameOk_iff (s : ByteArray) : nameOk s = true ↔ (1 ≤ s.size ∧ s.size ≤ 16) ∧ ∀ i, i < s.size → chk s i = true := by
  have hsz : s.size = s.data.toList.length := (Array.length_toList).symm
  have hg : ∀ i, s.data[i]? = s.data.toList[i]? := fun i => (Array.getElem?_toList).symm
  unfold nameOk chk
  simp only [hg, hsz]
  generalize s.data.toList = l
  simp only [Bool.and_eq_true, decide_eq_true_eq, List.all_eq_true, and_assoc]
  refine and_congr_right fun h1 => and_congr_right fun h2 => ?_
  constructor
  · rintro ⟨h3, h4⟩ i hi
    rw [List.getElem?_eq_getElem hi]
    simp only
    cases i with
    | zero =>
      cases l with
      | nil => simp at h1
      | cons x l => simpa using h3
    | succ i => have := h4 _ (List.getElem_mem hi); simpa using this
  · intro h
    refine ⟨?_, ?_⟩
    · cases l with
      | nil => simp at h1
      | cons x l => simpa using h 0 (by simp)
    · intro x hx
      obtain ⟨i, hi, rfl⟩ := List.mem_iff_getElem.1 hx
      have := h i hi
      rw [List.getElem?_eq_getElem hi] at this
      simp only [Bool.or_eq_true, Bool.and_eq_true] at this ⊢
      rcases this with h | h
      · exact .inl h
      · exact .inr h.2

theorem nameOk_not {s : ByteArray} (h : ¬ (1 ≤ s.size ∧ s.size ≤ 16)) : nameOk s = false := by
  cases hn : nameOk s with
  | false => rfl
  | true => exact absurd ((nameOk_iff s).1 hn).1 h
theorem nameOk_no {s : ByteArray} {i : Nat} (hi : i < s.size) (h : chk s i = false) : nameOk s = false := by
  cases hn : nameOk s with
  | false => rfl
  | true => rw [((nameOk_iff s).1 hn).2 i hi] at h; cases h

theorem ixStr_at {s : ByteArray} {i : Nat} (h : i < s.size) (σ : List AObj) : f_ixStr [.cv (.str s), .cv (.int .i64 i)] σ = some (.cv (.int .u8 ((s.data[i]'h).toNat : Nat)), σ) := by
  have : s.data[i]? = some (s.data[i]'h) := Array.getElem?_eq_getElem h
  simp [f_ixStr, this]
theorem ixStr_at0 {s : ByteArray} (h : 0 < s.size) (σ : List AObj) : f_ixStr [.cv (.str s), .cv (.int .i64 0)] σ = some (.cv (.int .u8 ((s.data[0]'h).toNat : Nat)), σ) := ixStr_at h σ

theorem chk_at {s : ByteArray} {i : Nat} (h : i < s.size) : chk s i = (lowB (s.data[i]'h) || (decide (i ≠ 0) && digB (s.data[i]'h))) := by
  have : s.data[i]? = some (s.data[i]'h) := Array.getElem?_eq_getElem h
  simp [chk, this]

theorem inB_low (x : UInt8) : inB (x.toNat : Nat) 97 122 = lowB x := by
  unfold inB lowB; rw [Bool.eq_iff_iff]; simp; omega
theorem inB_dig (x : UInt8) : inB (x.toNat : Nat) 48 57 = digB x := by
  unfold inB digB; rw [Bool.eq_iff_iff]; simp; omega

/-- the document's Name -/
theorem c73 (s : ByteArray) (hs : s.size < 2 ^ 63) : PC Try.prog 73 [.cv (.str s)] (.b (nameOk s)) := by
  refine ⟨AC_FE (fok73 true) (Nat.le_of_ble_eq_true rfl) ?_, rfl⟩
  have hw : ∀ x : UInt8, IntKind.i64.wrap (x.toNat : Nat) = (x.toNat : Nat) := fun x => wrap_in (by have := x.toNat_lt; omega)
  simp only [ic73, evA, if_true, if_false, beq_false, simprocAttr]
  refine (c97 s.size 1 16).call frz ?_
  cases h1 : inB s.size 1 16
  · have : nameOk s = false := nameOk_not fun h => by rw [inB_iff.2 (by omega)] at h1; cases h1
    simp only [this, evA, if_true, if_false, beq_false, simprocAttr]
    exact frz
  have h1' := inB_iff.1 h1
  have h0 : 0 < s.size := by omega
  simp only [ixStr_at0 h0, hw, evA, if_true, if_false, beq_false, simprocAttr]
  refine (c97 _ 97 122).call frz ?_
  rw [inB_low]
  cases h2 : lowB (s.data[0]'h0)
  · have : nameOk s = false := nameOk_no h0 (by rw [chk_at h0]; simp [h2])
    simp only [this, evA, if_true, if_false, beq_false, simprocAttr]
    exact frz
  simp only [evA, if_true, if_false, beq_false, simprocAttr]
  refine IL_for s.size (fun i s' => (∀ j, j < i → chk s j = true) ∧ ∃ v3 v4 v5, s' = ⟨[.cv (.str s), .b false, .i i, v3, v4, v5], []⟩) ?_ 0 (Nat.zero_le _) ⟨by omega, _, _, _, rfl⟩
  rintro i s' hi ⟨hall, v3, v4, v5, rfl⟩
  by_cases h : i < s.size
  rotate_left
  · have : nameOk s = true := (nameOk_iff s).2 ⟨by omega, fun j hj => hall j (by omega)⟩
    simp only [ic73l0, Int.ofNat_lt, h, this, evA, if_true, if_false, beq_false, simprocAttr]
    exact frz
  simp only [ic73l0, Int.ofNat_lt, h, ixStr_at h, hw, evA, if_true, if_false, beq_false, simprocAttr]
  refine (c97 _ 97 122).call frz ?_
  rw [inB_low]
  have hgo : chk s i = true → ∀ j, j < i + 1 → chk s j = true := fun hc j hj => by
    rcases Nat.lt_succ_iff_lt_or_eq.1 hj with hj | rfl
    · exact hall j hj
    · exact hc
  cases h3 : lowB (s.data[i]'h)
  · simp only [ixStr_at h, hw, evA, if_true, if_false, beq_false, simprocAttr]
    refine (c97 _ 48 57).call frz ?_
    rw [inB_dig]
    cases h4 : digB (s.data[i]'h)
    · have : nameOk s = false := nameOk_no h (by rw [chk_at h]; simp [h3, h4])
      simp only [this, evA, if_true, if_false, beq_false, simprocAttr]
      exact frz
    · simp only [evA, if_true, if_false, beq_false, simprocAttr]
      have hc : chk s i = true := by
        rw [chk_at h, h3, h4]
        have : i ≠ 0 := by rintro rfl; rw [h2] at h3; cases h3
        simp [this]
      exact kFor_go (by first | trivial | omega) ⟨hgo hc, _, _, _, by rw [wrap_in (by omega)]; rfl⟩
  · simp only [evA, if_true, if_false, beq_false, simprocAttr]
    have hc : chk s i = true := by rw [chk_at h, h3]; rfl
    exact kFor_go (by first | trivial | omega) ⟨hgo hc, _, _, _, by rw [wrap_in (by omega)]; rfl⟩

theorem get!_at {s : ByteArray} {i : Nat} (h : i < s.size) : s.get! i = s.data[i]'h := by
  show s.data[i]! = _
  exact getElem!_pos s.data i h

theorem decode_low {s : ByteArray} {i : Nat} (h : i < s.size) (hb : (s.data[i]'h).toNat < 128) : Utf8.decode s i = ((s.data[i]'h).toNat, 1) := by
  unfold Utf8.decode
  simp only [Nat.add_zero, get!_at h]
  rw [if_pos hb]
theorem decode_high {s : ByteArray} {i : Nat} (h : i < s.size) (hb : ¬ (s.data[i]'h).toNat < 128) : 128 ≤ (Utf8.decode s i).1 := by
  unfold Utf8.decode Utf8.runeError
  simp only [Nat.add_zero, get!_at h]
  rw [if_neg hb]
  split
  · split
    · assumption
    · decide
  · split
    · split
      · rename_i hc; simp only [Bool.and_eq_true, decide_eq_true_eq] at hc; omega
      · decide
    · split
      · split
        · rename_i hc; simp only [Bool.and_eq_true, decide_eq_true_eq] at hc; omega
        · decide
      · decide

theorem snext_go {s : ByteArray} {i : Nat} (h : i < s.size) : f_snext [.ptr 0 0] [.siter s i] = some (.tup [.b true, .i i, .cv (.int .i32 ((Utf8.decode s i).1 : Nat))], [.siter s (i + (Utf8.decode s i).2)]) := by
  simp [f_snext, siterOf, h]
theorem snext_end {s : ByteArray} {i : Nat} (h : ¬ i < s.size) : f_snext [.ptr 0 0] [.siter s i] = some (.tup [.b false], [.siter s i]) := by
  simp [f_snext, siterOf, h]

/-- class.Name -/
theorem c68 (s : ByteArray) (hs : s.size < 2 ^ 63) : PC Try.prog 68 [.cv (.str s)] (.b (nameOk s)) := by
  refine ⟨AC_FE (fok68 true) (Nat.le_of_ble_eq_true rfl) ?_, rfl⟩
  simp only [ic68, evA, if_true, if_false, beq_false, simprocAttr]
  refine IL_for s.size (fun i s' => (∀ j, j < i → chk s j = true) ∧ ∃ v2 v3 v5 v6 v7, s' = ⟨[.cv (.str s), .b false, v2, v3, .ptr 0 0, v5, v6, v7], [.siter s i]⟩) ?_ 0 (Nat.zero_le _) ⟨by omega, _, _, _, _, _, rfl⟩
  rintro i s' hi ⟨hall, v2, v3, v5, v6, v7, rfl⟩
  by_cases h : i < s.size
  rotate_left
  · simp only [ic68l0, snext_end h, f_bslice, evA, if_true, if_false, beq_false, simprocAttr]
    refine (c94 1 16 [s.size] (by simp)).call frz ?_
    rw [outF_one]
    have : (!(!inB s.size 1 16)) = nameOk s := by
      rw [Bool.not_not, Bool.eq_iff_iff, inB_iff, nameOk_iff]
      exact ⟨fun h1 => ⟨by omega, fun j hj => hall j (by omega)⟩, fun h1 => by omega⟩
    simp only [this, evA, if_true, if_false, beq_false, simprocAttr]
    exact frz
  have hgo : chk s i = true → ∀ j, j < i + 1 → chk s j = true := fun hc j hj => by
    rcases Nat.lt_succ_iff_lt_or_eq.1 hj with hj | rfl
    · exact hall j hj
    · exact hc
  by_cases hb : (s.data[i]'h).toNat < 128
  · simp only [ic68l0, snext_go h, decode_low h hb, evA, if_true, if_false, beq_false, simprocAttr]
    have hc := chk_at h
    generalize s.data[i]'h = x at hb hc ⊢
    by_cases h1 : ((x.toNat : Nat) : Int) < 97
    · simp only [h1, evA, if_true, if_false, beq_false, simprocAttr]
      by_cases h0 : (i : Int) = 0
      · have : nameOk s = false := nameOk_no h (by
          rw [hc]
          have : i = 0 := by omega
          simp [this, lowB]; omega)
        simp only [h0, this, evA, if_true, if_false, beq_false, simprocAttr]
        exact frz
      · have h0' : ((i : Int) == 0) = false := by simp; omega
        simp only [h0', evA, if_true, if_false, beq_false, simprocAttr]
        by_cases h2 : ((x.toNat : Nat) : Int) < 48
        · have : nameOk s = false := nameOk_no h (by rw [hc]; simp [lowB, digB]; omega)
          simp only [h2, this, evA, if_true, if_false, beq_false, simprocAttr]
          exact frz
        · simp only [h2, evA, if_true, if_false, beq_false, simprocAttr]
          by_cases h3 : ((x.toNat : Nat) : Int) > 57
          · have : nameOk s = false := nameOk_no h (by rw [hc]; simp [lowB, digB]; omega)
            simp only [h3, this, evA, if_true, if_false, beq_false, simprocAttr]
            exact frz
          · simp only [h3, evA, if_true, if_false, beq_false, simprocAttr]
            exact kFor_go (by first | trivial | omega) ⟨hgo (by rw [hc]; simp [lowB, digB]; omega), _, _, _, _, _, rfl⟩
    · simp only [h1, evA, if_true, if_false, beq_false, simprocAttr]
      by_cases h1b : ((x.toNat : Nat) : Int) > 122
      · simp only [h1b, evA, if_true, if_false, beq_false, simprocAttr]
        have hno : nameOk s = false := nameOk_no h (by rw [hc]; simp [lowB, digB]; omega)
        by_cases h0 : (i : Int) = 0
        · simp only [h0, hno, evA, if_true, if_false, beq_false, simprocAttr]
          exact frz
        · have h0' : ((i : Int) == 0) = false := by simp; omega
          have h2 : ¬ ((x.toNat : Nat) : Int) < 48 := by omega
          have h3 : ((x.toNat : Nat) : Int) > 57 := by omega
          simp only [h0', h2, h3, hno, evA, if_true, if_false, beq_false, simprocAttr]
          exact frz
      · simp only [h1b, evA, if_true, if_false, beq_false, simprocAttr]
        exact kFor_go (by first | trivial | omega) ⟨hgo (by rw [hc]; simp [lowB, digB]; omega), _, _, _, _, _, rfl⟩
  · have hd := decode_high h hb
    have hno : nameOk s = false := nameOk_no h (by rw [chk_at h]; simp [lowB, digB]; omega)
    simp only [ic68l0, snext_go h, evA, if_true, if_false, beq_false, simprocAttr]
    generalize Utf8.decode s i = p at hd ⊢
    have h1 : ¬ ((p.1 : Nat) : Int) < 97 := by omega
    have h1b : ((p.1 : Nat) : Int) > 122 := by omega
    have h2 : ¬ ((p.1 : Nat) : Int) < 48 := by omega
    have h3 : ((p.1 : Nat) : Int) > 57 := by omega
    by_cases h0 : (i : Int) = 0
    · simp only [h0, h1, h1b, hno, evA, if_true, if_false, beq_false, simprocAttr]
      exact frz
    · have h0' : ((i : Int) == 0) = false := by simp; omega
      simp only [h0', h1, h1b, h2, h3, hno, evA, if_true, if_false, beq_false, simprocAttr]
      exact frz

end Go.Proofs.Ytjgolcbpgmlilaa.AM

namespace Go.Proofs.Ytjgolcbpgmlilaa.AM
open Go Go.Proofs.Ytjgolcbpgmlilaa.Qu
set_option linter.unusedVariables false
set_option linter.unusedSimpArgs false

theorem unl_step {many : Int} {l : List Int} {i : Nat} (h : i < l.length) : unl many (l.take i) (l.drop i) =
    if inB (l[i]?.getD 0) 0 (many - 1) = false then 4 else if (l.take i).any (· == l[i]?.getD 0) then 5 else unl many (l.take (i + 1)) (l.drop (i + 1)) := by
  rw [List.drop_eq_getElem_cons h]
  have e : l[i]?.getD 0 = l[i] := by simp [h]
  have e2 : l.take (i + 1) = l.take i ++ [l[i]] := by rw [List.take_add_one, List.getElem?_eq_getElem h]; rfl
  rw [e, e2]
  conv => lhs; unfold unl
  by_cases h1 : l[i] < 0 ∨ many ≤ l[i]
  · rw [if_pos h1, if_pos (inB_not.2 (by omega))]
  · rw [if_neg h1, inB_iff.2 (show 0 ≤ l[i] ∧ l[i] ≤ many - 1 by omega)]
    simp only [Bool.true_eq_false, if_false]
    by_cases h2 : l[i] ∈ l.take i
    · rw [if_pos h2, if_pos (List.any_eq_true.2 ⟨_, h2, by simp⟩)]
    · rw [if_neg h2, if_neg]
      rw [Bool.not_eq_true, List.any_eq_false]
      intro x hx he
      simp at he; subst he; exact h2 hx
theorem unl_end {many : Int} {l : List Int} {i : Nat} (h : ¬ i < l.length) : unl many (l.take i) (l.drop i) = 0 := by
  rw [List.drop_of_length_le (by omega)]; rfl

theorem any_take {l : List Int} {i : Nat} (h : i ≤ l.length) {x : Int} : (l.take i).any (· == x) = true ↔ ∃ k, k < i ∧ l[k]?.getD 0 = x := by
  rw [List.any_eq_true]
  constructor
  · rintro ⟨y, hy, hxy⟩
    obtain ⟨k, hk, rfl⟩ := List.mem_iff_getElem.1 hy
    simp only [List.length_take] at hk
    refine ⟨k, by omega, ?_⟩
    rw [List.getElem_take] at hxy
    rw [List.getElem?_eq_getElem (by omega)]
    simpa using hxy
  · rintro ⟨k, hk, rfl⟩
    have hk' : k < (l.take i).length := by simp; omega
    refine ⟨(l.take i)[k], List.getElem_mem hk', ?_⟩
    rw [List.getElem_take, List.getElem?_eq_getElem (by omega)]; simp

/-- the document's unlike -/
theorem c74 (l : List Int) (many : Nat) (hl : l.length < 2 ^ 63) (hm : many < 2 ^ 63) : PC Try.prog 74 [ints l, .i many] (.i (unl many [] l)) := by
  refine ⟨AC_FE (fok74 true) (Nat.le_of_ble_eq_true rfl) ?_, rfl⟩
  have hw : IntKind.i64.wrap ((many : Int) - 1) = (many : Int) - 1 := wrap_in (by omega)
  simp only [ic74, evA, if_true, if_false, beq_false, simprocAttr]
  refine IL_for l.length (fun i s => unl many [] l = unl many (l.take i) (l.drop i) ∧ ∃ v4 v5 v6 v7 v8, s = ⟨[ints l, .i many, .i 0, .i i, v4, v5, v6, v7, v8], []⟩) ?_ 0 (Nat.zero_le _) ⟨rfl, _, _, _, _, _, rfl⟩
  rintro i s hi ⟨heq, v4, v5, v6, v7, v8, rfl⟩
  by_cases h : i < l.length
  rotate_left
  · rw [unl_end h] at heq
    simp only [ic74l1, Int.ofNat_lt, h, heq, evA, if_true, if_false, beq_false, simprocAttr]
    exact frz
  rw [unl_step h] at heq
  simp only [ic74l1, Int.ofNat_lt, h, hw, evA, if_true, if_false, beq_false, simprocAttr]
  refine (c45 _ _ _).call frz ?_
  cases h1 : inB (l[i]?.getD 0) 0 ((many : Int) - 1)
  · rw [if_pos h1] at heq
    simp only [heq, evA, if_true, if_false, beq_false, simprocAttr]
    exact frz
  rw [if_neg (by rw [h1]; decide)] at heq
  simp only [evA, if_true, if_false, beq_false, simprocAttr]
  refine IL_for i (fun k s => (∀ j, j < k → l[j]?.getD 0 ≠ l[i]?.getD 0) ∧ ∃ v5 v6 v7 v8, s = ⟨[ints l, .i many, .i 0, .i i, .i k, v5, v6, v7, v8], []⟩) ?_ 0 (Nat.zero_le _) ⟨by omega, _, _, _, _, rfl⟩
  rintro k s hk ⟨hall, v5, v6, v7, v8, rfl⟩
  by_cases hki : k < i
  · have hkl : k < l.length := by omega
    simp only [ic74l0, Int.ofNat_lt, hki, evA, if_true, if_false, beq_false, simprocAttr]
    refine DW_s [] [] hmix (by kernel_rfl) rfl ?_
    simp only [h, hkl, evA, if_true, if_false, beq_false, simprocAttr]
    by_cases he : l[k]?.getD 0 = l[i]?.getD 0
    · rw [if_pos ((any_take (by omega)).2 ⟨k, hki, he⟩)] at heq
      have hb : (l[k]?.getD 0 == l[i]?.getD 0) = true := by simp [he]
      simp only [hb, heq, evA, if_true, if_false, beq_false, simprocAttr]
      exact frz
    · have hb : (l[k]?.getD 0 == l[i]?.getD 0) = false := by simp [he]
      simp only [hb, evA, if_true, if_false, beq_false, simprocAttr]
      refine kFor_go (by first | trivial | omega) ⟨fun j hj => ?_, _, _, _, _, by rw [wrap_in (by omega)]; rfl⟩
      rcases Nat.lt_succ_iff_lt_or_eq.1 hj with hj | rfl
      · exact hall j hj
      · exact he
  · have : k = i := by omega
    subst this
    rw [if_neg (fun h => by
      obtain ⟨j, hj, e⟩ := (any_take (by omega)).1 h
      exact hall j hj e)] at heq
    simp only [ic74l0, Int.ofNat_lt, hki, evA, if_true, if_false, beq_false, simprocAttr]
    exact kFor_go (by first | trivial | omega) ⟨heq, _, _, _, _, _, by rw [wrap_in (by omega)]; rfl⟩

theorem cenE_name {q : QL} {i : Nat} (h : nameOk (q.cs[i]!).nm = false) : cenE q i = 6 := by unfold cenE; simp only [h, if_true]
theorem cenE_twice {q : QL} {i k : Nat} (h : nameOk (q.cs[i]!).nm = true) (hk : k < i) (he : (q.cs[k]!).nm = (q.cs[i]!).nm) : cenE q i = 5 := by
  unfold cenE; simp only [h, Bool.true_eq_false, if_false]; rw [if_pos ⟨k, hk, he⟩]
theorem cenE_rest {q : QL} {i : Nat} (h : nameOk (q.cs[i]!).nm = true) (hall : ∀ k, k < i → (q.cs[k]!).nm ≠ (q.cs[i]!).nm) : cenE q i = if inB (q.cs[i]!).pl 0 6 = false then 7 else unl 3 [] (q.cs[i]!).ru := by
  unfold cenE; simp only [h, Bool.true_eq_false, if_false]
  rw [if_neg (fun ⟨k, hk, he⟩ => hall k hk he)]
  by_cases h1 : (q.cs[i]!).pl < 0 ∨ 6 < (q.cs[i]!).pl
  · rw [if_pos h1, if_pos (inB_not.2 h1)]
  · rw [if_neg h1, if_neg (fun h => h1 (inB_not.1 h))]

/-- the document's error of a centre -/
theorem c46 (q : QL) (hq : QSz q) (i : Nat) (hi : i < q.cs.length) : PC Try.prog 46 [qV q, .i i] (.i (cenE q i)) := by
  refine ⟨AC_FE (fok46 true) (Nat.le_of_ble_eq_true rfl) ?_, rfl⟩
  have hcs := hq.cs
  simp only [ic46, ia_rsl hi, cen_ld hi, evA, if_true, if_false, beq_false, simprocAttr]
  refine (c73 _ (hq.nm i hi)).call frz ?_
  cases h1 : nameOk (q.cs[i]!).nm
  · simp only [cenE_name h1, evA, if_true, if_false, beq_false, simprocAttr]
    exact frz
  simp only [evA, if_true, if_false, beq_false, simprocAttr]
  refine IL_for i (fun k s => (∀ j, j < k → (q.cs[j]!).nm ≠ (q.cs[i]!).nm) ∧ ∃ v6 v7 v8 v9, s = ⟨[qV q, .i i, .ptr 0 0, .i 0, .ptr 1 0, .i k, v6, v7, v8, v9], [.cells [cenL q.cs, leaL q.ls], .cells [.cv (.str (q.cs[i]!).nm), .i (q.cs[i]!).pl, ints (q.cs[i]!).ru]]⟩) ?_ 0 (Nat.zero_le _) ⟨by omega, _, _, _, _, rfl⟩
  rintro k s hk ⟨hall, v6, v7, v8, v9, rfl⟩
  by_cases hki : k < i
  · have hkl : k < q.cs.length := by omega
    simp only [ic46l0, Int.ofNat_lt, hki, evA, if_true, if_false, beq_false, simprocAttr]
    refine DW_s [] [] hmix (by kernel_rfl) rfl ?_
    simp only [ia_rsl hkl, cen_0 hkl, binS, str_eq, evA, if_true, if_false, beq_false, simprocAttr]
    by_cases he : (q.cs[k]!).nm = (q.cs[i]!).nm
    · simp only [he, cenE_twice h1 hki he, evA, if_true, if_false, beq_false, simprocAttr]
      exact frz
    · simp only [he, evA, if_true, if_false, beq_false, simprocAttr]
      refine kFor_go (by first | trivial | omega) ⟨fun j hj => ?_, _, _, _, _, by rw [wrap_in (by omega)]; rfl⟩
      rcases Nat.lt_succ_iff_lt_or_eq.1 hj with hj | rfl
      · exact hall j hj
      · exact he
  · have : k = i := by omega
    subst this
    have hE := cenE_rest h1 hall
    simp only [ic46l0, Int.ofNat_lt, hki, evA, if_true, if_false, beq_false, simprocAttr]
    refine (c45 _ _ _).call frz ?_
    cases h2 : inB (q.cs[k]!).pl 0 6
    · rw [if_pos h2] at hE
      simp only [hE, evA, if_true, if_false, beq_false, simprocAttr]
      exact frz
    · rw [if_neg (by rw [h2]; decide)] at hE
      simp only [evA, if_true, if_false, beq_false, simprocAttr]
      refine (c74 _ 3 (hq.ru k hi) (by omega)).call frz ?_
      simp only [hE, evA, if_true, if_false, beq_false, simprocAttr]
      exact frz

end Go.Proofs.Ytjgolcbpgmlilaa.AM

namespace Go.Proofs.Ytjgolcbpgmlilaa.AM
open Go Go.Proofs.Ytjgolcbpgmlilaa.Qu
set_option linter.unusedVariables false
set_option linter.unusedSimpArgs false

theorem leaE_name {q : QL} {i : Nat} (h : nameOk (q.ls[i]!).nm = false) : leaE q i = 6 := by unfold leaE; simp only [h, if_true]
theorem leaE_twice {q : QL} {i k : Nat} (h : nameOk (q.ls[i]!).nm = true) (hk : k < i) (he : (q.ls[k]!).nm = (q.ls[i]!).nm) : leaE q i = 5 := by
  unfold leaE; simp only [h, Bool.true_eq_false, if_false]; rw [if_pos ⟨k, hk, he⟩]
theorem leaE_rest {q : QL} {i : Nat} (h : nameOk (q.ls[i]!).nm = true) (hall : ∀ k, k < i → (q.ls[k]!).nm ≠ (q.ls[i]!).nm) :
    leaE q i = if inB (q.ls[i]!).si 0 40000 = false then 7 else if inB (q.ls[i]!).fa 0 20 = false then 7 else if inB (q.ls[i]!).ho (-1) ((q.cs.length : Int) - 1) = false then 4 else unl q.cs.length [] (q.ls[i]!).wi := by
  unfold leaE; simp only [h, Bool.true_eq_false, if_false]
  rw [if_neg (fun ⟨k, hk, he⟩ => hall k hk he)]
  cases h1 : inB (q.ls[i]!).si 0 40000
  · have := inB_not.1 h1
    simp only [if_true]
    rw [if_pos (by omega)]
  have h1 := inB_iff.1 h1
  cases h2 : inB (q.ls[i]!).fa 0 20
  · have := inB_not.1 h2
    simp only [if_true, Bool.true_eq_false, if_false]
    rw [if_pos (by omega)]
  have h2 := inB_iff.1 h2
  rw [if_neg (by omega)]
  simp only [Bool.true_eq_false, if_false]
  cases h3 : inB (q.ls[i]!).ho (-1) ((q.cs.length : Int) - 1)
  · have := inB_not.1 h3
    simp only [if_true]
    rw [if_pos (by omega)]
  · have := inB_iff.1 h3
    simp only [if_true, Bool.true_eq_false, if_false]
    rw [if_neg (by omega)]

/-- the document's error of a learner -/
theorem c47 (q : QL) (hq : QSz q) (i : Nat) (hi : i < q.ls.length) : PC Try.prog 47 [qV q, .i i] (.i (leaE q i)) := by
  refine ⟨AC_FE (fok47 true) (Nat.le_of_ble_eq_true rfl) ?_, rfl⟩
  have hcs := hq.cs
  have hls := hq.ls
  have hw : IntKind.i64.wrap ((q.cs.length : Int) - 1) = (q.cs.length : Int) - 1 := wrap_in (by omega)
  simp only [ic47, ia_rsl hi, lea_ld hi, evA, if_true, if_false, beq_false, simprocAttr]
  refine (c73 _ (hq.lm i hi)).call frz ?_
  cases h1 : nameOk (q.ls[i]!).nm
  · simp only [leaE_name h1, evA, if_true, if_false, beq_false, simprocAttr]
    exact frz
  simp only [evA, if_true, if_false, beq_false, simprocAttr]
  refine IL_for i (fun k s => (∀ j, j < k → (q.ls[j]!).nm ≠ (q.ls[i]!).nm) ∧ ∃ v6 v7 v8 v9 v10, s = ⟨[qV q, .i i, .ptr 0 0, .i 0, .ptr 1 0, .i k, v6, v7, v8, v9, v10], [.cells [cenL q.cs, leaL q.ls], .cells [.cv (.str (q.ls[i]!).nm), .i (q.ls[i]!).si, .i (q.ls[i]!).ho, .i (q.ls[i]!).fa, ints (q.ls[i]!).wi]]⟩) ?_ 0 (Nat.zero_le _) ⟨by omega, _, _, _, _, _, rfl⟩
  rintro k s hk ⟨hall, v6, v7, v8, v9, v10, rfl⟩
  by_cases hki : k < i
  · have hkl : k < q.ls.length := by omega
    simp only [ic47l0, Int.ofNat_lt, hki, evA, if_true, if_false, beq_false, simprocAttr]
    refine DW_s [] [] hmix (by kernel_rfl) rfl ?_
    simp only [ia_rsl hkl, lea_0 hkl, binS, str_eq, evA, if_true, if_false, beq_false, simprocAttr]
    by_cases he : (q.ls[k]!).nm = (q.ls[i]!).nm
    · simp only [he, leaE_twice h1 hki he, evA, if_true, if_false, beq_false, simprocAttr]
      exact frz
    · simp only [he, evA, if_true, if_false, beq_false, simprocAttr]
      refine kFor_go (by first | trivial | omega) ⟨fun j hj => ?_, _, _, _, _, _, by rw [wrap_in (by omega)]; rfl⟩
      rcases Nat.lt_succ_iff_lt_or_eq.1 hj with hj | rfl
      · exact hall j hj
      · exact he
  · have : k = i := by omega
    subst this
    have hE := leaE_rest h1 hall
    simp only [ic47l0, Int.ofNat_lt, hki, evA, if_true, if_false, beq_false, simprocAttr]
    refine (c45 _ _ _).call frz ?_
    cases h2 : inB (q.ls[k]!).si 0 40000
    · rw [if_pos h2] at hE
      simp only [hE, evA, if_true, if_false, beq_false, simprocAttr]
      exact frz
    rw [if_neg (by rw [h2]; decide)] at hE
    simp only [evA, if_true, if_false, beq_false, simprocAttr]
    refine (c45 _ _ _).call frz ?_
    cases h3 : inB (q.ls[k]!).fa 0 20
    · rw [if_pos h3] at hE
      simp only [hE, evA, if_true, if_false, beq_false, simprocAttr]
      exact frz
    rw [if_neg (by rw [h3]; decide)] at hE
    simp only [hw, evA, if_true, if_false, beq_false, simprocAttr]
    refine (c45 _ _ _).call frz ?_
    cases h4 : inB (q.ls[k]!).ho (-1) ((q.cs.length : Int) - 1)
    · rw [if_pos h4] at hE
      simp only [hE, evA, if_true, if_false, beq_false, simprocAttr]
      exact frz
    rw [if_neg (by rw [h4]; decide)] at hE
    simp only [evA, if_true, if_false, beq_false, simprocAttr]
    refine (c74 _ q.cs.length (hq.wi k hi) hcs).call frz ?_
    simp only [hE, evA, if_true, if_false, beq_false, simprocAttr]
    exact frz

theorem firstE_at {f : Nat → Int} {i : Nat} (hf : f i ≠ 0) : ∀ {n s : Nat}, (∀ j, s ≤ j → j < i → f j = 0) → s ≤ i → i < s + n → firstE f n s = some (i, f i)
  | 0, s, _, h1, h2 => by omega
  | n + 1, s, h, h1, h2 => by
    unfold firstE
    by_cases e : s = i
    · subst e; rw [if_pos hf]
    · rw [if_neg (by rw [Ne, Classical.not_not]; exact h s (Nat.le_refl _) (by omega))]
      exact firstE_at hf (fun j hj hj2 => h j (by omega) hj2) (by omega) (by omega)
theorem firstE_all {f : Nat → Int} : ∀ {n s : Nat}, (∀ j, s ≤ j → j < s + n → f j = 0) → firstE f n s = none
  | 0, s, _ => rfl
  | n + 1, s, h => by
    unfold firstE
    rw [if_neg (by rw [Ne, Classical.not_not]; exact h s (Nat.le_refl _) (by omega))]
    exact firstE_all fun j hj hj2 => h j (by omega) (by omega)

theorem chk_size {q : QL} (h : ¬ (inB q.cs.length 1 5 = true ∧ ¬ (q.ls.length : Int) > 8)) : checkQ q = (1, 0, 3) := by
  unfold checkQ
  rw [if_pos]
  rw [inB_iff] at h
  omega
theorem chk_cen {q : QL} {i : Nat} (h1 : inB q.cs.length 1 5 = true) (h2 : ¬ (q.ls.length : Int) > 8) (hi : i < q.cs.length) (hall : ∀ j, j < i → cenE q j = 0) (h : cenE q i ≠ 0) : checkQ q = (2, (i : Int), cenE q i) := by
  unfold checkQ
  rw [inB_iff] at h1
  rw [if_neg (by omega), firstE_at h (fun j _ hj => hall j hj) (by omega) (by omega)]
theorem chk_lea {q : QL} {i : Nat} (h1 : inB q.cs.length 1 5 = true) (h2 : ¬ (q.ls.length : Int) > 8) (hc : ∀ j, j < q.cs.length → cenE q j = 0) (hi : i < q.ls.length) (hall : ∀ j, j < i → leaE q j = 0) (h : leaE q i ≠ 0) : checkQ q = (3, (i : Int), leaE q i) := by
  unfold checkQ
  rw [inB_iff] at h1
  rw [if_neg (by omega), firstE_all (fun j _ hj => hc j (by omega)), firstE_at h (fun j _ hj => hall j hj) (by omega) (by omega)]
theorem chk_ok {q : QL} (h1 : inB q.cs.length 1 5 = true) (h2 : ¬ (q.ls.length : Int) > 8) (hc : ∀ j, j < q.cs.length → cenE q j = 0) (hl : ∀ j, j < q.ls.length → leaE q j = 0) : checkQ q = (0, 0, 0) := by
  unfold checkQ
  rw [inB_iff] at h1
  rw [if_neg (by omega), firstE_all (fun j _ hj => hc j (by omega)), firstE_all (fun j _ hj => hl j (by omega))]

def chkV (q : QL) : AV := .tup [.i (checkQ q).1, .i (checkQ q).2.1, .i (checkQ q).2.2]
theorem chkV_of {q : QL} {a b c : Int} (h : checkQ q = (a, b, c)) : chkV q = .tup [.i a, .i b, .i c] := by unfold chkV; rw [h]

/-- the document's Check -/
theorem c17 (q : QL) (hq : QSz q) : PC Try.prog 17 [qV q] (chkV q) := by
  refine ⟨AC_FE (fok17 true) (Nat.le_of_ble_eq_true rfl) ?_, rfl⟩
  have hcs := hq.cs
  have hls := hq.ls
  simp only [ic17, evA, if_true, if_false, beq_false, simprocAttr]
  refine (c45 _ _ _).call frz ?_
  cases h1 : inB q.cs.length 1 5
  · have hE := chkV_of (q := q) (chk_size (by rw [h1]; simp))
    simp only [hE, evA, if_true, if_false, beq_false, simprocAttr]
    exact frz
  by_cases h2 : (q.ls.length : Int) > 8
  · have hE := chkV_of (q := q) (chk_size (by simp [h2]))
    simp only [h2, hE, evA, if_true, if_false, beq_false, simprocAttr]
    exact frz
  simp only [h2, evA, if_true, if_false, beq_false, simprocAttr]
  refine IL_for q.cs.length (fun i s => (∀ j, j < i → cenE q j = 0) ∧ ∃ v6 v7 v8 v9 v10 v11 v12 v13, s = ⟨[qV q, .ptr 0 0, .i 0, .i 0, .i 0, .i i, v6, v7, v8, v9, v10, v11, v12, v13], [.cells [cenL q.cs, leaL q.ls]]⟩) ?_ 0 (Nat.zero_le _) ⟨by omega, _, _, _, _, _, _, _, _, rfl⟩
  rintro i s hi ⟨hall, v6, v7, v8, v9, v10, v11, v12, v13, rfl⟩
  by_cases h : i < q.cs.length
  · simp only [ic17l1, Int.ofNat_lt, h, evA, if_true, if_false, beq_false, simprocAttr]
    refine (c46 q hq i h).call frz ?_
    by_cases hc : cenE q i = 0
    · simp only [hc, evA, if_true, if_false, beq_false, simprocAttr]
      refine kFor_go (by first | trivial | omega) ⟨fun j hj => ?_, _, _, _, _, _, _, _, _, by rw [wrap_in (by omega)]; rfl⟩
      rcases Nat.lt_succ_iff_lt_or_eq.1 hj with hj | rfl
      · exact hall j hj
      · exact hc
    · have hb : (cenE q i != 0) = true := by simp [hc]
      have hE := chkV_of (chk_cen h1 h2 h hall hc)
      simp only [hb, hE, evA, if_true, if_false, beq_false, simprocAttr]
      exact frz
  have : i = q.cs.length := by omega
  subst this
  simp only [ic17l1, Int.ofNat_lt, h, evA, if_true, if_false, beq_false, simprocAttr]
  refine IL_for q.ls.length (fun i s => (∀ j, j < i → leaE q j = 0) ∧ ∃ v5 v6 v8 v9 v10 v11 v12 v13, s = ⟨[qV q, .ptr 0 0, .i 0, .i 0, .i 0, v5, v6, .i i, v8, v9, v10, v11, v12, v13], [.cells [cenL q.cs, leaL q.ls]]⟩) ?_ 0 (Nat.zero_le _) ⟨by omega, _, _, _, _, _, _, _, _, rfl⟩
  rintro i s hi ⟨hall', v5, v6, v8, v9, v10, v11, v12, v13, rfl⟩
  by_cases h : i < q.ls.length
  · simp only [ic17l0, Int.ofNat_lt, h, evA, if_true, if_false, beq_false, simprocAttr]
    refine (c47 q hq i h).call frz ?_
    by_cases hc : leaE q i = 0
    · simp only [hc, evA, if_true, if_false, beq_false, simprocAttr]
      refine kFor_go (by first | trivial | omega) ⟨fun j hj => ?_, _, _, _, _, _, _, _, _, by rw [wrap_in (by omega)]; rfl⟩
      rcases Nat.lt_succ_iff_lt_or_eq.1 hj with hj | rfl
      · exact hall' j hj
      · exact hc
    · have hb : (leaE q i != 0) = true := by simp [hc]
      have hE := chkV_of (chk_lea h1 h2 hall h hall' hc)
      simp only [hb, hE, evA, if_true, if_false, beq_false, simprocAttr]
      exact frz
  have : i = q.ls.length := by omega
  subst this
  have hE := chkV_of (chk_ok h1 h2 hall hall')
  simp only [ic17l0, Int.ofNat_lt, h, hE, evA, if_true, if_false, beq_false, simprocAttr]
  exact frz

end Go.Proofs.Ytjgolcbpgmlilaa.AM

namespace Go.Proofs.Ytjgolcbpgmlilaa.AM
open Go Go.Proofs.Ytjgolcbpgmlilaa.Qu
set_option linter.unusedVariables false
set_option linter.unusedSimpArgs false

theorem bl_cons (a : UInt8) (x y : List UInt8) : Op.bytesLess (a :: x) (a :: y) = Op.bytesLess x y := by
  simp [Op.bytesLess]
theorem bl_at : ∀ {i : Nat} {x y : List UInt8} (hx : i < x.length) (hy : i < y.length), (∀ j, j < i → x[j]? = y[j]?) → x[i] ≠ y[i] → Op.bytesLess x y = decide (x[i] < y[i])
  | _, [], _, hx, _, _, _ => by simp at hx
  | _, _ :: _, [], _, hy, _, _ => by simp at hy
  | 0, a :: x, b :: y, _, _, _, h => by
    have h : a ≠ b := h
    show Op.bytesLess (a :: x) (b :: y) = decide (a < b)
    rw [Bool.eq_iff_iff]
    simp [Op.bytesLess, h]
  | i + 1, a :: x, b :: y, hx, hy, hall, h => by
    have h0 : a = b := by simpa using hall 0 (by omega)
    subst h0
    rw [bl_cons]
    exact bl_at (i := i) (by simpa using hx) (by simpa using hy) (fun j hj => by simpa using hall (j + 1) (by omega)) h
theorem bl_end : ∀ {x y : List UInt8}, (∀ j, j < x.length → j < y.length → x[j]? = y[j]?) → Op.bytesLess x y = decide (x.length < y.length)
  | [], [], _ => rfl
  | [], _ :: _, _ => by simp [Op.bytesLess]
  | _ :: _, [], _ => by simp [Op.bytesLess]
  | a :: x, b :: y, h => by
    have h0 : a = b := by simpa using h 0 (by simp) (by simp)
    subst h0
    rw [bl_cons, bl_end (x := x) (y := y) fun j h1 h2 => by simpa using h (j + 1) (by simpa using h1) (by simpa using h2)]
    simp

def strLt (a b : ByteArray) : Bool := Op.bytesLess a.toList b.toList

theorem strLt_at {a b : ByteArray} {i : Nat} (hx : i < a.size) (hy : i < b.size) (hall : ∀ j, j < i → a.data[j]? = b.data[j]?) (h : a.data[i]'hx ≠ b.data[i]'hy) : strLt a b = decide (a.data[i]'hx < b.data[i]'hy) := by
  unfold strLt
  rw [Lib.toList_data, Lib.toList_data]
  exact bl_at (i := i) (by simpa using hx) (by simpa using hy) (fun j hj => by simpa using hall j hj) (by simpa using h)
theorem strLt_end {a b : ByteArray} (hall : ∀ j, j < a.size → j < b.size → a.data[j]? = b.data[j]?) : strLt a b = decide (a.size < b.size) := by
  unfold strLt
  rw [Lib.toList_data, Lib.toList_data, bl_end fun j h1 h2 => by simpa using hall j (by simpa using h1) (by simpa using h2)]
  rw [Array.length_toList, Array.length_toList]; rfl

/-- the document's less -/
theorem c92 (a b : ByteArray) (ha : a.size < 2 ^ 63) (hb : b.size < 2 ^ 63) : PC Try.prog 92 [.cv (.str a), .cv (.str b)] (.b (strLt a b)) := by
  refine ⟨AC_FE (fok92 true) (Nat.le_of_ble_eq_true rfl) ?_, rfl⟩
  simp only [ic92, evA, if_true, if_false, beq_false, simprocAttr]
  refine IL_for a.size (fun i s => (i ≤ b.size ∧ ∀ j, j < i → a.data[j]? = b.data[j]?) ∧ ∃ v4 v5, s = ⟨[.cv (.str a), .cv (.str b), .b false, .i i, v4, v5], []⟩) ?_ 0 (Nat.zero_le _) ⟨⟨by omega, by omega⟩, _, _, rfl⟩
  rintro i s hi ⟨⟨hib, hall⟩, v4, v5, rfl⟩
  by_cases h1 : i < a.size
  · by_cases h2 : i < b.size
    · simp only [ic92l0, Int.ofNat_lt, h1, h2, evA, if_true, if_false, beq_false, simprocAttr]
      refine DW_s [] [] hmix (by kernel_rfl) rfl ?_
      simp only [ixStr_at h1, ixStr_at h2, evA, if_true, if_false, beq_false, simprocAttr]
      by_cases he : a.data[i]'h1 = b.data[i]'h2
      · have hbn : ((((a.data[i]'h1).toNat : Nat) : Int) != (((b.data[i]'h2).toNat : Nat) : Int)) = false := by rw [he]; simp
        simp only [hbn, evA, if_true, if_false, beq_false, simprocAttr]
        refine kFor_go (by first | trivial | omega) ⟨⟨by omega, fun j hj => ?_⟩, _, _, by rw [wrap_in (by omega)]; rfl⟩
        rcases Nat.lt_succ_iff_lt_or_eq.1 hj with hj | rfl
        · exact hall j hj
        · rw [Array.getElem?_eq_getElem h1, Array.getElem?_eq_getElem h2, he]
      · have hbn : ((((a.data[i]'h1).toNat : Nat) : Int) != (((b.data[i]'h2).toNat : Nat) : Int)) = true := by
          simp only [bne_iff_ne, ne_eq]
          intro h; exact he (UInt8.toNat_inj.1 (by omega))
        have hlt : decide ((((a.data[i]'h1).toNat : Nat) : Int) < (((b.data[i]'h2).toNat : Nat) : Int)) = strLt a b := by
          rw [strLt_at h1 h2 hall he, Bool.eq_iff_iff]
          simp only [decide_eq_true_eq, UInt8.lt_iff_toNat_lt]; omega
        simp only [hbn, evA, if_true, if_false, beq_false, simprocAttr]
        refine DW_s [] [] hmix (by kernel_rfl) rfl ?_
        simp only [ixStr_at h1, ixStr_at h2, evA, if_true, if_false, beq_false, simprocAttr, hlt]
        exact frz
    · have hE := strLt_end (a := a) (b := b) fun j _ h4 => hall j (by omega)
      simp only [ic92l0, Int.ofNat_lt, h1, h2, hE, evA, if_true, if_false, beq_false, simprocAttr]
      exact frz
  · have hE := strLt_end (a := a) (b := b) fun j h3 _ => hall j (by omega)
    simp only [ic92l0, Int.ofNat_lt, h1, hE, evA, if_true, if_false, beq_false, simprocAttr]
    exact frz

theorem byRules_end (c : Int) (a b : Lea) : byRules c a b [] = strLt a.nm b.nm := rfl
theorem byRules_drop {c : Int} {a b : Lea} {ru : List Int} {r : Nat} (h : r < ru.length) :
    byRules c a b (ru.drop r) = if key c a (ru[r]?.getD 0) = key c b (ru[r]?.getD 0) then byRules c a b (ru.drop (r + 1)) else decide (key c a (ru[r]?.getD 0) < key c b (ru[r]?.getD 0)) := by
  have e : ru[r]?.getD 0 = ru[r] := by simp [h]
  rw [List.drop_eq_getElem_cons h, e]
  conv => lhs; unfold byRules

/-- the document's Before -/
theorem c65 (q : QL) (hq : QSz q) (c i k : Nat) (hc : c < q.cs.length) (hi : i < q.ls.length) (hk : k < q.ls.length) : PC Try.prog 65 [qV q, .i c, .i i, .i k] (.b (bef q c i k)) := by
  refine ⟨AC_FE (fok65 true) (Nat.le_of_ble_eq_true rfl) ?_, rfl⟩
  have hcs := hq.cs
  have hls := hq.ls
  have hru := hq.ru c hc
  have ha := hq.lm i hi
  have hb := hq.lm k hk
  simp only [ic65, evA, if_true, if_false, beq_false, simprocAttr]
  refine DW_s [] [(1, 10), (1, 11), (4, 10), (4, 11), (6, 10), (6, 11), (6, 12), (9, 10), (9, 11), (9, 12), (10, 11), (11, 10)] hmix (by kernel_rfl) rfl ?_
  simp only [ia_rsl hi, ia_rsl hk, lea_ld hi, lea_ld hk, evA, if_true, if_false, beq_false, simprocAttr]
  simp only [ia_rsl hc, cen_2 hc, evA, if_true, if_false, beq_false, simprocAttr]
  unfold bef
  generalize q.ls[i]! = a at ha ⊢
  generalize q.ls[k]! = b at hb ⊢
  generalize (q.cs[c]!).ru = ru at hru ⊢
  refine IL_for ru.length (fun r s => byRules c a b ru = byRules c a b (ru.drop r) ∧ ∃ v10 v11 v12 v13, s = ⟨[qV q, .i c, .i i, .i k, .ptr 0 0, .b false, .ptr 1 0, .ptr 2 0, ints ru, .i r, v10, v11, v12, v13], [.cells [cenL q.cs, leaL q.ls], .cells [.cv (.str a.nm), .i a.si, .i a.ho, .i a.fa, ints a.wi], .cells [.cv (.str b.nm), .i b.si, .i b.ho, .i b.fa, ints b.wi]]⟩) ?_ 0 (Nat.zero_le _) ⟨rfl, _, _, _, _, rfl⟩
  rintro r s hr ⟨heq, v10, v11, v12, v13, rfl⟩
  by_cases h : r < ru.length
  rotate_left
  · have hE : byRules c a b ru = strLt a.nm b.nm := by rw [heq, List.drop_of_length_le (by omega)]; rfl
    simp only [ic65l0, Int.ofNat_lt, h, evA, if_true, if_false, beq_false, simprocAttr]
    refine (c92 a.nm b.nm ha hb).call frz ?_
    simp only [hE, evA, if_true, if_false, beq_false, simprocAttr]
    exact frz
  rw [byRules_drop h] at heq
  have hgo : key c a (ru[r]?.getD 0) = key c b (ru[r]?.getD 0) → byRules c a b ru = byRules c a b (ru.drop (r + 1)) := fun e => by rw [heq, if_pos e]
  have hst : key c a (ru[r]?.getD 0) ≠ key c b (ru[r]?.getD 0) → byRules c a b ru = decide (key c a (ru[r]?.getD 0) < key c b (ru[r]?.getD 0)) := fun e => by rw [heq, if_neg e]
  clear heq
  obtain ⟨x, hx⟩ : ∃ x, ru[r]?.getD 0 = x := ⟨_, rfl⟩
  rw [hx] at hgo hst
  simp only [ic65l0, Int.ofNat_lt, h, hx, evA, if_true, if_false, beq_false, simprocAttr]
  by_cases h0 : x = 0
  · subst h0
    simp only [key, if_true] at hgo hst
    by_cases hs : a.si = b.si
    · have hn : (a.si != b.si) = false := by simp [hs]
      simp only [hn, h, hx, evA, if_true, if_false, beq_false, simprocAttr]
      exact kFor_go (by first | trivial | omega) ⟨hgo hs, _, _, _, _, by rw [wrap_in (by omega)]; rfl⟩
    · have hn : (a.si != b.si) = true := by simp [hs]
      simp only [hn, h, hx, hst hs, evA, if_true, if_false, beq_false, simprocAttr]
      exact frz
  have hb0 : (x == 0) = false := by simp [h0]
  by_cases h1 : x = 1
  · subst h1
    simp only [key, if_true, show ¬ ((1 : Int) = 0) by decide, if_false] at hgo hst
    simp only [h, hx, evA, if_true, if_false, beq_false, simprocAttr]
    by_cases hA : a.ho = c
    · by_cases hB : b.ho = c
      · rw [if_pos hA, if_pos hB] at hgo
        have e1 : (a.ho == (c : Int)) = true := by simp [hA]
        have e2 : (b.ho == (c : Int)) = true := by simp [hB]
        simp only [e1, e2, h, hx, evA, if_true, if_false, beq_false, simprocAttr]
        exact kFor_go (by first | trivial | omega) ⟨hgo rfl, _, _, _, _, by rw [wrap_in (by omega)]; rfl⟩
      · rw [if_pos hA, if_neg hB] at hst
        have e1 : (a.ho == (c : Int)) = true := by simp [hA]
        have e2 : (b.ho == (c : Int)) = false := by simp [hB]
        simp only [e1, e2, h, hx, hst (by decide), evA, if_true, if_false, beq_false, simprocAttr]
        exact frz
    · by_cases hB : b.ho = c
      · rw [if_neg hA, if_pos hB] at hst
        have e1 : (a.ho == (c : Int)) = false := by simp [hA]
        have e2 : (b.ho == (c : Int)) = true := by simp [hB]
        simp only [e1, e2, h, hx, hst (by decide), evA, if_true, if_false, beq_false, simprocAttr]
        exact frz
      · rw [if_neg hA, if_neg hB] at hgo
        have e1 : (a.ho == (c : Int)) = false := by simp [hA]
        have e2 : (b.ho == (c : Int)) = false := by simp [hB]
        simp only [e1, e2, h, hx, evA, if_true, if_false, beq_false, simprocAttr]
        exact kFor_go (by first | trivial | omega) ⟨hgo rfl, _, _, _, _, by rw [wrap_in (by omega)]; rfl⟩
  have hb1 : (x == 1) = false := by simp [h1]
  by_cases h2 : x = 2
  · subst h2
    simp only [key, if_true, show ¬ ((2 : Int) = 0) by decide, show ¬ ((2 : Int) = 1) by decide, if_false] at hgo hst
    simp only [h, hx, evA, if_true, if_false, beq_false, simprocAttr]
    by_cases hs : a.fa = b.fa
    · have hn : (a.fa != b.fa) = false := by simp [hs]
      simp only [hn, h, hx, evA, if_true, if_false, beq_false, simprocAttr]
      exact kFor_go (by first | trivial | omega) ⟨hgo hs, _, _, _, _, by rw [wrap_in (by omega)]; rfl⟩
    · have hn : (a.fa != b.fa) = true := by simp [hs]
      simp only [hn, h, hx, hst hs, evA, if_true, if_false, beq_false, simprocAttr]
      exact frz
  have hb2 : (x == 2) = false := by simp [h2]
  simp only [hb0, hb1, hb2, h, hx, evA, if_true, if_false, beq_false, simprocAttr]
  exact kFor_go (by first | trivial | omega) ⟨hgo (by simp only [key, h0, h1, h2, if_false]), _, _, _, _, by rw [wrap_in (by omega)]; rfl⟩

theorem count_step {g : List Int} {i : Nat} (h : i < g.length) (c : Int) : (g.take (i + 1)).count c = (g.take i).count c + if g[i]?.getD 0 = c then 1 else 0 := by
  have e2 : g.take (i + 1) = g.take i ++ [g[i]] := by rw [List.take_add_one, List.getElem?_eq_getElem h]; rfl
  have e : g[i]?.getD 0 = g[i] := by simp [h]
  rw [e2, List.count_append, List.count_cons, List.count_nil, e]
  simp

/-- the document's Given -/
theorem c38 (g : List Int) (c : Int) (hg : g.length < 2 ^ 63) : PC Try.prog 38 [ints g, .i c] (.i (g.count c)) := by
  refine ⟨AC_FE (fok38 true) (Nat.le_of_ble_eq_true rfl) ?_, rfl⟩
  simp only [ic38, evA, if_true, if_false, beq_false, simprocAttr]
  refine IL_for g.length (fun i s => ∃ n : Nat, (n = (g.take i).count c ∧ n ≤ i) ∧ ∃ v5 v6, s = ⟨[ints g, .i c, .i 0, .i n, .i i, v5, v6], []⟩) ?_ 0 (Nat.zero_le _) ⟨0, ⟨by simp, by omega⟩, _, _, rfl⟩
  rintro i s hi ⟨n, ⟨hn, hni⟩, v5, v6, rfl⟩
  by_cases h : i < g.length
  · have hstep := count_step h c
    simp only [ic38l0, Int.ofNat_lt, h, evA, if_true, if_false, beq_false, simprocAttr]
    by_cases he : g[i]?.getD 0 = c
    · have hb : (g[i]?.getD 0 == c) = true := by simp [he]
      rw [if_pos he] at hstep
      simp only [hb, evA, if_true, if_false, beq_false, simprocAttr]
      exact kFor_go (by first | trivial | omega) ⟨n + 1, ⟨by omega, by omega⟩, _, _, by rw [wrap_succ (by omega), wrap_succ (by omega)]⟩
    · have hb : (g[i]?.getD 0 == c) = false := by simp [he]
      rw [if_neg he] at hstep
      simp only [hb, evA, if_true, if_false, beq_false, simprocAttr]
      exact kFor_go (by first | trivial | omega) ⟨n, ⟨by omega, by omega⟩, _, _, by rw [wrap_succ (by omega)]⟩
  · have : i = g.length := by omega
    subst this
    rw [List.take_length] at hn
    simp only [ic38l0, Int.ofNat_lt, h, ← hn, evA, if_true, if_false, beq_false, simprocAttr]
    exact frz

/-- the document's Place -/
theorem c35 (x : Lea) (c : Int) (hx : x.wi.length < 2 ^ 63) : PC Try.prog 35 [leaA x, .i c] (.i (place x.wi c)) := by
  refine ⟨AC_FE (fok35 true) (Nat.le_of_ble_eq_true rfl) ?_, rfl⟩
  simp only [ic35, evA, if_true, if_false, beq_false, simprocAttr]
  refine IL_for x.wi.length (fun i s => (∀ j, j < i → x.wi[j]?.getD 0 ≠ c) ∧ ∃ v5 v6, s = ⟨[leaA x, .i c, .ptr 0 0, .i 0, .i i, v5, v6], [.cells [.cv (.str x.nm), .i x.si, .i x.ho, .i x.fa, ints x.wi]]⟩) ?_ 0 (Nat.zero_le _) ⟨by omega, _, _, rfl⟩
  rintro i s hi ⟨hall, v5, v6, rfl⟩
  by_cases h : i < x.wi.length
  · simp only [ic35l0, Int.ofNat_lt, h, evA, if_true, if_false, beq_false, simprocAttr]
    by_cases he : x.wi[i]?.getD 0 = c
    · have hb : (x.wi[i]?.getD 0 == c) = true := by simp [he]
      have hp : place x.wi c = i := by
        unfold place
        rw [List.findIdx_eq h]
        refine ⟨by simpa [h] using hb, fun j hj => ?_⟩
        have := hall j hj
        simpa [show j < x.wi.length by omega] using this
      simp only [hb, hp, evA, if_true, if_false, beq_false, simprocAttr]
      exact frz
    · have hb : (x.wi[i]?.getD 0 == c) = false := by simp [he]
      simp only [hb, evA, if_true, if_false, beq_false, simprocAttr]
      refine kFor_go (by first | trivial | omega) ⟨fun j hj => ?_, _, _, by rw [wrap_succ (by omega)]⟩
      rcases Nat.lt_succ_iff_lt_or_eq.1 hj with hj | rfl
      · exact hall j hj
      · exact he
  · have hi' : i = x.wi.length := by omega
    subst hi'
    have hp : place x.wi c = x.wi.length := place_none fun hm => by
      obtain ⟨j, hj, he⟩ := List.mem_iff_getElem.1 hm
      exact hall j hj (by simp [hj, he])
    simp only [ic35l0, Int.ofNat_lt, h, hp, evA, if_true, if_false, beq_false, simprocAttr]
    exact frz

end Go.Proofs.Ytjgolcbpgmlilaa.AM

namespace Go.Proofs.Ytjgolcbpgmlilaa.AM
open Go Go.Proofs.Ytjgolcbpgmlilaa.Qu Pl
set_option linter.unusedVariables false
set_option linter.unusedSimpArgs false

theorem cnt_succ (n : Nat) (P : Nat → Bool) : cnt (n + 1) P = cnt n P + if P n = true then 1 else 0 := by
  cases h : P n <;> simp [cnt, h]

theorem bef_irr (q : QL) (c i : Nat) : bef q c i i = false := byRules_irr _ _ _

/-- the document's Rank -/
theorem c37 (q : QL) (hq : QSz q) (h62 : q.ls.length < 2 ^ 62) (c i : Nat) (hc : c < q.cs.length) (hi : i < q.ls.length) : PC Try.prog 37 [qV q, .i c, .i i] (.i (rankQ q c i)) := by
  refine ⟨AC_FE (fok37 true) (Nat.le_of_ble_eq_true rfl) ?_, rfl⟩
  have hls := h62
  simp only [ic37, evA, if_true, if_false, beq_false, simprocAttr]
  refine IL_for q.ls.length (fun k s => ∃ n : Nat, (n = cnt k (fun k => bef q c k i) ∧ n ≤ k) ∧ ∃ v7 v8, s = ⟨[qV q, .i c, .i i, .ptr 0 0, .i 0, .i ((n + 1 : Nat) : Int), .i k, v7, v8], [.cells [cenL q.cs, leaL q.ls]]⟩) ?_ 0 (Nat.zero_le _) ⟨0, ⟨rfl, by omega⟩, _, _, rfl⟩
  rintro k s hk ⟨n, ⟨hn, hnk⟩, v7, v8, rfl⟩
  by_cases h : k < q.ls.length
  rotate_left
  · have : k = q.ls.length := by omega
    subst this
    have hE : (rankQ q c i : Int) = ((n + 1 : Nat) : Int) := by rw [hn]; rfl
    simp only [ic37l0, Int.ofNat_lt, h, hE, evA, if_true, if_false, beq_false, simprocAttr]
    exact frz
  have hst := cnt_succ k (fun k => bef q c k i)
  simp only [ic37l0, Int.ofNat_lt, h, evA, if_true, if_false, beq_false, simprocAttr]
  by_cases hki : k = i
  · subst hki
    have hb : ((k : Int) != (k : Int)) = false := by simp
    have h0 : bef q c k k = false := bef_irr q c k
    simp only [h0, Bool.false_eq_true, if_false] at hst
    simp only [hb, evA, if_true, if_false, beq_false, simprocAttr]
    exact kFor_go (by first | trivial | omega) ⟨n, ⟨by omega, by omega⟩, _, _, by rw [wrap_succ (by omega)]⟩
  · have hb : ((k : Int) != (i : Int)) = true := by simp; omega
    simp only [hb, evA, if_true, if_false, beq_false, simprocAttr]
    refine (c65 q hq c k i hc h hi).call frz ?_
    cases hbf : bef q c k i
    · simp only [hbf, Bool.false_eq_true, if_false] at hst
      simp only [evA, if_true, if_false, beq_false, simprocAttr]
      exact kFor_go (by first | trivial | omega) ⟨n, ⟨by omega, by omega⟩, _, _, by rw [wrap_succ (by omega)]⟩
    · simp only [hbf, if_true] at hst
      simp only [evA, if_true, if_false, beq_false, simprocAttr]
      exact kFor_go (by first | trivial | omega) ⟨n + 1, ⟨by omega, by omega⟩, _, _, by rw [wrap_succ (by omega), wrap_succ (by omega)]⟩

/-- the document's kept -/
theorem c87 (q : QL) (hq : QSz q) (h62 : q.ls.length < 2 ^ 62) (g : List Int) (c i : Nat) (hg : g.length = q.ls.length) (hc : c < q.cs.length) (hi : i < q.ls.length) : PC Try.prog 87 [qV q, ints g, .i c, .i i] (.i (cnt q.ls.length fun k => g[k]?.getD 0 == (c : Int) && bef q c k i)) := by
  refine ⟨AC_FE (fok87 true) (Nat.le_of_ble_eq_true rfl) ?_, rfl⟩
  have hls := h62
  simp only [ic87, evA, if_true, if_false, beq_false, simprocAttr]
  refine IL_for q.ls.length (fun k s => ∃ n : Nat, (n = cnt k (fun k => g[k]?.getD 0 == (c : Int) && bef q c k i) ∧ n ≤ k) ∧ ∃ v8 v9, s = ⟨[qV q, ints g, .i c, .i i, .ptr 0 0, .i 0, .i n, .i k, v8, v9], [.cells [cenL q.cs, leaL q.ls]]⟩) ?_ 0 (Nat.zero_le _) ⟨0, ⟨rfl, by omega⟩, _, _, rfl⟩
  rintro k s hk ⟨n, ⟨hn, hnk⟩, v8, v9, rfl⟩
  by_cases h : k < q.ls.length
  rotate_left
  · have : k = q.ls.length := by omega
    subst this
    have hE : ((cnt q.ls.length fun k => g[k]?.getD 0 == (c : Int) && bef q c k i : Nat) : Int) = (n : Int) := by rw [hn]
    have hkg : ¬ q.ls.length < g.length := by omega
    simp only [ic87l0, Int.ofNat_lt, hkg, hE, evA, if_true, if_false, beq_false, simprocAttr]
    exact frz
  have hkg : k < g.length := by omega
  have hst := cnt_succ k (fun k => g[k]?.getD 0 == (c : Int) && bef q c k i)
  simp only [ic87l0, Int.ofNat_lt, hkg, evA, if_true, if_false, beq_false, simprocAttr]
  cases hb : (g[k]?.getD 0 == (c : Int))
  · simp only [hb, Bool.false_and, Bool.false_eq_true, if_false] at hst
    simp only [evA, if_true, if_false, beq_false, simprocAttr]
    exact kFor_go (by first | trivial | omega) ⟨n, ⟨by omega, by omega⟩, _, _, by rw [wrap_succ (by omega)]⟩
  · simp only [evA, if_true, if_false, beq_false, simprocAttr]
    refine (c65 q hq c k i hc h hi).call frz ?_
    cases hbf : bef q c k i
    · simp only [hb, hbf, Bool.and_false, Bool.false_eq_true, if_false] at hst
      simp only [evA, if_true, if_false, beq_false, simprocAttr]
      exact kFor_go (by first | trivial | omega) ⟨n, ⟨by omega, by omega⟩, _, _, by rw [wrap_succ (by omega)]⟩
    · simp only [hb, hbf, Bool.and_self, if_true] at hst
      simp only [evA, if_true, if_false, beq_false, simprocAttr]
      exact kFor_go (by first | trivial | omega) ⟨n + 1, ⟨by omega, by omega⟩, _, _, by rw [wrap_succ (by omega), wrap_succ (by omega)]⟩

/-- the document's Ints -/
theorem c20 (xs ys : List Int) (hx : xs.length < 2 ^ 63) : PC Try.prog 20 [ints xs, ints ys] (.b (decide (xs = ys))) := by
  refine ⟨AC_FE (fok20 true) (Nat.le_of_ble_eq_true rfl) ?_, rfl⟩
  simp only [ic20, evA, if_true, if_false, beq_false, simprocAttr]
  by_cases hl : xs.length = ys.length
  · simp only [hl, evA, if_true, if_false, beq_false, simprocAttr]
    refine IL_for ys.length (fun i s => (∀ j, j < i → xs[j]?.getD 0 = ys[j]?.getD 0) ∧ ∃ v5 v6, s = ⟨[ints xs, ints ys, .b false, .i i, .b false, v5, v6], []⟩) ?_ 0 (Nat.zero_le _) ⟨by omega, _, _, rfl⟩
    rintro i s hi ⟨hall, v5, v6, rfl⟩
    by_cases h : i < ys.length
    · have hxl : i < xs.length := by omega
      simp only [ic20l0, Int.ofNat_lt, h, hxl, evA, if_true, if_false, beq_false, simprocAttr]
      refine DW_s [] [] hmix (by kernel_rfl) rfl ?_
      simp only [h, hxl, evA, if_true, if_false, beq_false, simprocAttr]
      by_cases he : xs[i]?.getD 0 = ys[i]?.getD 0
      · have hb : (xs[i]?.getD 0 != ys[i]?.getD 0) = false := by simp [he]
        simp only [hb, evA, if_true, if_false, beq_false, simprocAttr]
        refine kFor_go (by first | trivial | omega) ⟨fun j hj => ?_, _, _, by rw [wrap_in (by omega)]; rfl⟩
        rcases Nat.lt_succ_iff_lt_or_eq.1 hj with hj | rfl
        · exact hall j hj
        · exact he
      · have hb : (xs[i]?.getD 0 != ys[i]?.getD 0) = true := by simp [he]
        have hne : decide (xs = ys) = false := by simp; intro h; exact he (by rw [h])
        simp only [hb, hne, evA, if_true, if_false, beq_false, simprocAttr]
        exact frz
    · have hi' : i = ys.length := by omega
      have hxl : ¬ i < xs.length := by omega
      have heq : decide (xs = ys) = true := by
        simp
        apply List.ext_getElem (by omega)
        intro j h1 h2
        have := hall j (by omega)
        simpa [h1, h2] using this
      simp only [ic20l0, Int.ofNat_lt, hxl, heq, evA, if_true, if_false, beq_false, simprocAttr]
      exact frz
  · have hb : ((xs.length : Int) != ys.length) = true := by simp; omega
    have hne : decide (xs = ys) = false := by simp; intro h; exact hl (by rw [h])
    simp only [hb, hne, evA, if_true, if_false, beq_false, simprocAttr]
    exact frz

/-- the order of a centre, by the ranks of the first learners -/
def ordF (q : QL) (c : Nat) : Nat → List Int
  | 0 => List.replicate q.ls.length 0
  | i + 1 => (ordF q c i).set (Mk.rankOf q.ls.length (bef q c) i) i
def ordQ (q : QL) (c : Nat) : List Int := ordF q c q.ls.length
theorem ordF_len (q : QL) (c : Nat) : ∀ i, (ordF q c i).length = q.ls.length
  | 0 => by simp [ordF]
  | i + 1 => by simp [ordF, ordF_len q c i]

def eQ (q : QL) : Int := (checkQ q).2.2
def ordV (q : QL) (c : Int) : AV := if eQ q = 0 then (if inB c 0 ((q.cs.length : Int) - 1) = true then .tup [ints (ordQ q c.toNat), .i 0] else .tup [ints [], .i 4]) else .tup [ints [], .i (eQ q)]
theorem ordV_cl (q : QL) (c : Int) : locsIn 0 (ordV q c) = true := by unfold ordV; split <;> (try split) <;> rfl

theorem rank_lt_n {q : QL} {c i : Nat} (hi : i < q.ls.length) : Mk.rankOf q.ls.length (bef q c) i < q.ls.length := by
  unfold Mk.rankOf
  have h1 : cnt q.ls.length (fun k => bef q c k i) + 1 ≤ cnt q.ls.length (fun _ => true) := cnt_lt (k := i) (fun _ _ _ => rfl) hi (bef_irr q c i) rfl
  have := cnt_le (n := q.ls.length) (P := fun _ => true)
  omega

/-- the document's Order -/
theorem c19 (q : QL) (hq : QSz q) (c : Int) : PC Try.prog 19 [qV q, .i c] (ordV q c) := by
  refine ⟨AC_FE (fok19 true) (Nat.le_of_ble_eq_true rfl) ?_, ordV_cl q c⟩
  have hcs := hq.cs
  have hls := hq.ls
  have hw : IntKind.i64.wrap ((q.cs.length : Int) - 1) = (q.cs.length : Int) - 1 := wrap_in (by omega)
  simp only [ic19, evA, if_true, if_false, beq_false, simprocAttr]
  refine (c17 q hq).call frz ?_
  have hcv : chkV q = .tup [.i (checkQ q).1, .i (checkQ q).2.1, .i (eQ q)] := rfl
  rw [hcv]
  by_cases h0 : eQ q = 0
  rotate_left
  · have hb : (eQ q == 0) = false := by simp [h0]
    have hb2 : (eQ q != 0) = true := by simp [h0]
    have hv : ordV q c = .tup [ints [], .i (eQ q)] := by unfold ordV; rw [if_neg h0]
    simp only [hb, hb2, hv, evA, if_true, if_false, beq_false, simprocAttr]
    exact frz
  have hval := valid_iff (q := q) h0
  simp only [h0, hw, evA, if_true, if_false, beq_false, simprocAttr]
  refine (c45 _ _ _).call frz ?_
  cases h1 : inB c 0 ((q.cs.length : Int) - 1)
  · have hv : ordV q c = .tup [ints [], .i 4] := by unfold ordV; rw [if_pos h0, if_neg (by rw [h1]; decide)]
    simp only [hv, evA, if_true, if_false, beq_false, simprocAttr]
    exact frz
  have h1' := inB_iff.1 h1
  have hv : ordV q c = .tup [ints (ordQ q c.toNat), .i 0] := by unfold ordV; rw [if_pos h0, if_pos h1]
  obtain ⟨d, rfl⟩ : ∃ d : Nat, c = (d : Int) := ⟨c.toNat, by omega⟩
  have hd : d < q.cs.length := by omega
  rw [Int.toNat_natCast] at hv
  have hmk : f_mkslice 1 8 [.i 0] [.i q.ls.length, .i q.ls.length] [.cells [cenL q.cs, leaL q.ls]] = some (.sl 1 0 q.ls.length 1, [.cells [cenL q.cs, leaL q.ls], .cells ((List.replicate q.ls.length (0 : Int)).map AV.i)]) := by
    have : (q.ls.length : Int) * 8 ≤ 2 ^ 46 := by omega
    simp [f_mkslice, this, zcells]; omega
  simp only [hmk, evA, if_true, if_false, beq_false, simprocAttr]
  have h8 := hval.1.2.2
  refine IL_for q.ls.length (fun i s => ∃ v8 v11, s = ⟨[qV q, .i d, .ptr 0 0, .cv .nils, .i 0, .i 0, .sl 1 0 q.ls.length 1, .i i, v8, .b false, .b false, v11], [.cells [cenL q.cs, leaL q.ls], .cells ((ordF q d i).map AV.i)]⟩) ?_ 0 (Nat.zero_le _) ⟨_, _, rfl⟩
  rintro i s hi ⟨v8, v11, rfl⟩
  by_cases h : i < q.ls.length
  · have hr := rank_lt_n (q := q) (c := d) h
    have hrl := ordF_len q d i
    have hwr : IntKind.i64.wrap ((rankQ q d i : Int) - 1) = (Mk.rankOf q.ls.length (bef q d) i : Int) := by
      unfold rankQ
      rw [wrap_in (by omega)]; omega
    simp only [ic19l0, Int.ofNat_lt, h, evA, if_true, if_false, beq_false, simprocAttr]
    refine (c37 q hq (by have := hval.1.2.2; omega) d i hd h).call frz ?_
    have hset : ∀ k : Nat, ((ordF q d i).map AV.i).set k (.i i) = ((ordF q d i).set k (i : Int)).map AV.i := fun k => by rw [List.map_set]
    have hbd : 0 + Mk.rankOf q.ls.length (bef q d) i + 1 ≤ ((ordF q d i).map AV.i).length := by rw [List.length_map, hrl]; omega
    simp only [hwr, hr, hset, hrl, hbd, Nat.zero_add, show Mk.rankOf q.ls.length (bef q d) i + 1 ≤ q.ls.length from hr, evA, if_true, if_false, beq_false, simprocAttr]
    exact kFor_go (by first | trivial | omega) ⟨_, _, by rw [wrap_succ (by omega)]; rfl⟩
  · have : i = q.ls.length := by omega
    subst this
    have hrl := ordF_len q d q.ls.length
    simp only [ic19l0, Int.ofNat_lt, h, hv, evA, if_true, if_false, beq_false, simprocAttr]
    exact .tup (.cons (frz_ints' (fun _ => trivial) hrl.symm rfl) (.cons (.c (.c _ trivial)) .nil))

end Go.Proofs.Ytjgolcbpgmlilaa.AM

namespace Go.Proofs.Ytjgolcbpgmlilaa.AM
open Go Go.Proofs.Ytjgolcbpgmlilaa.Qu Pl
set_option linter.unusedVariables false
set_option linter.unusedSimpArgs false

def listN (n : Nat) (f : Nat → Int) : List Int := (List.range n).map f
theorem listN_len (n : Nat) (f : Nat → Int) : (listN n f).length = n := by simp [listN]
theorem listN_get {n : Nat} {f : Nat → Int} {i : Nat} (h : i < n) : (listN n f)[i]?.getD 0 = f i := by simp [listN, h]
theorem listN_set {n : Nat} {f : Nat → Int} {i : Nat} (h : i < n) (z : Int) : (listN n f).set i z = listN n (fun k => if k = i then z else f k) := by
  apply List.ext_getElem
  · simp [listN]
  · intro k h1 h2
    simp only [listN, List.getElem_set, List.getElem_map, List.getElem_range]
    by_cases e : i = k
    · subst e; simp
    · rw [if_neg e, if_neg (Ne.symm e)]
theorem listN_zero (n : Nat) : List.replicate n (0 : Int) = listN n fun _ => 0 := by
  apply List.ext_getElem <;> simp [listN]
theorem listN_congr {n : Nat} {f g : Nat → Int} (h : ∀ i, i < n → f i = g i) : listN n f = listN n g := by
  unfold listN; exact List.map_congr_left fun i hi => h i (by simpa using hi)
theorem listN_app {n : Nat} {f : Nat → Int} : listN (n + 1) f = listN n f ++ [f n] := by simp [listN, List.range_succ]

/-- what each learner asks for -/
def wantF (q : QL) (p : Nat → Nat) (i : Nat) : Int := numOf ((mk q).has p i)

section
set_option linter.unusedSectionVars false
variable {q : QL} (hL : ∀ i, i < q.ls.length → LeaOk q i)
include hL

theorem want_some {p : Nat → Nat} {i : Nat} (hi : i < q.ls.length) (h : p i < (q.ls[i]!).wi.length) : wantF q p i = (q.ls[i]!).wi[p i]?.getD 0 := by
  show numOf (((q.ls[i]!).wi.map Int.toNat)[p i]?) = _
  rw [toNat_get (wi_pos hL hi), List.getElem?_eq_getElem h]; rfl
omit hL in
theorem want_none {p : Nat → Nat} {i : Nat} (hi : i < q.ls.length) (h : ¬ p i < (q.ls[i]!).wi.length) : wantF q p i = -1 := by
  show numOf (((q.ls[i]!).wi.map Int.toNat)[p i]?) = _
  rw [List.getElem?_eq_none (by simpa using h)]; rfl
theorem want_has {p : Nat → Nat} {i d : Nat} (hi : i < q.ls.length) : (wantF q p i == (d : Int)) = ((mk q).has p i == some d) := by
  unfold wantF
  cases h : (mk q).has p i with
  | none => simp [numOf]
  | some c => rw [Bool.eq_iff_iff]; simp [numOf]; omega
theorem kept_eq {p : Nat → Nat} {i d : Nat} (hi : i < q.ls.length) : cnt q.ls.length (fun k => (listN q.ls.length (wantF q p))[k]?.getD 0 == (d : Int) && bef q d k i) = (mk q).kept p d i := by
  unfold Mk.kept
  apply cnt_congr
  intro k hk
  rw [listN_get hk, want_has hL hk, mk_lt hL hi hk]
end

/-- as many wishes as learners were turned away at, in the middle of a round -/
def midF (q : QL) (p : Nat → Nat) (i k : Nat) : Int := if k < i then (((mk q).step p k : Nat) : Int) else ((p k : Nat) : Int)


theorem mid_0 (q : QL) (p : Nat → Nat) : listN q.ls.length (fun i => (p i : Int)) = listN q.ls.length (midF q p 0) := listN_congr fun i hi => by simp [midF]
theorem mid_n (q : QL) (p : Nat → Nat) : listN q.ls.length (midF q p q.ls.length) = listN q.ls.length (fun i => ((mk q).step p i : Int)) := listN_congr fun i hi => by simp [midF, hi]
theorem mid_stay {q : QL} {p : Nat → Nat} {i : Nat} (h : (mk q).away p i = false) : listN q.ls.length (midF q p i) = listN q.ls.length (midF q p (i + 1)) := listN_congr fun k hk => by
  unfold midF
  by_cases e : k = i
  · subst e
    rw [if_neg (Nat.lt_irrefl _), if_pos (Nat.lt_succ_self _)]
    unfold Mk.step
    rw [h]; rfl
  · by_cases h1 : k < i
    · rw [if_pos h1, if_pos (by omega)]
    · rw [if_neg h1, if_neg (by omega)]
theorem mid_go {q : QL} {p : Nat → Nat} {i : Nat} (hi : i < q.ls.length) (h : (mk q).away p i = true) : (listN q.ls.length (midF q p i)).set i ((p i + 1 : Nat) : Int) = listN q.ls.length (midF q p (i + 1)) := by
  rw [listN_set hi]
  refine listN_congr fun k hk => ?_
  unfold midF
  by_cases e : k = i
  · subst e
    rw [if_pos rfl, if_pos (Nat.lt_succ_self _)]
    unfold Mk.step
    rw [h]; rfl
  · rw [if_neg e]
    by_cases h1 : k < i
    · rw [if_pos h1, if_pos (by omega)]
    · rw [if_neg h1, if_neg (by omega)]
theorem mid_at {q : QL} {p : Nat → Nat} {i : Nat} (hi : i < q.ls.length) : (listN q.ls.length (midF q p i))[i]?.getD 0 = ((p i : Nat) : Int) := by
  rw [listN_get hi]; unfold midF; rw [if_neg (Nat.lt_irrefl _)]

/-- the document's best distribution -/
theorem c51 (q : QL) (hq : QSz q) (hn8 : q.ls.length < 2 ^ 40) (hL : ∀ i, i < q.ls.length → LeaOk q i) (hC : ∀ c, c < q.cs.length → CenOk q c) : PC Try.prog 51 [qV q] (ints (giveQ q)) := by
  refine ⟨AC_FE (fok51 true) (Nat.le_of_ble_eq_true rfl) ?_, rfl⟩
  have hcs := hq.cs
  have hls := hq.ls
  obtain ⟨K, hK1, hK2⟩ := Mk.iter_stops (mk q)
  have hmk : f_mkslice 1 8 [.i 0] [.i q.ls.length, .i q.ls.length] [.cells [cenL q.cs, leaL q.ls]] = some (.sl 1 0 q.ls.length 1, [.cells [cenL q.cs, leaL q.ls], .cells ((listN q.ls.length fun i => ((mk q).iter 0 i : Int)).map AV.i)]) := by
    have h3 : (listN q.ls.length fun i => ((mk q).iter 0 i : Int)) = List.replicate q.ls.length 0 := (listN_zero _).symm
    rw [h3]
    exact mk_ints hn8 _
  simp only [ic51, hmk, evA, if_true, if_false, beq_false, simprocAttr]
  refine IL_for K (fun t s => ∃ σ v4 v5 v6 v7 v8 v9 v10 v11 v12 v13, (rowOf σ 0 = some [cenL q.cs, leaL q.ls] ∧ rowOf σ 1 = some ((listN q.ls.length fun i => ((mk q).iter t i : Int)).map AV.i) ∧ 2 ≤ σ.length) ∧ s = ⟨[qV q, .ptr 0 0, .cv .nils, .sl 1 0 q.ls.length 1, v4, v5, v6, v7, v8, v9, v10, v11, v12, v13], σ⟩) ?_ 0 (Nat.zero_le _) ⟨_, _, _, _, _, _, _, _, _, _, _, ⟨rfl, rfl, Nat.le_refl _⟩, rfl⟩
  rintro t s ht ⟨σ, v4, v5, v6, v7, v8, v9, v10, v11, v12, v13, ⟨hr0, hr1, hsz⟩, rfl⟩
  have hlen := Mk.iter_len (M := mk q) t
  obtain ⟨p, hp⟩ : ∃ p, p = (mk q).iter t := ⟨_, rfl⟩
  rw [← hp] at hr1 hlen
  simp only [ic51l2, evA, if_true, if_false, beq_false, simprocAttr]
  refine IL_for q.ls.length (fun i s => ∃ σ v v6 v9 v10, (rowOf σ 0 = some [cenL q.cs, leaL q.ls] ∧ rowOf σ 1 = some ((listN q.ls.length fun i => (p i : Int)).map AV.i) ∧ AccFrom 2 σ v (listN i (wantF q p))) ∧ s = ⟨[qV q, .ptr 0 0, .cv .nils, .sl 1 0 q.ls.length 1, v, .i i, v6, v7, v8, v9, v10, v11, v12, v13], σ⟩) ?_ 0 (Nat.zero_le _) ⟨_, _, _, _, _, ⟨hr0, hr1, AccFrom.nil hsz⟩, rfl⟩
  clear hr0 hr1 hsz σ
  rintro i s hi ⟨σ, v, v6, v9, v10, ⟨hr0, hr1, hacc⟩, rfl⟩
  by_cases h : i < q.ls.length
  · have hpi := hlen i h
    have hlp : i < (listN q.ls.length fun i => (p i : Int)).length := by rw [listN_len]; exact h
    have hgp : (listN q.ls.length fun i => (p i : Int))[i]?.getD 0 = (p i : Int) := listN_get h
    simp only [ic51l1, Int.ofNat_lt, h, evA, if_true, if_false, beq_false, simprocAttr]
    refine DW_s [] [] hmix (by kernel_rfl) rfl ?_
    simp only [hr0, hr1, h, hlp, hgp, ia_rsl h, lea_4 h, Nat.zero_add, Int.ofNat_lt, evA, if_true, if_false, beq_false, simprocAttr]
    have hll := listN_len i (wantF q p)
    by_cases hw : p i < (q.ls[i]!).wi.length
    · have hws := want_some hL h hw
      simp only [hw, evA, if_true, if_false, beq_false, simprocAttr]
      refine DW_s [] [] hmix (by kernel_rfl) rfl ?_
      simp only [hr0, hr1, h, hw, hlp, hgp, ia_rsl h, lea_4 h, Nat.zero_add, ← hws, evA, if_true, if_false, beq_false, simprocAttr]
      obtain ⟨v', σ', he, hacc', hlow⟩ := accFrom_append (wantF q p i) hacc (by omega)
      simp only [f_bslice, he, evA, if_true, if_false, beq_false, simprocAttr]
      refine kFor_go (by first | trivial | omega) ⟨σ', v', _, _, _, ⟨by rw [hlow 0 (by omega)]; exact hr0, by rw [hlow 1 (by omega)]; exact hr1, by rw [listN_app]; exact hacc'⟩, by rw [wrap_succ (by omega)]⟩
    · have hws := want_none (p := p) h hw
      simp only [hw, evA, if_true, if_false, beq_false, simprocAttr]
      obtain ⟨v', σ', he, hacc', hlow⟩ := accFrom_append (wantF q p i) hacc (by omega)
      rw [hws] at he
      simp only [f_bslice, he, evA, if_true, if_false, beq_false, simprocAttr]
      refine kFor_go (by first | trivial | omega) ⟨σ', v', _, _, _, ⟨by rw [hlow 0 (by omega)]; exact hr0, by rw [hlow 1 (by omega)]; exact hr1, by rw [listN_app]; exact hacc'⟩, by rw [wrap_succ (by omega)]⟩
  have : i = q.ls.length := by omega
  subst this
  simp only [ic51l1, Int.ofNat_lt, h, evA, if_true, if_false, beq_false, simprocAttr]
  rw [mid_0] at hr1
  refine IL_for q.ls.length (fun i s => ∃ σ v6 v9 v10 v11 v12, (rowOf σ 0 = some [cenL q.cs, leaL q.ls] ∧ rowOf σ 1 = some ((listN q.ls.length (midF q p i)).map AV.i) ∧ AccFrom 2 σ v (listN q.ls.length (wantF q p))) ∧ s = ⟨[qV q, .ptr 0 0, .cv .nils, .sl 1 0 q.ls.length 1, v, .i q.ls.length, v6, .b (anyN (fun j => (mk q).away p j) i), .i i, v9, v10, v11, v12, v13], σ⟩) ?_ 0 (Nat.zero_le _) ⟨_, _, _, _, _, _, ⟨hr0, hr1, hacc⟩, rfl⟩
  clear hr0 hr1 hacc σ
  rintro i s hi' ⟨σ, v6, v9, v10, v11, v12, ⟨hr0, hr1, hacc⟩, rfl⟩
  have hwl := listN_len q.ls.length (wantF q p)
  by_cases h : i < q.ls.length
  rotate_left
  · have : i = q.ls.length := by omega
    subst this
    have hlenv : f_len false [v] σ = some (.i q.ls.length, σ) := by
      rcases hacc.2 with ⟨rfl, h0⟩ | ⟨l, hl, rfl, hr⟩
      · rw [h0] at hwl; simp at hwl; rw [← hwl]; rfl
      · rw [hwl]; rfl
    simp only [ic51l0, hlenv, Int.ofNat_lt, h, evA, if_true, if_false, beq_false, simprocAttr]
    cases hany : anyN (fun j => (mk q).away p j) q.ls.length
    · rw [anyN_false] at hany
      have hbest : (mk q).Best p := by rw [hp]; exact Mk.iter_best (mk_inj hL) (fun i hi => by rw [← hp]; exact hany i hi)
      have hg : listN q.ls.length (wantF q p) = giveQ q := giveQ_of hL hbest
      rw [hg] at hacc
      simp only [evA, if_true, if_false, beq_false, simprocAttr]
      exact acc_frz (fun _ => trivial) hacc.acc
    · simp only [evA, if_true, if_false, beq_false, simprocAttr]
      rw [anyN_true] at hany
      obtain ⟨i, h1, h2⟩ := hany
      have htK : t < K := by
        rcases Nat.lt_or_ge t K with h3 | h3
        · exact h3
        · have : t = K := by omega
          rw [hp, this] at h2
          rw [hK1 i h1] at h2; cases h2
      rw [mid_n] at hr1
      exact kFor_go htK ⟨_, _, _, _, _, _, _, _, _, _, _, ⟨hr0, by rw [hr1, hp]; rfl, hacc.1⟩, rfl⟩
  rcases hacc.2 with ⟨_, h0⟩ | ⟨l, hl2, rfl, hrl⟩
  · rw [h0] at hwl; simp at hwl; omega
  have hwi : i < (listN q.ls.length (wantF q p)).length := by omega
  have hgi : (listN q.ls.length (wantF q p))[i]?.getD 0 = wantF q p i := listN_get h
  have hst := anyN_succ (fun j => (mk q).away p j) i
  simp only [ic51l0, Int.ofNat_lt, hwi, evA, if_true, if_false, beq_false, simprocAttr]
  refine DW_s [13] [] hmix (by kernel_rfl) rfl ?_
  simp only [hwi, hrl, hgi, Nat.zero_add, evA, if_true, if_false, beq_false, simprocAttr]
  cases hh : (mk q).has p i with
  | none =>
    have hw : wantF q p i = -1 := by unfold wantF; rw [hh]; rfl
    have haw : (mk q).away p i = false := by unfold Mk.away; rw [hh]
    rw [haw, Bool.or_false] at hst
    rw [mid_stay haw] at hr1
    simp only [hw, evA, if_true, if_false, beq_false, simprocAttr]
    exact kFor_go (by first | trivial | omega) ⟨σ, _, _, _, _, _, ⟨hr0, hr1, hacc⟩, by rw [wrap_succ (by omega), hst]⟩
  | some d =>
    have hw : wantF q p i = (d : Int) := by unfold wantF; rw [hh]; rfl
    have hdc : d < q.cs.length := by
      have : (q.ls[i]!).wi[p i]? ≠ none := fun e => by
        have h2 : (mk q).has p i = none := by
          show ((q.ls[i]!).wi.map Int.toNat)[p i]? = none
          rw [List.getElem?_map, e]; rfl
        rw [hh] at h2; cases h2
      have hlt : p i < (q.ls[i]!).wi.length := by
        rcases Nat.lt_or_ge (p i) (q.ls[i]!).wi.length with h3 | h3
        · exact h3
        · exact absurd (List.getElem?_eq_none h3) this
      have h3 := want_some hL h hlt
      rw [hw] at h3
      have h4 := (hL i h).wi _ (List.getElem_mem hlt)
      rw [List.getElem?_eq_getElem hlt] at h3
      simp only [Option.getD_some] at h3
      omega
    have hge : ((d : Int) ≥ 0) = True := eq_true (by omega)
    have haw : (mk q).away p i = decide (((mk q).kept p d i : Int) ≥ (q.cs[d]!).pl) := by
      unfold Mk.away
      rw [hh]
      simp only
      have := (hC d hdc).pl
      rw [Bool.eq_iff_iff, Nat.ble_eq, decide_eq_true_eq]
      show (q.cs[d]!).pl.toNat ≤ _ ↔ _
      omega
    simp only [hw, hge, hwi, hrl, hgi, hr0, Nat.zero_add, evA, if_true, if_false, beq_false, simprocAttr]
    have hfz : FrzVs anyC σ [.agg [cenL q.cs, leaL q.ls], .sl l 0 (listN q.ls.length (wantF q p)).length 1, .i d, .i i] [qV q, ints (listN q.ls.length (wantF q p)), .i d, .i i] :=
      .cons frz (.cons (frz_ints (fun _ => trivial) hrl) frz)
    refine kK_keep ((c87 q hq (by omega) _ d i hwl hdc h).call hfz ⟨rfl, rfl⟩) rfl ?_
    rw [kept_eq hL h]
    have hmi := mid_at (q := q) (p := p) h
    have hml := listN_len q.ls.length (midF q p i)
    simp only [hr0, hwi, hrl, hgi, hw, ia_rsl hdc, cen_1 hdc, Nat.zero_add, ← haw, evA, if_true, if_false, beq_false, simprocAttr]
    cases hb : (mk q).away p i
    · rw [hb, Bool.or_false] at hst
      rw [mid_stay hb] at hr1
      simp only [evA, if_true, if_false, beq_false, simprocAttr]
      exact kFor_go (by first | trivial | omega) ⟨σ, _, _, _, _, _, ⟨hr0, hr1, hacc⟩, by rw [wrap_succ (by omega), hst]⟩
    · rw [hb, Bool.or_true] at hst
      have hmi' : i < (listN q.ls.length (midF q p i)).length := by omega
      have hpl := hlen i h
      have hwip : ((mk q).w i).length = (q.ls[i]!).wi.length := by simp [mk]
      have hwii := hq.wi i h
      have hplt : p i < ((mk q).w i).length := (List.getElem?_eq_some_iff.1 hh).1
      have hws : IntKind.i64.wrap ((p i : Int) + 1) = ((p i + 1 : Nat) : Int) := wrap_succ (by omega)
      have hset : ((listN q.ls.length (midF q p i)).map AV.i).set i (.i ((p i + 1 : Nat) : Int)) = (listN q.ls.length (midF q p (i + 1))).map AV.i := by rw [← mid_go h hb, List.map_set]
      have hbd : i + 1 ≤ ((listN q.ls.length (midF q p i)).map AV.i).length := by rw [List.length_map]; omega
      simp only [h, hr1, hmi', hmi, hws, hset, hbd, hml, Nat.zero_add, show i + 1 ≤ q.ls.length from h, evA, if_true, if_false, beq_false, simprocAttr]
      exact kFor_go (by first | trivial | omega) ⟨_, _, _, _, _, _, ⟨by rw [rowOf_set_ne (by omega)]; exact hr0, rowOf_set_self hr1, hacc.store (by omega) _⟩, by rw [wrap_succ (by omega), hst]⟩

end Go.Proofs.Ytjgolcbpgmlilaa.AM

namespace Go.Proofs.Ytjgolcbpgmlilaa.AM
open Go Go.Proofs.Ytjgolcbpgmlilaa.Qu Pl
set_option linter.unusedVariables false
set_option linter.unusedSimpArgs false

/-- what is known of a list that breaks no rule, but for the names -/
abbrev QOk (q : QL) : Prop := q.cs.length ≤ 5 ∧ q.ls.length ≤ 8 ∧ (∀ i, i < q.ls.length → LeaOk q i) ∧ (∀ c, c < q.cs.length → CenOk q c)
theorem val_of {q : QL} (h : eQ q = 0) : q.cs.length ≤ 5 ∧ q.ls.length ≤ 8 ∧ (∀ i, i < q.ls.length → LeaOk q i) ∧ (∀ c, c < q.cs.length → CenOk q c) := by
  obtain ⟨h1, h2, h3, _⟩ := valid_iff (q := q) h
  exact ⟨h1.2.1, h1.2.2, fun i hi => leaE_ok (h3 i hi), fun c hc => cenE_ok (h2 c hc)⟩

noncomputable def giveV (q : QL) : AV := if eQ q = 0 then .tup [ints (giveQ q), .i 0] else .tup [ints [], .i (eQ q)]
theorem giveV_cl (q : QL) : locsIn 0 (giveV q) = true := by unfold giveV; split <;> rfl

theorem chkV_e (q : QL) : chkV q = .tup [.i (checkQ q).1, .i (checkQ q).2.1, .i (eQ q)] := rfl

/-- the document's Give -/
theorem c23 (q : QL) (hq : QSz q) : PA Try.prog 23 [qV q] (giveV q) := by
  refine ⟨AC_FE (fok23 true) (Nat.le_of_ble_eq_true rfl) ?_, giveV_cl q, rfl⟩
  simp only [ic23, evA, if_true, if_false, beq_false, simprocAttr]
  refine (c17 q hq).call frz ?_
  rw [chkV_e]
  by_cases h0 : eQ q = 0
  · obtain ⟨h1, h2, h3, h4⟩ := val_of h0
    have hv : giveV q = .tup [ints (giveQ q), .i 0] := by unfold giveV; rw [if_pos h0]
    simp only [h0, hv, evA, if_true, if_false, beq_false, simprocAttr]
    refine (c51 q hq (by omega) h3 h4).call frz ?_
    simp only [evA, if_true, if_false, beq_false, simprocAttr]
    exact frz
  · have hb : (eQ q != 0) = true := by simp [h0]
    have hv : giveV q = .tup [ints [], .i (eQ q)] := by unfold giveV; rw [if_neg h0]
    simp only [hb, hv, evA, if_true, if_false, beq_false, simprocAttr]
    exact frz

/-- whether a learner complains about their n-th wish -/
def badQ (q : QL) (g : List Int) (i n : Nat) : Bool :=
  decide ((g.count ((q.ls[i]!).wi[n]?.getD 0) : Int) < (q.cs[((q.ls[i]!).wi[n]?.getD 0).toNat]!).pl) || anyN (fun k => g[k]?.getD 0 == (q.ls[i]!).wi[n]?.getD 0 && bef q ((q.ls[i]!).wi[n]?.getD 0).toNat i k) g.length
def complQ (q : QL) (g : List Int) (i : Nat) : Int :=
  if idxN (badQ q g i) (place (q.ls[i]!).wi (g[i]?.getD 0)) < 0 then -1 else (q.ls[i]!).wi[(idxN (badQ q g i) (place (q.ls[i]!).wi (g[i]?.getD 0))).toNat]?.getD 0
theorem complQ_at {q : QL} {g : List Int} {i n : Nat} (h : n < place (q.ls[i]!).wi (g[i]?.getD 0)) (hall : ∀ j, j < n → badQ q g i j = false) (hb : badQ q g i n = true) : complQ q g i = (q.ls[i]!).wi[n]?.getD 0 := by
  unfold complQ
  rw [idxN_some h hall hb, if_neg (by omega), Int.toNat_natCast]
theorem complQ_none {q : QL} {g : List Int} {i : Nat} (hall : ∀ j, j < place (q.ls[i]!).wi (g[i]?.getD 0) → badQ q g i j = false) : complQ q g i = -1 := by
  unfold complQ
  rw [idxN_none hall]; rfl

/-- the document's complaint -/
theorem c56 (q : QL) (hq : QSz q) (hL : ∀ i, i < q.ls.length → LeaOk q i) (g : List Int) (hg : g.length = q.ls.length) (i : Nat) (hi : i < q.ls.length) : PC Try.prog 56 [qV q, ints g, .i i] (.i (complQ q g i)) := by
  refine ⟨AC_FE (fok56 true) (Nat.le_of_ble_eq_true rfl) ?_, rfl⟩
  have hcs := hq.cs
  have hls := hq.ls
  have hwi := hq.wi i hi
  have hig : i < g.length := by omega
  have hpl := place_le (q.ls[i]!).wi (g[i]?.getD 0)
  simp only [ic56, ia_rsl hi, lea_ld hi, evA, if_true, if_false, beq_false, simprocAttr]
  refine IL_for (place (q.ls[i]!).wi (g[i]?.getD 0)) (fun n s => (∀ j, j < n → badQ q g i j = false) ∧ ∃ v7 v8 v9 v10 v11 v12, s = ⟨[qV q, ints g, .i i, .ptr 0 0, .i 0, .ptr 1 0, .i n, v7, v8, v9, v10, v11, v12], [.cells [cenL q.cs, leaL q.ls], .cells [.cv (.str (q.ls[i]!).nm), .i (q.ls[i]!).si, .i (q.ls[i]!).ho, .i (q.ls[i]!).fa, ints (q.ls[i]!).wi]]⟩) ?_ 0 (Nat.zero_le _) ⟨by omega, _, _, _, _, _, _, rfl⟩
  rintro n s hn ⟨hall, v7, v8, v9, v10, v11, v12, rfl⟩
  simp only [ic56l1, evA, if_true, if_false, beq_false, simprocAttr]
  refine DW_s [6] [] hmix (by kernel_rfl) rfl ?_
  simp only [hig, evA, if_true, if_false, beq_false, simprocAttr]
  refine kK_keep ((c35 (q.ls[i]!) (g[i]?.getD 0) hwi).call frz ⟨rfl, rfl⟩) rfl ?_
  by_cases h : n < place (q.ls[i]!).wi (g[i]?.getD 0)
  rotate_left
  · have : n = place (q.ls[i]!).wi (g[i]?.getD 0) := by omega
    simp only [Int.ofNat_lt, h, complQ_none (this ▸ hall), evA, if_true, if_false, beq_false, simprocAttr]
    exact frz
  have hnw : n < (q.ls[i]!).wi.length := by omega
  have hc := (hL i hi).wi _ (List.getElem_mem hnw)
  obtain ⟨c, hce⟩ : ∃ c : Nat, (q.ls[i]!).wi[n]?.getD 0 = (c : Int) := ⟨((q.ls[i]!).wi[n]?.getD 0).toNat, by rw [List.getElem?_eq_getElem hnw]; simp only [Option.getD_some]; omega⟩
  have hcl : c < q.cs.length := by rw [List.getElem?_eq_getElem hnw] at hce; simp only [Option.getD_some] at hce; omega
  have hbad : badQ q g i n = (decide ((g.count (c : Int) : Int) < (q.cs[c]!).pl) || anyN (fun k => g[k]?.getD 0 == (c : Int) && bef q c i k) g.length) := by
    unfold badQ; rw [hce, Int.toNat_natCast]
  have hgo : badQ q g i n = false → ∀ j, j < n + 1 → badQ q g i j = false := fun hb j hj => by
    rcases Nat.lt_succ_iff_lt_or_eq.1 hj with hj | rfl
    · exact hall j hj
    · exact hb
  have hat : badQ q g i n = true → complQ q g i = (c : Int) := fun hb => by rw [complQ_at h hall hb, hce]
  simp only [Int.ofNat_lt, h, hnw, hce, evA, if_true, if_false, beq_false, simprocAttr]
  refine DW_s [2] [] hmix (by kernel_rfl) rfl ?_
  simp only [evA, if_true, if_false, beq_false, simprocAttr]
  refine kK_keep ((c38 g (c : Int) (by omega)).call frz ⟨rfl, rfl⟩) rfl ?_
  simp only [ia_rsl hcl, cen_1 hcl, evA, if_true, if_false, beq_false, simprocAttr]
  by_cases h1 : (g.count (c : Int) : Int) < (q.cs[c]!).pl
  · rw [hat (by rw [hbad, decide_eq_true h1]; rfl)]
    simp only [h1, evA, if_true, if_false, beq_false, simprocAttr]
    exact frz
  simp only [h1, evA, if_true, if_false, beq_false, simprocAttr]
  refine IL_for g.length (fun k s => (∀ j, j < k → (g[j]?.getD 0 == (c : Int) && bef q c i j) = false) ∧ ∃ v9 v11 v12, s = ⟨[qV q, ints g, .i i, .ptr 0 0, .i 0, .ptr 1 0, .i n, .i c, .i k, v9, .b false, v11, v12], [.cells [cenL q.cs, leaL q.ls], .cells [.cv (.str (q.ls[i]!).nm), .i (q.ls[i]!).si, .i (q.ls[i]!).ho, .i (q.ls[i]!).fa, ints (q.ls[i]!).wi]]⟩) ?_ 0 (Nat.zero_le _) ⟨by omega, _, _, _, rfl⟩
  rintro k s hk ⟨hallk, v9, v11, v12, rfl⟩
  by_cases hkg : k < g.length
  rotate_left
  · have hk' : k = g.length := by omega
    subst hk'
    have hb : badQ q g i n = false := by rw [hbad, anyN_false.2 hallk, decide_eq_false h1]; rfl
    simp only [ic56l0, Int.ofNat_lt, hkg, evA, if_true, if_false, beq_false, simprocAttr]
    exact kFor_go (by first | trivial | omega) ⟨hgo hb, _, _, _, _, _, _, by rw [wrap_succ (by omega)]⟩
  have hkl : k < q.ls.length := by omega
  have hgk : (g[k]?.getD 0 == (c : Int) && bef q c i k) = false → ∀ j, j < k + 1 → (g[j]?.getD 0 == (c : Int) && bef q c i j) = false := fun hb j hj => by
    rcases Nat.lt_succ_iff_lt_or_eq.1 hj with hj | rfl
    · exact hallk j hj
    · exact hb
  simp only [ic56l0, Int.ofNat_lt, hkg, evA, if_true, if_false, beq_false, simprocAttr]
  cases he : (g[k]?.getD 0 == (c : Int))
  · simp only [evA, if_true, if_false, beq_false, simprocAttr]
    exact kFor_go (by first | trivial | omega) ⟨hgk (by rw [he]; rfl), _, _, _, by rw [wrap_succ (by omega)]⟩
  simp only [evA, if_true, if_false, beq_false, simprocAttr]
  refine (c65 q hq c i k hcl hi hkl).call frz ?_
  cases hbf : bef q c i k
  · simp only [evA, if_true, if_false, beq_false, simprocAttr]
    exact kFor_go (by first | trivial | omega) ⟨hgk (by rw [he, hbf]; rfl), _, _, _, by rw [wrap_succ (by omega)]⟩
  · rw [hat (by rw [hbad, anyN_true.2 ⟨k, hkg, by rw [he, hbf]; rfl⟩, Bool.or_true])]
    simp only [evA, if_true, if_false, beq_false, simprocAttr]
    exact frz

/-- what Accept answers -/
def acc1 (q : QL) (g : List Int) (i : Nat) : Bool := g[i]?.getD 0 != -1 && ((place (q.ls[i]!).wi (g[i]?.getD 0) : Int) == ((q.ls[i]!).wi.length : Int))
def acc2 (q : QL) (g : List Int) (c : Nat) : Bool := decide ((g.count (c : Int) : Int) > (q.cs[c]!).pl)
def acc3 (q : QL) (g : List Int) (i : Nat) : Bool := decide (complQ q g i ≥ 0)
def accQ (q : QL) (g : List Int) : Int × Int × Int :=
  if eQ q ≠ 0 then (0, 0, eQ q) else if g.length ≠ q.ls.length then (0, 0, 3) else
  if 0 ≤ idxN (acc1 q g) g.length then (idxN (acc1 q g) g.length, 0, 4) else
  if 0 ≤ idxN (acc2 q g) q.cs.length then (0, idxN (acc2 q g) q.cs.length, 7) else
  if 0 ≤ idxN (acc3 q g) g.length then (idxN (acc3 q g) g.length, complQ q g (idxN (acc3 q g) g.length).toNat, 9) else (0, 0, 0)
def accV (q : QL) (g : List Int) : AV := .tup [.i (accQ q g).1, .i (accQ q g).2.1, .i (accQ q g).2.2]

theorem accV_of {q : QL} {g : List Int} {a b c : Int} (h : accQ q g = (a, b, c)) : accV q g = .tup [.i a, .i b, .i c] := by unfold accV; rw [h]

section
variable {q : QL} {g : List Int}
theorem accQ_e (h : eQ q ≠ 0) : accQ q g = (0, 0, eQ q) := by unfold accQ; rw [if_pos h]
theorem accQ_l (h : eQ q = 0) (hl : g.length ≠ q.ls.length) : accQ q g = (0, 0, 3) := by unfold accQ; rw [if_neg (by rw [h]; simp), if_pos hl]
theorem accQ_1 {i : Nat} (h : eQ q = 0) (hl : g.length = q.ls.length) (hi : i < g.length) (hall : ∀ j, j < i → acc1 q g j = false) (hb : acc1 q g i = true) : accQ q g = ((i : Int), 0, 4) := by
  unfold accQ; rw [if_neg (by rw [h]; simp), if_neg (by rw [hl]; simp), idxN_some hi hall hb, if_pos (by omega)]
theorem accQ_2 {c : Nat} (h : eQ q = 0) (hl : g.length = q.ls.length) (h1 : ∀ j, j < g.length → acc1 q g j = false) (hi : c < q.cs.length) (hall : ∀ j, j < c → acc2 q g j = false) (hb : acc2 q g c = true) : accQ q g = (0, (c : Int), 7) := by
  unfold accQ; rw [if_neg (by rw [h]; simp), if_neg (by rw [hl]; simp), idxN_none h1, if_neg (by decide), idxN_some hi hall hb, if_pos (by omega)]
theorem accQ_3 {i : Nat} (h : eQ q = 0) (hl : g.length = q.ls.length) (h1 : ∀ j, j < g.length → acc1 q g j = false) (h2 : ∀ j, j < q.cs.length → acc2 q g j = false) (hi : i < g.length) (hall : ∀ j, j < i → acc3 q g j = false) (hb : acc3 q g i = true) : accQ q g = ((i : Int), complQ q g i, 9) := by
  unfold accQ; rw [if_neg (by rw [h]; simp), if_neg (by rw [hl]; simp), idxN_none h1, if_neg (by decide), idxN_none h2, if_neg (by decide), idxN_some hi hall hb, if_pos (by omega), Int.toNat_natCast]
theorem accQ_0 (h : eQ q = 0) (hl : g.length = q.ls.length) (h1 : ∀ j, j < g.length → acc1 q g j = false) (h2 : ∀ j, j < q.cs.length → acc2 q g j = false) (h3 : ∀ j, j < g.length → acc3 q g j = false) : accQ q g = (0, 0, 0) := by
  unfold accQ; rw [if_neg (by rw [h]; simp), if_neg (by rw [hl]; simp), idxN_none h1, if_neg (by decide), idxN_none h2, if_neg (by decide), idxN_none h3, if_neg (by decide)]
end

/-- the document's Accept -/
theorem c27 (q : QL) (hq : QSz q) (g : List Int) (hg62 : g.length < 2 ^ 63) : PC Try.prog 27 [qV q, ints g] (accV q g) := by
  refine ⟨AC_FE (fok27 true) (Nat.le_of_ble_eq_true rfl) ?_, rfl⟩
  have hcs := hq.cs
  have hls := hq.ls
  simp only [ic27, evA, if_true, if_false, beq_false, simprocAttr]
  refine (c17 q hq).call frz ?_
  rw [chkV_e]
  by_cases h0 : eQ q = 0
  rotate_left
  · have hb : (eQ q == 0) = false := by simp [h0]
    have hb2 : (eQ q != 0) = true := by simp [h0]
    have hv := accV_of (accQ_e (g := g) h0)
    simp only [hb, hb2, hv, evA, if_true, if_false, beq_false, simprocAttr]
    exact frz
  obtain ⟨hc5, hl8, hL, hC⟩ := val_of h0
  by_cases hl : g.length = q.ls.length
  rotate_left
  · have hb : ((g.length : Int) != (q.ls.length : Int)) = true := by simp; omega
    have hv := accV_of (accQ_l h0 hl)
    simp only [h0, hb, hv, evA, if_true, if_false, beq_false, simprocAttr]
    exact frz
  have hb : ((g.length : Int) != (q.ls.length : Int)) = false := by simp; omega
  simp only [h0, hb, evA, if_true, if_false, beq_false, simprocAttr]
  refine IL_for g.length (fun i s => (∀ j, j < i → acc1 q g j = false) ∧ ∃ v8 v9 v10 v13 v14 v15 v16 v17 v18, s = ⟨[qV q, ints g, .ptr 0 0, .i 0, .i 0, .i 0, .i 0, .i i, v8, v9, v10, .b false, .b false, v13, v14, v15, v16, v17, v18], [.cells [cenL q.cs, leaL q.ls]]⟩) ?_ 0 (Nat.zero_le _) ⟨by omega, _, _, _, _, _, _, _, _, _, rfl⟩
  rintro i s hi ⟨hall, v8, v9, v10, v13, v14, v15, v16, v17, v18, rfl⟩
  by_cases h : i < g.length
  · have hil : i < q.ls.length := by omega
    have hgo : acc1 q g i = false → ∀ j, j < i + 1 → acc1 q g j = false := fun hb j hj => by
      rcases Nat.lt_succ_iff_lt_or_eq.1 hj with hj | rfl
      · exact hall j hj
      · exact hb
    simp only [ic27l2, Int.ofNat_lt, h, evA, if_true, if_false, beq_false, simprocAttr]
    refine DW_s [15] [] hmix (by kernel_rfl) rfl ?_
    simp only [h, evA, if_true, if_false, beq_false, simprocAttr]
    cases h1 : (g[i]?.getD 0 != -1)
    · simp only [evA, if_true, if_false, beq_false, simprocAttr]
      exact kFor_go (by first | trivial | omega) ⟨hgo (by unfold acc1; rw [h1]; rfl), _, _, _, _, _, _, _, _, _, by rw [wrap_succ (by omega)]⟩
    simp only [h, ia_rsl hil, lea_ld hil, evA, if_true, if_false, beq_false, simprocAttr]
    refine kK_keep ((c35 (q.ls[i]!) (g[i]?.getD 0) (hq.wi i hil)).call frz ⟨rfl, rfl⟩) rfl ?_
    simp only [ia_rsl hil, lea_4 hil, evA, if_true, if_false, beq_false, simprocAttr]
    cases h2 : ((place (q.ls[i]!).wi (g[i]?.getD 0) : Int) == ((q.ls[i]!).wi.length : Int))
    · simp only [evA, if_true, if_false, beq_false, simprocAttr]
      exact kFor_go (by first | trivial | omega) ⟨hgo (by unfold acc1; rw [h1, h2]; rfl), _, _, _, _, _, _, _, _, _, by rw [wrap_succ (by omega)]⟩
    · have hv := accV_of (accQ_1 h0 hl h hall (by unfold acc1; rw [h1, h2]; rfl))
      simp only [hv, evA, if_true, if_false, beq_false, simprocAttr]
      exact frz
  have : i = g.length := by omega
  subst this
  simp only [ic27l2, Int.ofNat_lt, h, evA, if_true, if_false, beq_false, simprocAttr]
  refine IL_for q.cs.length (fun i s => (∀ j, j < i → acc2 q g j = false) ∧ ∃ v7 v9 v10 v13 v14 v15 v16 v17 v18, s = ⟨[qV q, ints g, .ptr 0 0, .i 0, .i 0, .i 0, .i 0, v7, .i i, v9, v10, .b false, .b false, v13, v14, v15, v16, v17, v18], [.cells [cenL q.cs, leaL q.ls]]⟩) ?_ 0 (Nat.zero_le _) ⟨by omega, _, _, _, _, _, _, _, _, _, rfl⟩
  rintro c s hi ⟨hall2, v7, v9, v10, v13, v14, v15, v16, v17, v18, rfl⟩
  by_cases h : c < q.cs.length
  · have hgo : acc2 q g c = false → ∀ j, j < c + 1 → acc2 q g j = false := fun hb j hj => by
      rcases Nat.lt_succ_iff_lt_or_eq.1 hj with hj | rfl
      · exact hall2 j hj
      · exact hb
    simp only [ic27l1, Int.ofNat_lt, h, evA, if_true, if_false, beq_false, simprocAttr]
    refine DW_s [2] [] hmix (by kernel_rfl) rfl ?_
    simp only [evA, if_true, if_false, beq_false, simprocAttr]
    refine kK_keep ((c38 g (c : Int) (by omega)).call frz ⟨rfl, rfl⟩) rfl ?_
    simp only [ia_rsl h, cen_1 h, evA, if_true, if_false, beq_false, simprocAttr]
    cases h2 : decide ((g.count (c : Int) : Int) > (q.cs[c]!).pl)
    · simp only [evA, if_true, if_false, beq_false, simprocAttr]
      exact kFor_go (by first | trivial | omega) ⟨hgo (by unfold acc2; rw [h2]), _, _, _, _, _, _, _, _, _, by rw [wrap_succ (by omega)]⟩
    · have hv := accV_of (accQ_2 h0 hl hall h hall2 (by unfold acc2; rw [h2]))
      simp only [hv, evA, if_true, if_false, beq_false, simprocAttr]
      exact frz
  have : c = q.cs.length := by omega
  subst this
  simp only [ic27l1, Int.ofNat_lt, h, evA, if_true, if_false, beq_false, simprocAttr]
  refine IL_for g.length (fun i s => (∀ j, j < i → acc3 q g j = false) ∧ ∃ v7 v8 v10 v13 v14 v15 v16 v17 v18, s = ⟨[qV q, ints g, .ptr 0 0, .i 0, .i 0, .i 0, .i 0, v7, v8, .i i, v10, .b false, .b false, v13, v14, v15, v16, v17, v18], [.cells [cenL q.cs, leaL q.ls]]⟩) ?_ 0 (Nat.zero_le _) ⟨by omega, _, _, _, _, _, _, _, _, _, rfl⟩
  rintro i s hi ⟨hall3, v7, v8, v10, v13, v14, v15, v16, v17, v18, rfl⟩
  by_cases h : i < g.length
  · have hil : i < q.ls.length := by omega
    have hgo : acc3 q g i = false → ∀ j, j < i + 1 → acc3 q g j = false := fun hb j hj => by
      rcases Nat.lt_succ_iff_lt_or_eq.1 hj with hj | rfl
      · exact hall3 j hj
      · exact hb
    simp only [ic27l0, Int.ofNat_lt, h, evA, if_true, if_false, beq_false, simprocAttr]
    refine (c56 q hq hL g hl i hil).call frz ?_
    simp only [evA, if_true, if_false, beq_false, simprocAttr]
    cases h2 : decide (complQ q g i ≥ 0)
    · simp only [evA, if_true, if_false, beq_false, simprocAttr]
      exact kFor_go (by first | trivial | omega) ⟨hgo (by unfold acc3; rw [h2]), _, _, _, _, _, _, _, _, _, by rw [wrap_succ (by omega)]⟩
    · have hv := accV_of (accQ_3 h0 hl hall hall2 h hall3 (by unfold acc3; rw [h2]))
      simp only [hv, evA, if_true, if_false, beq_false, simprocAttr]
      exact frz
  have : i = g.length := by omega
  subst this
  have hv := accV_of (accQ_0 h0 hl hall hall2 hall3)
  simp only [ic27l0, Int.ofNat_lt, h, hv, evA, if_true, if_false, beq_false, simprocAttr]
  exact frz

end Go.Proofs.Ytjgolcbpgmlilaa.AM

namespace Go.Proofs.Ytjgolcbpgmlilaa.AM
open Go Go.Proofs.Ytjgolcbpgmlilaa.Qu Pl
set_option linter.unusedVariables false
set_option linter.unusedSimpArgs false

theorem get_bang (g : List Int) (i : Nat) : g[i]! = g[i]?.getD 0 := List.getElem!_eq_getElem?_getD

noncomputable def cutV (q : QL) : AV := if eQ q = 0 then .tup [ints (cutQ q), .i 0] else .tup [ints [], .i (eQ q)]
theorem cutV_cl (q : QL) : locsIn 0 (cutV q) = true := by unfold cutV; split <;> rfl

theorem maxTo_le {q : QL} (hL : ∀ i, i < q.ls.length → LeaOk q i) {g : List Int} {c : Nat} : ∀ n, n ≤ q.ls.length → maxTo q g c n ≤ q.ls.length
  | 0, _ => Nat.zero_le _
  | n + 1, h => by
    have := maxTo_le hL (g := g) (c := c) n (by omega)
    have := rank_le (c := c) hL (show n < q.ls.length by omega)
    unfold maxTo
    split <;> omega

noncomputable def cutN (q : QL) (c : Nat) : Int := if ((giveQ q).count (c : Int) : Int) < (q.cs[c]!).pl then (q.ls.length : Int) else (maxTo q (giveQ q) c q.ls.length : Nat)
theorem cutQ_list (q : QL) : cutQ q = listN q.cs.length (cutN q) := rfl

/-- the document's Cut -/
theorem c25 (q : QL) (hq : QSz q) : PC Try.prog 25 [qV q] (cutV q) := by
  refine ⟨AC_FE (fok25 true) (Nat.le_of_ble_eq_true rfl) ?_, cutV_cl q⟩
  have hcs := hq.cs
  have hls := hq.ls
  simp only [ic25, evA, if_true, if_false, beq_false, simprocAttr]
  refine (c23 q hq).call ?_
  by_cases h0 : eQ q = 0
  rotate_left
  · have hb2 : (eQ q != 0) = true := by simp [h0]
    have hg : giveV q = .tup [ints [], .i (eQ q)] := by unfold giveV; rw [if_neg h0]
    have hv : cutV q = .tup [ints [], .i (eQ q)] := by unfold cutV; rw [if_neg h0]
    simp only [hb2, hg, hv, evA, if_true, if_false, beq_false, simprocAttr]
    exact frz
  obtain ⟨hc5, hl8, hL, hC⟩ := val_of h0
  have hg : giveV q = .tup [ints (giveQ q), .i 0] := by unfold giveV; rw [if_pos h0]
  have hv : cutV q = .tup [ints (cutQ q), .i 0] := by unfold cutV; rw [if_pos h0]
  have hgl := give_len (q := q)
  simp only [hg, evA, if_true, if_false, beq_false, simprocAttr]
  refine IL_for q.cs.length (fun c s => ∃ σ v v8 v9 v11 v12 v13 v14, (rowOf σ 0 = some [cenL q.cs, leaL q.ls] ∧ AccFrom 1 σ v (listN c (cutN q))) ∧ s = ⟨[qV q, .ptr 0 0, .cv .nils, .i 0, ints (giveQ q), .i 0, v, .i c, v8, v9, .b false, v11, v12, v13, v14], σ⟩) ?_ 0 (Nat.zero_le _) ⟨_, _, _, _, _, _, _, _, ⟨rfl, AccFrom.nil (by simp)⟩, rfl⟩
  rintro c s hi ⟨σ, v, v8, v9, v11, v12, v13, v14, ⟨hr0, hacc⟩, rfl⟩
  by_cases h : c < q.cs.length
  rotate_left
  · have : c = q.cs.length := by omega
    subst this
    rw [← cutQ_list] at hacc
    simp only [ic25l1, hr0, Int.ofNat_lt, h, hv, evA, if_true, if_false, beq_false, simprocAttr]
    exact .tup (.cons (acc_frz (fun _ => trivial) hacc.acc) (.cons (.c (.c _ trivial)) .nil))
  simp only [ic25l1, hr0, Int.ofNat_lt, h, evA, if_true, if_false, beq_false, simprocAttr]
  refine IL_for (giveQ q).length (fun i s => ∃ v12 v13, s = ⟨[qV q, .ptr 0 0, .cv .nils, .i 0, ints (giveQ q), .i 0, v, .i c, .i (maxTo q (giveQ q) c i : Nat), .i i, .b false, .b true, v12, v13, v14], σ⟩) ?_ 0 (Nat.zero_le _) ⟨_, _, rfl⟩
  rintro i s hi' ⟨w12, w13, rfl⟩
  by_cases h1 : i < (giveQ q).length
  · have hil : i < q.ls.length := by omega
    have hmt : maxTo q (giveQ q) c (i + 1) = if (giveQ q)[i]?.getD 0 = (c : Int) then max (maxTo q (giveQ q) c i) (rankQ q c i) else maxTo q (giveQ q) c i := by
      rw [← get_bang]; rfl
    simp only [ic25l0, Int.ofNat_lt, h1, evA, if_true, if_false, beq_false, simprocAttr]
    by_cases he : (giveQ q)[i]?.getD 0 = (c : Int)
    · have hb : ((giveQ q)[i]?.getD 0 == (c : Int)) = true := by simp [he]
      rw [if_pos he] at hmt
      simp only [hb, hr0, evA, if_true, if_false, beq_false, simprocAttr]
      refine (c37 q hq (by omega) c i h hil).call frz ?_
      have hmax : (if (rankQ q c i : Int) > (maxTo q (giveQ q) c i : Nat) then (rankQ q c i : Int) else (maxTo q (giveQ q) c i : Nat)) = ((maxTo q (giveQ q) c (i + 1) : Nat) : Int) := by
        rw [hmt]; split <;> omega
      simp only [hmax, evA, if_true, if_false, beq_false, simprocAttr]
      exact kFor_go (by first | trivial | omega) ⟨_, _, by rw [wrap_succ (by omega)]⟩
    · have hb : ((giveQ q)[i]?.getD 0 == (c : Int)) = false := by simp [he]
      rw [if_neg he] at hmt
      simp only [hb, evA, if_true, if_false, beq_false, simprocAttr]
      exact kFor_go (by first | trivial | omega) ⟨_, _, by rw [wrap_succ (by omega), hmt]⟩
  have : i = (giveQ q).length := by omega
  subst this
  have hlow := listN_len c (cutN q)
  simp only [ic25l0, Int.ofNat_lt, h1, evA, if_true, if_false, beq_false, simprocAttr]
  refine DW_s [2] [] hmix (by kernel_rfl) rfl ?_
  simp only [evA, if_true, if_false, beq_false, simprocAttr]
  refine kK_keep ((c38 (giveQ q) (c : Int) (by omega)).call frz ⟨rfl, rfl⟩) rfl ?_
  simp only [hr0, ia_rsl h, cen_1 h, evA, if_true, if_false, beq_false, simprocAttr]
  obtain ⟨v', σ', he, hacc', hlow⟩ := accFrom_append (cutN q c) hacc (by omega)
  by_cases h2 : ((giveQ q).count (c : Int) : Int) < (q.cs[c]!).pl
  · have hcn : cutN q c = (q.ls.length : Int) := by unfold cutN; rw [if_pos h2]
    rw [hcn] at he
    simp only [h2, hr0, f_bslice, he, evA, if_true, if_false, beq_false, simprocAttr]
    exact kFor_go (by first | trivial | omega) ⟨σ', v', _, _, _, _, _, _, ⟨by rw [hlow 0 (by omega)]; exact hr0, by rw [listN_app]; exact hacc'⟩, by rw [wrap_succ (by omega)]⟩
  · have hcn : cutN q c = (maxTo q (giveQ q) c (giveQ q).length : Nat) := by unfold cutN; rw [if_neg h2, hgl]
    rw [hcn] at he
    simp only [h2, f_bslice, he, evA, if_true, if_false, beq_false, simprocAttr]
    exact kFor_go (by first | trivial | omega) ⟨σ', v', _, _, _, _, _, _, ⟨by rw [hlow 0 (by omega)]; exact hr0, by rw [listN_app]; exact hacc'⟩, by rw [wrap_succ (by omega)]⟩

end Go.Proofs.Ytjgolcbpgmlilaa.AM

namespace Go.Proofs.Ytjgolcbpgmlilaa.AM
open Go Go.Proofs.Ytjgolcbpgmlilaa.Qu Pl
set_option linter.unusedVariables false
set_option linter.unusedSimpArgs false

theorem c41 (c : Cen) : PC Try.prog 41 [cenA c] (.cv (.str c.nm)) := by
  refine ⟨AC_FE (fok41 true) (Nat.le_of_ble_eq_true rfl) ?_, rfl⟩
  simp only [ic41, evA, if_true, if_false, beq_false, simprocAttr]
  exact frz
theorem c44 (x : Lea) : PC Try.prog 44 [leaA x] (.cv (.str x.nm)) := by
  refine ⟨AC_FE (fok44 true) (Nat.le_of_ble_eq_true rfl) ?_, rfl⟩
  simp only [ic44, evA, if_true, if_false, beq_false, simprocAttr]
  exact frz

/-- the closure that compares a name -/
theorem c70 (c : Cen) (s : ByteArray) {σ : List AObj} {l1 l2 : Nat} (h1 : rowOf σ l1 = some [.fn (.func 41) []]) (h2 : rowOf σ l2 = some [.cv (.str s)]) :
    AC Try.prog 70 [cenA c, .ptr l1 0, .ptr l2 0] σ fun r τ => r = .b (decide (c.nm = s)) ∧ τ = σ := by
  refine AC.same (AC_FE (Q := fun r τ => r = .b (decide (c.nm = s)) ∧ ∃ o, τ = σ ++ [o]) (fok70 true) (Nat.le_of_ble_eq_true rfl) ?_) ?_
  · have g1 := rowOf_push h1 (.cells [.cv (.str c.nm), .i c.pl, ints c.ru])
    have g2 := rowOf_push h2 (.cells [.cv (.str c.nm), .i c.pl, ints c.ru])
    have g3 := rowOf_last σ [.cv (.str c.nm), .i c.pl, ints c.ru]
    simp only [ic70, evA, if_true, if_false, beq_false, simprocAttr]
    refine DW_s [2] [] hmix (by kernel_rfl) rfl ?_
    simp only [g1, g3, evA, if_true, if_false, beq_false, simprocAttr]
    refine kK_keep ((c41 c).call frz ⟨rfl, rfl⟩) rfl ?_
    simp only [g2, binS, str_eq, evA, if_true, if_false, beq_false, simprocAttr]
    exact ⟨_, rfl⟩
  · rintro r τ ⟨rfl, o, rfl⟩
    exact ⟨rfl, rfl, fun l o hl => by rw [List.getElem?_append_left (List.getElem?_eq_some_iff.1 hl).1]; exact hl⟩
theorem c72 (c : Lea) (s : ByteArray) {σ : List AObj} {l1 l2 : Nat} (h1 : rowOf σ l1 = some [.fn (.func 44) []]) (h2 : rowOf σ l2 = some [.cv (.str s)]) :
    AC Try.prog 72 [leaA c, .ptr l1 0, .ptr l2 0] σ fun r τ => r = .b (decide (c.nm = s)) ∧ τ = σ := by
  refine AC.same (AC_FE (Q := fun r τ => r = .b (decide (c.nm = s)) ∧ ∃ o, τ = σ ++ [o]) (fok72 true) (Nat.le_of_ble_eq_true rfl) ?_) ?_
  · have g1 := rowOf_push h1 (.cells [.cv (.str c.nm), .i c.si, .i c.ho, .i c.fa, ints c.wi])
    have g2 := rowOf_push h2 (.cells [.cv (.str c.nm), .i c.si, .i c.ho, .i c.fa, ints c.wi])
    have g3 := rowOf_last σ [.cv (.str c.nm), .i c.si, .i c.ho, .i c.fa, ints c.wi]
    simp only [ic72, evA, if_true, if_false, beq_false, simprocAttr]
    refine DW_s [2] [] hmix (by kernel_rfl) rfl ?_
    simp only [g1, g3, evA, if_true, if_false, beq_false, simprocAttr]
    refine kK_keep ((c44 c).call frz ⟨rfl, rfl⟩) rfl ?_
    simp only [g2, binS, str_eq, evA, if_true, if_false, beq_false, simprocAttr]
    exact ⟨_, rfl⟩
  · rintro r τ ⟨rfl, o, rfl⟩
    exact ⟨rfl, rfl, fun l o hl => by rw [List.getElem?_append_left (List.getElem?_eq_some_iff.1 hl).1]; exact hl⟩

theorem c95 (cs : List Cen) (fv : AV) (p : Nat → Bool) (hz : cs.length < 2 ^ 63) (σ : List AObj) (hf : ∀ i, i < cs.length → CallV Try.prog fv [cenA cs[i]!] σ fun r τ => r = .b (p i) ∧ τ = σ) :
    AC Try.prog 95 [cenL cs, fv] σ fun r τ => r = .i (idxN p cs.length) ∧ τ = σ := by
  refine AC_FE (fok95 true) (Nat.le_of_ble_eq_true rfl) ?_
  simp only [ic95, evA, if_true, if_false, beq_false, simprocAttr]
  refine IL_for cs.length (fun i s => (∀ j, j < i → p j = false) ∧ ∃ v3 v6 v7, s = ⟨[cenL cs, fv, .i 0, v3, .i cs.length, .i i, v6, v7], σ⟩) ?_ 0 (Nat.zero_le _) ⟨by omega, _, _, _, rfl⟩
  rintro i s hi ⟨hall, v3, v6, v7, rfl⟩
  by_cases h : i < cs.length
  · simp only [ic95l0, Int.ofNat_lt, h, ia_rsl h, cen_ld h, evA, if_true, if_false, beq_false, simprocAttr]
    refine (hf i h).run ?_
    cases hp : p i
    · simp only [evA, if_true, if_false, beq_false, simprocAttr]
      refine kFor_go (by first | trivial | omega) ⟨fun j hj => ?_, _, _, _, by rw [wrap_in (by omega)]; rfl⟩
      rcases Nat.lt_succ_iff_lt_or_eq.1 hj with hj | rfl
      · exact hall j hj
      · exact hp
    · simp only [evA, if_true, if_false, beq_false, simprocAttr]
      exact (idxN_some h hall hp).symm
  · simp only [ic95l0, Int.ofNat_lt, h, evA, if_true, if_false, beq_false, simprocAttr]
    have : i = cs.length := by omega
    subst this
    exact (idxN_none hall).symm
theorem c69 (cs : List Cen) (fv : AV) (p : Nat → Bool) (hz : cs.length < 2 ^ 63) (σ : List AObj) (hf : ∀ i, i < cs.length → CallV Try.prog fv [cenA cs[i]!] σ fun r τ => r = .b (p i) ∧ τ = σ) :
    AC Try.prog 69 [cenL cs, fv] σ fun r τ => r = .b (anyN p cs.length) ∧ τ = σ := by
  refine AC_FE (fok69 true) (Nat.le_of_ble_eq_true rfl) ?_
  simp only [ic69, evA, if_true, if_false, beq_false, simprocAttr]
  refine (c95 cs fv p hz _ hf).run ?_
  simp only [evA, if_true, if_false, beq_false, simprocAttr, idxN_ge]
theorem c96 (cs : List Lea) (fv : AV) (p : Nat → Bool) (hz : cs.length < 2 ^ 63) (σ : List AObj) (hf : ∀ i, i < cs.length → CallV Try.prog fv [leaA cs[i]!] σ fun r τ => r = .b (p i) ∧ τ = σ) :
    AC Try.prog 96 [leaL cs, fv] σ fun r τ => r = .i (idxN p cs.length) ∧ τ = σ := by
  refine AC_FE (fok96 true) (Nat.le_of_ble_eq_true rfl) ?_
  simp only [ic96, evA, if_true, if_false, beq_false, simprocAttr]
  refine IL_for cs.length (fun i s => (∀ j, j < i → p j = false) ∧ ∃ v3 v6 v7, s = ⟨[leaL cs, fv, .i 0, v3, .i cs.length, .i i, v6, v7], σ⟩) ?_ 0 (Nat.zero_le _) ⟨by omega, _, _, _, rfl⟩
  rintro i s hi ⟨hall, v3, v6, v7, rfl⟩
  by_cases h : i < cs.length
  · simp only [ic96l0, Int.ofNat_lt, h, ia_rsl h, lea_ld h, evA, if_true, if_false, beq_false, simprocAttr]
    refine (hf i h).run ?_
    cases hp : p i
    · simp only [evA, if_true, if_false, beq_false, simprocAttr]
      refine kFor_go (by first | trivial | omega) ⟨fun j hj => ?_, _, _, _, by rw [wrap_in (by omega)]; rfl⟩
      rcases Nat.lt_succ_iff_lt_or_eq.1 hj with hj | rfl
      · exact hall j hj
      · exact hp
    · simp only [evA, if_true, if_false, beq_false, simprocAttr]
      exact (idxN_some h hall hp).symm
  · simp only [ic96l0, Int.ofNat_lt, h, evA, if_true, if_false, beq_false, simprocAttr]
    have : i = cs.length := by omega
    subst this
    exact (idxN_none hall).symm
theorem c71 (cs : List Lea) (fv : AV) (p : Nat → Bool) (hz : cs.length < 2 ^ 63) (σ : List AObj) (hf : ∀ i, i < cs.length → CallV Try.prog fv [leaA cs[i]!] σ fun r τ => r = .b (p i) ∧ τ = σ) :
    AC Try.prog 71 [leaL cs, fv] σ fun r τ => r = .b (anyN p cs.length) ∧ τ = σ := by
  refine AC_FE (fok71 true) (Nat.le_of_ble_eq_true rfl) ?_
  simp only [ic71, evA, if_true, if_false, beq_false, simprocAttr]
  refine (c96 cs fv p hz _ hf).run ?_
  simp only [evA, if_true, if_false, beq_false, simprocAttr, idxN_ge]

/-- the error of the k-th of some names -/
def nmE (nm : Nat → ByteArray) (k : Nat) : Int := if nameOk (nm k) = false then 6 else if anyN (fun j => decide (nm j = nm k)) k = true then 5 else 0

/-- queue.named -/
theorem c40 (cs : List Cen) (k : Nat) (hk : cs.length = k + 1) (hz : cs.length < 2 ^ 63) (hs : ∀ i, i < cs.length → (cs[i]!).nm.size < 2 ^ 63) :
    PC Try.prog 40 [cenL cs, .fn (.func 41) []] (.i (nmE (fun i => (cs[i]!).nm) k)) := by
  refine ⟨AC_FE (fok40 true) (Nat.le_of_ble_eq_true rfl) ?_, rfl⟩
  have hw : IntKind.i64.wrap ((cs.length : Int) - 1) = (k : Int) := by rw [wrap_in (by omega)]; omega
  have hkl : k < cs.length := by omega
  simp only [ic40, hw, evA, if_true, if_false, beq_false, simprocAttr]
  refine DW_s [5] [(0, 6), (4, 6), (5, 6)] hmix (by kernel_rfl) rfl ?_
  simp only [ia_rsl hkl, cen_ld hkl, evA, if_true, if_false, beq_false, simprocAttr]
  refine kK_keep ((c41 _).call frz ⟨rfl, rfl⟩) rfl ?_
  simp only [evA, if_true, if_false, beq_false, simprocAttr]
  refine (c68 _ (hs k hkl)).call frz ?_
  unfold nmE
  cases h1 : nameOk (cs[k]!).nm
  · simp only [evA, if_true, if_false, beq_false, simprocAttr]
    exact frz
  have hp := c69 (cs.take k) (.fn (.func 70) [.ptr 0 0, .ptr 1 0]) (fun j => decide ((cs[j]!).nm = (cs[k]!).nm)) (by simp; omega) [.cells [.fn (.func 41) []], .cells [.cv (.str (cs[k]!).nm)]] (fun i hi => by
    have hi' : i < k := by simp at hi; omega
    have e : (cs.take k)[i]! = cs[i]! := by simp [hi']
    rw [e]
    exact c70 (cs[i]!) (cs[k]!).nm rfl rfl)
  rw [show (cs.take k).length = k by simp; omega] at hp
  simp only [cen_sl (show k ≤ cs.length by omega), evA, if_true, if_false, beq_false, simprocAttr]
  refine hp.run ?_
  cases h2 : anyN (fun j => decide ((cs[j]!).nm = (cs[k]!).nm)) k
  · simp only [evA, if_true, if_false, beq_false, simprocAttr]
    exact frz
  · simp only [evA, if_true, if_false, beq_false, simprocAttr]
    exact frz

/-- queue.named, at learners -/
theorem c43 (cs : List Lea) (k : Nat) (hk : cs.length = k + 1) (hz : cs.length < 2 ^ 63) (hs : ∀ i, i < cs.length → (cs[i]!).nm.size < 2 ^ 63) :
    PC Try.prog 43 [leaL cs, .fn (.func 44) []] (.i (nmE (fun i => (cs[i]!).nm) k)) := by
  refine ⟨AC_FE (fok43 true) (Nat.le_of_ble_eq_true rfl) ?_, rfl⟩
  have hw : IntKind.i64.wrap ((cs.length : Int) - 1) = (k : Int) := by rw [wrap_in (by omega)]; omega
  have hkl : k < cs.length := by omega
  simp only [ic43, hw, evA, if_true, if_false, beq_false, simprocAttr]
  refine DW_s [5] [(0, 6), (4, 6), (5, 6)] hmix (by kernel_rfl) rfl ?_
  simp only [ia_rsl hkl, lea_ld hkl, evA, if_true, if_false, beq_false, simprocAttr]
  refine kK_keep ((c44 _).call frz ⟨rfl, rfl⟩) rfl ?_
  simp only [evA, if_true, if_false, beq_false, simprocAttr]
  refine (c68 _ (hs k hkl)).call frz ?_
  unfold nmE
  cases h1 : nameOk (cs[k]!).nm
  · simp only [evA, if_true, if_false, beq_false, simprocAttr]
    exact frz
  have hp := c71 (cs.take k) (.fn (.func 72) [.ptr 0 0, .ptr 1 0]) (fun j => decide ((cs[j]!).nm = (cs[k]!).nm)) (by simp; omega) [.cells [.fn (.func 44) []], .cells [.cv (.str (cs[k]!).nm)]] (fun i hi => by
    have hi' : i < k := by simp at hi; omega
    have e : (cs.take k)[i]! = cs[i]! := by simp [hi']
    rw [e]
    exact c72 (cs[i]!) (cs[k]!).nm rfl rfl)
  rw [show (cs.take k).length = k by simp; omega] at hp
  simp only [lea_sl (show k ≤ cs.length by omega), evA, if_true, if_false, beq_false, simprocAttr]
  refine hp.run ?_
  cases h2 : anyN (fun j => decide ((cs[j]!).nm = (cs[k]!).nm)) k
  · simp only [evA, if_true, if_false, beq_false, simprocAttr]
    exact frz
  · simp only [evA, if_true, if_false, beq_false, simprocAttr]
    exact frz

/-- queue.unlike -/
theorem c42 (l : List Int) (many : Nat) (hl : l.length < 2 ^ 63) (hm : many < 2 ^ 63) : PC Try.prog 42 [ints l, .i many] (.i (unl many [] l)) := by
  refine ⟨AC_FE (fok42 true) (Nat.le_of_ble_eq_true rfl) ?_, rfl⟩
  have hw : IntKind.i64.wrap ((many : Int) - 1) = (many : Int) - 1 := wrap_in (by omega)
  simp only [ic42, evA, if_true, if_false, beq_false, simprocAttr]
  refine IL_for l.length (fun i s => unl many [] l = unl many (l.take i) (l.drop i) ∧ ∃ σ v3 v4 v8 v9 v10, s = ⟨[ints l, .i many, .i 0, v3, v4, ints l, .i l.length, .i i, v8, v9, v10], σ⟩) ?_ 0 (Nat.zero_le _) ⟨rfl, _, _, _, _, _, _, rfl⟩
  rintro i s hi ⟨heq, σ, v3, v4, v8, v9, v10, rfl⟩
  by_cases h : i < l.length
  rotate_left
  · rw [unl_end h] at heq
    simp only [ic42l0, Int.ofNat_lt, h, heq, evA, if_true, if_false, beq_false, simprocAttr]
    exact frz
  rw [unl_step h] at heq
  simp only [ic42l0, Int.ofNat_lt, h, hw, f_bslice, evA, if_true, if_false, beq_false, simprocAttr]
  refine (c39 0 ((many : Int) - 1) [l[i]?.getD 0] (by simp)).call (.cons frz (.cons frz (.cons (frz_one (fun _ => trivial) (rowOf_last _ _)) .nil))) ?_
  rw [outF_one]
  cases h1 : inB (l[i]?.getD 0) 0 ((many : Int) - 1)
  · rw [if_pos h1] at heq
    simp only [heq, evA, if_true, if_false, beq_false, simprocAttr]
    exact frz
  rw [if_neg (by rw [h1]; decide)] at heq
  simp only [sl_ints (show i ≤ l.length by omega), evA, if_true, if_false, beq_false, simprocAttr]
  have htl : (l.take i).length = i := by simp; omega
  have hcon := c53 (l.take i) (l[i]?.getD 0) (by omega)
  rw [ints, htl] at hcon
  refine hcon.call frz ?_
  cases h2 : (l.take i).any (· == l[i]?.getD 0)
  · rw [if_neg (by rw [h2]; decide)] at heq
    simp only [evA, if_true, if_false, beq_false, simprocAttr]
    exact kFor_go (by first | trivial | omega) ⟨heq, _, _, _, _, _, _, by rw [wrap_succ (by omega)]⟩
  · rw [if_pos h2] at heq
    simp only [heq, evA, if_true, if_false, beq_false, simprocAttr]
    exact frz

end Go.Proofs.Ytjgolcbpgmlilaa.AM

namespace Go.Proofs.Ytjgolcbpgmlilaa.AM
open Go Go.Proofs.Ytjgolcbpgmlilaa.Qu Pl
set_option linter.unusedVariables false
set_option linter.unusedSimpArgs false

theorem nmE_cen {q : QL} {i : Nat} : cenE q i = if nmE (fun j => (q.cs[j]!).nm) i = 0 then (if inB (q.cs[i]!).pl 0 6 = false then 7 else unl 3 [] (q.cs[i]!).ru) else nmE (fun j => (q.cs[j]!).nm) i := by
  unfold nmE
  cases h1 : nameOk (q.cs[i]!).nm
  · rw [cenE_name h1]; rfl
  cases h2 : anyN (fun j => decide ((q.cs[j]!).nm = (q.cs[i]!).nm)) i
  · rw [cenE_rest h1 fun k hk he => by
      have := anyN_false.1 h2 k hk
      rw [he] at this; simp at this]
    rfl
  · obtain ⟨k, hk, he⟩ := anyN_true.1 h2
    rw [cenE_twice h1 hk (by simpa using he)]; rfl
theorem nmE_lea {q : QL} {i : Nat} : leaE q i = if nmE (fun j => (q.ls[j]!).nm) i = 0 then (if inB (q.ls[i]!).si 0 40000 = false then 7 else if inB (q.ls[i]!).fa 0 20 = false then 7 else if inB (q.ls[i]!).ho (-1) ((q.cs.length : Int) - 1) = false then 4 else unl q.cs.length [] (q.ls[i]!).wi) else nmE (fun j => (q.ls[j]!).nm) i := by
  unfold nmE
  cases h1 : nameOk (q.ls[i]!).nm
  · rw [leaE_name h1]; rfl
  cases h2 : anyN (fun j => decide ((q.ls[j]!).nm = (q.ls[i]!).nm)) i
  · rw [leaE_rest h1 fun k hk he => by
      have := anyN_false.1 h2 k hk
      rw [he] at this; simp at this]
    rfl
  · obtain ⟨k, hk, he⟩ := anyN_true.1 h2
    rw [leaE_twice h1 hk (by simpa using he)]; rfl

theorem nmE_congr {f g : Nat → ByteArray} {k : Nat} (h : ∀ i, i ≤ k → f i = g i) : nmE f k = nmE g k := by
  unfold nmE
  rw [h k (Nat.le_refl _)]
  have : anyN (fun j => decide (f j = g k)) k = anyN (fun j => decide (g j = g k)) k := by
    rw [Bool.eq_iff_iff, anyN_true, anyN_true]
    constructor
    · rintro ⟨j, hj, h1⟩; exact ⟨j, hj, by rw [← h j (by omega)]; exact h1⟩
    · rintro ⟨j, hj, h1⟩; exact ⟨j, hj, by rw [h j (by omega)]; exact h1⟩
  rw [this]

theorem named_cen {q : QL} (hq : QSz q) {i : Nat} (hi : i < q.cs.length) : PC Try.prog 40 [cenL (q.cs.take (i + 1)), .fn (.func 41) []] (.i (nmE (fun j => (q.cs[j]!).nm) i)) := by
  have hcs := hq.cs
  have hl : (q.cs.take (i + 1)).length = i + 1 := by simp; omega
  have hget : ∀ j, j < i + 1 → (q.cs.take (i + 1))[j]! = q.cs[j]! := fun j hj => by simp [hj]
  have h := c40 (q.cs.take (i + 1)) i hl (by omega) (fun j hj => by rw [hget j (by omega)]; exact hq.nm j (by omega))
  rw [nmE_congr (g := fun j => (q.cs[j]!).nm) (fun j hj => by show ((q.cs.take (i + 1))[j]!).nm = _; rw [hget j (by omega)])] at h
  exact h
theorem named_lea {q : QL} (hq : QSz q) {i : Nat} (hi : i < q.ls.length) : PC Try.prog 43 [leaL (q.ls.take (i + 1)), .fn (.func 44) []] (.i (nmE (fun j => (q.ls[j]!).nm) i)) := by
  have hls := hq.ls
  have hl : (q.ls.take (i + 1)).length = i + 1 := by simp; omega
  have hget : ∀ j, j < i + 1 → (q.ls.take (i + 1))[j]! = q.ls[j]! := fun j hj => by simp [hj]
  have h := c43 (q.ls.take (i + 1)) i hl (by omega) (fun j hj => by rw [hget j (by omega)]; exact hq.lm j (by omega))
  rw [nmE_congr (g := fun j => (q.ls[j]!).nm) (fun j hj => by show ((q.ls.take (i + 1))[j]!).nm = _; rw [hget j (by omega)])] at h
  exact h

/-- queue.Check -/
theorem c16 (q : QL) (hq : QSz q) : PC Try.prog 16 [qV q] (chkV q) := by
  refine ⟨AC_FE (fok16 true) (Nat.le_of_ble_eq_true rfl) ?_, rfl⟩
  have hcs := hq.cs
  have hls := hq.ls
  have hw : IntKind.i64.wrap ((q.cs.length : Int) - 1) = (q.cs.length : Int) - 1 := wrap_in (by omega)
  have hob : ∀ o ∈ [AObj.cells [cenL q.cs, leaL q.ls], AObj.cells [.i q.cs.length]], objIn 2 o = true := by simp [objIn, locsInAll, locsIn]
  simp only [ic16, f_bslice, evA, if_true, if_false, beq_false, simprocAttr]
  refine (c39 1 5 [q.cs.length] (by simp)).call frz ?_
  rw [outF_one]
  cases h1 : inB q.cs.length 1 5
  · have hE := chkV_of (q := q) (chk_size (by rw [h1]; simp))
    simp only [hE, evA, if_true, if_false, beq_false, simprocAttr]
    exact frz
  by_cases h2 : (q.ls.length : Int) > 8
  · have hE := chkV_of (q := q) (chk_size (by simp [h2]))
    simp only [h2, hE, evA, if_true, if_false, beq_false, simprocAttr]
    exact frz
  simp only [h2, evA, if_true, if_false, beq_false, simprocAttr]
  refine IL_for q.cs.length (fun i s => (∀ j, j < i → cenE q j = 0) ∧ ∃ v4 v5 v6 v7 v8 v13 v14 v15 v16 v17 v18 v19 v20 v21 v22 v23 v24, s = ⟨[qV q, .ptr 0 0, .i 0, .i 0, v4, v5, v6, v7, v8, .b false, cenL q.cs, .i q.cs.length, .i i, v13, v14, v15, v16, v17, v18, v19, v20, v21, v22, v23, v24], [.cells [cenL q.cs, leaL q.ls], .cells [.i q.cs.length]]⟩) ?_ 0 (Nat.zero_le _) ⟨by omega, _, _, _, _, _, _, _, _, _, _, _, _, _, _, _, _, _, rfl⟩
  rintro i s hi ⟨hall, v4, v5, v6, v7, v8, v13, v14, v15, v16, v17, v18, v19, v20, v21, v22, v23, v24, rfl⟩
  by_cases h : i < q.cs.length
  · have hgo : cenE q i = 0 → ∀ j, j < i + 1 → cenE q j = 0 := fun hb j hj => by
      rcases Nat.lt_succ_iff_lt_or_eq.1 hj with hj | rfl
      · exact hall j hj
      · exact hb
    have hE := nmE_cen (q := q) (i := i)
    have hws : IntKind.i64.wrap ((i : Int) + 1) = ((i + 1 : Nat) : Int) := wrap_succ (by omega)
    simp only [ic16l1, Int.ofNat_lt, h, ia_rsl h, cen_ld h, hws, cen_sl (show i + 1 ≤ q.cs.length by omega), evA, if_true, if_false, beq_false, simprocAttr]
    refine (named_cen hq h).call frz ?_
    have stop : cenE q i ≠ 0 → chkV q = .tup [.i 2, .i i, .i (cenE q i)] := fun hc => chkV_of (chk_cen h1 h2 h hall hc)
    by_cases hn : nmE (fun j => (q.cs[j]!).nm) i = 0
    rotate_left
    · rw [if_neg hn] at hE
      have hb := beq_f hn
      have hb2 := bne_t hn
      have hst := stop (by rw [hE]; exact hn)
      rw [hE] at hst
      simp only [hb, hb2, hst, evA, if_true, if_false, beq_false, simprocAttr]
      exact frz
    rw [if_pos hn] at hE
    simp only [hn, f_bslice, evA, if_true, if_false, beq_false, simprocAttr]
    refine (c39 0 6 [(q.cs[i]!).pl] (by simp)).call frz ?_
    rw [outF_one]
    cases h3 : inB (q.cs[i]!).pl 0 6
    · rw [if_pos h3] at hE
      have hst := stop (by rw [hE]; decide)
      rw [hE] at hst
      simp only [hst, evA, if_true, if_false, beq_false, simprocAttr]
      exact frz
    rw [if_neg (by rw [h3]; decide)] at hE
    simp only [evA, if_true, if_false, beq_false, simprocAttr]
    refine (c42 _ 3 (hq.ru i h) (by omega)).call frz ?_
    rw [show unl ((3 : Nat) : Int) [] (q.cs[i]!).ru = unl 3 [] (q.cs[i]!).ru from rfl]
    by_cases hu : unl 3 [] (q.cs[i]!).ru = 0
    · simp only [hu, hws, evA, if_true, if_false, beq_false, simprocAttr]
      exact kFor_clip [.cells [cenL q.cs, leaL q.ls], .cells [.i q.cs.length]] _ rfl (by first | trivial | omega) (Nat.zero_le _) hob ⟨hgo (by rw [hE, hu]), _, _, _, _, _, _, _, _, _, _, _, _, _, _, _, _, _, rfl⟩
    · have hb2 := bne_t hu
      have hst := stop (by rw [hE]; exact hu)
      rw [hE] at hst
      simp only [hb2, hst, evA, if_true, if_false, beq_false, simprocAttr]
      exact frz
  have : i = q.cs.length := by omega
  subst this
  simp only [ic16l1, Int.ofNat_lt, h, evA, if_true, if_false, beq_false, simprocAttr]
  refine IL_for q.ls.length (fun i s => (∀ j, j < i → leaE q j = 0) ∧ ∃ v4 v5 v6 v7 v8 v10 v11 v12 v13 v14 v15 v16 v20 v21 v22 v23 v24, s = ⟨[qV q, .ptr 0 0, .i 0, .i 0, v4, v5, v6, v7, v8, .b false, v10, v11, v12, v13, v14, v15, v16, leaL q.ls, .i q.ls.length, .i i, v20, v21, v22, v23, v24], [.cells [cenL q.cs, leaL q.ls], .cells [.i q.cs.length]]⟩) ?_ 0 (Nat.zero_le _) ⟨by omega, _, _, _, _, _, _, _, _, _, _, _, _, _, _, _, _, _, rfl⟩
  rintro i s hi ⟨hall', v4, v5, v6, v7, v8, v10, v11, v12, v13, v14, v15, v16, v20, v21, v22, v23, v24, rfl⟩
  by_cases h : i < q.ls.length
  · have hgo : leaE q i = 0 → ∀ j, j < i + 1 → leaE q j = 0 := fun hb j hj => by
      rcases Nat.lt_succ_iff_lt_or_eq.1 hj with hj | rfl
      · exact hall' j hj
      · exact hb
    have hE := nmE_lea (q := q) (i := i)
    have hws : IntKind.i64.wrap ((i : Int) + 1) = ((i + 1 : Nat) : Int) := wrap_succ (by omega)
    simp only [ic16l0, Int.ofNat_lt, h, ia_rsl h, lea_ld h, hws, lea_sl (show i + 1 ≤ q.ls.length by omega), evA, if_true, if_false, beq_false, simprocAttr]
    refine (named_lea hq h).call frz ?_
    have stop : leaE q i ≠ 0 → chkV q = .tup [.i 3, .i i, .i (leaE q i)] := fun hc => chkV_of (chk_lea h1 h2 hall h hall' hc)
    by_cases hn : nmE (fun j => (q.ls[j]!).nm) i = 0
    rotate_left
    · rw [if_neg hn] at hE
      have hb2 := bne_t hn
      have hst := stop (by rw [hE]; exact hn)
      rw [hE] at hst
      simp only [hb2, hst, evA, if_true, if_false, beq_false, simprocAttr]
      exact frz
    rw [if_pos hn] at hE
    simp only [hn, f_bslice, evA, if_true, if_false, beq_false, simprocAttr]
    refine (c39 0 40000 [(q.ls[i]!).si] (by simp)).call frz ?_
    rw [outF_one]
    cases h3 : inB (q.ls[i]!).si 0 40000
    · rw [if_pos h3] at hE
      have hst := stop (by rw [hE]; decide)
      rw [hE] at hst
      simp only [hst, evA, if_true, if_false, beq_false, simprocAttr]
      exact frz
    rw [if_neg (by rw [h3]; decide)] at hE
    simp only [f_bslice, evA, if_true, if_false, beq_false, simprocAttr]
    refine (c39 0 20 [(q.ls[i]!).fa] (by simp)).call frz ?_
    rw [outF_one]
    cases h4 : inB (q.ls[i]!).fa 0 20
    · rw [if_pos h4] at hE
      have hst := stop (by rw [hE]; decide)
      rw [hE] at hst
      simp only [hst, evA, if_true, if_false, beq_false, simprocAttr]
      exact frz
    rw [if_neg (by rw [h4]; decide)] at hE
    simp only [f_bslice, hw, evA, if_true, if_false, beq_false, simprocAttr]
    refine (c39 (-1) ((q.cs.length : Int) - 1) [(q.ls[i]!).ho] (by simp)).call frz ?_
    rw [outF_one]
    cases h5 : inB (q.ls[i]!).ho (-1) ((q.cs.length : Int) - 1)
    · rw [if_pos h5] at hE
      have hst := stop (by rw [hE]; decide)
      rw [hE] at hst
      simp only [hst, evA, if_true, if_false, beq_false, simprocAttr]
      exact frz
    rw [if_neg (by rw [h5]; decide)] at hE
    simp only [evA, if_true, if_false, beq_false, simprocAttr]
    refine (c42 _ q.cs.length (hq.wi i h) hcs).call frz ?_
    by_cases hu : unl q.cs.length [] (q.ls[i]!).wi = 0
    · simp only [hu, hws, evA, if_true, if_false, beq_false, simprocAttr]
      exact kFor_clip [.cells [cenL q.cs, leaL q.ls], .cells [.i q.cs.length]] _ rfl (by first | trivial | omega) (Nat.zero_le _) hob ⟨hgo (by rw [hE, hu]), _, _, _, _, _, _, _, _, _, _, _, _, _, _, _, _, _, rfl⟩
    · have hb2 := bne_t hu
      have hst := stop (by rw [hE]; exact hu)
      rw [hE] at hst
      simp only [hb2, hst, evA, if_true, if_false, beq_false, simprocAttr]
      exact frz
  have : i = q.ls.length := by omega
  subst this
  have hE := chkV_of (chk_ok h1 h2 hall hall')
  simp only [ic16l0, Int.ofNat_lt, h, hE, evA, if_true, if_false, beq_false, simprocAttr]
  exact frz

end Go.Proofs.Ytjgolcbpgmlilaa.AM


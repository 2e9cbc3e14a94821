/- Parts of the proof, joined: AmJ2 to AmS. -/
import Derived.DeepKeys3
import Derived.Test.YtpnghcaccfnngaaGreatDoorZ4
set_option linter.unusedVariables false
set_option linter.unusedSimpArgs false
set_option linter.unusedSectionVars false
namespace Go.Proofs.YtpnghcaccfnngaaGreatDoor.AM
variable [Dr]
open Go Go.WideShapes
variable {P : Program} {m : LM} {X : Nat → Prop} {σ σ' : List AObj} {w : World} {r : AV}
def toLit : AV → Lit
 | .cv (.int k n) => .int k n
 | .cv (.str s) => .string s.data.toList
 | .cv (.bool b) => .bool b
 | _ => .bool false
theorem kksOk_length : ∀ {ks : List KK} {xs : List AV}, kksOk ks xs = true → xs.length = ks.length
 | [], [], _ => rfl
 | k :: ks, x :: xs, h => by simp only [kksOk, Bool.and_eq_true] at h; simp [kksOk_length h.2]
 | [], _ :: _, h => by simp [kksOk] at h
 | _ :: _, [], h => by simp [kksOk] at h
theorem kksOk_append : ∀ {k1 k2 : List KK} {xs : List AV}, kksOk (k1 ++ k2) xs = true → kksOk k1 (xs.take k1.length) = true ∧ kksOk k2 (xs.drop k1.length) = true
 | [], k2, xs, h => by simpa [kksOk] using h
 | k :: k1, k2, [], h => by simp [kksOk] at h
 | k :: k1, k2, x :: xs, h => by
  simp only [List.cons_append, kksOk, Bool.and_eq_true] at h
  obtain ⟨g1, g2⟩ := kksOk_append h.2
  simp [kksOk, h.1, g1, g2]
theorem kk_inv {k : KK} {a : AV} (h : kkOk k a = true) : (∃ q n, k = .int q ∧ a = .cv (.int q n) ∧ (Lit.int q n).wf = true) ∨ (∃ s, k = .str ∧ a = .cv (.str s) ∧ s.size ≤ maxLen) ∨ (∃ b, k = .bool ∧ a = .cv (.bool b)) := by
 unfold kkOk at h
 split at h
 ·simp only [Bool.and_eq_true, decide_eq_true_eq] at h
  obtain ⟨rfl, hw⟩ := h
  exact .inl ⟨_, _, rfl, rfl, hw⟩
 ·simp only [decide_eq_true_eq] at h
  exact .inr (.inl ⟨_, rfl, rfl, h⟩)
 ·exact .inr (.inr ⟨_, rfl, rfl⟩)
 ·cases h
theorem kk_cases {k : KK} {a : AV} {v : Value} (h : kkOk k a = true) (hr : VRel m X w a v) :
  (∃ q n, k = .int q ∧ a = .cv (.int q n) ∧ v = .int q n ∧ (Lit.int q n).wf = true) ∨ (∃ s, k = .str ∧ a = .cv (.str s) ∧ v = .string s ∧ s.size ≤ maxLen) ∨ (∃ b, k = .bool ∧ a = .cv (.bool b) ∧ v = .bool b) := by
 unfold kkOk at h
 split at h
 ·simp only [Bool.and_eq_true, decide_eq_true_eq] at h
  obtain ⟨rfl, hw⟩ := h
  exact .inl ⟨_, _, rfl, rfl, hr.int, hw⟩
 ·simp only [decide_eq_true_eq] at h
  exact .inr (.inl ⟨_, rfl, rfl, hr.str, h⟩)
 ·exact .inr (.inr ⟨_, rfl, rfl, hr.bool⟩)
 ·cases h
theorem one_of_len {α : Type} {l : List α} (h : l.length = 1) : ∃ a, l = [a] := by
 match l, h with
 | [a], _ => exact ⟨a, rfl⟩
theorem keyLits_of : ∀ (d : Nat) (t : TypeId) (ks : List KK) (xs : List AV) (vs : List Value), flatK P d t = some ks → kksOk ks xs = true → VRels m X w xs vs → P.keyLits d t vs = some (xs.map toLit)
 | 0, t, ks, xs, vs, h, _, _ => by simp [flatK] at h
 | d + 1, t, ks, xs, vs, h, hk, hr => by
  have hlx := kksOk_length hk
  have hlv := hr.length
  simp only [flatK] at h
  have scal : ∀ k, ks = [k] → ∃ a v, xs = [a] ∧ vs = [v] ∧ kkOk k a = true ∧ VRel m X w a v := by
   rintro k rfl
   obtain ⟨a, rfl⟩ := one_of_len hlx
   obtain ⟨v, rfl, hv⟩ := hr.one
   simp only [kksOk, Bool.and_true] at hk
   exact ⟨a, v, rfl, rfl, hk, hv⟩
  split at h
  ·rename_i hu
   obtain ⟨a, v, rfl, rfl, h1, h2⟩ := scal _ (Option.some.inj h).symm
   rcases kk_cases h1 h2 with ⟨q, n, hq, _⟩ | ⟨s, hq, _⟩ | ⟨b, _, rfl, rfl⟩
   ·cases hq
   ·cases hq
   ·unfold Program.keyLits; rw [hu]; rfl
  ·rename_i k hu
   obtain ⟨a, v, rfl, rfl, h1, h2⟩ := scal _ (Option.some.inj h).symm
   rcases kk_cases h1 h2 with ⟨q, n, hq, rfl, rfl, hw⟩ | ⟨s, hq, _⟩ | ⟨b, hq, _⟩
   ·cases hq; unfold Program.keyLits; rw [hu]; simp [hw, toLit]
   ·cases hq
   ·cases hq
  ·rename_i hu
   obtain ⟨a, v, rfl, rfl, h1, h2⟩ := scal _ (Option.some.inj h).symm
   rcases kk_cases h1 h2 with ⟨q, n, hq, _⟩ | ⟨s, _, rfl, rfl, hs⟩ | ⟨b, hq, _⟩
   ·cases hq
   ·unfold Program.keyLits; rw [hu]; simp [hs, toLit]
   ·cases hq
  ·rename_i n e hu
   simp only [Option.bind_eq_some_iff] at h
   obtain ⟨ke, hke, h⟩ := h
   split at h
   ·rename_i hc
    cases h
    obtain ⟨hc1, hc2⟩ := hc
    have main : ∀ (q i0 : Nat), kksOk (List.replicate q ke).flatten (xs.drop (i0 * P.cellsOf e)) = true →
      ∃ L, (List.range' i0 q).mapM (fun i => P.keyLits d e ((vs.drop (i * P.cellsOf e)).take (P.cellsOf e))) = some L ∧ L.flatten = (xs.drop (i0 * P.cellsOf e)).map toLit := by
     intro q
     induction q with
     | zero =>
      intro i0 hk0
      have := kksOk_length hk0
      simp at this
      exact ⟨[], by simp, by simp [List.drop_eq_nil_iff.2 (by omega : xs.length ≤ i0 * P.cellsOf e)]⟩
     | succ q ih =>
      intro i0 hk0
      rw [List.replicate_succ, List.flatten_cons] at hk0
      obtain ⟨g1, g2⟩ := kksOk_append hk0
      rw [hc1] at g1 g2
      rw [List.drop_drop, show i0 * P.cellsOf e + P.cellsOf e = (i0 + 1) * P.cellsOf e by rw [Nat.add_mul, Nat.one_mul]] at g2
      obtain ⟨L, h1, h2⟩ := ih (i0 + 1) g2
      have h0 := keyLits_of d e ke _ _ hke g1 ((hr.drop (i0 * P.cellsOf e)).take (P.cellsOf e))
      refine ⟨_ :: L, by rw [List.range'_succ, List.mapM_cons, h0, h1]; rfl, ?_⟩
      rw [List.flatten_cons, h2, ← List.map_append]
      congr 1
      rw [show (i0 + 1) * P.cellsOf e = i0 * P.cellsOf e + P.cellsOf e by rw [Nat.add_mul, Nat.one_mul], ← List.drop_drop, List.take_append_drop]
    obtain ⟨L, h1, h2⟩ := main n 0 (by simpa using hk)
    unfold Program.keyLits; rw [hu]
    have hlen : vs.length = P.cellsOf t := by
     rw [hlv.symm.trans hlx]; simp [hc1, hc2]
    rw [← List.range_eq_range'] at h1
    simp only [hlen, if_true, h1, Option.map_some, h2]
    simp
   ·cases h
  ·rename_i fs hu
   split at h
   ·rename_i hend
    have main : ∀ (fs : List Field) (n N : Nat) (ks : List KK), fieldsEnd P fs n = some N → flatFs P (flatK P d) fs = some ks → kksOk ks (xs.drop n) = true →
      (∃ L, fs.mapM (fun f => P.keyLits d f.type ((vs.drop f.offset).take (P.cellsOf f.type))) = some L ∧ L.flatten = (xs.drop n).map toLit) ∧ n + ks.length = N ∧ ∀ f ∈ fs, f.name ≠ "_" := by
     intro fs
     induction fs with
     | nil =>
      intro n N ks h1 h2 h3
      simp only [flatFs, Option.some.injEq] at h2; subst h2
      simp only [fieldsEnd, Option.some.injEq] at h1
      have := kksOk_length h3
      simp at this
      exact ⟨⟨[], by simp, by simp [List.drop_eq_nil_iff.2 (by omega : xs.length ≤ n)]⟩, by simp [h1], by simp⟩
     | cons f fs ih =>
      intro n N ks h1 h2 h3
      simp only [flatFs, Option.bind_eq_some_iff] at h2
      obtain ⟨k1, hk1, h2⟩ := h2
      split at h2
      ·rename_i hc
       simp only [Option.map_eq_some_iff] at h2
       obtain ⟨k2, hk2, rfl⟩ := h2
       simp only [fieldsEnd] at h1
       split at h1
       ·rename_i hoff
        obtain ⟨g1, g2⟩ := kksOk_append h3
        rw [hc.1] at g1 g2
        rw [List.drop_drop] at g2
        obtain ⟨⟨L, e1, e2⟩, e3, e4⟩ := ih _ _ _ h1 hk2 g2
        have h0 := keyLits_of d f.type k1 _ _ hk1 g1 ((hr.drop n).take (P.cellsOf f.type))
        refine ⟨⟨_ :: L, by rw [List.mapM_cons, hoff, h0, e1]; rfl, ?_⟩, by simp [hc.1]; omega, ?_⟩
        ·rw [List.flatten_cons, e2, ← List.map_append]
         congr 1
         rw [← List.drop_drop, List.take_append_drop]
        ·intro f' hf'
         rcases List.mem_cons.1 hf' with rfl | hf'
         ·exact hc.2
         ·exact e4 f' hf'
       ·cases h1
      ·cases h2
    obtain ⟨⟨L, h1, h2⟩, h3, h4⟩ := main fs.toList 0 _ ks hend h (by simpa using hk)
    unfold Program.keyLits; rw [hu]
    have hlen : vs.length = P.cellsOf t := by omega
    have hall : fs.all (·.name != "_") = true := by
     rw [Array.all_eq_true']
     intro f hf
     simpa using h4 f (by simpa using hf)
    simp only [hlen, hall, and_self, if_true, h1, Option.map_some, h2]
    simp
   ·cases h
  ·cases h
theorem lits_eq : ∀ {ks : List KK} {xs ys : List AV}, kksOk ks xs = true → kksOk ks ys = true → (xs.map toLit = ys.map toLit ↔ cellsEq xs ys = true)
 | [], [], [], _, _ => by simp [cellsEq]
 | k :: ks, x :: xs, y :: ys, h1, h2 => by
  simp only [kksOk, Bool.and_eq_true] at h1 h2
  have ih := lits_eq h1.2 h2.2
  simp only [List.map_cons, List.cons.injEq, cellsEq, Bool.and_eq_true, ih]
  refine and_congr ?_ Iff.rfl
  rcases kk_inv h1.1 with ⟨q, n, rfl, rfl, _⟩ | ⟨s, rfl, rfl, _⟩ | ⟨c, rfl, rfl⟩ <;> rcases kk_inv h2.1 with ⟨q', n', hq, rfl, _⟩ | ⟨s', hq, rfl, _⟩ | ⟨c', hq, rfl⟩ <;> cases hq
  ·simp [toLit, cellEq]
  ·simp only [toLit, cellEq, decide_eq_true_eq, Lit.string.injEq]
   constructor
   ·intro hh
    obtain ⟨⟨d⟩⟩ := s; obtain ⟨⟨d'⟩⟩ := s'
    simp at hh; rw [hh]
   ·rintro rfl; rfl
  ·simp [toLit, cellEq]
 | [], _ :: _, _, h, _ => by simp [kksOk] at h
 | [], [], _ :: _, _, h => by simp [kksOk] at h
 | _ :: _, [], _, h, _ => by simp [kksOk] at h
 | _ :: _, _ :: _, [], _, h => by simp [kksOk] at h
theorem bytes_beq (s : ByteArray) : (s == s) = true := by
 show (s.data == s.data) = true
 simp
theorem sameBits_cells : ∀ {ks : List KK} {xs : List AV} {vs : List Value} (n : Nat), kksOk ks xs = true → VRels m X w xs vs → ((vs.zip vs).all fun (x, y) => Instr.sameBits n x y) = true
 | [], [], vs, n, _, hr => by rw [hr.nil']; rfl
 | k :: ks, x :: xs, vs, n, h, hr => by
  obtain ⟨v, us, rfl, h1, h2⟩ := hr.cons
  simp only [kksOk, Bool.and_eq_true] at h
  simp only [List.zip_cons_cons, List.all_cons, Bool.and_eq_true]
  refine ⟨?_, sameBits_cells n h.2 h2⟩
  rcases kk_cases h.1 h1 with ⟨q, i, _, _, rfl, _⟩ | ⟨s, _, _, rfl, _⟩ | ⟨b, _, _, rfl⟩ <;> cases n <;> simp [Instr.sameBits, bytes_beq]
 | [], _ :: _, _, _, h, _ => by simp [kksOk] at h
 | _ :: _, [], _, _, h, _ => by simp [kksOk] at h
theorem cells_same : ∀ {ks : List KK} {xs ys : List AV} {vs us : List Value}, kksOk ks xs = true → kksOk ks ys = true → cellsEq xs ys = true → VRels m X w xs vs → VRels m X w ys us → vs = us
 | [], [], [], vs, us, _, _, _, h1, h2 => by rw [h1.nil', h2.nil']
 | k :: ks, x :: xs, y :: ys, vs, us, g1, g2, he, h1, h2 => by
  obtain ⟨v, vs, rfl, a1, a2⟩ := h1.cons
  obtain ⟨u, us, rfl, b1, b2⟩ := h2.cons
  simp only [kksOk, cellsEq, Bool.and_eq_true] at g1 g2 he
  have := cells_same g1.2 g2.2 he.2 a2 b2
  subst this
  congr 1
  rcases kk_cases g1.1 a1 with ⟨q, n, rfl, rfl, rfl, _⟩ | ⟨s, rfl, rfl, rfl, _⟩ | ⟨c, rfl, rfl, rfl⟩ <;> rcases kk_cases g2.1 b1 with ⟨q', n', hq, rfl, rfl, _⟩ | ⟨s', hq, rfl, rfl, _⟩ | ⟨c', hq, rfl, rfl⟩ <;> cases hq <;> simp [cellEq] at he <;> simp [he.1]
 | [], _ :: _, _, _, _, h, _, _, _, _ => by simp [kksOk] at h
 | [], [], _ :: _, _, _, _, h, _, _, _ => by simp [kksOk] at h
 | _ :: _, [], _, _, _, h, _, _, _, _ => by simp [kksOk] at h
 | _ :: _, _ :: _, [], _, _, _, h, _, _, _ => by simp [kksOk] at h
theorem keyK_cases {kt : TypeId} {ks : Bool × List KK} (h : keyK P kt = some ks) :
  (∃ d k, ks = (false, [k]) ∧ P.underlying kt = some d ∧ ((∃ q, d = .int q ∧ k = .int q) ∨ (d = .string ∧ k = .str))) ∨
  (∃ kk, ks = (true, kk) ∧ P.keyTypeAt 8 kt = true ∧ flatK P 8 kt = some kk ∧ (match P.underlying kt with | some (.array _ _) | some (.struct _) => true | _ => false) = true) := by
 unfold keyK at h
 split at h
 ·rename_i k hu; cases h; exact .inl ⟨_, _, rfl, hu, .inl ⟨k, rfl, rfl⟩⟩
 ·rename_i hu; cases h; exact .inl ⟨_, _, rfl, hu, .inr ⟨rfl, rfl⟩⟩
 ·rename_i hu
  split at h
  ·rename_i hk
   simp only [Option.map_eq_some_iff] at h
   obtain ⟨kk, h1, rfl⟩ := h
   exact .inr ⟨kk, rfl, hk, h1, by rw [hu]⟩
  ·cases h
 ·rename_i hu
  split at h
  ·rename_i hk
   simp only [Option.map_eq_some_iff] at h
   obtain ⟨kk, h1, rfl⟩ := h
   exact .inr ⟨kk, rfl, hk, h1, by rw [hu]⟩
  ·cases h
 ·cases h
theorem key_formed {kt : TypeId} {kk : List KK} {xs : List AV} {vs : List Value} (hf : flatK P 8 kt = some kk) (hw : (match P.underlying kt with | some (.array _ _) | some (.struct _) => true | _ => false) = true) (hk : kksOk kk xs = true) (hr : VRels m X w xs vs) :
  (Value.agg vs.toArray).formed P kt = true := by
 have h := keyLits_of 8 kt kk xs vs hf hk hr
 unfold Program.keyLits at h
 unfold Value.formed
 split at hw
 ·rename_i n e hu
  rw [hu] at h ⊢
  simp only at h ⊢
  split at h
  ·rename_i hl; simpa using hl
  ·cases h
 ·rename_i fs hu
  rw [hu] at h ⊢
  simp only at h ⊢
  split at h
  ·rename_i hl; simpa using hl.1
  ·cases h
 ·cases hw
theorem keyIs_true {kk : List KK} {k : AV} (h : keyIs (true, kk) k = true) : ∃ xs, k = .agg xs ∧ kksOk kk xs = true := by
 unfold keyIs keyCells at h
 cases k <;> simp at h
 exact ⟨_, rfl, h⟩
theorem checkKey_sound {kt : TypeId} {ks : Bool × List KK} (hks : keyK P kt = some ks) {k : AV} {x : Value} (hi : keyIs ks k = true) (hr : VRel m X w k x) (em : Bool) : (Instr.checkKey em 10000 kt x).run P w = .ok () w := by
 rcases keyK_cases hks with ⟨d, kk, rfl, hu, hd⟩ | ⟨kk, rfl, hty, hf, hw⟩
 ·show (Instr.checkKey em (9999 + 1) kt x).run P w = _
  unfold Instr.checkKey
  rcases hd with ⟨q, rfl, _⟩ | ⟨rfl, _⟩ <;> simp only [Sem.run_bind, rUnderlying hu, Result.andThen_ok, Sem.run_pure]
 ·obtain ⟨xs, rfl, hi⟩ := keyIs_true hi
  simp only [VRel] at hr
  obtain ⟨vs, rfl, hrs⟩ := hr
  have := run_checkKey_deep em 9992 8 kt hty w 8 (.agg vs.toArray) _ (key_formed hf hw hi hrs) (keyLits_of 8 kt _ _ _ hf hi hrs)
  exact this
def ERels (m : LM) (X : Nat → Prop) (w : World) : List (AV × AV) → List MapEntry → Prop
 | [], [] => True
 | (k, a) :: es, e :: ces => VRel m X w k e.key ∧ VRel m X w a e.val ∧ ERels m X w es ces
 | _, _ => False
theorem ERels_of : ∀ (es : List (AV × AV)) (ces : List MapEntry), ces.length = es.length → (∀ (i : Nat) (k a : AV), es[i]? = some (k, a) → ∃ e : MapEntry, ces[i]? = some e ∧ VRel m X w k e.key ∧ VRel m X w a e.val) → ERels m X w es ces
 | [], [], _, _ => trivial
 | (k, a) :: es, e :: ces, hl, h => by
  obtain ⟨e', h1, h2, h3⟩ := h 0 k a rfl
  simp at h1; subst h1
  exact ⟨h2, h3, ERels_of es ces (by simpa using hl) fun i k a hi => by simpa using h (i + 1) k a (by simpa using hi)⟩
 | [], _ :: _, hl, _ => by simp at hl
 | _ :: _, [], hl, _ => by simp at hl
def FRel (m : LM) (X : Nat → Prop) (w : World) (x : Value) (i : Nat) (ces : List MapEntry) : Option (Nat × AV) → Option (Nat × Value) → Prop
 | none, none => True
 | some (j, a), some (j', v) => j = j' ∧ i ≤ j ∧ ∃ e : MapEntry, ces[j - i]? = some e ∧ e.val = v ∧ VRel m X w a v ∧ e.key = x
 | _, _ => False
theorem FRel.next {x : Value} {i : Nat} {e : MapEntry} {ces : List MapEntry} : ∀ {a : Option (Nat × AV)} {b : Option (Nat × Value)}, FRel m X w x (i + 1) ces a b → FRel m X w x i (e :: ces) a b
 | none, none, _ => trivial
 | some (j, a), some (j', v), h => by
  obtain ⟨h1, h2, e', h3, h4, h5, h6⟩ := h
  refine ⟨h1, by omega, e', ?_, h4, h5, h6⟩
  rw [show j - i = (j - (i + 1)) + 1 by omega]; simpa using h3
 | none, some _, h => h.elim
 | some _, none, h => h.elim
theorem findNow_sound {d : TypeDesc} {kk : KK} (hd : (∃ q, d = .int q ∧ kk = .int q) ∨ (d = .string ∧ kk = .str)) {k : AV} {x : Value} (hr : VRel m X w k x) : ∀ (es : List (AV × AV)) (ces : List MapEntry) (i : Nat) (res : Option (Nat × AV)), ERels m X w es ces → findKey (false, [kk]) k es i = some res →
  ∃ res', Instr.findNow d x ces i = some res' ∧ FRel m X w x i ces res res'
 | [], [], i, res, _, h => by simp [findKey] at h; subst h; exact ⟨none, rfl, trivial⟩
 | (k', a) :: es, e :: ces, i, res, he, h => by
  obtain ⟨h1, h2, h3⟩ := he
  simp only [findKey] at h
  have same : ∀ r, keyEqK (false, [kk]) k k' = some r → Instr.sameNow d x e.key = some r ∧ (r = true → e.key = x) := by
   intro r hkr
   simp only [keyEqK, keyCells] at hkr
   split at hkr
   ·rename_i hok; cases hkr
    simp only [kksOk, Bool.and_true, Bool.and_eq_true] at hok
    simp only [cellsEq, Bool.and_true]
    rcases hd with ⟨q, rfl, rfl⟩ | ⟨rfl, rfl⟩
    ·rcases kk_cases hok.1 hr with ⟨q1, n, hq, rfl, rfl, _⟩ | ⟨s, hq, _⟩ | ⟨c, hq, _⟩ <;> cases hq
     rcases kk_cases hok.2 h1 with ⟨q1, n', hq, rfl, hk, _⟩ | ⟨s, hq, _⟩ | ⟨c, hq, _⟩ <;> cases hq
     rw [hk]
     refine ⟨?_, ?_⟩
     ·simp only [Instr.sameNow, if_true, cellEq]; congr 1
     ·simp only [cellEq, decide_eq_true_eq]; rintro rfl; rfl
    ·rcases kk_cases hok.1 hr with ⟨q1, n, hq, _⟩ | ⟨s, hq, rfl, rfl, _⟩ | ⟨c, hq, _⟩ <;> cases hq
     rcases kk_cases hok.2 h1 with ⟨q1, n', hq, _⟩ | ⟨s', hq, rfl, hk, _⟩ | ⟨c, hq, _⟩ <;> cases hq
     rw [hk]
     refine ⟨?_, ?_⟩
     ·simp only [Instr.sameNow, cellEq]; congr 1
      by_cases hss : s = s'
      ·subst hss; simp [bytes_beq]
      ·have : (s == s') = false := by
        show (s.data == s'.data) = false
        rw [beq_eq_false_iff_ne]
        rintro hh; apply hss; cases s; cases s'; simp at hh; rw [hh]
       simp [hss, this]
     ·simp only [cellEq, decide_eq_true_eq]; rintro rfl; rfl
   ·cases hkr
  simp only [Instr.findNow]
  split at h
  ·rename_i hr'; cases h
   obtain ⟨g1, g2⟩ := same _ hr'
   rw [g1]
   exact ⟨some (i, e.val), rfl, rfl, Nat.le_refl _, e, by simp, rfl, h2, g2 rfl⟩
  ·rename_i hr'
   obtain ⟨g1, _⟩ := same _ hr'
   rw [g1]
   obtain ⟨res', g3, g4⟩ := findNow_sound hd hr es ces (i + 1) res h3 h
   exact ⟨res', g3, g4.next⟩
  ·cases h
 | [], _ :: _, _, _, h, _ => h.elim
 | _ :: _, [], _, _, h, _ => by simp [ERels] at h
theorem findAsking_sound {kt : TypeId} {kk : List KK} (hty : P.keyTypeAt 8 kt = true) (hf : flatK P 8 kt = some kk) (hw : (match P.underlying kt with | some (.array _ _) | some (.struct _) => true | _ => false) = true) {k : AV} {x : Value} (hr : VRel m X w k x) :
  ∀ (es : List (AV × AV)) (ces : List MapEntry) (i : Nat) (res : Option (Nat × AV)), ERels m X w es ces → findKey (true, kk) k es i = some res → ∃ res', (Instr.findAsking kt x ces i).run P w = .ok res' w ∧ FRel m X w x i ces res res'
 | [], [], i, res, _, h => by simp [findKey] at h; subst h; exact ⟨none, by simp [Instr.findAsking], trivial⟩
 | (k', a) :: es, e :: ces, i, res, he, h => by
  obtain ⟨h1, h2, h3⟩ := he
  simp only [findKey] at h
  have same : ∀ r, keyEqK (true, kk) k k' = some r → (Op.equal kt x e.key).run P w = .ok r w ∧ (r = true → e.key = x) := by
   intro r hkr
   unfold keyEqK at hkr
   split at hkr
   ·rename_i xs ys hxs hys
    have ex : k = .agg xs := by cases k <;> simp [keyCells] at hxs; rw [hxs]
    have ey : k' = .agg ys := by cases k' <;> simp [keyCells] at hys; rw [hys]
    subst ex ey
    split at hkr
    ·rename_i hok; cases hkr
     simp only [Bool.and_eq_true] at hok
     simp only [VRel] at hr h1
     obtain ⟨vs, rfl, hrs⟩ := hr
     obtain ⟨us, hus, hrs'⟩ := h1
     rw [hus]
     obtain ⟨r', g1, g2⟩ := run_equalIn_deep 9992 8 kt hty w 8 8 (.agg vs.toArray) (.agg us.toArray) _ _ (key_formed hf hw hok.1 hrs) (key_formed hf hw hok.2 hrs') (keyLits_of 8 kt _ _ _ hf hok.1 hrs) (keyLits_of 8 kt _ _ _ hf hok.2 hrs')
     rw [lits_eq hok.1 hok.2] at g2
     have hb : r' = cellsEq xs ys := by
      cases hc : cellsEq xs ys
      ·cases r'
       ·rfl
       ·rw [hc] at g2; exact absurd (g2.1 rfl) (by simp)
      ·exact g2.2 hc
     subst hb
     exact ⟨g1, fun hc => by rw [cells_same hok.1 hok.2 hc hrs hrs']⟩
    ·cases hkr
   ·cases hkr
  simp only [Instr.findAsking]
  split at h
  ·rename_i hr'; cases h
   obtain ⟨g1, g2⟩ := same _ hr'
   exact ⟨some (i, e.val), by simp [g1], rfl, Nat.le_refl _, e, by simp, rfl, h2, g2 rfl⟩
  ·rename_i hr'
   obtain ⟨g1, _⟩ := same _ hr'
   obtain ⟨res', g3, g4⟩ := findAsking_sound hty hf hw hr es ces (i + 1) res h3 h
   exact ⟨res', by simp [g1, g3], g4.next⟩
  ·cases h
 | [], _ :: _, _, _, h, _ => h.elim
 | _ :: _, [], _, _, h, _ => by simp [ERels] at h
theorem findKey_sound {kt : TypeId} {ks : Bool × List KK} (hks : keyK P kt = some ks) {k : AV} {x : Value} (hr : VRel m X w k x) {es : List (AV × AV)} {ces : List MapEntry} {res : Option (Nat × AV)} (he : ERels m X w es ces) (h : findKey ks k es 0 = some res) :
  ∃ res', (Instr.findKey kt x ces).run P w = .ok res' w ∧ FRel m X w x 0 ces res res' := by
 rcases keyK_cases hks with ⟨d, kk, rfl, hu, hd⟩ | ⟨kk, rfl, hty, hf, hw⟩
 ·obtain ⟨res', h1, h2⟩ := findNow_sound hd hr es ces 0 res he h
  refine ⟨res', ?_, h2⟩
  simp only [Instr.findKey, Sem.run_bind, rUnderlying hu, Result.andThen_ok, h1, Sem.run_pure]
 ·rw [run_findKey_eq _ hw]
  exact findAsking_sound hty hf hw hr es ces 0 res he h
theorem HRel.mapRow (h : HRel m X σ w) {l : Nat} {es : List (AV × AV)} (hc : mapOf σ l = some es) :
  ∃ b ces clock, m l = some b ∧ σ[l]? = some (.map es) ∧ w.heap[b]? = some (.map ces clock) ∧ (∀ e ∈ ces, e.born < clock) ∧ (ces.toList.map (·.born)).Nodup ∧ ces.size = es.length ∧ ERels m X w es ces.toList ∧
   (∀ (i : Nat) (k a : AV), es[i]? = some (k, a) → ∃ e : MapEntry, ces[i]? = some e ∧ VRel m X w k e.key ∧ VRel m X w a e.val) := by
 unfold mapOf at hc
 split at hc
 ·rename_i es' ho; cases hc
  have hr := h.obj l _ ho
  cases hm : m l with
  | none => rw [hm] at hr; simp [ORel] at hr
  | some b =>
   rw [hm] at hr
   simp only [ORel] at hr
   obtain ⟨ces, clock, h1, h2, h3, h4, h5⟩ := hr
   exact ⟨b, ces, clock, rfl, ho, h1, h2, h3, h4, ERels_of _ _ (by simpa using h4) (by simpa using h5), h5⟩
 ·cases hc
theorem run_setObj' {b : Nat} {es : Array MapEntry} {c : Nat} {o : Obj} (h : w.heap[b]? = some (.map es c)) : (setObj b o).run P w = .ok () (w.putObj b o) := MapKept.run_setObj_map o h
theorem snd_lookup {t kt e : TypeId} {ks : Bool × List KK} {z : AV} {ok : Bool} {x y : Value} {avs : List AV} (h : HRel m X σ w) (hu : P.underlying t = some (.map kt e)) (hks : keyK P kt = some ks) (hz : zeroOf P e = some z) (ha : VRels m X w avs [x, y])
  (hs : f_lookup ks z ok avs σ = some (r, σ')) : Sound P (do pure (.value (← Instr.lookup t x y ok))) m X σ w r σ' := by
 unfold f_lookup at hs
 split at hs
 ·rename_i l k
  obtain ⟨x', us, hx, hr, hus⟩ := ha.cons
  obtain ⟨y', hy, hrk⟩ := hus.one
  subst hy; cases hx
  simp only [VRel] at hr; obtain ⟨b, hb, rfl⟩ := hr
  cases hc : mapOf σ l with
  | none => simp [hc] at hs
  | some es =>
   simp only [hc, Option.bind_some] at hs
   split at hs
   ·cases hs
   ·rename_i hi
    simp only [Option.map_eq_some_iff] at hs
    obtain ⟨res, hres, he⟩ := hs
    obtain ⟨b', ces, clock, g1, _, g2, _, _, _, g3, _⟩ := h.mapRow hc
    rw [hb] at g1; cases g1
    obtain ⟨res', h1, h2⟩ := findKey_sound hks hrk g3 hres
    have hck := checkKey_sound hks (by simpa using hi) hrk ces.isEmpty
    unfold zeroOf at hz
    cases hin : P.info? e with
    | none => rw [hin] at hz; cases hz
    | some inf =>
     rw [hin] at hz
     simp only [Option.bind_some, Option.map_eq_some_iff] at hz
     obtain ⟨z0, hz0, rfl⟩ := hz
     cases res with
     | none =>
      cases res' with
      | some q => exact h2.elim
      | none =>
       simp only [Prod.mk.injEq] at he
       obtain ⟨rfl, rfl⟩ := he
       refine sound_val0 h (v := if ok then .tuple #[z0, .bool false] else z0) ?_ ?_
       ·simp only [Instr.lookup, Sem.run_bind, rUnderlying hu, MapKept.run_getObj_map g2, Result.andThen_ok, Sem.run_pure, hck, h1, rZero hin hz0]
       ·cases ok
        ·exact ofConst_rel z0
        ·simp only [if_true, VRel]
         exact ⟨[z0, .bool false], rfl, by simp only [VRels]; exact ⟨ofConst_rel z0, VRel.mk_bool _, trivial⟩⟩
     | some p =>
      cases res' with
      | none => exact h2.elim
      | some p' =>
       obtain ⟨j, a⟩ := p; obtain ⟨j', v⟩ := p'
       obtain ⟨rfl, _, e', _, rfl, hav, _⟩ := h2
       simp only [Prod.mk.injEq] at he
       obtain ⟨rfl, rfl⟩ := he
       refine sound_val0 h (v := if ok then .tuple #[e'.val, .bool true] else e'.val) ?_ ?_
       ·simp only [Instr.lookup, Sem.run_bind, rUnderlying hu, MapKept.run_getObj_map g2, Result.andThen_ok, Sem.run_pure, hck, h1]
       ·cases ok
        ·exact hav
        ·simp only [if_true, VRel]
         exact ⟨[e'.val, .bool true], rfl, by simp only [VRels]; exact ⟨hav, VRel.mk_bool _, trivial⟩⟩
 ·cases hs
theorem key_stays {kt : TypeId} {ks : Bool × List KK} (hks : keyK P kt = some ks) {k : AV} {x : Value} (hi : keyIs ks k = true) (hr : VRel m X w k x) : (Instr.keyThatStays x x).run P w = .ok x w := by
 have : Instr.sameBits 10000 x x = true := by
  rcases keyK_cases hks with ⟨d, kk, rfl, hu, hd⟩ | ⟨kk, rfl, hty, hf, hw⟩
  ·simp only [keyIs, keyCells] at hi
   have := sameBits_cells (ks := [kk]) (xs := [k]) (vs := [x]) (m := m) (X := X) (w := w) 10000 hi (by simp only [VRels]; exact ⟨hr, trivial⟩)
   simpa using this
  ·obtain ⟨xs, rfl, hi⟩ := keyIs_true hi
   simp only [VRel] at hr
   obtain ⟨vs, rfl, hrs⟩ := hr
   show Instr.sameBits (9999 + 1) _ _ = true
   simp only [Instr.sameBits, beq_self_eq_true, Bool.true_and]
   exact sameBits_cells 9999 hi hrs
 unfold Instr.keyThatStays
 rw [if_pos this]; rfl
theorem snd_mapset {t kt e : TypeId} {ks : Bool × List KK} {x y v : Value} {avs : List AV} (h : HRel m X σ w) (hu : P.underlying t = some (.map kt e)) (hks : keyK P kt = some ks) (ha : VRels m X w avs [x, y, v])
  (hs : f_mapset ks avs σ = some (r, σ')) : Sound P (do Instr.mapUpdate t x y v; pure .skip) m X σ w r σ' := by
 unfold f_mapset at hs
 split at hs
 ·rename_i l k a
  obtain ⟨x', us, hx, hr, hus⟩ := ha.cons
  obtain ⟨y', us', hy, hrk, hus'⟩ := hus.cons
  obtain ⟨v', hv, hra⟩ := hus'.one
  subst hv; cases hy; cases hx
  simp only [VRel] at hr; obtain ⟨b, hb, rfl⟩ := hr
  cases hc : mapOf σ l with
  | none => simp [hc] at hs
  | some es =>
   simp only [hc, Option.bind_some] at hs
   split at hs
   ·cases hs
   ·rename_i hi
    have hi' : keyIs ks k = true := by simpa using hi
    simp only [Option.map_eq_some_iff, Prod.mk.injEq] at hs
    obtain ⟨res, hres, rfl, rfl⟩ := hs
    obtain ⟨b', ces, clock, g1, hl, g2, hborn, hnd, hsz, g3, g4⟩ := h.mapRow hc
    rw [hb] at g1; cases g1
    obtain ⟨res', h1, h2⟩ := findKey_sound hks hrk g3 hres
    have hck := checkKey_sound hks hi' hrk false
    cases res with
    | none =>
     cases res' with
     | some q => exact h2.elim
     | none =>
      have ht : Turned w (w.putObj b (.map (ces.push { key := y, val := v, born := clock }) (clock + 1))) b := Turned.obj w _ g2 (by simp)
      obtain ⟨q1, q2, q3⟩ := h.turn hb hl trivial ht (o' := .map (mapPut es k a none)) (fun hm => by
       simp only [ORel, mapPut]
       refine ⟨_, _, World.putObj_heap_same (lt_of_heap g2), ?_, ?_, by simp [hsz], ?_⟩
       ·intro e' he'
        rcases Array.mem_push.1 he' with he' | rfl
        ·exact Nat.lt_succ_of_lt (hborn e' he')
        ·exact Nat.lt_succ_self _
       ·simp only [Array.toList_push, List.map_append, List.map_cons, List.map_nil]
        refine List.nodup_append.2 ⟨hnd, by simp, ?_⟩
        intro p hp q hq
        simp only [List.mem_singleton] at hq
        subst hq
        obtain ⟨e', he', rfl⟩ := List.mem_map.1 hp
        exact Nat.ne_of_lt (hborn e' (by simpa using he'))
       ·intro i k' a' hi
        rcases Nat.lt_or_ge i es.length with hlt | hge
        ·rw [List.getElem?_append_left hlt] at hi
         obtain ⟨e', p1, p2, p3⟩ := g4 i k' a' hi
         exact ⟨e', by rw [Array.getElem?_push, if_neg (by omega)]; exact p1, p2.mono hm _ _, p3.mono hm _ _⟩
        ·rw [List.getElem?_append_right hge] at hi
         have hil : i = es.length := by
          have := (List.getElem?_eq_some_iff.1 hi).1
          simp at this; omega
         subst hil
         simp at hi
         obtain ⟨rfl, rfl⟩ := hi
         exact ⟨{ key := y, val := v, born := clock }, by rw [Array.getElem?_push, if_pos hsz.symm], hrk.mono hm _ _, hra.mono hm _ _⟩)
      refine sound_unit ?_ q1 q2
      simp only [Instr.mapUpdate, Sem.run_bind, rUnderlying hu, MapKept.run_getObj_map g2, Result.andThen_ok, Sem.run_pure, hck, h1]
      exact run_setObj' g2
    | some p =>
     cases res' with
     | none => exact h2.elim
     | some p' =>
      obtain ⟨j, a0⟩ := p; obtain ⟨j', v0⟩ := p'
      obtain ⟨rfl, _, e0, hj, rfl, _, hkey⟩ := h2
      have hj' : ces[j]? = some e0 := by simpa using hj
      have ht : Turned w (w.putObj b (.map (ces.modify j fun e => { e with key := y, val := v }) clock)) b := Turned.obj w _ g2 (by simp)
      have hbs : (ces.modify j fun e => { e with key := y, val := v }).toList.map (·.born) = ces.toList.map (·.born) := by
       apply List.ext_getElem?
       intro q
       simp only [List.getElem?_map, Array.getElem?_toList, Array.getElem?_modify]
       split <;> cases ces[q]? <;> simp
      obtain ⟨q1, q2, q3⟩ := h.turn hb hl trivial ht (o' := .map (mapPut es k a (some (j, a0)))) (fun hm => by
       simp only [ORel, mapPut]
       refine ⟨_, _, World.putObj_heap_same (lt_of_heap g2), ?_, by rw [hbs]; exact hnd, by simp [hsz], ?_⟩
       ·intro e' he'
        have : e'.born ∈ ces.toList.map (·.born) := by
         rw [← hbs]; exact List.mem_map.2 ⟨e', Array.mem_toList_iff.2 he', rfl⟩
        obtain ⟨e2, p1, p2⟩ := List.mem_map.1 this
        have := hborn e2 (Array.mem_toList_iff.1 p1)
        omega
       ·intro i k' a' hi
        rw [List.getElem?_set] at hi
        by_cases hij : j = i
        ·subst hij
         rw [if_pos rfl] at hi
         split at hi
         ·simp at hi
          obtain ⟨rfl, rfl⟩ := hi
          exact ⟨{ e0 with key := y, val := v }, by simp [Array.getElem?_modify, hj'], hrk.mono hm _ _, hra.mono hm _ _⟩
         ·cases hi
        ·rw [if_neg hij] at hi
         obtain ⟨e', p1, p2, p3⟩ := g4 i k' a' hi
         exact ⟨e', by rw [Array.getElem?_modify, if_neg hij]; exact p1, p2.mono hm _ _, p3.mono hm _ _⟩)
      refine sound_unit ?_ q1 q2
      have hst : (Instr.keyThatStays (((ces[j]?).map (·.key)).getD y) y).run P w = .ok y w := by
       rw [hj']; simp only [Option.map_some, Option.getD_some]
       rw [hkey]; exact key_stays hks hi' hrk
      simp only [Instr.mapUpdate, Sem.run_bind, rUnderlying hu, MapKept.run_getObj_map g2, Result.andThen_ok, Sem.run_pure, hck, h1, hst]
      exact run_setObj' g2
 ·cases hs
theorem snd_mapdel {t kt e : TypeId} {ks : Bool × List KK} {x y : Value} {t2 ty : TypeId} {avs : List AV} (h : HRel m X σ w) (hu : P.underlying t = some (.map kt e)) (hks : keyK P kt = some ks) (ha : VRels m X w avs [x, y])
  (hs : f_mapdel ks avs σ = some (r, σ')) : Sound P (do pure (.value (← Builtin.delete_ #[t, t2] ty #[x, y]))) m X σ w r σ' := by
 unfold f_mapdel at hs
 split at hs
 ·rename_i l k
  obtain ⟨x', us, hx, hr, hus⟩ := ha.cons
  obtain ⟨y', hy, hrk⟩ := hus.one
  subst hy; cases hx
  simp only [VRel] at hr; obtain ⟨b, hb, rfl⟩ := hr
  cases hc : mapOf σ l with
  | none => simp [hc] at hs
  | some es =>
   simp only [hc, Option.bind_some] at hs
   split at hs
   ·cases hs
   ·rename_i hi
    have hi' : keyIs ks k = true := by simpa using hi
    simp only [Option.map_eq_some_iff, Prod.mk.injEq] at hs
    obtain ⟨res, hres, rfl, rfl⟩ := hs
    obtain ⟨b', ces, clock, g1, hl, g2, hborn, hnd, hsz, g3, g4⟩ := h.mapRow hc
    rw [hb] at g1; cases g1
    obtain ⟨res', h1, h2⟩ := findKey_sound hks hrk g3 hres
    have hck := checkKey_sound hks hi' hrk ces.isEmpty
    have hv : VRel m X w (.tup []) (.tuple #[]) := by simp only [VRel]; exact ⟨[], rfl, by simp [VRels]⟩
    cases res with
    | none =>
     cases res' with
     | some q => exact h2.elim
     | none =>
      have ht : Turned w (w.putObj b (.map ces clock)) b := Turned.obj w _ g2 (by simp)
      obtain ⟨q1, q2, q3⟩ := h.turn hb hl trivial ht (o' := .map es) (fun hm => by
       simp only [ORel]
       refine ⟨_, _, World.putObj_heap_same (lt_of_heap g2), hborn, hnd, hsz, ?_⟩
       intro i k' a' hi
       obtain ⟨e', p1, p2, p3⟩ := g4 i k' a' hi
       exact ⟨e', p1, p2.mono hm _ _, p3.mono hm _ _⟩)
      refine sound_val (v := .tuple #[]) ?_ (by simp only [VRel]; exact ⟨[], rfl, by simp [VRels]⟩) q1 q2
      simp [Builtin.delete_, rUnderlying hu, MapKept.run_getObj_map g2, hck, h1, run_setObj' g2]
    | some p =>
     cases res' with
     | none => exact h2.elim
     | some p' =>
      obtain ⟨j, a0⟩ := p; obtain ⟨j', v0⟩ := p'
      obtain ⟨rfl, _, e0, hj, rfl, _, hkey⟩ := h2
      have hj' : ces[j]? = some e0 := by simpa using hj
      have hjl : j < ces.size := (Array.getElem?_eq_some_iff.1 hj').1
      have htl : (ces.eraseIdxIfInBounds j).toList = ces.toList.eraseIdx j := by
       simp [Array.eraseIdxIfInBounds, hjl]
      have ht : Turned w (w.putObj b (.map (ces.eraseIdxIfInBounds j) clock)) b := Turned.obj w _ g2 (by simp)
      obtain ⟨q1, q2, q3⟩ := h.turn hb hl trivial ht (o' := .map (es.eraseIdx j)) (fun hm => by
       simp only [ORel]
       refine ⟨_, _, World.putObj_heap_same (lt_of_heap g2), ?_, ?_, ?_, ?_⟩
       ·intro e' he'
        have : e' ∈ (ces.eraseIdxIfInBounds j).toList := Array.mem_toList_iff.2 he'
        rw [htl] at this
        exact hborn e' (by simpa using (List.eraseIdx_sublist _ j).subset this)
       ·rw [htl]
        exact hnd.sublist (List.Sublist.map _ (List.eraseIdx_sublist _ j))
       ·rw [← Array.length_toList, htl, List.length_eraseIdx, List.length_eraseIdx, Array.length_toList, hsz]
       ·intro i k' a' hi
        rw [← Array.getElem?_toList, htl]
        rw [List.getElem?_eraseIdx] at hi ⊢
        split at hi
        ·rename_i hij
         obtain ⟨e', p1, p2, p3⟩ := g4 _ k' a' hi
         exact ⟨e', by rw [if_pos hij, Array.getElem?_toList]; exact p1, p2.mono hm _ _, p3.mono hm _ _⟩
        ·rename_i hij
         obtain ⟨e', p1, p2, p3⟩ := g4 _ k' a' hi
         exact ⟨e', by rw [if_neg hij, Array.getElem?_toList]; exact p1, p2.mono hm _ _, p3.mono hm _ _⟩)
      refine sound_val (v := .tuple #[]) ?_ (by simp only [VRel]; exact ⟨[], rfl, by simp [VRels]⟩) q1 q2
      simp [Builtin.delete_, rUnderlying hu, MapKept.run_getObj_map g2, hck, h1, run_setObj' g2]
 ·cases hs
theorem eqK_sound {kt : TypeId} {kk : List KK} (hty : P.keyTypeAt 8 kt = true) (hf : flatK P 8 kt = some kk) (hw : (match P.underlying kt with | some (.array _ _) | some (.struct _) => true | _ => false) = true) {k k' : AV} {x y : Value} (hr : VRel m X w k x) (h1 : VRel m X w k' y) :
  ∀ r, keyEqK (true, kk) k k' = some r → (Op.equal kt x y).run P w = .ok r w ∧ (r = true → y = x) := by
 intro r hkr
 unfold keyEqK at hkr
 split at hkr
 ·rename_i xs ys hxs hys
  have ex : k = .agg xs := by cases k <;> simp [keyCells] at hxs; rw [hxs]
  have ey : k' = .agg ys := by cases k' <;> simp [keyCells] at hys; rw [hys]
  subst ex ey
  split at hkr
  ·rename_i hok; cases hkr
   simp only [Bool.and_eq_true] at hok
   simp only [VRel] at hr h1
   obtain ⟨vs, rfl, hrs⟩ := hr
   obtain ⟨us, hus, hrs'⟩ := h1
   rw [hus]
   obtain ⟨r', g1, g2⟩ := run_equalIn_deep 9992 8 kt hty w 8 8 (.agg vs.toArray) (.agg us.toArray) _ _ (key_formed hf hw hok.1 hrs) (key_formed hf hw hok.2 hrs') (keyLits_of 8 kt _ _ _ hf hok.1 hrs) (keyLits_of 8 kt _ _ _ hf hok.2 hrs')
   rw [lits_eq hok.1 hok.2] at g2
   have hb : r' = cellsEq xs ys := by
    cases hc : cellsEq xs ys
    ·cases r'
     ·rfl
     ·rw [hc] at g2; exact absurd (g2.1 rfl) (by simp)
    ·exact g2.2 hc
   subst hb
   exact ⟨g1, fun hc => by rw [cells_same hok.1 hok.2 hc hrs hrs']⟩
  ·cases hkr
 ·cases hkr
theorem keyK_agg {t : TypeId} {kk : List KK} (h : keyK P t = some (true, kk)) : P.keyTypeAt 8 t = true ∧ flatK P 8 t = some kk ∧ (match P.underlying t with | some (.array _ _) | some (.struct _) => true | _ => false) = true := by
 unfold keyK at h
 split at h
 ·cases h
 ·cases h
 ·rename_i hu
  split at h
  ·rename_i hk
   simp only [Option.map_eq_some_iff, Prod.mk.injEq, true_and] at h
   obtain ⟨ks, h1, rfl⟩ := h
   exact ⟨hk, h1, by rw [hu]⟩
  ·cases h
 ·rename_i hu
  split at h
  ·rename_i hk
   simp only [Option.map_eq_some_iff, Prod.mk.injEq, true_and] at h
   obtain ⟨ks, h1, rfl⟩ := h
   exact ⟨hk, h1, by rw [hu]⟩
  ·cases h
 ·cases h
theorem keyEq_agg {kk : List KK} {a b : AV} {r : Bool} (h : keyEqK (true, kk) a b = some r) : ∃ xs ys, a = .agg xs ∧ b = .agg ys := by
 unfold keyEqK at h
 split at h
 ·rename_i xs ys hxs hys
  exact ⟨xs, ys, by cases a <;> simp [keyCells] at hxs; rw [hxs], by cases b <;> simp [keyCells] at hys; rw [hys]⟩
 ·cases h
theorem snd_eqS {t : TypeId} {kk : List KK} {xo yo : Operand} {x y : Value} {avs : List AV} (h : HRel m X σ w) (hg : P.eqGuardType P.depth t = false) (hk : keyK P t = some (true, kk)) (ha : VRels m X w avs [x, y])
  (hs : stepF (.eqS false (true, kk)) avs σ = some (r, σ')) : Sound P (do pure (.value (← (do eqGuard .eql t xo yo x y; binOp .eql t x y)))) m X σ w r σ' := by
 simp only [stepF, f_eqS] at hs
 split at hs
 ·rename_i a b
  simp only [Option.map_eq_some_iff] at hs
  obtain ⟨v, hv, he⟩ := hs; cases he
  obtain ⟨x', us, hx, hr, hus⟩ := ha.cons; cases hx
  obtain ⟨y', hy, hra⟩ := hus.one; cases hy
  obtain ⟨k1, k2, k3⟩ := keyK_agg hk
  have he := (eqK_sound k1 k2 k3 hr hra v hv).1
  obtain ⟨xs, ys, rfl, rfl⟩ := keyEq_agg hv
  simp only [VRel] at hr hra
  obtain ⟨vs, rfl, _⟩ := hr
  obtain ⟨us, rfl, _⟩ := hra
  refine sound_val0 h (v := .bool v) ?_ (by simpa using VRel.mk_bool _)
  simp [eqGuard, binOp, he, hg]
 ·cases hs
theorem snd_neS {t : TypeId} {kk : List KK} {xo yo : Operand} {x y : Value} {avs : List AV} (h : HRel m X σ w) (hg : P.eqGuardType P.depth t = false) (hk : keyK P t = some (true, kk)) (ha : VRels m X w avs [x, y])
  (hs : stepF (.eqS true (true, kk)) avs σ = some (r, σ')) : Sound P (do pure (.value (← (do eqGuard .neq t xo yo x y; binOp .neq t x y)))) m X σ w r σ' := by
 simp only [stepF, f_eqS] at hs
 split at hs
 ·rename_i a b
  simp only [Option.map_eq_some_iff] at hs
  obtain ⟨v, hv, he⟩ := hs; cases he
  obtain ⟨x', us, hx, hr, hus⟩ := ha.cons; cases hx
  obtain ⟨y', hy, hra⟩ := hus.one; cases hy
  obtain ⟨k1, k2, k3⟩ := keyK_agg hk
  have he := (eqK_sound k1 k2 k3 hr hra v hv).1
  obtain ⟨xs, ys, rfl, rfl⟩ := keyEq_agg hv
  simp only [VRel] at hr hra
  obtain ⟨vs, rfl, _⟩ := hr
  obtain ⟨us, rfl, _⟩ := hra
  refine sound_val0 h (v := .bool (!v)) ?_ (by simpa using VRel.mk_bool _)
  simp [eqGuard, binOp, he, hg]
 ·cases hs
theorem siterOf_some {σ : List AObj} {l : Nat} {s : ByteArray} {p : Nat} (h : siterOf σ l = some (s, p)) : σ[l]? = some (.siter s p) := by
 unfold siterOf at h
 split at h
 ·rename_i s' p' ho; cases h; exact ho
 ·cases h
theorem run_getObj_si {r : Nat} {s : ByteArray} {p : Nat} (h : w.heap[r]? = some (.stringIter s p)) : (getObj r).run P w = .ok (.stringIter s p) w := by simp [getObj, Sem.run, h]
theorem run_setObj_si {r : Nat} {s : ByteArray} {p : Nat} (o : Obj) (h : w.heap[r]? = some (.stringIter s p)) : (setObj r o).run P w = .ok () (w.putObj r o) := by simp [setObj, Sem.run, h, World.putObj]
theorem snd_rstr {t : TypeId} {x : Value} {avs : List AV} (h : HRel m X σ w) (hu : P.underlying t = some .string) (ha : VRels m X w avs [x])
  (hs : f_rstr avs σ = some (r, σ')) : Sound P (do pure (.value (← Instr.range t x))) m X σ w r σ' := by
 unfold f_rstr at hs
 split at hs
 ·rename_i s
  cases hs
  obtain ⟨v, hv, hr⟩ := ha.one; cases hv
  simp only [VRel, CV.rep] at hr
  subst hr
  obtain ⟨h1, h2, h3⟩ := h.alloc (.stringIter s 0) (.siter s 0) (fun hm => by simp only [ORel]; exact heap_alloc_new _ _)
  refine sound_val (v := .pointer (some ⟨w.heap.size, 0, none⟩)) ?_ ?_ h1 h2
  ·simp [Instr.range, rUnderlying hu]
  ·simp only [VRel]; exact ⟨_, LM.put_same _ _ _, rfl⟩
 ·cases hs
theorem snd_snext {ty : TypeId} {x : Value} {avs : List AV} (h : HRel m X σ w) (ha : VRels m X w avs [x])
  (hs : f_snext avs σ = some (r, σ')) : Sound P (do pure (.value (← Instr.next x true ty))) m X σ w r σ' := by
 unfold f_snext at hs
 split at hs
 ·rename_i l
  obtain ⟨v, hv, hr⟩ := ha.one; cases hv
  simp only [VRel] at hr; obtain ⟨b, hb, rfl⟩ := hr
  simp only [Option.map_eq_some_iff] at hs
  obtain ⟨⟨s, p⟩, hsp, he⟩ := hs
  have ho := siterOf_some hsp
  have hob := h.obj l _ ho
  rw [hb] at hob
  simp only [ORel] at hob
  by_cases hlt : p < s.size
  ·simp only [hlt, if_true] at he
   cases he
   have ht : Turned w (w.putObj b (.stringIter s (p + (Utf8.decode s p).2))) b := Turned.obj w _ hob (by simp)
   obtain ⟨q1, q2, q3⟩ := h.turn hb ho trivial ht (o' := .siter s (p + (Utf8.decode s p).2)) (fun hm => by
    simp only [ORel]; exact World.putObj_heap_same (lt_of_heap hob))
   refine sound_val (v := .tuple #[.bool true, .int .i64 p, .int .i32 (Utf8.decode s p).1]) ?_ ?_ q1 q2
   ·simp [Instr.next, run_getObj_si hob, hlt, run_setObj_si _ hob, goInt]
   ·simp only [VRel]
    exact ⟨_, rfl, by simp [VRels, VRel, CV.rep]⟩
  ·simp only [hlt, if_false] at he
   cases he
   refine sound_val0 h (v := .tuple #[.bool false]) ?_ (by simp only [VRel]; exact ⟨_, rfl, by simp [VRels, VRel, CV.rep]⟩)
   simp [Instr.next, run_getObj_si hob, hlt]
 ·cases hs
end Go.Proofs.YtpnghcaccfnngaaGreatDoor.AM
namespace Go.Proofs.YtpnghcaccfnngaaGreatDoor.AM
variable [Dr]
open Go
variable {P : Program} {m : LM} {X : Nat → Prop} {σ σ' : List AObj} {w : World} {r : AV}
theorem map_args (ρ : Operand → Value) (ps : Array (Nat × Operand)) : ps.map (fun (i, x) => (i, ρ x)) = ((ps.toList.map fun p => (p.1, ρ p.2))).toArray := by
 apply Array.ext'; simp
theorem mapM_places {P : Program} {fs : Array Field} : ∀ (ps : List (Nat × Operand)) (ρ : Operand → Value) (pl : List (Nat × Nat)), (ps.mapM fun p => (fs[p.1]?).bind fun f => (P.info? f.type).map fun i => (f.offset, i.size)) = some pl →
  (ps.map fun p => (p.1, ρ p.2)).mapM (fun p => (fs[p.1]?).map fun (f : Field) => (f.offset, P.cellsOf f.type)) = some pl
 | [], ρ, pl, h => by simpa using h
 | p :: ps, ρ, pl, h => by
  simp only [List.mapM_cons, Option.bind_eq_bind, Option.bind_eq_some_iff, Option.pure_def, Option.some.injEq, Option.map_eq_some_iff] at h
  obtain ⟨q, ⟨f, hf, i, hi, rfl⟩, pl', hpl, rfl⟩ := h
  simp only [List.map_cons, List.mapM_cons, hf, Option.map_some, Option.bind_eq_bind, Option.bind_some, mapM_places ps ρ pl' hpl, Option.pure_def]
  simp [Program.cellsOf, hi]
theorem two_args {ρ : Operand → Value} {args : Array Operand} {avs : List AV} (ha : VRels m X w avs (args.toList.map ρ)) (hl : avs.length = 2) : ∃ x y, args.map ρ = #[x, y] ∧ VRels m X w avs [x, y] := by
 have h1 := ha.length
 obtain ⟨l⟩ := args
 match l, h1 with
 | [a, b], _ => exact ⟨ρ a, ρ b, by simp, ha⟩
 | [], h1 => simp only [List.length_map, List.length_cons, List.length_nil] at h1; omega
 | [a], h1 => simp only [List.length_map, List.length_cons, List.length_nil] at h1; omega
 | a :: b :: c :: l, h1 => simp only [List.length_map, List.length_cons, List.length_nil] at h1; omega
theorem one_arg {ρ : Operand → Value} {args : Array Operand} {avs : List AV} (ha : VRels m X w avs (args.toList.map ρ)) (hl : avs.length = 1) : ∃ x, args.map ρ = #[x] ∧ VRels m X w avs [x] := by
 have h1 := ha.length
 obtain ⟨l⟩ := args
 match l, h1 with
 | [a], _ => exact ⟨ρ a, by simp, ha⟩
 | [], h1 => simp only [List.length_map, List.length_cons, List.length_nil] at h1; omega
 | a :: b :: l, h1 => simp only [List.length_map, List.length_cons, List.length_nil] at h1; omega
theorem builtin_sound {b : Builtin} {argTypes : Array TypeId} {args : Array Operand} {t : TypeId} {io : IOp} {ρ : Operand → Value} {avs : List AV} (hc : compBuiltin P b argTypes.toList = some io) (h : HRel m X σ w) (ha : VRels m X w avs (args.toList.map ρ)) (hs : stepF io avs σ = some (r, σ')) :
  Sound P (do let d ← resolve ρ { callee := .builtin b, args, argTypes } t; invoke d.target d.args) m X σ w r σ' := by
 have key : ∀ {s : Sem Next}, (∀ cs, builtin b argTypes t cs (args.map ρ) = s) → Sound P s m X σ w r σ' → Sound P (do let d ← resolve ρ { callee := .builtin b, args, argTypes } t; invoke d.target d.args) m X σ w r σ' := by
  rintro s hb ⟨nx, w', m', h1, h2⟩
  refine ⟨nx, w', m', ?_, h2⟩
  simp only [resolve, Sem.run_bind, Sem.run_pure, Result.andThen_ok, invoke, hb]
  exact h1
 unfold compBuiltin at hc
 split at hc
 ·rename_i st hat
  have hat' : argTypes = #[st] := by apply Array.ext'; simpa using hat
  subst hat'
  have hl : avs.length = 1 := by
   split at hc <;> first | (cases hc; done) | (cases hc; simp only [stepF, f_len] at hs; split at hs <;> first | (cases hs; done) | rfl)
  obtain ⟨x, hx, hv⟩ := one_arg ha hl
  refine key (fun cs => by rw [hx]; rfl) ?_
  split at hc
  ·rename_i hu; cases hc
   exact snd_len (t := t) h (.inr ⟨rfl, hu⟩) hv hs
  ·rename_i e hu; cases hc
   exact snd_len (t := t) h (.inl ⟨rfl, e, hu⟩) hv hs
  ·cases hc
 ·cases hc
  have hl : avs.length = 2 := by
   simp only [stepF, f_min2] at hs; split at hs <;> first | (cases hs; done) | rfl
  obtain ⟨x, y, hx, hv⟩ := two_args ha hl
  exact key (fun cs => by rw [hx]; rfl) (snd_min2 (at_ := argTypes) (t := t) h hv hs)
 ·cases hc
  have hl : avs.length = 2 := by
   simp only [stepF, f_max2] at hs; split at hs <;> first | (cases hs; done) | rfl
  obtain ⟨x, y, hx, hv⟩ := two_args ha hl
  exact key (fun cs => by rw [hx]; rfl) (snd_max2 (at_ := argTypes) (t := t) h hv hs)
 ·rename_i st xt hat
  have hat' : argTypes = #[st, xt] := by apply Array.ext'; simpa using hat
  subst hat'
  split at hc
  ·rename_i e e' hu hxu
   simp only [Option.bind_eq_some_iff] at hc
   obtain ⟨i, hi, z, hz, hc⟩ := hc
   split at hc
   ·rename_i hcond; cases hc
    have hl : avs.length = 2 := by
     simp only [stepF, f_append] at hs; split at hs <;> first | (cases hs; done) | rfl
    obtain ⟨x, y, hx, hv⟩ := two_args ha hl
    exact key (fun cs => by rw [hx]; rfl) (snd_append_sl (ty := t) h hu hxu hi hz hcond.1 hcond.2.1 hcond.2.2 hv hs)
   ·cases hc
  ·rename_i e hu hxu
   simp only [Option.bind_eq_some_iff] at hc
   obtain ⟨i, hi, z, hz, hc⟩ := hc
   split at hc
   ·rename_i hcond; cases hc
    have hl : avs.length = 2 := by
     simp only [stepF, f_append] at hs; split at hs <;> first | (cases hs; done) | rfl
    obtain ⟨x, y, hx, hv⟩ := two_args ha hl
    exact key (fun cs => by rw [hx]; rfl) (snd_append_str (ty := t) h hu hxu hi hz hcond.1 hcond.2.1 hcond.2.2 hv hs)
   ·cases hc
  ·rename_i e kn hu hxu
   simp only [Option.bind_eq_some_iff] at hc
   obtain ⟨i, hi, z, hz, hc⟩ := hc
   split at hc
   ·rename_i hcond; cases hc
    have hl : avs.length = 2 := by
     simp only [stepF, f_appendz] at hs; split at hs <;> first | (cases hs; done) | rfl
    obtain ⟨x, y, hx, hv⟩ := two_args ha hl
    exact key (fun cs => by rw [hx]; rfl) (snd_appendz (ty := t) h hu hxu hi hz hcond.1 hcond.2.1 hcond.2.2 hv hs)
   ·cases hc
  ·cases hc
 ·rename_i dt st hat
  have hat' : argTypes = #[dt, st] := by apply Array.ext'; simpa using hat
  subst hat'
  split at hc
  ·rename_i e hu
   simp only [Option.map_eq_some_iff] at hc
   obtain ⟨i, hi, he⟩ := hc; cases he
   have hl : avs.length = 2 := by
    simp only [stepF, f_copy] at hs; split at hs <;> first | (cases hs; done) | rfl
   obtain ⟨x, y, hx, hv⟩ := two_args ha hl
   exact key (fun cs => by rw [hx]; rfl) (snd_copy (st := st) (ty := t) h hu hi hv hs)
  ·cases hc
 ·rename_i st hat
  have hat' : argTypes = #[st] := by apply Array.ext'; simpa using hat
  subst hat'
  split at hc
  ·rename_i e hu
   simp only [Option.bind_eq_some_iff] at hc
   obtain ⟨i, hi, z, hz, hc⟩ := hc
   split at hc
   ·rename_i hcond; cases hc
    have hl : avs.length = 1 := by
     simp only [stepF, f_clear] at hs; split at hs <;> first | (cases hs; done) | rfl
    obtain ⟨x, hx, hv⟩ := one_arg ha hl
    exact key (fun cs => by rw [hx]; rfl) (snd_clear (ty := t) h hu hi hz hcond.1 hcond.2 hv hs)
   ·cases hc
  ·cases hc
 ·rename_i st hat
  have hat' : argTypes = #[st] := by apply Array.ext'; simpa using hat
  subst hat'
  split at hc
  ·rename_i e hu
   cases hc
   have hl : avs.length = 1 := by
    simp only [stepF, f_cap] at hs; split at hs <;> first | (cases hs; done) | rfl
   obtain ⟨x, hx, hv⟩ := one_arg ha hl
   exact key (fun cs => by rw [hx]; rfl) (snd_cap (t := t) h hu hv hs)
  ·cases hc
 ·rename_i dt st hat
  have hat' : argTypes = #[dt, st] := by apply Array.ext'; simpa using hat
  subst hat'
  split at hc
  ·rename_i kt e hu
   simp only [Option.map_eq_some_iff] at hc
   obtain ⟨ks, hks, he⟩ := hc; cases he
   have hl : avs.length = 2 := by
    simp only [stepF, f_mapdel] at hs; split at hs <;> first | (cases hs; done) | rfl
   obtain ⟨x, y, hx, hv⟩ := two_args ha hl
   exact key (fun cs => by rw [hx]; rfl) (snd_mapdel (t2 := st) (ty := t) h hu hks hv hs)
  ·cases hc
 ·cases hc
theorem prim_sound {cm : Bool} {o : Oper} {io : IOp} {os : List Operand} {ρ : Operand → Value} {avs : List AV} (hc : compOp P cm o = some (io, os)) (h : HRel m X σ w) (ha : VRels m X w avs (os.map ρ)) (hs : stepF io avs σ = some (r, σ')) :
  Sound P (execOp ρ o) m X σ w r σ' := by
 unfold compOp at hc
 unfold execOp
 split at hc
 ·rename_i x ho
  cases hc; rw [ho]
  simp only [stepF, f_mv] at hs
  split at hs <;> cases hs
  obtain ⟨v, hv, hr⟩ := ha.one; cases hv
  exact sound_pure h (by simp) hr
 ·rename_i x ho
  cases hc; rw [ho]
  simp only [stepF, f_mv] at hs
  split at hs <;> cases hs
  obtain ⟨v, hv, hr⟩ := ha.one; cases hv
  exact sound_pure h (by simp) hr
 ·rename_i c a b ho
  cases hc; rw [ho]
  simp only [stepF, f_pick] at hs
  split at hs <;> cases hs
  obtain ⟨v, us, hv, hr, hus⟩ := ha.cons; cases hv
  obtain ⟨v, us, hv, hr2, hus⟩ := hus.cons; cases hv
  obtain ⟨v, hv, hr3⟩ := hus.one; cases hv
  have hb := hr.bool
  have key : ∀ cb : Bool, ρ c = .bool cb → ∀ av bv : AV, VRel m X w av (ρ a) → VRel m X w bv (ρ b) → Sound P (do pure (.value (if ← asBool (ρ c) then ρ a else ρ b))) m X σ w (if cb then av else bv) σ := by
   intro cb hcb av bv h1 h2
   refine ⟨.value (if cb then ρ a else ρ b), w, m, ?_, .inl ⟨_, rfl, ?_⟩, h, Step.refl _ _ _ _⟩
   ·rw [hcb]; cases cb <;> simp [asBool]
   ·cases cb <;> simpa
  exact key _ hb _ _ hr2 hr3
 ·rename_i t ho
  rw [ho]
  simp only [Option.map_eq_some_iff] at hc
  obtain ⟨z, hz, he⟩ := hc; cases he
  exact snd_alloc h hz hs
 ·rename_i t x ho
  cases hc; rw [ho]
  exact snd_box h ha hs
 ·rename_i t ps ho
  rw [ho]; dsimp only
  rw [map_args]
  split at hc
  ·rename_i fs z hu hz
   split at hc
   ·cases hc
   rename_i hfs
   simp only [Option.map_eq_some_iff] at hc
   obtain ⟨pl, hpl, he⟩ := hc; cases he
   unfold zeroOf at hz
   simp only [Option.bind_eq_some_iff, Option.map_eq_some_iff] at hz
   obtain ⟨i, hi, z0, hz0, rfl⟩ := hz
   have hall : ∀ cells : Array Value, Instr.fill (fun k => (fs[k]?).map fun (f : Field) => (f.offset, P.cellsOf f.type)) z0.cells (ps.toList.map fun p => (p.1, ρ p.2)) = some cells → (Instr.build t ((ps.toList.map fun p => (p.1, ρ p.2))).toArray).run P w = .ok (.agg cells) w := by
    intro cells hf
    refine run_build_struct hu hi hz0 ?_ hf
    intro f hf
    have h0 := hfs
    simp only [Bool.not_eq_false, List.all_eq_true] at h0
    exact h0 f hf
   exact snd_build h hi hz0 hall (mapM_places _ ρ pl hpl) (by rw [List.map_map] at ha ⊢; exact ha) hs
  ·rename_i n e z hu hz
   simp only [Option.map_eq_some_iff] at hc
   obtain ⟨j, hj, he⟩ := hc; cases he
   unfold zeroOf at hz
   simp only [Option.bind_eq_some_iff, Option.map_eq_some_iff] at hz
   obtain ⟨i, hi, z0, hz0, rfl⟩ := hz
   refine snd_build (place := fun k => some (k * j.size, j.size)) h hi hz0 (fun cells hf => run_build_array hu hi hz0 hj hf) ?_ (by rw [List.map_map] at ha ⊢; exact ha) hs
   generalize ps.toList = l
   induction l with
   | nil => rfl
   | cons p l ih => simp only [List.map_cons, List.mapM_cons, Option.bind_eq_bind, Option.bind_some, ih, Option.pure_def]
  ·cases hc
 ·rename_i t len ps ho
  rw [ho]; dsimp only
  rw [map_args]
  split at hc
  ·rename_i e hu
   simp only [Option.bind_eq_some_iff] at hc
   obtain ⟨i, hi, z, hz, hc⟩ := hc
   split at hc
   ·rename_i hcond; cases hc
    obtain ⟨hbig, hsz, hpos⟩ := hcond
    exact snd_bslice h hu hi hz hsz hpos hbig (by simp [List.map_map]) (by rw [List.map_map] at ha ⊢; exact ha) hs
   ·cases hc
  ·cases hc
 ·rename_i t a ho
  rw [ho]
  simp only [Option.bind_eq_some_iff] at hc
  obtain ⟨g, hg, hc⟩ := hc
  cases g with
  | true =>
   simp only [if_true, Option.map_eq_some_iff] at hc
   obtain ⟨i, hi, he⟩ := hc; cases he
   exact snd_loadN h hg hi ha hs
  | false =>
   simp only [Bool.false_eq_true, if_false] at hc; cases hc
   exact snd_load1 h hg ha hs
 ·rename_i t a x ho
  rw [ho]
  simp only [Option.map_eq_some_iff] at hc
  obtain ⟨i, hi, he⟩ := hc; cases he
  have hr : r = .undef := by
   simp only [stepF, f_store] at hs
   split at hs
   ·simp only [Option.bind_eq_some_iff] at hs
    obtain ⟨cs, _, hs⟩ := hs
    split at hs <;> cases hs; rfl
   ·cases hs
  subst hr
  exact snd_store h hi ha hs
 ·rename_i x ho
  cases hc; rw [ho]
  simp only [stepF, f_nilck] at hs
  split at hs
  ·cases hs
   obtain ⟨v, hv, hr⟩ := ha.one; cases hv
   have hr0 := hr
   simp only [VRel] at hr; obtain ⟨b, hb, he⟩ := hr
   exact sound_pure h (v := ρ x) (by simp [he]) hr0
  ·cases hs
   obtain ⟨v, hv, hr⟩ := ha.one; cases hv
   have hr0 := hr
   simp only [VRel, CV.rep] at hr; obtain ⟨b, he, _⟩ := hr
   exact sound_pure h (v := ρ x) (by simp [he]) hr0
  ·cases hs
   obtain ⟨v, hv, hr⟩ := ha.one; cases hv
   have hr0 := hr
   simp only [VRel] at hr; obtain ⟨vs, he, _⟩ := hr
   exact sound_pure h (v := ρ x) (by simp [he]) hr0
  ·cases hs
 ·rename_i op t x y yt ho
  rw [ho]
  split at hc
  ·rename_i tk htk
   cases hc
   simp only [stepF, f_bin] at hs
   split at hs
   ·simp only [Option.map_eq_some_iff] at hs
    obtain ⟨v, hv, he⟩ := hs; cases he
    obtain ⟨x', us, hx, hr, hus⟩ := ha.cons; cases hx
    obtain ⟨y', hy, hra⟩ := hus.one; cases hy
    obtain ⟨v', hv', hrr⟩ := binF_sound (P := P) (xo := x) (yo := y) htk hr hra hv
    exact sound_val0 h hv' hrr
   ·cases hs
  ·split at hc
   ·cases hc
   ·rename_i hgd
    have hgd : P.eqGuardType P.depth t = false := by simpa using hgd
    split at hc
    ·rename_i ks hks
     cases hc
     exact snd_eqS (xo := x) (yo := y) h hgd hks ha hs
    ·rename_i ks hks
     cases hc
     exact snd_neS (xo := x) (yo := y) h hgd hks ha hs
    ·cases hc
 ·rename_i t x ho
  cases hc; rw [ho]
  simp only [stepF, f_not] at hs
  split at hs <;> cases hs
  obtain ⟨v, hv, hr⟩ := ha.one; cases hv
  have hb := hr.bool
  exact sound_val0 h (v := _) (by rw [hb]; simp [Op.unary]) (VRel.mk_bool _)
 ·rename_i s t x ho
  rw [ho]
  split at hc
  ·rename_i d k hu1 hu2
   cases hc
   simp only [stepF, f_conv] at hs
   split at hs <;> cases hs
   obtain ⟨v, hv, hr⟩ := ha.one; cases hv
   have hb := hr.int
   exact sound_val0 h (v := _) (by rw [hb]; simp [Go.convert, rUnderlying hu1, rUnderlying hu2, Conv.intToInt]) (VRel.mk_int _ _)
  ·cases hc
 ·rename_i f first captured ho
  rw [ho]
  split at hc
  ·rename_i hfirst
   cases hc
   simp only [stepF, f_mkfn] at hs
   cases hs
   refine sound_val0 h (v := .func f #[] (captured.map ρ)) ?_ ?_
   ·have : first = #[] := by simpa using hfirst
    simp only [Instr.makeFunc, this, Array.map_empty]; rfl
   ·simp only [VRel]
    exact ⟨captured.toList.map ρ, by rw [show captured.map ρ = (captured.toList.map ρ).toArray from by apply Array.ext'; simp], ha⟩
  ·split at hc
   ·rename_i hcap
    split at hc
    ·rename_i g
     cases hc
     simp only [stepF, f_mkbm] at hs
     cases hs
     refine sound_val0 h (v := .func (.func g) (first.map ρ) #[]) ?_ ?_
     ·have : captured = #[] := by simpa using hcap
      simp only [Instr.makeFunc, this, Array.map_empty]; rfl
     ·simp only [VRel]
      exact ⟨first.toList.map ρ, by rw [show first.map ρ = (first.toList.map ρ).toArray from by apply Array.ext'; simp], ha⟩
    ·cases hc
   ·cases hc
 ·rename_i t ho
  cases hc; rw [ho]
  exact snd_mkmap h hs
 ·rename_i t x ix ok ho
  rw [ho]
  split at hc
  ·rename_i kt e hu
   simp only [Option.bind_eq_some_iff, Option.map_eq_some_iff] at hc
   obtain ⟨ks, hks, z, hz, he⟩ := hc; cases he
   exact snd_lookup h hu hks hz ha hs
  ·cases hc
 ·rename_i t x k v ho
  rw [ho]
  split at hc
  ·rename_i kt e hu
   simp only [Option.map_eq_some_iff] at hc
   obtain ⟨ks, hks, he⟩ := hc; cases he
   exact snd_mapset h hu hks ha hs
  ·cases hc
 ·rename_i t l c ho
  rw [ho]
  split at hc
  ·rename_i e hu
   simp only [Option.bind_eq_some_iff] at hc
   obtain ⟨i, hi, z, hz, hc⟩ := hc
   split at hc
   ·rename_i hcond
    cases cm with
    | true => cases hc; exact snd_mksliceC h hu hi hz hcond.1 hcond.2 ha hs
    | false => cases hc; exact snd_mkslice h hu hi hz hcond.1 hcond.2 ha hs
   ·cases hc
  ·cases hc
 ·rename_i t x lo hi ho
  rw [ho]
  have ha' : ∀ (a : List AV), VRels m X w a ((x :: (lo.toList ++ hi.toList)).map ρ) → VRels m X w a (ρ x :: ((lo.map ρ).toList ++ (hi.map ρ).toList)) := by
   intro a; cases lo <;> cases hi <;> simp
  have e1 : lo.isSome = (lo.map ρ).isSome := by cases lo <;> rfl
  have e2 : hi.isSome = (hi.map ρ).isSome := by cases hi <;> rfl
  split at hc
  ·rename_i n e hu
   simp only [Option.map_eq_some_iff] at hc
   obtain ⟨i, hi', he⟩ := hc; cases he
   rw [e1, e2] at hs
   exact snd_slA h hu hi' (ha' _ ha) hs
  ·rename_i e hu
   simp only [Option.map_eq_some_iff] at hc
   obtain ⟨i, hi', he⟩ := hc; cases he
   rw [e1, e2] at hs
   exact snd_slS h hu hi' (ha' _ ha) hs
  ·rename_i hu
   cases hc
   rw [e1, e2] at hs
   exact snd_slStr h hu (ha' _ ha) hs
  ·cases hc
 ·rename_i t x lo hi mx ho
  rw [ho]
  split at hc
  ·rename_i e hu
   simp only [Option.map_eq_some_iff] at hc
   obtain ⟨i, hi', he⟩ := hc; cases he
   exact snd_slS3 h hu hi' ha hs
  ·cases hc
 ·rename_i s x f ho
  rw [ho]
  split at hc
  ·rename_i fs hu
   simp only [Option.bind_eq_some_iff] at hc
   obtain ⟨fd, hf, i, hi, hc⟩ := hc
   split at hc
   ·rename_i h0; cases hc
    exact snd_fadd h hu hf hi h0 ha hs
   ·cases hc
  ·cases hc
 ·rename_i s x f ho
  rw [ho]
  split at hc
  ·rename_i fs hu
   simp only [Option.bind_eq_some_iff, Option.map_eq_some_iff] at hc
   obtain ⟨fd, hf, i, hi, g, hg, he⟩ := hc; cases he
   exact snd_fld h hu hf hi hg ha hs
  ·cases hc
 ·rename_i t x ix ho
  rw [ho]
  split at hc
  ·rename_i n e hu
   simp only [Option.map_eq_some_iff] at hc
   obtain ⟨i, hi, he⟩ := hc; cases he
   exact snd_iaA h hu hi ha hs
  ·rename_i e hu
   simp only [Option.map_eq_some_iff] at hc
   obtain ⟨i, hi, he⟩ := hc; cases he
   exact snd_iaS h hu hi ha hs
  ·cases hc
 ·rename_i t x ix ho
  rw [ho]
  split at hc
  ·rename_i n e hu
   simp only [Option.bind_eq_some_iff, Option.map_eq_some_iff] at hc
   obtain ⟨i, hi, g, hg, he⟩ := hc; cases he
   exact snd_ixA h hu hi hg ha hs
  ·rename_i hu
   cases hc
   exact snd_ixStr h hu ha hs
  ·cases hc
 ·rename_i t i ho
  cases hc; rw [ho]
  simp only [stepF, f_extract] at hs
  split at hs
  ·simp only [Option.map_eq_some_iff] at hs
   obtain ⟨a, haa, he⟩ := hs; cases he
   obtain ⟨v, hv, hr⟩ := ha.one; cases hv
   simp only [VRel] at hr; obtain ⟨vs, he, hrs⟩ := hr
   obtain ⟨v, hv, hr⟩ := hrs.get _ _ haa
   refine sound_val0 h (v := v) ?_ hr
   rw [he]; simp [Instr.extract, hv]
  ·cases hs
 ·rename_i b args at_ ho
  rw [ho]
  simp only [Option.map_eq_some_iff] at hc
  obtain ⟨io', hio, he⟩ := hc; cases he
  exact builtin_sound hio h ha hs
 ·rename_i t x ho
  rw [ho]
  split at hc
  ·rename_i hu
   cases hc
   exact snd_rstr h hu ha hs
  ·cases hc
 ·rename_i it ho
  cases hc; rw [ho]
  exact snd_snext h ha hs
 ·cases hc; simp only [stepF] at hs; cases hs
 ·cases hc; simp only [stepF] at hs; cases hs
 ·split at hc
  ·simp only [Option.bind_eq_some_iff, Option.map_eq_some_iff] at hc
   obtain ⟨_, _, _, _, he⟩ := hc; cases he
   simp only [stepF] at hs; cases hs
  ·cases hc
 ·cases hc; simp only [stepF] at hs; cases hs
 ·cases hc
end Go.Proofs.YtpnghcaccfnngaaGreatDoor.AM
namespace Go.Proofs.YtpnghcaccfnngaaGreatDoor.AM
set_option linter.unusedSectionVars false
variable [Dr]
open Go
set_option linter.unusedVariables false
set_option linter.unusedSimpArgs false
structure Fx where
 vars : List Nat
 N : Nat
 r : Option Nat
 n0 : Nat
structure St where
 vals : List AV
 heap : List AObj
structure En where
 n : Nat
 ds : List Deferred
def DRel (m : LM) (X : Nat → Prop) (e : En) (w : World) (ds : List Deferred) : Prop :=
 ∃ bs : List Nat, ds = bs.map (fun b => { target := .collected b, args := #[] }) ++ e.ds ∧ bs.Nodup ∧ ∀ b ∈ bs, e.n ≤ b ∧ b < w.heap.size ∧ w.heap[b]? = some (.deferred (some [])) ∧ ¬ Own m X b
structure SRel (fx : Fx) (m : LM) (X : Nat → Prop) (e : En) (s : St) (ac : Act) (w : World) : Prop where
 size : ac.tmps.size = fx.N
 vars : ARel m X w fx.vars s.vals ac.tmps
 defs : DRel m X e w ac.defers
 heap : HRel m X s.heap w
 base : fx.n0 ≤ s.heap.length
 entry : e.n ≤ w.heap.size
theorem DRel.step {m m' : LM} {X : Nat → Prop} {e : En} {n0 : Nat} {w w' : World} {ds : List Deferred} (h : DRel m X e w ds) (hs : Step n0 m X w m' w') : DRel m' X e w' ds := by
 obtain ⟨bs, h1, h2, h3⟩ := h
 refine ⟨bs, h1, h2, fun b hb => ?_⟩
 obtain ⟨g1, g2, g3, g4⟩ := h3 b hb
 refine ⟨g1, Nat.lt_of_lt_of_le g2 hs.size, by rw [hs.fr b g2 (.inr fun l hl => g4 (.inr ⟨l, hl⟩))]; exact g3, ?_⟩
 rintro (hx | ⟨l, hl⟩)
 ·exact g4 (.inl hx)
 ·rcases hs.new l b hl with ⟨l', hl'⟩ | hge
  ·exact g4 (.inr ⟨l', hl'⟩)
  ·omega
def fen (m : LM) (r : Option Nat) : Fence := { Fence.wide with round := r.bind m }
def rok (fx : Fx) (m : LM) : Prop := ∀ l, fx.r = some l → l < fx.n0 ∧ ∃ b, m l = some b
theorem fen_step {fx : Fx} {m m' : LM} {X : Nat → Prop} {w w' : World} (h : rok fx m) (hs : Step fx.n0 m X w m' w') : fen m' fx.r = fen m fx.r := by
 unfold fen
 cases hr : fx.r with
 | none => rfl
 | some l => simp [hs.keep l (h l hr).1]
theorem rok_step {fx : Fx} {m m' : LM} {X : Nat → Prop} {w w' : World} (h : rok fx m) (hs : Step fx.n0 m X w m' w') : rok fx m' := fun l hl => by
 obtain ⟨h1, b, h2⟩ := h l hl
 exact ⟨h1, b, by rw [hs.keep l h1]; exact h2⟩
def Lift (fx : Fx) (m : LM) (X : Nat → Prop) (en : En) (w : World) (Q : Exit → St → Prop) : Exit → Act → World → Prop :=
 fun e ac' w' => ∃ s' m', Q e s' ∧ SRel fx m' X en s' ac' w' ∧ Step fx.n0 m X w m' w'
def W (P : Program) (fx : Fx) (c : Code) (s : St) (Q : Exit → St → Prop) : Prop :=
 ∀ m X en ac w, SRel fx m X en s ac w → rok fx m → c.wpIn (fen m fx.r) 0 P (Lift fx m X en w Q) ac w
def Enter (P : Program) (f : FuncId) : Prop := ∀ (args : Array Value) (w : World), (callFunc f args).run P w = .ok (.enter f args) w
def CPost (m : LM) (X : Nat → Prop) (w : World) (σ : List AObj) (Q : AV → List AObj → Prop) : Ending → World → Prop :=
 fun e w' => ∃ c r σ' m', e = .returned c ∧ Q r σ' ∧ VRel m' X w' r c ∧ HRel m' X σ' w' ∧ Step σ.length m X w m' w' ∧ σ.length ≤ σ'.length
def AC (P : Program) (f : FuncId) (args : List AV) (σ : List AObj) (Q : AV → List AObj → Prop) : Prop :=
 Enter P f ∧ ∀ m X w cargs, VRels m X w args cargs → HRel m X σ w → CallsIn Fence.wide 0 P f cargs.toArray w (CPost m X w σ Q)
def YC (P : Program) (l : Nat) (args : List AV) (σ : List AObj) (Q : AV → List AObj → Prop) : Prop :=
 ∀ m X w cargs b, m l = some b → VRels m X w args cargs → HRel m X σ w → ∃ L : Loop, w.heap[b]? = some (.loop L) ∧ cargs.length = L.params.size ∧
  RoundIn Fence.wide 0 P b L.fn ((L.params.zip cargs.toArray).foldl (fun tmps (t, a) => tmps.setIfInBounds t a) L.tmps) L.assign L.body w (CPost m X w σ Q)
def CallV (P : Program) (fv : AV) (args : List AV) (σ : List AObj) (Q : AV → List AObj → Prop) : Prop :=
 match fv with
 | .fn (.func f) cap => AC P f (args ++ cap) σ Q
 | .bm f first => AC P f (first ++ args) σ Q
 | .yld l => YC P l args σ Q
 | _ => False
theorem AC.mono {P : Program} {f : FuncId} {args : List AV} {σ : List AObj} {Q Q' : AV → List AObj → Prop} (h : AC P f args σ Q) (hq : ∀ r σ', Q r σ' → Q' r σ') : AC P f args σ Q' :=
 ⟨h.1, fun m X w cargs ha hh => (h.2 m X w cargs ha hh).mono fun e w' ⟨c, r, σ', m', h1, h2, h3⟩ => ⟨c, r, σ', m', h1, hq _ _ h2, h3⟩⟩
theorem YC.mono {P : Program} {l : Nat} {args : List AV} {σ : List AObj} {Q Q' : AV → List AObj → Prop} (h : YC P l args σ Q) (hq : ∀ r σ', Q r σ' → Q' r σ') : YC P l args σ Q' :=
 fun m X w cargs b hb ha hh => let ⟨L, h1, h2, h3⟩ := h m X w cargs b hb ha hh
  ⟨L, h1, h2, h3.mono fun e w' ⟨c, r, σ', m', h1, h2, h3⟩ => ⟨c, r, σ', m', h1, hq _ _ h2, h3⟩⟩
inductive Opd where
 | v (i : Nat)
 | t (j : Nat)
 | c (a : AV)
inductive IK where
 | prim (io : IOp)
 | call
structure Ins where
 dst : Option Nat
 gd : Option (Nat × Bool)
 op : IK
 args : List Opd
def evalO (vals ρ : List AV) : Opd → AV
 | .v i => vals.getD i .undef
 | .t j => ρ.getD j .undef
 | .c a => a
def setD (dst : Option Nat) (vals : List AV) (v : AV) : List AV :=
 match dst with
 | some i => vals.set i v
 | none => vals
def gdOk (ρ : List AV) : Option (Nat × Bool) → Option Bool
 | none => some true
 | some (j, want) =>
  match ρ.getD j .undef with
  | .cv (.bool b) => some (b == want)
  | .tup _ => some false
  | _ => none
def RG (P : Program) : List Ins → List AV → List AV → List AObj → (List AV → List AV → List AObj → Prop) → Prop
 | [], vals, ρ, σ, K => K vals ρ σ
 | i :: is, vals, ρ, σ, K =>
  match gdOk ρ i.gd with
  | none => False
  | some false => RG P is (setD i.dst vals (.tup [])) (ρ ++ [.tup []]) σ K
  | some true =>
   match i.op, i.args.map (evalO vals ρ) with
   | .prim io, as =>
    match stepF io as σ with
    | some (v, σ') => RG P is (setD i.dst vals v) (ρ ++ [v]) σ' K
    | none => False
   | .call, fv :: as => CallV P fv as σ fun v σ' => RG P is (setD i.dst vals v) (ρ ++ [v]) σ' K
   | .call, [] => False
def compOpd (vars : List Nat) (dsts : List (Option Nat)) : Operand → Opd
 | .tmp t =>
  match vars.idxOf? t with
  | some i => .v i
  | none =>
   match dsts.idxOf? (some t) with
   | some j => .t j
   | none => .c .undef
 | .const v => .c (ofConst v)
 | .func f => .c (.fn (.func f) [])
 | .global _ => .c .undef
def compDst (vars : List Nat) : Option Nat → Option Nat
 | some t => vars.idxOf? t
 | none => none
def capMark (vars : List Nat) : Bool :=
 match vars.reverse with
 | a :: b :: _ => Nat.blt a b
 | _ => false
def compIns (P : Program) (vars : List Nat) (dsts : List (Option Nat)) (o : Oper) : Option Ins :=
 match o.op with
 | .call { callee := .value f, args, .. } => some ⟨compDst vars o.dst, o.guard, .call, (f :: args.toList).map (compOpd vars dsts)⟩
 | _ => (compOp P (capMark vars) o).map fun x => ⟨compDst vars o.dst, o.guard, .prim x.1, x.2.map (compOpd vars dsts)⟩
def regOk (vars : List Nat) (N : Nat) (ops : List Oper) : Bool :=
 let ts := (ops.filterMap (·.dst)).filter fun t => !vars.contains t
 decide ts.Nodup && decide vars.Nodup && (ops.filterMap (·.dst)).all (· < N) && vars.all (· < N) &&
 ops.all fun o => match o.guard with
  | none => true
  | some (j, _) => match (ops[j]?).bind (·.dst) with
   | some t => !vars.contains t
   | none => false
def compAll (P : Program) (vars : List Nat) (dsts : List (Option Nat)) : List Oper → Option (List Ins)
 | [] => some []
 | o :: os =>
  match compIns P vars dsts o with
  | none => none
  | some i =>
   match compAll P vars dsts os with
   | none => none
   | some is => some (i :: is)
theorem compAll_eq (P : Program) (vars : List Nat) (dsts : List (Option Nat)) : ∀ os, compAll P vars dsts os = os.mapM (compIns P vars dsts)
 | [] => by simp [compAll]
 | o :: os => by
  simp only [compAll, List.mapM_cons, compAll_eq P vars dsts os, Option.bind_eq_bind, Option.pure_def]
  cases compIns P vars dsts o <;> simp
  cases os.mapM (compIns P vars dsts) <;> rfl
def compReg (P : Program) (vars : List Nat) (N : Nat) (ops : Array Oper) : Option (List Ins) :=
 if regOk vars N ops.toList then compAll P vars (ops.toList.map (·.dst)) ops.toList else none
def TRel (m : LM) (X : Nat → Prop) (w : World) (vars : List Nat) (ops : List Oper) (ρ : List AV) (tmps : Array Value) : Prop :=
 ∀ (j t : Nat), (ops[j]?).bind (·.dst) = some t → t ∉ vars → VRel m X w (ρ.getD j .undef) (tmps.getD t Go.undef)
theorem idxOf?_some {α : Type} [BEq α] [LawfulBEq α] {l : List α} {a : α} {i : Nat} (h : l.idxOf? a = some i) : l[i]? = some a := by
 rw [List.idxOf?, List.findIdx?_eq_some_iff_getElem] at h
 obtain ⟨h1, h2, _⟩ := h
 rw [List.getElem?_eq_getElem h1]; simpa using h2
theorem idxOf?_none {α : Type} [BEq α] [LawfulBEq α] {l : List α} {a : α} (h : l.idxOf? a = none) : a ∉ l := by
 rw [List.idxOf?_eq_none_iff] at h; exact h
variable {P : Program} {fx : Fx} {m : LM} {X : Nat → Prop} {w : World}
theorem evalO_rel {vals ρ : List AV} {ops : List Oper} {tmps : Array Value} {ds : List Deferred} (hv : ARel m X w fx.vars vals tmps) (ht : TRel m X w fx.vars ops ρ tmps) (x : Operand) :
  VRel m X w (evalO vals ρ (compOpd fx.vars (ops.map (·.dst)) x)) (Act.eval { tmps, defers := ds } x) := by
 cases x with
 | tmp t =>
  simp only [compOpd, Act.eval]
  split
  ·rename_i i hi
   exact hv i t (idxOf?_some hi)
  ·rename_i hi
   split
   ·rename_i j hj
    have := idxOf?_some hj
    simp only [List.getElem?_map, Option.map_eq_some_iff] at this
    obtain ⟨o, ho, hd⟩ := this
    exact ht j t (by rw [ho]; simpa using hd) (idxOf?_none hi)
   ·simp [evalO, VRel]
 | const v => simp only [compOpd, evalO, Act.eval]; exact ofConst_rel v
 | global g => simp [compOpd, evalO, VRel]
 | func f => simp only [compOpd, evalO, Act.eval, VRel]; exact ⟨[], rfl, by simp [VRels]⟩
theorem evalOs_rel {vals ρ : List AV} {ops : List Oper} {a : Act} (hv : ARel m X w fx.vars vals a.tmps) (ht : TRel m X w fx.vars ops ρ a.tmps) : ∀ (xs : List Operand),
  VRels m X w ((xs.map (compOpd fx.vars (ops.map (·.dst)))).map (evalO vals ρ)) (xs.map a.eval)
 | [] => by simp [VRels]
 | x :: xs => by simp only [List.map_cons, VRels]; exact ⟨evalO_rel (ds := a.defers) hv ht x, evalOs_rel hv ht xs⟩
theorem put_rel {en : En} {s : St} {ρ : List AV} {ops : List Oper} {a : Act} {v : AV} {c : Value} {o : Oper} {j : Nat} (hok : regOk fx.vars fx.N ops = true) (ho : ops[j]? = some o) (hj : ρ.length = j)
  (hs : SRel fx m X en s a w) (ht : TRel m X w fx.vars ops ρ a.tmps) (hv : VRel m X w v c) :
  SRel fx m X en { s with vals := setD (compDst fx.vars o.dst) s.vals v } (a.put o.dst c) w ∧ TRel m X w fx.vars ops (ρ ++ [v]) (a.put o.dst c).tmps := by
 unfold regOk at hok
 simp only [Bool.and_eq_true, decide_eq_true_eq, List.all_eq_true] at hok
 obtain ⟨⟨⟨⟨hnd, hvn⟩, hlt⟩, hvlt⟩, hg⟩ := hok
 have ρget : ∀ k, k ≠ j → (ρ ++ [v]).getD k .undef = ρ.getD k .undef := by
  intro k hk
  rcases Nat.lt_or_ge k ρ.length with h | h
  ·simp [List.getD, List.getElem?_append_left h]
  ·have h1 : ρ.length < k := by omega
   simp only [List.getD]
   rw [List.getElem?_append_right (by omega), List.getElem?_eq_none (l := ρ) (by omega), List.getElem?_eq_none (by simp; omega)]
 have ρj : (ρ ++ [v]).getD j .undef = v := by
  simp only [List.getD]
  rw [List.getElem?_append_right (by omega)]; simp [hj]
 cases hd : o.dst with
 | none =>
  refine ⟨by simpa [compDst, setD, Act.put] using hs, ?_⟩
  intro k t hk htv
  have : k ≠ j := by rintro rfl; rw [ho] at hk; simp [hd] at hk
  rw [ρget k this]; exact ht k t hk htv
 | some t =>
  have htN : t < a.tmps.size := by
   rw [hs.size]
   have := hlt t (List.mem_filterMap.2 ⟨o, List.mem_of_getElem? ho, hd⟩)
   simpa using this
  have getD_set : ∀ u, (a.tmps.setIfInBounds t c).getD u Go.undef = if u = t then c else a.tmps.getD u Go.undef := by
   intro u
   simp only [Array.getD_eq_getD_getElem?]
   by_cases hu : u = t
   ·subst hu; simp [htN]
   ·rw [if_neg hu, Array.getElem?_setIfInBounds_ne (fun h => hu h.symm)]
  simp only [compDst]
  cases hi : fx.vars.idxOf? t with
  | some i =>
   have hit := idxOf?_some hi
   refine ⟨⟨by simpa [Act.put] using hs.size, ?_, hs.defs, hs.heap, hs.base, hs.entry⟩, ?_⟩
   ·intro k u hk
    simp only [Act.put, setD, getD_set]
    by_cases hki : k = i
    ·subst hki
     rw [hit] at hk; cases hk
     rw [if_pos rfl]
     rcases Nat.lt_or_ge k s.vals.length with h | h
     ·simp [List.getD, h]; exact hv
     ·rw [List.set_eq_of_length_le h]
      simp [List.getD, List.getElem?_eq_none h, VRel]
    ·have hut : u ≠ t := by
      rintro rfl
      have h1 : k < fx.vars.length := (List.getElem?_eq_some_iff.1 hk).1
      exact hki ((List.getElem?_inj h1 hvn).1 (hk.trans hit.symm))
     rw [if_neg hut]
     have : (s.vals.set i v).getD k .undef = s.vals.getD k .undef := by
      simp only [List.getD]; rw [List.getElem?_set_ne (fun h => hki h.symm)]
     rw [this]; exact hs.vars k u hk
   ·intro k u hk huv
    simp only [Act.put, getD_set]
    have hut : u ≠ t := by rintro rfl; exact huv (List.mem_of_getElem? hit)
    rw [if_neg hut]
    have : k ≠ j := by
     rintro rfl; rw [ho] at hk; simp [hd] at hk; exact hut hk.symm
    rw [ρget k this]; exact ht k u hk huv
  | none =>
   have htv := idxOf?_none hi
   refine ⟨⟨by simpa [Act.put] using hs.size, ?_, hs.defs, hs.heap, hs.base, hs.entry⟩, ?_⟩
   ·intro k u hk
    simp only [Act.put, setD, getD_set]
    have hut : u ≠ t := by rintro rfl; exact htv (List.mem_of_getElem? hk)
    rw [if_neg hut]; exact hs.vars k u hk
   ·intro k u hk huv
    simp only [Act.put, getD_set]
    by_cases hkj : k = j
    ·subst hkj
     rw [ho] at hk; simp [hd] at hk; subst hk
     rw [if_pos rfl, ρj]; exact hv
    ·rw [ρget k hkj]
     have hut : u ≠ t := by
      rintro rfl
      have hnd' : ∀ (l : List Oper), ((l.filterMap (·.dst)).filter fun t => !fx.vars.contains t).Nodup → ∀ (a b : Nat), (l[a]?).bind (·.dst) = some u → (l[b]?).bind (·.dst) = some u → a = b := by
       intro l
       induction l with
       | nil => intro _ a b h; simp at h
       | cons x l ih =>
        intro hn a b h1 h2
        have hmem : ∀ (q : Nat), (l[q]?).bind (fun o : Oper => o.dst) = some u → u ∈ (l.filterMap (·.dst)).filter fun t => !fx.vars.contains t := by
         intro q hq
         cases hlq : l[q]? with
         | none => rw [hlq] at hq; simp at hq
         | some y =>
          rw [hlq] at hq
          refine List.mem_filter.2 ⟨List.mem_filterMap.2 ⟨y, List.mem_of_getElem? hlq, by simpa using hq⟩, by simpa using huv⟩
        cases hx : x.dst with
        | none =>
         simp only [List.filterMap_cons, hx] at hn
         cases a with
         | zero => simp [hx] at h1
         | succ a => cases b with
          | zero => simp [hx] at h2
          | succ b => simp at h1 h2; rw [ih hn a b h1 h2]
        | some tx =>
         simp only [List.filterMap_cons, hx] at hn
         have hn' : ((l.filterMap (·.dst)).filter fun t => !fx.vars.contains t).Nodup := by
          rw [List.filter_cons] at hn; split at hn
          ·exact (List.nodup_cons.1 hn).2
          ·exact hn
         have hno : tx = u → ∀ q : Nat, (l[q]?).bind (fun o : Oper => o.dst) = some u → False := by
          rintro rfl q hq
          rw [List.filter_cons, if_pos (by simpa using huv)] at hn
          exact (List.nodup_cons.1 hn).1 (hmem q hq)
         cases a with
         | zero =>
          cases b with
          | zero => rfl
          | succ b => simp [hx] at h1; simp at h2; exact (hno h1 b h2).elim
         | succ a =>
          cases b with
          | zero => simp [hx] at h2; simp at h1; exact (hno h2 a h1).elim
          | succ b => simp at h1 h2; rw [ih hn' a b h1 h2]
      exact hkj (hnd' ops hnd k j hk (by rw [ho]; simpa using hd))
     rw [if_neg hut]; exact ht k u hk huv
end Go.Proofs.YtpnghcaccfnngaaGreatDoor.AM
namespace Go.Proofs.YtpnghcaccfnngaaGreatDoor.AM
variable [Dr]
open Go
variable {P : Program} {fx : Fx} {m : LM} {X : Nat → Prop} {en : En} {w : World}
theorem SRel.of_heap {s : St} {σ' : List AObj} {m' : LM} {ac : Act} {w' : World} (h : SRel fx m X en s ac w) (h' : HRel m' X σ' w') (hs : Step s.heap.length m X w m' w') (hl : s.heap.length ≤ σ'.length) : SRel fx m' X en { s with heap := σ' } ac w' where
 size := h.size
 vars := h.vars.mono (h.heap.mono_of_step hs (Nat.le_refl _))
 defs := h.defs.step hs
 heap := h'
 base := Nat.le_trans h.base hl
 entry := Nat.le_trans h.entry hs.size
theorem TRel.mono {vars : List Nat} {ops : List Oper} {ρ : List AV} {tmps : Array Value} {m' : LM} {w' : World} (h : TRel m X w vars ops ρ tmps) (hm : Mono m X w m' X w') : TRel m' X w' vars ops ρ tmps :=
 fun j t hj hv => VRel.mono hm _ _ (h j t hj hv)
theorem stepF_le {io : IOp} {as : List AV} {σ σ' : List AObj} {r : AV} (h : stepF io as σ = some (r, σ')) : σ.length ≤ σ'.length := by
 cases io <;> simp only [stepF] at h
 case mv => unfold f_mv at h; split at h <;> cases h; exact Nat.le_refl _
 case pick => unfold f_pick at h; split at h <;> cases h; exact Nat.le_refl _
 case not => unfold f_not at h; split at h <;> cases h; exact Nat.le_refl _
 case bin => unfold f_bin at h; split at h <;> first | (simp only [Option.map_eq_some_iff] at h; obtain ⟨_, _, h⟩ := h; cases h; exact Nat.le_refl _) | cases h
 case conv => unfold f_conv at h; split at h <;> cases h; exact Nat.le_refl _
 case alloc => unfold f_alloc at h; split at h <;> cases h; simp
 case box => unfold f_box at h; split at h <;> first | (split at h <;> cases h; simp) | cases h
 case build => unfold f_build at h; simp only [Option.map_eq_some_iff] at h; obtain ⟨_, _, h⟩ := h; cases h; exact Nat.le_refl _
 case bslice => unfold f_bslice at h; simp only [Option.map_eq_some_iff] at h; obtain ⟨_, _, h⟩ := h; cases h; simp
 case load1 => unfold f_load1 at h; split at h <;> first | (simp only [Option.bind_eq_some_iff, Option.map_eq_some_iff] at h; obtain ⟨_, _, _, _, h⟩ := h; cases h; exact Nat.le_refl _) | (simp only [Option.map_eq_some_iff] at h; obtain ⟨_, _, h⟩ := h; cases h; exact Nat.le_refl _) | cases h
 case loadN => unfold f_loadN at h; split at h <;> first | (simp only [Option.bind_eq_some_iff] at h; obtain ⟨_, _, h⟩ := h; split at h <;> cases h; exact Nat.le_refl _) | (split at h <;> cases h; exact Nat.le_refl _) | cases h
 case store => unfold f_store at h; split at h <;> first | (simp only [Option.bind_eq_some_iff] at h; obtain ⟨_, _, h⟩ := h; split at h <;> cases h; simp) | cases h
 case nilck => unfold f_nilck at h; split at h <;> cases h <;> exact Nat.le_refl _
 case mkfn => unfold f_mkfn at h; cases h; exact Nat.le_refl _
 case mkbm => unfold f_mkbm at h; cases h; exact Nat.le_refl _
 case mkmap => unfold f_mkmap at h; split at h <;> cases h; simp
 case mkslice => unfold f_mkslice at h; split at h <;> first | (split at h <;> cases h; simp) | cases h
 case slA => unfold f_slA at h; split at h <;> first | (simp only [Option.bind_eq_some_iff] at h; obtain ⟨_, _, _, _, h⟩ := h; split at h <;> cases h; exact Nat.le_refl _) | cases h
 case slS => unfold f_slS at h; split at h <;> first | (simp only [Option.bind_eq_some_iff] at h; obtain ⟨_, _, h⟩ := h; split at h <;> first | (split at h <;> cases h <;> exact Nat.le_refl _) | (cases h; exact Nat.le_refl _) | cases h) | cases h
 case slStr => unfold f_slStr at h; split at h <;> first | (simp only [Option.bind_eq_some_iff] at h; obtain ⟨_, _, h⟩ := h; split at h <;> cases h; exact Nat.le_refl _) | cases h
 case fadd => unfold f_fadd at h; split at h <;> cases h <;> exact Nat.le_refl _
 case fld => unfold f_fld at h; split at h <;> first | (split at h <;> cases h; exact Nat.le_refl _) | (simp only [Option.map_eq_some_iff] at h; obtain ⟨_, _, h⟩ := h; cases h; exact Nat.le_refl _) | cases h
 case iaA => unfold f_iaA at h; split at h <;> first | (split at h <;> cases h; exact Nat.le_refl _) | cases h
 case iaS => unfold f_iaS at h; split at h <;> first | (split at h <;> cases h; exact Nat.le_refl _) | cases h
 case ixA => unfold f_ixA at h; split at h <;> first | (split at h <;> first | (cases h; exact Nat.le_refl _) | (simp only [Option.map_eq_some_iff] at h; obtain ⟨_, _, h⟩ := h; cases h; exact Nat.le_refl _) | cases h) | cases h
 case ixStr => unfold f_ixStr at h; split at h <;> first | (split at h <;> first | (simp only [Option.map_eq_some_iff] at h; obtain ⟨_, _, h⟩ := h; cases h; exact Nat.le_refl _) | cases h) | cases h
 case extract => unfold f_extract at h; split at h <;> first | (simp only [Option.map_eq_some_iff] at h; obtain ⟨_, _, h⟩ := h; cases h; exact Nat.le_refl _) | cases h
 case len => unfold f_len at h; split at h <;> cases h <;> exact Nat.le_refl _
 case min2 => unfold f_min2 at h; split at h <;> first | (split at h <;> cases h; exact Nat.le_refl _) | cases h
 case max2 => unfold f_max2 at h; split at h <;> first | (split at h <;> cases h; exact Nat.le_refl _) | cases h
 case append =>
  unfold f_append at h
  split at h
  ·simp only [Option.bind_eq_some_iff] at h; obtain ⟨_, _, _, _, h⟩ := h
   split at h
   ·cases h; exact Nat.le_refl _
   ·split at h <;> cases h; simp
  ·simp only [Option.bind_eq_some_iff] at h; obtain ⟨_, _, _, _, _, _, h⟩ := h
   split at h <;> cases h; simp
  ·simp only [Option.bind_eq_some_iff] at h; obtain ⟨_, _, _, _, _, _, h⟩ := h
   split at h <;> (split at h <;> cases h; simp)
  ·cases h
 case clear => unfold f_clear at h; split at h <;> first | (simp only [Option.bind_eq_some_iff] at h; obtain ⟨_, _, h⟩ := h; split at h <;> cases h; simp) | cases h
 case copy => unfold f_copy at h; split at h <;> first | (simp only [Option.bind_eq_some_iff] at h; obtain ⟨_, _, _, _, _, _, h⟩ := h; split at h <;> cases h; simp) | cases h
 case lookup => unfold f_lookup at h; split at h <;> first | (simp only [Option.bind_eq_some_iff] at h; obtain ⟨_, _, h⟩ := h; split at h <;> first | (cases h; done) | (simp only [Option.map_eq_some_iff] at h; obtain ⟨_, _, h⟩ := h; cases h; exact Nat.le_refl _)) | cases h
 case mapset => unfold f_mapset at h; split at h <;> first | (simp only [Option.bind_eq_some_iff] at h; obtain ⟨_, _, h⟩ := h; split at h <;> first | (cases h; done) | (simp only [Option.map_eq_some_iff] at h; obtain ⟨_, _, h⟩ := h; cases h; simp)) | cases h
 case mapdel => unfold f_mapdel at h; split at h <;> first | (simp only [Option.bind_eq_some_iff] at h; obtain ⟨_, _, h⟩ := h; split at h <;> first | (cases h; done) | (simp only [Option.map_eq_some_iff] at h; obtain ⟨_, _, h⟩ := h; cases h; simp)) | cases h
 case maplen => unfold f_maplen at h; split at h <;> first | (simp only [Option.map_eq_some_iff] at h; obtain ⟨_, _, h⟩ := h; cases h; exact Nat.le_refl _) | cases h
 case stuck => cases h
 case mapent => cases h
 case entst => cases h
 case eqS => unfold f_eqS at h; split at h <;> (try (cases h; done)); simp only [Option.map_eq_some_iff] at h; obtain ⟨v, hv, he⟩ := h; cases he; exact Nat.le_refl _
 case mksliceC => unfold f_mksliceC at h; split at h <;> first | (split at h <;> cases h; simp) | cases h
 case slS3 => unfold f_slS3 at h; split at h <;> (try (cases h; done)) <;> (simp only [Option.bind_eq_some_iff] at h; obtain ⟨_, _, _, _, _, _, h⟩ := h; split at h <;> cases h; exact Nat.le_refl _)
 case cap => unfold f_cap at h; split at h <;> cases h; exact Nat.le_refl _
 case appendz => unfold f_appendz at h; split at h <;> (try (cases h; done)); simp only [Option.bind_eq_some_iff] at h; obtain ⟨_, _, h⟩ := h; split at h <;> cases h; simp
 case rstr => unfold f_rstr at h; split at h <;> cases h; simp
 case snext => unfold f_snext at h; split at h <;> (try (cases h; done)); simp only [Option.map_eq_some_iff] at h; obtain ⟨_, _, h⟩ := h; split at h <;> cases h <;> simp
def wfen (ro : Option Nat) : Fence := { Fence.wide with round := ro }
theorem compIns_prim {vars : List Nat} {dsts : List (Option Nat)} {o : Oper} {i : Ins} {io : IOp} (h : compIns P vars dsts o = some i) (hop : i.op = .prim io) :
  ∃ os, compOp P (capMark vars) o = some (io, os) ∧ i.args = os.map (compOpd vars dsts) ∧ i.dst = compDst vars o.dst ∧ i.gd = o.guard := by
 unfold compIns at h
 split at h
 ·cases h; cases hop
 ·simp only [Option.map_eq_some_iff] at h
  obtain ⟨⟨io', os⟩, hc, he⟩ := h; subst he; cases hop
  exact ⟨os, hc, rfl, rfl, rfl⟩
theorem compIns_call {vars : List Nat} {dsts : List (Option Nat)} {o : Oper} {i : Ins} (h : compIns P vars dsts o = some i) (hop : i.op = .call) :
  ∃ f args at_, o.op = .call { callee := .value f, args, argTypes := at_ } ∧ i.args = (f :: args.toList).map (compOpd vars dsts) ∧ i.dst = compDst vars o.dst ∧ i.gd = o.guard := by
 unfold compIns at h
 split at h
 ·rename_i f args at_ ho; cases h; exact ⟨f, args, at_, ho, rfl, rfl, rfl⟩
 ·simp only [Option.map_eq_some_iff] at h
  obtain ⟨⟨io', os⟩, hc, he⟩ := h; subst he; cases hop
theorem compIns_dst {vars : List Nat} {dsts : List (Option Nat)} {o : Oper} {i : Ins} (h : compIns P vars dsts o = some i) : i.dst = compDst vars o.dst ∧ i.gd = o.guard := by
 unfold compIns at h
 split at h
 ·cases h; exact ⟨rfl, rfl⟩
 ·simp only [Option.map_eq_some_iff] at h
  obtain ⟨⟨io', os⟩, hc, he⟩ := h; subst he; exact ⟨rfl, rfl⟩
theorem compOp_not_defer {cm : Bool} {o : Oper} {x : IOp × List Operand} (h : compOp P cm o = some x) : ∀ c, o.op ≠ .defer c := by
 intro c hc
 unfold compOp at h
 rw [hc] at h
 cases h
theorem gd_rel {ops : Array Oper} {ρ : List AV} {tmps : Array Value} {o : Oper} {b : Bool} (hok : regOk fx.vars fx.N ops.toList = true) (ho : o ∈ ops.toList) (ht : TRel m X w fx.vars ops.toList ρ tmps) (hsz : tmps.size = fx.N)
  (hg : gdOk ρ o.guard = some b) : Region.wanted o (yielded ops tmps) = b := by
 unfold Region.wanted
 cases hgd : o.guard with
 | none => rw [hgd] at hg; simp [gdOk] at hg; simp [hg]
 | some jw =>
  obtain ⟨j, want⟩ := jw
  rw [hgd] at hg
  simp only [gdOk] at hg
  split at hg
  ·rename_i bb hb
   cases hg
   unfold regOk at hok
   simp only [Bool.and_eq_true, decide_eq_true_eq, List.all_eq_true] at hok
   obtain ⟨⟨⟨⟨_, _⟩, hlt⟩, _⟩, hgs⟩ := hok
   have h1 := hgs o ho
   rw [hgd] at h1
   simp only at h1
   split at h1
   ·rename_i t htj
    have htv : t ∉ fx.vars := by simpa using h1
    have hr := ht j t htj htv
    rw [hb] at hr
    have hv := hr.bool
    cases hoj : ops.toList[j]? with
    | none => rw [hoj] at htj; simp at htj
    | some oj =>
     rw [hoj] at htj; simp at htj
     have htN : t < tmps.size := by
      rw [hsz]; have := hlt t (List.mem_filterMap.2 ⟨oj, List.mem_of_getElem? hoj, htj⟩); simpa using this
     have e1 : tmps[t]? = some (.bool bb) := by
      rw [Array.getElem?_eq_getElem htN]
      rw [Array.getD_eq_getD_getElem?, Array.getElem?_eq_getElem htN] at hv
      simpa using hv
     have e2 : ops[j]? = some oj := by simpa using hoj
     simp only [yielded, e2, Option.bind_some, htj, e1]
     cases bb <;> cases want <;> rfl
   ·cases h1
  ·rename_i us hb
   cases hg
   unfold regOk at hok
   simp only [Bool.and_eq_true, decide_eq_true_eq, List.all_eq_true] at hok
   obtain ⟨⟨⟨⟨_, _⟩, hlt⟩, _⟩, hgs⟩ := hok
   have h1 := hgs o ho
   rw [hgd] at h1
   simp only at h1
   split at h1
   ·rename_i t htj
    have htv : t ∉ fx.vars := by simpa using h1
    have hr := ht j t htj htv
    rw [hb] at hr
    simp only [VRel] at hr
    obtain ⟨vs, hv, _⟩ := hr
    cases hoj : ops.toList[j]? with
    | none => rw [hoj] at htj; simp at htj
    | some oj =>
     rw [hoj] at htj; simp at htj
     have htN : t < tmps.size := by
      rw [hsz]; have := hlt t (List.mem_filterMap.2 ⟨oj, List.mem_of_getElem? hoj, htj⟩); simpa using this
     have e1 : tmps[t]? = some (.tuple vs.toArray) := by
      rw [Array.getElem?_eq_getElem htN]
      rw [Array.getD_eq_getD_getElem?, Array.getElem?_eq_getElem htN] at hv
      simpa using hv
     have e2 : ops[j]? = some oj := by simpa using hoj
     simp only [yielded, e2, Option.bind_some, htj, e1]
     cases want <;> rfl
   ·cases h1
  ·cases hg
theorem RG_sound {ro : Option Nat} {ops : Array Oper} (hok : regOk fx.vars fx.N ops.toList = true) {Qc : Exit → Act → World → Prop} :
  ∀ (is : List Ins) (j : Nat) (m : LM) (w : World) (vals ρ : List AV) (σ : List AObj) (K : List AV → List AV → List AObj → Prop) (ac : Act),
  (ops.toList.drop j).mapM (compIns P fx.vars (ops.toList.map (·.dst))) = some is → ρ.length = j →
  RG P is vals ρ σ K → SRel fx m X en ⟨vals, σ⟩ ac w → TRel m X w fx.vars ops.toList ρ ac.tmps →
  (∀ m' ac' w' vals ρ σ, K vals ρ σ → SRel fx m' X en ⟨vals, σ⟩ ac' w' → Step fx.n0 m X w m' w' → Qc .normal ac' w') →
  wpOpsIn (wfen ro) 0 P ops Qc (List.range' j (ops.size - j)) ac w
 | [], j, m, w, vals, ρ, σ, K, ac, hc, hj, hrg, hs, ht, hk => by
  have : ops.size - j = 0 := by
   cases hd : ops.toList.drop j with
   | nil => have := congrArg List.length hd; simp at this; omega
   | cons o os =>
    rw [hd] at hc
    simp only [List.mapM_cons, Option.bind_eq_bind, Option.bind_eq_some_iff, Option.pure_def] at hc
    obtain ⟨_, _, _, _, h⟩ := hc; cases h
  rw [this]
  simp only [List.range'_zero, wpOpsIn]
  exact hk m ac w vals ρ σ hrg hs (Step.refl _ _ _ _)
 | i :: is, j, m, w, vals, ρ, σ, K, ac, hc, hj, hrg, hs, ht, hk => by
  cases hd : ops.toList.drop j with
  | nil => rw [hd] at hc; simp at hc
  | cons o os =>
   rw [hd] at hc
   simp only [List.mapM_cons, Option.bind_eq_bind, Option.bind_eq_some_iff, Option.pure_def, Option.some.injEq, List.cons.injEq] at hc
   obtain ⟨i0, hi, is0, his, he1, he2⟩ := hc
   rw [he1] at hi; rw [he2] at his; clear he1 he2
   have hoj : ops.toList[j]? = some o := by
    have := congrArg List.head? hd; simpa using this
   have hlt : j < ops.size := by
    have := (List.getElem?_eq_some_iff.1 hoj).1; simpa using this
   have hoj' : ops[j]? = some o := by simpa using hoj
   have hos : ops.toList.drop (j + 1) = os := by rw [← List.tail_drop, hd]; rfl
   rw [← hos] at his
   have hn : ops.size - j = (ops.size - (j + 1)) + 1 := by omega
   rw [hn, List.range'_succ]
   simp only [wpOpsIn, hoj']
   obtain ⟨hdst, hgd⟩ := compIns_dst hi
   have next : ∀ (m' : LM) (w' : World) (σ' : List AObj) (v : AV) (c : Value), HRel m' X σ' w' → Step σ.length m X w m' w' → σ.length ≤ σ'.length → VRel m' X w' v c →
     RG P is (setD i.dst vals v) (ρ ++ [v]) σ' K → wpOpsIn (wfen ro) 0 P ops Qc (List.range' (j + 1) (ops.size - (j + 1))) (ac.put o.dst c) w' := by
    intro m' w' σ' v c hh hst hle hv hrg'
    have hs1 : SRel fx m' X en ⟨vals, σ'⟩ ac w' := hs.of_heap hh hst hle
    have ht1 := ht.mono (hs.heap.mono_of_step hst (Nat.le_refl _))
    obtain ⟨hs2, ht2⟩ := put_rel hok hoj hj hs1 ht1 hv
    rw [← hdst] at hs2
    refine RG_sound hok is (j + 1) m' w' _ _ σ' K _ his (by simp [hj]) hrg' hs2 ht2 ?_
    intro m2 ac2 w2 vals2 ρ2 σ2 hK hs3 hst2
    exact hk m2 ac2 w2 vals2 ρ2 σ2 hK hs3 (Step.trans (hst.less hs.base) hst2)
   simp only [RG] at hrg
   split at hrg
   ·exact hrg.elim
   ·rename_i hg
    rw [hgd] at hg
    have := gd_rel hok (List.mem_of_getElem? hoj) ht hs.size hg
    rw [this]
    simp only [Bool.false_eq_true, if_false]
    exact ⟨fun _ _ => trivial, next m w σ (.tup []) Go.undef hs.heap (Step.refl _ _ _ _) (Nat.le_refl _) (by simp [VRel, VRels, Go.undef]) hrg⟩
   ·rename_i hg
    rw [hgd] at hg
    have := gd_rel hok (List.mem_of_getElem? hoj) ht hs.size hg
    rw [this]
    simp only [if_true]
    refine ⟨fun _ _ => trivial, ?_⟩
    generalize has : i.args.map (evalO vals ρ) = as at hrg
    cases hop : i.op with
    | prim io =>
     rw [hop] at hrg
     dsimp only at hrg
     obtain ⟨os', hco, hargs, _, _⟩ := compIns_prim hi hop
     rw [hargs] at has
     have hrel := evalOs_rel hs.vars ht os'
     rw [has] at hrel
     split at hrg
     ·rename_i v σ' hsf
      obtain ⟨nx, w', m', hrun, hres, hh, hst⟩ := prim_sound hco hs.heap hrel hsf
      rw [Oper.semAt_eq _ _ _ (compOp_not_defer hco), hrun]
      rcases hres with ⟨c, rfl, hv⟩ | ⟨rfl, rfl⟩
      ·exact next m' w' σ' v c hh hst (stepF_le hsf) hv hrg
      ·exact next m' w' σ' .undef Go.undef hh hst (stepF_le hsf) (by simp [VRel]) hrg
     ·exact hrg.elim
    | call =>
     rw [hop] at hrg
     cases as with
     | nil => exact hrg.elim
     | cons fv as =>
     dsimp only at hrg
     obtain ⟨f, args, at_, hop', hargs, _, _⟩ := compIns_call hi hop
     rw [hargs] at has
     have hrel := evalOs_rel hs.vars ht (f :: args.toList)
     rw [has] at hrel
     obtain ⟨fc, us, he, hfv, hrest⟩ := hrel.cons
     simp only [List.map_cons, List.cons.injEq] at he
     obtain ⟨rfl, rfl⟩ := he
     have hnd : ∀ c, o.op ≠ .defer c := by rw [hop']; simp
     rw [Oper.semAt_eq _ _ _ hnd]
     have hex : execOp ac.eval o = (do let d ← resolve ac.eval { callee := .value f, args, argTypes := at_ } o.type; invoke d.target d.args) := by
      simp only [execOp, hop']
     rw [hex]
     unfold CallV at hrg
     split at hrg
     ·rename_i g cap
      simp only [VRel] at hfv
      obtain ⟨vs, hfe, hcap⟩ := hfv
      have hrun : (do let d ← resolve ac.eval { callee := .value f, args, argTypes := at_ } o.type; invoke d.target d.args : Sem Next).run P w = .ok (.enter g ((args.toList.map ac.eval) ++ vs).toArray) w := by
       simp only [resolve, hfe, Deferred.ofValue, Sem.run_bind, Sem.run_pure, Result.andThen_ok, invoke]
       rw [hrg.1]
       congr 2
       apply Array.ext'; simp
      rw [hrun]
      refine ⟨by simp [wfen, Fence.wide], ?_⟩
      have hcall := hrg.2 m X w _ (VRels.append hrest hcap) hs.heap
      refine CallsIn.mono (F := wfen ro) (n := 0) hcall ?_
      rintro e w' ⟨c, r, σ', m', rfl, hq, hv, hh, hst, hle⟩
      exact next m' w' σ' r c hh hst hle hv hq
     ·rename_i g first
      simp only [VRel] at hfv
      obtain ⟨vs, hfe, hcap⟩ := hfv
      have hrun : (do let d ← resolve ac.eval { callee := .value f, args, argTypes := at_ } o.type; invoke d.target d.args : Sem Next).run P w = .ok (.enter g (vs ++ (args.toList.map ac.eval)).toArray) w := by
       simp only [resolve, hfe, Deferred.ofValue, Sem.run_bind, Sem.run_pure, Result.andThen_ok, invoke]
       rw [hrg.1]
       congr 2
       apply Array.ext'; simp
      rw [hrun]
      refine ⟨by simp [wfen, Fence.wide], ?_⟩
      have hcall := hrg.2 m X w _ (VRels.append hcap hrest) hs.heap
      refine CallsIn.mono (F := wfen ro) (n := 0) hcall ?_
      rintro e w' ⟨c, r, σ', m', rfl, hq, hv, hh, hst, hle⟩
      exact next m' w' σ' r c hh hst hle hv hq
     ·rename_i l
      simp only [VRel] at hfv
      obtain ⟨b, hb, hfe⟩ := hfv
      obtain ⟨L, hL, hsz, hround⟩ := hrg m X w _ b hb hrest hs.heap
      have hrun : (do let d ← resolve ac.eval { callee := .value f, args, argTypes := at_ } o.type; invoke d.target d.args : Sem Next).run P w = .ok (.round b L.fn ((L.params.zip (args.toList.map ac.eval).toArray).foldl (fun tmps (t, a) => tmps.setIfInBounds t a) L.tmps) L.assign L.body) w := by
       simp only [resolve, hfe, Deferred.ofValue, Sem.run_bind, Sem.run_pure, Result.andThen_ok, invoke]
       have e : #[] ++ args.map ac.eval = (args.toList.map ac.eval).toArray := by apply Array.ext'; simp
       rw [e]
       exact run_yield hL (by simpa using hsz)
      rw [hrun]
      refine ⟨by simp [wfen, Fence.wide], ?_⟩
      refine RoundIn.mono (F := wfen ro) (n := 0) hround ?_
      rintro e w' ⟨c, r, σ', m', rfl, hq, hv, hh, hst, hle⟩
      exact next m' w' σ' r c hh hst hle hv hq
     ·exact hrg.elim
end Go.Proofs.YtpnghcaccfnngaaGreatDoor.AM
namespace Go.Proofs.YtpnghcaccfnngaaGreatDoor.AM
variable [Dr]
open Go
variable {P : Program} {fx : Fx} {m : LM} {X : Nat → Prop} {en : En} {w : World} {s : St} {Q : Exit → St → Prop}
theorem fen_eq (m : LM) (r : Option Nat) : fen m r = wfen (r.bind m) := rfl
theorem W.mono {c : Code} {Q' : Exit → St → Prop} (h : W P fx c s Q) (hq : ∀ e s', Q e s' → Q' e s') : W P fx c s Q' :=
 fun m X en ac w hs hr => wpIn_mono (h m X en ac w hs hr) fun e ac' w' ⟨s', m', h1, h2⟩ => ⟨s', m', hq _ _ h1, h2⟩
theorem W_skip (h : Q .normal s) : W P fx .skip s Q :=
 fun m X en ac w hs hr => wpIn_skip ⟨s, m, h, hs, Step.refl _ _ _ _⟩
theorem W_label {l : Nat} (h : Q .normal s) : W P fx (.label l) s Q :=
 fun m X en ac w hs hr => wpIn_label ⟨s, m, h, hs, Step.refl _ _ _ _⟩
theorem W_exit {i : Nat} (h : Q (.exit i) s) : W P fx (.exit i) s Q :=
 fun m X en ac w hs hr => wpIn_exit ⟨s, m, h, hs, Step.refl _ _ _ _⟩
theorem W_ret (h : Q .ret s) : W P fx .ret s Q :=
 fun m X en ac w hs hr => wpIn_ret ⟨s, m, h, hs, Step.refl _ _ _ _⟩
theorem W.later {c : Code} {s' : St} {m' : LM} {w' : World} {ac' : Act} (h : W P fx c s' Q) (hr : rok fx m) (hs' : SRel fx m' X en s' ac' w') (hst : Step fx.n0 m X w m' w') :
  c.wpIn (fen m fx.r) 0 P (Lift fx m X en w Q) ac' w' := by
 rw [← fen_step hr hst]
 exact wpIn_mono (h m' X en ac' w' hs' (rok_step hr hst)) fun e ac2 w2 ⟨s2, m2, h1, h2, h3⟩ => ⟨s2, m2, h1, h2, hst.trans h3⟩
theorem W_seq {x y : Code} (h : W P fx x s fun e s' => match e with | .normal => W P fx y s' Q | e => Q e s') : W P fx (.seq x y) s Q := by
 intro m X en ac w hs hr
 refine wpIn_seq (wpIn_mono (h m X en ac w hs hr) ?_)
 rintro e ac' w' ⟨s', m', hq, hs', hst⟩
 cases e with
 | normal => exact W.later hq hr hs' hst
 | _ => exact ⟨s', m', hq, hs', hst⟩
theorem W_block {i : Nat} {x : Code} (h : W P fx x s fun e s' => match e with | .exit i' => if i' = i then Q .normal s' else Q (.exit i') s' | e => Q e s') : W P fx (.block i x) s Q := by
 intro m X en ac w hs hr
 refine wpIn_block (wpIn_mono (h m X en ac w hs hr) ?_)
 rintro e ac' w' ⟨s', m', hq, hs', hst⟩
 cases e with
 | exit i' =>
  simp only [Exit.inBlock]
  dsimp only at hq
  split
  ·rename_i hi; rw [if_pos hi] at hq; exact ⟨s', m', hq, hs', hst⟩
  ·rename_i hi; rw [if_neg hi] at hq; exact ⟨s', m', hq, hs', hst⟩
 | _ => exact ⟨s', m', hq, hs', hst⟩
theorem W_cond {t i : Nat} {b : Bool} {x y : Code} (hv : fx.vars[i]? = some t) (hb : s.vals.getD i .undef = .b b) (h : W P fx (if b then x else y) s Q) : W P fx (.cond (.tmp t) x y) s Q := by
 intro m X en ac w hs hr
 have := hs.vars i t hv
 rw [hb] at this
 exact wpIn_cond (t := b) this.bool (h m X en ac w hs hr)
def Weak (fx : Fx) (s s' : St) : Prop := ∀ m X en ac w, SRel fx m X en s ac w → ∃ m', SRel fx m' X en s' ac w ∧ Step fx.n0 m X w m' w
theorem Weak.refl (fx : Fx) (s : St) : Weak fx s s := fun m X en ac w h => ⟨m, h, Step.refl _ _ _ _⟩
theorem Weak.trans {fx : Fx} {a b c : St} (h : Weak fx a b) (k : Weak fx b c) : Weak fx a c := fun m X en ac w hs =>
 let ⟨m1, h1, s1⟩ := h m X en ac w hs
 let ⟨m2, h2, s2⟩ := k m1 X en ac w h1
 ⟨m2, h2, s1.trans s2⟩
def LoopIn (F : Fence) (P : Program) (c : Code) (Q : Exit → Act → World → Prop) (a : Act) (w : World) : Prop :=
 ∀ (b : Frame) (k : List Item) (cs : List Frame), b.roundOf = F.round → F.fn b.fn → F.room (cs.length + 1 + 0) →
  ∃ e a' w', Q e a' w' ∧ ArrivesIn (Machine.fenced P F) P (lone (b.atR a (.code c :: .inLoop c :: k)) cs w) b k cs e a' w'
theorem wpIn_of_loopIn {F : Fence} {c : Code} {Q : Exit → Act → World → Prop} {a : Act} {w : World} (h : LoopIn F P c Q a w) : (Code.loop c).wpIn F 0 P Q a w := by
 intro b k cs hro hb hr
 obtain ⟨e, a', w', hq, harr⟩ := h b k cs hro hb hr
 exact ⟨e, a', w', hq, .of_steps (.one (fenced_calm hb hr rfl) stepR_loop) harr⟩
theorem loopIn_unroll {F : Fence} {c : Code} {Q : Exit → Act → World → Prop} {a : Act} {w : World} (h : c.wpIn F 0 P (Exit.then (fun a' w' => LoopIn F P c Q a' w') Q) a w) : LoopIn F P c Q a w := by
 intro b k cs hro hb hr
 obtain ⟨e, a₁, w₁, hq, harr⟩ := h b (.inLoop c :: k) cs hro hb hr
 cases e with
 | normal =>
  obtain ⟨e₂, a₂, w₂, hq₂, harr₂⟩ := hq b k cs hro hb hr
  exact ⟨e₂, a₂, w₂, hq₂, .of_steps (StepsIn.trans harr (.one (fenced_calm hb hr rfl) stepR_inLoop)) harr₂⟩
 | exit id => exact ⟨_, a₁, w₁, hq, .pass (x := .inLoop c) rfl (fun _ _ => .inl (by simp)) harr⟩
 | goto l => exact ⟨_, a₁, w₁, hq, .pass (x := .inLoop c) rfl (fun _ _ => .inl (by simp)) harr⟩
 | ret => exact ⟨_, a₁, w₁, hq, .pass (x := .inLoop c) rfl (fun _ _ => .inl (by simp)) harr⟩
 | panic ch => exact ⟨_, a₁, w₁, hq, .pass (x := .inLoop c) rfl (fun _ _ => .inl (by simp)) harr⟩
 | outgrown => exact ⟨_, a₁, w₁, hq, .pass (x := .inLoop c) rfl (fun _ _ => .inl (by simp)) harr⟩
def WL (P : Program) (fx : Fx) (c : Code) (s : St) (Q : Exit → St → Prop) : Prop :=
 ∀ m X en ac w, SRel fx m X en s ac w → rok fx m → LoopIn (fen m fx.r) P c (Lift fx m X en w Q) ac w
theorem W_loop {c : Code} (h : WL P fx c s Q) : W P fx (.loop c) s Q :=
 fun m X en ac w hs hr => wpIn_of_loopIn (h m X en ac w hs hr)
theorem LoopIn.mono {F : Fence} {c : Code} {Q Q' : Exit → Act → World → Prop} {a : Act} {w : World} (h : LoopIn F P c Q a w) (hq : ∀ e a w, Q e a w → Q' e a w) : LoopIn F P c Q' a w :=
 fun b k cs h1 h2 h3 => let ⟨e, a', w', q, r⟩ := h b k cs h1 h2 h3; ⟨e, a', w', hq _ _ _ q, r⟩
theorem WL.later {c : Code} {s' : St} {m' : LM} {w' : World} {ac' : Act} (h : WL P fx c s' Q) (hr : rok fx m) (hs' : SRel fx m' X en s' ac' w') (hst : Step fx.n0 m X w m' w') :
  LoopIn (fen m fx.r) P c (Lift fx m X en w Q) ac' w' := by
 rw [← fen_step hr hst]
 exact LoopIn.mono (h m' X en ac' w' hs' (rok_step hr hst)) fun e ac2 w2 ⟨s2, m2, h1, h2, h3⟩ => ⟨s2, m2, h1, h2, hst.trans h3⟩
theorem WL_unroll {c : Code} (h : W P fx c s fun e s' => match e with | .normal => WL P fx c s' Q | e => Q e s') : WL P fx c s Q := by
 intro m X en ac w hs hr
 refine loopIn_unroll (wpIn_mono (h m X en ac w hs hr) ?_)
 rintro e ac' w' ⟨s', m', hq, hs', hst⟩
 cases e with
 | normal => exact WL.later hq hr hs' hst
 | _ => exact ⟨s', m', hq, hs', hst⟩
theorem WL.weak {c : Code} {s' : St} (hw : Weak fx s s') (h : WL P fx c s' Q) : WL P fx c s Q := by
 intro m X en ac w hs hr
 obtain ⟨m', hs', hst⟩ := hw m X en ac w hs
 exact WL.later h hr hs' hst
theorem WL.mono {c : Code} {Q' : Exit → St → Prop} (h : WL P fx c s Q) (hq : ∀ e s', Q e s' → Q' e s') : WL P fx c s Q' :=
 fun m X en ac w hs hr => LoopIn.mono (h m X en ac w hs hr) fun e ac' w' ⟨s', m', h1, h2⟩ => ⟨s', m', hq _ _ h1, h2⟩
theorem W_region {id : Nat} {ops : Array Oper} {is : List Ins} (hc : compReg P fx.vars fx.N ops = some is) (h : RG P is s.vals [] s.heap fun vals _ σ => Q .normal ⟨vals, σ⟩) : W P fx (.region id ops false) s Q := by
 intro m X en ac w hs hr
 unfold compReg at hc
 split at hc
 ·rename_i hok
  have := RG_sound (ro := fx.r.bind m) (Qc := Lift fx m X en w Q) hok is 0 m w s.vals [] s.heap _ ac (by rw [← compAll_eq]; simpa using hc) rfl h hs (fun j t _ _ => by simp [VRel]) ?_
  ·refine wpIn_region ?_
   rw [List.range_eq_range']; exact this
  ·intro m' ac' w' vals ρ σ hK hs' hst
   exact ⟨_, m', hK, hs', hst⟩
 ·cases hc
def resF (vars : List Nat) (vals : List AV) (σ : List AObj) (P : Program) : ResultVar → Option AV
 | .tmp t => (vars.idxOf? t).map fun i => vals.getD i .undef
 | .cell a t => (vars.idxOf? a).bind fun i => (isAggT P t).bind fun g => if g then (P.info? t).bind fun ti => (f_loadN ti.size [vals.getD i .undef] σ).map (·.1) else (f_load1 [vals.getD i .undef] σ).map (·.1)
def resAll (P : Program) (vars : List Nat) (vals : List AV) (σ : List AObj) (rs : List ResultVar) : Option AV :=
 match rs with
 | [r] => resF vars vals σ P r
 | rs => (rs.mapM (resF vars vals σ P)).map .tup
def initVals (vars : List Nat) (args : List AV) : List AV := vars.map fun t => args.getD t .undef
theorem res_one {s : St} {ac : Act} (hs : SRel fx m X en s ac w) {rv : ResultVar} {a : AV} (h : resF fx.vars s.vals s.heap P rv = some a) :
  ∃ v, (match rv with | .tmp t => pure (ac.tmps.getD t Go.undef) | .cell c t => do loadVar t (← asAddr (ac.tmps.getD c Go.undef)) : Sem Value).run P w = .ok v w ∧ VRel m X w a v := by
 cases rv with
 | tmp t =>
  simp only [resF, Option.map_eq_some_iff] at h
  obtain ⟨i, hi, rfl⟩ := h
  exact ⟨_, rfl, hs.vars i t (idxOf?_some hi)⟩
 | cell c t =>
  simp only [resF, Option.bind_eq_some_iff] at h
  obtain ⟨i, hi, g, hg, h⟩ := h
  have hv := hs.vars i c (idxOf?_some hi)
  cases g with
  | true =>
   simp only [if_true, Option.bind_eq_some_iff, Option.map_eq_some_iff] at h
   obtain ⟨ti, hti, ⟨a', σ'⟩, hl, rfl⟩ := h
   obtain ⟨ad, v, he, h1, h2, _⟩ := loadN_run hs.heap hg hti (by simp only [VRels]; exact ⟨hv, trivial⟩ : VRels m X w [_] [ac.tmps.getD c Go.undef]) hl
   refine ⟨v, ?_, h2⟩
   simp only [he, asAddr, Sem.run_bind, Sem.run_pure, Result.andThen_ok]; exact h1
  | false =>
   simp only [Bool.false_eq_true, if_false, Option.map_eq_some_iff] at h
   obtain ⟨⟨a', σ'⟩, hl, rfl⟩ := h
   obtain ⟨ad, v, he, h1, h2, _⟩ := load1_run hs.heap hg (by simp only [VRels]; exact ⟨hv, trivial⟩ : VRels m X w [_] [ac.tmps.getD c Go.undef]) hl
   refine ⟨v, ?_, h2⟩
   simp only [he, asAddr, Sem.run_bind, Sem.run_pure, Result.andThen_ok]; exact h1
theorem res_list {s : St} {ac : Act} (hs : SRel fx m X en s ac w) : ∀ {rs : List ResultVar} {as : List AV}, rs.mapM (resF fx.vars s.vals s.heap P) = some as →
  ∃ vs : List Value, (rs.mapM fun | .tmp t => pure (ac.tmps.getD t Go.undef) | .cell c t => do loadVar t (← asAddr (ac.tmps.getD c Go.undef)) : Sem (List Value)).run P w = .ok vs w ∧ VRels m X w as vs
 | [], as, h => by simp at h; subst h; exact ⟨[], by simp, by simp [VRels]⟩
 | rv :: rs, as, h => by
  simp only [List.mapM_cons, Option.bind_eq_bind, Option.bind_eq_some_iff, Option.pure_def, Option.some.injEq] at h
  obtain ⟨a, ha, as', has, rfl⟩ := h
  obtain ⟨v, h1, h2⟩ := res_one hs ha
  obtain ⟨vs, h3, h4⟩ := res_list hs has
  refine ⟨v :: vs, ?_, by simp only [VRels]; exact ⟨h2, h4⟩⟩
  simp only [List.mapM_cons, Sem.run_bind]
  rw [h1]; simp only [Result.andThen_ok]; rw [h3]; simp
theorem res_sound {s : St} {ac : Act} {fn : Func} {r : AV} (hs : SRel fx m X en s ac w) (h : resAll P fx.vars s.vals s.heap fn.results.toList = some r) :
  ∃ v, (results fn ac.tmps).run P w = .ok v w ∧ VRel m X w r v := by
 have hm : ∀ {as : List AV}, fn.results.toList.mapM (resF fx.vars s.vals s.heap P) = some as → ∃ vs : List Value, vs.length = fn.results.toList.length ∧ (results fn ac.tmps).run P w = .ok (if h : vs.length = 1 then vs[0] else .tuple vs.toArray) w ∧ VRels m X w as vs := by
  intro as has
  obtain ⟨vs, h1, h2⟩ := res_list hs has
  have hl : vs.length = fn.results.toList.length := by
   rw [← h2.length]
   have : ∀ (l : List ResultVar) (bs : List AV), l.mapM (resF fx.vars s.vals s.heap P) = some bs → bs.length = l.length := by
    intro l
    induction l with
    | nil => intro bs h; simp at h; subst h; rfl
    | cons x l ih =>
     intro bs h
     simp only [List.mapM_cons, Option.bind_eq_bind, Option.bind_eq_some_iff, Option.pure_def, Option.some.injEq] at h
     obtain ⟨_, _, bs', hbs, rfl⟩ := h
     simp [ih _ hbs]
   exact this _ _ has
  refine ⟨vs, hl, ?_, h2⟩
  unfold results
  rw [Array.mapM_eq_mapM_toList]
  simp only [Sem.run_bind, Sem.run_map]
  erw [h1]
  simp
 unfold resAll at h
 split at h
 ·rename_i rv hrv
  obtain ⟨vs, hl, h1, h2⟩ := hm (as := [r]) (by rw [hrv]; simp [h])
  rw [hrv] at hl
  match vs, hl, h1, h2 with
  | [v], _, h1, h2 => exact ⟨v, by simpa using h1, by simp only [VRels] at h2; exact h2.1⟩
 ·rename_i rs hrs
  simp only [Option.map_eq_some_iff] at h
  obtain ⟨as, has, rfl⟩ := h
  obtain ⟨vs, hl, h1, h2⟩ := hm has
  refine ⟨.tuple vs.toArray, ?_, by simp only [VRel]; exact ⟨vs, rfl, h2⟩⟩
  have : vs.length ≠ 1 := by
   intro h1l
   rw [hl] at h1l
   match hq : fn.results.toList, h1l with
   | [rv], _ => exact hrs rv hq
  rw [h1, dif_neg this]
structure Taken (w w' : World) (e : Nat) : Prop where
 size : w'.heap.size = w.heap.size
 old : ∀ b : Nat, b < e → w'.heap[b]? = w.heap[b]?
 same : ∀ (b : Nat) (o : Obj), w.heap[b]? = some o → (∀ d, o ≠ .deferred d) → w'.heap[b]? = some o
 os : w'.os = w.os
 tape : w'.tape = w.tape
 output : w'.output = w.output
 drawn : w.drawn ≤ w'.drawn
theorem Taken.refl (w : World) (e : Nat) : Taken w w e := ⟨rfl, fun _ _ => rfl, fun _ _ h _ => h, rfl, rfl, rfl, Nat.le_refl _⟩
theorem Taken.put {w w1 : World} {e b : Nat} {d : Option (List Deferred)} (h : Taken w w1 e) (hb : e ≤ b) (hw : w1.heap[b]? = some (.deferred d)) (d' : Option (List Deferred)) : Taken w (w1.putObj b (.deferred d')) e where
 size := by simp [h.size]
 old k hk := by rw [World.putObj_heap_other (by omega)]; exact h.old k hk
 same k o hk hd := by
  have := h.same k o hk hd
  have hne : k ≠ b := by
   rintro rfl; rw [hw] at this; cases this; exact hd d rfl
  rw [World.putObj_heap_other hne]; exact this
 os := h.os
 tape := h.tape
 output := h.output
 drawn := h.drawn
theorem Taken.mono {w w' : World} {e : Nat} (h : Taken w w' e) : Mono m X w m X w' where
 sub _ _ hl := hl
 cl b hb hc := by
  obtain ⟨c, ty, fr, hc⟩ := hc
  exact ⟨by rw [h.same b _ hc (by simp), hc], hb⟩
 shp b c e hb := ⟨c, h.same b _ hb (by simp), rfl⟩
theorem HRel.taken {σ : List AObj} {w' : World} {e : Nat} (hh : HRel m X σ w) (h : Taken w w' e) : HRel m X σ w' := by
 refine ⟨fun b hb => by rw [h.size]; exact hh.xb b hb, fun l b hl => by rw [h.size]; exact hh.dom l b hl, hh.own, hh.inj, fun l o ho => ?_⟩
 have := hh.obj l o ho
 cases hml : m l with
 | none => rw [hml] at this; cases o <;> simp [ORel] at this ⊢
 | some b =>
  rw [hml] at this
  cases o with
  | dead => trivial
  | cells cs =>
   have h2 := this; simp only [ORel] at h2; obtain ⟨c, ty, hb, _⟩ := h2
   exact ORel.mono h.mono (by rw [hb]; exact h.same b _ hb (by simp)) this
  | map es =>
   have h2 := this; simp only [ORel] at h2; obtain ⟨c, ty, hb, _⟩ := h2
   exact ORel.mono h.mono (by rw [hb]; exact h.same b _ hb (by simp)) this
  | siter s0 p =>
   have h2 := this; simp only [ORel] at h2
   exact ORel.mono h.mono (by rw [h2]; exact h.same b _ h2 (by simp)) this
  | loop r =>
   have h2 := this; simp only [ORel] at h2; obtain ⟨_, _, _, _, _, hb, _⟩ := h2
   exact ORel.mono h.mono (by rw [hb]; exact h.same b _ hb (by simp)) this
theorem Step.taken {n0 : Nat} {m' : LM} {w' w'' : World} {e : Nat} (hs : Step n0 m X w m' w') (h : Taken w' w'' e) (he : w.heap.size ≤ e) : Step n0 m X w m' w'' where
 keep := hs.keep
 new := hs.new
 size := by rw [h.size]; exact hs.size
 fr b hb hno := by rw [h.old b (by omega)]; exact hs.fr b hb hno
 shp b c ty hb := by
  obtain ⟨c', h1, h2⟩ := hs.shp b c ty hb
  exact ⟨c', h.same b _ h1 (by simp), h2⟩
 os := h.os.trans hs.os
 tape := h.tape.trans hs.tape
 output := h.output.trans hs.output
 drawn o := Nat.le_trans (hs.drawn o) h.drawn
theorem leaves_marks {fn : Func} {tmps : Array Value} {R : Ending → World → Prop} {e : Nat} {w : World} : ∀ (bs : List Nat) (w1 : World), Taken w w1 e → bs.Nodup → (∀ b ∈ bs, e ≤ b ∧ w1.heap[b]? = some (.deferred (some []))) →
  (∀ w2, Taken w w2 e → ∃ v, (results fn tmps).run P w2 = .ok v w2 ∧ R (.returned v) w2) → LeavesInM Fence.wide 0 P fn tmps R (bs.map fun b => { target := .collected b, args := #[] }) .returning w1
 | [], w1, ht, _, _, h => by
  obtain ⟨v, h1, h2⟩ := h w1 ht
  simp only [List.map_nil, LeavesInM, LeavesIn]
  exact ⟨v, h1, h2⟩
 | b :: bs, w1, ht, hnd, hall, h => by
  simp only [List.map_cons, LeavesInM]
  obtain ⟨hb1, hb2⟩ := hall b (by simp)
  refine ⟨by simp, .inl ⟨b, w1.putObj b (.deferred none), rfl, run_takeDeferred hb2, ?_⟩⟩
  refine leaves_marks bs _ (ht.put hb1 hb2 none) (List.nodup_cons.1 hnd).2 ?_ h
  intro b' hb'
  have hne : b' ≠ b := by rintro rfl; exact (List.nodup_cons.1 hnd).1 hb'
  refine ⟨(hall b' (by simp [hb'])).1, ?_⟩
  rw [World.putObj_heap_other hne]; exact (hall b' (by simp [hb'])).2
theorem AC_of_body {f : FuncId} {fn : Func} {c : Code} {args : List AV} {σ : List AObj} {vars : List Nat} {Q : AV → List AObj → Prop} (hf : P.funcs[f]? = some fn) (hb : fn.body = some c) (hen : Enter P f) (hargs : args.length ≤ fn.ntmps)
  (h : W P ⟨vars, fn.ntmps, none, σ.length⟩ c ⟨initVals vars args, σ⟩ fun e s' => match e with
   | .normal | .ret => ∃ r, resAll P vars s'.vals s'.heap fn.results.toList = some r ∧ Q r s'.heap
   | _ => False) : AC P f args σ Q := by
 refine ⟨hen, fun m X w cargs ha hh => ?_⟩
 refine callsIn_of_wp_marks hf hb trivial ?_
 have hlen := ha.length
 have hs0 : SRel ⟨vars, fn.ntmps, none, σ.length⟩ m X ⟨w.heap.size, []⟩ ⟨initVals vars args, σ⟩ { tmps := cargs.toArray ++ Array.replicate (fn.ntmps - cargs.toArray.size) Go.undef, defers := [] } w := by
  refine ⟨by simp; omega, ?_, ⟨[], rfl, List.nodup_nil, by simp⟩, hh, Nat.le_refl _, Nat.le_refl _⟩
  intro i t hi
  have e1 : (initVals vars args).getD i .undef = args.getD t .undef := by
   simp only [initVals, List.getD, List.getElem?_map]
   rw [show vars[i]? = some t from hi]; rfl
  rw [e1]
  rw [Array.getD_eq_getD_getElem?]
  by_cases ht : t < cargs.length
  ·have e2 : (cargs.toArray ++ Array.replicate (fn.ntmps - cargs.toArray.size) Go.undef)[t]? = some cargs[t] := by
    rw [Array.getElem?_append_left (by simpa using ht)]; simp [ht]
   rw [e2]
   have := ha.getD t Go.undef
   simpa [List.getD, ht] using this
  ·have : args.getD t .undef = .undef := by simp [List.getD, List.getElem?_eq_none (show args.length ≤ t by omega)]
   rw [this]; simp [VRel]
 have key := h m X ⟨w.heap.size, []⟩ _ w hs0 (by intro l hl; cases hl)
 refine wpIn_mono key ?_
 rintro e ac' w' ⟨s', m', hq, hs', hst⟩
 have fin : (∃ r, resAll P vars s'.vals s'.heap fn.results.toList = some r ∧ Q r s'.heap) → LeavesInM Fence.wide 0 P fn ac'.tmps (CPost m X w σ Q) ac'.defers .returning w' := by
  rintro ⟨r, hr, hQ⟩
  obtain ⟨bs, hbs, hnd, hall⟩ := hs'.defs
  rw [hbs, List.append_nil]
  refine leaves_marks (e := w.heap.size) (w := w') bs w' (Taken.refl _ _) hnd (fun b hb => ⟨(hall b hb).1, (hall b hb).2.2.1⟩) ?_
  intro w2 ht
  have hh2 := hs'.heap.taken ht
  have hs2 : SRel ⟨vars, fn.ntmps, none, σ.length⟩ m' X ⟨0, []⟩ s' { ac' with defers := [] } w2 :=
   ⟨hs'.size, hs'.vars.mono ht.mono, ⟨[], rfl, List.nodup_nil, by simp⟩, hh2, hs'.base, Nat.zero_le _⟩
  obtain ⟨v, h1, h2⟩ := res_sound (fx := ⟨vars, fn.ntmps, none, σ.length⟩) (fn := fn) hs2 hr
  exact ⟨v, h1, v, r, s'.heap, m', rfl, hQ, h2, hh2, hst.taken ht (Nat.le_refl _), hs'.base⟩
 cases e with
 | normal => exact fin hq
 | ret => exact fin hq
 | exit i => exact hq.elim
 | goto l => exact hq.elim
 | panic ch => exact hq.elim
 | outgrown => exact hq.elim
mutual
def locsIn (k : Nat) : AV → Bool
 | .cv _ => true
 | .ptr l _ => decide (l < k)
 | .sl l _ _ _ => decide (l < k)
 | .map l => decide (l < k)
 | .fn _ cs => locsInAll k cs
 | .bm _ cs => locsInAll k cs
 | .yld l => decide (l < k)
 | .agg cs => locsInAll k cs
 | .tup cs => locsInAll k cs
 | .undef => true
 | .slc l _ _ _ _ => decide (l < k)
def locsInAll (k : Nat) : List AV → Bool
 | [] => true
 | a :: as => locsIn k a && locsInAll k as
end
def objIn (k : Nat) : AObj → Bool
 | .dead => true
 | .cells cs => locsInAll k cs
 | .map es => es.all fun e => locsIn k e.1 && locsIn k e.2
 | .siter _ _ => true
 | .loop r => locsInAll k r.vals
def LM.upto (m : LM) (k : Nat) : LM := fun l => if l < k then m l else none
theorem own_upto {k b : Nat} (h : Own (m.upto k) X b) : Own m X b := by
 rcases h with h | ⟨l, hl⟩
 ·exact .inl h
 ·unfold LM.upto at hl; split at hl
  ·exact .inr ⟨l, hl⟩
  ·cases hl
mutual
theorem VRel.upto {k : Nat} : ∀ (a : AV) (v : Value), locsIn k a = true → VRel m X w a v → VRel (m.upto k) X w a v
 | .cv c, v, _, h => by simp only [VRel] at h ⊢; exact CV.rep_mono (fun b hb _ => ⟨rfl, fun ho => hb (own_upto ho)⟩) c v h
 | .ptr l off, v, hk, h => by simp only [VRel, locsIn, decide_eq_true_eq] at h hk ⊢; obtain ⟨b, h1, h2⟩ := h; exact ⟨b, by simp [LM.upto, hk, h1], h2⟩
 | .sl l off len esz, v, hk, h => by simp only [VRel, locsIn, decide_eq_true_eq] at h hk ⊢; obtain ⟨b, cap, h1, h2⟩ := h; exact ⟨b, cap, by simp [LM.upto, hk, h1], h2⟩
 | .map l, v, hk, h => by simp only [VRel, locsIn, decide_eq_true_eq] at h hk ⊢; obtain ⟨b, h1, h2⟩ := h; exact ⟨b, by simp [LM.upto, hk, h1], h2⟩
 | .fn f cs, v, hk, h => by simp only [VRel, locsIn] at h hk ⊢; obtain ⟨vs, h1, h2⟩ := h; exact ⟨vs, h1, VRels.upto cs vs hk h2⟩
 | .bm f cs, v, hk, h => by simp only [VRel, locsIn] at h hk ⊢; obtain ⟨vs, h1, h2⟩ := h; exact ⟨vs, h1, VRels.upto cs vs hk h2⟩
 | .yld l, v, hk, h => by simp only [VRel, locsIn, decide_eq_true_eq] at h hk ⊢; obtain ⟨b, h1, h2⟩ := h; exact ⟨b, by simp [LM.upto, hk, h1], h2⟩
 | .agg cs, v, hk, h => by simp only [VRel, locsIn] at h hk ⊢; obtain ⟨vs, h1, h2⟩ := h; exact ⟨vs, h1, VRels.upto cs vs hk h2⟩
 | .tup cs, v, hk, h => by simp only [VRel, locsIn] at h hk ⊢; obtain ⟨vs, h1, h2⟩ := h; exact ⟨vs, h1, VRels.upto cs vs hk h2⟩
 | .undef, v, _, _ => by simp [VRel]
 | .slc l off len cap esz, v, hk, h => by simp only [VRel, locsIn, decide_eq_true_eq] at h hk ⊢; obtain ⟨b, h1, h2⟩ := h; exact ⟨b, by simp [LM.upto, hk, h1], h2⟩
theorem VRels.upto {k : Nat} : ∀ (as : List AV) (vs : List Value), locsInAll k as = true → VRels m X w as vs → VRels (m.upto k) X w as vs
 | [], [], _, _ => by simp [VRels]
 | a :: as, v :: vs, hk, h => by simp only [VRels, locsInAll, Bool.and_eq_true] at h hk ⊢; exact ⟨VRel.upto a v hk.1 h.1, VRels.upto as vs hk.2 h.2⟩
 | [], _ :: _, _, h => by simp [VRels] at h
 | _ :: _, [], _, h => by simp [VRels] at h
end
theorem locsInAll_getD {k : Nat} : ∀ {as : List AV}, locsInAll k as = true → ∀ i, locsIn k (as.getD i .undef) = true
 | [], _, i => by simp [List.getD, locsIn]
 | a :: as, h, 0 => by simp only [locsInAll, Bool.and_eq_true] at h; simpa [List.getD] using h.1
 | a :: as, h, i + 1 => by simp only [locsInAll, Bool.and_eq_true] at h; simpa [List.getD] using locsInAll_getD h.2 i
def sub1 : AV → AV → Prop := fun a b => b = a ∨ b = .undef
theorem Weak.drop {vals' : List AV} {k : Nat} (hv : ∀ i, sub1 (s.vals.getD i .undef) (vals'.getD i .undef)) (hk : fx.n0 ≤ k) (hl : locsInAll k vals' = true) (ho : ∀ o ∈ s.heap.take k, objIn k o = true) (hkl : k ≤ s.heap.length) : Weak fx s ⟨vals', s.heap.take k⟩ := by
 intro m X en ac w hs
 refine ⟨m.upto k, ⟨hs.size, ?_, ?_, ?_, ?_, hs.entry⟩, ?_⟩
 ·intro i t hi
  have hrel := hs.vars i t hi
  rcases hv i with h1 | h1
  ·rw [h1]; rw [← h1]
   have := locsInAll_getD hl i
   rw [h1] at this ⊢
   exact VRel.upto _ _ this hrel
  ·rw [h1]; simp [VRel]
 ·obtain ⟨bs, h1, h2, h3⟩ := hs.defs
  refine ⟨bs, h1, h2, fun b hb => ?_⟩
  obtain ⟨g1, g2, g3, g4⟩ := h3 b hb
  exact ⟨g1, g2, g3, fun ho => g4 (own_upto ho)⟩
 ·have hh := hs.heap
  refine ⟨hh.xb, ?_, ?_, ?_, ?_⟩
  ·intro l b hb
   unfold LM.upto at hb
   split at hb
   ·rename_i hlk
    have := hh.dom l b hb
    exact ⟨by simp; omega, this.2⟩
   ·cases hb
  ·intro l b o hb ho1 hv
   unfold LM.upto at hb
   split at hb
   ·rename_i hlk
    rw [List.getElem?_take, if_pos hlk] at ho1
    exact hh.own l b o hb ho1 hv
   ·cases hb
  ·intro l l' b o' h1 h2 ho2 hv2
   unfold LM.upto at h1 h2
   split at h1
   ·split at h2
    ·rw [List.getElem?_take, if_pos (by assumption)] at ho2
     exact hh.inj l l' b o' h1 h2 ho2 hv2
    ·cases h2
   ·cases h1
  ·intro l o hlo
   have hin := ho o (List.mem_of_getElem? hlo)
   rw [List.getElem?_take] at hlo
   split at hlo
   ·rename_i hlk
    have hr := hh.obj l o hlo
    have hml : m.upto k l = m l := by simp [LM.upto, hlk]
    rw [hml]
    cases hm : m l with
    | none => rw [hm] at hr; cases o <;> simp [ORel] at hr ⊢
    | some b =>
     rw [hm] at hr
     cases o with
     | dead => trivial
     | cells cs =>
      simp only [ORel, objIn] at hr hin ⊢
      obtain ⟨c, e, h1, h2, h3⟩ := hr
      exact ⟨c, e, h1, h2, VRels.upto _ _ hin h3⟩
     | map es =>
      simp only [ORel, objIn] at hr hin ⊢
      obtain ⟨ces, clock, h1, h2, h3, h4, h5⟩ := hr
      refine ⟨ces, clock, h1, h2, h3, h4, fun i kk a hi => ?_⟩
      obtain ⟨e, he, g1, g2⟩ := h5 i kk a hi
      rw [List.all_eq_true] at hin
      have := hin _ (List.mem_of_getElem? hi)
      simp only [Bool.and_eq_true] at this
      exact ⟨e, he, VRel.upto _ _ this.1 g1, VRel.upto _ _ this.2 g2⟩
     | siter s0 p => exact hr
     | loop r =>
      simp only [ORel, objIn] at hr hin ⊢
      obtain ⟨tmps, d, fi, h1, h2, h3⟩ := hr
      exact ⟨tmps, d, fi, h1, fun i t hi => VRel.upto _ _ (locsInAll_getD hin i) (h2 i t hi), h3⟩
   ·cases hlo
 ·simp; have := hs.base; omega
 ·refine ⟨fun l hl => by simp [LM.upto]; omega, fun l b hb => ?_, Nat.le_refl _, fun _ _ _ => rfl, fun b c e h => ⟨c, h, rfl⟩, rfl, rfl, rfl, fun _ => Nat.le_refl _⟩
  unfold LM.upto at hb; split at hb
  ·exact .inl ⟨l, hb⟩
  ·cases hb
end Go.Proofs.YtpnghcaccfnngaaGreatDoor.AM
namespace Go.Proofs.YtpnghcaccfnngaaGreatDoor.AM
variable [Dr]
open Go
variable {P : Program} {fx : Fx} {m : LM} {X : Nat → Prop} {en : En} {w : World}
inductive Sched (dir : Nat → List Nat) (n : Nat) : List Nat → List Nat → Prop
 | nil {D : List Nat} : (∀ i, i < n → i ∈ D) → Sched dir n D []
 | cons {D : List Nat} {i : Nat} {l : List Nat} : i < n → i ∉ D → (∀ e ∈ dir i, e ∈ D) → Sched dir n (i :: D) l → Sched dir n D (i :: l)
def dirOf (ops : Array Oper) (i : Nat) : List Nat :=
 match ops[i]? with
 | some o => (o.after.toList.filter (Region.binds .any)).map (·.on)
 | none => []
theorem dirOf_all {ops : Array Oper} {i : Nat} {o : Oper} (h : ops[i]? = some o) (listed : Array Bool) :
  (o.after.all fun e => !Region.binds .any e || listed.getD e.on false) = true ↔ ∀ e ∈ dirOf ops i, listed.getD e false = true := by
 simp only [dirOf, h, Array.all_eq_true', List.mem_map, List.mem_filter]
 constructor
 ·rintro hall e ⟨x, ⟨hx, hb⟩, rfl⟩
  have := hall x (by simpa using hx)
  simpa [hb] using this
 ·intro hall x hx
  by_cases hb : Region.binds .any x = true
  ·have := hall x.on ⟨x, ⟨by simpa using hx, hb⟩, rfl⟩
   simp [this]
  ·simp [hb]
theorem filter_length_lt {α : Type} (p q : α → Bool) (l : List α) (h : ∀ x, q x = true → p x = true) (a : α) (ha : a ∈ l) (hp : p a = true) (hq : q a = false) : (l.filter q).length < (l.filter p).length := by
 induction l with
 | nil => simp at ha
 | cons x l ih =>
  have hle : (l.filter q).length ≤ (l.filter p).length := by
   clear ih ha
   induction l with
   | nil => simp
   | cons y l ih =>
    simp only [List.filter_cons]
    by_cases hy : q y = true
    ·simp [hy, h y hy, ih]
    ·simp only [hy, if_false, Bool.false_eq_true]
     split <;> (try simp only [List.length_cons]) <;> omega
  simp only [List.filter_cons]
  rcases List.mem_cons.1 ha with rfl | ha'
  ·simp [hp, hq]; omega
  ·have := ih ha'
   by_cases hx : q x = true
   ·simp [hx, h x hx]; omega
   ·rw [if_neg hx]
    split <;> (try simp only [List.length_cons]) <;> omega
theorem sched_go {ops : Array Oper} (hback : ∀ i, i < ops.size → ∀ e ∈ dirOf ops i, e < i) : ∀ (fuel t : Nat) (listed : Array Bool) (acc D : List Nat), listed.size = ops.size →
  (∀ i, i < ops.size → (listed.getD i false = true ↔ i ∈ D)) → ((List.range ops.size).filter fun i => !listed.getD i false).length ≤ fuel →
  ∃ l, Region.linearise.go .any ops fuel t listed acc = acc.reverse ++ l ∧ Sched (dirOf ops) ops.size D l
 | 0, t, listed, acc, D, hsz, hl, hf => by
  refine ⟨[], by simp [Region.linearise.go], .nil fun i hi => ?_⟩
  rw [← hl i hi]
  have h0 : ((List.range ops.size).filter fun i => !listed.getD i false) = [] := List.eq_nil_of_length_eq_zero (by omega)
  rw [List.filter_eq_nil_iff] at h0
  have := h0 i (by simpa using hi)
  simpa using this
 | fuel + 1, t, listed, acc, D, hsz, hl, hf => by
  simp only [Region.linearise.go]
  generalize hrs : ((List.range ops.size).filter fun i => !listed.getD i true && ((ops[i]?).map (fun o : Oper => o.after.all fun e => !Region.binds .any e || listed.getD e.on false)).getD false) = rs
  have hmem : ∀ i, i ∈ rs ↔ i < ops.size ∧ i ∉ D ∧ ∀ e ∈ dirOf ops i, e ∈ D := by
   intro i
   rw [← hrs]
   simp only [List.mem_filter, List.mem_range, Bool.and_eq_true, Bool.not_eq_true']
   constructor
   ·rintro ⟨hi, h1, h2⟩
    have hio : ops[i]? = some ops[i] := Array.getElem?_eq_getElem hi
    have e1 : listed.getD i false = listed.getD i true := by simp [Array.getD_eq_getD_getElem?, Array.getElem?_eq_getElem (show i < listed.size by omega)]
    rw [hio] at h2
    simp only [Option.map_some, Option.getD_some] at h2
    rw [dirOf_all hio] at h2
    refine ⟨hi, fun hD => ?_, fun e he => (hl e (Nat.lt_trans (hback i hi e he) hi)).1 (h2 e he)⟩
    have := (hl i hi).2 hD; rw [e1, h1] at this; cases this
   ·rintro ⟨hi, h1, h2⟩
    have hio : ops[i]? = some ops[i] := Array.getElem?_eq_getElem hi
    have e1 : listed.getD i false = listed.getD i true := by simp [Array.getD_eq_getD_getElem?, Array.getElem?_eq_getElem (show i < listed.size by omega)]
    refine ⟨hi, ?_, ?_⟩
    ·rw [← e1]
     cases hq : listed.getD i false with
     | false => rfl
     | true => exact absurd ((hl i hi).1 hq) h1
    ·rw [hio]; simp only [Option.map_some, Option.getD_some]
     rw [dirOf_all hio]
     exact fun e he => (hl e (Nat.lt_trans (hback i hi e he) hi)).2 (h2 e he)
  by_cases hall : ∀ i, i < ops.size → i ∈ D
  ·have : rs = [] := by
    apply List.eq_nil_iff_forall_not_mem.2
    intro i hi
    have := (hmem i).1 hi
    exact this.2.1 (hall i this.1)
   rw [this]
   exact ⟨[], by simp, .nil hall⟩
  · -- THE FIRST ONE THAT IS LEFT
   have hne : rs ≠ [] := by
    intro hnil
    apply hall
    intro i
    induction i using Nat.strongRecOn with
    | _ i ih =>
     intro hi
     by_cases hD : i ∈ D
     ·exact hD
     ·exfalso
      have : i ∈ rs := (hmem i).2 ⟨hi, hD, fun e he => ih e (hback i hi e he) (Nat.lt_trans (hback i hi e he) hi)⟩
      rw [hnil] at this; simp at this
   have hlen : 0 < rs.length := List.length_pos_iff.2 hne
   have hidx : t % rs.length < rs.length := Nat.mod_lt _ hlen
   rw [List.getElem?_eq_getElem hidx]
   have hin : rs[t % rs.length] ∈ rs := List.getElem_mem hidx
   generalize rs[t % rs.length] = i at hin ⊢
   obtain ⟨hi, hiD, hdir⟩ := (hmem i).1 hin
   obtain ⟨l, h1, h2⟩ := sched_go hback fuel (t / rs.length) (listed.setIfInBounds i true) (i :: acc) (i :: D) (by simp [hsz]) (by
    intro j hj
    by_cases hji : j = i
    ·subst hji; simp [Array.getD_eq_getD_getElem?, hsz, hj]
    ·have : (listed.setIfInBounds i true).getD j false = listed.getD j false := by
      simp only [Array.getD_eq_getD_getElem?]; rw [Array.getElem?_setIfInBounds_ne (fun h => hji h.symm)]
     rw [this, hl j hj]; simp [hji]) (by
    have : ((List.range ops.size).filter fun j => !(listed.setIfInBounds i true).getD j false).length < ((List.range ops.size).filter fun j => !listed.getD j false).length := by
     refine filter_length_lt _ _ _ ?_ i (by simpa using hi) ?_ ?_
     ·intro j hj
      by_cases hji : j = i
      ·subst hji; simp [Array.getD_eq_getD_getElem?, hsz, hi] at hj
      ·have : (listed.setIfInBounds i true).getD j false = listed.getD j false := by
        simp only [Array.getD_eq_getD_getElem?]; rw [Array.getElem?_setIfInBounds_ne (fun h => hji h.symm)]
       rwa [this] at hj
     ·cases hq : listed.getD i false with
      | false => rfl
      | true => exact absurd ((hl i hi).1 hq) hiD
     ·simp [Array.getD_eq_getD_getElem?, hsz, hi]
    omega)
   exact ⟨i :: l, by simp [h1], .cons hi hiD hdir h2⟩
theorem sched_of_linearise {ops : Array Oper} (hback : ∀ i, i < ops.size → ∀ e ∈ dirOf ops i, e < i) (t : Nat) : Sched (dirOf ops) ops.size [] (Region.linearise .any ops t) := by
 obtain ⟨l, h1, h2⟩ := sched_go hback ops.size t (Array.replicate ops.size false) [] [] (by simp) (by
  intro i hi; simp [Array.getD_eq_getD_getElem?, hi]) (by
  refine Nat.le_trans (List.length_filter_le _ _) (by simp))
 unfold Region.linearise
 rw [h1]; simpa using h2
end Go.Proofs.YtpnghcaccfnngaaGreatDoor.AM
namespace Go.Proofs.YtpnghcaccfnngaaGreatDoor.AM
set_option linter.unusedSectionVars false
variable [Dr]
open Go
set_option linter.unusedVariables false
set_option linter.unusedSimpArgs false
def lastOf (p : Nat → Bool) : Nat → Option Nat
 | 0 => none
 | k + 1 => if p k then some k else lastOf p k
theorem lastOf_congr {p q : Nat → Bool} : ∀ {n : Nat}, (∀ k, k < n → p k = q k) → lastOf p n = lastOf q n
 | 0, _ => rfl
 | n + 1, h => by simp only [lastOf, h n (by omega), lastOf_congr (n := n) fun k hk => h k (by omega)]
theorem lastOf_cut {p : Nat → Bool} {j : Nat} : ∀ {n : Nat}, j ≤ n → (∀ k, j ≤ k → k < n → p k = false) → lastOf p n = lastOf p j
 | 0, h, _ => by have : j = 0 := by omega
                 subst this; rfl
 | n + 1, h, hf => by
  by_cases hj : j = n + 1
  ·subst hj; rfl
  ·simp only [lastOf, hf n (by omega) (by omega), Bool.false_eq_true, if_false]
   exact lastOf_cut (by omega) fun k h1 h2 => hf k h1 (by omega)
theorem lastOf_top {p : Nat → Bool} {j n : Nat} (hj : j < n) (hp : p j = true) (hf : ∀ k, j < k → k < n → p k = false) : lastOf p n = some j := by
 rw [lastOf_cut (j := j + 1) (by omega) fun k h1 h2 => hf k (by omega) h2]
 simp [lastOf, hp]
def hideL (f : Nat → Bool) (σ : List AObj) : List AObj := σ.mapIdx fun l o => if f l then .dead else o
theorem hideL_get (f : Nat → Bool) (σ : List AObj) (l : Nat) : (hideL f σ)[l]? = (σ[l]?).map fun o => if f l then .dead else o := by
 simp [hideL, List.getElem?_mapIdx]
theorem hideL_length (f : Nat → Bool) (σ : List AObj) : (hideL f σ).length = σ.length := by simp [hideL]
structure Free (P : Program) (fx : Fx) (ops : Array Oper) (is : List Ins) (V : Nat → List AV) (r : Nat → AV) (S : Nat → List AObj) (pd : Nat → List Nat) (ch hd : Nat → Nat → Bool) : Prop where
 back : ∀ i, i < ops.size → ∀ e ∈ dirOf ops i, e < i
 pdlt : ∀ j, j < ops.size → ∀ k ∈ pd j, k < j
 pddir : ∀ j, j < ops.size → ∀ k ∈ pd j, k ∈ dirOf ops j ∨ ∃ e ∈ dirOf ops j, k ∈ pd e
 V0 : (V 0).length = fx.vars.length
 Vs : ∀ j i, is[j]? = some i → V (j + 1) = setD i.dst (V j) (r j)
 le : ∀ j, j < ops.size → (S j).length ≤ (S (j + 1)).length
 nch : ∀ j, j < ops.size → ∀ l, ch j l = false → (S (j + 1))[l]? = (S j)[l]?
 chl : ∀ j, j < ops.size → ∀ l, ch j l = true → l < (S (j + 1)).length
 un : ∀ j k, j < ops.size → k < ops.size → k ≠ j → k ∉ pd j → j ∉ pd k → ∀ l, ch k l = true → hd j l = true
 mine : ∀ j, j < ops.size → ∀ l, ch j l = true → hd j l = false
 made : ∀ j, j < ops.size → ∀ l o, (S j).length ≤ l → (S (j + 1))[l]? = some o → o.live
 rl : ∀ j, j < ops.size → locsIn (S (j + 1)).length (r j) = true
 cl : ∀ j, j < ops.size → ∀ l o, ch j l = true → (S (j + 1))[l]? = some o → objIn (S (j + 1)).length o = true
 rds : ∀ j i, is[j]? = some i → ∀ k, .t k ∈ i.args → k ∈ pd j
 gds : ∀ j i k b, is[j]? = some i → i.gd = some (k, b) → k ∈ pd j
 vrs : ∀ j k i i' x, is[j]? = some i → is[k]? = some i' → j ≠ k → i'.dst = some x → (.v x ∈ i.args ∨ i.dst = some x) → k ∈ pd j ∨ j ∈ pd k
 op : ∀ j i, is[j]? = some i → match gdOk ((List.range j).map r) i.gd with
  | none => False
  | some false => r j = .tup [] ∧ S (j + 1) = S j
  | some true => match i.op, i.args.map (evalO (V j) ((List.range j).map r)) with
   | .prim io, as => stepF io as (hideL (hd j) (S j)) = some (r j, hideL (hd j) (S (j + 1)))
   | .call, fv :: as => CallV P fv as (hideL (hd j) (S j)) fun v σ' => v = r j ∧ σ' = hideL (hd j) (S (j + 1))
   | .call, [] => False
variable {P : Program} {fx : Fx} {ops : Array Oper} {is : List Ins} {V : Nat → List AV} {r : Nat → AV} {S : Nat → List AObj} {pd : Nat → List Nat} {ch hd : Nat → Nat → Bool}
def dstI (is : List Ins) (k i : Nat) : Bool := ((is[k]?).bind (·.dst)) == some i
def vAt (is : List Ins) (r : Nat → AV) (v0 : List AV) (n : Nat) (p : Nat → Bool) (i : Nat) : AV :=
 match lastOf (fun k => p k && dstI is k i) n with
 | some k => r k
 | none => v0.getD i .undef
def oAt (S : Nat → List AObj) (ch : Nat → Nat → Bool) (n : Nat) (p : Nat → Bool) (l : Nat) : Option AObj :=
 match lastOf (fun k => p k && ch k l) n with
 | some k => (S (k + 1))[l]?
 | none => (S 0)[l]?
def hAt (S : Nat → List AObj) (ch : Nat → Nat → Bool) (n : Nat) (p : Nat → Bool) : List AObj :=
 (List.range (S n).length).map fun l => (oAt S ch n p l).getD .dead
theorem hAt_get {n : Nat} {p : Nat → Bool} {l : Nat} (hl : l < (S n).length) : (hAt S ch n p)[l]? = some ((oAt S ch n p l).getD .dead) := by
 simp [hAt, hl]
theorem Free.size (h : Free P fx ops is V r S pd ch hd) (hc : compAll P fx.vars (ops.toList.map (·.dst)) ops.toList = some is) : is.length = ops.size ∧ ∀ (j : Nat) o, ops[j]? = some o → ∃ i, is[j]? = some i ∧ compIns P fx.vars (ops.toList.map (·.dst)) o = some i := by
 rw [compAll_eq] at hc
 have key : ∀ (l : List Oper) (is : List Ins), l.mapM (compIns P fx.vars (ops.toList.map (·.dst))) = some is → is.length = l.length ∧ ∀ (j : Nat) o, l[j]? = some o → ∃ i, is[j]? = some i ∧ compIns P fx.vars (ops.toList.map (·.dst)) o = some i := by
  intro l
  induction l with
  | nil => intro is h; simp at h; subst h; simp
  | cons x l ih =>
   intro is h
   simp only [List.mapM_cons, Option.bind_eq_bind, Option.bind_eq_some_iff, Option.pure_def, Option.some.injEq] at h
   obtain ⟨i, hi, is', his, rfl⟩ := h
   obtain ⟨h1, h2⟩ := ih _ his
   refine ⟨by simp [h1], fun j o hj => ?_⟩
   cases j with
   | zero => simp at hj; subst hj; exact ⟨i, by simp, hi⟩
   | succ j => simp at hj; simpa using h2 j o hj
 obtain ⟨h1, h2⟩ := key _ _ hc
 exact ⟨by simpa using h1, fun j o hj => h2 j o (by simpa using hj)⟩
theorem Free.V_at (h : Free P fx ops is V r S pd ch hd) (hlen : is.length = ops.size) : ∀ j, j ≤ ops.size → (V j).length = fx.vars.length ∧ ∀ i, i < fx.vars.length → (V j).getD i .undef = vAt is r (V 0) ops.size (fun k => decide (k < j)) i
 | 0, _ => by
  refine ⟨h.V0, fun i hi => ?_⟩
  have : lastOf (fun k => decide (k < 0) && dstI is k i) ops.size = none := by
   rw [lastOf_cut (j := 0) (Nat.zero_le _) (by intro k _ _; simp)]; rfl
  simp only [vAt, this]
 | j + 1, hj => by
  obtain ⟨h1, h2⟩ := Free.V_at h hlen j (by omega)
  have hij : is[j]? = some is[j] := List.getElem?_eq_getElem (by omega)
  rw [h.Vs j _ hij]
  constructor
  ·unfold setD; split <;> simp [h1]
  ·intro i hi
   by_cases hd : is[j].dst = some i
   ·have e1 : lastOf (fun k => decide (k < j + 1) && dstI is k i) ops.size = some j := by
     refine lastOf_top (by omega) (by simp [dstI, hij, hd]) fun k hk _ => by simp; omega
    simp only [vAt, e1, hd, setD]
    simp [List.getD, h1, hi]
   ·have e1 : lastOf (fun k => decide (k < j + 1) && dstI is k i) ops.size = lastOf (fun k => decide (k < j) && dstI is k i) ops.size := by
     refine lastOf_congr fun k hk => ?_
     by_cases hkj : k = j
     ·subst hkj; simp [dstI, hij, hd]
     ·have : decide (k < j + 1) = decide (k < j) := by simp; omega
      simp [this]
    have e2 := h2 i hi
    simp only [vAt] at e2 ⊢
    rw [e1, ← e2]
    unfold setD
    split
    ·rename_i x hx
     have : x ≠ i := by rintro rfl; exact hd hx
     simp only [List.getD]; rw [List.getElem?_set_ne this]
    ·rfl
theorem Free.S_at (h : Free P fx ops is V r S pd ch hd) : ∀ j, j ≤ ops.size → ∀ l, (S j)[l]? = oAt S ch ops.size (fun k => decide (k < j)) l
 | 0, _, l => by
  have : lastOf (fun k => decide (k < 0) && ch k l) ops.size = none := by
   rw [lastOf_cut (j := 0) (Nat.zero_le _) (by intro k _ _; simp)]; rfl
  simp only [oAt, this]
 | j + 1, hj, l => by
  cases hc : ch j l with
  | true =>
   have e1 : lastOf (fun k => decide (k < j + 1) && ch k l) ops.size = some j :=
    lastOf_top (by omega) (by simp [hc]) fun k hk _ => by simp; omega
   simp [oAt, e1]
  | false =>
   have e1 : lastOf (fun k => decide (k < j + 1) && ch k l) ops.size = lastOf (fun k => decide (k < j) && ch k l) ops.size := by
    refine lastOf_congr fun k hk => ?_
    by_cases hkj : k = j
    ·subst hkj; simp [hc]
    ·have : decide (k < j + 1) = decide (k < j) := by simp; omega
     simp [this]
   have e2 := Free.S_at h j (by omega) l
   simp only [oAt] at e2 ⊢
   rw [e1, ← e2]; exact h.nch j (by omega) l hc
theorem Free.le' (h : Free P fx ops is V r S pd ch hd) {a b : Nat} (hab : a ≤ b) (hb : b ≤ ops.size) : (S a).length ≤ (S b).length := by
 induction b with
 | zero => have : a = 0 := by omega
           subst this; exact Nat.le_refl _
 | succ b ih =>
  by_cases e : a = b + 1
  ·subst e; exact Nat.le_refl _
  ·exact Nat.le_trans (ih (by omega) (by omega)) (h.le b (by omega))
structure Inv (fx : Fx) (ops : Array Oper) (is : List Ins) (V : Nat → List AV) (r : Nat → AV) (S : Nat → List AObj) (pd : Nat → List Nat) (ch : Nat → Nat → Bool) (X : Nat → Prop) (en : En) (D : List Nat) (m : LM) (ac : Act) (w : World) : Prop where
 inn : ∀ k ∈ D, k < ops.size
 clos : ∀ k ∈ D, ∀ e ∈ pd k, e ∈ D
 size : ac.tmps.size = fx.N
 vars : ∀ i t, fx.vars[i]? = some t → VRel m X w (vAt is r (V 0) ops.size (fun k => decide (k ∈ D)) i) (ac.tmps.getD t Go.undef)
 tmps : ∀ k ∈ D, ∀ t, (ops.toList[k]?).bind (·.dst) = some t → t ∉ fx.vars → VRel m X w (r k) (ac.tmps.getD t Go.undef)
 defs : DRel m X en w ac.defers
 heap : HRel m X (hAt S ch ops.size fun k => decide (k ∈ D)) w
 fresh : ∀ l, (S 0).length ≤ l → (∀ k ∈ D, ¬ ((S k).length ≤ l ∧ l < (S (k + 1)).length)) → m l = none
 entry : en.n ≤ w.heap.size
theorem sameAt {p : Nat → Bool} {D : List Nat} {j n : Nat} {pd : Nat → List Nat} (hn : j < n) (hpdlt : ∀ j, j < n → ∀ k ∈ pd j, k < j) (hclos : ∀ k ∈ D, ∀ e ∈ pd k, e ∈ D) (hjD : j ∉ D) (hpj : ∀ e ∈ pd j, e ∈ D)
  (hord : ∀ k, k < n → p k = true → k ≠ j → k ∈ pd j ∨ j ∈ pd k) (hself : p j = true → False ∨ True) :
  ∀ k, k < n → k ≠ j → (decide (k ∈ D) && p k) = (decide (k < j) && p k) := by
 intro k hk hkj
 cases hp : p k with
 | false => simp
 | true =>
  simp only [Bool.and_true]
  rcases hord k hk hp hkj with h1 | h1
  ·have := hpdlt j hn k h1; simp [hpj k h1, this]
  ·have h2 := hpdlt k hk j h1
   have h3 : k ∉ D := fun hkD => hjD (hclos k hkD j h1)
   simp [h3]; omega
theorem Free.vEq (h : Free P fx ops is V r S pd ch hd) (hlen : is.length = ops.size) {D : List Nat} {j : Nat} {i0 : Ins} {x : Nat} (hj : is[j]? = some i0) (hclos : ∀ k ∈ D, ∀ e ∈ pd k, e ∈ D) (hjD : j ∉ D) (hpj : ∀ e ∈ pd j, e ∈ D)
  (hx : .v x ∈ i0.args ∨ i0.dst = some x) : vAt is r (V 0) ops.size (fun k => decide (k ∈ D)) x = vAt is r (V 0) ops.size (fun k => decide (k < j)) x := by
 have hjn : j < ops.size := by rw [← hlen]; exact (List.getElem?_eq_some_iff.1 hj).1
 have : lastOf (fun k => decide (k ∈ D) && dstI is k x) ops.size = lastOf (fun k => decide (k < j) && dstI is k x) ops.size := by
  refine lastOf_congr fun k hk => ?_
  by_cases hkj : k = j
  ·subst hkj; simp [hjD]
  ·refine sameAt (p := fun k => dstI is k x) hjn h.pdlt hclos hjD hpj ?_ (fun _ => .inr trivial) k hk hkj
   intro k hk hp hkj
   have hik : is[k]? = some is[k] := List.getElem?_eq_getElem (by omega)
   have hd : is[k].dst = some x := by simpa [dstI, hik] using hp
   exact h.vrs j k i0 _ x hj hik (Ne.symm hkj) hd hx
 simp only [vAt, this]
theorem Free.oEq (h : Free P fx ops is V r S pd ch hd) {D : List Nat} {j l : Nat} (hjn : j < ops.size) (hin : ∀ k ∈ D, k < ops.size) (hclos : ∀ k ∈ D, ∀ e ∈ pd k, e ∈ D) (hjD : j ∉ D) (hpj : ∀ e ∈ pd j, e ∈ D)
  (hl : hd j l = false) : oAt S ch ops.size (fun k => decide (k ∈ D)) l = oAt S ch ops.size (fun k => decide (k < j)) l := by
 have : lastOf (fun k => decide (k ∈ D) && ch k l) ops.size = lastOf (fun k => decide (k < j) && ch k l) ops.size := by
  refine lastOf_congr fun k hk => ?_
  by_cases hkj : k = j
  ·subst hkj; simp [hjD]
  ·refine sameAt (p := fun k => ch k l) hjn h.pdlt hclos hjD hpj ?_ (fun _ => .inr trivial) k hk hkj
   intro k hk hp hkj
   by_cases h1 : k ∈ pd j
   ·exact .inl h1
   ·by_cases h2 : j ∈ pd k
    ·exact .inr h2
    ·have := h.un j k hjn hk hkj h1 h2 l hp; rw [hl] at this; cases this
 simp only [oAt, this]
theorem Free.closedAt (h : Free P fx ops is V r S pd ch hd) (h0 : ∀ (l : Nat) o, (S 0)[l]? = some o → objIn (S 0).length o = true) (mono : ∀ (a b : Nat) o, a ≤ b → objIn a o = true → objIn b o = true) : ∀ j, j ≤ ops.size → ∀ (l : Nat) o, (S j)[l]? = some o → objIn (S j).length o = true
 | 0, _, l, o, ho => h0 l o ho
 | j + 1, hj, l, o, ho => by
  cases hc : ch j l with
  | true => exact h.cl j (by omega) l o hc ho
  | false =>
   rw [h.nch j (by omega) l hc] at ho
   exact mono _ _ o (h.le j (by omega)) (Free.closedAt h h0 mono j (by omega) l o ho)
mutual
theorem locsIn_mono {a b : Nat} (hab : a ≤ b) : ∀ v : AV, locsIn a v = true → locsIn b v = true
 | .cv _, _ => rfl
 | .ptr l _, h => by simp only [locsIn, decide_eq_true_eq] at h ⊢; omega
 | .sl l _ _ _, h => by simp only [locsIn, decide_eq_true_eq] at h ⊢; omega
 | .map l, h => by simp only [locsIn, decide_eq_true_eq] at h ⊢; omega
 | .fn _ cs, h => by simp only [locsIn] at h ⊢; exact locsInAll_mono hab cs h
 | .bm _ cs, h => by simp only [locsIn] at h ⊢; exact locsInAll_mono hab cs h
 | .yld l, h => by simp only [locsIn, decide_eq_true_eq] at h ⊢; omega
 | .agg cs, h => by simp only [locsIn] at h ⊢; exact locsInAll_mono hab cs h
 | .tup cs, h => by simp only [locsIn] at h ⊢; exact locsInAll_mono hab cs h
 | .undef, _ => rfl
 | .slc l _ _ _ _, h => by simp only [locsIn, decide_eq_true_eq] at h ⊢; omega
theorem locsInAll_mono {a b : Nat} (hab : a ≤ b) : ∀ vs : List AV, locsInAll a vs = true → locsInAll b vs = true
 | [], _ => rfl
 | v :: vs, h => by simp only [locsInAll, Bool.and_eq_true] at h ⊢; exact ⟨locsIn_mono hab v h.1, locsInAll_mono hab vs h.2⟩
end
theorem objIn_mono (a b : Nat) (o : AObj) (hab : a ≤ b) (h : objIn a o = true) : objIn b o = true := by
 cases o with
 | dead => rfl
 | cells cs => exact locsInAll_mono hab cs h
 | map es =>
  simp only [objIn, List.all_eq_true, Bool.and_eq_true] at h ⊢
  exact fun e he => ⟨locsIn_mono hab _ (h e he).1, locsIn_mono hab _ (h e he).2⟩
 | siter _ _ => rfl
 | loop r => exact locsInAll_mono hab _ h
mutual
theorem VRel.locs {m : LM} {X : Nat → Prop} {w : World} {n : Nat} (hm : ∀ l b, m l = some b → l < n) : ∀ (a : AV) (v : Value), VRel m X w a v → locsIn n a = true
 | .cv _, _, _ => rfl
 | .ptr l _, v, h => by simp only [VRel] at h; obtain ⟨b, h1, _⟩ := h; simpa [locsIn] using hm _ _ h1
 | .sl l _ _ _, v, h => by simp only [VRel] at h; obtain ⟨b, c, h1, _⟩ := h; simpa [locsIn] using hm _ _ h1
 | .map l, v, h => by simp only [VRel] at h; obtain ⟨b, h1, _⟩ := h; simpa [locsIn] using hm _ _ h1
 | .fn _ cs, v, h => by simp only [VRel] at h; obtain ⟨vs, _, h2⟩ := h; simp only [locsIn]; exact VRels.locs hm cs vs h2
 | .bm _ cs, v, h => by simp only [VRel] at h; obtain ⟨vs, _, h2⟩ := h; simp only [locsIn]; exact VRels.locs hm cs vs h2
 | .yld l, v, h => by simp only [VRel] at h; obtain ⟨b, h1, _⟩ := h; simpa [locsIn] using hm _ _ h1
 | .agg cs, v, h => by simp only [VRel] at h; obtain ⟨vs, _, h2⟩ := h; simp only [locsIn]; exact VRels.locs hm cs vs h2
 | .tup cs, v, h => by simp only [VRel] at h; obtain ⟨vs, _, h2⟩ := h; simp only [locsIn]; exact VRels.locs hm cs vs h2
 | .undef, _, _ => rfl
 | .slc l _ _ _ _, v, h => by simp only [VRel] at h; obtain ⟨b, h1, _⟩ := h; simpa [locsIn] using hm _ _ h1
theorem VRels.locs {m : LM} {X : Nat → Prop} {w : World} {n : Nat} (hm : ∀ l b, m l = some b → l < n) : ∀ (as : List AV) (vs : List Value), VRels m X w as vs → locsInAll n as = true
 | [], [], _ => rfl
 | a :: as, v :: vs, h => by simp only [VRels] at h; simp only [locsInAll, Bool.and_eq_true]; exact ⟨VRel.locs hm a v h.1, VRels.locs hm as vs h.2⟩
 | [], _ :: _, h => by simp [VRels] at h
 | _ :: _, [], h => by simp [VRels] at h
end
theorem CV.rep_less {w : World} {O O' : Nat → Prop} (h : ∀ b, O' b → O b) (c : CV) (v : Value) (hr : c.rep w O v) : c.rep w O' v :=
 CV.rep_mono (fun b hb _ => ⟨rfl, fun ho => hb (h b ho)⟩) c v hr
mutual
theorem VRel.less {m m' : LM} {X X' : Nat → Prop} {w : World} {k : Nat} (hm : ∀ l, l < k → m' l = m l) (ho : ∀ b, Own m' X' b → Own m X b) : ∀ (a : AV) (v : Value), locsIn k a = true → VRel m X w a v → VRel m' X' w a v
 | .cv c, v, _, h => by simp only [VRel] at h ⊢; exact CV.rep_less ho c v h
 | .ptr l off, v, hk, h => by simp only [VRel, locsIn, decide_eq_true_eq] at h hk ⊢; rw [hm l hk]; exact h
 | .sl l off len esz, v, hk, h => by simp only [VRel, locsIn, decide_eq_true_eq] at h hk ⊢; rw [hm l hk]; exact h
 | .map l, v, hk, h => by simp only [VRel, locsIn, decide_eq_true_eq] at h hk ⊢; rw [hm l hk]; exact h
 | .fn f cs, v, hk, h => by simp only [VRel, locsIn] at h hk ⊢; obtain ⟨vs, h1, h2⟩ := h; exact ⟨vs, h1, VRels.less hm ho cs vs hk h2⟩
 | .bm f cs, v, hk, h => by simp only [VRel, locsIn] at h hk ⊢; obtain ⟨vs, h1, h2⟩ := h; exact ⟨vs, h1, VRels.less hm ho cs vs hk h2⟩
 | .yld l, v, hk, h => by simp only [VRel, locsIn, decide_eq_true_eq] at h hk ⊢; rw [hm l hk]; exact h
 | .agg cs, v, hk, h => by simp only [VRel, locsIn] at h hk ⊢; obtain ⟨vs, h1, h2⟩ := h; exact ⟨vs, h1, VRels.less hm ho cs vs hk h2⟩
 | .tup cs, v, hk, h => by simp only [VRel, locsIn] at h hk ⊢; obtain ⟨vs, h1, h2⟩ := h; exact ⟨vs, h1, VRels.less hm ho cs vs hk h2⟩
 | .undef, v, _, _ => by simp [VRel]
 | .slc l off len cap esz, v, hk, h => by simp only [VRel, locsIn, decide_eq_true_eq] at h hk ⊢; rw [hm l hk]; exact h
theorem VRels.less {m m' : LM} {X X' : Nat → Prop} {w : World} {k : Nat} (hm : ∀ l, l < k → m' l = m l) (ho : ∀ b, Own m' X' b → Own m X b) : ∀ (as : List AV) (vs : List Value), locsInAll k as = true → VRels m X w as vs → VRels m' X' w as vs
 | [], [], _, _ => by simp [VRels]
 | a :: as, v :: vs, hk, h => by simp only [VRels, locsInAll, Bool.and_eq_true] at h hk ⊢; exact ⟨VRel.less hm ho a v hk.1 h.1, VRels.less hm ho as vs hk.2 h.2⟩
 | [], _ :: _, _, h => by simp [VRels] at h
 | _ :: _, [], _, h => by simp [VRels] at h
end
theorem ORel.less {m m' : LM} {X X' : Nat → Prop} {w : World} {k : Nat} (hm : ∀ l, l < k → m' l = m l) (ho : ∀ b, Own m' X' b → Own m X b) {b : Option Nat} {o : AObj} (hk : objIn k o = true) (h : ORel m X w b o) : ORel m' X' w b o := by
 cases b with
 | none => cases o <;> simp [ORel] at h ⊢
 | some b =>
  cases o with
  | dead => trivial
  | cells cs =>
   simp only [ORel, objIn] at h hk ⊢
   obtain ⟨c, e, h1, h2, h3⟩ := h
   exact ⟨c, e, h1, h2, VRels.less hm ho _ _ hk h3⟩
  | map es =>
   simp only [ORel, objIn] at h hk ⊢
   obtain ⟨ces, clock, h1, h2, h3, h4, h5⟩ := h
   refine ⟨ces, clock, h1, h2, h3, h4, fun i kk a hi => ?_⟩
   obtain ⟨e, he, g1, g2⟩ := h5 i kk a hi
   rw [List.all_eq_true] at hk
   have := hk _ (List.mem_of_getElem? hi)
   simp only [Bool.and_eq_true] at this
   exact ⟨e, he, VRel.less hm ho _ _ this.1 g1, VRel.less hm ho _ _ this.2 g2⟩
  | siter s0 p => exact h
  | loop r =>
   simp only [ORel, objIn] at h hk ⊢
   obtain ⟨tmps, d, fi, h1, h2, h3⟩ := h
   exact ⟨tmps, d, fi, h1, fun i t hi => VRel.less hm ho _ _ (locsInAll_getD hk i) (h2 i t hi), h3⟩
theorem locsInAll_of {k : Nat} : ∀ {as : List AV}, (∀ i, i < as.length → locsIn k (as.getD i .undef) = true) → locsInAll k as = true
 | [], _ => rfl
 | a :: as, h => by
  simp only [locsInAll, Bool.and_eq_true]
  exact ⟨by simpa using h 0 (by simp), locsInAll_of fun i hi => by simpa using h (i + 1) (by simpa using hi)⟩
theorem HRel.closed {m : LM} {X : Nat → Prop} {σ : List AObj} {w : World} (h : HRel m X σ w) (l : Nat) (o : AObj) (ho : σ[l]? = some o) : objIn σ.length o = true := by
 have hm : ∀ l b, m l = some b → l < σ.length := fun l b hl => (h.dom l b hl).1
 have hr := h.obj l o ho
 cases hb : m l with
 | none => rw [hb] at hr; cases o <;> simp [ORel] at hr; rfl
 | some b =>
  rw [hb] at hr
  cases o with
  | dead => rfl
  | cells cs => simp only [ORel] at hr; obtain ⟨c, e, _, _, h3⟩ := hr; exact VRels.locs hm _ _ h3
  | map es =>
   simp only [ORel] at hr; obtain ⟨ces, clock, _, _, _, _, h5⟩ := hr
   simp only [objIn, List.all_eq_true, Bool.and_eq_true]
   rintro ⟨kk, a⟩ he
   obtain ⟨i, hi⟩ := List.getElem?_of_mem he
   obtain ⟨e, _, g1, g2⟩ := h5 i kk a hi
   exact ⟨VRel.locs hm _ _ g1, VRel.locs hm _ _ g2⟩
  | siter _ _ => rfl
  | loop r =>
   simp only [ORel] at hr; obtain ⟨tmps, d, fi, h1, h2, h3, h4⟩ := hr
   exact locsInAll_of fun i hi => VRel.locs hm _ _ (h2 i r.vars[i] (List.getElem?_eq_getElem (by omega)))
end Go.Proofs.YtpnghcaccfnngaaGreatDoor.AM
namespace Go.Proofs.YtpnghcaccfnngaaGreatDoor.AM
set_option linter.unusedSectionVars false
variable [Dr]
open Go
set_option linter.unusedVariables false
set_option linter.unusedSimpArgs false
theorem dst_inj {vars : List Nat} {u : Nat} (huv : u ∉ vars) : ∀ (l : List Oper), ((l.filterMap (·.dst)).filter fun t => !vars.contains t).Nodup → ∀ (a b : Nat), (l[a]?).bind (fun o : Oper => o.dst) = some u → (l[b]?).bind (fun o : Oper => o.dst) = some u → a = b := by
 intro l
 induction l with
 | nil => intro _ a b h; simp at h
 | cons x l ih =>
  intro hn a b h1 h2
  have hmem : ∀ (q : Nat), (l[q]?).bind (fun o : Oper => o.dst) = some u → u ∈ (l.filterMap (·.dst)).filter fun t => !vars.contains t := by
   intro q hq
   cases hlq : l[q]? with
   | none => rw [hlq] at hq; simp at hq
   | some y =>
    rw [hlq] at hq
    refine List.mem_filter.2 ⟨List.mem_filterMap.2 ⟨y, List.mem_of_getElem? hlq, by simpa using hq⟩, by simpa using huv⟩
  cases hx : x.dst with
  | none =>
   simp only [List.filterMap_cons, hx] at hn
   cases a with
   | zero => simp [hx] at h1
   | succ a => cases b with
    | zero => simp [hx] at h2
    | succ b => simp at h1 h2; rw [ih hn a b h1 h2]
  | some tx =>
   simp only [List.filterMap_cons, hx] at hn
   have hn' : ((l.filterMap (·.dst)).filter fun t => !vars.contains t).Nodup := by
    rw [List.filter_cons] at hn; split at hn
    ·exact (List.nodup_cons.1 hn).2
    ·exact hn
   have hno : tx = u → ∀ q : Nat, (l[q]?).bind (fun o : Oper => o.dst) = some u → False := by
    rintro rfl q hq
    rw [List.filter_cons, if_pos (by simpa using huv)] at hn
    exact (List.nodup_cons.1 hn).1 (hmem q hq)
   cases a with
   | zero =>
    cases b with
    | zero => rfl
    | succ b => simp [hx] at h1; simp at h2; exact (hno h1 b h2).elim
   | succ a =>
    cases b with
    | zero => simp [hx] at h2; simp at h1; exact (hno h2 a h1).elim
    | succ b => simp at h1 h2; rw [ih hn' a b h1 h2]
variable {P : Program} {fx : Fx} {ops : Array Oper} {is : List Ins} {V : Nat → List AV} {r : Nat → AV} {S : Nat → List AObj} {pd : Nat → List Nat} {ch hd : Nat → Nat → Bool}
variable {m : LM} {X : Nat → Prop} {en : En} {w : World} {D : List Nat} {ac : Act} {j : Nat}
def mAt (S : Nat → List AObj) (j : Nat) (m : LM) : LM := fun l => if l < (S j).length then m l else none
def xAt (S : Nat → List AObj) (ch hd : Nat → Nat → Bool) (n : Nat) (D : List Nat) (j : Nat) (m : LM) (X : Nat → Prop) : Nat → Prop := fun b =>
 X b ∨ ∃ l, m l = some b ∧ ((S j).length ≤ l ∨ (hd j l = true ∧ ∃ o, (hAt S ch n fun k => decide (k ∈ D))[l]? = some o ∧ o.live))
theorem mAt_some {l b : Nat} (h : mAt S j m l = some b) : l < (S j).length ∧ m l = some b := by
 unfold mAt at h; split at h
 ·exact ⟨by assumption, h⟩
 ·cases h
theorem own_at {b : Nat} (h : Own (mAt S j m) (xAt S ch hd ops.size D j m X) b) : Own m X b := by
 rcases h with (h | ⟨l, h, _⟩) | ⟨l, h⟩
 ·exact .inl h
 ·exact .inr ⟨l, h⟩
 ·exact .inr ⟨l, (mAt_some h).2⟩
theorem Inv.restrict (h : Free P fx ops is V r S pd ch hd) (inv : Inv fx ops is V r S pd ch X en D m ac w) (hcl0 : ∀ (l : Nat) o, (S 0)[l]? = some o → objIn (S 0).length o = true)
  (hjn : j < ops.size) (hjD : j ∉ D) (hpj : ∀ e ∈ pd j, e ∈ D) : HRel (mAt S j m) (xAt S ch hd ops.size D j m X) (hideL (hd j) (S j)) w := by
 have hle := h.le' (show j ≤ ops.size by omega) (Nat.le_refl _)
 have obj : ∀ (l : Nat) o, (S j)[l]? = some o → hd j l = false → (hAt S ch ops.size fun k => decide (k ∈ D))[l]? = some o := by
  intro l o hl hh
  have hlt : l < (S j).length := (List.getElem?_eq_some_iff.1 hl).1
  rw [hAt_get (by omega), h.oEq hjn inv.inn inv.clos hjD hpj hh, ← h.S_at j (by omega), hl]; rfl
 refine ⟨?_, ?_, ?_, ?_, ?_⟩
 ·rintro b (hb | ⟨l, hb, _⟩)
  ·exact inv.heap.xb b hb
  ·exact (inv.heap.dom l b hb).2
 ·intro l b hb
  obtain ⟨h1, h2⟩ := mAt_some hb
  exact ⟨by rw [hideL_length]; exact h1, (inv.heap.dom l b h2).2⟩
 ·intro l b o hb ho hv
  obtain ⟨h1, h2⟩ := mAt_some hb
  rw [hideL_get, Option.map_eq_some_iff] at ho
  obtain ⟨o0, ho0, he⟩ := ho
  cases hh : hd j l with
  | true => rw [hh] at he; simp at he; subst he; exact hv.elim
  | false =>
   rw [hh] at he; simp at he; subst he
   have hD := obj l o0 ho0 hh
   rintro (hx | ⟨l', hl', hc⟩)
   ·exact inv.heap.own l b o0 h2 hD hv hx
   ·rcases hc with hc | ⟨hc1, o', hc2, hc3⟩
    ·have := inv.heap.inj l' l b o0 hl' h2 hD hv; omega
    ·have := inv.heap.inj2 l l' b o0 o' h2 hl' hD hc2 hv hc3
     subst this; rw [hh] at hc1; cases hc1
 ·intro l l' b o' hb hb' ho hv
  obtain ⟨h1, h2⟩ := mAt_some hb
  obtain ⟨h3, h4⟩ := mAt_some hb'
  rw [hideL_get, Option.map_eq_some_iff] at ho
  obtain ⟨o0, ho0, he⟩ := ho
  cases hh : hd j l' with
  | true => rw [hh] at he; simp at he; subst he; exact hv.elim
  | false =>
   rw [hh] at he; simp at he; subst he
   exact inv.heap.inj l l' b o0 h2 h4 (obj l' o0 ho0 hh) hv
 ·intro l o ho
  rw [hideL_get, Option.map_eq_some_iff] at ho
  obtain ⟨o0, ho0, he⟩ := ho
  cases hh : hd j l with
  | true => rw [hh] at he; simp at he; subst he; simp [ORel]
  | false =>
   rw [hh] at he; simp at he; subst he
   have hlt : l < (S j).length := (List.getElem?_eq_some_iff.1 ho0).1
   have hr := inv.heap.obj l o0 (obj l o0 ho0 hh)
   have e1 : mAt S j m l = m l := by simp [mAt, hlt]
   rw [e1]
   exact ORel.less (k := (S j).length) (fun x hx => by simp [mAt, hx]) (fun b hb => own_at hb) (h.closedAt hcl0 objIn_mono j (by omega) l o0 ho0) hr
theorem Inv.step (h : Free P fx ops is V r S pd ch hd) (hlen : is.length = ops.size) (hok : regOk fx.vars fx.N ops.toList = true) (inv : Inv fx ops is V r S pd ch X en D m ac w) (hn0 : fx.n0 ≤ (S 0).length)
  (hjn : j < ops.size) (hjD : j ∉ D) (hpj : ∀ e ∈ pd j, e ∈ D) {o : Oper} {i0 : Ins} (ho : ops[j]? = some o) (hi0 : is[j]? = some i0) (hdst : i0.dst = compDst fx.vars o.dst)
  {mj : LM} {w' : World} {c : Value} (hh : HRel mj (xAt S ch hd ops.size D j m X) (hideL (hd j) (S (j + 1))) w') (hst : Step (S j).length (mAt S j m) (xAt S ch hd ops.size D j m X) w mj w')
  (hv : VRel mj (xAt S ch hd ops.size D j m X) w' (r j) c) : ∃ m', Inv fx ops is V r S pd ch X en (j :: D) m' (ac.put o.dst c) w' ∧ Step fx.n0 m X w m' w' := by
 have hle := h.le j hjn
 have hleN := h.le' (show j + 1 ≤ ops.size by omega) (Nat.le_refl _)
 have hle0 := h.le' (Nat.zero_le j) (by omega)
 let m' : LM := fun l => if (S j).length ≤ l ∧ l < (S (j + 1)).length then mj l else m l
 have m'new : ∀ l, (S j).length ≤ l → l < (S (j + 1)).length → m' l = mj l := fun l h1 h2 => by simp [m', h1, h2]
 have m'old : ∀ l, ¬ ((S j).length ≤ l ∧ l < (S (j + 1)).length) → m' l = m l := fun l h1 => by simp only [m', if_neg h1]
 have keepj : ∀ l, l < (S j).length → mj l = m l := fun l hl => by rw [hst.keep l hl]; simp [mAt, hl]
 have m'lo : ∀ l, l < (S (j + 1)).length → m' l = mj l := fun l hl => by
  by_cases h1 : (S j).length ≤ l
  ·exact m'new l h1 hl
  ·rw [m'old l (by omega), keepj l (by omega)]
 have xsub : ∀ b, X b → xAt S ch hd ops.size D j m X b := fun b hb => .inl hb
 have xlate : ∀ l b, m l = some b → (S j).length ≤ l → xAt S ch hd ops.size D j m X b := fun l b h1 h2 => .inr ⟨l, h1, .inl h2⟩
 have fresh : ∀ l, (S j).length ≤ l → l < (S (j + 1)).length → m l = none := fun l h1 h2 => by
  refine inv.fresh l (by omega) fun k hk hc => ?_
  have hkn := inv.inn k hk
  rcases Nat.lt_trichotomy k j with hlt | he | hgt
  ·have := h.le' (show k + 1 ≤ j by omega) (by omega); omega
  ·subst he; exact hjD hk
  ·have := h.le' (show j + 1 ≤ k by omega) (by omega); omega
 have hmj : ∀ l b, mAt S j m l = some b → m l = some b := fun l b hb => (mAt_some hb).2
 have hst' : Step fx.n0 m X w m' w' :=
  {keep := fun l hl => m'old l (by omega)
   new := fun l b hb => by
    by_cases hr : (S j).length ≤ l ∧ l < (S (j + 1)).length
    ·rw [m'new l hr.1 hr.2] at hb
     rcases hst.new l b hb with ⟨l', hl'⟩ | hge
     ·exact .inl ⟨l', hmj _ _ hl'⟩
     ·exact .inr hge
    ·rw [m'old l hr] at hb; exact .inl ⟨l, hb⟩
   size := hst.size
   fr := fun b hb hno => hst.fr b hb (hno.imp (xsub b) fun hno l hl => hno l (hmj _ _ hl))
   shp := hst.shp, os := hst.os, tape := hst.tape, output := hst.output, drawn := hst.drawn }
 have MM : Mono m X w m' X w' :=
  {sub := fun l b hb => by
    by_cases hr : (S j).length ≤ l ∧ l < (S (j + 1)).length
    ·rw [fresh l hr.1 hr.2] at hb; cases hb
    ·rw [m'old l hr]; exact hb
   cl := fun b hb hc => by
    refine ⟨hst.fr b hc.lt (.inr fun l hl => hb (.inr ⟨l, hmj _ _ hl⟩)), ?_⟩
    rintro (hx | ⟨l, hl⟩)
    ·exact hb (.inl hx)
    ·rcases hst'.new l b hl with ⟨l', hl'⟩ | hge
     ·exact hb (.inr ⟨l', hl'⟩)
     ·have := hc.lt; omega
   shp := hst.shp }
 have hjdom : ∀ l b, mj l = some b → l < (S (j + 1)).length := fun l b hb => by have := (hh.dom l b hb).1; rwa [hideL_length] at this
 have MJ : Mono mj (xAt S ch hd ops.size D j m X) w' m' X w' :=
  {sub := fun l b hb => by rw [m'lo l (hjdom l b hb)]; exact hb
   cl := fun b hb hc => by
    refine ⟨rfl, ?_⟩
    rintro (hx | ⟨l, hl⟩)
    ·exact hb (.inl (xsub b hx))
    ·by_cases hlt : l < (S (j + 1)).length
     ·rw [m'lo l hlt] at hl; exact hb (.inr ⟨l, hl⟩)
     ·rw [m'old l (by omega)] at hl; exact hb (.inl (xlate l b hl (by omega)))
   shp := fun b c e hb => ⟨c, hb, rfl⟩ }
 have chNew : ∀ l, (S j).length ≤ l → l < (S (j + 1)).length → ch j l = true := fun l h1 h2 => by
  cases hc : ch j l with
  | true => rfl
  | false =>
   have := h.nch j hjn l hc
   rw [List.getElem?_eq_none h1, List.getElem?_eq_getElem h2] at this; cases this
 have oCh : ∀ l, ch j l = true → oAt S ch ops.size (fun k => decide (k ∈ j :: D)) l = (S (j + 1))[l]? := fun l hc => by
  have : lastOf (fun k => decide (k ∈ j :: D) && ch k l) ops.size = some j := by
   refine lastOf_top hjn (by simp [hc]) fun k hk hkn => ?_
   cases hck : ch k l with
   | false => simp
   | true =>
    simp only [Bool.and_true, decide_eq_false_iff_not, List.mem_cons, not_or]
    refine ⟨by omega, fun hkD => ?_⟩
    by_cases h1 : k ∈ pd j
    ·have := h.pdlt j hjn k h1; omega
    ·by_cases h2 : j ∈ pd k
     ·exact hjD (inv.clos k hkD j h2)
     ·have := h.un j k hjn hkn (by omega) h1 h2 l hck
      rw [h.mine j hjn l hc] at this; cases this
  simp only [oAt, this]
 have oNc : ∀ l, ch j l = false → oAt S ch ops.size (fun k => decide (k ∈ j :: D)) l = oAt S ch ops.size (fun k => decide (k ∈ D)) l := fun l hc => by
  have : lastOf (fun k => decide (k ∈ j :: D) && ch k l) ops.size = lastOf (fun k => decide (k ∈ D) && ch k l) ops.size := by
   refine lastOf_congr fun k hk => ?_
   by_cases hkj : k = j
   ·subst hkj; simp [hc]
   ·simp [hkj]
  simp only [oAt, this]
 have oA : ∀ l, l < (S (j + 1)).length → hd j l = false → oAt S ch ops.size (fun k => decide (k ∈ j :: D)) l = (S (j + 1))[l]? := fun l hl hdl => by
  cases hc : ch j l with
  | true => exact oCh l hc
  | false => rw [oNc l hc, h.oEq hjn inv.inn inv.clos hjD hpj hdl, ← h.S_at j (by omega), h.nch j hjn l hc]
 have getA : ∀ l o1, l < (S (j + 1)).length → hd j l = false → (hAt S ch ops.size fun k => decide (k ∈ j :: D))[l]? = some o1 → (hideL (hd j) (S (j + 1)))[l]? = some o1 := fun l o1 hl hdl ho1 => by
  rw [hAt_get (by omega), oA l hl hdl, List.getElem?_eq_getElem hl] at ho1
  rw [hideL_get, List.getElem?_eq_getElem hl]
  simpa [hdl] using ho1
 have getB : ∀ l o1, ch j l = false → (hAt S ch ops.size fun k => decide (k ∈ j :: D))[l]? = some o1 → (hAt S ch ops.size fun k => decide (k ∈ D))[l]? = some o1 := fun l o1 hc ho1 => by
  have hl : l < (S ops.size).length := by have := (List.getElem?_eq_some_iff.1 ho1).1; simpa [hAt] using this
  rw [hAt_get hl, oNc l hc] at ho1
  rw [hAt_get hl]; exact ho1
 have kinds : ∀ l, (l < (S (j + 1)).length ∧ hd j l = false) ∨ (l < (S j).length ∧ hd j l = true ∧ ch j l = false) ∨ ((S (j + 1)).length ≤ l ∧ ch j l = false) := fun l => by
  by_cases hl : l < (S (j + 1)).length
  ·cases hdl : hd j l with
   | false => exact .inl ⟨hl, rfl⟩
   | true =>
    have hc : ch j l = false := by
     cases hc : ch j l with
     | false => rfl
     | true => rw [h.mine j hjn l hc] at hdl; cases hdl
    by_cases hl2 : l < (S j).length
    ·exact .inr (.inl ⟨hl2, rfl, hc⟩)
    ·rw [chNew l (by omega) hl] at hc; cases hc
  ·refine .inr (.inr ⟨by omega, ?_⟩)
   cases hc : ch j l with
   | false => rfl
   | true => have := h.chl j hjn l hc; omega
 have hheap : HRel m' X (hAt S ch ops.size fun k => decide (k ∈ j :: D)) w' := by
  refine ⟨fun b hb => Nat.lt_of_lt_of_le (inv.heap.xb b hb) hst.size, ?_, ?_, ?_, ?_⟩
  ·intro l b hb
   by_cases hr : (S j).length ≤ l ∧ l < (S (j + 1)).length
   ·rw [m'new l hr.1 hr.2] at hb
    have := hh.dom l b hb
    exact ⟨by simp [hAt]; omega, this.2⟩
   ·rw [m'old l hr] at hb
    have := inv.heap.dom l b hb
    refine ⟨by simpa [hAt] using this.1, Nat.lt_of_lt_of_le this.2 hst.size⟩
  ·intro l b o1 hb ho1 hv1
   rcases kinds l with ⟨h1, h2⟩ | ⟨h1, h2, h3⟩ | ⟨h1, h3⟩
   ·rw [m'lo l h1] at hb
    exact fun hx => hh.own l b o1 hb (getA l o1 h1 h2 ho1) hv1 (xsub b hx)
   ·rw [m'old l (by omega)] at hb; exact inv.heap.own l b o1 hb (getB l o1 h3 ho1) hv1
   ·rw [m'old l (by omega)] at hb; exact inv.heap.own l b o1 hb (getB l o1 h3 ho1) hv1
  ·intro l l' b o1 hb hb' ho1 hv1
   rcases kinds l' with ⟨h1, h2⟩ | ⟨h1, h2, h3⟩ | ⟨h1, h3⟩
   ·rw [m'lo l' h1] at hb'
    have hg := getA l' o1 h1 h2 ho1
    by_cases hl : l < (S (j + 1)).length
    ·rw [m'lo l hl] at hb; exact hh.inj l l' b o1 hb hb' hg hv1
    ·rw [m'old l (by omega)] at hb
     exact absurd (xlate l b hb (by omega)) (hh.own l' b o1 hb' hg hv1)
   ·rw [m'old l' (by omega)] at hb'
    have hg := getB l' o1 h3 ho1
    by_cases hr : (S j).length ≤ l ∧ l < (S (j + 1)).length
    ·exfalso
     rw [m'new l hr.1 hr.2] at hb
     have hlo : (S (j + 1))[l]? = some (S (j + 1))[l] := List.getElem?_eq_getElem hr.2
     have hlive := h.made j hjn l _ hr.1 hlo
     have hdl := h.mine j hjn l (chNew l hr.1 hr.2)
     exact hh.own l b _ hb (by rw [hideL_get, hlo]; simp [hdl]) hlive (.inr ⟨l', hb', .inr ⟨h2, o1, hg, hv1⟩⟩)
    ·rw [m'old l hr] at hb; exact inv.heap.inj l l' b o1 hb hb' hg hv1
   ·rw [m'old l' (by omega)] at hb'
    have hg := getB l' o1 h3 ho1
    by_cases hr : (S j).length ≤ l ∧ l < (S (j + 1)).length
    ·omega
    ·rw [m'old l hr] at hb; exact inv.heap.inj l l' b o1 hb hb' hg hv1
  ·intro l o1 ho1
   rcases kinds l with ⟨h1, h2⟩ | ⟨h1, h2, h3⟩ | ⟨h1, h3⟩
   ·have hr := hh.obj l o1 (getA l o1 h1 h2 ho1)
    rw [m'lo l h1]
    cases hb : mj l with
    | none => rw [hb] at hr; cases o1 <;> simp [ORel] at hr ⊢
    | some b => rw [hb] at hr; exact ORel.mono MJ rfl hr
   ·have hg := getB l o1 h3 ho1
    have hr := inv.heap.obj l o1 hg
    rw [m'old l (by omega)]
    cases hb : m l with
    | none => rw [hb] at hr; cases o1 <;> simp [ORel] at hr ⊢
    | some b =>
     rw [hb] at hr
     by_cases hv1 : o1.live
     ·exact ORel.mono MM (hst.fr b (inv.heap.dom l b hb).2 (.inl (.inr ⟨l, hb, .inr ⟨h2, o1, hg, hv1⟩⟩))) hr
     ·cases o1 <;> simp [AObj.live] at hv1
      simp [ORel]
   ·have hg := getB l o1 h3 ho1
    have hr := inv.heap.obj l o1 hg
    rw [m'old l (by omega)]
    cases hb : m l with
    | none => rw [hb] at hr; cases o1 <;> simp [ORel] at hr ⊢
    | some b => rw [hb] at hr; exact ORel.mono MM (hst.fr b (inv.heap.dom l b hb).2 (.inl (xlate l b hb (by omega)))) hr
 have hvr : VRel m' X w' (r j) c := VRel.mono MJ _ _ hv
 have hok' := hok
 unfold regOk at hok'
 simp only [Bool.and_eq_true, decide_eq_true_eq, List.all_eq_true] at hok'
 obtain ⟨⟨⟨⟨hnd, hvn⟩, hlt⟩, hvlt⟩, hgs⟩ := hok'
 have hol : ops.toList[j]? = some o := by simpa using ho
 have getD_put : ∀ u, (ac.put o.dst c).tmps.getD u Go.undef = if o.dst = some u then c else ac.tmps.getD u Go.undef := by
  intro u
  cases hd0 : o.dst with
  | none => simp [Act.put]
  | some t =>
   have htN : t < ac.tmps.size := by
    rw [inv.size]; have := hlt t (List.mem_filterMap.2 ⟨o, List.mem_of_getElem? hol, hd0⟩); simpa using this
   simp only [Act.put, Array.getD_eq_getD_getElem?, Option.some.injEq]
   by_cases hu : t = u
   ·subst hu; simp [htN]
   ·rw [if_neg hu, Array.getElem?_setIfInBounds_ne hu]
 have hdefs : DRel m' X en w' (ac.put o.dst c).defers := by
  have := inv.defs.step hst'
  cases hd0 : o.dst <;> simpa [Act.put] using this
 refine ⟨m', ⟨?_, ?_, ?_, ?_, ?_, hdefs, hheap, ?_, Nat.le_trans inv.entry hst.size⟩, hst'⟩
 ·intro k hk; rcases List.mem_cons.1 hk with rfl | hk
  ·exact hjn
  ·exact inv.inn k hk
 ·intro k hk e he; rcases List.mem_cons.1 hk with rfl | hk
  ·exact List.mem_cons_of_mem _ (hpj e he)
  ·exact List.mem_cons_of_mem _ (inv.clos k hk e he)
 ·cases hd0 : o.dst <;> simp [Act.put, inv.size]
 ·intro i t hi
  rw [getD_put]
  by_cases hdi : i0.dst = some i
  ·have hot : o.dst = some t := by
    rw [hdst] at hdi
    cases hd0 : o.dst with
    | none => rw [hd0] at hdi; simp [compDst] at hdi
    | some u =>
     rw [hd0] at hdi; simp only [compDst] at hdi
     have := idxOf?_some hdi
     rw [hi] at this; cases this; rfl
   rw [if_pos hot]
   have : lastOf (fun k => decide (k ∈ j :: D) && dstI is k i) ops.size = some j := by
    refine lastOf_top hjn (by simp [dstI, hi0, hdi]) fun k hk hkn => ?_
    cases hck : dstI is k i with
    | false => simp
    | true =>
     simp only [Bool.and_true, decide_eq_false_iff_not, List.mem_cons, not_or]
     refine ⟨by omega, fun hkD => ?_⟩
     have hik : is[k]? = some is[k] := List.getElem?_eq_getElem (by omega)
     have hdk : is[k].dst = some i := by simpa [dstI, hik] using hck
     rcases h.vrs j k i0 _ i hi0 hik (by omega) hdk (.inr hdi) with h1 | h1
     ·have := h.pdlt j hjn k h1; omega
     ·exact hjD (inv.clos k hkD j h1)
   simp only [vAt, this]; exact hvr
  ·have hot : o.dst ≠ some t := by
    intro hot
    apply hdi
    rw [hdst, hot]; simp only [compDst]
    cases hx : fx.vars.idxOf? t with
    | none => exact absurd (List.mem_of_getElem? hi) (idxOf?_none hx)
    | some i' =>
     have h1 := idxOf?_some hx
     have h2 : i < fx.vars.length := (List.getElem?_eq_some_iff.1 hi).1
     rw [(List.getElem?_inj h2 hvn).1 (hi.trans h1.symm)]
   rw [if_neg hot]
   have : lastOf (fun k => decide (k ∈ j :: D) && dstI is k i) ops.size = lastOf (fun k => decide (k ∈ D) && dstI is k i) ops.size := by
    refine lastOf_congr fun k hk => ?_
    by_cases hkj : k = j
    ·subst hkj; simp [dstI, hi0, hdi]
    ·simp [hkj]
   simp only [vAt, this]
   exact VRel.mono MM _ _ (inv.vars i t hi)
 ·intro k hk t hkt htv
  rw [getD_put]
  rcases List.mem_cons.1 hk with rfl | hkD
  ·have : o.dst = some t := by rw [hol] at hkt; simpa using hkt
   rw [if_pos this]; exact hvr
  ·have : o.dst ≠ some t := by
    intro hot
    have hkj := dst_inj htv ops.toList hnd k j hkt (by rw [hol]; simpa using hot)
    rw [hkj] at hkD; exact hjD hkD
   rw [if_neg this]; exact VRel.mono MM _ _ (inv.tmps k hkD t hkt htv)
 ·intro l hl hno
  have h1 : ¬ ((S j).length ≤ l ∧ l < (S (j + 1)).length) := hno j (by simp)
  rw [m'old l h1]
  exact inv.fresh l hl fun k hk => hno k (by simp [hk])
theorem Free.V_locs (h : Free P fx ops is V r S pd ch hd) (hlen : is.length = ops.size) (hv0 : locsInAll (S 0).length (V 0) = true) : ∀ j, j ≤ ops.size → locsInAll (S j).length (V j) = true
 | 0, _ => hv0
 | j + 1, hj => by
  have ih := Free.V_locs h hlen hv0 j (by omega)
  rw [h.Vs j _ (List.getElem?_eq_getElem (show j < is.length by omega))]
  have h1 := locsInAll_mono (h.le j (by omega)) _ ih
  unfold setD
  split
  ·rename_i x _
   generalize V j = vs at h1
   have h2 := h.rl j (by omega)
   clear ih
   revert x
   induction vs with
   | nil => intro x _; rfl
   | cons v vs ihv =>
    intro x hx
    simp only [locsInAll, Bool.and_eq_true] at h1
    cases x with
    | zero => simp only [List.set_cons_zero, locsInAll, Bool.and_eq_true]; exact ⟨h2, h1.2⟩
    | succ x =>
     simp only [List.set_cons_succ, locsInAll, Bool.and_eq_true]
     refine ⟨h1.1, ?_⟩
     have : ∀ (vs : List AV) (x : Nat), locsInAll (S (j + 1)).length vs = true → locsInAll (S (j + 1)).length (vs.set x (r j)) = true := by
      intro vs
      induction vs with
      | nil => intro x _; rfl
      | cons v vs ih2 =>
       intro x hvs
       simp only [locsInAll, Bool.and_eq_true] at hvs
       cases x with
       | zero => simp only [List.set_cons_zero, locsInAll, Bool.and_eq_true]; exact ⟨h2, hvs.2⟩
       | succ x => simp only [List.set_cons_succ, locsInAll, Bool.and_eq_true]; exact ⟨hvs.1, ih2 x hvs.2⟩
     exact this vs x h1.2
  ·exact h1
theorem RD_go {ro : Option Nat} (h : Free P fx ops is V r S pd ch hd) (hok : regOk fx.vars fx.N ops.toList = true) (hc : compAll P fx.vars (ops.toList.map (·.dst)) ops.toList = some is)
  (hcl0 : ∀ (l : Nat) o, (S 0)[l]? = some o → objIn (S 0).length o = true) (hv0 : locsInAll (S 0).length (V 0) = true) (hn0 : fx.n0 ≤ (S 0).length) {Qc : Exit → Act → World → Prop} :
  ∀ (l : List Nat) (D : List Nat) (m : LM) (w : World) (ac : Act), Sched (dirOf ops) ops.size D l → Inv fx ops is V r S pd ch X en D m ac w →
  (∀ m' ac' w', SRel fx m' X en ⟨V ops.size, S ops.size⟩ ac' w' → Step fx.n0 m X w m' w' → Qc .normal ac' w') → wpOpsIn (wfen ro) 0 P ops Qc l ac w
 | [], D, m, w, ac, hs, inv, hk => by
  cases hs with
  | nil hall =>
   simp only [wpOpsIn]
   obtain ⟨hlen, _⟩ := h.size hc
   refine hk m ac w ⟨inv.size, ?_, inv.defs, ?_, Nat.le_trans hn0 (h.le' (Nat.zero_le _) (Nat.le_refl _)), inv.entry⟩ (Step.refl _ _ _ _)
   ·intro i t hi
    have hv := inv.vars i t hi
    have hil : i < fx.vars.length := (List.getElem?_eq_some_iff.1 hi).1
    have e1 : vAt is r (V 0) ops.size (fun k => decide (k ∈ D)) i = vAt is r (V 0) ops.size (fun k => decide (k < ops.size)) i := by
     have : lastOf (fun k => decide (k ∈ D) && dstI is k i) ops.size = lastOf (fun k => decide (k < ops.size) && dstI is k i) ops.size := lastOf_congr fun k hk => by simp [hk, hall k hk]
     simp only [vAt, this]
    rw [e1, ← (h.V_at hlen ops.size (Nat.le_refl _)).2 i hil] at hv
    exact hv
   ·have e : (hAt S ch ops.size fun k => decide (k ∈ D)) = S ops.size := by
     apply List.ext_getElem?
     intro l
     by_cases hl : l < (S ops.size).length
     ·rw [hAt_get hl]
      have : oAt S ch ops.size (fun k => decide (k ∈ D)) l = oAt S ch ops.size (fun k => decide (k < ops.size)) l := by
       have : lastOf (fun k => decide (k ∈ D) && ch k l) ops.size = lastOf (fun k => decide (k < ops.size) && ch k l) ops.size := lastOf_congr fun k hk => by simp [hk, hall k hk]
       simp only [oAt, this]
      rw [this, ← h.S_at ops.size (Nat.le_refl _), List.getElem?_eq_getElem hl]; rfl
     ·rw [List.getElem?_eq_none (by simp [hAt]; omega), List.getElem?_eq_none (by omega)]
    rw [← e]; exact inv.heap
 | j :: l, D, m, w, ac, hs, inv, hk => by
  cases hs with
  | cons hjn hjD hdir hs' =>
  obtain ⟨hlen, hcomp⟩ := h.size hc
  have hoj : ops[j]? = some ops[j] := Array.getElem?_eq_getElem hjn
  obtain ⟨i, hij, hi⟩ := hcomp j _ hoj
  generalize ops[j] = o at hoj hi
  have hpj : ∀ e ∈ pd j, e ∈ D := fun e he => by
   rcases h.pddir j hjn e he with h1 | ⟨x, hx, h1⟩
   ·exact hdir e h1
   ·exact inv.clos x (hdir x hx) e h1
  simp only [wpOpsIn, hoj]
  obtain ⟨hdst, hgd⟩ := compIns_dst hi
  have hol : ops.toList[j]? = some o := by simpa using hoj
  have hrj := inv.restrict h hcl0 hjn hjD hpj
  have hgdr : ∀ b, gdOk ((List.range j).map r) i.gd = some b → Region.wanted o (yielded ops ac.tmps) = b := by
   intro b hb
   unfold Region.wanted
   rw [hgd] at hb
   cases hg : o.guard with
   | none => rw [hg] at hb; simp [gdOk] at hb; simp [hb]
   | some kw =>
    obtain ⟨k, want⟩ := kw
    have hkp := h.gds j i k want hij (by rw [hgd]; exact hg)
    have hkD := hpj k hkp
    have hkj := h.pdlt j hjn k hkp
    rw [hg] at hb
    simp only [gdOk] at hb
    have e1 : ((List.range j).map r).getD k .undef = r k := by simp [List.getD, hkj]
    rw [e1] at hb
    split at hb
    ·rename_i bb hbb
     cases hb
     have hok' := hok
     unfold regOk at hok'
     simp only [Bool.and_eq_true, decide_eq_true_eq, List.all_eq_true] at hok'
     obtain ⟨⟨⟨⟨_, _⟩, hlt⟩, _⟩, hgs⟩ := hok'
     have h1 := hgs o (List.mem_of_getElem? hol)
     rw [hg] at h1
     simp only at h1
     split at h1
     ·rename_i t htk
      have htv : t ∉ fx.vars := by simpa using h1
      have hr := inv.tmps k hkD t htk htv
      rw [hbb] at hr
      have hv := hr.bool
      cases hok2 : ops.toList[k]? with
      | none => rw [hok2] at htk; simp at htk
      | some ok =>
       rw [hok2] at htk; simp at htk
       have htN : t < ac.tmps.size := by
        rw [inv.size]; have := hlt t (List.mem_filterMap.2 ⟨ok, List.mem_of_getElem? hok2, htk⟩); simpa using this
       have e2 : ac.tmps[t]? = some (.bool bb) := by
        rw [Array.getD_eq_getD_getElem?, Array.getElem?_eq_getElem htN] at hv
        rw [Array.getElem?_eq_getElem htN]; simpa using hv
       have e3 : ops[k]? = some ok := by simpa using hok2
       simp only [yielded, e3, Option.bind_some, htk, e2]
       cases bb <;> cases want <;> rfl
     ·cases h1
    ·rename_i us hbb
     cases hb
     have hok' := hok
     unfold regOk at hok'
     simp only [Bool.and_eq_true, decide_eq_true_eq, List.all_eq_true] at hok'
     obtain ⟨⟨⟨⟨_, _⟩, hlt⟩, _⟩, hgs⟩ := hok'
     have h1 := hgs o (List.mem_of_getElem? hol)
     rw [hg] at h1
     simp only at h1
     split at h1
     ·rename_i t htk
      have htv : t ∉ fx.vars := by simpa using h1
      have hr := inv.tmps k hkD t htk htv
      rw [hbb] at hr
      simp only [VRel] at hr
      obtain ⟨vs, hv, _⟩ := hr
      cases hok2 : ops.toList[k]? with
      | none => rw [hok2] at htk; simp at htk
      | some ok =>
       rw [hok2] at htk; simp at htk
       have htN : t < ac.tmps.size := by
        rw [inv.size]; have := hlt t (List.mem_filterMap.2 ⟨ok, List.mem_of_getElem? hok2, htk⟩); simpa using this
       have e2 : ac.tmps[t]? = some (.tuple vs.toArray) := by
        rw [Array.getD_eq_getD_getElem?, Array.getElem?_eq_getElem htN] at hv
        rw [Array.getElem?_eq_getElem htN]; simpa using hv
       have e3 : ops[k]? = some ok := by simpa using hok2
       simp only [yielded, e3, Option.bind_some, htk, e2]
       cases want <;> rfl
     ·cases h1
    ·cases hb
  have hargs : ∀ (xs : List Operand), (∀ x ∈ xs.map (compOpd fx.vars (ops.toList.map (·.dst))), x ∈ i.args) →
    VRels (mAt S j m) (xAt S ch hd ops.size D j m X) w ((xs.map (compOpd fx.vars (ops.toList.map (·.dst)))).map (evalO (V j) ((List.range j).map r))) (xs.map ac.eval) := by
   intro xs
   induction xs with
   | nil => intro _; simp [VRels]
   | cons x xs ih =>
    intro hall
    simp only [List.map_cons, VRels]
    refine ⟨?_, ih fun y hy => hall y (by simp only [List.map_cons]; exact List.mem_cons_of_mem _ hy)⟩
    have hx := hall (compOpd fx.vars (ops.toList.map (·.dst)) x) (by simp)
    have less : ∀ a v, locsIn (S j).length a = true → VRel m X w a v → VRel (mAt S j m) (xAt S ch hd ops.size D j m X) w a v :=
     fun a v => VRel.less (fun l hl => by simp [mAt, hl]) (fun b hb => own_at hb) a v
    cases x with
    | tmp t =>
     simp only [compOpd, Act.eval] at hx ⊢
     split at hx
     ·rename_i x hxi
      simp only [evalO]
      have h1 := idxOf?_some hxi
      have h2 : x < fx.vars.length := (List.getElem?_eq_some_iff.1 h1).1
      rw [(h.V_at hlen j (by omega)).2 x h2]
      refine less _ _ ?_ ?_
      ·rw [← (h.V_at hlen j (by omega)).2 x h2]
       exact locsInAll_getD (h.V_locs hlen hv0 j (by omega)) x
      ·rw [← h.vEq hlen hij inv.clos hjD hpj (.inl hx)]; exact inv.vars x t h1
     ·rename_i hxi
      split at hx
      ·rename_i k hki
       simp only [evalO]
       have hkp := h.rds j i hij k hx
       have hkj := h.pdlt j hjn k hkp
       have e1 : ((List.range j).map r).getD k .undef = r k := by simp [List.getD, hkj]
       rw [e1]
       refine less _ _ (locsIn_mono (h.le' (show k + 1 ≤ j by omega) (by omega)) _ (h.rl k (by omega))) ?_
       have := idxOf?_some hki
       simp only [List.getElem?_map, Option.map_eq_some_iff] at this
       obtain ⟨ok, hok2, hd2⟩ := this
       exact inv.tmps k (hpj k hkp) t (by rw [hok2]; simpa using hd2) (idxOf?_none hxi)
      ·rename_i hki
       simp [evalO, VRel]
    | const v => simp only [compOpd, evalO, Act.eval]; exact ofConst_rel v
    | global g => simp [compOpd, evalO, VRel]
    | func f => simp only [compOpd, evalO, Act.eval, VRel]; exact ⟨[], rfl, by simp [VRels]⟩
  have next : ∀ (mj : LM) (w' : World) (c : Value), HRel mj (xAt S ch hd ops.size D j m X) (hideL (hd j) (S (j + 1))) w' → Step (S j).length (mAt S j m) (xAt S ch hd ops.size D j m X) w mj w' →
    VRel mj (xAt S ch hd ops.size D j m X) w' (r j) c → wpOpsIn (wfen ro) 0 P ops Qc l (ac.put o.dst c) w' := by
   intro mj w' c hh hst hv
   obtain ⟨m', inv', hst'⟩ := inv.step h hlen hok hn0 hjn hjD hpj hoj hij hdst hh hst hv
   exact RD_go h hok hc hcl0 hv0 hn0 l (j :: D) m' w' _ hs' inv' fun m2 ac2 w2 h1 h2 => hk m2 ac2 w2 h1 (hst'.trans h2)
  have hop := h.op j i hij
  split at hop
  ·exact hop.elim
  ·rename_i hg
   rw [hgdr _ hg]
   simp only [Bool.false_eq_true, if_false]
   refine ⟨fun _ _ => trivial, next _ w Go.undef ?_ (Step.refl _ _ _ _) ?_⟩
   ·rw [hop.2]; exact hrj
   ·rw [hop.1]; simp [VRel, VRels, Go.undef]
  ·rename_i hg
   rw [hgdr _ hg]
   simp only [if_true]
   refine ⟨fun _ _ => trivial, ?_⟩
   have hHl : (hideL (hd j) (S j)).length = (S j).length := hideL_length _ _
   generalize has : i.args.map (evalO (V j) ((List.range j).map r)) = as at hop
   cases hiop : i.op with
   | prim io =>
    rw [hiop] at hop
    dsimp only at hop
    obtain ⟨os', hco, hia, _, _⟩ := compIns_prim hi hiop
    have hrel := hargs os' (fun x hx => by rw [hia]; exact hx)
    rw [← hia, has] at hrel
    obtain ⟨nx, w', mj, hrun, hres, hh, hst⟩ := prim_sound hco hrj hrel hop
    rw [hHl] at hst
    rw [Oper.semAt_eq _ _ _ (compOp_not_defer hco), hrun]
    rcases hres with ⟨c, rfl, hv⟩ | ⟨rfl, hr⟩
    ·exact next mj w' c hh hst hv
    ·exact next mj w' Go.undef hh hst (by rw [hr]; simp [VRel])
   | call =>
    rw [hiop] at hop
    cases as with
    | nil => exact hop.elim
    | cons fv as =>
    dsimp only at hop
    obtain ⟨f, args, at_, hop', hia, _, _⟩ := compIns_call hi hiop
    have hrel := hargs (f :: args.toList) (fun x hx => by rw [hia]; exact hx)
    rw [← hia, has] at hrel
    obtain ⟨fc, us, he, hfv, hrest⟩ := hrel.cons
    simp only [List.map_cons, List.cons.injEq] at he
    obtain ⟨rfl, rfl⟩ := he
    have hnd : ∀ c, o.op ≠ .defer c := by rw [hop']; simp
    rw [Oper.semAt_eq _ _ _ hnd]
    have hex : execOp ac.eval o = (do let d ← resolve ac.eval { callee := .value f, args, argTypes := at_ } o.type; invoke d.target d.args) := by
     simp only [execOp, hop']
    rw [hex]
    unfold CallV at hop
    split at hop
    ·rename_i g cap
     simp only [VRel] at hfv
     obtain ⟨vs, hfe, hcap⟩ := hfv
     have hrun : (do let d ← resolve ac.eval { callee := .value f, args, argTypes := at_ } o.type; invoke d.target d.args : Sem Next).run P w = .ok (.enter g ((args.toList.map ac.eval) ++ vs).toArray) w := by
      simp only [resolve, hfe, Deferred.ofValue, Sem.run_bind, Sem.run_pure, Result.andThen_ok, invoke]
      rw [hop.1]
      congr 2
      apply Array.ext'; simp
     rw [hrun]
     refine ⟨by simp [wfen, Fence.wide], ?_⟩
     have hcall := hop.2 _ _ w _ (VRels.append hrest hcap) hrj
     refine CallsIn.mono (F := wfen ro) (n := 0) hcall ?_
     rintro e w' ⟨c, r', σ', mj, rfl, ⟨rfl, rfl⟩, hv, hh, hst, _⟩
     rw [hHl] at hst
     exact next mj w' c hh hst hv
    ·rename_i g first
     simp only [VRel] at hfv
     obtain ⟨vs, hfe, hcap⟩ := hfv
     have hrun : (do let d ← resolve ac.eval { callee := .value f, args, argTypes := at_ } o.type; invoke d.target d.args : Sem Next).run P w = .ok (.enter g (vs ++ (args.toList.map ac.eval)).toArray) w := by
      simp only [resolve, hfe, Deferred.ofValue, Sem.run_bind, Sem.run_pure, Result.andThen_ok, invoke]
      rw [hop.1]
      congr 2
      apply Array.ext'; simp
     rw [hrun]
     refine ⟨by simp [wfen, Fence.wide], ?_⟩
     have hcall := hop.2 _ _ w _ (VRels.append hcap hrest) hrj
     refine CallsIn.mono (F := wfen ro) (n := 0) hcall ?_
     rintro e w' ⟨c, r', σ', mj, rfl, ⟨rfl, rfl⟩, hv, hh, hst, _⟩
     rw [hHl] at hst
     exact next mj w' c hh hst hv
    ·rename_i lc
     simp only [VRel] at hfv
     obtain ⟨b, hb, hfe⟩ := hfv
     obtain ⟨L, hL, hsz, hround⟩ := hop _ _ w _ b hb hrest hrj
     have hrun : (do let d ← resolve ac.eval { callee := .value f, args, argTypes := at_ } o.type; invoke d.target d.args : Sem Next).run P w = .ok (.round b L.fn ((L.params.zip (args.toList.map ac.eval).toArray).foldl (fun tmps (t, a) => tmps.setIfInBounds t a) L.tmps) L.assign L.body) w := by
      simp only [resolve, hfe, Deferred.ofValue, Sem.run_bind, Sem.run_pure, Result.andThen_ok, invoke]
      have e : #[] ++ args.map ac.eval = (args.toList.map ac.eval).toArray := by apply Array.ext'; simp
      rw [e]
      exact run_yield hL (by simpa using hsz)
     rw [hrun]
     refine ⟨by simp [wfen, Fence.wide], ?_⟩
     refine RoundIn.mono (F := wfen ro) (n := 0) hround ?_
     rintro e w' ⟨c, r', σ', mj, rfl, ⟨rfl, rfl⟩, hv, hh, hst, _⟩
     rw [hHl] at hst
     exact next mj w' c hh hst hv
    ·exact hop.elim
end Go.Proofs.YtpnghcaccfnngaaGreatDoor.AM
namespace Go.Proofs.YtpnghcaccfnngaaGreatDoor.AM
variable [Dr]
open Go
variable {P : Program} {fx : Fx} {m : LM} {X : Nat → Prop} {en : En} {w : World} {s : St} {Q : Exit → St → Prop}
theorem SRel.drew {ac : Act} (h : SRel fx m X en s ac w) : SRel fx m X en s ac w.drew :=
 have hs : Step s.heap.length m X w m w.drew := Step.of_heap rfl rfl rfl rfl (Nat.le_succ _)
 h.of_heap (h.heap.of_heap rfl) hs (Nat.le_refl _)
theorem SRel.vals_locs {ac : Act} (h : SRel fx m X en s ac w) (hl : s.vals.length ≤ fx.vars.length) : locsInAll s.heap.length s.vals = true := by
 have key : ∀ (vs : List AV) (n : Nat), (∀ i, i < vs.length → locsIn n (vs.getD i .undef) = true) → locsInAll n vs = true := by
  intro vs n
  induction vs with
  | nil => intro _; rfl
  | cons v vs ih =>
   intro hall
   simp only [locsInAll, Bool.and_eq_true]
   exact ⟨by simpa [List.getD] using hall 0 (by simp), ih fun i hi => by simpa [List.getD] using hall (i + 1) (by simp; omega)⟩
 refine key _ _ fun i hi => ?_
 have hlt : i < fx.vars.length := by omega
 exact VRel.locs (fun l b hb => (h.heap.dom l b hb).1) _ _ (h.vars i fx.vars[i] (List.getElem?_eq_getElem hlt))
theorem W_region_draw {id : Nat} {ops : Array Oper} {is : List Ins} {V : Nat → List AV} {r : Nat → AV} {S : Nat → List AObj} {pd : Nat → List Nat} {ch hd : Nat → Nat → Bool} (hmix : P.follows .mixedOrders = true)
  (hc : compReg P fx.vars fx.N ops = some is) (hF : Free P fx ops is V r S pd ch hd) (hV : V 0 = s.vals) (hS : S 0 = s.heap) (hQ : Q .normal ⟨V ops.size, S ops.size⟩) : W P fx (.region id ops true) s Q := by
 intro m X en ac w hs hr
 unfold compReg at hc
 split at hc
 ·rename_i hok
  refine wpIn_region_draw fun t => ?_
  have hsch : Region.schedule (P.follows .mixedOrders) ops t = Region.linearise .any ops t := by simp [Region.schedule, hmix]
  rw [hsch]
  have hs' : SRel fx m X en s ac w.drew := hs.drew
  have hst : Step fx.n0 m X w m w.drew := Step.of_heap rfl rfl rfl rfl (Nat.le_succ _)
  have hlen := (hF.size hc).1
  have hvl : s.vals.length ≤ fx.vars.length := by rw [← hV, hF.V0]; exact Nat.le_refl _
  refine RD_go (X := X) (en := en) (ro := fx.r.bind m) hF hok hc ?_ ?_ ?_ _ [] m w.drew ac (sched_of_linearise hF.back t) ?_ ?_
  ·intro l o ho; rw [hS] at ho ⊢; exact hs.heap.closed l o ho
  ·rw [hS, hV]; exact hs.vals_locs hvl
  ·rw [hS]; exact hs.base
  ·have hnone : ∀ (p : Nat → Bool), (∀ k, p k = false) → lastOf p ops.size = none := fun p hp => by
    rw [lastOf_cut (j := 0) (Nat.zero_le _) fun k _ _ => hp k]; rfl
   refine ⟨by simp, by simp, hs'.size, ?_, by simp, hs'.defs, ?_, ?_, hs'.entry⟩
   ·intro i t hi
    have : vAt is r (V 0) ops.size (fun k => decide (k ∈ ([] : List Nat))) i = (V 0).getD i .undef := by
     simp only [vAt]; rw [hnone _ (by simp)]
    rw [this, hV]; exact hs'.vars i t hi
   · -- the heap at the start: what is made later is not there yet
    have hle := hF.le' (Nat.zero_le _) (Nat.le_refl ops.size)
    have hget : ∀ (l : Nat) (o : AObj), (hAt S ch ops.size fun k => decide (k ∈ ([] : List Nat)))[l]? = some o → o.live → (S 0)[l]? = some o := by
     intro l o ho hv
     have hl : l < (S ops.size).length := by have := (List.getElem?_eq_some_iff.1 ho).1; simpa [hAt] using this
     rw [hAt_get hl] at ho
     have : oAt S ch ops.size (fun k => decide (k ∈ ([] : List Nat))) l = (S 0)[l]? := by
      simp only [oAt]; rw [hnone _ (by simp)]
     rw [this] at ho
     cases h0 : (S 0)[l]? with
     | none => rw [h0] at ho; simp at ho; subst ho; exact hv.elim
     | some o' => rw [h0] at ho; simpa using ho
    have hh := hs'.heap
    rw [hS] at hget hle
    refine ⟨hh.xb, fun l b hb => ?_, ?_, ?_, ?_⟩
    ·have := hh.dom l b hb; exact ⟨by simp [hAt]; omega, this.2⟩
    ·intro l b o hb ho hv; exact hh.own l b o hb (hget l o ho hv) hv
    ·intro l l' b o hb hb' ho hv; exact hh.inj l l' b o hb hb' (hget l' o ho hv) hv
    ·intro l o ho
     by_cases hv : o.live
     ·exact hh.obj l o (hget l o ho hv)
     ·cases o <;> simp [AObj.live] at hv
      simp [ORel]
   ·intro l hl _
    cases hml : m l with
    | none => rfl
    | some b => have := (hs.heap.dom l b hml).1; rw [hS] at hl; omega
  ·intro m' ac' w' h1 h2
   exact ⟨_, m', hQ, h1, hst.trans h2⟩
 ·cases hc
def putPars (vars : List Nat) : List Nat → List AV → List AV → List AV
 | t :: ts, a :: as, vals => putPars vars ts as (setD (vars.idxOf? t) vals a)
 | _, _, vals => vals
theorem putPars_rel {vars : List Nat} (hvn : vars.Nodup) : ∀ (ts : List Nat) (as : List AV) (cs : List Value) (vals : List AV) (tmps : Array Value), as.length = ts.length → VRels m X w as cs → (∀ t ∈ ts, t < tmps.size) → (∀ t ∈ ts, t ∈ vars) → vals.length ≤ vars.length → ARel m X w vars vals tmps →
  ARel m X w vars (putPars vars ts as vals) ((ts.zip cs).foldl (fun tmps (t, a) => tmps.setIfInBounds t a) tmps) ∧ ((ts.zip cs).foldl (fun tmps (t, a) => tmps.setIfInBounds t a) tmps).size = tmps.size ∧ (putPars vars ts as vals).length = vals.length
 | [], as, cs, vals, tmps, hl, ha, ht, hv, hlen, har => by
  have : as = [] := List.eq_nil_of_length_eq_zero (by simpa using hl)
  subst this; simpa [putPars] using har
 | t :: ts, [], cs, vals, tmps, hl, ha, ht, hv, hlen, har => by simp at hl
 | t :: ts, a :: as, cs, vals, tmps, hl, ha, ht, hv, hlen, har => by
  obtain ⟨c, cs', rfl, h1, h2⟩ := ha.cons
  simp only [putPars, List.zip_cons_cons, List.foldl_cons]
  have htN := ht t (by simp)
  have har' : ARel m X w vars (setD (vars.idxOf? t) vals a) (tmps.setIfInBounds t c) := by
   intro k u hk
   have getD_set : ∀ u, (tmps.setIfInBounds t c).getD u Go.undef = if u = t then c else tmps.getD u Go.undef := by
    intro u
    simp only [Array.getD_eq_getD_getElem?]
    by_cases hu : u = t
    ·subst hu; simp [htN]
    ·rw [if_neg hu, Array.getElem?_setIfInBounds_ne (fun h => hu h.symm)]
   rw [getD_set]
   cases hi : vars.idxOf? t with
   | none => exact absurd (hv t (by simp)) (idxOf?_none hi)
   | some i =>
    have hit := idxOf?_some hi
    simp only [setD]
    by_cases hki : k = i
    ·subst hki; rw [hit] at hk; cases hk
     rw [if_pos rfl]
     rcases Nat.lt_or_ge k vals.length with h | h
     ·simp [List.getD, h]; exact h1
     ·rw [List.set_eq_of_length_le h]; simp [List.getD, List.getElem?_eq_none h, VRel]
    ·have hut : u ≠ t := by
      rintro rfl
      have hkl : k < vars.length := (List.getElem?_eq_some_iff.1 hk).1
      exact hki ((List.getElem?_inj hkl hvn).1 (hk.trans hit.symm))
     rw [if_neg hut]
     have : (vals.set i a).getD k .undef = vals.getD k .undef := by simp only [List.getD]; rw [List.getElem?_set_ne (fun h => hki h.symm)]
     rw [this]; exact har k u hk
  have hlen' : (setD (vars.idxOf? t) vals a).length = vals.length := by unfold setD; split <;> simp
  obtain ⟨g1, g2, g3⟩ := putPars_rel hvn ts as cs' _ _ (by simpa using hl) h2 (fun u hu => by simpa using ht u (by simp [hu])) (fun u hu => hv u (by simp [hu])) (by rw [hlen']; exact hlen) har'
  exact ⟨g1, by rw [g2]; simp, by rw [g3, hlen']⟩
def setLoop (σ : List AObj) (l : Nat) (r : ALoop) (st : LoopState) (p : Option Code) : List AObj := σ.set l (.loop { r with state := st, pending := p })
def jumpOf : Exit → Option Code
 | .ret => some .ret
 | .exit i => some (.exit i)
 | .goto t => some (.goto t)
 | _ => none
theorem HRel.loop (h : HRel m X s.heap w) {l b : Nat} {r : ALoop} (hm : m l = some b) (hl : s.heap[l]? = some (.loop r)) : ∃ (tmps : Array Value) (d fi : Nat), tmps.size = r.ntmps ∧ ARel m X w r.vars r.vals tmps ∧
  w.heap[b]? = some (.loop { state := r.state, pending := r.pending, fn := fi, tmps, params := r.params.toArray, assign := r.assign, body := r.body, defers := d }) ∧ r.vals.length ≤ r.vars.length ∧ ∀ f, r.fi = some f → fi = f := by
 have := h.obj l _ hl
 rw [hm] at this
 simpa only [ORel] using this
theorem HRel.setLoop {σ : List AObj} (h : HRel m X σ w) {l b : Nat} {r : ALoop} (hm : m l = some b) (hl : σ[l]? = some (.loop r)) {L : Loop} (hL : w.heap[b]? = some (.loop L)) (st : LoopState) (p : Option Code) :
  HRel m X (setLoop σ l r st p) (w.putObj b (.loop { L with state := st, pending := p })) ∧ Step σ.length m X w m (w.putObj b (.loop { L with state := st, pending := p })) ∧ Mono m X w m X (w.putObj b (.loop { L with state := st, pending := p })) := by
 have hr := h.obj l _ hl
 rw [hm] at hr
 simp only [ORel] at hr
 obtain ⟨tmps, d, fi, h1, h2, h3, h4⟩ := hr
 rw [h3] at hL; cases hL
 refine h.turn hm hl trivial (Turned.obj w _ h3 (by simp)) fun hmn => ?_
 simp only [ORel]
 exact ⟨tmps, d, fi, h1, h2.mono hmn, World.putObj_heap_same (lt_of_heap h3), h4⟩
theorem YC_of_round {l : Nat} {σ : List AObj} {r : ALoop} {args : List AV} {Q : AV → List AObj → Prop} (hl : σ[l]? = some (.loop r)) (hst : r.state = .ready) (hargs : args.length = r.params.length) (hvn : r.vars.Nodup) (hpv : ∀ t ∈ r.params, t ∈ r.vars) (hpN : ∀ t ∈ r.params, t < r.ntmps)
  (h : W P ⟨r.vars, r.ntmps, some l, σ.length⟩ r.assign ⟨putPars r.vars r.params args r.vals, σ⟩ fun e s1 => match e with
   | .normal => ∃ r1, s1.heap[l]? = some (.loop r1) ∧ r1.state = .ready ∧
     W P ⟨r.vars, r.ntmps, some l, σ.length⟩ r.body ⟨s1.vals, setLoop s1.heap l r1 .busy r1.pending⟩ fun e s2 => match e with
      | .panic _ | .outgrown => False
      | e => ∃ r2, s2.heap[l]? = some (.loop r2) ∧ Q (.b (jumpOf e).isNone) (setLoop s2.heap l r2 (if (jumpOf e).isNone then .ready else .done) (jumpOf e))
   | _ => False) : YC P l args σ Q := by
 intro m X w cargs b hb ha hh
 have hrl := hh.obj l _ hl
 rw [hb] at hrl
 simp only [ORel] at hrl
 obtain ⟨tmps, d, fi, h1, h2, h3, h4⟩ := hrl
 have hlen := ha.length
 refine ⟨_, h3, by simp; omega, ?_⟩
 obtain ⟨g1, g2, g3⟩ := putPars_rel hvn r.params args cargs r.vals tmps hargs ha (fun t ht => by rw [h1]; exact hpN t ht) hpv h4.1 h2
 have hzip : (r.params.toArray.zip cargs.toArray).foldl (fun tmps (x : Nat × Value) => tmps.setIfInBounds x.1 x.2) tmps = (r.params.zip cargs).foldl (fun tmps (x : Nat × Value) => tmps.setIfInBounds x.1 x.2) tmps := by
  simp
 have hlσ : l < σ.length := (hh.dom l b hb).1
 have hs0 : SRel ⟨r.vars, r.ntmps, some l, σ.length⟩ m X ⟨w.heap.size, []⟩ ⟨putPars r.vars r.params args r.vals, σ⟩ { tmps := (r.params.zip cargs).foldl (fun tmps (x : Nat × Value) => tmps.setIfInBounds x.1 x.2) tmps, defers := [] } w :=
  ⟨by rw [g2]; exact h1, g1, ⟨[], rfl, List.nodup_nil, by simp⟩, hh, Nat.le_refl _, Nat.le_refl _⟩
 have hrok : rok ⟨r.vars, r.ntmps, some l, σ.length⟩ m := by intro x hx; cases hx; exact ⟨hlσ, b, hb⟩
 have hfen : fen m (some l) = Fence.wide.inRound b := by simp [fen, Fence.inRound, hb]
 refine roundIn_of_wpIn (F := Fence.wide) (n := 0) trivial ?_
 dsimp only
 rw [hzip]
 have key := h m X ⟨w.heap.size, []⟩ _ w hs0 hrok
 rw [show fen m (Fx.r ⟨r.vars, r.ntmps, some l, σ.length⟩) = Fence.wide.inRound b from hfen] at key
 refine wpIn_mono key ?_
 rintro e a1 w1 ⟨s1, m1, hq, hs1, hst1⟩
 cases e with
 | normal =>
  obtain ⟨r1, hl1, hr1, hbody⟩ := hq
  have hb1 : m1 l = some b := by rw [hst1.keep l hlσ]; exact hb
  obtain ⟨tm1, d1, fi1, k1, k2, k3, k4⟩ := hs1.heap.loop hb1 hl1
  rw [hr1] at k3
  refine ⟨_, run_beginRound k3 rfl, ?_⟩
  obtain ⟨u1, u2, u3⟩ := hs1.heap.setLoop hb1 hl1 (by rw [← hr1] at k3; exact k3) .busy r1.pending
  have hs1' := hs1.of_heap u1 u2 (by simp [AM.setLoop])
  have e1 : ({ ({ state := r1.state, pending := r1.pending, fn := fi1, tmps := tm1, params := r1.params.toArray, assign := r1.assign, body := r1.body, defers := d1 } : Loop) with state := .busy, pending := r1.pending } : Loop) = { ({ state := .ready, pending := r1.pending, fn := fi1, tmps := tm1, params := r1.params.toArray, assign := r1.assign, body := r1.body, defers := d1 } : Loop) with state := .busy } := rfl
  rw [e1] at hs1' u1 u2 u3
  have hst1' := hst1.trans (u2.less hs1.base)
  have key2 := W.later hbody hrok hs1' hst1'
  rw [show fen m (Fx.r ⟨r.vars, r.ntmps, some l, σ.length⟩) = Fence.wide.inRound b from hfen] at key2
  refine wpIn_mono key2 ?_
  rintro e a2 w2 ⟨s2, m2, hq2, hs2, hst2⟩
  have fin : ∀ (jmp : Option Code), (∃ r2, s2.heap[l]? = some (.loop r2) ∧ Q (.b jmp.isNone) (AM.setLoop s2.heap l r2 (if jmp.isNone then .ready else .done) jmp)) → ∃ v w', (Instr.endRound b jmp).run P w2 = .ok v w' ∧ CPost m X w σ Q (.returned v) w' := by
   rintro jmp ⟨r2, hl2, hQ⟩
   have hb2 : m2 l = some b := by rw [hst2.keep l hlσ]; exact hb
   obtain ⟨tm2, d2, fi2, v1, v2, v3, v4⟩ := hs2.heap.loop hb2 hl2
   obtain ⟨x1, x2, x3⟩ := hs2.heap.setLoop hb2 hl2 v3 (if jmp.isNone then .ready else .done) jmp
   refine ⟨.bool jmp.isNone, _, run_endRound jmp v3, _, _, _, m2, rfl, hQ, ?_, x1, hst2.trans (x2.less hs2.base), ?_⟩
   ·exact VRel.mk_bool _
   ·simp only [AM.setLoop, List.length_set]; exact hs2.base
  cases e with
  | normal => exact fin none hq2
  | ret => exact fin (some .ret) hq2
  | exit i => exact fin (some (.exit i)) hq2
  | goto t => exact fin (some (.goto t)) hq2
  | panic c => exact hq2.elim
  | outgrown => exact hq2.elim
 | ret => exact hq.elim
 | exit i => exact hq.elim
 | goto t => exact hq.elim
 | panic c => exact hq.elim
 | outgrown => exact hq.elim
end Go.Proofs.YtpnghcaccfnngaaGreatDoor.AM

/- Parts of the proof, joined: AmJ2 to AmJ2. -/
import Derived.DeepKeys3
import Derived.Test.YtphdemhopihpnaaZ10

namespace Go.Proofs.Ytphdemhopihpnaa.AM
open Go Go.WideShapes
set_option linter.unusedVariables false
set_option linter.unusedSimpArgs false

variable {P : Program} {m : LM} {X : Nat → Prop} {σ σ' : List AObj} {w : World} {r : AV}

def toLit : AV → Lit
  | .cv (.int k n) => .int k n
  | .cv (.str s) => .string s.data.toList
  | .cv (.bool b) => .bool b
  | _ => .bool false

theorem kksOk_length : ∀ {ks : List KK} {xs : List AV}, kksOk ks xs = true → xs.length = ks.length
  | [], [], _ => rfl
  | k :: ks, x :: xs, h => by simp only [kksOk, Bool.and_eq_true] at h; simp [kksOk_length h.2]
  | [], _ :: _, h => by simp [kksOk] at h
  | _ :: _, [], h => by simp [kksOk] at h

theorem kksOk_append : ∀ {k1 k2 : List KK} {xs : List AV}, kksOk (k1 ++ k2) xs = true → kksOk k1 (xs.take k1.length) = true ∧ kksOk k2 (xs.drop k1.length) = true
  | [], k2, xs, h => by simpa [kksOk] using h
  | k :: k1, k2, [], h => by simp [kksOk] at h
  | k :: k1, k2, x :: xs, h => by
    simp only [List.cons_append, kksOk, Bool.and_eq_true] at h
    obtain ⟨g1, g2⟩ := kksOk_append h.2
    simp [kksOk, h.1, g1, g2]

theorem kk_inv {k : KK} {a : AV} (h : kkOk k a = true) : (∃ q n, k = .int q ∧ a = .cv (.int q n) ∧ (Lit.int q n).wf = true) ∨ (∃ s, k = .str ∧ a = .cv (.str s) ∧ s.size ≤ maxLen) ∨ (∃ b, k = .bool ∧ a = .cv (.bool b)) := by
  unfold kkOk at h
  split at h
  · simp only [Bool.and_eq_true, decide_eq_true_eq] at h
    obtain ⟨rfl, hw⟩ := h
    exact .inl ⟨_, _, rfl, rfl, hw⟩
  · simp only [decide_eq_true_eq] at h
    exact .inr (.inl ⟨_, rfl, rfl, h⟩)
  · exact .inr (.inr ⟨_, rfl, rfl⟩)
  · cases h

theorem kk_cases {k : KK} {a : AV} {v : Value} (h : kkOk k a = true) (hr : VRel m X w a v) :
    (∃ q n, k = .int q ∧ a = .cv (.int q n) ∧ v = .int q n ∧ (Lit.int q n).wf = true) ∨ (∃ s, k = .str ∧ a = .cv (.str s) ∧ v = .string s ∧ s.size ≤ maxLen) ∨ (∃ b, k = .bool ∧ a = .cv (.bool b) ∧ v = .bool b) := by
  unfold kkOk at h
  split at h
  · simp only [Bool.and_eq_true, decide_eq_true_eq] at h
    obtain ⟨rfl, hw⟩ := h
    exact .inl ⟨_, _, rfl, rfl, hr.int, hw⟩
  · simp only [decide_eq_true_eq] at h
    exact .inr (.inl ⟨_, rfl, rfl, hr.str, h⟩)
  · exact .inr (.inr ⟨_, rfl, rfl, hr.bool⟩)
  · cases h

theorem one_of_len {α : Type} {l : List α} (h : l.length = 1) : ∃ a, l = [a] := by
  match l, h with
  | [a], _ => exact ⟨a, rfl⟩

theorem keyLits_of : ∀ (d : Nat) (t : TypeId) (ks : List KK) (xs : List AV) (vs : List Value), flatK P d t = some ks → kksOk ks xs = true → VRels m X w xs vs → P.keyLits d t vs = some (xs.map toLit)
  | 0, t, ks, xs, vs, h, _, _ => by simp [flatK] at h
  | d + 1, t, ks, xs, vs, h, hk, hr => by
    have hlx := kksOk_length hk
    have hlv := hr.length
    simp only [flatK] at h
    have scal : ∀ k, ks = [k] → ∃ a v, xs = [a] ∧ vs = [v] ∧ kkOk k a = true ∧ VRel m X w a v := by
      rintro k rfl
      obtain ⟨a, rfl⟩ := one_of_len hlx
      obtain ⟨v, rfl, hv⟩ := hr.one
      simp only [kksOk, Bool.and_true] at hk
      exact ⟨a, v, rfl, rfl, hk, hv⟩
    split at h
    · rename_i hu
      obtain ⟨a, v, rfl, rfl, h1, h2⟩ := scal _ (Option.some.inj h).symm
      rcases kk_cases h1 h2 with ⟨q, n, hq, _⟩ | ⟨s, hq, _⟩ | ⟨b, _, rfl, rfl⟩
      · cases hq
      · cases hq
      · unfold Program.keyLits; rw [hu]; rfl
    · rename_i k hu
      obtain ⟨a, v, rfl, rfl, h1, h2⟩ := scal _ (Option.some.inj h).symm
      rcases kk_cases h1 h2 with ⟨q, n, hq, rfl, rfl, hw⟩ | ⟨s, hq, _⟩ | ⟨b, hq, _⟩
      · cases hq; unfold Program.keyLits; rw [hu]; simp [hw, toLit]
      · cases hq
      · cases hq
    · rename_i hu
      obtain ⟨a, v, rfl, rfl, h1, h2⟩ := scal _ (Option.some.inj h).symm
      rcases kk_cases h1 h2 with ⟨q, n, hq, _⟩ | ⟨s, _, rfl, rfl, hs⟩ | ⟨b, hq, _⟩
      · cases hq
      · unfold Program.keyLits; rw [hu]; simp [hs, toLit]
      · cases hq
    · rename_i n e hu
      simp only [Option.bind_eq_some_iff] at h
      obtain ⟨ke, hke, h⟩ := h
      split at h
      · rename_i hc
        cases h
        obtain ⟨hc1, hc2⟩ := hc
        have main : ∀ (q i0 : Nat), kksOk (List.replicate q ke).flatten (xs.drop (i0 * P.cellsOf e)) = true →
            ∃ L, (List.range' i0 q).mapM (fun i => P.keyLits d e ((vs.drop (i * P.cellsOf e)).take (P.cellsOf e))) = some L ∧ L.flatten = (xs.drop (i0 * P.cellsOf e)).map toLit := by
          intro q
          induction q with
          | zero =>
            intro i0 hk0
            have := kksOk_length hk0
            simp at this
            exact ⟨[], by simp, by simp [List.drop_eq_nil_iff.2 (by omega : xs.length ≤ i0 * P.cellsOf e)]⟩
          | succ q ih =>
            intro i0 hk0
            rw [List.replicate_succ, List.flatten_cons] at hk0
            obtain ⟨g1, g2⟩ := kksOk_append hk0
            rw [hc1] at g1 g2
            rw [List.drop_drop, show i0 * P.cellsOf e + P.cellsOf e = (i0 + 1) * P.cellsOf e by rw [Nat.add_mul, Nat.one_mul]] at g2
            obtain ⟨L, h1, h2⟩ := ih (i0 + 1) g2
            have h0 := keyLits_of d e ke _ _ hke g1 ((hr.drop (i0 * P.cellsOf e)).take (P.cellsOf e))
            refine ⟨_ :: L, by rw [List.range'_succ, List.mapM_cons, h0, h1]; rfl, ?_⟩
            rw [List.flatten_cons, h2, ← List.map_append]
            congr 1
            rw [show (i0 + 1) * P.cellsOf e = i0 * P.cellsOf e + P.cellsOf e by rw [Nat.add_mul, Nat.one_mul], ← List.drop_drop, List.take_append_drop]
        obtain ⟨L, h1, h2⟩ := main n 0 (by simpa using hk)
        unfold Program.keyLits; rw [hu]
        have hlen : vs.length = P.cellsOf t := by
          rw [hlv.symm.trans hlx]; simp [hc1, hc2]
        rw [← List.range_eq_range'] at h1
        simp only [hlen, if_true, h1, Option.map_some, h2]
        simp
      · cases h
    · rename_i fs hu
      split at h
      · rename_i hend
        have main : ∀ (fs : List Field) (n N : Nat) (ks : List KK), fieldsEnd P fs n = some N → flatFs P (flatK P d) fs = some ks → kksOk ks (xs.drop n) = true →
            (∃ L, fs.mapM (fun f => P.keyLits d f.type ((vs.drop f.offset).take (P.cellsOf f.type))) = some L ∧ L.flatten = (xs.drop n).map toLit) ∧ n + ks.length = N ∧ ∀ f ∈ fs, f.name ≠ "_" := by
          intro fs
          induction fs with
          | nil =>
            intro n N ks h1 h2 h3
            simp only [flatFs, Option.some.injEq] at h2; subst h2
            simp only [fieldsEnd, Option.some.injEq] at h1
            have := kksOk_length h3
            simp at this
            exact ⟨⟨[], by simp, by simp [List.drop_eq_nil_iff.2 (by omega : xs.length ≤ n)]⟩, by simp [h1], by simp⟩
          | cons f fs ih =>
            intro n N ks h1 h2 h3
            simp only [flatFs, Option.bind_eq_some_iff] at h2
            obtain ⟨k1, hk1, h2⟩ := h2
            split at h2
            · rename_i hc
              simp only [Option.map_eq_some_iff] at h2
              obtain ⟨k2, hk2, rfl⟩ := h2
              simp only [fieldsEnd] at h1
              split at h1
              · rename_i hoff
                obtain ⟨g1, g2⟩ := kksOk_append h3
                rw [hc.1] at g1 g2
                rw [List.drop_drop] at g2
                obtain ⟨⟨L, e1, e2⟩, e3, e4⟩ := ih _ _ _ h1 hk2 g2
                have h0 := keyLits_of d f.type k1 _ _ hk1 g1 ((hr.drop n).take (P.cellsOf f.type))
                refine ⟨⟨_ :: L, by rw [List.mapM_cons, hoff, h0, e1]; rfl, ?_⟩, by simp [hc.1]; omega, ?_⟩
                · rw [List.flatten_cons, e2, ← List.map_append]
                  congr 1
                  rw [← List.drop_drop, List.take_append_drop]
                · intro f' hf'
                  rcases List.mem_cons.1 hf' with rfl | hf'
                  · exact hc.2
                  · exact e4 f' hf'
              · cases h1
            · cases h2
        obtain ⟨⟨L, h1, h2⟩, h3, h4⟩ := main fs.toList 0 _ ks hend h (by simpa using hk)
        unfold Program.keyLits; rw [hu]
        have hlen : vs.length = P.cellsOf t := by omega
        have hall : fs.all (·.name != "_") = true := by
          rw [Array.all_eq_true']
          intro f hf
          simpa using h4 f (by simpa using hf)
        simp only [hlen, hall, and_self, if_true, h1, Option.map_some, h2]
        simp
      · cases h
    · cases h

theorem lits_eq : ∀ {ks : List KK} {xs ys : List AV}, kksOk ks xs = true → kksOk ks ys = true → (xs.map toLit = ys.map toLit ↔ cellsEq xs ys = true)
  | [], [], [], _, _ => by simp [cellsEq]
  | k :: ks, x :: xs, y :: ys, h1, h2 => by
    simp only [kksOk, Bool.and_eq_true] at h1 h2
    have ih := lits_eq h1.2 h2.2
    simp only [List.map_cons, List.cons.injEq, cellsEq, Bool.and_eq_true, ih]
    refine and_congr ?_ Iff.rfl
    rcases kk_inv h1.1 with ⟨q, n, rfl, rfl, _⟩ | ⟨s, rfl, rfl, _⟩ | ⟨c, rfl, rfl⟩ <;> rcases kk_inv h2.1 with ⟨q', n', hq, rfl, _⟩ | ⟨s', hq, rfl, _⟩ | ⟨c', hq, rfl⟩ <;> cases hq
    · simp [toLit, cellEq]
    · simp only [toLit, cellEq, decide_eq_true_eq, Lit.string.injEq]
      constructor
      · intro hh
        obtain ⟨⟨d⟩⟩ := s; obtain ⟨⟨d'⟩⟩ := s'
        simp at hh; rw [hh]
      · rintro rfl; rfl
    · simp [toLit, cellEq]
  | [], _ :: _, _, h, _ => by simp [kksOk] at h
  | [], [], _ :: _, _, h => by simp [kksOk] at h
  | _ :: _, [], _, h, _ => by simp [kksOk] at h
  | _ :: _, _ :: _, [], _, h => by simp [kksOk] at h

/-! ### A key against a map's keys -/

theorem bytes_beq (s : ByteArray) : (s == s) = true := by
  show (s.data == s.data) = true
  simp

theorem sameBits_cells : ∀ {ks : List KK} {xs : List AV} {vs : List Value} (n : Nat), kksOk ks xs = true → VRels m X w xs vs → ((vs.zip vs).all fun (x, y) => Instr.sameBits n x y) = true
  | [], [], vs, n, _, hr => by rw [hr.nil']; rfl
  | k :: ks, x :: xs, vs, n, h, hr => by
    obtain ⟨v, us, rfl, h1, h2⟩ := hr.cons
    simp only [kksOk, Bool.and_eq_true] at h
    simp only [List.zip_cons_cons, List.all_cons, Bool.and_eq_true]
    refine ⟨?_, sameBits_cells n h.2 h2⟩
    rcases kk_cases h.1 h1 with ⟨q, i, _, _, rfl, _⟩ | ⟨s, _, _, rfl, _⟩ | ⟨b, _, _, rfl⟩ <;> cases n <;> simp [Instr.sameBits, bytes_beq]
  | [], _ :: _, _, _, h, _ => by simp [kksOk] at h
  | _ :: _, [], _, _, h, _ => by simp [kksOk] at h

theorem cells_same : ∀ {ks : List KK} {xs ys : List AV} {vs us : List Value}, kksOk ks xs = true → kksOk ks ys = true → cellsEq xs ys = true → VRels m X w xs vs → VRels m X w ys us → vs = us
  | [], [], [], vs, us, _, _, _, h1, h2 => by rw [h1.nil', h2.nil']
  | k :: ks, x :: xs, y :: ys, vs, us, g1, g2, he, h1, h2 => by
    obtain ⟨v, vs, rfl, a1, a2⟩ := h1.cons
    obtain ⟨u, us, rfl, b1, b2⟩ := h2.cons
    simp only [kksOk, cellsEq, Bool.and_eq_true] at g1 g2 he
    have := cells_same g1.2 g2.2 he.2 a2 b2
    subst this
    congr 1
    rcases kk_cases g1.1 a1 with ⟨q, n, rfl, rfl, rfl, _⟩ | ⟨s, rfl, rfl, rfl, _⟩ | ⟨c, rfl, rfl, rfl⟩ <;> rcases kk_cases g2.1 b1 with ⟨q', n', hq, rfl, rfl, _⟩ | ⟨s', hq, rfl, rfl, _⟩ | ⟨c', hq, rfl, rfl⟩ <;> cases hq <;> simp [cellEq] at he <;> simp [he.1]
  | [], _ :: _, _, _, _, h, _, _, _, _ => by simp [kksOk] at h
  | [], [], _ :: _, _, _, _, h, _, _, _ => by simp [kksOk] at h
  | _ :: _, [], _, _, _, h, _, _, _, _ => by simp [kksOk] at h
  | _ :: _, _ :: _, [], _, _, _, h, _, _, _ => by simp [kksOk] at h

/-- the key's type is one by itself, or of cells -/
theorem keyK_cases {kt : TypeId} {ks : Bool × List KK} (h : keyK P kt = some ks) :
    (∃ d k, ks = (false, [k]) ∧ P.underlying kt = some d ∧ ((∃ q, d = .int q ∧ k = .int q) ∨ (d = .string ∧ k = .str))) ∨
    (∃ kk, ks = (true, kk) ∧ P.keyTypeAt 8 kt = true ∧ flatK P 8 kt = some kk ∧ (match P.underlying kt with | some (.array _ _) | some (.struct _) => true | _ => false) = true) := by
  unfold keyK at h
  split at h
  · rename_i k hu; cases h; exact .inl ⟨_, _, rfl, hu, .inl ⟨k, rfl, rfl⟩⟩
  · rename_i hu; cases h; exact .inl ⟨_, _, rfl, hu, .inr ⟨rfl, rfl⟩⟩
  · rename_i hu
    split at h
    · rename_i hk
      simp only [Option.map_eq_some_iff] at h
      obtain ⟨kk, h1, rfl⟩ := h
      exact .inr ⟨kk, rfl, hk, h1, by rw [hu]⟩
    · cases h
  · rename_i hu
    split at h
    · rename_i hk
      simp only [Option.map_eq_some_iff] at h
      obtain ⟨kk, h1, rfl⟩ := h
      exact .inr ⟨kk, rfl, hk, h1, by rw [hu]⟩
    · cases h
  · cases h

theorem key_formed {kt : TypeId} {kk : List KK} {xs : List AV} {vs : List Value} (hf : flatK P 8 kt = some kk) (hw : (match P.underlying kt with | some (.array _ _) | some (.struct _) => true | _ => false) = true) (hk : kksOk kk xs = true) (hr : VRels m X w xs vs) :
    (Value.agg vs.toArray).formed P kt = true := by
  have h := keyLits_of 8 kt kk xs vs hf hk hr
  unfold Program.keyLits at h
  unfold Value.formed
  split at hw
  · rename_i n e hu
    rw [hu] at h ⊢
    simp only at h ⊢
    split at h
    · rename_i hl; simpa using hl
    · cases h
  · rename_i fs hu
    rw [hu] at h ⊢
    simp only at h ⊢
    split at h
    · rename_i hl; simpa using hl.1
    · cases h
  · cases hw

theorem keyIs_true {kk : List KK} {k : AV} (h : keyIs (true, kk) k = true) : ∃ xs, k = .agg xs ∧ kksOk kk xs = true := by
  unfold keyIs keyCells at h
  cases k <;> simp at h
  exact ⟨_, rfl, h⟩

theorem checkKey_sound {kt : TypeId} {ks : Bool × List KK} (hks : keyK P kt = some ks) {k : AV} {x : Value} (hi : keyIs ks k = true) (hr : VRel m X w k x) (em : Bool) : (Instr.checkKey em 10000 kt x).run P w = .ok () w := by
  rcases keyK_cases hks with ⟨d, kk, rfl, hu, hd⟩ | ⟨kk, rfl, hty, hf, hw⟩
  · show (Instr.checkKey em (9999 + 1) kt x).run P w = _
    unfold Instr.checkKey
    rcases hd with ⟨q, rfl, _⟩ | ⟨rfl, _⟩ <;> simp only [Sem.run_bind, rUnderlying hu, Result.andThen_ok, Sem.run_pure]
  · obtain ⟨xs, rfl, hi⟩ := keyIs_true hi
    simp only [VRel] at hr
    obtain ⟨vs, rfl, hrs⟩ := hr
    have := run_checkKey_deep em 9992 8 kt hty w 8 (.agg vs.toArray) _ (key_formed hf hw hi hrs) (keyLits_of 8 kt _ _ _ hf hi hrs)
    exact this

def ERels (m : LM) (X : Nat → Prop) (w : World) : List (AV × AV) → List MapEntry → Prop
  | [], [] => True
  | (k, a) :: es, e :: ces => VRel m X w k e.key ∧ VRel m X w a e.val ∧ ERels m X w es ces
  | _, _ => False

theorem ERels_of : ∀ (es : List (AV × AV)) (ces : List MapEntry), ces.length = es.length → (∀ (i : Nat) (k a : AV), es[i]? = some (k, a) → ∃ e : MapEntry, ces[i]? = some e ∧ VRel m X w k e.key ∧ VRel m X w a e.val) → ERels m X w es ces
  | [], [], _, _ => trivial
  | (k, a) :: es, e :: ces, hl, h => by
    obtain ⟨e', h1, h2, h3⟩ := h 0 k a rfl
    simp at h1; subst h1
    exact ⟨h2, h3, ERels_of es ces (by simpa using hl) fun i k a hi => by simpa using h (i + 1) k a (by simpa using hi)⟩
  | [], _ :: _, hl, _ => by simp at hl
  | _ :: _, [], hl, _ => by simp at hl

/-- what is found, on both sides -/
def FRel (m : LM) (X : Nat → Prop) (w : World) (x : Value) (i : Nat) (ces : List MapEntry) : Option (Nat × AV) → Option (Nat × Value) → Prop
  | none, none => True
  | some (j, a), some (j', v) => j = j' ∧ i ≤ j ∧ ∃ e : MapEntry, ces[j - i]? = some e ∧ e.val = v ∧ VRel m X w a v ∧ e.key = x
  | _, _ => False

theorem FRel.next {x : Value} {i : Nat} {e : MapEntry} {ces : List MapEntry} : ∀ {a : Option (Nat × AV)} {b : Option (Nat × Value)}, FRel m X w x (i + 1) ces a b → FRel m X w x i (e :: ces) a b
  | none, none, _ => trivial
  | some (j, a), some (j', v), h => by
    obtain ⟨h1, h2, e', h3, h4, h5, h6⟩ := h
    refine ⟨h1, by omega, e', ?_, h4, h5, h6⟩
    rw [show j - i = (j - (i + 1)) + 1 by omega]; simpa using h3
  | none, some _, h => h.elim
  | some _, none, h => h.elim

theorem findNow_sound {d : TypeDesc} {kk : KK} (hd : (∃ q, d = .int q ∧ kk = .int q) ∨ (d = .string ∧ kk = .str)) {k : AV} {x : Value} (hr : VRel m X w k x) : ∀ (es : List (AV × AV)) (ces : List MapEntry) (i : Nat) (res : Option (Nat × AV)), ERels m X w es ces → findKey (false, [kk]) k es i = some res →
    ∃ res', Instr.findNow d x ces i = some res' ∧ FRel m X w x i ces res res'
  | [], [], i, res, _, h => by simp [findKey] at h; subst h; exact ⟨none, rfl, trivial⟩
  | (k', a) :: es, e :: ces, i, res, he, h => by
    obtain ⟨h1, h2, h3⟩ := he
    simp only [findKey] at h
    have same : ∀ r, keyEqK (false, [kk]) k k' = some r → Instr.sameNow d x e.key = some r ∧ (r = true → e.key = x) := by
      intro r hkr
      simp only [keyEqK, keyCells] at hkr
      split at hkr
      · rename_i hok; cases hkr
        simp only [kksOk, Bool.and_true, Bool.and_eq_true] at hok
        simp only [cellsEq, Bool.and_true]
        rcases hd with ⟨q, rfl, rfl⟩ | ⟨rfl, rfl⟩
        · rcases kk_cases hok.1 hr with ⟨q1, n, hq, rfl, rfl, _⟩ | ⟨s, hq, _⟩ | ⟨c, hq, _⟩ <;> cases hq
          rcases kk_cases hok.2 h1 with ⟨q1, n', hq, rfl, hk, _⟩ | ⟨s, hq, _⟩ | ⟨c, hq, _⟩ <;> cases hq
          rw [hk]
          refine ⟨?_, ?_⟩
          · simp only [Instr.sameNow, if_true, cellEq]; congr 1
          · simp only [cellEq, decide_eq_true_eq]; rintro rfl; rfl
        · rcases kk_cases hok.1 hr with ⟨q1, n, hq, _⟩ | ⟨s, hq, rfl, rfl, _⟩ | ⟨c, hq, _⟩ <;> cases hq
          rcases kk_cases hok.2 h1 with ⟨q1, n', hq, _⟩ | ⟨s', hq, rfl, hk, _⟩ | ⟨c, hq, _⟩ <;> cases hq
          rw [hk]
          refine ⟨?_, ?_⟩
          · simp only [Instr.sameNow, cellEq]; congr 1
            by_cases hss : s = s'
            · subst hss; simp [bytes_beq]
            · have : (s == s') = false := by
                show (s.data == s'.data) = false
                rw [beq_eq_false_iff_ne]
                rintro hh; apply hss; cases s; cases s'; simp at hh; rw [hh]
              simp [hss, this]
          · simp only [cellEq, decide_eq_true_eq]; rintro rfl; rfl
      · cases hkr
    simp only [Instr.findNow]
    split at h
    · rename_i hr'; cases h
      obtain ⟨g1, g2⟩ := same _ hr'
      rw [g1]
      exact ⟨some (i, e.val), rfl, rfl, Nat.le_refl _, e, by simp, rfl, h2, g2 rfl⟩
    · rename_i hr'
      obtain ⟨g1, _⟩ := same _ hr'
      rw [g1]
      obtain ⟨res', g3, g4⟩ := findNow_sound hd hr es ces (i + 1) res h3 h
      exact ⟨res', g3, g4.next⟩
    · cases h
  | [], _ :: _, _, _, h, _ => h.elim
  | _ :: _, [], _, _, h, _ => by simp [ERels] at h

theorem findAsking_sound {kt : TypeId} {kk : List KK} (hty : P.keyTypeAt 8 kt = true) (hf : flatK P 8 kt = some kk) (hw : (match P.underlying kt with | some (.array _ _) | some (.struct _) => true | _ => false) = true) {k : AV} {x : Value} (hr : VRel m X w k x) :
    ∀ (es : List (AV × AV)) (ces : List MapEntry) (i : Nat) (res : Option (Nat × AV)), ERels m X w es ces → findKey (true, kk) k es i = some res → ∃ res', (Instr.findAsking kt x ces i).run P w = .ok res' w ∧ FRel m X w x i ces res res'
  | [], [], i, res, _, h => by simp [findKey] at h; subst h; exact ⟨none, by simp [Instr.findAsking], trivial⟩
  | (k', a) :: es, e :: ces, i, res, he, h => by
    obtain ⟨h1, h2, h3⟩ := he
    simp only [findKey] at h
    have same : ∀ r, keyEqK (true, kk) k k' = some r → (Op.equal kt x e.key).run P w = .ok r w ∧ (r = true → e.key = x) := by
      intro r hkr
      unfold keyEqK at hkr
      split at hkr
      · rename_i xs ys hxs hys
        have ex : k = .agg xs := by cases k <;> simp [keyCells] at hxs; rw [hxs]
        have ey : k' = .agg ys := by cases k' <;> simp [keyCells] at hys; rw [hys]
        subst ex ey
        split at hkr
        · rename_i hok; cases hkr
          simp only [Bool.and_eq_true] at hok
          simp only [VRel] at hr h1
          obtain ⟨vs, rfl, hrs⟩ := hr
          obtain ⟨us, hus, hrs'⟩ := h1
          rw [hus]
          obtain ⟨r', g1, g2⟩ := run_equalIn_deep 9992 8 kt hty w 8 8 (.agg vs.toArray) (.agg us.toArray) _ _ (key_formed hf hw hok.1 hrs) (key_formed hf hw hok.2 hrs') (keyLits_of 8 kt _ _ _ hf hok.1 hrs) (keyLits_of 8 kt _ _ _ hf hok.2 hrs')
          rw [lits_eq hok.1 hok.2] at g2
          have hb : r' = cellsEq xs ys := by
            cases hc : cellsEq xs ys
            · cases r'
              · rfl
              · rw [hc] at g2; exact absurd (g2.1 rfl) (by simp)
            · exact g2.2 hc
          subst hb
          exact ⟨g1, fun hc => by rw [cells_same hok.1 hok.2 hc hrs hrs']⟩
        · cases hkr
      · cases hkr
    simp only [Instr.findAsking]
    split at h
    · rename_i hr'; cases h
      obtain ⟨g1, g2⟩ := same _ hr'
      exact ⟨some (i, e.val), by simp [g1], rfl, Nat.le_refl _, e, by simp, rfl, h2, g2 rfl⟩
    · rename_i hr'
      obtain ⟨g1, _⟩ := same _ hr'
      obtain ⟨res', g3, g4⟩ := findAsking_sound hty hf hw hr es ces (i + 1) res h3 h
      exact ⟨res', by simp [g1, g3], g4.next⟩
    · cases h
  | [], _ :: _, _, _, h, _ => h.elim
  | _ :: _, [], _, _, h, _ => by simp [ERels] at h

theorem findKey_sound {kt : TypeId} {ks : Bool × List KK} (hks : keyK P kt = some ks) {k : AV} {x : Value} (hr : VRel m X w k x) {es : List (AV × AV)} {ces : List MapEntry} {res : Option (Nat × AV)} (he : ERels m X w es ces) (h : findKey ks k es 0 = some res) :
    ∃ res', (Instr.findKey kt x ces).run P w = .ok res' w ∧ FRel m X w x 0 ces res res' := by
  rcases keyK_cases hks with ⟨d, kk, rfl, hu, hd⟩ | ⟨kk, rfl, hty, hf, hw⟩
  · obtain ⟨res', h1, h2⟩ := findNow_sound hd hr es ces 0 res he h
    refine ⟨res', ?_, h2⟩
    simp only [Instr.findKey, Sem.run_bind, rUnderlying hu, Result.andThen_ok, h1, Sem.run_pure]
  · rw [run_findKey_eq _ hw]
    exact findAsking_sound hty hf hw hr es ces 0 res he h

theorem HRel.mapRow (h : HRel m X σ w) {l : Nat} {es : List (AV × AV)} (hc : mapOf σ l = some es) :
    ∃ b ces clock, m l = some b ∧ σ[l]? = some (.map es) ∧ w.heap[b]? = some (.map ces clock) ∧ (∀ e ∈ ces, e.born < clock) ∧ (ces.toList.map (·.born)).Nodup ∧ ces.size = es.length ∧ ERels m X w es ces.toList ∧
      (∀ (i : Nat) (k a : AV), es[i]? = some (k, a) → ∃ e : MapEntry, ces[i]? = some e ∧ VRel m X w k e.key ∧ VRel m X w a e.val) := by
  unfold mapOf at hc
  split at hc
  · rename_i es' ho; cases hc
    have hr := h.obj l _ ho
    cases hm : m l with
    | none => rw [hm] at hr; simp [ORel] at hr
    | some b =>
      rw [hm] at hr
      simp only [ORel] at hr
      obtain ⟨ces, clock, h1, h2, h3, h4, h5⟩ := hr
      exact ⟨b, ces, clock, rfl, ho, h1, h2, h3, h4, ERels_of _ _ (by simpa using h4) (by simpa using h5), h5⟩
  · cases hc

theorem run_setObj' {b : Nat} {es : Array MapEntry} {c : Nat} {o : Obj} (h : w.heap[b]? = some (.map es c)) : (setObj b o).run P w = .ok () (w.putObj b o) := MapKept.run_setObj_map o h

theorem snd_lookup {t kt e : TypeId} {ks : Bool × List KK} {z : AV} {ok : Bool} {x y : Value} {avs : List AV} (h : HRel m X σ w) (hu : P.underlying t = some (.map kt e)) (hks : keyK P kt = some ks) (hz : zeroOf P e = some z) (ha : VRels m X w avs [x, y])
    (hs : f_lookup ks z ok avs σ = some (r, σ')) : Sound P (do pure (.value (← Instr.lookup t x y ok))) m X σ w r σ' := by
  unfold f_lookup at hs
  split at hs
  · rename_i l k
    obtain ⟨x', us, hx, hr, hus⟩ := ha.cons
    obtain ⟨y', hy, hrk⟩ := hus.one
    subst hy; cases hx
    simp only [VRel] at hr; obtain ⟨b, hb, rfl⟩ := hr
    cases hc : mapOf σ l with
    | none => simp [hc] at hs
    | some es =>
      simp only [hc, Option.bind_some] at hs
      split at hs
      · cases hs
      · rename_i hi
        simp only [Option.map_eq_some_iff] at hs
        obtain ⟨res, hres, he⟩ := hs
        obtain ⟨b', ces, clock, g1, _, g2, _, _, _, g3, _⟩ := h.mapRow hc
        rw [hb] at g1; cases g1
        obtain ⟨res', h1, h2⟩ := findKey_sound hks hrk g3 hres
        have hck := checkKey_sound hks (by simpa using hi) hrk ces.isEmpty
        unfold zeroOf at hz
        cases hin : P.info? e with
        | none => rw [hin] at hz; cases hz
        | some inf =>
          rw [hin] at hz
          simp only [Option.bind_some, Option.map_eq_some_iff] at hz
          obtain ⟨z0, hz0, rfl⟩ := hz
          cases res with
          | none =>
            cases res' with
            | some q => exact h2.elim
            | none =>
              simp only [Prod.mk.injEq] at he
              obtain ⟨rfl, rfl⟩ := he
              refine sound_val0 h (v := if ok then .tuple #[z0, .bool false] else z0) ?_ ?_
              · simp only [Instr.lookup, Sem.run_bind, rUnderlying hu, MapKept.run_getObj_map g2, Result.andThen_ok, Sem.run_pure, hck, h1, rZero hin hz0]
              · cases ok
                · exact ofConst_rel z0
                · simp only [if_true, VRel]
                  exact ⟨[z0, .bool false], rfl, by simp only [VRels]; exact ⟨ofConst_rel z0, VRel.mk_bool _, trivial⟩⟩
          | some p =>
            cases res' with
            | none => exact h2.elim
            | some p' =>
              obtain ⟨j, a⟩ := p; obtain ⟨j', v⟩ := p'
              obtain ⟨rfl, _, e', _, rfl, hav, _⟩ := h2
              simp only [Prod.mk.injEq] at he
              obtain ⟨rfl, rfl⟩ := he
              refine sound_val0 h (v := if ok then .tuple #[e'.val, .bool true] else e'.val) ?_ ?_
              · simp only [Instr.lookup, Sem.run_bind, rUnderlying hu, MapKept.run_getObj_map g2, Result.andThen_ok, Sem.run_pure, hck, h1]
              · cases ok
                · exact hav
                · simp only [if_true, VRel]
                  exact ⟨[e'.val, .bool true], rfl, by simp only [VRels]; exact ⟨hav, VRel.mk_bool _, trivial⟩⟩
  · cases hs

theorem key_stays {kt : TypeId} {ks : Bool × List KK} (hks : keyK P kt = some ks) {k : AV} {x : Value} (hi : keyIs ks k = true) (hr : VRel m X w k x) : (Instr.keyThatStays x x).run P w = .ok x w := by
  have : Instr.sameBits 10000 x x = true := by
    rcases keyK_cases hks with ⟨d, kk, rfl, hu, hd⟩ | ⟨kk, rfl, hty, hf, hw⟩
    · simp only [keyIs, keyCells] at hi
      have := sameBits_cells (ks := [kk]) (xs := [k]) (vs := [x]) (m := m) (X := X) (w := w) 10000 hi (by simp only [VRels]; exact ⟨hr, trivial⟩)
      simpa using this
    · obtain ⟨xs, rfl, hi⟩ := keyIs_true hi
      simp only [VRel] at hr
      obtain ⟨vs, rfl, hrs⟩ := hr
      show Instr.sameBits (9999 + 1) _ _ = true
      simp only [Instr.sameBits, beq_self_eq_true, Bool.true_and]
      exact sameBits_cells 9999 hi hrs
  unfold Instr.keyThatStays
  rw [if_pos this]; rfl

theorem snd_mapset {t kt e : TypeId} {ks : Bool × List KK} {x y v : Value} {avs : List AV} (h : HRel m X σ w) (hu : P.underlying t = some (.map kt e)) (hks : keyK P kt = some ks) (ha : VRels m X w avs [x, y, v])
    (hs : f_mapset ks avs σ = some (r, σ')) : Sound P (do Instr.mapUpdate t x y v; pure .skip) m X σ w r σ' := by
  unfold f_mapset at hs
  split at hs
  · rename_i l k a
    obtain ⟨x', us, hx, hr, hus⟩ := ha.cons
    obtain ⟨y', us', hy, hrk, hus'⟩ := hus.cons
    obtain ⟨v', hv, hra⟩ := hus'.one
    subst hv; cases hy; cases hx
    simp only [VRel] at hr; obtain ⟨b, hb, rfl⟩ := hr
    cases hc : mapOf σ l with
    | none => simp [hc] at hs
    | some es =>
      simp only [hc, Option.bind_some] at hs
      split at hs
      · cases hs
      · rename_i hi
        have hi' : keyIs ks k = true := by simpa using hi
        simp only [Option.map_eq_some_iff, Prod.mk.injEq] at hs
        obtain ⟨res, hres, rfl, rfl⟩ := hs
        obtain ⟨b', ces, clock, g1, hl, g2, hborn, hnd, hsz, g3, g4⟩ := h.mapRow hc
        rw [hb] at g1; cases g1
        obtain ⟨res', h1, h2⟩ := findKey_sound hks hrk g3 hres
        have hck := checkKey_sound hks hi' hrk false
        cases res with
        | none =>
          cases res' with
          | some q => exact h2.elim
          | none =>
            have ht : Turned w (w.putObj b (.map (ces.push { key := y, val := v, born := clock }) (clock + 1))) b := Turned.obj w _ g2 (by simp)
            obtain ⟨q1, q2, q3⟩ := h.turn hb hl trivial ht (o' := .map (mapPut es k a none)) (fun hm => by
              simp only [ORel, mapPut]
              refine ⟨_, _, World.putObj_heap_same (lt_of_heap g2), ?_, ?_, by simp [hsz], ?_⟩
              · intro e' he'
                rcases Array.mem_push.1 he' with he' | rfl
                · exact Nat.lt_succ_of_lt (hborn e' he')
                · exact Nat.lt_succ_self _
              · simp only [Array.toList_push, List.map_append, List.map_cons, List.map_nil]
                refine List.nodup_append.2 ⟨hnd, by simp, ?_⟩
                intro p hp q hq
                simp only [List.mem_singleton] at hq
                subst hq
                obtain ⟨e', he', rfl⟩ := List.mem_map.1 hp
                exact Nat.ne_of_lt (hborn e' (by simpa using he'))
              · intro i k' a' hi
                rcases Nat.lt_or_ge i es.length with hlt | hge
                · rw [List.getElem?_append_left hlt] at hi
                  obtain ⟨e', p1, p2, p3⟩ := g4 i k' a' hi
                  exact ⟨e', by rw [Array.getElem?_push, if_neg (by omega)]; exact p1, p2.mono hm _ _, p3.mono hm _ _⟩
                · rw [List.getElem?_append_right hge] at hi
                  have hil : i = es.length := by
                    have := (List.getElem?_eq_some_iff.1 hi).1
                    simp at this; omega
                  subst hil
                  simp at hi
                  obtain ⟨rfl, rfl⟩ := hi
                  exact ⟨{ key := y, val := v, born := clock }, by rw [Array.getElem?_push, if_pos hsz.symm], hrk.mono hm _ _, hra.mono hm _ _⟩)
            refine sound_unit ?_ q1 q2
            simp only [Instr.mapUpdate, Sem.run_bind, rUnderlying hu, MapKept.run_getObj_map g2, Result.andThen_ok, Sem.run_pure, hck, h1]
            exact run_setObj' g2
        | some p =>
          cases res' with
          | none => exact h2.elim
          | some p' =>
            obtain ⟨j, a0⟩ := p; obtain ⟨j', v0⟩ := p'
            obtain ⟨rfl, _, e0, hj, rfl, _, hkey⟩ := h2
            have hj' : ces[j]? = some e0 := by simpa using hj
            have ht : Turned w (w.putObj b (.map (ces.modify j fun e => { e with key := y, val := v }) clock)) b := Turned.obj w _ g2 (by simp)
            have hbs : (ces.modify j fun e => { e with key := y, val := v }).toList.map (·.born) = ces.toList.map (·.born) := by
              apply List.ext_getElem?
              intro q
              simp only [List.getElem?_map, Array.getElem?_toList, Array.getElem?_modify]
              split <;> cases ces[q]? <;> simp
            obtain ⟨q1, q2, q3⟩ := h.turn hb hl trivial ht (o' := .map (mapPut es k a (some (j, a0)))) (fun hm => by
              simp only [ORel, mapPut]
              refine ⟨_, _, World.putObj_heap_same (lt_of_heap g2), ?_, by rw [hbs]; exact hnd, by simp [hsz], ?_⟩
              · intro e' he'
                have : e'.born ∈ ces.toList.map (·.born) := by
                  rw [← hbs]; exact List.mem_map.2 ⟨e', Array.mem_toList_iff.2 he', rfl⟩
                obtain ⟨e2, p1, p2⟩ := List.mem_map.1 this
                have := hborn e2 (Array.mem_toList_iff.1 p1)
                omega
              · intro i k' a' hi
                rw [List.getElem?_set] at hi
                by_cases hij : j = i
                · subst hij
                  rw [if_pos rfl] at hi
                  split at hi
                  · simp at hi
                    obtain ⟨rfl, rfl⟩ := hi
                    exact ⟨{ e0 with key := y, val := v }, by simp [Array.getElem?_modify, hj'], hrk.mono hm _ _, hra.mono hm _ _⟩
                  · cases hi
                · rw [if_neg hij] at hi
                  obtain ⟨e', p1, p2, p3⟩ := g4 i k' a' hi
                  exact ⟨e', by rw [Array.getElem?_modify, if_neg hij]; exact p1, p2.mono hm _ _, p3.mono hm _ _⟩)
            refine sound_unit ?_ q1 q2
            have hst : (Instr.keyThatStays (((ces[j]?).map (·.key)).getD y) y).run P w = .ok y w := by
              rw [hj']; simp only [Option.map_some, Option.getD_some]
              rw [hkey]; exact key_stays hks hi' hrk
            simp only [Instr.mapUpdate, Sem.run_bind, rUnderlying hu, MapKept.run_getObj_map g2, Result.andThen_ok, Sem.run_pure, hck, h1, hst]
            exact run_setObj' g2
  · cases hs

/-! ### Structs compared -/

theorem eqK_sound {kt : TypeId} {kk : List KK} (hty : P.keyTypeAt 8 kt = true) (hf : flatK P 8 kt = some kk) (hw : (match P.underlying kt with | some (.array _ _) | some (.struct _) => true | _ => false) = true) {k k' : AV} {x y : Value} (hr : VRel m X w k x) (h1 : VRel m X w k' y) :
    ∀ r, keyEqK (true, kk) k k' = some r → (Op.equal kt x y).run P w = .ok r w ∧ (r = true → y = x) := by
  intro r hkr
  unfold keyEqK at hkr
  split at hkr
  · rename_i xs ys hxs hys
    have ex : k = .agg xs := by cases k <;> simp [keyCells] at hxs; rw [hxs]
    have ey : k' = .agg ys := by cases k' <;> simp [keyCells] at hys; rw [hys]
    subst ex ey
    split at hkr
    · rename_i hok; cases hkr
      simp only [Bool.and_eq_true] at hok
      simp only [VRel] at hr h1
      obtain ⟨vs, rfl, hrs⟩ := hr
      obtain ⟨us, hus, hrs'⟩ := h1
      rw [hus]
      obtain ⟨r', g1, g2⟩ := run_equalIn_deep 9992 8 kt hty w 8 8 (.agg vs.toArray) (.agg us.toArray) _ _ (key_formed hf hw hok.1 hrs) (key_formed hf hw hok.2 hrs') (keyLits_of 8 kt _ _ _ hf hok.1 hrs) (keyLits_of 8 kt _ _ _ hf hok.2 hrs')
      rw [lits_eq hok.1 hok.2] at g2
      have hb : r' = cellsEq xs ys := by
        cases hc : cellsEq xs ys
        · cases r'
          · rfl
          · rw [hc] at g2; exact absurd (g2.1 rfl) (by simp)
        · exact g2.2 hc
      subst hb
      exact ⟨g1, fun hc => by rw [cells_same hok.1 hok.2 hc hrs hrs']⟩
    · cases hkr
  · cases hkr

theorem keyK_agg {t : TypeId} {kk : List KK} (h : keyK P t = some (true, kk)) : P.keyTypeAt 8 t = true ∧ flatK P 8 t = some kk ∧ (match P.underlying t with | some (.array _ _) | some (.struct _) => true | _ => false) = true := by
  unfold keyK at h
  split at h
  · cases h
  · cases h
  · rename_i hu
    split at h
    · rename_i hk
      simp only [Option.map_eq_some_iff, Prod.mk.injEq, true_and] at h
      obtain ⟨ks, h1, rfl⟩ := h
      exact ⟨hk, h1, by rw [hu]⟩
    · cases h
  · rename_i hu
    split at h
    · rename_i hk
      simp only [Option.map_eq_some_iff, Prod.mk.injEq, true_and] at h
      obtain ⟨ks, h1, rfl⟩ := h
      exact ⟨hk, h1, by rw [hu]⟩
    · cases h
  · cases h

theorem keyEq_agg {kk : List KK} {a b : AV} {r : Bool} (h : keyEqK (true, kk) a b = some r) : ∃ xs ys, a = .agg xs ∧ b = .agg ys := by
  unfold keyEqK at h
  split at h
  · rename_i xs ys hxs hys
    exact ⟨xs, ys, by cases a <;> simp [keyCells] at hxs; rw [hxs], by cases b <;> simp [keyCells] at hys; rw [hys]⟩
  · cases h

theorem snd_eqS {t : TypeId} {kk : List KK} {xo yo : Operand} {x y : Value} {avs : List AV} (h : HRel m X σ w) (hg : P.eqGuardType P.depth t = false) (hk : keyK P t = some (true, kk)) (ha : VRels m X w avs [x, y])
    (hs : stepF (.eqS false (true, kk)) avs σ = some (r, σ')) : Sound P (do pure (.value (← (do eqGuard .eql t xo yo x y; binOp .eql t x y)))) m X σ w r σ' := by
  simp only [stepF, f_eqS] at hs
  split at hs
  · rename_i a b
    simp only [Option.map_eq_some_iff] at hs
    obtain ⟨v, hv, he⟩ := hs; cases he
    obtain ⟨x', us, hx, hr, hus⟩ := ha.cons; cases hx
    obtain ⟨y', hy, hra⟩ := hus.one; cases hy
    obtain ⟨k1, k2, k3⟩ := keyK_agg hk
    have he := (eqK_sound k1 k2 k3 hr hra v hv).1
    obtain ⟨xs, ys, rfl, rfl⟩ := keyEq_agg hv
    simp only [VRel] at hr hra
    obtain ⟨vs, rfl, _⟩ := hr
    obtain ⟨us, rfl, _⟩ := hra
    refine sound_val0 h (v := .bool v) ?_ (by simpa using VRel.mk_bool _)
    simp [eqGuard, binOp, he, hg]
  · cases hs

theorem snd_neS {t : TypeId} {kk : List KK} {xo yo : Operand} {x y : Value} {avs : List AV} (h : HRel m X σ w) (hg : P.eqGuardType P.depth t = false) (hk : keyK P t = some (true, kk)) (ha : VRels m X w avs [x, y])
    (hs : stepF (.eqS true (true, kk)) avs σ = some (r, σ')) : Sound P (do pure (.value (← (do eqGuard .neq t xo yo x y; binOp .neq t x y)))) m X σ w r σ' := by
  simp only [stepF, f_eqS] at hs
  split at hs
  · rename_i a b
    simp only [Option.map_eq_some_iff] at hs
    obtain ⟨v, hv, he⟩ := hs; cases he
    obtain ⟨x', us, hx, hr, hus⟩ := ha.cons; cases hx
    obtain ⟨y', hy, hra⟩ := hus.one; cases hy
    obtain ⟨k1, k2, k3⟩ := keyK_agg hk
    have he := (eqK_sound k1 k2 k3 hr hra v hv).1
    obtain ⟨xs, ys, rfl, rfl⟩ := keyEq_agg hv
    simp only [VRel] at hr hra
    obtain ⟨vs, rfl, _⟩ := hr
    obtain ⟨us, rfl, _⟩ := hra
    refine sound_val0 h (v := .bool (!v)) ?_ (by simpa using VRel.mk_bool _)
    simp [eqGuard, binOp, he, hg]
  · cases hs

/-! ### Ranging over a string -/

theorem siterOf_some {σ : List AObj} {l : Nat} {s : ByteArray} {p : Nat} (h : siterOf σ l = some (s, p)) : σ[l]? = some (.siter s p) := by
  unfold siterOf at h
  split at h
  · rename_i s' p' ho; cases h; exact ho
  · cases h

theorem run_getObj_si {r : Nat} {s : ByteArray} {p : Nat} (h : w.heap[r]? = some (.stringIter s p)) : (getObj r).run P w = .ok (.stringIter s p) w := by simp [getObj, Sem.run, h]
theorem run_setObj_si {r : Nat} {s : ByteArray} {p : Nat} (o : Obj) (h : w.heap[r]? = some (.stringIter s p)) : (setObj r o).run P w = .ok () (w.putObj r o) := by simp [setObj, Sem.run, h, World.putObj]

theorem snd_rstr {t : TypeId} {x : Value} {avs : List AV} (h : HRel m X σ w) (hu : P.underlying t = some .string) (ha : VRels m X w avs [x])
    (hs : f_rstr avs σ = some (r, σ')) : Sound P (do pure (.value (← Instr.range t x))) m X σ w r σ' := by
  unfold f_rstr at hs
  split at hs
  · rename_i s
    cases hs
    obtain ⟨v, hv, hr⟩ := ha.one; cases hv
    simp only [VRel, CV.rep] at hr
    subst hr
    obtain ⟨h1, h2, h3⟩ := h.alloc (.stringIter s 0) (.siter s 0) (fun hm => by simp only [ORel]; exact heap_alloc_new _ _)
    refine sound_val (v := .pointer (some ⟨w.heap.size, 0, none⟩)) ?_ ?_ h1 h2
    · simp [Instr.range, rUnderlying hu]
    · simp only [VRel]; exact ⟨_, LM.put_same _ _ _, rfl⟩
  · cases hs

theorem snd_snext {ty : TypeId} {x : Value} {avs : List AV} (h : HRel m X σ w) (ha : VRels m X w avs [x])
    (hs : f_snext avs σ = some (r, σ')) : Sound P (do pure (.value (← Instr.next x true ty))) m X σ w r σ' := by
  unfold f_snext at hs
  split at hs
  · rename_i l
    obtain ⟨v, hv, hr⟩ := ha.one; cases hv
    simp only [VRel] at hr; obtain ⟨b, hb, rfl⟩ := hr
    simp only [Option.map_eq_some_iff] at hs
    obtain ⟨⟨s, p⟩, hsp, he⟩ := hs
    have ho := siterOf_some hsp
    have hob := h.obj l _ ho
    rw [hb] at hob
    simp only [ORel] at hob
    by_cases hlt : p < s.size
    · simp only [hlt, if_true] at he
      cases he
      have ht : Turned w (w.putObj b (.stringIter s (p + (Utf8.decode s p).2))) b := Turned.obj w _ hob (by simp)
      obtain ⟨q1, q2, q3⟩ := h.turn hb ho trivial ht (o' := .siter s (p + (Utf8.decode s p).2)) (fun hm => by
        simp only [ORel]; exact World.putObj_heap_same (lt_of_heap hob))
      refine sound_val (v := .tuple #[.bool true, .int .i64 p, .int .i32 (Utf8.decode s p).1]) ?_ ?_ q1 q2
      · simp [Instr.next, run_getObj_si hob, hlt, run_setObj_si _ hob, goInt]
      · simp only [VRel]
        exact ⟨_, rfl, by simp [VRels, VRel, CV.rep]⟩
    · simp only [hlt, if_false] at he
      cases he
      refine sound_val0 h (v := .tuple #[.bool false]) ?_ (by simp only [VRel]; exact ⟨_, rfl, by simp [VRels, VRel, CV.rep]⟩)
      simp [Instr.next, run_getObj_si hob, hlt]
  · cases hs

end Go.Proofs.Ytphdemhopihpnaa.AM


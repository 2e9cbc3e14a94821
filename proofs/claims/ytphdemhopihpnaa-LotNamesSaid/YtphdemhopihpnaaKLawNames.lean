/- The law LotNames, by the contracts. -/
import Derived.Test.YtphdemhopihpnaaKLotN3
import Derived.Test.YtphdemhopihpnaaZ49
import Derived.Test.YtphdemhopihpnaaZ46
import Derived.Test.YtphdemhopihpnaaKLibC
import Derived.Test.YtphdemhopihpnaaKLotU8
import Derived.Test.YtphdemhopihpnaaKLotI15
namespace Go.Proofs.Ytphdemhopihpnaa.AM
open Go
set_option linter.unusedVariables false
set_option linter.unusedSimpArgs false
set_option maxRecDepth 20000

theorem app_rsl {e by_ l n m : Nat} {σ : List AObj} {xs cs : List CV} (hr : rowOf σ l = some (xs.map .cv)) (hx : xs.length = n * e) (hc : cs.length = m * e) (hb : (n + m) * by_ ≤ 2 ^ 44) (hn : n + m ≤ 2 ^ 44) :
    f_append e by_ [.sl l 0 n e, .cv (.rsl cs m)] σ = some (.sl σ.length 0 (n + m) e, σ.set l .dead ++ [.cells ((xs ++ cs).map .cv)]) := by
  simp only [f_append, hr, srcCells, hc, if_true, lenF, Option.bind_some]
  have h1 : True ∧ n * e ≤ (xs.map AV.cv).length ∧ m * e = (cs.map AV.cv).length ∧ (n + m) * by_ ≤ 2 ^ 44 ∧ n + m ≤ 2 ^ 44 ∧ (cs.map AV.cv).all AV.isSc = true := ⟨trivial, by simp [hx], by simp [hc], hb, hn, sc_cv cs⟩
  rw [if_pos h1, List.take_of_length_le (by simp [hx]), List.map_append]
theorem app_src {e by_ l n m : Nat} {σ : List AObj} {xs cs : List CV} {w : AV} (hr : rowOf σ l = some (xs.map .cv)) (hs : srcCells σ e w = some (cs.map .cv)) (hw : lenF w = some m) (hx : xs.length = n * e) (hc : cs.length = m * e) (hb : (n + m) * by_ ≤ 2 ^ 44) (hn : n + m ≤ 2 ^ 44) :
    f_append e by_ [.sl l 0 n e, w] σ = some (.sl σ.length 0 (n + m) e, σ.set l .dead ++ [.cells ((xs ++ cs).map .cv)]) := by
  simp only [f_append, hr, hs, hw, Option.bind_some]
  have h1 : True ∧ n * e ≤ (xs.map AV.cv).length ∧ m * e = (cs.map AV.cv).length ∧ (n + m) * by_ ≤ 2 ^ 44 ∧ n + m ≤ 2 ^ 44 ∧ (cs.map AV.cv).all AV.isSc = true := ⟨trivial, by simp [hx], by simp [hc], hb, hn, sc_cv cs⟩
  rw [if_pos h1, List.take_of_length_le (by simp [hx]), List.map_append]

theorem c15_bad (ts ks : List Int) (xs : List Nat) (ht : ts.length < 2 ^ 63) (hk : ks.length < 2 ^ 63) (h38 : PC Try.prog 38 [drw ts ks] (.b false)) {x y e : Int} (hv : checkV ts ks = tup3 x y e) (he : e ≠ 0) : AC Try.prog 15 [drw ts ks, u8s xs] [] fun r _ => r = .b true := by
  refine AC_FE (fok15 true) (Nat.le_of_ble_eq_true rfl) ?_
  have hi2 : ∀ e : Int, (e == e) = true := fun e => by simp
  have hbe : (e != 0) = true := by simpa using he
  simp only [ic15, f_box, cellsOf, evA, if_true, if_false, beq_false, simprocAttr]
  refine (c26_err ts ks ht hk hv he).call frz ?_
  simp only [evA, if_true, if_false, beq_false, simprocAttr]
  refine (c32_err ts ks ht hk hv he).call ?_
  simp only [evA, if_true, if_false, beq_false, simprocAttr]
  refine h38.call frz ?_
  simp only [hbe, hi2, evA, if_true, if_false, beq_false, simprocAttr]
  refine (awake _).run ?_
  simp only [evA, if_true, if_false, beq_false, simprocAttr]

/-- an order, as numbers -/
abbrev zoF (xs : List Nat) (i : Nat) : List Int := natI (ordF xs i)
theorem zoF_len (xs : List Nat) (i : Nat) : (zoF xs i).length = i := by simp [ordF_len]
theorem zoF_succ (xs : List Nat) (i : Nat) : zoF xs (i + 1) = (zoF xs i).take (turnF xs i % (i + 1)) ++ [(i : Int)] ++ (zoF xs i).drop (turnF xs i % (i + 1)) := by
  simp [zoF, natI, ordF]

theorem c15_ok (ts ks : List Int) (xs : List Nat) (hx : ∀ x ∈ xs, x ≤ 255) (hxl : xs.length < 2 ^ 63) (ht : ts.length < 2 ^ 63) (hk : ks.length < 2 ^ 63) (h38 : PC Try.prog 38 [drw ts ks] (.b true)) (hv : checkV ts ks = tup3 0 0 0) (hok : DrawOk ts ks) : AC Try.prog 15 [drw ts ks, u8s xs] [] fun r _ => r = .b true := by
  have hkl := hok.kl
  have htl := hok.tl
  have hi2 : ∀ e : Int, (e == e) = true := fun e => by simp
  have hd2 : ∀ l : List Int, decide (l = l) = true := fun l => by simp
  have h32 := c32_ok ts ks ht hk hv hok
  have h26 := c26_ok ts ks ht hk hv hok
  have hp := perK_ok xs ts.length ks
  have hok' := per_draw (xs := xs) hok
  have hol := ordF_len xs ts.length
  have hpl := perL_len (ordF xs ts.length) ts
  rw [hol] at hpl
  have h32' := c32_ok _ _ (by omega) (by rw [hp.hl]; exact hk) (checkV_ok hok') hok'
  have h26' := c26_ok _ _ (by omega) (by rw [hp.hl]; exact hk) (checkV_ok hok') hok'
  rw [short_per hp rfl] at h32'
  rw [hp.hl, waysF_per hp _ _ (Nat.le_refl _) rfl] at h26'
  have hsl : (shortQ ts ks).length < 2 ^ 63 := by
    unfold shortQ
    split
    · rcases bestF_is (n := ks.length) (lack_ne (ts := ts) (ks := ks)) (2 ^ ks.length) with ⟨h, _⟩ | ⟨s', _, _, h, _⟩
      · rw [h]; simp
      · rw [h]; have := setL_len ks.length s'; omega
    · simp
  generalize shortQ ts ks = sq at h32 h32' hsl
  generalize waysF ks ks.length ts = W at h26 h26'
  refine AC_SW (fok15 true) (Nat.le_of_ble_eq_true rfl) ?_
  simp only [ic15]
  refine SW_seq ?_
  simp only [f_box, cellsOf, kSW_n, evA, if_true, if_false, beq_false, simprocAttr]
  refine SW_seq ?_
  simp only [kSW_n, evA, if_true, if_false, beq_false, simprocAttr]
  refine h26.call frz ?_
  simp only [kSW_n, evA, if_true, if_false, beq_false, simprocAttr]
  refine SW_seq ?_
  simp only [kSW_n, evA, if_true, if_false, beq_false, simprocAttr]
  refine h32.call ?_
  simp only [kSW_n, evA, if_true, if_false, beq_false, simprocAttr]
  refine SW_seq ?_
  simp only [kSW_n, evA, if_true, if_false, beq_false, simprocAttr]
  refine h38.call frz ?_
  simp only [kSW_n, evA, if_true, if_false, beq_false, simprocAttr]
  refine SW_seq ?_
  simp only [kSW_n, evA, if_true, if_false, beq_false, simprocAttr]
  refine SW.weak (Weak.turn (vals2 := [drw ts ks, u8s xs, .ptr 0 0, .b false, .i W, .i 0, ints sq, .i 0, ints (zoF xs 0), .undef, .undef, .undef, .undef, .undef, .undef, .undef, .undef, .undef, .undef, .undef, .undef, .undef, .undef, .undef, .undef, .undef]) (τ := [.cells [ints ts, ints ks]]) (τ2 := [.cells [ints ts, ints ks]]) (J := []) rfl rfl ?_ ?_) ?_
  · have u : ∀ (σ : List AObj) (a : AV), Turn1 1 σ a .undef := fun σ a => .inr (.un _)
    exact .cons (.inl ⟨rfl, rfl⟩) (.cons (.inl ⟨rfl, rfl⟩) (.cons (.inl ⟨rfl, rfl⟩) (.cons (.inl ⟨rfl, rfl⟩) (.cons (.inl ⟨rfl, rfl⟩) (.cons (.inl ⟨rfl, rfl⟩) (.cons (.inl ⟨rfl, rfl⟩) (.cons (.inl ⟨rfl, rfl⟩) (.cons (.inr (.c .nl)) (.cons (u _ _) (.cons (u _ _) (.cons (u _ _) (.cons (u _ _) (.cons (u _ _) (.cons (u _ _) (.cons (u _ _) (.cons (u _ _) (.cons (u _ _) (.cons (u _ _) (.cons (u _ _) (.cons (u _ _) (.cons (u _ _) (.cons (u _ _) (.cons (u _ _) (.cons (u _ _) (.cons (u _ _) .nil)))))))))))))))))))))))))
  · intro l o2 ho
    match l, ho with
    | 0, ho => cases ho; exact ⟨_, rfl, trivial, .inl ⟨rfl, rfl⟩⟩
    | l + 1, ho => cases ho
  refine SW_seq ?_
  simp only [kSW_n, evA, if_true, if_false, beq_false, simprocAttr]
  refine IL_for ts.length (fun i st => ∃ v21, st = ⟨[drw ts ks, u8s xs, .ptr 0 0, .b false, .i W, .i 0, ints sq, .i 0, ints (zoF xs i), .i i, .undef, .undef, .undef, .undef, .undef, .undef, .undef, .undef, .undef, .undef, .undef, v21, .undef, .undef, .undef, .undef], [.cells [ints ts, ints ks]]⟩) ?_ 0 (Nat.zero_le _) ⟨_, rfl⟩
  rintro i st hi ⟨v21, rfl⟩
  by_cases h : i < ts.length
  · have hws : IntKind.i64.wrap ((i : Int) + 1) = ((i + 1 : Nat) : Int) := wrap_succ (by omega)
    have hzl := zoF_len xs i
    have hzs := zoF_succ xs i
    have ham : turnF xs i % (i + 1) < i + 1 := Nat.mod_lt _ (by omega)
    have hne : ¬ (((i + 1 : Nat) : Int) = 0) := by omega
    have htu := turnF_le hx i
    have hmod : ((turnF xs i : Nat) : Int).tmod ((i + 1 : Nat) : Int) = ((turnF xs i % (i + 1) : Nat) : Int) := by rw [Int.tmod_eq_emod_of_nonneg (by omega)]; rfl
    have h46 := c46 xs i hx hxl (by omega)
    generalize turnF xs i = u at hzs ham hmod htu h46
    generalize u % (i + 1) = a at hzs ham hmod
    generalize zoF xs (i + 1) = zo' at hzs
    generalize zoF xs i = zo at hzl hzs
    have u1 : (zo.take a).length = a := by simp; omega
    have u2 : (zo.drop a).length = i - a := by simp [hzl]
    have f1 : ∀ σ, f_slS 1 false true [ints zo, .cv (.int .i64 a)] σ = some (.cv (.rsl ((zo.take a).map (.int .i64)) a), σ) := fun σ => sl_ints (by omega) σ
    have f2 : ∀ σ, f_slS 1 true false [ints zo, .cv (.int .i64 a)] σ = some (.cv (.rsl ((zo.drop a).map (.int .i64)) (i - a)), σ) := fun σ => by
      rw [sr_rsl (by omega) (by simp), hzl]; simp
    have hgcs : (zo.take a).map (CV.int .i64) ++ [CV.int .i64 i] ++ (zo.drop a).map (CV.int .i64) = zo'.map (CV.int .i64) := by rw [hzs]; simp
    have hb1 : f_append 1 8 [.sl 1 0 0 1, .cv (.rsl ((zo.take a).map (.int .i64)) a)] [.cells [ints ts, ints ks], .cells []] = some (.sl 2 0 a 1, [.cells [ints ts, ints ks], .dead, .cells (((zo.take a).map (CV.int .i64)).map .cv)]) := by
      rw [app_rsl (xs := []) rfl rfl (by rw [List.length_map, u1, Nat.mul_one]) (by omega) (by omega), Nat.zero_add]; rfl
    have hb2 : f_append 1 8 [.sl 2 0 a 1, .sl 3 0 1 1] [.cells [ints ts, ints ks], .dead, .cells (((zo.take a).map (CV.int .i64)).map .cv), .cells [.i i]] = some (.sl 4 0 (a + 1) 1, [.cells [ints ts, ints ks], .dead, .dead, .cells [.i i], .cells (((zo.take a).map (CV.int .i64) ++ [CV.int .i64 i]).map .cv)]) := by
      rw [app_src (cs := [CV.int .i64 i]) (m := 1) rfl rfl rfl (by rw [List.length_map, u1, Nat.mul_one]) rfl (by omega) (by omega)]; rfl
    have hb3 : f_append 1 8 [.sl 4 0 (a + 1) 1, .cv (.rsl ((zo.drop a).map (.int .i64)) (i - a))] [.cells [ints ts, ints ks], .dead, .dead, .cells [.i i], .cells (((zo.take a).map (CV.int .i64) ++ [CV.int .i64 i]).map .cv)] = some (.sl 5 0 (a + 1 + (i - a)) 1, [.cells [ints ts, ints ks], .dead, .dead, .cells [.i i], .dead, .cells ((zo'.map (CV.int .i64)).map .cv)]) := by
      rw [app_rsl rfl (by rw [List.length_append, List.length_map, u1]; simp) (by rw [List.length_map, u2, Nat.mul_one]) (by omega) (by omega), hgcs]; rfl
    have hzl' : zo'.length = a + 1 + (i - a) := by rw [hzs]; simp; omega
    simp only [ic15l3, Int.ofNat_lt, h, evA, if_true, if_false, beq_false, simprocAttr]
    refine h46.call frz ?_
    simp only [hzl, hws, hne, hmod, evA, if_true, if_false, beq_false, simprocAttr]
    refine DW_s [] [(0, 6), (4, 6), (6, 0), (6, 4)] hmix (by kernel_rfl) rfl ?_
    simp only [f1, f2, hb1, hb2, hb3, hws, evA, if_true, if_false, beq_false, simprocAttr]
    refine kFor_turn [.cells [ints ts, ints ks]] [.cells [ints ts, ints ks]] _ rfl (by first | trivial | omega) rfl rfl (.cons (.inl ⟨rfl, rfl⟩) (.cons (.inl ⟨rfl, rfl⟩) (.cons (.inl ⟨rfl, rfl⟩) (.cons (.inl ⟨rfl, rfl⟩) (.cons (.inl ⟨rfl, rfl⟩) (.cons (.inl ⟨rfl, rfl⟩) (.cons (.inl ⟨rfl, rfl⟩) (.cons (.inl ⟨rfl, rfl⟩) (.cons (.inr ?_) (.cons (.inl ⟨rfl, rfl⟩) (.cons (.inr (.un _)) (.cons (.inr (.un _)) (.cons (.inr (.un _)) (.cons (.inr (.un _)) (.cons (.inr (.un _)) (.cons (.inr (.un _)) (.cons (.inr (.un _)) (.cons (.inr (.un _)) (.cons (.inr (.un _)) (.cons (.inr (.un _)) (.cons (.inr (.un _)) (.cons (.inl ⟨rfl, rfl⟩) (.cons (.inr (.un _)) (.cons (.inr (.un _)) (.cons (.inr (.un _)) (.cons (.inr (.un _)) .nil)))))))))))))))))))))))))) ?_ ⟨_, rfl⟩
    · show FrzV _ _ _ (ints zo')
      rw [← hzl']
      exact sl_frz (rest := []) (by simp [rowOf]) (by rw [List.length_map, Nat.mul_one]) fun _ _ => trivial
    · intro l o2 ho
      match l, ho with
      | 0, ho => cases ho; exact ⟨_, rfl, trivial, .inl ⟨rfl, rfl⟩⟩
      | l + 1, ho => cases ho
  have : i = ts.length := by omega
  subst this
  simp only [ic15l3, Int.ofNat_lt, h, kSW_n, evA, if_true, if_false, beq_false, simprocAttr]
  refine SW_seq ?_
  simp only [kSW_n, evA, if_true, if_false, beq_false, simprocAttr]
  have hzl := zoF_len xs ts.length
  have hget : ∀ i, i < ts.length → (zoF xs ts.length)[i]?.getD 0 = (((ordF xs ts.length)[i]?.getD 0 : Nat) : Int) := fun i hi => by
    simp [zoF, natI, show i < (ordF xs ts.length).length by omega]
  have hoL := fun i (hi : i < ts.length) => hp.lt hi
  have hT1 : ∀ i, i < ts.length → (perL (ordF xs ts.length) ts).take (i + 1) = (perL (ordF xs ts.length) ts).take i ++ [ts[(ordF xs ts.length)[i]?.getD 0]?.getD 0] := fun i hi => by
    rw [List.take_add_one, List.getElem?_eq_getElem (by omega)]
    congr 1
    simp [perL, show i < (ordF xs ts.length).length by omega]
  have hK1 : ∀ t, t < ks.length → (perK (ordF xs ts.length) ks).take (t + 1) = (perK (ordF xs ts.length) ks).take t ++ [((ofB ts.length fun i => (ks[t]?.getD 0).toNat.testBit ((ordF xs ts.length)[i]?.getD 0) : Nat) : Int)] := fun t ht => by
    rw [List.take_add_one, List.getElem?_eq_getElem (by rw [hp.hl]; exact ht)]
    congr 1
    simp [perK, hol, ht]
  have hpK := hp.hl
  have hT2 : (perL (ordF xs ts.length) ts).take ts.length = perL (ordF xs ts.length) ts := List.take_of_length_le (by omega)
  have hK2 : (perK (ordF xs ts.length) ks).take ks.length = perK (ordF xs ts.length) ks := List.take_of_length_le (by omega)
  clear hp hok'
  generalize zoF xs ts.length = zo at hzl hget ⊢
  generalize ordF xs ts.length = o at *
  refine SW_seq ?_
  simp only [kSW_n, evA, if_true, if_false, beq_false, simprocAttr]
  refine IL_for ts.length (fun i st => ∃ v σ v22, AccFrom 2 σ v ((perL o ts).take i) ∧ rowOf σ 0 = some [ints ts, ints ks] ∧ rowOf σ 1 = some [v, .cv .nils] ∧ st = ⟨[drw ts ks, u8s xs, .ptr 0 0, .b false, .i W, .i 0, ints sq, .i 0, ints zo, .i ts.length, .undef, .ptr 1 0, .i i, .undef, .undef, .undef, .undef, .undef, .undef, .undef, .undef, .b false, v22, .undef, .undef, .undef], σ⟩) ?_ 0 (Nat.zero_le _) ⟨_, _, _, by rw [List.take_zero]; exact AccFrom.nil (Nat.le_refl _), rfl, rfl, rfl⟩
  rintro i st hi2' ⟨v, σ, v22, hA, hr0, hr1, rfl⟩
  by_cases h2 : i < ts.length
  · have hws : IntKind.i64.wrap ((i : Int) + 1) = ((i + 1 : Nat) : Int) := wrap_succ (by omega)
    have hr0' := fun x => rowOf_push hr0 x
    have hr1' := fun x => rowOf_push hr1 x
    have hgi := hget i h2
    have hoi := hoL i h2
    have hTi := hT1 i h2
    generalize o[i]?.getD 0 = j at hgi hoi hTi
    obtain ⟨v', σ2, hap, hacc, hrow⟩ := accFrom_append (ts[j]?.getD 0) hA (by simp; omega)
    have hs0 := (hrow 0 (by omega)).trans hr0
    have hs1 := (hrow 1 (by omega)).trans hr1
    simp only [ic15l2, hzl, Int.ofNat_lt, h2, evA, if_true, if_false, beq_false, simprocAttr]
    refine DW_s [] [(1, 10)] hmix (by kernel_rfl) rfl ?_
    have hcv : cellsOf v' = [v'] := by rcases hacc.2 with ⟨rfl, _⟩ | ⟨l, _, rfl, _⟩ <;> rfl
    have hsc : [v'].all AV.isSc = true := by rcases hacc.2 with ⟨rfl, _⟩ | ⟨l, _, rfl, _⟩ <;> rfl
    have hsr : setRange [v, AV.cv CV.nils] 0 [v'] = [v', AV.cv CV.nils] := rfl
    have hl1 : ([v'] : List AV).length = 1 := rfl
    simp only [hr0, hr1, hr0', hr1', hs1, hzl, Int.ofNat_lt, h2, hgi, hoi, hap, hcv, hsc, hsr, hl1, hws, evA, if_true, if_false, beq_false, simprocAttr]
    refine ⟨List.getElem?_append_left (by have := hA.1; omega), kFor_go (by first | trivial | omega) ⟨v', _, _, by rw [hTi]; exact hacc.store (by omega) _, by rw [rowOf_set_ne (by omega)]; exact hs0, rowOf_set_self hs1, rfl⟩⟩
  have : i = ts.length := by omega
  subst this
  simp only [ic15l2, hzl, Int.ofNat_lt, h2, kSW_n, evA, if_true, if_false, beq_false, simprocAttr]
  refine SW_seq ?_
  simp only [kSW_n, evA, if_true, if_false, beq_false, simprocAttr]
  rw [hT2] at hA
  refine IL_for ks.length (fun t st => ∃ vK σ' v14 v15 v23 v24 v25, AccFrom σ.length σ' vK ((perK o ks).take t) ∧ (∀ l, l < σ.length → l ≠ 1 → rowOf σ' l = rowOf σ l) ∧ rowOf σ' 1 = some [v, vK] ∧ st = ⟨[drw ts ks, u8s xs, .ptr 0 0, .b false, .i W, .i 0, ints sq, .i 0, ints zo, .i ts.length, .undef, .ptr 1 0, .i ts.length, .i t, v14, v15, .undef, .undef, .undef, .undef, .undef, .b false, .b false, v23, v24, v25], σ'⟩) ?_ 0 (Nat.zero_le _) ⟨_, σ, _, _, _, _, _, by rw [List.take_zero]; exact AccFrom.nil (Nat.le_refl _), fun l _ _ => rfl, hr1, rfl⟩
  rintro t st ht2 ⟨vK, σ', v14, v15, v23, v24, v25, hAK, hrows, hrw1, rfl⟩
  have hσ2 := hA.1
  have hrw0 := (hrows 0 (by omega) (by omega)).trans hr0
  by_cases h3 : t < ks.length
  · have hws : IntKind.i64.wrap ((t : Int) + 1) = ((t + 1 : Nat) : Int) := wrap_succ (by omega)
    have hkr := hok.kr t h3
    have hKt := hK1 t h3
    obtain ⟨S, hS⟩ : ∃ S : Nat, ks[t]?.getD 0 = (S : Int) := ⟨(ks[t]?.getD 0).toNat, (Int.toNat_of_nonneg hkr.1).symm⟩
    have hS62 : S < 2 ^ 62 := by
      have h2 := hkr.2
      rw [hS] at h2
      unfold capF at h2
      have hp : (2 : Nat) ^ ts.length ≤ 2 ^ 6 := Nat.pow_le_pow_right (by omega) (by omega)
      generalize 2 ^ ts.length = q at *
      omega
    rw [hS, Int.toNat_natCast] at hKt
    simp only [ic15l1, Int.ofNat_lt, h3, hrw0, evA, if_true, if_false, beq_false, simprocAttr]
    refine IL_for ts.length (fun i st => ∃ v24 v25, st = ⟨[drw ts ks, u8s xs, .ptr 0 0, .b false, .i W, .i 0, ints sq, .i 0, ints zo, .i ts.length, .undef, .ptr 1 0, .i ts.length, .i t, .i (ofB i fun i => S.testBit (o[i]?.getD 0)), .i i, .undef, .undef, .undef, .undef, .undef, .b false, .b false, .b true, v24, v25], σ'⟩) ?_ 0 (Nat.zero_le _) ⟨_, _, rfl⟩
    rintro i st hi3 ⟨v24, v25, rfl⟩
    by_cases h4 : i < ts.length
    · have hwi : IntKind.i64.wrap ((i : Int) + 1) = ((i + 1 : Nat) : Int) := wrap_succ (by omega)
      have hgi := hget i h4
      have hoi := hoL i h4
      have hob : ofB (i + 1) (fun i => S.testBit (o[i]?.getD 0)) = (if S.testBit (o[i]?.getD 0) = true then 2 ^ i else 0) + ofB i fun i => S.testBit (o[i]?.getD 0) := rfl
      have hlt := ofB_lt (fun i => S.testBit (o[i]?.getD 0)) i
      have hp6 : (2 : Nat) ^ i ≤ 2 ^ 6 := Nat.pow_le_pow_right (by omega) (by omega)
      generalize o[i]?.getD 0 = j at hgi hoi hob
      have h44 := c44 i (by omega)
      simp only [ic15l0, hzl, Int.ofNat_lt, h4, evA, if_true, if_false, beq_false, simprocAttr]
      refine DW_s [9] [] hmix (by kernel_rfl) rfl ?_
      simp only [hrw0, hzl, Int.ofNat_lt, h3, h4, hS, hgi, evA, if_true, if_false, beq_false, simprocAttr]
      refine kK_keep ((c45 S j hS62 (by omega)).call frz ⟨rfl, rfl⟩) rfl ?_
      cases hb : S.testBit j with
      | false =>
        rw [hb, if_neg (by decide), Nat.zero_add] at hob
        simp only [hwi, evA, if_true, if_false, beq_false, simprocAttr]
        exact kFor_go (by first | trivial | omega) ⟨_, _, by rw [hob]⟩
      | true =>
        rw [hb, if_pos rfl] at hob
        have hadd : IntKind.i64.wrap (((ofB i fun i => S.testBit (o[i]?.getD 0) : Nat) : Int) + ((2 ^ i : Nat) : Int)) = ((ofB (i + 1) fun i => S.testBit (o[i]?.getD 0) : Nat) : Int) := by
          rw [hob]
          generalize 2 ^ i = q at *
          rw [wrap_in (by omega)]; omega
        simp only [evA, if_true, if_false, beq_false, simprocAttr]
        refine h44.call frz ?_
        simp only [hadd, hwi, evA, if_true, if_false, beq_false, simprocAttr]
        exact kFor_go (by first | trivial | omega) ⟨_, _, rfl⟩
    have : i = ts.length := by omega
    subst this
    obtain ⟨v', σ2, hap, hacc, hrow⟩ := accFrom_append ((ofB ts.length fun i => S.testBit (o[i]?.getD 0) : Nat) : Int) hAK (by simp; omega)
    have hcv : cellsOf v' = [v'] := by rcases hacc.2 with ⟨rfl, _⟩ | ⟨l, _, rfl, _⟩ <;> rfl
    have hsc : [v'].all AV.isSc = true := by rcases hacc.2 with ⟨rfl, _⟩ | ⟨l, _, rfl, _⟩ <;> rfl
    have hsr : setRange [v, vK] 1 [v'] = [v, v'] := rfl
    have hl1 : ([v'] : List AV).length = 1 := rfl
    have hs1 := (hrow 1 (by omega)).trans hrw1
    have hrw1' := fun x => rowOf_push hrw1 x
    simp only [ic15l0, hzl, Int.ofNat_lt, h4, hrw1, hap, hs1, hcv, hsc, hsr, hl1, hws, evA, if_true, if_false, beq_false, simprocAttr]
    exact kFor_go (by first | trivial | omega) ⟨v', _, _, _, _, _, _, by rw [hKt]; exact hacc.store (by omega) _, fun l h1 h2 => by rw [rowOf_set_ne (Ne.symm h2)]; exact (hrow l h1).trans (hrows l h1 h2), rowOf_set_self hs1, rfl⟩
  have : t = ks.length := by omega
  subst this
  rw [hK2] at hAK
  simp only [ic15l1, Int.ofNat_lt, h3, hrw0, kSW_n, evA, if_true, if_false, beq_false, simprocAttr]
  obtain ⟨J, hJ⟩ : ∃ J, σ' = [.cells [ints ts, ints ks], .cells [v, vK]] ++ J := by
    have e0 := rowOf_some hrw0
    have e1 := rowOf_some hrw1
    match σ', e0, e1 with
    | [], e0, _ => cases e0
    | [_], _, e1 => cases e1
    | a :: b :: J, e0, e1 =>
      cases e0; cases e1
      exact ⟨J, rfl⟩
  subst hJ
  have hlow : ∀ l, 2 ≤ l → rowOf (List.replicate 2 AObj.dead ++ J) l = rowOf ([.cells [ints ts, ints ks], .cells [v, vK]] ++ J) l := fun l hl => by
    unfold rowOf
    rw [List.getElem?_append_right (by simpa using hl), List.getElem?_append_right (by simpa using hl)]
    rfl
  refine SW.weak (Weak.turn (vals2 := [.undef, .undef, .undef, .b false, .i W, .i 0, ints sq, .i 0, .undef, .undef, .undef, .ptr 1 0, .undef, .undef, .undef, .undef, .undef, .undef, .undef, .undef, .undef, .undef, .undef, .undef, .undef, .undef]) (τ := [.cells [ints ts, ints ks], .cells [v, vK]]) (τ2 := [.cells [ints ts, ints ks], .cells [ints (perL o ts), ints (perK o ks)]]) (J := J) rfl rfl ?_ ?_) ?_
  · have u : ∀ (σ : List AObj) (a : AV), Turn1 2 σ a .undef := fun σ a => .inr (.un _)
    exact .cons (u _ _) (.cons (u _ _) (.cons (u _ _) (.cons (.inl ⟨rfl, rfl⟩) (.cons (.inl ⟨rfl, rfl⟩) (.cons (.inl ⟨rfl, rfl⟩) (.cons (.inl ⟨rfl, rfl⟩) (.cons (.inl ⟨rfl, rfl⟩) (.cons (u _ _) (.cons (u _ _) (.cons (u _ _) (.cons (.inl ⟨rfl, rfl⟩) (.cons (u _ _) (.cons (u _ _) (.cons (u _ _) (.cons (u _ _) (.cons (u _ _) (.cons (u _ _) (.cons (u _ _) (.cons (u _ _) (.cons (u _ _) (.cons (u _ _) (.cons (u _ _) (.cons (u _ _) (.cons (u _ _) (.cons (u _ _) .nil)))))))))))))))))))))))))
  · intro l o2 ho
    match l, ho with
    | 0, ho => cases ho; exact ⟨_, rfl, trivial, .inl ⟨rfl, rfl⟩⟩
    | 1, ho =>
      cases ho
      refine ⟨_, rfl, trivial, .inr ⟨_, _, rfl, rfl, .cons (.inr ?_) (.cons (.inr ?_) .nil)⟩⟩
      · rcases hA.2 with ⟨rfl, hz⟩ | ⟨l, hl, rfl, hr⟩
        · rw [hz]; exact .c .nl
        · have hll := (List.getElem?_eq_some_iff.1 (rowOf_some hr)).1
          refine frz_ints (fun _ => trivial) ?_
          refine (hlow l hl).trans ?_
          rw [hrows l hll (by omega)]
          exact hr
      · rcases hAK.2 with ⟨rfl, hz⟩ | ⟨l, hl, rfl, hr⟩
        · rw [hz]; exact .c .nl
        · refine frz_ints (fun _ => trivial) ?_
          exact (hlow l (by omega)).trans hr
    | l + 2, ho => cases ho
  refine SW_seq ?_
  simp only [kSW_n, evA, if_true, if_false, beq_false, simprocAttr]
  refine h26'.call frz ?_
  simp only [kSW_n, evA, if_true, if_false, beq_false, simprocAttr]
  refine SW_seq ?_
  simp only [kSW_n, evA, if_true, if_false, beq_false, simprocAttr]
  refine h32'.call ?_
  simp only [kSW_n, evA, if_true, if_false, beq_false, simprocAttr]
  refine SW_of ?_
  simp only [hi2, evA, if_true, if_false, beq_false, simprocAttr]
  refine (c20 sq sq hsl).call frz ?_
  simp only [hd2, evA, if_true, if_false, beq_false, simprocAttr]
  refine (awake _).run ?_
  simp only [evA, if_true, if_false, beq_false, simprocAttr]

theorem law_LotNames (avs : List AV) (h : Args Try.prog Try.f15.params.toList avs) : AC Try.prog 15 avs [] fun r _ => r = .b true := by
  have h : Args Try.prog [34, 51] avs := h
  obtain ⟨cs1, avs, rfl, h1, h⟩ := args_cons h
  obtain ⟨cs2, avs, rfl, h2, h⟩ := args_cons h
  cases args_nil h
  obtain ⟨ts, ks, he, ht, hk, _, _⟩ := typed_draw h1
  obtain ⟨xs, he2, g3, g4⟩ := typed_u8s h2
  rw [he, he2]
  obtain ⟨vb, h38, h38t, h38f⟩ := c38 ts ks ht hk
  cases vb with
  | false =>
    obtain ⟨x, y, e, hv, hne⟩ := h38f rfl
    exact c15_bad ts ks xs ht hk h38 hv hne
  | true =>
    obtain ⟨hok, hv⟩ := h38t rfl
    exact c15_ok ts ks xs g3 g4 ht hk h38 hv hok

end Go.Proofs.Ytphdemhopihpnaa.AM

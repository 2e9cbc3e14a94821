/- The law LotPicks, by the contracts. -/
import Derived.Test.YtphdemhopihpnaaZ49
import Derived.Test.YtphdemhopihpnaaZ47
import Derived.Test.YtphdemhopihpnaaZ46
import Derived.Test.YtphdemhopihpnaaKLotI5
namespace Go.Proofs.Ytphdemhopihpnaa.AM
open Go
set_option linter.unusedVariables false
set_option linter.unusedSimpArgs false
set_option maxRecDepth 20000

theorem pickV_is (ts ks : List Int) (hok : DrawOk ts ks) (n : Int) : ∃ l e, l.length < 2 ^ 63 ∧ pickV ts ks n = .tup [ints l, .i e] := by
  unfold pickV
  have hkl := hok.kl
  split
  · exact ⟨[], _, by simp, rfl⟩
  · split
    · exact ⟨[], _, by simp, rfl⟩
    · rename_i h1 h2
      refine ⟨_, _, ?_, rfl⟩
      have hw := (waysF_bounds ks ks.length ts hok.tl.2).1
      rw [pickF_length _ _ _ (Nat.le_refl _) (Int.emod_nonneg _ h2) (Int.emod_lt_of_pos _ (by omega))]
      omega
theorem indexV_is (ts ks l : List Int) : ∃ x e, indexV ts ks l = .tup [.i x, .i e] := by
  unfold indexV
  repeat (split; · exact ⟨_, _, rfl⟩)
  exact ⟨_, _, rfl⟩
theorem shortQ_len (ts ks : List Int) (hok : DrawOk ts ks) : (shortQ ts ks).length < 2 ^ 63 := by
  have hkl := hok.kl
  unfold shortQ
  split
  · rcases bestF_is (n := ks.length) (lack_ne (ts := ts) (ks := ks)) (2 ^ ks.length) with ⟨h, _⟩ | ⟨s', _, _, h, _⟩
    · rw [h]; simp
    · rw [h]; have := setL_len ks.length s'; omega
  · simp

theorem c5 (ts ks l : List Int) (n : Int) (ht : ts.length < 2 ^ 63) (hk : ks.length < 2 ^ 63) (hl : l.length < 2 ^ 63) : AC Try.prog 5 [drw ts ks, .i n, ints l] [] fun r _ => r = .b true := by
  refine AC_FE (fok5 true) (Nat.le_of_ble_eq_true rfl) ?_
  have hi2 : ∀ e : Int, (e == e) = true := fun e => by simp
  have hi3 : ∀ e : Int, (e != e) = false := fun e => by simp
  have hd2 : ∀ l : List Int, decide (l = l) = true := fun l => by simp
  simp only [ic5, f_box, cellsOf, evA, if_true, if_false, beq_false, simprocAttr]
  rcases checkV_cases ts ks with ⟨hv, hok⟩ | ⟨x, y, e, hv, he⟩
  · obtain ⟨p, e, hpl, hp⟩ := pickV_is ts ks hok n
    obtain ⟨x, e2, hx⟩ := indexV_is ts ks l
    have h28 := c28_ok ts ks n ht hk hok
    have h29 := c29_ok ts ks n ht hk hok
    have h30 := c30_ok ts ks l ht hk hl hok
    have h31 := c31_ok ts ks l ht hk hl hok
    rw [hp] at h28 h29
    rw [hx] at h30 h31
    have h32 := c32_ok ts ks ht hk hv hok
    have h33 := c33_ok ts ks ht hk hv hok
    have hsl := shortQ_len ts ks hok
    generalize shortQ ts ks = sq at h32 h33 hsl
    refine h28.call frz ?_
    simp only [evA, if_true, if_false, beq_false, simprocAttr]
    refine h29.call ?_
    simp only [evA, if_true, if_false, beq_false, simprocAttr]
    refine (c20 p p hpl).call frz ?_
    simp only [hd2, hi3, evA, if_true, if_false, beq_false, simprocAttr]
    refine h30.call frz ?_
    simp only [evA, if_true, if_false, beq_false, simprocAttr]
    refine h31.call frz ?_
    simp only [hi3, evA, if_true, if_false, beq_false, simprocAttr]
    refine h32.call ?_
    simp only [evA, if_true, if_false, beq_false, simprocAttr]
    refine h33.call ?_
    simp only [evA, if_true, if_false, beq_false, simprocAttr]
    refine (c20 sq sq hsl).call frz ?_
    simp only [hd2, hi2, evA, if_true, if_false, beq_false, simprocAttr]
    refine (awake _).run ?_
    simp only [evA, if_true, if_false, beq_false, simprocAttr]
  · refine (c28_err ts ks n ht hk hv he).call frz ?_
    simp only [evA, if_true, if_false, beq_false, simprocAttr]
    refine (c29_err ts ks n ht hk hv he).call ?_
    simp only [evA, if_true, if_false, beq_false, simprocAttr]
    refine (c20 [] [] (by simp)).call frz ?_
    simp only [hd2, hi3, evA, if_true, if_false, beq_false, simprocAttr]
    refine (c30_err ts ks l ht hk hv he).call frz ?_
    simp only [evA, if_true, if_false, beq_false, simprocAttr]
    refine (c31_err ts ks l ht hk hv he).call frz ?_
    simp only [hi3, evA, if_true, if_false, beq_false, simprocAttr]
    refine (c32_err ts ks ht hk hv he).call ?_
    simp only [evA, if_true, if_false, beq_false, simprocAttr]
    refine (c33_err ts ks ht hk hv he).call ?_
    simp only [evA, if_true, if_false, beq_false, simprocAttr]
    refine (c20 [] [] (by simp)).call frz ?_
    simp only [hd2, hi2, evA, if_true, if_false, beq_false, simprocAttr]
    refine (awake _).run ?_
    simp only [evA, if_true, if_false, beq_false, simprocAttr]

theorem law_LotPicks (avs : List AV) (h : Args Try.prog Try.f5.params.toList avs) : AC Try.prog 5 avs [] fun r _ => r = .b true := by
  have h : Args Try.prog [34, 3, 23] avs := h
  obtain ⟨cs1, avs, rfl, h1, h⟩ := args_cons h
  obtain ⟨cs2, avs, rfl, h2, h⟩ := args_cons h
  obtain ⟨cs3, avs, rfl, h3, h⟩ := args_cons h
  cases args_nil h
  obtain ⟨ts, ks, he, ht, hk, _, _⟩ := typed_draw h1
  obtain ⟨l, rfl, hl, _⟩ := typed_ints Try.underlying23 Try.underlying3 h3
  obtain ⟨n, rfl, _⟩ := typed_int Try.underlying3 h2
  rw [he]
  exact c5 ts ks l n ht hk hl

end Go.Proofs.Ytphdemhopihpnaa.AM

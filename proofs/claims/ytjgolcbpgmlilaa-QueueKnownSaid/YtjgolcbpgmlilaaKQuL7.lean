/- The law QueueKnown, by the contracts. -/
import Derived.Test.YtjgolcbpgmlilaaZ44
import Derived.Test.YtjgolcbpgmlilaaKQuI7
namespace Go.Proofs.Ytjgolcbpgmlilaa.AM
open Go Go.Proofs.Ytjgolcbpgmlilaa.Qu Pl
set_option linter.unusedVariables false
set_option linter.unusedSimpArgs false

set_option maxRecDepth 4000 in
theorem lc7 : AC Try.prog 7 [] [] fun r _ => r = .b true := by
  refine AC_FE (fok7 true) (Nat.le_of_ble_eq_true rfl) ?_
  simp only [ic7, evA, if_true, if_false, beq_false, simprocAttr]
  refine c33.call .nil ?_
  simp only [evA, if_true, if_false, beq_false, simprocAttr]
  refine (c18 q0 q0_sz 1).call ?_
  simp only [v_ord1, evA, if_true, if_false, beq_false, simprocAttr]
  refine c33.call .nil ?_
  simp only [evA, if_true, if_false, beq_false, simprocAttr]
  refine (c26 q0 q0_sz [1, 0, -1] (by decide)).call frz ?_
  simp only [v_acc2, evA, if_true, if_false, beq_false, simprocAttr]
  refine c33.call .nil ?_
  simp only [evA, if_true, if_false, beq_false, simprocAttr]
  refine (c28 q0 q0_sz 2).call ?_
  simp only [v_canc2, evA, if_true, if_false, beq_false, simprocAttr]
  refine c33.call .nil ?_
  simp only [evA, if_true, if_false, beq_false, simprocAttr]
  refine (c31 q0 q0_sz 0).call ?_
  simp only [v_open0, evA, if_true, if_false, beq_false, simprocAttr]
  have mk6 : ∀ (τ : List AObj) (l : Nat) (a b c d e f : Int), rowOf τ l = some [.i a, .i b, .i c, .i d, .i e, .i f] → FrzV anyC τ (.sl l 0 2 3) (.cv (.rsl [.int .i64 a, .int .i64 b, .int .i64 c, .int .i64 d, .int .i64 e, .int .i64 f] 2)) := fun τ l a b c d e f h =>
    .c (.sl l 0 2 3 _ _ h (Nat.le_refl _) (.cons (.c _ trivial) (.cons (.c _ trivial) (.cons (.c _ trivial) (.cons (.c _ trivial) (.cons (.c _ trivial) (.cons (.c _ trivial) .nil)))))))
  have ok : ∀ m ∈ [((0 : Nat), (1 : Int), (0 : Int)), (2, -1, 1)], MvOk m := by
    intro m hm
    simp only [List.mem_cons, List.not_mem_nil, or_false] at hm
    rcases hm with rfl | rfl
    · exact ⟨by decide, by decide, by decide⟩
    · exact ⟨by decide, by decide, by decide⟩
  have d1 : decide (([0, 2, 1] : List Int) = [0, 2, 1]) = true := rfl
  have d4 : decide ([((0 : Nat), (1 : Int), (0 : Int)), (2, -1, 1)] = [((0 : Nat), (1 : Int), (0 : Int)), (2, -1, 1)]) = true := by decide
  refine (c20 [0, 2, 1] [0, 2, 1] (by decide)).call (.cons (.c (.c _ trivial)) (.cons (frz_ints' (l := 1) (zs := [0, 2, 1]) (fun _ => trivial) rfl rfl) .nil)) ?_
  simp only [d1, evA, if_true, if_false, beq_false, simprocAttr]
  refine (c30 [(0, 1, 0), (2, -1, 1)] [(0, 1, 0), (2, -1, 1)] (by decide) (fun k hk => ok _ (by rw [getElem!_pos _ k hk]; exact List.getElem_mem hk)) (fun k hk => ok _ (by rw [getElem!_pos _ k hk]; exact List.getElem_mem hk))).call (.cons (.c (.c _ trivial)) (.cons (mk6 _ 2 0 1 0 2 (-1) 1 rfl) .nil)) ?_
  simp only [d4, evA, if_true, if_false, beq_false, simprocAttr]
  refine c21.call .nil ?_
  simp only [evA, if_true, if_false, beq_false, simprocAttr]

theorem law_QueueKnown (avs : List AV) (h : Args Try.prog Try.f7.params.toList avs) : AC Try.prog 7 avs [] fun r _ => r = .b true := by
  have h : Args Try.prog [] avs := h
  cases args_nil h
  exact lc7

end Go.Proofs.Ytjgolcbpgmlilaa.AM

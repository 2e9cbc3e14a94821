/- Parts of the proof, joined: LotQ5 to LotQ12. -/
import Derived.Test.YtphdemhopihpnaaZ38

namespace Go.Proofs.Ytphdemhopihpnaa.AM
open Go
set_option linter.unusedVariables false
set_option linter.unusedSimpArgs false

theorem Weak.undef {fx : Fx} {vals vals' : List AV} {τ : List AObj} (hv : Subs vals vals') : Weak fx ⟨vals, τ⟩ ⟨vals', τ⟩ := by
  intro m X en ac w hs
  refine ⟨m, ⟨hs.size, fun i t hi => ?_, hs.defs, hs.heap, hs.base, hs.entry⟩, Step.refl _ _ _ _⟩
  have hrel := hs.vars i t hi
  rcases hv.get i with h1 | h1
  · dsimp only at h1 ⊢; rw [h1]; exact hrel
  · dsimp only at h1 ⊢; rw [h1]; simp [VRel]

theorem Cl.mem {σ : List AObj} (h : Cl σ) : ∀ o ∈ σ, objIn σ.length o = true := fun o ho => by
  obtain ⟨j, hj⟩ := List.getElem?_of_mem ho
  exact h j o hj

/-- what append leaves of the slice that it was given -/
def killF (v : AV) (σ : List AObj) : List AObj := match v with | .sl p _ _ _ => σ.set p .dead | _ => σ
theorem killF_len (v : AV) (σ : List AObj) : (killF v σ).length = σ.length := by cases v <;> simp [killF]
theorem killF_cl {v : AV} {σ : List AObj} (h : Cl σ) : Cl (killF v σ) := by
  cases v with
  | sl p _ _ _ => exact h.set p rfl
  | _ => exact h
theorem acc_kill {b : Nat} {σ : List AObj} {v : AV} {zs : List Int} (z : Int) (h : AccFrom b σ v zs) (hl : zs.length < 2 ^ 40) {τ : List AObj} {q : Nat} (hq : rowOf τ q = some [.i z]) (hτ : ∀ l cs, b ≤ l → rowOf σ l = some cs → rowOf τ l = some cs) :
    f_append 1 8 [v, .sl q 0 1 1] τ = some (.sl τ.length 0 (zs.length + 1) 1, killF v τ ++ [.cells ((zs ++ [z]).map .i)]) := by
  rcases h.2 with ⟨rfl, rfl⟩ | ⟨l, hbl, rfl, hr⟩
  · have hsrc : srcCells τ 1 (.sl q 0 1 1) = some [.i z] := by simp [srcCells, hq]
    simp only [f_append, hsrc, lenF, Option.bind_some]
    rfl
  · have hr' := hτ l _ hbl hr
    rw [append_O, hr', hq]
    exact apO_ints hl l τ z []
theorem killF_get {b : Nat} {σ : List AObj} {v : AV} {zs : List Int} (h : AccFrom b σ v zs) (τ : List AObj) {l : Nat} (hl : l < b ∨ ∀ cs, rowOf σ l ≠ some cs) : (killF v τ)[l]? = τ[l]? := by
  rcases h.2 with ⟨rfl, rfl⟩ | ⟨p, hbl, rfl, hr⟩
  · rfl
  · simp only [killF]
    refine List.getElem?_set_ne ?_
    rintro rfl
    rcases hl with hl | hl
    · omega
    · exact hl _ hr

def ia58 : IC := (.seq (.region [⟨(.some 6), none, (.prim .mv), [(.v 13)]⟩])
 (.region [⟨(.some 7), none, (.prim (.alloc [(.cv (.int .i64 0)), (.cv (.int .i64 0)), (.cv (.int .i64 0)), (.cv (.int .i64 0)), (.cv (.int .i64 0)), (.cv (.int .i64 0)), (.cv (.int .i64 0))])), []⟩, ⟨none, none, (.prim (.store 7)), [(.v 7), (.v 14)]⟩]))
def ib58 : IC := (.block 3 (.seq (.seq (.region [⟨none, none, (.prim .load1), [(.v 2)]⟩, ⟨none, none, (.prim (.loadN 7)), [(.v 7)]⟩, ⟨none, none, .call, [(.c (.fn (.func 54) [])), (.t 0), (.t 1)]⟩, ⟨(.some 8), none, (.prim .mv), [(.t 2)]⟩])
 (.seq (.region [⟨none, none, (.prim .load1), [(.v 3)]⟩, ⟨none, none, (.prim .mv), [(.v 8)]⟩, ⟨(.some 15), none, (.prim (.bin .geq .int)), [(.t 0), (.t 1)]⟩])
 (.cond 15 (.seq (.region [⟨none, none, (.prim .load1), [(.v 3)]⟩, ⟨none, none, (.prim .mv), [(.v 8)]⟩, ⟨none, none, (.prim (.bin .sub .int)), [(.t 0), (.t 1)]⟩, ⟨none, none, (.prim (.store 1)), [(.v 3), (.t 2)]⟩])
 (.exit 3))
 .skip)))
 (.seq (.dr [[], [], [1], [0, 2], [], [3, 3, 0, 1, 2, 3], [4, 5, 0, 1, 2, 3, 4, 5]] [⟨none, none, (.prim .load1), [(.v 4)]⟩, ⟨none, none, (.prim .mv), [(.v 6)]⟩, ⟨none, none, (.prim (.bslice 1 1 [(.cv (.int .i64 0))] [(0, 1)])), [(.t 1)]⟩, ⟨none, none, (.prim (.append 1 8)), [(.t 0), (.t 2)]⟩, ⟨none, none, (.prim (.loadN 7)), [(.v 7)]⟩, ⟨none, none, (.prim (.store 1)), [(.v 4), (.t 3)]⟩, ⟨none, none, (.prim (.store 7)), [(.v 5), (.t 4)]⟩])
 (.exit 1))))
theorem ca58 : compC Try.prog vs58 40 (nav [1, 0, 1, 1, 0, 1, 0, 0, 1, 1, 0, 0, 1, 0, 2] (Try.f58.body.getD .skip)) = some ia58 := by kernel_rfl
theorem cb58 : compC Try.prog vs58 40 (nav [1, 0, 1, 1, 0, 1, 0, 0, 1, 1, 0, 0, 1, 0, 3] (Try.f58.body.getD .skip)) = some ib58 := by kernel_rfl

structure PSt (ts0 ks : List Int) (x : Int) (t : Nat) (σ : List AObj) (K : Memo) (us zs : List Int) (x' : Int) (v : AV) : Prop where
  o0 : σ[0]? = some (.cells [ints ts0, ints ks, .map 1])
  o1 : σ[1]? = some (.map (rendK K))
  o2 : σ[2]? = some (.cells [.ptr 0 0])
  o3 : σ[3]? = some (.cells [.i x'])
  o4 : σ[4]? = some (.cells [v])
  o5 : σ[5]? = some (.cells (keyCs t us))
  acc : AccFrom 6 σ v zs
  cl : Cl σ
  kr : RightQ ks ts0.length K
  ud : Dig ts0.length us
  xb : 0 ≤ x' ∧ x' < waysF ks (ks.length - t) us
  eq : zs ++ pickF ks (ks.length - t) us x' = pickF ks ks.length ts0 x
  zl : zs.length = t

theorem rowOf_get {σ : List AObj} {l : Nat} {cs : List AV} (h : σ[l]? = some (.cells cs)) : rowOf σ l = some cs := by unfold rowOf; rw [h]

theorem c58 (ts0 ks : List Int) (hok : DrawOk ts0 ks) (K : Memo) (hR : RightQ ks ts0.length K) (x : Int) (hx : 0 ≤ x ∧ x < waysF ks ks.length ts0) :
    AC Try.prog 58 [.ptr 0 0, .i x] (hp2 ts0 ks K) fun v τ => ∃ K', RightQ ks ts0.length K' ∧ τ[0]? = some (.cells [ints ts0, ints ks, .map 1]) ∧ τ[1]? = some (.map (rendK K')) ∧ AccFrom 2 τ v (pickF ks ks.length ts0 x) := by
  refine AC_FE (fok58 true) (Nat.le_of_ble_eq_true rfl) ?_
  have h6 := hok.tl
  have hk8 := hok.kl
  simp only [ic58, f_box, cellsOf, evA, if_true, if_false, reduceIte, Nat.reduceAdd, Nat.reduceMul, Nat.reduceSub, Nat.reduceLeDiff, Nat.reduceEqDiff, Nat.reduceBEq, Nat.reduceBNe, Int.reduceAdd, Int.reduceMul, Int.reduceSub, Int.reduceLT, Int.reduceGT, Int.reduceGE, Int.reduceLE, Int.reduceEq, Int.reduceNeg, Int.reduceToNat, reduceCtorEq, beq_false, Int.reduceBEq, Int.reduceBNe]
  refine AC.run (c55 0 ts0 [ints ks, .map 1] _ rfl h6.2) ?_
  have hp6 := pad6_len h6.2
  have hsr : ∀ x : AV, setRange [x, .cv (.int .i64 0), .cv (.int .i64 0), .cv (.int .i64 0), .cv (.int .i64 0), .cv (.int .i64 0), .cv (.int .i64 0)] 1 ((pad6 ts0).map AV.i) = x :: (pad6 ts0).map AV.i := fun x => setRange_1 (by simp [hp6])
  simp only [cellsOf, hp6, isSc_ints, hsr, evA, if_true, if_false, reduceIte, Nat.reduceAdd, Nat.reduceMul, Nat.reduceSub, Nat.reduceLeDiff, Nat.reduceEqDiff, Nat.reduceBEq, Nat.reduceBNe, Int.reduceAdd, Int.reduceMul, Int.reduceSub, Int.reduceLT, Int.reduceGT, Int.reduceGE, Int.reduceLE, Int.reduceEq, Int.reduceNeg, Int.reduceToNat, reduceCtorEq, beq_false, Int.reduceBEq, Int.reduceBNe]
  refine IL_for ks.length (fun t s => ∃ σ K us zs x' v, PSt ts0 ks x t σ K us zs x' v ∧ s = ⟨[.ptr 0 0, .i x, .ptr 2 0, .ptr 3 0, .ptr 4 0, .ptr 5 0, .undef, .undef, .undef, .i ks.length, .i t, .undef, .undef, .undef, .undef, .undef], σ⟩) ?_ 0 (Nat.zero_le _) ⟨_, K, ts0, [], x, .cv .nils, ⟨rfl, rfl, rfl, rfl, rfl, rfl, AccFrom.nil (by simp), ?_, hR, ⟨rfl, hok.tr⟩, hx, rfl, rfl⟩, rfl⟩
  rotate_left
  · intro l o ho
    match l, ho with
    | 0, ho | 2, ho | 3, ho | 4, ho => cases ho; rfl
    | 1, ho => cases ho; exact objIn_rend _ _
    | 5, ho => cases ho; exact objIn_key _ 0 ts0
  rintro t s htl ⟨σ, K, us, zs, x', v, hP, rfl⟩
  by_cases h : t < ks.length
  rotate_left
  · have hte : t = ks.length := by omega
    subst hte
    have r4 := rowOf_get hP.o4
    have heq : zs = pickF ks ks.length ts0 x := by
      have := hP.eq
      rw [Nat.sub_self] at this
      simpa [pickF] using this
    have hst := set_same hP.o4
    have hac := hP.acc
    rw [heq] at hac
    have hfin : ∃ K', RightQ ks ts0.length K' ∧ σ[0]? = some (.cells [ints ts0, ints ks, .map 1]) ∧ σ[1]? = some (.map (rendK K')) ∧ AccFrom 2 σ v (pickF ks ks.length ts0 x) :=
      ⟨K, hP.kr, hP.o0, hP.o1, by have := hac.1; omega, hac.2.imp id fun ⟨l, h1, h2⟩ => ⟨l, by omega, h2⟩⟩
    rcases hac.2 with ⟨hv, _⟩ | ⟨l, _, hv, _⟩
    · subst hv
      simp only [ic58l0, Int.ofNat_lt, h, r4, cellsOf, hst, evA, if_true, if_false, reduceIte, Nat.reduceAdd, Nat.reduceMul, Nat.reduceSub, Nat.reduceLeDiff, Nat.reduceEqDiff, Nat.reduceBEq, Nat.reduceBNe, Int.reduceAdd, Int.reduceMul, Int.reduceSub, Int.reduceLT, Int.reduceGT, Int.reduceGE, Int.reduceLE, Int.reduceEq, Int.reduceNeg, Int.reduceToNat, reduceCtorEq, beq_false, Int.reduceBEq, Int.reduceBNe]
      exact hfin
    · subst hv
      simp only [ic58l0, Int.ofNat_lt, h, r4, cellsOf, hst, evA, if_true, if_false, reduceIte, Nat.reduceAdd, Nat.reduceMul, Nat.reduceSub, Nat.reduceLeDiff, Nat.reduceEqDiff, Nat.reduceBEq, Nat.reduceBNe, Int.reduceAdd, Int.reduceMul, Int.reduceSub, Int.reduceLT, Int.reduceGT, Int.reduceGE, Int.reduceLE, Int.reduceEq, Int.reduceNeg, Int.reduceToNat, reduceCtorEq, beq_false, Int.reduceBEq, Int.reduceBNe]
      exact hfin
  obtain ⟨r, hr⟩ : ∃ r, ks.length - t = r + 1 := ⟨ks.length - t - 1, by omega⟩
  have hrt : ks.length - (r + 1) = t := by omega
  have hu6 : us.length ≤ 6 := by rw [hP.ud.1]; exact h6.2
  have hup6 := pad6_len hu6
  have hutk : ((pad6 us).map AV.i).take 6 = (pad6 us).map AV.i := List.take_of_length_le (by simp [hup6])
  have r2 := rowOf_get hP.o2
  have r5 := rowOf_get hP.o5
  simp only [ic58l0, Int.ofNat_lt, h, r2, r5, hup6, hutk, evA, if_true, if_false, reduceIte, Nat.reduceAdd, Nat.reduceMul, Nat.reduceSub, Nat.reduceLeDiff, Nat.reduceEqDiff, Nat.reduceBEq, Nat.reduceBNe, Int.reduceAdd, Int.reduceMul, Int.reduceSub, Int.reduceLT, Int.reduceGT, Int.reduceGE, Int.reduceLE, Int.reduceEq, Int.reduceNeg, Int.reduceToNat, reduceCtorEq, beq_false, Int.reduceBEq, Int.reduceBNe]
  refine AC.run (c60 0 t us σ hu6) ?_
  simp only [evA, if_true, if_false, reduceIte, Nat.reduceAdd, Nat.reduceMul, Nat.reduceSub, Nat.reduceLeDiff, Nat.reduceEqDiff, Nat.reduceBEq, Nat.reduceBNe, Int.reduceAdd, Int.reduceMul, Int.reduceSub, Int.reduceLT, Int.reduceGT, Int.reduceGE, Int.reduceLE, Int.reduceEq, Int.reduceNeg, Int.reduceToNat, reduceCtorEq, beq_false, Int.reduceBEq, Int.reduceBNe]
  refine RW_s (gf := 75) (cap := [.ptr σ.length 0, .ptr (σ.length + 1) 0]) rfl (Nat.le_of_ble_eq_true rfl) (fun l h => by cases h) ?_
  generalize hRR : newLoop _ _ _ _ _ = R
  have e1 : R.vars = vs58 := by rw [← hRR]; rfl
  have e2 : R.ntmps = 40 := by rw [← hRR]; rfl
  have e3 : R.params = [22, 23] := by rw [← hRR]; rfl
  have e4 : R.vals = [.ptr 0 0, .i x, .ptr 2 0, .ptr 3 0, .ptr 4 0, .ptr 5 0, .undef, .undef, .undef, .i ks.length, .i t, .b true, .fn (.func 75) [.ptr σ.length 0, .ptr (σ.length + 1) 0], .undef, .undef, .undef] := by rw [← hRR]; rfl
  have e5 : R.state = .ready := by rw [← hRR]; rfl
  have e6 : R.pending = none := by rw [← hRR]; rfl
  have e7 : compC Try.prog vs58 40 R.assign = some ia58 := by rw [← hRR]; exact ca58
  have e8 : compC Try.prog vs58 40 R.body = some ib58 := by rw [← hRR]; exact cb58
  have e9 : ({ { R with state := .busy, pending := none } with state := .ready, pending := none } : ALoop) = R := by
    clear hRR; cases R; simp_all
  clear hRR
  have hN6 : 6 ≤ σ.length := hP.acc.1
  have hlen2 : (σ ++ [AObj.cells [.ptr 0 0], AObj.cells (keyCs t us)]).length = σ.length + 2 := by simp
  have hrk : r + 1 ≤ ks.length := by omega
  have hQL := waysQL_pre (ks := ks) (r := r) (us := us) (K := K) hrk hP.ud hP.kr
  obtain ⟨X, hX⟩ : ∃ X : Nat → AObj, ∀ i, X i = .cells (keyCs (t + 1) (lessF us i)) := ⟨_, fun _ => rfl⟩
  obtain ⟨G, hG⟩ : ∃ G : Nat → List AObj, ∀ i, G i = (σ.set 1 (.map (rendK (waysQL ks r us K i).2))).set 3 (.cells [.i (x' - preF ks r us i)]) := ⟨_, fun _ => rfl⟩
  obtain ⟨H, hH⟩ : ∃ H : Nat → List AObj, ∀ i, H i = G i ++ [AObj.cells [.ptr 0 0], .cells (keyCs t us), .loop R] := ⟨_, fun _ => rfl⟩
  have hG0 : G 0 = σ := by
    rw [hG, preF_zero, Int.sub_zero]
    have : (waysQL ks r us K 0).2 = K := rfl
    rw [this, set_same hP.o1, set_same hP.o3]
  have hGl : ∀ i, (G i).length = σ.length := fun i => by rw [hG]; simp
  have hHl : ∀ i, (H i).length = σ.length + 3 := fun i => by rw [hH]; simp [hGl]
  have hGn : ∀ i l, l ≠ 1 → l ≠ 3 → (G i)[l]? = σ[l]? := fun i l h1 h3 => by
    rw [hG, List.getElem?_set_ne (by omega), List.getElem?_set_ne (by omega)]
  have hHlo : ∀ i l, l < σ.length → (H i)[l]? = (G i)[l]? := fun i l hl => by rw [hH, List.getElem?_append_left (by rw [hGl]; exact hl)]
  have hHhi : ∀ i k, (H i)[σ.length + k]? = [AObj.cells [.ptr 0 0], .cells (keyCs t us), .loop R][k]? := fun i k => by
    rw [hH, List.getElem?_append_right (by rw [hGl]; omega), hGl, Nat.add_sub_cancel_left]
  have hap2 : ∀ (n : Nat) (L : List AObj) (k : Nat), σ.length + 3 ≤ k → (H n ++ L)[k]? = L[k - (σ.length + 3)]? := fun n L k h => by rw [List.getElem?_append_right (by rw [hHl]; exact h), hHl]
  have hG1 : ∀ i, (G i)[1]? = some (.map (rendK (waysQL ks r us K i).2)) := fun i => by
    rw [hG, List.getElem?_set_ne (by omega), List.getElem?_set_self (by omega)]
  have hG3 : ∀ i, (G i)[3]? = some (.cells [.i (x' - preF ks r us i)]) := fun i => by
    rw [hG, List.getElem?_set_self (by simp; omega)]
  have hRin : ∀ n, σ.length + 3 ≤ n → objIn n (.loop R) = true := fun n hn => by
    simp [objIn, e4, locsInAll, locsIn]
    omega
  have hGcl : ∀ i, Cl (G i) := fun i => by
    rw [hG]
    exact (hP.cl.set 1 (objIn_rend _ _)).set 3 rfl
  have hHcl : ∀ i, Cl (H i) := fun i => by
    rw [hH, show [AObj.cells [.ptr 0 0], .cells (keyCs t us), .loop R] = [AObj.cells [.ptr 0 0]] ++ [AObj.cells (keyCs t us)] ++ [AObj.loop R] from rfl, ← List.append_assoc, ← List.append_assoc]
    refine (((hGcl i).push ?_).push (objIn_key _ _ _)).push (hRin _ (by simp [hGl]))
    simp [objIn, locsInAll, locsIn]
  have hG0' : (σ ++ [AObj.cells [.ptr 0 0], AObj.cells (keyCs t us)]) ++ [AObj.loop R] = H 0 := by rw [hH, hG0]; simp
  rw [hG0', hlen2]
  obtain ⟨go, hgo⟩ : ∃ go : Nat → Bool, ∀ i, go i = decide (x' - preF ks r us i ≥ waysF ks r (lessF us i)) := ⟨_, fun _ => rfl⟩
  obtain ⟨T2, hT2⟩ : ∃ T2 : Nat → List AObj, ∀ i, T2 i = (((H i ++ [X i]) ++ [X i]).set (σ.length + 2) (.loop { R with state := .busy, pending := none })).set 1 (.map (rendK (waysQL ks r us K (i + 1)).2)) := ⟨_, fun _ => rfl⟩
  obtain ⟨F, hF⟩ : ∃ F : Nat → List AObj, ∀ i, F i = ((((killF v (T2 i ++ [AObj.cells [.i i]])) ++ [AObj.cells ((zs ++ [(i : Int)]).map .i)]).set 4 (.cells [.sl (σ.length + 6) 0 (zs.length + 1) 1])).set 5 (X i)).set (σ.length + 2) (.loop { R with state := .done, pending := some (.exit 1) }) := ⟨_, fun _ => rfl⟩
  have hT2l : ∀ i, (T2 i).length = σ.length + 5 := fun i => by rw [hT2]; simp [hHl]
  have hT2cl : ∀ i, Cl (T2 i) := fun i => by
    rw [hT2]
    refine Cl.set (Cl.set (Cl.push (Cl.push (hHcl i) ?_) ?_) (σ.length + 2) ?_) 1 (objIn_rend _ _)
    · rw [hX]; exact objIn_key _ _ _
    · rw [hX]; exact objIn_key _ _ _
    · simp only [List.length_append, List.length_cons, List.length_nil, hHl]
      exact hRin _ (by omega)
  have hFcl : ∀ i, Cl (F i) := fun i => by
    rw [hF]
    refine Cl.set (Cl.set (Cl.set (Cl.push (killF_cl (Cl.push (hT2cl i) (show objIn _ (AObj.cells [.i i]) = true from rfl))) (objIn_ints _ _)) 4 ?_) 5 ?_) (σ.length + 2) ?_
    · simp [objIn, locsInAll, locsIn, killF_len, hT2l]
    · rw [hX]; exact objIn_key _ _ _
    · simp only [List.length_set, List.length_append, List.length_cons, List.length_nil, killF_len, hT2l]
      exact hRin _ (by omega)
  have hFl : ∀ i, (F i).length = σ.length + 7 := fun i => by rw [hF]; simp [killF_len, hT2l]
  refine (c75 ts0 ks us (.map 1) σ.length (σ.length + 1) 0 (σ.length + 2) t H F go hok hP.ud.1 hP.ud.2 (by omega) (fun i hi => ?_) (by rw [hHl]; omega) (fun i hi hc => ?_) (fun i hi hc hb => ?_) (fun i hi hc hb hg => ?_)).mono ?_
  · refine ⟨by rw [hHl, hHl], rowOf_get (hHhi i 0), rowOf_get ?_, rowOf_get (hHhi i 1), fun o ho => ?_⟩
    · rw [hHlo i 0 (by omega), hGn i 0 (by omega) (by omega)]; exact hP.o0
    · have := (hHcl i).mem o ho
      rwa [hHl i, ← hHl 0] at this
  · rw [hH, hH, hG, hG, waysQL_succ, preF_succ, hrt, hc]
    simp
  · have hdi := dig_less hP.ud hi hc
    have hQi := hQL i (by omega)
    have h54 := fun (τ : List AObj) h1 h2 => c54f ts0 ks hok r (lessF us i) (waysQL ks r us K i).2 (by omega) hdi hQi.2 (σ := τ) 0 1 (by omega) h1 h2
    have hsucc := waysQL_succ ks r us K i
    rw [hrt, hc, if_pos rfl] at hsucc
    have hK' : (waysQ ks r (lessF us i) (waysQL ks r us K i).2).2 = (waysQL ks r us K (i + 1)).2 := by rw [hsucc]
    rw [hK', show ks.length - r = t + 1 by omega] at h54
    have hgi := hgo i
    have hXi := hX i
    have hT2i := hT2 i
    have hps := preF_succ ks r us i
    rw [hrt, hc, if_pos rfl] at hps
    have hHn : H (i + 1) = G (i + 1) ++ [AObj.cells [.ptr 0 0], .cells (keyCs t us), .loop R] := hH _
    have hGn1 := hG (i + 1)
    have hFi := hF i
    have hwb := waysF_bounds ks r (lessF us i) (by simpa using hu6)
    have hk68 : 6 ^ r ≤ 6 ^ 8 := Nat.pow_le_pow_right (by omega) (by omega)
    rw [hXi] at hT2i hFi
    show YC _ _ [.i i, keyV (t + 1) (lessF us i)] (H i ++ [.cells (keyCs (t + 1) (lessF us i))]) fun v τ => v = .b (go i) ∧ τ = if go i then H (i + 1) ++ [AObj.cells (keyCs (t + 1) (lessF us i))] else F i
    have hp62 : (pad6 (lessF us i)).length = 6 := pad6_len (by simpa using hu6)
    generalize lessF us i = us' at *
    have body : ∀ Q : AV → List AObj → Prop, (go i = true → Q (.b true) (H (i + 1) ++ [AObj.cells (keyCs (t + 1) us')] ++ [AObj.cells (keyCs (t + 1) us')])) → (go i = false → Q (.b false) (F i)) → YC Try.prog (σ.length + 2) [.i i, keyV (t + 1) us'] (H i ++ [AObj.cells (keyCs (t + 1) us')]) Q := by
      intro Q q1 q2
      have x22 : vs58.idxOf? 22 = some 13 := by decide
      have x23 : vs58.idxOf? 23 = some 14 := by decide
      have htk2 : ((pad6 us').map AV.i).take 6 = (pad6 us').map AV.i := List.take_of_length_le (by simp [hp62])
      have hsr2 : ∀ x : AV, setRange [x, .cv (.int .i64 0), .cv (.int .i64 0), .cv (.int .i64 0), .cv (.int .i64 0), .cv (.int .i64 0), .cv (.int .i64 0)] 1 ((pad6 us').map AV.i) = x :: (pad6 us').map AV.i := fun x => setRange_1 (by simp [hp62])
      have hsr3 : ∀ x y : AV, ∀ zs' : List Int, zs'.length = 6 → setRange (x :: zs'.map AV.i) 0 (y :: (pad6 us').map AV.i) = y :: (pad6 us').map AV.i := fun x y zs' hz => setRange_0 (by simp [hp62, hz])
      obtain ⟨B, hB⟩ : ∃ B, B = H i ++ [AObj.cells (keyCs (t + 1) us')] := ⟨_, rfl⟩
      have hBl : B.length = σ.length + 4 := by rw [hB]; simp [hHl]
      have hBH : ∀ l, l < σ.length + 3 → B[l]? = (H i)[l]? := fun l hl => by rw [hB, List.getElem?_append_left (by rw [hHl]; exact hl)]
      have hBr : B[σ.length + 2]? = some (.loop R) := by rw [hBH _ (by omega), hHhi i 2]; rfl
      rw [← hB]
      refine YC_IS (r := R) ia58 ib58 hBr e5 (by rw [e3]; rfl) (by rw [e1, e2, e3]; rfl) (by rw [e1, e2]; exact e7) (by rw [e1, e2]; exact e8) ?_
      rw [e1, e2, e3, e4]
      have ql := fun cs => rowOf_last B cs
      simp only [ia58, putPars, x22, x23, cellsOf, hp62, isSc_ints, hsr2, ql, set_end, kAsg_n, evA, if_true, if_false, reduceIte, Nat.reduceAdd, Nat.reduceMul, Nat.reduceSub, Nat.reduceLeDiff, Nat.reduceEqDiff, Nat.reduceBEq, Nat.reduceBNe, Int.reduceAdd, Int.reduceMul, Int.reduceSub, Int.reduceLT, Int.reduceGT, Int.reduceGE, Int.reduceLE, Int.reduceEq, Int.reduceNeg, Int.reduceToNat, reduceCtorEq, beq_false, Int.reduceBEq, Int.reduceBNe]
      refine ⟨R, by rw [List.getElem?_append_left (by omega)]; exact hBr, e5, ?_⟩
      rw [e6]
      obtain ⟨T1, hT1⟩ : ∃ T1, T1 = setLoop (B ++ [AObj.cells (keyCs (t + 1) us')]) (σ.length + 2) R .busy none := ⟨_, rfl⟩
      have hT1' : T1 = (B ++ [AObj.cells (keyCs (t + 1) us')]).set (σ.length + 2) (.loop { R with state := .busy, pending := none }) := hT1
      have tlo : ∀ l, l < σ.length → T1[l]? = (G i)[l]? := fun l hl => by
        rw [hT1', List.getElem?_set_ne (by omega), List.getElem?_append_left (by omega), hBH l (by omega), hHlo i l hl]
      have ty : T1[σ.length + 4]? = some (.cells (keyCs (t + 1) us')) := by
        rw [hT1', List.getElem?_set_ne (by omega), List.getElem?_append_right (by omega), hBl, Nat.sub_self]; rfl
      have tr : T1[σ.length + 2]? = some (.loop { R with state := .busy, pending := none }) := by
        rw [hT1', List.getElem?_set_self (by simp [hBl])]
      have t2 := rowOf_get ((tlo 2 (by omega)).trans ((hGn i 2 (by omega) (by omega)).trans hP.o2))
      have ty' := rowOf_get ty
      rw [← hT1]
      simp only [ib58, t2, ty', hBl, hp62, htk2, evA, if_true, if_false, reduceIte, Nat.reduceAdd, Nat.reduceMul, Nat.reduceSub, Nat.reduceLeDiff, Nat.reduceEqDiff, Nat.reduceBEq, Nat.reduceBNe, Int.reduceAdd, Int.reduceMul, Int.reduceSub, Int.reduceLT, Int.reduceGT, Int.reduceGE, Int.reduceLE, Int.reduceEq, Int.reduceNeg, Int.reduceToNat, reduceCtorEq, beq_false, Int.reduceBEq, Int.reduceBNe]
      refine AC.run (h54 T1 ((tlo 0 (by omega)).trans ((hGn i 0 (by omega) (by omega)).trans hP.o0)) ((tlo 1 (by omega)).trans (hG1 i))) ?_
      have hT2e : T1.set 1 (.map (rendK (waysQL ks r us K (i + 1)).2)) = T2 i := by rw [hT2i, hT1', hB]
      rw [hT2e]
      have slo : ∀ l, l ≠ 1 → (T2 i)[l]? = T1[l]? := fun l hl => by rw [← hT2e, List.getElem?_set_ne (by omega)]
      have s3 := rowOf_get ((slo 3 (by omega)).trans ((tlo 3 (by omega)).trans (hG3 i)))
      have s4 := rowOf_get ((slo 4 (by omega)).trans ((tlo 4 (by omega)).trans ((hGn i 4 (by omega) (by omega)).trans hP.o4)))
      have sy := rowOf_get ((slo (σ.length + 4) (by omega)).trans ty)
      have sr := (slo (σ.length + 2) (by omega)).trans tr
      simp only [s3, evA, if_true, if_false, reduceIte, Nat.reduceAdd, Nat.reduceMul, Nat.reduceSub, Nat.reduceLeDiff, Nat.reduceEqDiff, Nat.reduceBEq, Nat.reduceBNe, Int.reduceAdd, Int.reduceMul, Int.reduceSub, Int.reduceLT, Int.reduceGT, Int.reduceGE, Int.reduceLE, Int.reduceEq, Int.reduceNeg, Int.reduceToNat, reduceCtorEq, beq_false, Int.reduceBEq, Int.reduceBNe]
      cases hgi2 : go i
      · rw [hgi2] at hgi
        have hge : ¬ (x' - preF ks r us i ≥ waysF ks r us') := by simpa using hgi.symm
        have q2 := q2 hgi2
        simp only [hge, evA, if_true, if_false, reduceIte, Nat.reduceAdd, Nat.reduceMul, Nat.reduceSub, Nat.reduceLeDiff, Nat.reduceEqDiff, Nat.reduceBEq, Nat.reduceBNe, Int.reduceAdd, Int.reduceMul, Int.reduceSub, Int.reduceLT, Int.reduceGT, Int.reduceGE, Int.reduceLE, Int.reduceEq, Int.reduceNeg, Int.reduceToNat, reduceCtorEq, beq_false, Int.reduceBEq, Int.reduceBNe]
        refine DW_s [] [(0, 2), (4, 2), (4, 3), (4, 5)] hmix (by kernel_rfl) rfl ?_
        have hτl : (T2 i ++ [AObj.cells [AV.i i]]).length = σ.length + 6 := by simp [hT2l]
        have hap := acc_kill (i : Int) hP.acc (by rw [hP.zl]; omega) (τ := T2 i ++ [AObj.cells [AV.i i]]) (q := (T2 i).length) (rowOf_last _ _) (fun l cs hl hcs => by
          have hln := (List.getElem?_eq_some_iff.1 (rowOf_some hcs)).1
          refine rowOf_get ?_
          rw [List.getElem?_append_left (by rw [hT2l]; omega), slo l (by omega), tlo l hln, hGn i l (by omega) (by omega)]
          exact rowOf_some hcs)
        rw [hτl] at hap
        simp only [s4, hap, evA, if_true, if_false, reduceIte, Nat.reduceAdd, Nat.reduceMul, Nat.reduceSub, Nat.reduceLeDiff, Nat.reduceEqDiff, Nat.reduceBEq, Nat.reduceBNe, Int.reduceAdd, Int.reduceMul, Int.reduceSub, Int.reduceLT, Int.reduceGT, Int.reduceGE, Int.reduceLE, Int.reduceEq, Int.reduceNeg, Int.reduceToNat, reduceCtorEq, beq_false, Int.reduceBEq, Int.reduceBNe]
        obtain ⟨Z, hZ⟩ : ∃ Z, Z = killF v (T2 i ++ [AObj.cells [AV.i i]]) ++ [AObj.cells ((zs ++ [(i : Int)]).map .i)] := ⟨_, rfl⟩
        have hZl : Z.length = σ.length + 7 := by rw [hZ]; simp [killF_len, hT2l]
        have hZg : ∀ l, l < σ.length + 6 → (l < 6 ∨ σ.length ≤ l) → Z[l]? = (T2 i ++ [AObj.cells [AV.i i]])[l]? := fun l hl hc => by
          rw [hZ, List.getElem?_append_left (by rw [killF_len, hτl]; exact hl)]
          refine killF_get hP.acc _ (hc.imp id fun h cs hcs => ?_)
          have := (List.getElem?_eq_some_iff.1 (rowOf_some hcs)).1
          omega
        have hZ2 : ∀ l, l < σ.length + 5 → (l < 6 ∨ σ.length ≤ l) → Z[l]? = (T2 i)[l]? := fun l hl hc => by
          rw [hZg l (by omega) hc, List.getElem?_append_left (by rw [hT2l]; exact hl)]
        have zy := rowOf_get ((hZ2 (σ.length + 4) (by omega) (by omega)).trans (rowOf_some sy))
        have z4 := rowOf_get ((hZ2 4 (by omega) (by omega)).trans (rowOf_some s4))
        have z5 := rowOf_get ((hZ2 5 (by omega) (by omega)).trans ((slo 5 (by omega)).trans ((tlo 5 (by omega)).trans ((hGn i 5 (by omega) (by omega)).trans hP.o5))))
        have z5' : ∀ y, rowOf (Z.set 4 y) 5 = some (keyCs t us) := fun y => by rw [rowOf_set_ne (by omega)]; exact z5
        have hsr5 : setRange (.i ((t + 1 : Nat) : Int) :: (pad6 us).map AV.i) 1 ((pad6 us').map AV.i) = .i ((t + 1 : Nat) : Int) :: (pad6 us').map AV.i := setRange_1 (by simp [hp62, hup6])
        rw [← hZ]
        simp only [zy, z4, z5', hp62, htk2, cellsOf, isSc_ints, hsr5, hup6, evA, if_true, if_false, reduceIte, Nat.reduceAdd, Nat.reduceMul, Nat.reduceSub, Nat.reduceLeDiff, Nat.reduceEqDiff, Nat.reduceBEq, Nat.reduceBNe, Int.reduceAdd, Int.reduceMul, Int.reduceSub, Int.reduceLT, Int.reduceGT, Int.reduceGE, Int.reduceLE, Int.reduceEq, Int.reduceNeg, Int.reduceToNat, reduceCtorEq, beq_false, Int.reduceBEq, Int.reduceBNe]
        have zr : ((Z.set 4 (AObj.cells [AV.sl (σ.length + 6) 0 (zs.length + 1) 1])).set 5 (AObj.cells (.i ((t + 1 : Nat) : Int) :: (pad6 us').map AV.i)))[σ.length + 2]? = some (.loop { R with state := .busy, pending := none }) := by
          rw [List.getElem?_set_ne (by omega), List.getElem?_set_ne (by omega), hZ2 _ (by omega) (by omega)]; exact sr
        refine ⟨⟨?_, ?_, ?_, ?_⟩, ?_⟩
        · rw [List.getElem?_append_left (by rw [hT2l]; omega)]
        · rw [List.getElem?_append_left (by rw [hT2l]; omega)]
        · exact hZg _ (by omega) (by omega)
        · rw [List.getElem?_set_ne (by omega)]
        · rw [kRnd_x]
          refine ⟨_, zr, ?_⟩
          rw [hFi, ← hZ] at q2
          exact q2
      · rw [hgi2] at hgi
        have hge : x' - preF ks r us i ≥ waysF ks r us' := by simpa using hgi.symm
        have q1 := q1 hgi2
        have hwr : IntKind.i64.wrap (x' - preF ks r us i - waysF ks r us') = x' - preF ks r us (i + 1) := by
          have h1 := preF_nonneg ks r us i
          have h2 := hP.xb
          have h3 := waysF_bounds ks (ks.length - t) us hu6
          have h4 : 6 ^ (ks.length - t) ≤ 6 ^ 8 := Nat.pow_le_pow_right (by omega) (by omega)
          rw [hps]
          generalize 6 ^ (ks.length - t) = p1 at *
          generalize 6 ^ r = p2 at *
          rw [wrap_in (by omega)]; omega
        simp only [hge, s3, hwr, evA, if_true, if_false, reduceIte, Nat.reduceAdd, Nat.reduceMul, Nat.reduceSub, Nat.reduceLeDiff, Nat.reduceEqDiff, Nat.reduceBEq, Nat.reduceBNe, Int.reduceAdd, Int.reduceMul, Int.reduceSub, Int.reduceLT, Int.reduceGT, Int.reduceGE, Int.reduceLE, Int.reduceEq, Int.reduceNeg, Int.reduceToNat, reduceCtorEq, beq_false, Int.reduceBEq, Int.reduceBNe]
        rw [kRnd_n]
        refine ⟨_, by rw [List.getElem?_set_ne (by omega)]; exact sr, ?_⟩
        have hend : setLoop ((T2 i).set 3 (AObj.cells [.i (x' - preF ks r us (i + 1))])) (σ.length + 2) { R with state := .busy, pending := none } .ready none = H (i + 1) ++ [AObj.cells (keyCs (t + 1) us')] ++ [AObj.cells (keyCs (t + 1) us')] := by
          have e9' : ({ { R with state := .busy, pending := none } with state := .ready, pending := none } : ALoop) = R := e9
          show ((T2 i).set 3 _).set (σ.length + 2) (.loop { { R with state := .busy, pending := none } with state := .ready, pending := none }) = _
          rw [e9']
          apply List.ext_getElem?
          intro k
          rcases Nat.lt_trichotomy k (σ.length + 2) with hk | rfl | hk
          · rw [List.getElem?_set_ne (by omega), List.getElem?_append_left (by simp [hHl]; omega), List.getElem?_append_left (by simp [hHl]; omega)]
            rcases Nat.lt_or_ge k σ.length with hk2 | hk2
            · rw [hHlo _ k hk2]
              by_cases k3 : k = 3
              · subst k3; rw [List.getElem?_set_self (by rw [hT2l]; omega), hG3]
              · rw [List.getElem?_set_ne (by omega)]
                by_cases k1 : k = 1
                · subst k1; rw [← hT2e, List.getElem?_set_self (by rw [hT1']; simp; omega), hG1]
                · rw [slo k k1, tlo k hk2, hGn _ k k1 k3, hGn _ k k1 k3]
            · rw [List.getElem?_set_ne (by omega), slo k (by omega), hT1', List.getElem?_set_ne (by omega), List.getElem?_append_left (by omega), hBH k (by omega)]
              obtain ⟨k', rfl⟩ : ∃ k', k = σ.length + k' := ⟨k - σ.length, by omega⟩
              rw [hHhi, hHhi]
          · rw [List.getElem?_set_self (by simp [hT2l]), List.getElem?_append_left (by simp [hHl]), List.getElem?_append_left (by simp [hHl]), hHhi]; rfl
          · rw [List.getElem?_set_ne (by omega), List.getElem?_set_ne (by omega), slo k (by omega), hT1', List.getElem?_set_ne (by omega), hB, List.append_assoc, List.append_assoc, hap2 _ _ k (by omega), hap2 _ _ k (by omega)]
        rw [hend]
        exact q1
    cases hgi2 : go i
    · simp only [Bool.false_eq_true, if_false]
      exact body _ (fun h => by rw [hgi2] at h; cases h) (fun _ => ⟨rfl, rfl⟩)
    · simp only [if_true]
      refine YC.cut (body _ (fun _ => ⟨rfl, _, rfl⟩) (fun h => by rw [hgi2] at h; cases h)) (by simp [hHl]) rfl (fun l o ho => ?_)
      refine .inr ?_
      have hcl2 : Cl (H (i + 1) ++ [AObj.cells (keyCs (t + 1) us')]) := Cl.push (hHcl _) (objIn_key _ _ _)
      have := hcl2 l o ho
      simpa [hHl] using this
  · -- the round that stops
    refine ⟨rfl, by rw [hFl]; simp [hHl], fun l o ho _ => ⟨hFcl i l o ho, fun hl => ?_⟩⟩
    simp only [List.length_append, List.length_cons, List.length_nil, hHl] at hl
    have hlt := (List.getElem?_eq_some_iff.1 ho).1
    rw [hFl] at hlt
    rw [hF, List.getElem?_set_ne (by omega), List.getElem?_set_ne (by omega), List.getElem?_set_ne (by omega)] at ho
    rcases Nat.lt_or_ge l (σ.length + 6) with h1 | h1
    · rw [List.getElem?_append_left (by simp [killF_len, hT2l]; omega), killF_get hP.acc _ (.inr fun cs hcs => by
        have := (List.getElem?_eq_some_iff.1 (rowOf_some hcs)).1; omega)] at ho
      rcases Nat.lt_or_ge l (σ.length + 5) with h2 | h2
      · rw [List.getElem?_append_left (by rw [hT2l]; omega), hT2, List.getElem?_set_ne (by omega), List.getElem?_set_ne (by omega), hX, List.append_assoc, hap2 _ _ l (by omega)] at ho
        have : l = σ.length + 3 + 1 := by omega
        subst this
        rw [Nat.add_sub_cancel_left] at ho
        cases ho; trivial
      · have : l = (T2 i).length := by rw [hT2l]; omega
        subst this
        simp at ho; subst ho; trivial
    · rw [List.getElem?_append_right (by simp [killF_len, hT2l]; omega)] at ho
      have := List.mem_of_getElem? ho
      simp at this; subst this; trivial
  · rintro vv τ (⟨J, rfl, hall⟩ | ⟨j, rfl, hj, hcj, hgj, hbj⟩)
    · exfalso
      have := pre_le (ks := ks) (r := r) (us := us) hP.xb.1 us.length fun k hk hck => by
        rw [hrt] at hck
        have h1 := hall k hk hck
        have h2 := hgo k
        rw [h1] at h2
        have h3 := preF_succ ks r us k
        rw [hrt, if_pos hck] at h3
        have h4 : x' - preF ks r us k ≥ waysF ks r (lessF us k) := by simpa using h2.symm
        omega
      have h5 := hP.xb.2
      rw [hr, preF_full] at h5
      omega
    · have hFlo : ∀ l, l < 4 → (F j)[l]? = (T2 j)[l]? := fun l hl => by
        rw [hF, List.getElem?_set_ne (by omega), List.getElem?_set_ne (by omega), List.getElem?_set_ne (by omega), List.getElem?_append_left (by simp [killF_len, hT2l]; omega), killF_get hP.acc _ (.inl (by omega)), List.getElem?_append_left (by rw [hT2l]; omega)]
      have hT2lo : ∀ l, l < σ.length → l ≠ 1 → (T2 j)[l]? = (G j)[l]? := fun l hl h1 => by
        rw [hT2, List.getElem?_set_ne (by omega), List.getElem?_set_ne (by omega), List.append_assoc, List.getElem?_append_left (by rw [hHl]; omega), hHlo j l hl]
      have hT21 : (T2 j)[1]? = some (.map (rendK (waysQL ks r us K (j + 1)).2)) := by
        rw [hT2, List.getElem?_set_self (by simp [hHl])]
      have hFr : (F j)[σ.length + 2]? = some (.loop { R with state := .done, pending := some (.exit 1) }) := by
        rw [hF, List.getElem?_set_self (by simp [killF_len, hT2l])]
      have hF4 : (F j)[4]? = some (.cells [.sl (σ.length + 6) 0 (zs.length + 1) 1]) := by
        rw [hF, List.getElem?_set_ne (by omega), List.getElem?_set_ne (by omega), List.getElem?_set_self (by simp [killF_len, hT2l])]
      have hF5 : (F j)[5]? = some (X j) := by
        rw [hF, List.getElem?_set_ne (by omega), List.getElem?_set_self (by simp [killF_len, hT2l])]
      have hFa : (F j)[σ.length + 6]? = some (.cells ((zs ++ [(j : Int)]).map .i)) := by
        rw [hF, List.getElem?_set_ne (by omega), List.getElem?_set_ne (by omega), List.getElem?_set_ne (by omega), List.getElem?_append_right (by simp [killF_len, hT2l])]
        simp [killF_len, hT2l]
      refine ⟨_, hFr, by simp, ?_⟩
      show W _ _ (.exit 1) _ _
      refine W_exit ?_
      have hwt : IntKind.i64.wrap ((t : Int) + 1) = ((t + 1 : Nat) : Int) := by rw [wrap_in (by omega)]; rfl
      simp only [hwt, evA, if_true, if_false, reduceIte, Nat.reduceAdd, Nat.reduceMul, Nat.reduceSub, Nat.reduceLeDiff, Nat.reduceEqDiff, Nat.reduceBEq, Nat.reduceBNe, Int.reduceAdd, Int.reduceMul, Int.reduceSub, Int.reduceLT, Int.reduceGT, Int.reduceGE, Int.reduceLE, Int.reduceEq, Int.reduceNeg, Int.reduceToNat, reduceCtorEq, beq_false, Int.reduceBEq, Int.reduceBNe]
      have hgx : x' - preF ks r us j < waysF ks r (lessF us j) := by
        have h2 := hgo j
        rw [hgj] at h2
        have : ¬ (x' - preF ks r us j ≥ waysF ks r (lessF us j)) := by simpa using h2.symm
        omega
      have hps := preF_succ ks r us j
      rw [hrt, if_pos hcj] at hps
      have hbk : ∀ k, k < j → canB ks us (ks.length - (r + 1)) k = true → preF ks r us (k + 1) ≤ x' := fun k hk hck => by
        rw [hrt] at hck
        have h2 := hgo k
        rw [hbj k hk hck] at h2
        have h3 := preF_succ ks r us k
        rw [hrt, if_pos hck] at h3
        have h4 : x' - preF ks r us k ≥ waysF ks r (lessF us k) := by simpa using h2.symm
        omega
      have hpj := pre_le (ks := ks) (r := r) (us := us) hP.xb.1 j hbk
      refine kFor_weak (by first | trivial | omega) (Weak.undef (vals' := [.ptr 0 0, .i x, .ptr 2 0, .ptr 3 0, .ptr 4 0, .ptr 5 0, .undef, .undef, .undef, .i ks.length, .i ((t + 1 : Nat) : Int), .undef, .undef, .undef, .undef, .undef]) ⟨.inl rfl, .inl rfl, .inl rfl, .inl rfl, .inl rfl, .inl rfl, .inr rfl, .inr rfl, .inr rfl, .inl rfl, .inl rfl, .inr rfl, .inr rfl, .inr rfl, .inr rfl, .inr rfl, trivial⟩)
        ⟨_, (waysQL ks r us K (j + 1)).2, lessF us j, zs ++ [(j : Int)], x' - preF ks r us j, .sl (σ.length + 6) 0 (zs.length + 1) 1, ⟨?_, ?_, ?_, ?_, ?_, ?_, ⟨?_, .inr ⟨σ.length + 6, by omega, by simp, ?_⟩⟩, ?_, (hQL (j + 1) (by omega)).2, dig_less hP.ud hj hcj, ?_, ?_, ?_⟩, rfl⟩
      · simp only [setLoop]; rw [List.getElem?_set_ne (by omega), hFlo 0 (by omega), hT2lo 0 (by omega) (by omega), hGn j 0 (by omega) (by omega)]; exact hP.o0
      · simp only [setLoop]; rw [List.getElem?_set_ne (by omega), hFlo 1 (by omega)]; exact hT21
      · simp only [setLoop]; rw [List.getElem?_set_ne (by omega), hFlo 2 (by omega), hT2lo 2 (by omega) (by omega), hGn j 2 (by omega) (by omega)]; exact hP.o2
      · simp only [setLoop]; rw [List.getElem?_set_ne (by omega), hFlo 3 (by omega), hT2lo 3 (by omega) (by omega)]; exact hG3 j
      · simp only [setLoop]; rw [List.getElem?_set_ne (by omega)]; exact hF4
      · simp only [setLoop]; rw [List.getElem?_set_ne (by omega), ← hX]; exact hF5
      · simp only [setLoop, List.length_set, hFl]; omega
      · refine rowOf_get ?_
        simp only [setLoop]; rw [List.getElem?_set_ne (by omega)]; exact hFa
      · refine Cl.set (hFcl j) _ ?_
        rw [hFl]
        exact hRin _ (by omega)
      · rw [show ks.length - (t + 1) = r by omega]
        exact ⟨by omega, hgx⟩
      · rw [show ks.length - (t + 1) = r by omega, ← hP.eq, hr, pick_step hj (by rw [hrt]; exact hcj) (by omega) hbk]
        simp
      · simp [hP.zl]

end Go.Proofs.Ytphdemhopihpnaa.AM

namespace Go.Proofs.Ytphdemhopihpnaa.AM
open Go
set_option linter.unusedVariables false
set_option linter.unusedSimpArgs false

theorem c58f (ts0 ks : List Int) (hok : DrawOk ts0 ks) (K : Memo) (hR : RightQ ks ts0.length K) (x : Int) (hx : 0 ≤ x ∧ x < waysF ks ks.length ts0) {σ : List AObj} (d c : Nat) (hne : d ≠ c)
    (h0 : σ[d]? = some (.cells [ints ts0, ints ks, .map c])) (h1 : σ[c]? = some (.map (rendK K))) :
    AC Try.prog 58 [.ptr d 0, .i x] σ fun v τ => AccFrom σ.length τ v (pickF ks ks.length ts0 x) := by
  have hr := AC.at (σ := σ) [d, c] (c58 ts0 ks hok K hR x hx) (by simpa using hne) rfl (by
    refine ⟨⟨trivial, rfl, ?_⟩, ⟨trivial, objIn_rend _ _, ?_⟩, trivial⟩
    · rw [h0]; rfl
    · rw [h1]; simp only [renO, ren_rend])
  refine AC.mono (show AC Try.prog 58 [.ptr d 0, .i x] σ _ from hr) ?_
  rintro v τ ⟨r0, τ0, ⟨K', _, _, _, hl0, hacc⟩, hle, rfl, rfl⟩
  have hlt : ∀ l ∈ [d, c], l < σ.length := by
    intro l hl
    simp only [List.mem_cons, List.not_mem_nil, or_false] at hl
    rcases hl with rfl | rfl
    · exact (List.getElem?_eq_some_iff.1 h0).1
    · exact (List.getElem?_eq_some_iff.1 h1).1
  obtain ⟨p1, p2, p3, p4⟩ := putL_get [d, c] (τ0.map (renO (atF [d, c] σ.length))) σ (by simpa using hne) hlt (by simpa using hle)
  refine ⟨by rw [p1]; omega, ?_⟩
  rcases hacc with ⟨rfl, hz⟩ | ⟨l, hl, rfl, hrow⟩
  · exact .inl ⟨rfl, hz⟩
  · refine .inr ⟨σ.length + (l - 2), by omega, ?_, ?_⟩
    · simp only [ren, atF, List.length_cons, List.length_nil]
      rw [if_neg (by omega)]
    · refine rowOf_get ?_
      rw [p4, List.getElem?_map, show [d, c].length + (l - 2) = l by simp; omega, rowOf_some hrow]
      simp only [Option.map_some, renO, rens_ints]

/-- what Pick answers, of a valid draw -/
def pickV (ts ks : List Int) (n : Int) : AV :=
  if n < 0 ∨ n > 2147483646 then .tup [ints [], .i 7]
  else if waysF ks ks.length ts = 0 then .tup [ints [], .i 9]
  else .tup [ints (pickF ks ks.length ts (n % waysF ks ks.length ts)), .i 0]

theorem pickV_cl (ts ks : List Int) (n : Int) : locsIn 0 (pickV ts ks n) = true := by
  unfold pickV; split
  · rfl
  · split <;> rfl

theorem mod_in {n m : Int} (hn : 0 ≤ n) (hm : 0 < m) : n.tmod m = n % m ∧ 0 ≤ n % m ∧ n % m < m :=
  ⟨Int.tmod_eq_emod_of_nonneg hn, Int.emod_nonneg _ (by omega), Int.emod_lt_of_pos _ hm⟩

theorem c28_ok (ts ks : List Int) (n : Int) (ht : ts.length < 2 ^ 63) (hk : ks.length < 2 ^ 63) (hok : DrawOk ts ks) : PC Try.prog 28 [drw ts ks, .i n] (pickV ts ks n) := by
  refine ⟨AC_FE (fok28 true) (Nat.le_of_ble_eq_true rfl) ?_, pickV_cl ts ks n⟩
  simp only [ic28, f_box, cellsOf, evA, if_true, if_false, reduceIte, Nat.reduceAdd, Nat.reduceMul, Nat.reduceSub, Nat.reduceLeDiff, Nat.reduceEqDiff, Nat.reduceBEq, Nat.reduceBNe, Int.reduceAdd, Int.reduceMul, Int.reduceSub, Int.reduceLT, Int.reduceGT, Int.reduceGE, Int.reduceLE, Int.reduceEq, Int.reduceNeg, Int.reduceToNat, reduceCtorEq, beq_false, Int.reduceBEq, Int.reduceBNe]
  refine AC.run (c53f ts ks ht hk (checkV_ok hok) _) ?_
  simp only [evA, if_true, if_false, reduceIte, Nat.reduceAdd, Nat.reduceMul, Nat.reduceSub, Nat.reduceLeDiff, Nat.reduceEqDiff, Nat.reduceBEq, Nat.reduceBNe, Int.reduceAdd, Int.reduceMul, Int.reduceSub, Int.reduceLT, Int.reduceGT, Int.reduceGE, Int.reduceLE, Int.reduceEq, Int.reduceNeg, Int.reduceToNat, reduceCtorEq, beq_false, Int.reduceBEq, Int.reduceBNe]
  refine (c47 0 2147483646 [n] (by simp)).call (by (try dsimp only); repeat (first | exact trivial | rfl | exact frz_ints_nl | (apply frz_ints (fun _ => trivial); first | rfl | (simp [rowOf]; done)) | constructor | simp only [frzA])) ?_
  rw [outF_one]
  by_cases hb : n < 0 ∨ n > 2147483646
  · have hbb : inB n 0 2147483646 = false := by
      cases hi : inB n 0 2147483646 with
      | false => rfl
      | true => have := inB_iff.1 hi; omega
    simp only [pickV, hb, hbb, evA, if_true, if_false, reduceIte, Nat.reduceAdd, Nat.reduceMul, Nat.reduceSub, Nat.reduceLeDiff, Nat.reduceEqDiff, Nat.reduceBEq, Nat.reduceBNe, Int.reduceAdd, Int.reduceMul, Int.reduceSub, Int.reduceLT, Int.reduceGT, Int.reduceGE, Int.reduceLE, Int.reduceEq, Int.reduceNeg, Int.reduceToNat, reduceCtorEq, beq_false, Int.reduceBEq, Int.reduceBNe]
    exact (by (try dsimp only); repeat (first | exact trivial | rfl | exact frz_ints_nl | (apply frz_ints (fun _ => trivial); first | rfl | (simp [rowOf]; done)) | constructor | simp only [frzA]))
  · have hbb : inB n 0 2147483646 = true := inB_iff.2 (by omega)
    simp only [pickV, hb, hbb, evA, if_true, if_false, reduceIte, Nat.reduceAdd, Nat.reduceMul, Nat.reduceSub, Nat.reduceLeDiff, Nat.reduceEqDiff, Nat.reduceBEq, Nat.reduceBNe, Int.reduceAdd, Int.reduceMul, Int.reduceSub, Int.reduceLT, Int.reduceGT, Int.reduceGE, Int.reduceLE, Int.reduceEq, Int.reduceNeg, Int.reduceToNat, reduceCtorEq, beq_false, Int.reduceBEq, Int.reduceBNe]
    refine AC.run (c55 3 ts [ints ks, .map 2] [AObj.cells [ints ts, ints ks], AObj.cells [ints ts, ints ks], AObj.map [], AObj.cells [ints ts, ints ks, .map 2], AObj.cells [.i n]] rfl hok.tl.2) ?_
    have h := c54f ts ks hok ks.length ts [] (Nat.le_refl _) ⟨rfl, hok.tr⟩ (right_nil _ _) (σ := [AObj.cells [ints ts, ints ks], AObj.cells [ints ts, ints ks], AObj.map [], AObj.cells [ints ts, ints ks, .map 2], AObj.cells [.i n]]) 3 2 (by decide) rfl rfl
    have hKr := (waysQ_right (ks := ks) ks.length ts [] (Nat.le_refl _) ⟨rfl, hok.tr⟩ (right_nil _ _)).2
    have hwn := waysF_nonneg ks ks.length ts
    have h58 := c58f ts ks hok _ hKr
    rw [Nat.sub_self] at h
    generalize (waysQ ks ks.length ts []).2 = K' at h h58
    generalize hm : waysF ks ks.length ts = m at h hwn h58 ⊢
    simp only [evA, if_true, if_false, reduceIte, Nat.reduceAdd, Nat.reduceMul, Nat.reduceSub, Nat.reduceLeDiff, Nat.reduceEqDiff, Nat.reduceBEq, Nat.reduceBNe, Int.reduceAdd, Int.reduceMul, Int.reduceSub, Int.reduceLT, Int.reduceGT, Int.reduceGE, Int.reduceLE, Int.reduceEq, Int.reduceNeg, Int.reduceToNat, reduceCtorEq, beq_false, Int.reduceBEq, Int.reduceBNe]
    refine AC.run h ?_
    by_cases hm0 : m = 0
    · have he : (m == 0) = true := by simpa using hm0
      simp only [he, hm0, evA, if_true, if_false, reduceIte, Nat.reduceAdd, Nat.reduceMul, Nat.reduceSub, Nat.reduceLeDiff, Nat.reduceEqDiff, Nat.reduceBEq, Nat.reduceBNe, Int.reduceAdd, Int.reduceMul, Int.reduceSub, Int.reduceLT, Int.reduceGT, Int.reduceGE, Int.reduceLE, Int.reduceEq, Int.reduceNeg, Int.reduceToNat, reduceCtorEq, beq_false, Int.reduceBEq, Int.reduceBNe]
      exact (by (try dsimp only); repeat (first | exact trivial | rfl | exact frz_ints_nl | (apply frz_ints (fun _ => trivial); first | rfl | (simp [rowOf]; done)) | constructor | simp only [frzA]))
    · have he : (m == 0) = false := by simpa using hm0
      obtain ⟨g1, g2, g3⟩ := mod_in (n := n) (m := m) (by omega) (by omega)
      simp only [he, hm0, g1, evA, if_true, if_false, reduceIte, Nat.reduceAdd, Nat.reduceMul, Nat.reduceSub, Nat.reduceLeDiff, Nat.reduceEqDiff, Nat.reduceBEq, Nat.reduceBNe, Int.reduceAdd, Int.reduceMul, Int.reduceSub, Int.reduceLT, Int.reduceGT, Int.reduceGE, Int.reduceLE, Int.reduceEq, Int.reduceNeg, Int.reduceToNat, reduceCtorEq, beq_false, Int.reduceBEq, Int.reduceBNe]
      refine AC.mono (h58 (n % m) ⟨g2, g3⟩ 3 2 (by decide) rfl rfl) fun v τ hacc => ?_
      simp only [evA, if_true, if_false, reduceIte, Nat.reduceAdd, Nat.reduceMul, Nat.reduceSub, Nat.reduceLeDiff, Nat.reduceEqDiff, Nat.reduceBEq, Nat.reduceBNe, Int.reduceAdd, Int.reduceMul, Int.reduceSub, Int.reduceLT, Int.reduceGT, Int.reduceGE, Int.reduceLE, Int.reduceEq, Int.reduceNeg, Int.reduceToNat, reduceCtorEq, beq_false, Int.reduceBEq, Int.reduceBNe]
      exact .tup (.cons (acc_frz (fun _ => trivial) hacc.acc) (.cons (.c (.c _ trivial)) .nil))

theorem c28_err (ts ks : List Int) (n : Int) (ht : ts.length < 2 ^ 63) (hk : ks.length < 2 ^ 63) {x y e : Int} (hv : checkV ts ks = tup3 x y e) (he : e ≠ 0) : PC Try.prog 28 [drw ts ks, .i n] (.tup [ints [], .i e]) := by
  refine ⟨AC_FE (fok28 true) (Nat.le_of_ble_eq_true rfl) ?_, rfl⟩
  have hb : (e != 0) = true := by simpa using he
  simp only [ic28, f_box, cellsOf, evA, if_true, if_false, reduceIte, Nat.reduceAdd, Nat.reduceMul, Nat.reduceSub, Nat.reduceLeDiff, Nat.reduceEqDiff, Nat.reduceBEq, Nat.reduceBNe, Int.reduceAdd, Int.reduceMul, Int.reduceSub, Int.reduceLT, Int.reduceGT, Int.reduceGE, Int.reduceLE, Int.reduceEq, Int.reduceNeg, Int.reduceToNat, reduceCtorEq, beq_false, Int.reduceBEq, Int.reduceBNe]
  refine AC.run (c53f ts ks ht hk hv _) ?_
  simp only [hb, evA, if_true, if_false, reduceIte, Nat.reduceAdd, Nat.reduceMul, Nat.reduceSub, Nat.reduceLeDiff, Nat.reduceEqDiff, Nat.reduceBEq, Nat.reduceBNe, Int.reduceAdd, Int.reduceMul, Int.reduceSub, Int.reduceLT, Int.reduceGT, Int.reduceGE, Int.reduceLE, Int.reduceEq, Int.reduceNeg, Int.reduceToNat, reduceCtorEq, beq_false, Int.reduceBEq, Int.reduceBNe]
  exact (by (try dsimp only); repeat (first | exact trivial | rfl | exact frz_ints_nl | (apply frz_ints (fun _ => trivial); first | rfl | (simp [rowOf]; done)) | constructor | simp only [frzA]))

end Go.Proofs.Ytphdemhopihpnaa.AM

namespace Go.Proofs.Ytphdemhopihpnaa.AM
open Go
set_option linter.unusedVariables false
set_option linter.unusedSimpArgs false

/-- the table with its memo, right -/
structure TabR (ts0 ks : List Int) (σ : List AObj) (b : Nat) (K : List (List Int)) : Prop where
  tab : TabAt σ b ks.length (5 ^ ts0.length) K
  mem : MemoB ks.length (5 ^ ts0.length) K
  rgt : Right ks ts0.length K

theorem TabR.call {ts0 ks : List Int} (hok : DrawOk ts0 ks) {σ : List AObj} {b : Nat} {K : List (List Int)} (h : TabR ts0 ks σ b K) (r : Nat) (us : List Int) (hr : r ≤ ks.length) (hd : Dig ts0.length us) :
    ∃ K', AC Try.prog 56 [drw ts0 ks, .sl b 0 ks.length 1, .i ((ks.length - r : Nat) : Int), ints us] σ (fun v τ => v = .i (waysF ks r us) ∧ τ = putTab σ b K') ∧ TabR ts0 ks (putTab σ b K') b K' ∧ K'.length = ks.length := by
  have hac := c56 ts0 ks hok r us K σ b hr hd.1 hd.2 h.mem h.tab
  obtain ⟨h1, h2⟩ := waysM_right hok.tl.2 r us K hr hd h.mem h.rgt
  have hb := waysM_bounds (ks := ks) (size := 5 ^ ts0.length) r us K hr (by rw [hd.1]; exact hok.tl.2) h.mem
  refine ⟨_, by rw [h1] at hac; exact hac, ⟨h.tab.put hb.2.2.kl hb.2.2.rl, hb.2.2, h2⟩, hb.2.2.kl⟩

theorem TabAt.rows_of {σ τ : List AObj} {b T size : Nat} {K : List (List Int)} (h : TabAt σ b T size K) (hr : ∀ l, l < b + 1 + T → rowOf τ l = rowOf σ l) : TabAt τ b T size K :=
  ⟨by rw [hr b (by omega)]; exact h.out, h.kl, fun j hj => ⟨by rw [hr _ (by omega)]; exact (h.rows j hj).1, (h.rows j hj).2⟩⟩

theorem AccFrom.put {σ : List AObj} {b b' : Nat} {v : AV} {zs : List Int} {K : List (List Int)} (h : AccFrom b' σ v zs) (hb : b + 1 + K.length ≤ b') : AccFrom b' (putTab σ b K) v zs := by
  refine ⟨by rw [putTab_length]; exact h.1, h.2.imp id fun ⟨l, h1, h2, h3⟩ => ⟨l, h1, h2, ?_⟩⟩
  refine rowOf_get ?_
  rw [putTab_get, rowOf_some h3]
  simp only [Option.map_some]
  rw [if_neg (by omega)]

theorem putTab_lo {σ : List AObj} {b : Nat} {K : List (List Int)} {l : Nat} (hl : l < b + 1) : rowOf (putTab σ b K) l = rowOf σ l := by
  unfold rowOf
  rw [putTab_get]
  cases σ[l]? with
  | none => rfl
  | some o =>
    simp only [Option.map_some]
    rw [if_neg (by omega)]

theorem K0_tabR {ts0 ks : List Int} {σ : List AObj} {b : Nat} (h : TabAt σ b ks.length (5 ^ ts0.length) (K0 ks.length (5 ^ ts0.length))) : TabR ts0 ks σ b (K0 ks.length (5 ^ ts0.length)) := ⟨h, K0_memo _ _, K0_right _ _⟩

theorem bits_ok {ts0 ks : List Int} (hok : DrawOk ts0 ks) {t : Nat} (ht : t < ks.length) : ∃ S : Nat, ks[t]?.getD 0 = (S : Int) ∧ S < 2 ^ 62 ∧ (ks[t]?.getD 0).toNat = S := by
  have hkt := hok.kr t ht
  refine ⟨(ks[t]?.getD 0).toNat, (Int.toNat_of_nonneg hkt.1).symm, ?_, rfl⟩
  have h2 := hkt.2
  unfold capF at h2
  have hp : (2 : Nat) ^ ts0.length ≤ 2 ^ 6 := Nat.pow_le_pow_right (by omega) (by have := hok.tl; omega)
  generalize 2 ^ ts0.length = q at *
  omega

/-- the document's picked -/
theorem c59 (ts0 ks : List Int) (hok : DrawOk ts0 ks) (x : Int) (hx : 0 ≤ x ∧ x < waysF ks ks.length ts0) : PC Try.prog 59 [drw ts0 ks, .i x] (ints (pickF ks ks.length ts0 x)) := by
  refine ⟨AC_FE (fok59 true) (Nat.le_of_ble_eq_true rfl) ?_, rfl⟩
  have h6 := hok.tl
  have hk8 := hok.kl
  simp only [ic59, f_box, cellsOf, evA, if_true, if_false, reduceIte, Nat.reduceAdd, Nat.reduceMul, Nat.reduceSub, Nat.reduceLeDiff, Nat.reduceEqDiff, Nat.reduceBEq, Nat.reduceBNe, Int.reduceAdd, Int.reduceMul, Int.reduceSub, Int.reduceLT, Int.reduceGT, Int.reduceGE, Int.reduceLE, Int.reduceEq, Int.reduceNeg, Int.reduceToNat, reduceCtorEq, beq_false, Int.reduceBEq, Int.reduceBNe]
  obtain ⟨τ, hac, htab, _⟩ := c57f ts0 ks hok [AObj.cells [ints ts0, ints ks]]
  refine AC.run hac ?_
  have hb2 : ([AObj.cells [ints ts0, ints ks]] : List AObj).length + 1 = 2 := rfl
  rw [hb2] at htab ⊢
  have hlt := htab.lt
  have r0 : rowOf ([AObj.cells [ints ts0, ints ks]] ++ τ) 0 = some [ints ts0, ints ks] := rfl
  obtain ⟨σ0, hσ0⟩ : ∃ σ0, σ0 = [AObj.cells [ints ts0, ints ks]] ++ τ := ⟨_, rfl⟩
  rw [← hσ0] at htab hlt r0 ⊢
  simp only [r0, evA, if_true, if_false, reduceIte, Nat.reduceAdd, Nat.reduceMul, Nat.reduceSub, Nat.reduceLeDiff, Nat.reduceEqDiff, Nat.reduceBEq, Nat.reduceBNe, Int.reduceAdd, Int.reduceMul, Int.reduceSub, Int.reduceLT, Int.reduceGT, Int.reduceGE, Int.reduceLE, Int.reduceEq, Int.reduceNeg, Int.reduceToNat, reduceCtorEq, beq_false, Int.reduceBEq, Int.reduceBNe]
  refine IL_for ks.length (fun t s => ∃ σ K us zs x' v v8 v9 v10 v11 v12 v13, (TabR ts0 ks σ 2 K ∧ rowOf σ 0 = some [ints ts0, ints ks] ∧ AccFrom (3 + ks.length) σ v zs ∧ Dig ts0.length us ∧ (0 ≤ x' ∧ x' < waysF ks (ks.length - t) us) ∧ zs ++ pickF ks (ks.length - t) us x' = pickF ks ks.length ts0 x ∧ zs.length = t) ∧
    s = ⟨[drw ts0 ks, .i x', .ptr 0 0, .cv .nils, .sl 2 0 ks.length 1, ints us, v, .i t, v8, v9, v10, v11, v12, v13], σ⟩) ?_ 0 (Nat.zero_le _) ⟨σ0, _, ts0, [], x, .cv .nils, _, _, _, _, _, _, ⟨K0_tabR htab, r0, AccFrom.nil (by omega), ⟨rfl, hok.tr⟩, hx, rfl, rfl⟩, rfl⟩
  rintro t s htl ⟨σ, K, us, zs, x', v, v8, v9, v10, v11, v12, v13, ⟨hT, hr0, hA, hd, hxb, heq, hzl⟩, rfl⟩
  by_cases h : t < ks.length
  rotate_left
  · have hte : t = ks.length := by omega
    subst hte
    rw [Nat.sub_self] at heq
    have heq : zs = pickF ks ks.length ts0 x := by simpa [pickF] using heq
    rw [heq] at hA
    simp only [ic59l1, Int.ofNat_lt, h, hr0, evA, if_true, if_false, reduceIte, Nat.reduceAdd, Nat.reduceMul, Nat.reduceSub, Nat.reduceLeDiff, Nat.reduceEqDiff, Nat.reduceBEq, Nat.reduceBNe, Int.reduceAdd, Int.reduceMul, Int.reduceSub, Int.reduceLT, Int.reduceGT, Int.reduceGE, Int.reduceLE, Int.reduceEq, Int.reduceNeg, Int.reduceToNat, reduceCtorEq, beq_false, Int.reduceBEq, Int.reduceBNe]
    exact acc_frz (fun _ => trivial) hA.acc
  obtain ⟨r, hr⟩ : ∃ r, ks.length - t = r + 1 := ⟨ks.length - t - 1, by omega⟩
  have hrt : ks.length - (r + 1) = t := by omega
  simp only [ic59l1, Int.ofNat_lt, h, hr0, evA, if_true, if_false, reduceIte, Nat.reduceAdd, Nat.reduceMul, Nat.reduceSub, Nat.reduceLeDiff, Nat.reduceEqDiff, Nat.reduceBEq, Nat.reduceBNe, Int.reduceAdd, Int.reduceMul, Int.reduceSub, Int.reduceLT, Int.reduceGT, Int.reduceGE, Int.reduceLE, Int.reduceEq, Int.reduceNeg, Int.reduceToNat, reduceCtorEq, beq_false, Int.reduceBEq, Int.reduceBNe]
  refine IL_for us.length (fun i s => ∃ σ K v9 v11 v12 v13, (TabR ts0 ks σ 2 K ∧ rowOf σ 0 = some [ints ts0, ints ks] ∧ AccFrom (3 + ks.length) σ v zs ∧ ∀ k, k < i → canB ks us t k = true → preF ks r us (k + 1) ≤ x') ∧
    s = ⟨[drw ts0 ks, .i (x' - preF ks r us i), .ptr 0 0, .cv .nils, .sl 2 0 ks.length 1, ints us, v, .i t, .i i, v9, .b true, v11, v12, v13], σ⟩) ?_ 0 (Nat.zero_le _) ⟨σ, K, _, _, _, _, ⟨hT, hr0, hA, fun k hk => absurd hk (Nat.not_lt_zero _)⟩, by rw [preF_zero, Int.sub_zero]; rfl⟩
  clear hT hr0 hA
  rintro i s hi ⟨σ, K, v9, v11, v12, v13, ⟨hT, hr0, hA, hbk⟩, rfl⟩
  by_cases hil : i < us.length
  rotate_left
  · exfalso
    have : i = us.length := by omega
    subst this
    have := pre_le (ks := ks) (r := r) (us := us) hxb.1 us.length fun k hk hck => hbk k hk (by rw [← hrt]; exact hck)
    have h2 := hxb.2
    rw [hr, preF_full] at h2
    omega
  obtain ⟨S, hS, hS62, hSn⟩ := bits_ok hok h
  have hcan : canB ks us t i = (decide (us[i]?.getD 0 > 0) && !S.testBit i) := by unfold canB; rw [hSn]
  have hdi := hd.2 i hil
  have hps := preF_succ ks r us i
  rw [hrt] at hps
  have hwi : IntKind.i64.wrap ((i : Int) + 1) = ((i + 1 : Nat) : Int) := by rw [wrap_in (by have := hd.1; omega)]; rfl
  have next : canB ks us t i = false → preF ks r us (i + 1) = preF ks r us i ∧ ∀ k, k < i + 1 → canB ks us t k = true → preF ks r us (k + 1) ≤ x' := fun hc => by
    rw [hc] at hps
    refine ⟨by simpa using hps, fun k hk hck => ?_⟩
    rcases Nat.lt_succ_iff_lt_or_eq.1 hk with hk | rfl
    · exact hbk k hk hck
    · rw [hc] at hck; cases hck
  have hu6 : us.length ≤ 6 := by rw [hd.1]; exact h6.2
  by_cases h0 : us[i]?.getD 0 = 0
  · have hz : (us[i]?.getD 0 == 0) = true := by simpa using h0
    have hc : canB ks us t i = false := by rw [hcan, h0]; rfl
    simp only [ic59l0, Int.ofNat_lt, hil, hz, hwi, evA, if_true, if_false, reduceIte, Nat.reduceAdd, Nat.reduceMul, Nat.reduceSub, Nat.reduceLeDiff, Nat.reduceEqDiff, Nat.reduceBEq, Nat.reduceBNe, Int.reduceAdd, Int.reduceMul, Int.reduceSub, Int.reduceLT, Int.reduceGT, Int.reduceGE, Int.reduceLE, Int.reduceEq, Int.reduceNeg, Int.reduceToNat, reduceCtorEq, beq_false, Int.reduceBEq, Int.reduceBNe]
    exact kFor_go (by first | trivial | omega) ⟨σ, K, _, _, _, _, ⟨hT, hr0, hA, (next hc).2⟩, by rw [(next hc).1]⟩
  · have hz : (us[i]?.getD 0 == 0) = false := by simpa using h0
    simp only [ic59l0, Int.ofNat_lt, hil, hz, hr0, h, hS, evA, if_true, if_false, reduceIte, Nat.reduceAdd, Nat.reduceMul, Nat.reduceSub, Nat.reduceLeDiff, Nat.reduceEqDiff, Nat.reduceBEq, Nat.reduceBNe, Int.reduceAdd, Int.reduceMul, Int.reduceSub, Int.reduceLT, Int.reduceGT, Int.reduceGE, Int.reduceLE, Int.reduceEq, Int.reduceNeg, Int.reduceToNat, reduceCtorEq, beq_false, Int.reduceBEq, Int.reduceBNe]
    refine (c45 S i hS62 (by omega)).call (by (try dsimp only); repeat (first | exact trivial | rfl | exact frz_ints_nl | (apply frz_ints (fun _ => trivial); first | rfl | (simp [rowOf]; done)) | constructor | simp only [frzA])) ?_
    cases hbt : S.testBit i
    rotate_left
    · have hc : canB ks us t i = false := by rw [hcan, hbt]; simp
      simp only [hwi, evA, if_true, if_false, reduceIte, Nat.reduceAdd, Nat.reduceMul, Nat.reduceSub, Nat.reduceLeDiff, Nat.reduceEqDiff, Nat.reduceBEq, Nat.reduceBNe, Int.reduceAdd, Int.reduceMul, Int.reduceSub, Int.reduceLT, Int.reduceGT, Int.reduceGE, Int.reduceLE, Int.reduceEq, Int.reduceNeg, Int.reduceToNat, reduceCtorEq, beq_false, Int.reduceBEq, Int.reduceBNe]
      exact kFor_go (by first | trivial | omega) ⟨σ, K, _, _, _, _, ⟨hT, hr0, hA, (next hc).2⟩, by rw [(next hc).1]⟩
    have hc : canB ks us t i = true := by rw [hcan, hbt]; simp; omega
    rw [hc, if_pos rfl] at hps
    have hdl := dig_less hd hil hc
    obtain ⟨K', h56, hT', hKl⟩ := hT.call hok r (lessF us i) (by omega) hdl
    have h61 := c61 us i (by omega) hil (by omega)
    rw [show ks.length - r = t + 1 by omega] at h56
    have hco := callOk_put (σ := σ) (b := 2) (K := K') (waysF ks r (lessF us i))
    have hwt : IntKind.i64.wrap ((t : Int) + 1) = ((t + 1 : Nat) : Int) := by rw [wrap_in (by omega)]; rfl
    have hA' := hA.put (b := 2) (K := K') (by omega)
    have hr0' : rowOf (putTab σ 2 K') 0 = some [ints ts0, ints ks] := by rw [putTab_lo (by omega)]; exact hr0
    have hwb := waysF_bounds ks r (lessF us i) (by simpa using hu6)
    have hwb2 := waysF_bounds ks (ks.length - t) us hu6
    have hk68 : 6 ^ r ≤ 6 ^ 8 := Nat.pow_le_pow_right (by omega) (by omega)
    have hk69 : 6 ^ (ks.length - t) ≤ 6 ^ 8 := Nat.pow_le_pow_right (by omega) (by omega)
    have hpn := preF_nonneg ks r us i
    simp only [hbt, evA, if_true, if_false, reduceIte, Nat.reduceAdd, Nat.reduceMul, Nat.reduceSub, Nat.reduceLeDiff, Nat.reduceEqDiff, Nat.reduceBEq, Nat.reduceBNe, Int.reduceAdd, Int.reduceMul, Int.reduceSub, Int.reduceLT, Int.reduceGT, Int.reduceGE, Int.reduceLE, Int.reduceEq, Int.reduceNeg, Int.reduceToNat, reduceCtorEq, beq_false, Int.reduceBEq, Int.reduceBNe]
    refine DW_s [6] [] hmix (by kernel_rfl) rfl ?_
    simp only [hr0, hwt, evA, if_true, if_false, reduceIte, Nat.reduceAdd, Nat.reduceMul, Nat.reduceSub, Nat.reduceLeDiff, Nat.reduceEqDiff, Nat.reduceBEq, Nat.reduceBNe, Int.reduceAdd, Int.reduceMul, Int.reduceSub, Int.reduceLT, Int.reduceGT, Int.reduceGE, Int.reduceLE, Int.reduceEq, Int.reduceNeg, Int.reduceToNat, reduceCtorEq, beq_false, Int.reduceBEq, Int.reduceBNe]
    refine kK_keep (h61.call (by (try dsimp only); repeat (first | exact trivial | rfl | exact frz_ints_nl | (apply frz_ints (fun _ => trivial); first | rfl | (simp [rowOf]; done)) | constructor | simp only [frzA])) ⟨rfl, rfl⟩) rfl ?_
    simp only [evA, if_true, if_false, reduceIte, Nat.reduceAdd, Nat.reduceMul, Nat.reduceSub, Nat.reduceLeDiff, Nat.reduceEqDiff, Nat.reduceBEq, Nat.reduceBNe, Int.reduceAdd, Int.reduceMul, Int.reduceSub, Int.reduceLT, Int.reduceGT, Int.reduceGE, Int.reduceLE, Int.reduceEq, Int.reduceNeg, Int.reduceToNat, reduceCtorEq, beq_false, Int.reduceBEq, Int.reduceBNe]
    refine kK_turn h56 hco ?_
    by_cases hlt2 : x' - preF ks r us i < waysF ks r (lessF us i)
    · obtain ⟨v', σ', hap, hacc, hrow⟩ := accFrom_append (i : Int) hA' (by omega)
      simp only [hlt2, hap, evA, if_true, if_false, reduceIte, Nat.reduceAdd, Nat.reduceMul, Nat.reduceSub, Nat.reduceLeDiff, Nat.reduceEqDiff, Nat.reduceBEq, Nat.reduceBNe, Int.reduceAdd, Int.reduceMul, Int.reduceSub, Int.reduceLT, Int.reduceGT, Int.reduceGE, Int.reduceLE, Int.reduceEq, Int.reduceNeg, Int.reduceToNat, reduceCtorEq, beq_false, Int.reduceBEq, Int.reduceBNe]
      refine (h61).call (by (try dsimp only); repeat (first | exact trivial | rfl | exact frz_ints_nl | (apply frz_ints (fun _ => trivial); first | rfl | (simp [rowOf]; done)) | constructor | simp only [frzA])) ?_
      have hpj := pre_le (ks := ks) (r := r) (us := us) hxb.1 i fun k hk hck => hbk k hk (by rw [← hrt]; exact hck)
      simp only [hwt, evA, if_true, if_false, reduceIte, Nat.reduceAdd, Nat.reduceMul, Nat.reduceSub, Nat.reduceLeDiff, Nat.reduceEqDiff, Nat.reduceBEq, Nat.reduceBNe, Int.reduceAdd, Int.reduceMul, Int.reduceSub, Int.reduceLT, Int.reduceGT, Int.reduceGE, Int.reduceLE, Int.reduceEq, Int.reduceNeg, Int.reduceToNat, reduceCtorEq, beq_false, Int.reduceBEq, Int.reduceBNe]
      refine kFor_go (by first | trivial | omega) ⟨σ', K', lessF us i, zs ++ [(i : Int)], x' - preF ks r us i, v', _, _, _, _, _, _, ⟨⟨hT'.tab.rows_of fun l hl => hrow l (by omega), hT'.mem, hT'.rgt⟩, by rw [hrow 0 (by omega)]; exact hr0', hacc, hdl, ?_, ?_, by simp [hzl]⟩, rfl⟩
      · rw [show ks.length - (t + 1) = r by omega]
        exact ⟨by omega, hlt2⟩
      · rw [show ks.length - (t + 1) = r by omega, ← heq, hr, pick_step hil (by rw [hrt]; exact hc) (by omega) (fun k hk hck => hbk k hk (by rw [← hrt]; exact hck))]
        simp
    · have hwr : IntKind.i64.wrap (x' - preF ks r us i - waysF ks r (lessF us i)) = x' - preF ks r us (i + 1) := by
        rw [hps]
        generalize 6 ^ (ks.length - t) = p1 at *
        generalize 6 ^ r = p2 at *
        rw [wrap_in (by omega)]; omega
      simp only [hlt2, hwr, hwi, evA, if_true, if_false, reduceIte, Nat.reduceAdd, Nat.reduceMul, Nat.reduceSub, Nat.reduceLeDiff, Nat.reduceEqDiff, Nat.reduceBEq, Nat.reduceBNe, Int.reduceAdd, Int.reduceMul, Int.reduceSub, Int.reduceLT, Int.reduceGT, Int.reduceGE, Int.reduceLE, Int.reduceEq, Int.reduceNeg, Int.reduceToNat, reduceCtorEq, beq_false, Int.reduceBEq, Int.reduceBNe]
      refine kFor_go (by first | trivial | omega) ⟨_, K', _, _, _, _, ⟨hT', hr0', hA', fun k hk hck => ?_⟩, rfl⟩
      rcases Nat.lt_succ_iff_lt_or_eq.1 hk with hk | rfl
      · exact hbk k hk hck
      · omega

theorem c29_ok (ts ks : List Int) (n : Int) (ht : ts.length < 2 ^ 63) (hk : ks.length < 2 ^ 63) (hok : DrawOk ts ks) : PA Try.prog 29 [drw ts ks, .i n] (pickV ts ks n) := by
  refine ⟨AC_FE (fok29 true) (Nat.le_of_ble_eq_true rfl) ?_, pickV_cl ts ks n, rfl⟩
  have h27 := c27_ok ts ks ht hk (checkV_ok hok) hok
  rw [countM_eq hok] at h27
  have hwn := waysF_nonneg ks ks.length ts
  have h59 := c59 ts ks hok
  unfold pickV
  generalize waysF ks ks.length ts = m at h27 hwn h59 ⊢
  simp only [ic29, f_box, cellsOf, evA, if_true, if_false, reduceIte, Nat.reduceAdd, Nat.reduceMul, Nat.reduceSub, Nat.reduceLeDiff, Nat.reduceEqDiff, Nat.reduceBEq, Nat.reduceBNe, Int.reduceAdd, Int.reduceMul, Int.reduceSub, Int.reduceLT, Int.reduceGT, Int.reduceGE, Int.reduceLE, Int.reduceEq, Int.reduceNeg, Int.reduceToNat, reduceCtorEq, beq_false, Int.reduceBEq, Int.reduceBNe]
  refine h27.call (by (try dsimp only); repeat (first | exact trivial | rfl | exact frz_ints_nl | (apply frz_ints (fun _ => trivial); first | rfl | (simp [rowOf]; done)) | constructor | simp only [frzA])) ?_
  simp only [evA, if_true, if_false, reduceIte, Nat.reduceAdd, Nat.reduceMul, Nat.reduceSub, Nat.reduceLeDiff, Nat.reduceEqDiff, Nat.reduceBEq, Nat.reduceBNe, Int.reduceAdd, Int.reduceMul, Int.reduceSub, Int.reduceLT, Int.reduceGT, Int.reduceGE, Int.reduceLE, Int.reduceEq, Int.reduceNeg, Int.reduceToNat, reduceCtorEq, beq_false, Int.reduceBEq, Int.reduceBNe]
  refine (c48 n 0 2147483646).call (by (try dsimp only); repeat (first | exact trivial | rfl | exact frz_ints_nl | (apply frz_ints (fun _ => trivial); first | rfl | (simp [rowOf]; done)) | constructor | simp only [frzA])) ?_
  by_cases hb : n < 0 ∨ n > 2147483646
  · have hbb : (decide (n ≥ 0) && decide (n ≤ 2147483646)) = false := by
      cases hi : (decide (n ≥ 0) && decide (n ≤ 2147483646)) with
      | false => rfl
      | true => simp at hi; omega
    simp only [hb, hbb, evA, if_true, if_false, reduceIte, Nat.reduceAdd, Nat.reduceMul, Nat.reduceSub, Nat.reduceLeDiff, Nat.reduceEqDiff, Nat.reduceBEq, Nat.reduceBNe, Int.reduceAdd, Int.reduceMul, Int.reduceSub, Int.reduceLT, Int.reduceGT, Int.reduceGE, Int.reduceLE, Int.reduceEq, Int.reduceNeg, Int.reduceToNat, reduceCtorEq, beq_false, Int.reduceBEq, Int.reduceBNe]
    exact (by (try dsimp only); repeat (first | exact trivial | rfl | exact frz_ints_nl | (apply frz_ints (fun _ => trivial); first | rfl | (simp [rowOf]; done)) | constructor | simp only [frzA]))
  · have hbb : (decide (n ≥ 0) && decide (n ≤ 2147483646)) = true := by simp; omega
    by_cases hm0 : m = 0
    · have he : (m == 0) = true := by simpa using hm0
      simp only [hb, hbb, he, hm0, evA, if_true, if_false, reduceIte, Nat.reduceAdd, Nat.reduceMul, Nat.reduceSub, Nat.reduceLeDiff, Nat.reduceEqDiff, Nat.reduceBEq, Nat.reduceBNe, Int.reduceAdd, Int.reduceMul, Int.reduceSub, Int.reduceLT, Int.reduceGT, Int.reduceGE, Int.reduceLE, Int.reduceEq, Int.reduceNeg, Int.reduceToNat, reduceCtorEq, beq_false, Int.reduceBEq, Int.reduceBNe]
      exact (by (try dsimp only); repeat (first | exact trivial | rfl | exact frz_ints_nl | (apply frz_ints (fun _ => trivial); first | rfl | (simp [rowOf]; done)) | constructor | simp only [frzA]))
    · have he : (m == 0) = false := by simpa using hm0
      obtain ⟨g1, g2, g3⟩ := mod_in (n := n) (m := m) (by omega) (by omega)
      simp only [hb, hbb, he, hm0, evA, if_true, if_false, reduceIte, Nat.reduceAdd, Nat.reduceMul, Nat.reduceSub, Nat.reduceLeDiff, Nat.reduceEqDiff, Nat.reduceBEq, Nat.reduceBNe, Int.reduceAdd, Int.reduceMul, Int.reduceSub, Int.reduceLT, Int.reduceGT, Int.reduceGE, Int.reduceLE, Int.reduceEq, Int.reduceNeg, Int.reduceToNat, reduceCtorEq, beq_false, Int.reduceBEq, Int.reduceBNe]
      refine DW_s [4] [] hmix (by kernel_rfl) rfl ?_
      simp only [hm0, g1, evA, if_true, if_false, reduceIte, Nat.reduceAdd, Nat.reduceMul, Nat.reduceSub, Nat.reduceLeDiff, Nat.reduceEqDiff, Nat.reduceBEq, Nat.reduceBNe, Int.reduceAdd, Int.reduceMul, Int.reduceSub, Int.reduceLT, Int.reduceGT, Int.reduceGE, Int.reduceLE, Int.reduceEq, Int.reduceNeg, Int.reduceToNat, reduceCtorEq, beq_false, Int.reduceBEq, Int.reduceBNe]
      refine kK_keep ((h59 (n % m) ⟨g2, g3⟩).call (by (try dsimp only); repeat (first | exact trivial | rfl | exact frz_ints_nl | (apply frz_ints (fun _ => trivial); first | rfl | (simp [rowOf]; done)) | constructor | simp only [frzA])) ⟨rfl, rfl⟩) rfl ?_
      simp only [evA, if_true, if_false, reduceIte, Nat.reduceAdd, Nat.reduceMul, Nat.reduceSub, Nat.reduceLeDiff, Nat.reduceEqDiff, Nat.reduceBEq, Nat.reduceBNe, Int.reduceAdd, Int.reduceMul, Int.reduceSub, Int.reduceLT, Int.reduceGT, Int.reduceGE, Int.reduceLE, Int.reduceEq, Int.reduceNeg, Int.reduceToNat, reduceCtorEq, beq_false, Int.reduceBEq, Int.reduceBNe]
      exact (by (try dsimp only); repeat (first | exact trivial | rfl | exact frz_ints_nl | (apply frz_ints (fun _ => trivial); first | rfl | (simp [rowOf]; done)) | constructor | simp only [frzA]))

theorem c29_err (ts ks : List Int) (n : Int) (ht : ts.length < 2 ^ 63) (hk : ks.length < 2 ^ 63) {x y e : Int} (hv : checkV ts ks = tup3 x y e) (he : e ≠ 0) : PA Try.prog 29 [drw ts ks, .i n] (.tup [ints [], .i e]) := by
  refine ⟨AC_FE (fok29 true) (Nat.le_of_ble_eq_true rfl) ?_, rfl, rfl⟩
  have hb : (e != 0) = true := by simpa using he
  have hb2 : (e == 0) = false := by simpa using he
  simp only [ic29, f_box, cellsOf, evA, if_true, if_false, reduceIte, Nat.reduceAdd, Nat.reduceMul, Nat.reduceSub, Nat.reduceLeDiff, Nat.reduceEqDiff, Nat.reduceBEq, Nat.reduceBNe, Int.reduceAdd, Int.reduceMul, Int.reduceSub, Int.reduceLT, Int.reduceGT, Int.reduceGE, Int.reduceLE, Int.reduceEq, Int.reduceNeg, Int.reduceToNat, reduceCtorEq, beq_false, Int.reduceBEq, Int.reduceBNe]
  refine (c27_err ts ks ht hk hv he).call (by (try dsimp only); repeat (first | exact trivial | rfl | exact frz_ints_nl | (apply frz_ints (fun _ => trivial); first | rfl | (simp [rowOf]; done)) | constructor | simp only [frzA])) ?_
  simp only [hb, hb2, evA, if_true, if_false, reduceIte, Nat.reduceAdd, Nat.reduceMul, Nat.reduceSub, Nat.reduceLeDiff, Nat.reduceEqDiff, Nat.reduceBEq, Nat.reduceBNe, Int.reduceAdd, Int.reduceMul, Int.reduceSub, Int.reduceLT, Int.reduceGT, Int.reduceGE, Int.reduceLE, Int.reduceEq, Int.reduceNeg, Int.reduceToNat, reduceCtorEq, beq_false, Int.reduceBEq, Int.reduceBNe]
  exact (by (try dsimp only); repeat (first | exact trivial | rfl | exact frz_ints_nl | (apply frz_ints (fun _ => trivial); first | rfl | (simp [rowOf]; done)) | constructor | simp only [frzA]))

end Go.Proofs.Ytphdemhopihpnaa.AM

namespace Go.Proofs.Ytphdemhopihpnaa.AM
open Go
set_option linter.unusedVariables false
set_option linter.unusedSimpArgs false

theorem c71 (xs ys : List Int) (hx : xs.length < 2 ^ 63) : PC Try.prog 71 [ints xs, ints ys] (.b (decide (xs = ys))) := by
  refine ⟨AC_FE (fok71 true) (Nat.le_of_ble_eq_true rfl) ?_, rfl⟩
  by_cases hl : xs.length = ys.length
  rotate_left
  · have hd : ((xs.length : Int) != (ys.length : Int)) = true := by simp; omega
    have hne : decide (xs = ys) = false := by simp; intro h; exact hl (by rw [h])
    simp only [ic71, hd, hne, evA, if_true, if_false, reduceIte, Nat.reduceAdd, Nat.reduceMul, Nat.reduceSub, Nat.reduceLeDiff, Nat.reduceEqDiff, Nat.reduceBEq, Nat.reduceBNe, Int.reduceAdd, Int.reduceMul, Int.reduceSub, Int.reduceLT, Int.reduceGT, Int.reduceGE, Int.reduceLE, Int.reduceEq, Int.reduceNeg, Int.reduceToNat, reduceCtorEq, beq_false, Int.reduceBEq, Int.reduceBNe]
    exact (by (try dsimp only); repeat (first | exact trivial | rfl | exact frz_ints_nl | (apply frz_ints (fun _ => trivial); first | rfl | (simp [rowOf]; done)) | constructor | simp only [frzA]))
  have hd : ((xs.length : Int) != (ys.length : Int)) = false := by simp; omega
  simp only [ic71, hd, evA, if_true, if_false, reduceIte, Nat.reduceAdd, Nat.reduceMul, Nat.reduceSub, Nat.reduceLeDiff, Nat.reduceEqDiff, Nat.reduceBEq, Nat.reduceBNe, Int.reduceAdd, Int.reduceMul, Int.reduceSub, Int.reduceLT, Int.reduceGT, Int.reduceGE, Int.reduceLE, Int.reduceEq, Int.reduceNeg, Int.reduceToNat, reduceCtorEq, beq_false, Int.reduceBEq, Int.reduceBNe]
  refine IL_for xs.length (fun i s => (∀ j, j < i → xs[j]?.getD 0 = ys[j]?.getD 0) ∧ ∃ v3 v7 v8, s = ⟨[ints xs, ints ys, .b false, v3, .b false, .i xs.length, .i i, v7, v8], []⟩) ?_ 0 (Nat.zero_le _) ⟨by omega, _, _, _, rfl⟩
  rintro i s hi ⟨hall, v3, v7, v8, rfl⟩
  by_cases h : i < xs.length
  · have h2 : i < ys.length := by omega
    have hwi : IntKind.i64.wrap ((i : Int) + 1) = ((i + 1 : Nat) : Int) := by rw [wrap_in (by omega)]; rfl
    simp only [ic71l0, Int.ofNat_lt, h, evA, if_true, if_false, reduceIte, Nat.reduceAdd, Nat.reduceMul, Nat.reduceSub, Nat.reduceLeDiff, Nat.reduceEqDiff, Nat.reduceBEq, Nat.reduceBNe, Int.reduceAdd, Int.reduceMul, Int.reduceSub, Int.reduceLT, Int.reduceGT, Int.reduceGE, Int.reduceLE, Int.reduceEq, Int.reduceNeg, Int.reduceToNat, reduceCtorEq, beq_false, Int.reduceBEq, Int.reduceBNe]
    refine DW_s [] [] hmix (by kernel_rfl) rfl ?_
    simp only [h, h2, evA, if_true, if_false, reduceIte, Nat.reduceAdd, Nat.reduceMul, Nat.reduceSub, Nat.reduceLeDiff, Nat.reduceEqDiff, Nat.reduceBEq, Nat.reduceBNe, Int.reduceAdd, Int.reduceMul, Int.reduceSub, Int.reduceLT, Int.reduceGT, Int.reduceGE, Int.reduceLE, Int.reduceEq, Int.reduceNeg, Int.reduceToNat, reduceCtorEq, beq_false, Int.reduceBEq, Int.reduceBNe]
    by_cases he : xs[i]?.getD 0 = ys[i]?.getD 0
    · have hb : (xs[i]?.getD 0 != ys[i]?.getD 0) = false := by simp [he]
      simp only [hb, hwi, evA, if_true, if_false, reduceIte, Nat.reduceAdd, Nat.reduceMul, Nat.reduceSub, Nat.reduceLeDiff, Nat.reduceEqDiff, Nat.reduceBEq, Nat.reduceBNe, Int.reduceAdd, Int.reduceMul, Int.reduceSub, Int.reduceLT, Int.reduceGT, Int.reduceGE, Int.reduceLE, Int.reduceEq, Int.reduceNeg, Int.reduceToNat, reduceCtorEq, beq_false, Int.reduceBEq, Int.reduceBNe]
      refine kFor_go (by first | trivial | omega) ⟨fun j hj => ?_, _, _, _, rfl⟩
      rcases Nat.lt_succ_iff_lt_or_eq.1 hj with hj | rfl
      · exact hall j hj
      · exact he
    · have hb : (xs[i]?.getD 0 != ys[i]?.getD 0) = true := by simpa using he
      have hne : decide (xs = ys) = false := by simp; intro h; exact he (by rw [h])
      simp only [hb, hne, evA, if_true, if_false, reduceIte, Nat.reduceAdd, Nat.reduceMul, Nat.reduceSub, Nat.reduceLeDiff, Nat.reduceEqDiff, Nat.reduceBEq, Nat.reduceBNe, Int.reduceAdd, Int.reduceMul, Int.reduceSub, Int.reduceLT, Int.reduceGT, Int.reduceGE, Int.reduceLE, Int.reduceEq, Int.reduceNeg, Int.reduceToNat, reduceCtorEq, beq_false, Int.reduceBEq, Int.reduceBNe]
      exact (by (try dsimp only); repeat (first | exact trivial | rfl | exact frz_ints_nl | (apply frz_ints (fun _ => trivial); first | rfl | (simp [rowOf]; done)) | constructor | simp only [frzA]))
  · have hte : i = xs.length := by omega
    subst hte
    have heq : decide (xs = ys) = true := by
      simp only [decide_eq_true_eq]
      apply List.ext_getElem hl
      intro j h1 h2
      have := hall j h1
      simpa [h1, h2] using this
    simp only [ic71l0, Int.ofNat_lt, h, heq, evA, if_true, if_false, reduceIte, Nat.reduceAdd, Nat.reduceMul, Nat.reduceSub, Nat.reduceLeDiff, Nat.reduceEqDiff, Nat.reduceBEq, Nat.reduceBNe, Int.reduceAdd, Int.reduceMul, Int.reduceSub, Int.reduceLT, Int.reduceGT, Int.reduceGE, Int.reduceLE, Int.reduceEq, Int.reduceNeg, Int.reduceToNat, reduceCtorEq, beq_false, Int.reduceBEq, Int.reduceBNe]
    exact (by (try dsimp only); repeat (first | exact trivial | rfl | exact frz_ints_nl | (apply frz_ints (fun _ => trivial); first | rfl | (simp [rowOf]; done)) | constructor | simp only [frzA]))

/-- what Honest answers, of a valid draw -/
def honestV (ts ks ps zs as_ : List Int) : AV :=
  if promErr ps zs ≠ 0 then .tup [.b false, .i (promErr ps zs)]
  else if as_.length ≠ ks.length then .tup [.b false, .i 3]
  else if (cheatF ps zs zs.length).length > 0 then .tup [.b false, .i 0]
  else if waysF ks ks.length ts = 0 then .tup [.b false, .i 0]
  else .tup [.b (decide (pickF ks ks.length ts (lotF zs zs.length % waysF ks ks.length ts) = as_)), .i 0]

theorem honestV_cl (ts ks ps zs as_ : List Int) : locsIn 0 (honestV ts ks ps zs as_) = true := by
  unfold honestV; repeat (split; · rfl)
  rfl

theorem cheatsV_ok {ps zs : List Int} (h : promErr ps zs = 0) : cheatsV ps zs = .tup [ints (cheatF ps zs zs.length), .i 0] := by unfold cheatsV; rw [if_pos h]
theorem cheatsV_err {ps zs : List Int} (h : ¬ promErr ps zs = 0) : cheatsV ps zs = .tup [ints [], .i (promErr ps zs)] := by unfold cheatsV; rw [if_neg h]
theorem lotV_ok {zs : List Int} (h : numErr zs = 0) : lotV zs = .tup [.i (lotF zs zs.length), .i 0] := by unfold lotV; rw [if_pos h]

theorem bneI_false {a b : Int} (h : a = b) : (a != b) = false := by simp [h]
theorem bneI_true {a b : Int} (h : ¬ a = b) : (a != b) = true := by simpa using h
theorem beqI_false {a b : Int} (h : ¬ a = b) : (a == b) = false := by simpa using h
theorem beqI_true {a b : Int} (h : a = b) : (a == b) = true := by simp [h]

theorem c34_ok (ts ks ps zs as_ : List Int) (ht : ts.length < 2 ^ 63) (hk : ks.length < 2 ^ 63) (hp : ps.length < 2 ^ 63) (hz : zs.length < 2 ^ 63) (ha : as_.length < 2 ^ 63) (hok : DrawOk ts ks) : PC Try.prog 34 [drw ts ks, ints ps, ints zs, ints as_] (honestV ts ks ps zs as_) := by
  refine ⟨AC_FE (fok34 true) (Nat.le_of_ble_eq_true rfl) ?_, honestV_cl ..⟩
  simp only [ic34, f_box, cellsOf, evA, if_true, if_false, reduceIte, Nat.reduceAdd, Nat.reduceMul, Nat.reduceSub, Nat.reduceLeDiff, Nat.reduceEqDiff, Nat.reduceBEq, Nat.reduceBNe, Int.reduceAdd, Int.reduceMul, Int.reduceSub, Int.reduceLT, Int.reduceGT, Int.reduceGE, Int.reduceLE, Int.reduceEq, Int.reduceNeg, Int.reduceToNat, reduceCtorEq, beq_false, Int.reduceBEq, Int.reduceBNe]
  refine AC.run (c53f ts ks ht hk (checkV_ok hok) _) ?_
  simp only [evA, if_true, if_false, reduceIte, Nat.reduceAdd, Nat.reduceMul, Nat.reduceSub, Nat.reduceLeDiff, Nat.reduceEqDiff, Nat.reduceBEq, Nat.reduceBNe, Int.reduceAdd, Int.reduceMul, Int.reduceSub, Int.reduceLT, Int.reduceGT, Int.reduceGE, Int.reduceLE, Int.reduceEq, Int.reduceNeg, Int.reduceToNat, reduceCtorEq, beq_false, Int.reduceBEq, Int.reduceBNe]
  refine (c18 ps zs hp hz).call (by (try dsimp only); repeat (first | exact trivial | rfl | exact frz_ints_nl | (apply frz_ints (fun _ => trivial); first | rfl | (simp [rowOf]; done)) | constructor | simp only [frzA])) ?_
  by_cases hpe : promErr ps zs = 0
  rotate_left
  · rw [cheatsV_err hpe]
    have hv : honestV ts ks ps zs as_ = .tup [.b false, .i (promErr ps zs)] := by unfold honestV; rw [if_pos hpe]
    have hb := bneI_true hpe
    simp only [hv, hb, evA, if_true, if_false, reduceIte, Nat.reduceAdd, Nat.reduceMul, Nat.reduceSub, Nat.reduceLeDiff, Nat.reduceEqDiff, Nat.reduceBEq, Nat.reduceBNe, Int.reduceAdd, Int.reduceMul, Int.reduceSub, Int.reduceLT, Int.reduceGT, Int.reduceGE, Int.reduceLE, Int.reduceEq, Int.reduceNeg, Int.reduceToNat, reduceCtorEq, beq_false, Int.reduceBEq, Int.reduceBNe]
    exact (by (try dsimp only); repeat (first | exact trivial | rfl | exact frz_ints_nl | (apply frz_ints (fun _ => trivial); first | rfl | (simp [rowOf]; done)) | constructor | simp only [frzA]))
  rw [cheatsV_ok hpe]
  by_cases hl : as_.length = ks.length
  rotate_left
  · have hv : honestV ts ks ps zs as_ = .tup [.b false, .i 3] := by unfold honestV; rw [if_neg (by simpa using hpe), if_pos hl]
    have hb := bneI_true (a := (as_.length : Int)) (b := (ks.length : Int)) (by omega)
    simp only [hv, hb, evA, if_true, if_false, reduceIte, Nat.reduceAdd, Nat.reduceMul, Nat.reduceSub, Nat.reduceLeDiff, Nat.reduceEqDiff, Nat.reduceBEq, Nat.reduceBNe, Int.reduceAdd, Int.reduceMul, Int.reduceSub, Int.reduceLT, Int.reduceGT, Int.reduceGE, Int.reduceLE, Int.reduceEq, Int.reduceNeg, Int.reduceToNat, reduceCtorEq, beq_false, Int.reduceBEq, Int.reduceBNe]
    exact (by (try dsimp only); repeat (first | exact trivial | rfl | exact frz_ints_nl | (apply frz_ints (fun _ => trivial); first | rfl | (simp [rowOf]; done)) | constructor | simp only [frzA]))
  have hbl := bneI_false (a := (as_.length : Int)) (b := (ks.length : Int)) (by omega)
  by_cases hc : (cheatF ps zs zs.length).length > 0
  · have hv : honestV ts ks ps zs as_ = .tup [.b false, .i 0] := by unfold honestV; rw [if_neg (by simpa using hpe), if_neg (by simpa using hl), if_pos hc]
    have hci : (((cheatF ps zs zs.length).length : Int) > 0) = True := eq_true (by omega)
    simp only [hv, hbl, hci, evA, if_true, if_false, reduceIte, Nat.reduceAdd, Nat.reduceMul, Nat.reduceSub, Nat.reduceLeDiff, Nat.reduceEqDiff, Nat.reduceBEq, Nat.reduceBNe, Int.reduceAdd, Int.reduceMul, Int.reduceSub, Int.reduceLT, Int.reduceGT, Int.reduceGE, Int.reduceLE, Int.reduceEq, Int.reduceNeg, Int.reduceToNat, reduceCtorEq, beq_false, Int.reduceBEq, Int.reduceBNe]
    exact (by (try dsimp only); repeat (first | exact trivial | rfl | exact frz_ints_nl | (apply frz_ints (fun _ => trivial); first | rfl | (simp [rowOf]; done)) | constructor | simp only [frzA]))
  have hci : (((cheatF ps zs zs.length).length : Int) > 0) = False := eq_false (by omega)
  have hnum := (promErr_ok hpe).1
  simp only [hbl, hci, evA, if_true, if_false, reduceIte, Nat.reduceAdd, Nat.reduceMul, Nat.reduceSub, Nat.reduceLeDiff, Nat.reduceEqDiff, Nat.reduceBEq, Nat.reduceBNe, Int.reduceAdd, Int.reduceMul, Int.reduceSub, Int.reduceLT, Int.reduceGT, Int.reduceGE, Int.reduceLE, Int.reduceEq, Int.reduceNeg, Int.reduceToNat, reduceCtorEq, beq_false, Int.reduceBEq, Int.reduceBNe]
  refine (c21 zs hz).call (by (try dsimp only); repeat (first | exact trivial | rfl | exact frz_ints_nl | (apply frz_ints (fun _ => trivial); first | rfl | (simp [rowOf]; done)) | constructor | simp only [frzA])) ?_
  rw [lotV_ok hnum]
  simp only [evA, if_true, if_false, reduceIte, Nat.reduceAdd, Nat.reduceMul, Nat.reduceSub, Nat.reduceLeDiff, Nat.reduceEqDiff, Nat.reduceBEq, Nat.reduceBNe, Int.reduceAdd, Int.reduceMul, Int.reduceSub, Int.reduceLT, Int.reduceGT, Int.reduceGE, Int.reduceLE, Int.reduceEq, Int.reduceNeg, Int.reduceToNat, reduceCtorEq, beq_false, Int.reduceBEq, Int.reduceBNe]
  refine AC.run (c55 3 ts [ints ks, .map 2] [AObj.cells [ints ts, ints ks], AObj.cells [ints ts, ints ks], AObj.map [], AObj.cells [ints ts, ints ks, .map 2]] rfl hok.tl.2) ?_
  have h := c54f ts ks hok ks.length ts [] (Nat.le_refl _) ⟨rfl, hok.tr⟩ (right_nil _ _) (σ := [AObj.cells [ints ts, ints ks], AObj.cells [ints ts, ints ks], AObj.map [], AObj.cells [ints ts, ints ks, .map 2]]) 3 2 (by decide) rfl rfl
  have hKr := (waysQ_right (ks := ks) ks.length ts [] (Nat.le_refl _) ⟨rfl, hok.tr⟩ (right_nil _ _)).2
  have hwn := waysF_nonneg ks ks.length ts
  have h58 := c58f ts ks hok _ hKr
  rw [Nat.sub_self] at h
  have hlb := lotF_bounds zs zs.length
  have hpl := fun x h0 h1 => pickF_length (ks := ks) ks.length ts x (Nat.le_refl _) h0 h1
  have hv : honestV ts ks ps zs as_ = if waysF ks ks.length ts = 0 then .tup [.b false, .i 0] else .tup [.b (decide (pickF ks ks.length ts (lotF zs zs.length % waysF ks ks.length ts) = as_)), .i 0] := by
    unfold honestV; rw [if_neg (by simpa using hpe), if_neg (by simpa using hl), if_neg hc]
  rw [hv]
  generalize lotF zs zs.length = n at *
  generalize (waysQ ks ks.length ts []).2 = K' at h h58
  generalize waysF ks ks.length ts = m at h hwn h58 hpl ⊢
  simp only [evA, if_true, if_false, reduceIte, Nat.reduceAdd, Nat.reduceMul, Nat.reduceSub, Nat.reduceLeDiff, Nat.reduceEqDiff, Nat.reduceBEq, Nat.reduceBNe, Int.reduceAdd, Int.reduceMul, Int.reduceSub, Int.reduceLT, Int.reduceGT, Int.reduceGE, Int.reduceLE, Int.reduceEq, Int.reduceNeg, Int.reduceToNat, reduceCtorEq, beq_false, Int.reduceBEq, Int.reduceBNe]
  refine AC.run h ?_
  by_cases hm0 : m = 0
  · have hgt : (m > 0) = False := eq_false (by omega)
    simp only [hgt, hm0, evA, if_true, if_false, reduceIte, Nat.reduceAdd, Nat.reduceMul, Nat.reduceSub, Nat.reduceLeDiff, Nat.reduceEqDiff, Nat.reduceBEq, Nat.reduceBNe, Int.reduceAdd, Int.reduceMul, Int.reduceSub, Int.reduceLT, Int.reduceGT, Int.reduceGE, Int.reduceLE, Int.reduceEq, Int.reduceNeg, Int.reduceToNat, reduceCtorEq, beq_false, Int.reduceBEq, Int.reduceBNe]
    exact (by (try dsimp only); repeat (first | exact trivial | rfl | exact frz_ints_nl | (apply frz_ints (fun _ => trivial); first | rfl | (simp [rowOf]; done)) | constructor | simp only [frzA]))
  · have hgt : (m > 0) = True := eq_true (by omega)
    obtain ⟨g1, g2, g3⟩ := mod_in (n := n) (m := m) (by omega) (by omega)
    have hmx : (if m > 1 then m else 1) = m := by split <;> omega
    simp only [hgt, hm0, hmx, g1, evA, if_true, if_false, reduceIte, Nat.reduceAdd, Nat.reduceMul, Nat.reduceSub, Nat.reduceLeDiff, Nat.reduceEqDiff, Nat.reduceBEq, Nat.reduceBNe, Int.reduceAdd, Int.reduceMul, Int.reduceSub, Int.reduceLT, Int.reduceGT, Int.reduceGE, Int.reduceLE, Int.reduceEq, Int.reduceNeg, Int.reduceToNat, reduceCtorEq, beq_false, Int.reduceBEq, Int.reduceBNe]
    refine AC.mono (h58 (n % m) ⟨g2, g3⟩ 3 2 (by decide) rfl rfl) fun v τ hacc => ?_
    simp only [evA, if_true, if_false, reduceIte, Nat.reduceAdd, Nat.reduceMul, Nat.reduceSub, Nat.reduceLeDiff, Nat.reduceEqDiff, Nat.reduceBEq, Nat.reduceBNe, Int.reduceAdd, Int.reduceMul, Int.reduceSub, Int.reduceLT, Int.reduceGT, Int.reduceGE, Int.reduceLE, Int.reduceEq, Int.reduceNeg, Int.reduceToNat, reduceCtorEq, beq_false, Int.reduceBEq, Int.reduceBNe]
    refine (c71 (pickF ks ks.length ts (n % m)) as_ (by rw [hpl _ g2 g3]; exact hk)).call (.cons (acc_frz (fun _ => trivial) hacc.acc) (.cons (.c (.c _ trivial)) .nil)) ?_
    simp only [evA, if_true, if_false, reduceIte, Nat.reduceAdd, Nat.reduceMul, Nat.reduceSub, Nat.reduceLeDiff, Nat.reduceEqDiff, Nat.reduceBEq, Nat.reduceBNe, Int.reduceAdd, Int.reduceMul, Int.reduceSub, Int.reduceLT, Int.reduceGT, Int.reduceGE, Int.reduceLE, Int.reduceEq, Int.reduceNeg, Int.reduceToNat, reduceCtorEq, beq_false, Int.reduceBEq, Int.reduceBNe]
    exact (by (try dsimp only); repeat (first | exact trivial | rfl | exact frz_ints_nl | (apply frz_ints (fun _ => trivial); first | rfl | (simp [rowOf]; done)) | constructor | simp only [frzA]))

theorem c34_err (ts ks ps zs as_ : List Int) (ht : ts.length < 2 ^ 63) (hk : ks.length < 2 ^ 63) {x y e : Int} (hv : checkV ts ks = tup3 x y e) (he : e ≠ 0) : PC Try.prog 34 [drw ts ks, ints ps, ints zs, ints as_] (.tup [.b false, .i e]) := by
  refine ⟨AC_FE (fok34 true) (Nat.le_of_ble_eq_true rfl) ?_, rfl⟩
  have hb : (e != 0) = true := by simpa using he
  simp only [ic34, f_box, cellsOf, evA, if_true, if_false, reduceIte, Nat.reduceAdd, Nat.reduceMul, Nat.reduceSub, Nat.reduceLeDiff, Nat.reduceEqDiff, Nat.reduceBEq, Nat.reduceBNe, Int.reduceAdd, Int.reduceMul, Int.reduceSub, Int.reduceLT, Int.reduceGT, Int.reduceGE, Int.reduceLE, Int.reduceEq, Int.reduceNeg, Int.reduceToNat, reduceCtorEq, beq_false, Int.reduceBEq, Int.reduceBNe]
  refine AC.run (c53f ts ks ht hk hv _) ?_
  simp only [hb, evA, if_true, if_false, reduceIte, Nat.reduceAdd, Nat.reduceMul, Nat.reduceSub, Nat.reduceLeDiff, Nat.reduceEqDiff, Nat.reduceBEq, Nat.reduceBNe, Int.reduceAdd, Int.reduceMul, Int.reduceSub, Int.reduceLT, Int.reduceGT, Int.reduceGE, Int.reduceLE, Int.reduceEq, Int.reduceNeg, Int.reduceToNat, reduceCtorEq, beq_false, Int.reduceBEq, Int.reduceBNe]
  exact (by (try dsimp only); repeat (first | exact trivial | rfl | exact frz_ints_nl | (apply frz_ints (fun _ => trivial); first | rfl | (simp [rowOf]; done)) | constructor | simp only [frzA]))

theorem c35_ok (ts ks ps zs as_ : List Int) (ht : ts.length < 2 ^ 63) (hk : ks.length < 2 ^ 63) (hp : ps.length < 2 ^ 63) (hz : zs.length < 2 ^ 63) (ha : as_.length < 2 ^ 63) (hok : DrawOk ts ks) : PC Try.prog 35 [drw ts ks, ints ps, ints zs, ints as_] (honestV ts ks ps zs as_) := by
  refine ⟨AC_FE (fok35 true) (Nat.le_of_ble_eq_true rfl) ?_, honestV_cl ..⟩
  have h27 := c27_ok ts ks ht hk (checkV_ok hok) hok
  rw [countM_eq hok] at h27
  have hwn := waysF_nonneg ks ks.length ts
  have h59 := c59 ts ks hok
  have hpl := fun x h0 h1 => pickF_length (ks := ks) ks.length ts x (Nat.le_refl _) h0 h1
  unfold honestV
  generalize waysF ks ks.length ts = m at h27 hwn h59 hpl ⊢
  simp only [ic35, f_box, cellsOf, evA, if_true, if_false, reduceIte, Nat.reduceAdd, Nat.reduceMul, Nat.reduceSub, Nat.reduceLeDiff, Nat.reduceEqDiff, Nat.reduceBEq, Nat.reduceBNe, Int.reduceAdd, Int.reduceMul, Int.reduceSub, Int.reduceLT, Int.reduceGT, Int.reduceGE, Int.reduceLE, Int.reduceEq, Int.reduceNeg, Int.reduceToNat, reduceCtorEq, beq_false, Int.reduceBEq, Int.reduceBNe]
  refine h27.call (by (try dsimp only); repeat (first | exact trivial | rfl | exact frz_ints_nl | (apply frz_ints (fun _ => trivial); first | rfl | (simp [rowOf]; done)) | constructor | simp only [frzA])) ?_
  simp only [evA, if_true, if_false, reduceIte, Nat.reduceAdd, Nat.reduceMul, Nat.reduceSub, Nat.reduceLeDiff, Nat.reduceEqDiff, Nat.reduceBEq, Nat.reduceBNe, Int.reduceAdd, Int.reduceMul, Int.reduceSub, Int.reduceLT, Int.reduceGT, Int.reduceGE, Int.reduceLE, Int.reduceEq, Int.reduceNeg, Int.reduceToNat, reduceCtorEq, beq_false, Int.reduceBEq, Int.reduceBNe]
  refine (c51 ps zs hp hz).call (by (try dsimp only); repeat (first | exact trivial | rfl | exact frz_ints_nl | (apply frz_ints (fun _ => trivial); first | rfl | (simp [rowOf]; done)) | constructor | simp only [frzA])) ?_
  by_cases hpe : promErr ps zs = 0
  rotate_left
  · have hb := bneI_true hpe
    have hb2 := beqI_false hpe
    simp only [hpe, hb, hb2, ne_eq, not_false_eq_true, evA, if_true, if_false, reduceIte, Nat.reduceAdd, Nat.reduceMul, Nat.reduceSub, Nat.reduceLeDiff, Nat.reduceEqDiff, Nat.reduceBEq, Nat.reduceBNe, Int.reduceAdd, Int.reduceMul, Int.reduceSub, Int.reduceLT, Int.reduceGT, Int.reduceGE, Int.reduceLE, Int.reduceEq, Int.reduceNeg, Int.reduceToNat, reduceCtorEq, beq_false, Int.reduceBEq, Int.reduceBNe]
    exact (by (try dsimp only); repeat (first | exact trivial | rfl | exact frz_ints_nl | (apply frz_ints (fun _ => trivial); first | rfl | (simp [rowOf]; done)) | constructor | simp only [frzA]))
  by_cases hl : as_.length = ks.length
  rotate_left
  · have hb := bneI_true (a := (as_.length : Int)) (b := (ks.length : Int)) (by omega)
    simp only [hpe, hl, hb, ne_eq, not_false_eq_true, not_true_eq_false, evA, if_true, if_false, reduceIte, Nat.reduceAdd, Nat.reduceMul, Nat.reduceSub, Nat.reduceLeDiff, Nat.reduceEqDiff, Nat.reduceBEq, Nat.reduceBNe, Int.reduceAdd, Int.reduceMul, Int.reduceSub, Int.reduceLT, Int.reduceGT, Int.reduceGE, Int.reduceLE, Int.reduceEq, Int.reduceNeg, Int.reduceToNat, reduceCtorEq, beq_false, Int.reduceBEq, Int.reduceBNe]
    exact (by (try dsimp only); repeat (first | exact trivial | rfl | exact frz_ints_nl | (apply frz_ints (fun _ => trivial); first | rfl | (simp [rowOf]; done)) | constructor | simp only [frzA]))
  have hnum := (promErr_ok hpe).1
  have hpz := (promErr_ok hpe).2
  have hbl := bneI_false (a := (as_.length : Int)) (b := (ks.length : Int)) (by omega)
  simp only [hpe, hl, hbl, ne_eq, not_false_eq_true, not_true_eq_false, evA, if_true, if_false, reduceIte, Nat.reduceAdd, Nat.reduceMul, Nat.reduceSub, Nat.reduceLeDiff, Nat.reduceEqDiff, Nat.reduceBEq, Nat.reduceBNe, Int.reduceAdd, Int.reduceMul, Int.reduceSub, Int.reduceLT, Int.reduceGT, Int.reduceGE, Int.reduceLE, Int.reduceEq, Int.reduceNeg, Int.reduceToNat, reduceCtorEq, beq_false, Int.reduceBEq, Int.reduceBNe]
  refine (c22 zs hz).call (by (try dsimp only); repeat (first | exact trivial | rfl | exact frz_ints_nl | (apply frz_ints (fun _ => trivial); first | rfl | (simp [rowOf]; done)) | constructor | simp only [frzA])) ?_
  rw [lotV_ok hnum]
  have hlb := lotF_bounds zs zs.length
  generalize lotF zs zs.length = n at *
  by_cases hm0 : m = 0
  · have he : (m == 0) = true := by simpa using hm0
    simp only [he, hm0, evA, if_true, if_false, reduceIte, Nat.reduceAdd, Nat.reduceMul, Nat.reduceSub, Nat.reduceLeDiff, Nat.reduceEqDiff, Nat.reduceBEq, Nat.reduceBNe, Int.reduceAdd, Int.reduceMul, Int.reduceSub, Int.reduceLT, Int.reduceGT, Int.reduceGE, Int.reduceLE, Int.reduceEq, Int.reduceNeg, Int.reduceToNat, reduceCtorEq, beq_false, Int.reduceBEq, Int.reduceBNe]
    split <;> exact (by (try dsimp only); repeat (first | exact trivial | rfl | exact frz_ints_nl | (apply frz_ints (fun _ => trivial); first | rfl | (simp [rowOf]; done)) | constructor | simp only [frzA]))
  have he : (m == 0) = false := by simpa using hm0
  simp only [he, hm0, evA, if_true, if_false, reduceIte, Nat.reduceAdd, Nat.reduceMul, Nat.reduceSub, Nat.reduceLeDiff, Nat.reduceEqDiff, Nat.reduceBEq, Nat.reduceBNe, Int.reduceAdd, Int.reduceMul, Int.reduceSub, Int.reduceLT, Int.reduceGT, Int.reduceGE, Int.reduceLE, Int.reduceEq, Int.reduceNeg, Int.reduceToNat, reduceCtorEq, beq_false, Int.reduceBEq, Int.reduceBNe]
  refine (c52 ps zs (numErr_ok hnum) hpz.1).call (by (try dsimp only); repeat (first | exact trivial | rfl | exact frz_ints_nl | (apply frz_ints (fun _ => trivial); first | rfl | (simp [rowOf]; done)) | constructor | simp only [frzA])) ?_
  by_cases hc : (cheatF ps zs zs.length).length > 0
  · have hci : (((cheatF ps zs zs.length).length : Int) > 0) = True := eq_true (by omega)
    simp only [hc, hci, evA, if_true, if_false, reduceIte, Nat.reduceAdd, Nat.reduceMul, Nat.reduceSub, Nat.reduceLeDiff, Nat.reduceEqDiff, Nat.reduceBEq, Nat.reduceBNe, Int.reduceAdd, Int.reduceMul, Int.reduceSub, Int.reduceLT, Int.reduceGT, Int.reduceGE, Int.reduceLE, Int.reduceEq, Int.reduceNeg, Int.reduceToNat, reduceCtorEq, beq_false, Int.reduceBEq, Int.reduceBNe]
    exact (by (try dsimp only); repeat (first | exact trivial | rfl | exact frz_ints_nl | (apply frz_ints (fun _ => trivial); first | rfl | (simp [rowOf]; done)) | constructor | simp only [frzA]))
  have hci : (((cheatF ps zs zs.length).length : Int) > 0) = False := eq_false (by omega)
  obtain ⟨g1, g2, g3⟩ := mod_in (n := n) (m := m) (by omega) (by omega)
  simp only [hc, hci, evA, if_true, if_false, reduceIte, Nat.reduceAdd, Nat.reduceMul, Nat.reduceSub, Nat.reduceLeDiff, Nat.reduceEqDiff, Nat.reduceBEq, Nat.reduceBNe, Int.reduceAdd, Int.reduceMul, Int.reduceSub, Int.reduceLT, Int.reduceGT, Int.reduceGE, Int.reduceLE, Int.reduceEq, Int.reduceNeg, Int.reduceToNat, reduceCtorEq, beq_false, Int.reduceBEq, Int.reduceBNe]
  refine DW_s [4, 6] [] hmix (by kernel_rfl) rfl ?_
  simp only [hm0, g1, evA, if_true, if_false, reduceIte, Nat.reduceAdd, Nat.reduceMul, Nat.reduceSub, Nat.reduceLeDiff, Nat.reduceEqDiff, Nat.reduceBEq, Nat.reduceBNe, Int.reduceAdd, Int.reduceMul, Int.reduceSub, Int.reduceLT, Int.reduceGT, Int.reduceGE, Int.reduceLE, Int.reduceEq, Int.reduceNeg, Int.reduceToNat, reduceCtorEq, beq_false, Int.reduceBEq, Int.reduceBNe]
  refine kK_keep ((h59 (n % m) ⟨g2, g3⟩).call (by (try dsimp only); repeat (first | exact trivial | rfl | exact frz_ints_nl | (apply frz_ints (fun _ => trivial); first | rfl | (simp [rowOf]; done)) | constructor | simp only [frzA])) ⟨rfl, rfl⟩) rfl ?_
  simp only [evA, if_true, if_false, reduceIte, Nat.reduceAdd, Nat.reduceMul, Nat.reduceSub, Nat.reduceLeDiff, Nat.reduceEqDiff, Nat.reduceBEq, Nat.reduceBNe, Int.reduceAdd, Int.reduceMul, Int.reduceSub, Int.reduceLT, Int.reduceGT, Int.reduceGE, Int.reduceLE, Int.reduceEq, Int.reduceNeg, Int.reduceToNat, reduceCtorEq, beq_false, Int.reduceBEq, Int.reduceBNe]
  refine kK_keep ((c20 (pickF ks ks.length ts (n % m)) as_ (by rw [hpl _ g2 g3]; exact hk)).call (by (try dsimp only); repeat (first | exact trivial | rfl | exact frz_ints_nl | (apply frz_ints (fun _ => trivial); first | rfl | (simp [rowOf]; done)) | constructor | simp only [frzA])) ⟨rfl, rfl⟩) rfl ?_
  simp only [evA, if_true, if_false, reduceIte, Nat.reduceAdd, Nat.reduceMul, Nat.reduceSub, Nat.reduceLeDiff, Nat.reduceEqDiff, Nat.reduceBEq, Nat.reduceBNe, Int.reduceAdd, Int.reduceMul, Int.reduceSub, Int.reduceLT, Int.reduceGT, Int.reduceGE, Int.reduceLE, Int.reduceEq, Int.reduceNeg, Int.reduceToNat, reduceCtorEq, beq_false, Int.reduceBEq, Int.reduceBNe]
  exact (by (try dsimp only); repeat (first | exact trivial | rfl | exact frz_ints_nl | (apply frz_ints (fun _ => trivial); first | rfl | (simp [rowOf]; done)) | constructor | simp only [frzA]))

theorem c35_err (ts ks ps zs as_ : List Int) (ht : ts.length < 2 ^ 63) (hk : ks.length < 2 ^ 63) {x y e : Int} (hv : checkV ts ks = tup3 x y e) (he : e ≠ 0) : PC Try.prog 35 [drw ts ks, ints ps, ints zs, ints as_] (.tup [.b false, .i e]) := by
  refine ⟨AC_FE (fok35 true) (Nat.le_of_ble_eq_true rfl) ?_, rfl⟩
  have hb : (e != 0) = true := by simpa using he
  have hb2 : (e == 0) = false := by simpa using he
  simp only [ic35, f_box, cellsOf, evA, if_true, if_false, reduceIte, Nat.reduceAdd, Nat.reduceMul, Nat.reduceSub, Nat.reduceLeDiff, Nat.reduceEqDiff, Nat.reduceBEq, Nat.reduceBNe, Int.reduceAdd, Int.reduceMul, Int.reduceSub, Int.reduceLT, Int.reduceGT, Int.reduceGE, Int.reduceLE, Int.reduceEq, Int.reduceNeg, Int.reduceToNat, reduceCtorEq, beq_false, Int.reduceBEq, Int.reduceBNe]
  refine (c27_err ts ks ht hk hv he).call (by (try dsimp only); repeat (first | exact trivial | rfl | exact frz_ints_nl | (apply frz_ints (fun _ => trivial); first | rfl | (simp [rowOf]; done)) | constructor | simp only [frzA])) ?_
  simp only [hb, hb2, evA, if_true, if_false, reduceIte, Nat.reduceAdd, Nat.reduceMul, Nat.reduceSub, Nat.reduceLeDiff, Nat.reduceEqDiff, Nat.reduceBEq, Nat.reduceBNe, Int.reduceAdd, Int.reduceMul, Int.reduceSub, Int.reduceLT, Int.reduceGT, Int.reduceGE, Int.reduceLE, Int.reduceEq, Int.reduceNeg, Int.reduceToNat, reduceCtorEq, beq_false, Int.reduceBEq, Int.reduceBNe]
  exact (by (try dsimp only); repeat (first | exact trivial | rfl | exact frz_ints_nl | (apply frz_ints (fun _ => trivial); first | rfl | (simp [rowOf]; done)) | constructor | simp only [frzA]))

end Go.Proofs.Ytphdemhopihpnaa.AM

namespace Go.Proofs.Ytphdemhopihpnaa.AM
open Go
set_option linter.unusedVariables false
set_option linter.unusedSimpArgs false

abbrev u8s (xs : List Nat) : AV := .cv (.rsl ((xs.map fun x : Nat => (x : Int)).map (.int .u8)) xs.length)

def turnF (xs : List Nat) (n : Nat) : Nat := if xs.length = 0 then 0 else xs[n % xs.length]?.getD 0

theorem turnF_le {xs : List Nat} (h : ∀ x ∈ xs, x ≤ 255) (n : Nat) : turnF xs n ≤ 255 := by
  unfold turnF; split
  · omega
  · rename_i hl
    have hlt : n % xs.length < xs.length := Nat.mod_lt _ (by omega)
    have := h (xs[n % xs.length]) (List.getElem_mem hlt)
    simpa [hlt] using this

theorem c46 (xs : List Nat) (n : Nat) (hx : ∀ x ∈ xs, x ≤ 255) (hl : xs.length < 2 ^ 63) (hn : n < 2 ^ 62) : PC Try.prog 46 [u8s xs, .i n] (.i (turnF xs n)) := by
  refine ⟨AC_FE (fok46 true) (Nat.le_of_ble_eq_true rfl) ?_, rfl⟩
  have hle := turnF_le hx n
  unfold turnF at hle ⊢
  by_cases h0 : xs.length = 0
  · have hb : ((xs.length : Int) == 0) = true := beqI_true (by omega)
    simp only [ic46, hb, h0, evA, if_true, if_false, reduceIte, Nat.reduceAdd, Nat.reduceMul, Nat.reduceSub, Nat.reduceLeDiff, Nat.reduceEqDiff, Nat.reduceBEq, Nat.reduceBNe, Int.reduceAdd, Int.reduceMul, Int.reduceSub, Int.reduceLT, Int.reduceGT, Int.reduceGE, Int.reduceLE, Int.reduceEq, Int.reduceNeg, Int.reduceToNat, reduceCtorEq, beq_false, Int.reduceBEq, Int.reduceBNe]
    exact (by (try dsimp only); repeat (first | exact trivial | rfl | exact frz_ints_nl | (apply frz_ints (fun _ => trivial); first | rfl | (simp [rowOf]; done)) | constructor | simp only [frzA]))
  · have hb : ((xs.length : Int) == 0) = false := beqI_false (by omega)
    have hz : ¬ ((xs.length : Int) = 0) := by omega
    have hr : (n : Int).tmod xs.length = ((n % xs.length : Nat) : Int) := by rw [Int.tmod_eq_emod_of_nonneg (by omega)]; rfl
    have hlt : n % xs.length < xs.length := Nat.mod_lt _ (by omega)
    have hlt' : n % xs.length < (xs.map fun x : Nat => (x : Int)).length := by simpa using hlt
    have hg : (xs.map fun x : Nat => (x : Int)).getD (n % xs.length) 0 = ((xs[n % xs.length]?.getD 0 : Nat) : Int) := by simp [List.getD, hlt]
    rw [if_neg h0] at hle ⊢
    generalize n % xs.length = j at *
    generalize xs[j]?.getD 0 = y at *
    have hw : IntKind.i64.wrap (y : Int) = y := wrap_in (by omega)
    have hia : ∀ σ, f_iaS 1 [u8s xs, .cv (.int .i64 j)] σ = some (.cv (.rp ((xs.map fun x : Nat => (x : Int)).map (.int .u8)) j), σ) := fun σ => ints_addr hlt σ
    have hld := ints_load (kd := .u8) hlt'
    rw [hg] at hld
    simp only [ic46, hb, hz, hr, hia, hld, hw, evA, if_true, if_false, reduceIte, Nat.reduceAdd, Nat.reduceMul, Nat.reduceSub, Nat.reduceLeDiff, Nat.reduceEqDiff, Nat.reduceBEq, Nat.reduceBNe, Int.reduceAdd, Int.reduceMul, Int.reduceSub, Int.reduceLT, Int.reduceGT, Int.reduceGE, Int.reduceLE, Int.reduceEq, Int.reduceNeg, Int.reduceToNat, reduceCtorEq, beq_false, Int.reduceBEq, Int.reduceBNe]
    exact (by (try dsimp only); repeat (first | exact trivial | rfl | exact frz_ints_nl | (apply frz_ints (fun _ => trivial); first | rfl | (simp [rowOf]; done)) | constructor | simp only [frzA]))

/-- the examiners before i that can take test t -/
def canL (ks us : List Int) (t i : Nat) : List Nat := (List.range i).filter (canB ks us t)
theorem canL_succ (ks us : List Int) (t i : Nat) : canL ks us t (i + 1) = if canB ks us t i then canL ks us t i ++ [i] else canL ks us t i := by
  unfold canL
  rw [List.range_succ, List.filter_append]
  by_cases h : canB ks us t i = true
  · simp [h]
  · simp [h]
theorem canL_mem {ks us : List Int} {t i j : Nat} (h : j ∈ canL ks us t i) : j < i ∧ canB ks us t j = true := by
  unfold canL at h
  simpa using h

/-- the assignment that the turns lead to, with r tests left -/
def allowF (ks : List Int) (xs : List Nat) : Nat → List Int → Option (List Int)
  | 0, _ => some []
  | r + 1, us =>
    let c := canL ks us (ks.length - (r + 1)) us.length
    if c.length = 0 then none else
    let i := c[turnF xs (ks.length - (r + 1)) % c.length]?.getD 0
    (allowF ks xs r (lessF us i)).map fun l => (i : Int) :: l

def allowV (o : Option (List Int)) : AV := match o with | none => .tup [ints [], .b false] | some l => .tup [ints l, .b true]

abbrev natI (l : List Nat) : List Int := l.map fun i : Nat => (i : Int)

theorem c39 (ts0 ks : List Int) (xs : List Nat) (hok : DrawOk ts0 ks) (hx : ∀ x ∈ xs, x ≤ 255) (hl : xs.length < 2 ^ 63) : PC Try.prog 39 [drw ts0 ks, u8s xs] (allowV (allowF ks xs ks.length ts0)) := by
  refine ⟨AC_FE (fok39 true) (Nat.le_of_ble_eq_true rfl) ?_, by unfold allowV; split <;> rfl⟩
  have h6 := hok.tl
  have hk8 := hok.kl
  simp only [ic39, f_box, cellsOf, append_I, apI_nil (zs := ts0) (by omega), evA, if_true, if_false, reduceIte, Nat.reduceAdd, Nat.reduceMul, Nat.reduceSub, Nat.reduceLeDiff, Nat.reduceEqDiff, Nat.reduceBEq, Nat.reduceBNe, Int.reduceAdd, Int.reduceMul, Int.reduceSub, Int.reduceLT, Int.reduceGT, Int.reduceGE, Int.reduceLE, Int.reduceEq, Int.reduceNeg, Int.reduceToNat, reduceCtorEq, beq_false, Int.reduceBEq, Int.reduceBNe]
  refine IL_for ks.length (fun t s => ∃ σ us zs v v8 v9 v10 v11 v12 v13 v14, (rowOf σ 0 = some [ints ts0, ints ks] ∧ rowOf σ 2 = some (us.map AV.i) ∧ AccFrom 3 σ v zs ∧ Dig ts0.length us ∧ allowF ks xs ks.length ts0 = (allowF ks xs (ks.length - t) us).map (fun l => zs ++ l) ∧ zs.length = t) ∧
    s = ⟨[drw ts0 ks, u8s xs, .ptr 0 0, .cv .nils, .b false, .sl 2 0 ts0.length 1, v, .i t, v8, v9, v10, v11, v12, v13, v14], σ⟩) ?_ 0 (Nat.zero_le _) ⟨_, ts0, [], .cv .nils, _, _, _, _, _, _, _, ⟨rfl, rfl, AccFrom.nil (by simp), ⟨rfl, hok.tr⟩, by simp, rfl⟩, rfl⟩
  rintro t s htl ⟨σ, us, zs, v, v8, v9, v10, v11, v12, v13, v14, ⟨r0, r2, hA, hd, heq, hzl⟩, rfl⟩
  by_cases h : t < ks.length
  rotate_left
  · have hte : t = ks.length := by omega
    subst hte
    rw [Nat.sub_self] at heq
    have heq : allowF ks xs ks.length ts0 = some zs := by simpa [allowF] using heq
    rw [heq]
    simp only [ic39l1, Int.ofNat_lt, h, r0, allowV, evA, if_true, if_false, reduceIte, Nat.reduceAdd, Nat.reduceMul, Nat.reduceSub, Nat.reduceLeDiff, Nat.reduceEqDiff, Nat.reduceBEq, Nat.reduceBNe, Int.reduceAdd, Int.reduceMul, Int.reduceSub, Int.reduceLT, Int.reduceGT, Int.reduceGE, Int.reduceLE, Int.reduceEq, Int.reduceNeg, Int.reduceToNat, reduceCtorEq, beq_false, Int.reduceBEq, Int.reduceBNe]
    exact .tup (.cons (acc_frz (fun _ => trivial) hA.acc) (.cons (.c (.c _ trivial)) .nil))
  obtain ⟨r, hr⟩ : ∃ r, ks.length - t = r + 1 := ⟨ks.length - t - 1, by omega⟩
  have hrt : ks.length - (r + 1) = t := by omega
  have hul := hd.1
  obtain ⟨S, hS, hS62, hSn⟩ := bits_ok hok h
  simp only [ic39l1, Int.ofNat_lt, h, r0, evA, if_true, if_false, reduceIte, Nat.reduceAdd, Nat.reduceMul, Nat.reduceSub, Nat.reduceLeDiff, Nat.reduceEqDiff, Nat.reduceBEq, Nat.reduceBNe, Int.reduceAdd, Int.reduceMul, Int.reduceSub, Int.reduceLT, Int.reduceGT, Int.reduceGE, Int.reduceLE, Int.reduceEq, Int.reduceNeg, Int.reduceToNat, reduceCtorEq, beq_false, Int.reduceBEq, Int.reduceBNe]
  refine IL_for us.length (fun i s => ∃ σ' vc v10 v12 v13 v14, (AccFrom σ.length σ' vc (natI (canL ks us t i)) ∧ ∀ l, l < σ.length → rowOf σ' l = rowOf σ l) ∧
    s = ⟨[drw ts0 ks, u8s xs, .ptr 0 0, .cv .nils, .b false, .sl 2 0 ts0.length 1, v, .i t, vc, .i i, v10, .b true, v12, v13, v14], σ'⟩) ?_ 0 (Nat.zero_le _) ⟨σ, _, _, _, _, _, ⟨AccFrom.nil (Nat.le_refl _), fun _ _ => rfl⟩, rfl⟩
  rintro i s hi ⟨σ', vc, w10, w12, w13, w14, ⟨hC, hrow⟩, rfl⟩
  have hA3 := hA.1
  by_cases hil : i < us.length
  · have hil' : i < ts0.length := by omega
    have r0' : rowOf σ' 0 = some [ints ts0, ints ks] := by rw [hrow 0 (by omega)]; exact r0
    have r2' : rowOf σ' 2 = some (us.map AV.i) := by rw [hrow 2 (by omega)]; exact r2
    have hwi : IntKind.i64.wrap ((i : Int) + 1) = ((i + 1 : Nat) : Int) := by rw [wrap_in (by omega)]; rfl
    have hcan : canB ks us t i = (decide (us[i]?.getD 0 > 0) && !S.testBit i) := by unfold canB; rw [hSn]
    have hcl : (natI (canL ks us t i)).length ≤ i := by
      simp only [List.length_map, canL]
      exact Nat.le_trans (List.length_filter_le _ _) (by simp)
    have skip : canB ks us t i = false → natI (canL ks us t (i + 1)) = natI (canL ks us t i) := fun hc => by rw [canL_succ, hc]; rfl
    by_cases hp : us[i]?.getD 0 > 0
    rotate_left
    · have hc : canB ks us t i = false := by rw [hcan]; simp [hp]
      simp only [ic39l0, Int.ofNat_lt, hil, hil', r0', r2', hp, hwi, evA, if_true, if_false, reduceIte, Nat.reduceAdd, Nat.reduceMul, Nat.reduceSub, Nat.reduceLeDiff, Nat.reduceEqDiff, Nat.reduceBEq, Nat.reduceBNe, Int.reduceAdd, Int.reduceMul, Int.reduceSub, Int.reduceLT, Int.reduceGT, Int.reduceGE, Int.reduceLE, Int.reduceEq, Int.reduceNeg, Int.reduceToNat, reduceCtorEq, beq_false, Int.reduceBEq, Int.reduceBNe]
      exact kFor_go (by first | trivial | omega) ⟨σ', vc, _, _, _, _, ⟨by rw [skip hc]; exact hC, hrow⟩, rfl⟩
    simp only [ic39l0, Int.ofNat_lt, hil, hil', r0', r2', hp, h, hS, evA, if_true, if_false, reduceIte, Nat.reduceAdd, Nat.reduceMul, Nat.reduceSub, Nat.reduceLeDiff, Nat.reduceEqDiff, Nat.reduceBEq, Nat.reduceBNe, Int.reduceAdd, Int.reduceMul, Int.reduceSub, Int.reduceLT, Int.reduceGT, Int.reduceGE, Int.reduceLE, Int.reduceEq, Int.reduceNeg, Int.reduceToNat, reduceCtorEq, beq_false, Int.reduceBEq, Int.reduceBNe]
    refine (c45 S i hS62 (by omega)).call (by (try dsimp only); repeat (first | exact trivial | rfl | exact frz_ints_nl | (apply frz_ints (fun _ => trivial); first | rfl | (simp [rowOf]; done)) | constructor | simp only [frzA])) ?_
    cases hbt : S.testBit i
    rotate_left
    · have hc : canB ks us t i = false := by rw [hcan, hbt]; simp
      simp only [hwi, evA, if_true, if_false, reduceIte, Nat.reduceAdd, Nat.reduceMul, Nat.reduceSub, Nat.reduceLeDiff, Nat.reduceEqDiff, Nat.reduceBEq, Nat.reduceBNe, Int.reduceAdd, Int.reduceMul, Int.reduceSub, Int.reduceLT, Int.reduceGT, Int.reduceGE, Int.reduceLE, Int.reduceEq, Int.reduceNeg, Int.reduceToNat, reduceCtorEq, beq_false, Int.reduceBEq, Int.reduceBNe]
      exact kFor_go (by first | trivial | omega) ⟨σ', vc, _, _, _, _, ⟨by rw [skip hc]; exact hC, hrow⟩, rfl⟩
    have hc : canB ks us t i = true := by rw [hcan, hbt]; simp [hp]
    obtain ⟨v', σ2, hap, hacc, hrow2⟩ := accFrom_append (i : Int) hC (by omega)
    simp only [hap, hwi, evA, if_true, if_false, reduceIte, Nat.reduceAdd, Nat.reduceMul, Nat.reduceSub, Nat.reduceLeDiff, Nat.reduceEqDiff, Nat.reduceBEq, Nat.reduceBNe, Int.reduceAdd, Int.reduceMul, Int.reduceSub, Int.reduceLT, Int.reduceGT, Int.reduceGE, Int.reduceLE, Int.reduceEq, Int.reduceNeg, Int.reduceToNat, reduceCtorEq, beq_false, Int.reduceBEq, Int.reduceBNe]
    refine kFor_go (by first | trivial | omega) ⟨σ2, v', _, _, _, _, ⟨?_, fun l hl => (hrow2 l hl).trans (hrow l hl)⟩, rfl⟩
    have : natI (canL ks us t (i + 1)) = natI (canL ks us t i) ++ [(i : Int)] := by rw [canL_succ, hc]; simp [natI]
    rw [this]; exact hacc
  · have hie : i = us.length := by omega
    subst hie
    have hil' : ¬ us.length < ts0.length := by omega
    have hstep : allowF ks xs (r + 1) us = if (canL ks us t us.length).length = 0 then none else (allowF ks xs r (lessF us ((canL ks us t us.length)[turnF xs t % (canL ks us t us.length).length]?.getD 0))).map fun l => (((canL ks us t us.length)[turnF xs t % (canL ks us t us.length).length]?.getD 0 : Nat) : Int) :: l := by
      simp only [allowF, hrt]
    have hmem := fun j (h : j ∈ canL ks us t us.length) => canL_mem h
    have hcl : (canL ks us t us.length).length ≤ us.length := by
      unfold canL
      exact Nat.le_trans (List.length_filter_le _ _) (by simp)
    rw [hr, hstep] at heq
    generalize canL ks us t us.length = C at *
    by_cases hC0 : C.length = 0
    · rw [if_pos hC0] at heq
      have heq : allowF ks xs ks.length ts0 = none := heq
      have hCn : C = [] := List.eq_nil_of_length_eq_zero hC0
      subst hCn
      rw [heq]
      rcases hC.2 with ⟨rfl, _⟩ | ⟨lc, _, rfl, _⟩
      · simp only [ic39l0, Int.ofNat_lt, hil', allowV, evA, if_true, if_false, reduceIte, Nat.reduceAdd, Nat.reduceMul, Nat.reduceSub, Nat.reduceLeDiff, Nat.reduceEqDiff, Nat.reduceBEq, Nat.reduceBNe, Int.reduceAdd, Int.reduceMul, Int.reduceSub, Int.reduceLT, Int.reduceGT, Int.reduceGE, Int.reduceLE, Int.reduceEq, Int.reduceNeg, Int.reduceToNat, reduceCtorEq, beq_false, Int.reduceBEq, Int.reduceBNe]
        exact (by (try dsimp only); repeat (first | exact trivial | rfl | exact frz_ints_nl | (apply frz_ints (fun _ => trivial); first | rfl | (simp [rowOf]; done)) | constructor | simp only [frzA]))
      · have hb : ((((natI []).length : Nat) : Int) == 0) = true := rfl
        simp only [ic39l0, Int.ofNat_lt, hil', hb, allowV, evA, if_true, if_false, reduceIte, Nat.reduceAdd, Nat.reduceMul, Nat.reduceSub, Nat.reduceLeDiff, Nat.reduceEqDiff, Nat.reduceBEq, Nat.reduceBNe, Int.reduceAdd, Int.reduceMul, Int.reduceSub, Int.reduceLT, Int.reduceGT, Int.reduceGE, Int.reduceLE, Int.reduceEq, Int.reduceNeg, Int.reduceToNat, reduceCtorEq, beq_false, Int.reduceBEq, Int.reduceBNe]
        exact (by (try dsimp only); repeat (first | exact trivial | rfl | exact frz_ints_nl | (apply frz_ints (fun _ => trivial); first | rfl | (simp [rowOf]; done)) | constructor | simp only [frzA]))
    rw [if_neg hC0] at heq
    rcases hC.2 with ⟨_, hCn⟩ | ⟨lc, _, rfl, hrc⟩
    · exact absurd (by simpa using congrArg List.length hCn) hC0
    have hlen : (natI C).length = C.length := by simp
    have hb : ((C.length : Int) == 0) = false := beqI_false (by omega)
    have hz : ¬ ((C.length : Int) = 0) := by omega
    simp only [ic39l0, Int.ofNat_lt, hil', hb, evA, if_true, if_false, reduceIte, Nat.reduceAdd, Nat.reduceMul, Nat.reduceSub, Nat.reduceLeDiff, Nat.reduceEqDiff, Nat.reduceBEq, Nat.reduceBNe, Int.reduceAdd, Int.reduceMul, Int.reduceSub, Int.reduceLT, Int.reduceGT, Int.reduceGE, Int.reduceLE, Int.reduceEq, Int.reduceNeg, Int.reduceToNat, reduceCtorEq, beq_false, Int.reduceBEq, Int.reduceBNe]
    refine (c46 xs t hx hl (by omega)).call (.cons (.c (.c _ trivial)) (.cons (.c (.c _ trivial)) .nil)) ?_
    have hrem : ((turnF xs t : Nat) : Int).tmod (C.length : Int) = ((turnF xs t % C.length : Nat) : Int) := by rw [Int.tmod_eq_emod_of_nonneg (by omega)]; rfl
    have hjl : turnF xs t % C.length < C.length := Nat.mod_lt _ (by omega)
    have hjl2 : turnF xs t % C.length < (natI C).length := by rw [hlen]; exact hjl
    have hcj : (natI C)[turnF xs t % C.length]?.getD 0 = ((C[turnF xs t % C.length]?.getD 0 : Nat) : Int) := by simp [hjl]
    have hcm := hmem (C[turnF xs t % C.length]?.getD 0) (by simp [hjl])
    generalize turnF xs t = T at *
    generalize T % C.length = j at *
    generalize C[j]?.getD 0 = c at *
    obtain ⟨hcl2, hcc⟩ := hcm
    have hA' : AccFrom 3 σ' v zs := ⟨by have := hC.1; omega, hA.2.imp id fun ⟨l, h1, h2, h3⟩ => ⟨l, h1, h2, by rw [hrow l (List.getElem?_eq_some_iff.1 (rowOf_some h3)).1]; exact h3⟩⟩
    have r0' : rowOf σ' 0 = some [ints ts0, ints ks] := by rw [hrow 0 (by omega)]; exact r0
    have r2' : rowOf σ' 2 = some (us.map AV.i) := by rw [hrow 2 (by omega)]; exact r2
    obtain ⟨v', σ3, hap, hacc, hrow2⟩ := accFrom_append (c : Int) hA' (by omega)
    have r0'' : rowOf σ3 0 = some [ints ts0, ints ks] := by rw [hrow2 0 (by omega)]; exact r0'
    have r2'' : rowOf σ3 2 = some (us.map AV.i) := by rw [hrow2 2 (by omega)]; exact r2'
    have hct : c < ts0.length := by omega
    have hc1 : c + 1 ≤ us.length := hcl2
    have hdc := hd.2 c hcl2
    have hw : IntKind.i64.wrap (us[c]?.getD 0 - 1) = us[c]?.getD 0 - 1 := wrap_in (by omega)
    have hwt : IntKind.i64.wrap ((t : Int) + 1) = ((t + 1 : Nat) : Int) := by rw [wrap_in (by omega)]; rfl
    have hga := av_load hjl2
    rw [hcj] at hga
    simp only [hz, hrem, hjl, hjl2, hrc, hga, hap, r2'', hct, hcl2, hc1, hw, hwt, evA, if_true, if_false, reduceIte, Nat.reduceAdd, Nat.reduceMul, Nat.reduceSub, Nat.reduceLeDiff, Nat.reduceEqDiff, Nat.reduceBEq, Nat.reduceBNe, Int.reduceAdd, Int.reduceMul, Int.reduceSub, Int.reduceLT, Int.reduceGT, Int.reduceGE, Int.reduceLE, Int.reduceEq, Int.reduceNeg, Int.reduceToNat, reduceCtorEq, beq_false, Int.reduceBEq, Int.reduceBNe]
    refine kFor_go (by first | trivial | omega) ⟨_, lessF us c, zs ++ [(c : Int)], v', _, _, _, _, _, _, _, ⟨?_, ?_, hacc.store (by omega) _, dig_less hd hcl2 hcc, ?_, by simp [hzl]⟩, rfl⟩
    · rw [rowOf_set_ne (by omega)]; exact r0''
    · exact rowOf_set_self r2''
    · rw [heq, show ks.length - (t + 1) = r by omega, Option.map_map]
      congr 1
      funext l
      simp

end Go.Proofs.Ytphdemhopihpnaa.AM

namespace Go.Proofs.Ytphdemhopihpnaa.AM
open Go
set_option linter.unusedVariables false
set_option linter.unusedSimpArgs false

/-- an allowed assignment of the last r tests -/
def AllowA (ks : List Int) : Nat → List Int → List Int → Prop
  | 0, _, l => l = []
  | r + 1, us, l => ∃ (i : Nat) (l' : List Int), l = (i : Int) :: l' ∧ i < us.length ∧ canB ks us (ks.length - (r + 1)) i = true ∧ AllowA ks r (lessF us i) l'

/-- its index -/
def indexF (ks : List Int) : Nat → List Int → List Int → Int
  | 0, _, _ => 0
  | _ + 1, _, [] => 0
  | r + 1, us, z :: l => preF ks r us z.toNat + indexF ks r (lessF us z.toNat) l

theorem AllowA.length {ks : List Int} : ∀ {r : Nat} {us l : List Int}, AllowA ks r us l → l.length = r
  | 0, us, l, h => by simp [AllowA] at h; simp [h]
  | r + 1, us, l, h => by
    obtain ⟨i, l', rfl, _, _, h⟩ := h
    simp [h.length]

theorem allowF_A {ks : List Int} {xs : List Nat} : ∀ (r : Nat) (us l : List Int), allowF ks xs r us = some l → AllowA ks r us l
  | 0, us, l, h => by simp [allowF] at h; simp [AllowA, h]
  | r + 1, us, l, h => by
    simp only [allowF] at h
    split at h
    · cases h
    · rename_i hc
      rw [Option.map_eq_some_iff] at h
      obtain ⟨l', h1, rfl⟩ := h
      have hj : turnF xs (ks.length - (r + 1)) % (canL ks us (ks.length - (r + 1)) us.length).length < (canL ks us (ks.length - (r + 1)) us.length).length := Nat.mod_lt _ (by omega)
      have hm := canL_mem (ks := ks) (us := us) (t := ks.length - (r + 1)) (i := us.length) (j := (canL ks us (ks.length - (r + 1)) us.length)[turnF xs (ks.length - (r + 1)) % (canL ks us (ks.length - (r + 1)) us.length).length]?.getD 0) (by simp [hj])
      exact ⟨_, l', rfl, hm.1, hm.2, allowF_A r _ _ h1⟩

theorem index_in {ks : List Int} : ∀ (r : Nat) (us l : List Int), AllowA ks r us l → 0 ≤ indexF ks r us l ∧ indexF ks r us l < waysF ks r us ∧ pickF ks r us (indexF ks r us l) = l
  | 0, us, l, h => by simp [AllowA] at h; simp [indexF, waysF, pickF, h]
  | r + 1, us, l, h => by
    obtain ⟨i, l', rfl, hi, hc, h⟩ := h
    obtain ⟨h1, h2, h3⟩ := index_in r (lessF us i) l' h
    have hp := preF_nonneg ks r us i
    have hs := preF_succ ks r us i
    rw [if_pos hc] at hs
    have hm := preF_mono ks r us (show i + 1 ≤ us.length from hi)
    simp only [indexF, Int.toNat_natCast]
    refine ⟨by omega, by rw [preF_full]; omega, ?_⟩
    rw [pick_step hi hc (by omega) (fun k hk _ => by have := preF_mono ks r us (show k + 1 ≤ i from hk); omega)]
    rw [show preF ks r us i + indexF ks r (lessF us i) l' - preF ks r us i = indexF ks r (lessF us i) l' by omega, h3]

theorem pick_A {ks : List Int} : ∀ (r : Nat) (us : List Int) (x : Int), 0 ≤ x → x < waysF ks r us → AllowA ks r us (pickF ks r us x) ∧ indexF ks r us (pickF ks r us x) = x
  | 0, us, x, h0, h1 => by simp [waysF] at h1; simp [pickF, AllowA, indexF]; omega
  | r + 1, us, x, h0, h1 => by
    rw [preF_full] at h1
    have hex : ∃ j, j < us.length ∧ canB ks us (ks.length - (r + 1)) j = true ∧ x < preF ks r us (j + 1) ∧ ∀ k, k < j → canB ks us (ks.length - (r + 1)) k = true → preF ks r us (k + 1) ≤ x := by
      cases hf : (List.range us.length).find? (fun i => canB ks us (ks.length - (r + 1)) i && decide (x < preF ks r us (i + 1))) with
      | some j =>
        rw [List.find?_range_eq_some] at hf
        obtain ⟨h2, h3, h4⟩ := hf
        simp only [Bool.and_eq_true, decide_eq_true_eq] at h2
        refine ⟨j, by simpa using h3, h2.1, h2.2, fun k hk hck => ?_⟩
        have := h4 k hk
        simp only [hck, Bool.true_and, Bool.not_eq_true', decide_eq_false_iff_not] at this
        omega
      | none =>
        exfalso
        simp only [List.find?_eq_none, List.mem_range, Bool.and_eq_true, decide_eq_true_eq, not_and] at hf
        have := pre_le (ks := ks) (r := r) (us := us) h0 us.length fun k hk hck => by have := hf k hk hck; omega
        omega
    obtain ⟨j, hj, hc, hx, hb⟩ := hex
    have hpj := pre_le (ks := ks) (r := r) (us := us) h0 j hb
    have hs := preF_succ ks r us j
    rw [if_pos hc] at hs
    obtain ⟨g1, g2⟩ := pick_A (ks := ks) r (lessF us j) (x - preF ks r us j) (by omega) (by omega)
    rw [pick_step hj hc hx hb]
    refine ⟨⟨j, _, rfl, hj, hc, g1⟩, ?_⟩
    simp only [indexF, Int.toNat_natCast, g2]
    omega

theorem pick_inj {ks : List Int} {r : Nat} {us : List Int} {x y : Int} (hx : 0 ≤ x ∧ x < waysF ks r us) (hy : 0 ≤ y ∧ y < waysF ks r us) (h : pickF ks r us x = pickF ks r us y) : x = y := by
  rw [← (pick_A r us x hx.1 hx.2).2, ← (pick_A r us y hy.1 hy.2).2, h]

end Go.Proofs.Ytphdemhopihpnaa.AM

namespace Go.Proofs.Ytphdemhopihpnaa.AM
open Go
set_option linter.unusedVariables false
set_option linter.unusedSimpArgs false

theorem u8_of {zs : List Int} (h : ∀ z ∈ zs, (Lit.int .u8 z).wf = true) : ∃ xs : List Nat, zs = xs.map (fun x : Nat => (x : Int)) ∧ (∀ x ∈ xs, x ≤ 255) := by
  refine ⟨zs.map Int.toNat, ?_, ?_⟩
  · rw [List.map_map]
    conv => lhs; rw [← List.map_id zs]
    apply List.map_congr_left
    intro z hz
    have := wf_u8 (h z hz)
    simp only [id, Function.comp]
    omega
  · intro x hx
    obtain ⟨z, hz, rfl⟩ := List.mem_map.1 hx
    have := wf_u8 (h z hz)
    omega

theorem typed_u8s {cs : List CV} (h : Typed Try.prog 51 cs) : ∃ xs : List Nat, avOf Try.prog 51 cs = u8s xs ∧ (∀ x ∈ xs, x ≤ 255) ∧ xs.length < 2 ^ 63 := by
  obtain ⟨zs, rfl, h1, h2⟩ := typed_ints Try.underlying51 Try.underlying5 h
  obtain ⟨xs, rfl, h3⟩ := u8_of h2
  exact ⟨xs, by simp [avOf, Try.underlying51], h3, by simpa using h1⟩


end Go.Proofs.Ytphdemhopihpnaa.AM

namespace Go.Proofs.Ytphdemhopihpnaa.AM
open Go
set_option linter.unusedVariables false
set_option linter.unusedSimpArgs false

/-- is an assignment of the last r tests allowed -/
def allowB (ks : List Int) : Nat → List Int → List Int → Bool
  | 0, _, _ => true
  | _ + 1, _, [] => false
  | r + 1, us, z :: l => decide (z.toNat < us.length) && canB ks us (ks.length - (r + 1)) z.toNat && allowB ks r (lessF us z.toNat) l

theorem allowB_A {ks : List Int} : ∀ (r : Nat) (us l : List Int), l.length = r → (∀ z ∈ l, 0 ≤ z) → (allowB ks r us l = true ↔ AllowA ks r us l)
  | 0, us, l, hl, _ => by
    have : l = [] := List.eq_nil_of_length_eq_zero hl
    simp [allowB, AllowA, this]
  | r + 1, us, [], hl, _ => by simp at hl
  | r + 1, us, z :: l, hl, h0 => by
    have ih := allowB_A (ks := ks) r (lessF us z.toNat) l (by simpa using hl) (fun y hy => h0 y (by simp [hy]))
    have hz := h0 z (by simp)
    simp only [allowB, AllowA, Bool.and_eq_true, decide_eq_true_eq, ih]
    constructor
    · rintro ⟨⟨h1, h2⟩, h3⟩
      exact ⟨z.toNat, l, by rw [Int.toNat_of_nonneg hz], h1, h2, h3⟩
    · rintro ⟨i, l', he, h1, h2, h3⟩
      simp only [List.cons.injEq] at he
      obtain ⟨rfl, rfl⟩ := he
      exact ⟨⟨by simpa using h1, by simpa using h2⟩, by simpa using h3⟩

/-- how often a number stands among the first -/
def cntF (l : List Int) (z : Int) : Nat → Nat
  | 0 => 0
  | k + 1 => if l[k]?.getD 0 = z then cntF l z k + 1 else cntF l z k
theorem cntF_le (l : List Int) (z : Int) : ∀ k, cntF l z k ≤ k
  | 0 => Nat.le_refl _
  | k + 1 => by
    have := cntF_le l z k
    simp only [cntF]; split <;> omega

/-- test t's examiner may take it, and has not too many -/
def fitB (ts ks l : List Int) (t : Nat) : Bool := (ks[t]?.getD 0).toNat.testBit (l[t]?.getD 0).toNat || decide ((cntF l (l[t]?.getD 0) l.length : Int) > ts[(l[t]?.getD 0).toNat]?.getD 0)

def assignE (ts ks l : List Int) : Int :=
  if l.length ≠ ks.length then 3
  else if (firstBad 0 (ts.length - 1) l).isSome then 4
  else if (List.range l.length).any (fitB ts ks l) then 2 else 0

theorem c40 (ts ks l : List Int) (hok : DrawOk ts ks) (hl : l.length < 2 ^ 62) : PC Try.prog 40 [drw ts ks, ints l] (.i (assignE ts ks l)) := by
  refine ⟨AC_FE (fok40 true) (Nat.le_of_ble_eq_true rfl) ?_, rfl⟩
  have h6 := hok.tl
  have hk8 := hok.kl
  simp only [ic40, f_box, cellsOf, evA, if_true, if_false, reduceIte, Nat.reduceAdd, Nat.reduceMul, Nat.reduceSub, Nat.reduceLeDiff, Nat.reduceEqDiff, Nat.reduceBEq, Nat.reduceBNe, Int.reduceAdd, Int.reduceMul, Int.reduceSub, Int.reduceLT, Int.reduceGT, Int.reduceGE, Int.reduceLE, Int.reduceEq, Int.reduceNeg, Int.reduceToNat, reduceCtorEq, beq_false, Int.reduceBEq, Int.reduceBNe]
  by_cases hlen : l.length = ks.length
  rotate_left
  · have hb := bneI_true (a := (l.length : Int)) (b := (ks.length : Int)) (by omega)
    have hv : assignE ts ks l = 3 := by unfold assignE; rw [if_pos hlen]
    simp only [hb, hv, evA, if_true, if_false, reduceIte, Nat.reduceAdd, Nat.reduceMul, Nat.reduceSub, Nat.reduceLeDiff, Nat.reduceEqDiff, Nat.reduceBEq, Nat.reduceBNe, Int.reduceAdd, Int.reduceMul, Int.reduceSub, Int.reduceLT, Int.reduceGT, Int.reduceGE, Int.reduceLE, Int.reduceEq, Int.reduceNeg, Int.reduceToNat, reduceCtorEq, beq_false, Int.reduceBEq, Int.reduceBNe]
    exact (by (try dsimp only); repeat (first | exact trivial | rfl | exact frz_ints_nl | (apply frz_ints (fun _ => trivial); first | rfl | (simp [rowOf]; done)) | constructor | simp only [frzA]))
  have hb := bneI_false (a := (l.length : Int)) (b := (ks.length : Int)) (by omega)
  have hwn : IntKind.i64.wrap ((ts.length : Int) - 1) = (ts.length : Int) - 1 := wrap_in (by omega)
  simp only [hb, evA, if_true, if_false, reduceIte, Nat.reduceAdd, Nat.reduceMul, Nat.reduceSub, Nat.reduceLeDiff, Nat.reduceEqDiff, Nat.reduceBEq, Nat.reduceBNe, Int.reduceAdd, Int.reduceMul, Int.reduceSub, Int.reduceLT, Int.reduceGT, Int.reduceGE, Int.reduceLE, Int.reduceEq, Int.reduceNeg, Int.reduceToNat, reduceCtorEq, beq_false, Int.reduceBEq, Int.reduceBNe]
  refine IL_for l.length (fun t s => (∀ j, j < t → inB (l[j]?.getD 0) 0 ((ts.length : Int) - 1) = true) ∧ ∃ v9 v10, s = ⟨[drw ts ks, ints l, .ptr 0 0, .i 0, .i t, .undef, .undef, .undef, .b false, v9, v10, .undef, .undef, .undef, .undef], [.cells [ints ts, ints ks]]⟩) ?_ 0 (Nat.zero_le _) ⟨fun j hj => absurd hj (Nat.not_lt_zero _), _, _, rfl⟩
  rintro t s htl ⟨hall, v9, v10, rfl⟩
  have hwt : IntKind.i64.wrap ((t : Int) + 1) = ((t + 1 : Nat) : Int) := by rw [wrap_in (by omega)]; rfl
  by_cases h : t < l.length
  · simp only [ic40l2, Int.ofNat_lt, h, evA, if_true, if_false, reduceIte, Nat.reduceAdd, Nat.reduceMul, Nat.reduceSub, Nat.reduceLeDiff, Nat.reduceEqDiff, Nat.reduceBEq, Nat.reduceBNe, Int.reduceAdd, Int.reduceMul, Int.reduceSub, Int.reduceLT, Int.reduceGT, Int.reduceGE, Int.reduceLE, Int.reduceEq, Int.reduceNeg, Int.reduceToNat, reduceCtorEq, beq_false, Int.reduceBEq, Int.reduceBNe]
    refine DW_s [8] [] hmix (by kernel_rfl) rfl ?_
    simp only [h, hwn, evA, if_true, if_false, reduceIte, Nat.reduceAdd, Nat.reduceMul, Nat.reduceSub, Nat.reduceLeDiff, Nat.reduceEqDiff, Nat.reduceBEq, Nat.reduceBNe, Int.reduceAdd, Int.reduceMul, Int.reduceSub, Int.reduceLT, Int.reduceGT, Int.reduceGE, Int.reduceLE, Int.reduceEq, Int.reduceNeg, Int.reduceToNat, reduceCtorEq, beq_false, Int.reduceBEq, Int.reduceBNe]
    refine kK_keep ((c48 (l[t]?.getD 0) 0 ((ts.length : Int) - 1)).call (by (try dsimp only); repeat (first | exact trivial | rfl | exact frz_ints_nl | (apply frz_ints (fun _ => trivial); first | rfl | (simp [rowOf]; done)) | constructor | simp only [frzA])) ⟨rfl, rfl⟩) rfl ?_
    rw [← show inB (l[t]?.getD 0) 0 ((ts.length : Int) - 1) = (decide (l[t]?.getD 0 ≥ 0) && decide (l[t]?.getD 0 ≤ (ts.length : Int) - 1)) from rfl]
    cases hbt : inB (l[t]?.getD 0) 0 ((ts.length : Int) - 1)
    · have hv : assignE ts ks l = 4 := by unfold assignE; rw [if_neg (by simpa using hlen), firstBad_some h hall hbt]; rfl
      simp only [hv, evA, if_true, if_false, reduceIte, Nat.reduceAdd, Nat.reduceMul, Nat.reduceSub, Nat.reduceLeDiff, Nat.reduceEqDiff, Nat.reduceBEq, Nat.reduceBNe, Int.reduceAdd, Int.reduceMul, Int.reduceSub, Int.reduceLT, Int.reduceGT, Int.reduceGE, Int.reduceLE, Int.reduceEq, Int.reduceNeg, Int.reduceToNat, reduceCtorEq, beq_false, Int.reduceBEq, Int.reduceBNe]
      exact (by (try dsimp only); repeat (first | exact trivial | rfl | exact frz_ints_nl | (apply frz_ints (fun _ => trivial); first | rfl | (simp [rowOf]; done)) | constructor | simp only [frzA]))
    · simp only [hwt, evA, if_true, if_false, reduceIte, Nat.reduceAdd, Nat.reduceMul, Nat.reduceSub, Nat.reduceLeDiff, Nat.reduceEqDiff, Nat.reduceBEq, Nat.reduceBNe, Int.reduceAdd, Int.reduceMul, Int.reduceSub, Int.reduceLT, Int.reduceGT, Int.reduceGE, Int.reduceLE, Int.reduceEq, Int.reduceNeg, Int.reduceToNat, reduceCtorEq, beq_false, Int.reduceBEq, Int.reduceBNe]
      refine kFor_go (by first | trivial | omega) ⟨fun j hj => ?_, _, _, rfl⟩
      rcases Nat.lt_succ_iff_lt_or_eq.1 hj with hj | rfl
      · exact hall j hj
      · exact hbt
  have hte : t = l.length := by omega
  subst hte
  clear hwt
  have hfb := firstBad_none hall
  have hrng : ∀ j, j < l.length → 0 ≤ l[j]?.getD 0 ∧ l[j]?.getD 0 ≤ (ts.length : Int) - 1 := fun j hj => inB_iff.1 (hall j hj)
  have hval : assignE ts ks l = if (List.range l.length).any (fitB ts ks l) then 2 else 0 := by
    unfold assignE; rw [if_neg (by simpa using hlen), hfb]; rfl
  simp only [ic40l2, Int.ofNat_lt, h, evA, if_true, if_false, reduceIte, Nat.reduceAdd, Nat.reduceMul, Nat.reduceSub, Nat.reduceLeDiff, Nat.reduceEqDiff, Nat.reduceBEq, Nat.reduceBNe, Int.reduceAdd, Int.reduceMul, Int.reduceSub, Int.reduceLT, Int.reduceGT, Int.reduceGE, Int.reduceLE, Int.reduceEq, Int.reduceNeg, Int.reduceToNat, reduceCtorEq, beq_false, Int.reduceBEq, Int.reduceBNe]
  refine IL_for l.length (fun t s => (∀ j, j < t → fitB ts ks l j = false) ∧ ∃ v6 v7 v11 v12 v13 v14, s = ⟨[drw ts ks, ints l, .ptr 0 0, .i 0, .i l.length, .i t, v6, v7, .b false, .b false, v10, v11, v12, v13, v14], [.cells [ints ts, ints ks]]⟩) ?_ 0 (Nat.zero_le _) ⟨fun j hj => absurd hj (Nat.not_lt_zero _), _, _, _, _, _, _, rfl⟩
  rintro t s htl2 ⟨hfit, v6, v7, v11, v12, v13, v14, rfl⟩
  have hwt : IntKind.i64.wrap ((t : Int) + 1) = ((t + 1 : Nat) : Int) := by rw [wrap_in (by omega)]; rfl
  by_cases h : t < l.length
  rotate_left
  · have hte : t = l.length := by omega
    subst hte
    have hv : assignE ts ks l = 0 := by
      rw [hval, if_neg]
      simp only [List.any_eq_true, List.mem_range, not_exists, not_and, Bool.not_eq_true]
      exact hfit
    simp only [ic40l1, Int.ofNat_lt, h, hv, evA, if_true, if_false, reduceIte, Nat.reduceAdd, Nat.reduceMul, Nat.reduceSub, Nat.reduceLeDiff, Nat.reduceEqDiff, Nat.reduceBEq, Nat.reduceBNe, Int.reduceAdd, Int.reduceMul, Int.reduceSub, Int.reduceLT, Int.reduceGT, Int.reduceGE, Int.reduceLE, Int.reduceEq, Int.reduceNeg, Int.reduceToNat, reduceCtorEq, beq_false, Int.reduceBEq, Int.reduceBNe]
    exact (by (try dsimp only); repeat (first | exact trivial | rfl | exact frz_ints_nl | (apply frz_ints (fun _ => trivial); first | rfl | (simp [rowOf]; done)) | constructor | simp only [frzA]))
  simp only [ic40l1, Int.ofNat_lt, h, evA, if_true, if_false, reduceIte, Nat.reduceAdd, Nat.reduceMul, Nat.reduceSub, Nat.reduceLeDiff, Nat.reduceEqDiff, Nat.reduceBEq, Nat.reduceBNe, Int.reduceAdd, Int.reduceMul, Int.reduceSub, Int.reduceLT, Int.reduceGT, Int.reduceGE, Int.reduceLE, Int.reduceEq, Int.reduceNeg, Int.reduceToNat, reduceCtorEq, beq_false, Int.reduceBEq, Int.reduceBNe]
  refine IL_for l.length (fun k s => ∃ v12 v13 v14, s = ⟨[drw ts ks, ints l, .ptr 0 0, .i 0, .i l.length, .i t, .i (cntF l (l[t]?.getD 0) k), .i k, .b false, .b false, v10, .b true, v12, v13, v14], [.cells [ints ts, ints ks]]⟩) ?_ 0 (Nat.zero_le _) ⟨_, _, _, rfl⟩
  rintro k s hkl ⟨w12, w13, w14, rfl⟩
  have hwk : IntKind.i64.wrap ((k : Int) + 1) = ((k + 1 : Nat) : Int) := by rw [wrap_in (by omega)]; rfl
  have hcl := cntF_le l (l[t]?.getD 0) k
  have hwc : IntKind.i64.wrap ((cntF l (l[t]?.getD 0) k : Int) + 1) = ((cntF l (l[t]?.getD 0) k + 1 : Nat) : Int) := by rw [wrap_in (by omega)]; rfl
  by_cases hk : k < l.length
  · simp only [ic40l0, Int.ofNat_lt, hk, evA, if_true, if_false, reduceIte, Nat.reduceAdd, Nat.reduceMul, Nat.reduceSub, Nat.reduceLeDiff, Nat.reduceEqDiff, Nat.reduceBEq, Nat.reduceBNe, Int.reduceAdd, Int.reduceMul, Int.reduceSub, Int.reduceLT, Int.reduceGT, Int.reduceGE, Int.reduceLE, Int.reduceEq, Int.reduceNeg, Int.reduceToNat, reduceCtorEq, beq_false, Int.reduceBEq, Int.reduceBNe]
    refine DW_s [] [] hmix (by kernel_rfl) rfl ?_
    simp only [h, hk, evA, if_true, if_false, reduceIte, Nat.reduceAdd, Nat.reduceMul, Nat.reduceSub, Nat.reduceLeDiff, Nat.reduceEqDiff, Nat.reduceBEq, Nat.reduceBNe, Int.reduceAdd, Int.reduceMul, Int.reduceSub, Int.reduceLT, Int.reduceGT, Int.reduceGE, Int.reduceLE, Int.reduceEq, Int.reduceNeg, Int.reduceToNat, reduceCtorEq, beq_false, Int.reduceBEq, Int.reduceBNe]
    by_cases he : l[k]?.getD 0 = l[t]?.getD 0
    · have hbe := beqI_true he
      simp only [hbe, hwc, hwk, evA, if_true, if_false, reduceIte, Nat.reduceAdd, Nat.reduceMul, Nat.reduceSub, Nat.reduceLeDiff, Nat.reduceEqDiff, Nat.reduceBEq, Nat.reduceBNe, Int.reduceAdd, Int.reduceMul, Int.reduceSub, Int.reduceLT, Int.reduceGT, Int.reduceGE, Int.reduceLE, Int.reduceEq, Int.reduceNeg, Int.reduceToNat, reduceCtorEq, beq_false, Int.reduceBEq, Int.reduceBNe]
      exact kFor_go (by first | trivial | omega) ⟨_, _, _, by simp only [cntF, he, if_true]; rfl⟩
    · have hbe := beqI_false he
      simp only [hbe, hwk, evA, if_true, if_false, reduceIte, Nat.reduceAdd, Nat.reduceMul, Nat.reduceSub, Nat.reduceLeDiff, Nat.reduceEqDiff, Nat.reduceBEq, Nat.reduceBNe, Int.reduceAdd, Int.reduceMul, Int.reduceSub, Int.reduceLT, Int.reduceGT, Int.reduceGE, Int.reduceLE, Int.reduceEq, Int.reduceNeg, Int.reduceToNat, reduceCtorEq, beq_false, Int.reduceBEq, Int.reduceBNe]
      exact kFor_go (by first | trivial | omega) ⟨_, _, _, by simp only [cntF, he, if_false]; rfl⟩
  have hke : k = l.length := by omega
  subst hke
  have hr := hrng t h
  obtain ⟨z, hz⟩ : ∃ z : Nat, l[t]?.getD 0 = (z : Int) := ⟨(l[t]?.getD 0).toNat, (Int.toNat_of_nonneg hr.1).symm⟩
  have hzl : z < ts.length := by omega
  obtain ⟨S, hS, hS62, hSn⟩ := bits_ok hok (t := t) (by omega)
  have hfb2 : fitB ts ks l t = (S.testBit z || decide ((cntF l (z : Int) l.length : Int) > ts[z]?.getD 0)) := by
    unfold fitB; rw [hSn, hz]; rfl
  have htk : t < ks.length := by omega
  rw [hz]
  have fin : fitB ts ks l t = true → assignE ts ks l = 2 := fun hf => by
    rw [hval, if_pos]
    simp only [List.any_eq_true, List.mem_range]
    exact ⟨t, h, hf⟩
  have nxt : fitB ts ks l t = false → ∀ j, j < t + 1 → fitB ts ks l j = false := fun hf j hj => by
    rcases Nat.lt_succ_iff_lt_or_eq.1 hj with hj | rfl
    · exact hfit j hj
    · exact hf
  simp only [ic40l0, Int.ofNat_lt, hk, evA, if_true, if_false, reduceIte, Nat.reduceAdd, Nat.reduceMul, Nat.reduceSub, Nat.reduceLeDiff, Nat.reduceEqDiff, Nat.reduceBEq, Nat.reduceBNe, Int.reduceAdd, Int.reduceMul, Int.reduceSub, Int.reduceLT, Int.reduceGT, Int.reduceGE, Int.reduceLE, Int.reduceEq, Int.reduceNeg, Int.reduceToNat, reduceCtorEq, beq_false, Int.reduceBEq, Int.reduceBNe]
  refine DW_s [9] [] hmix (by kernel_rfl) rfl ?_
  simp only [h, htk, hS, hz, evA, if_true, if_false, reduceIte, Nat.reduceAdd, Nat.reduceMul, Nat.reduceSub, Nat.reduceLeDiff, Nat.reduceEqDiff, Nat.reduceBEq, Nat.reduceBNe, Int.reduceAdd, Int.reduceMul, Int.reduceSub, Int.reduceLT, Int.reduceGT, Int.reduceGE, Int.reduceLE, Int.reduceEq, Int.reduceNeg, Int.reduceToNat, reduceCtorEq, beq_false, Int.reduceBEq, Int.reduceBNe]
  refine kK_keep ((c45 S z hS62 (by omega)).call (by (try dsimp only); repeat (first | exact trivial | rfl | exact frz_ints_nl | (apply frz_ints (fun _ => trivial); first | rfl | (simp [rowOf]; done)) | constructor | simp only [frzA])) ⟨rfl, rfl⟩) rfl ?_
  generalize cntF l (z : Int) l.length = C at *
  cases hbt : S.testBit z
  · by_cases hgt : (C : Int) > ts[z]?.getD 0
    · have hv := fin (by rw [hfb2, hbt]; simp [hgt])
      simp only [hz, h, hzl, hgt, hv, evA, if_true, if_false, reduceIte, Nat.reduceAdd, Nat.reduceMul, Nat.reduceSub, Nat.reduceLeDiff, Nat.reduceEqDiff, Nat.reduceBEq, Nat.reduceBNe, Int.reduceAdd, Int.reduceMul, Int.reduceSub, Int.reduceLT, Int.reduceGT, Int.reduceGE, Int.reduceLE, Int.reduceEq, Int.reduceNeg, Int.reduceToNat, reduceCtorEq, beq_false, Int.reduceBEq, Int.reduceBNe]
      exact (by (try dsimp only); repeat (first | exact trivial | rfl | exact frz_ints_nl | (apply frz_ints (fun _ => trivial); first | rfl | (simp [rowOf]; done)) | constructor | simp only [frzA]))
    · simp only [hz, h, hzl, hgt, hwt, evA, if_true, if_false, reduceIte, Nat.reduceAdd, Nat.reduceMul, Nat.reduceSub, Nat.reduceLeDiff, Nat.reduceEqDiff, Nat.reduceBEq, Nat.reduceBNe, Int.reduceAdd, Int.reduceMul, Int.reduceSub, Int.reduceLT, Int.reduceGT, Int.reduceGE, Int.reduceLE, Int.reduceEq, Int.reduceNeg, Int.reduceToNat, reduceCtorEq, beq_false, Int.reduceBEq, Int.reduceBNe]
      exact kFor_go (by first | trivial | omega) ⟨nxt (by rw [hfb2, hbt]; simp [hgt]), _, _, _, _, _, _, rfl⟩
  · have hv := fin (by rw [hfb2, hbt]; rfl)
    simp only [hv, evA, if_true, if_false, reduceIte, Nat.reduceAdd, Nat.reduceMul, Nat.reduceSub, Nat.reduceLeDiff, Nat.reduceEqDiff, Nat.reduceBEq, Nat.reduceBNe, Int.reduceAdd, Int.reduceMul, Int.reduceSub, Int.reduceLT, Int.reduceGT, Int.reduceGE, Int.reduceLE, Int.reduceEq, Int.reduceNeg, Int.reduceToNat, reduceCtorEq, beq_false, Int.reduceBEq, Int.reduceBNe]
    exact (by (try dsimp only); repeat (first | exact trivial | rfl | exact frz_ints_nl | (apply frz_ints (fun _ => trivial); first | rfl | (simp [rowOf]; done)) | constructor | simp only [frzA]))

theorem cntF_count (l : List Int) (z : Int) : ∀ k, k ≤ l.length → cntF l z k = (l.take k).count z
  | 0, _ => rfl
  | k + 1, h => by
    have hk : k < l.length := h
    rw [cntF, cntF_count l z k (by omega), List.take_add_one, List.count_append]
    simp only [List.getElem?_eq_getElem hk, Option.getD_some, Option.toList_some, List.count_singleton]
    by_cases he : l[k] = z
    · simp [he]
    · simp [he]

theorem allow_iff {ks : List Int} {n : Nat} : ∀ (r : Nat) (us l : List Int), r ≤ ks.length → us.length = n → (∀ j, j < us.length → 0 ≤ us[j]?.getD 0) → l.length = r → (∀ j, j < l.length → 0 ≤ l[j]?.getD 0 ∧ l[j]?.getD 0 < n) →
    (allowB ks r us l = true ↔ (∀ t, t < r → ((ks[ks.length - r + t]?.getD 0).toNat.testBit (l[t]?.getD 0).toNat) = false) ∧ ∀ i : Nat, i < n → (l.count (i : Int) : Int) ≤ us[i]?.getD 0)
  | 0, us, l, hr, hn, hu, hl, hb => by
    have : l = [] := List.eq_nil_of_length_eq_zero hl
    subst this
    simp only [allowB, List.count_nil, true_iff]
    exact ⟨fun t h => absurd h (Nat.not_lt_zero _), fun i hi => by have := hu i (by omega); simpa using this⟩
  | r + 1, us, [], hr, hn, hu, hl, hb => by simp at hl
  | r + 1, us, z :: l, hr, hn, hu, hl, hb => by
    have hz := hb 0 (by simp)
    simp only [List.getElem?_cons_zero, Option.getD_some] at hz
    obtain ⟨i, hi⟩ : ∃ i : Nat, z = (i : Int) := ⟨z.toNat, (Int.toNat_of_nonneg hz.1).symm⟩
    subst hi
    have hin : i < us.length := by omega
    have hll : l.length = r := by simpa using hl
    have hbl : ∀ j, j < l.length → 0 ≤ l[j]?.getD 0 ∧ l[j]?.getD 0 < n := fun j hj => by simpa using hb (j + 1) (by simp; omega)
    simp only [allowB, Int.toNat_natCast, Bool.and_eq_true, decide_eq_true_eq, canB, Bool.not_eq_true']
    have hu0 := hu i hin
    constructor
    · rintro ⟨⟨_, h1, h2⟩, h3⟩
      have hul : ∀ j, j < (lessF us i).length → 0 ≤ (lessF us i)[j]?.getD 0 := fun j hj => by
        simp only [List.length_set] at hj
        by_cases hij : i = j
        · subst hij; rw [List.getElem?_set_self hj]; simp only [Option.getD_some]; omega
        · rw [List.getElem?_set_ne hij]; exact hu j hj
      obtain ⟨g1, g2⟩ := (allow_iff r (lessF us i) l (by omega) (by simpa using hn) hul hll hbl).1 h3
      refine ⟨fun t ht => ?_, fun k hk => ?_⟩
      · cases t with
        | zero => simpa using h2
        | succ t =>
          have := g1 t (by omega)
          rw [show ks.length - (r + 1) + (t + 1) = ks.length - r + t by omega]
          simpa using this
      · have := g2 k hk
        rw [List.count_cons]
        by_cases hik : i = k
        · subst hik
          rw [List.getElem?_set_self hin] at this
          simp only [Option.getD_some] at this
          simp; omega
        · rw [List.getElem?_set_ne hik] at this
          have hne : ((i : Int) == (k : Int)) = false := beqI_false (by omega)
          rw [hne]; simpa using this
    · rintro ⟨g1, g2⟩
      have hci := g2 i (by omega)
      rw [List.count_cons] at hci
      simp only [beq_self_eq_true, if_true] at hci
      have hul : ∀ j, j < (lessF us i).length → 0 ≤ (lessF us i)[j]?.getD 0 := fun j hj => by
        simp only [List.length_set] at hj
        by_cases hij : i = j
        · subst hij; rw [List.getElem?_set_self hj]; simp only [Option.getD_some]; omega
        · rw [List.getElem?_set_ne hij]; exact hu j hj
      refine ⟨⟨hin, by omega, by simpa using g1 0 (by omega)⟩, (allow_iff r (lessF us i) l (by omega) (by simpa using hn) hul hll hbl).2 ⟨fun t ht => ?_, fun k hk => ?_⟩⟩
      · have := g1 (t + 1) (by omega)
        rw [show ks.length - (r + 1) + (t + 1) = ks.length - r + t by omega] at this
        simpa using this
      · have := g2 k hk
        rw [List.count_cons] at this
        by_cases hik : i = k
        · subst hik
          rw [List.getElem?_set_self hin]
          simp only [Option.getD_some]
          simp at this; omega
        · rw [List.getElem?_set_ne hik]
          have hne : ((i : Int) == (k : Int)) = false := beqI_false (by omega)
          rw [hne] at this; simpa using this

theorem assign_allow {ts ks l : List Int} (hok : DrawOk ts ks) (hlen : l.length = ks.length) (hb : ∀ j, j < l.length → 0 ≤ l[j]?.getD 0 ∧ l[j]?.getD 0 < ts.length) : (List.range l.length).any (fitB ts ks l) = !allowB ks ks.length ts l := by
  rw [Bool.eq_iff_iff]
  have key := allow_iff (ks := ks) (n := ts.length) ks.length ts l (Nat.le_refl _) rfl (fun j hj => (hok.tr j hj).1) hlen hb
  rw [Nat.sub_self] at key
  have hcnt : ∀ z, cntF l z l.length = l.count z := fun z => by rw [cntF_count l z l.length (Nat.le_refl _), List.take_length]
  cases ha : allowB ks ks.length ts l with
  | true =>
    obtain ⟨g1, g2⟩ := key.1 ha
    simp only [Bool.not_true, Bool.false_eq_true, iff_false, List.any_eq_true, List.mem_range, not_exists, not_and, Bool.not_eq_true]
    intro t ht
    have h1 := g1 t (by omega)
    have h2 := hb t ht
    have h3 := g2 (l[t]?.getD 0).toNat (by omega)
    rw [Int.toNat_of_nonneg h2.1] at h3
    rw [Nat.zero_add] at h1
    unfold fitB
    rw [h1, hcnt]
    simp only [Bool.false_or, decide_eq_false_iff_not]
    omega
  | false =>
    simp only [Bool.not_false, iff_true, List.any_eq_true, List.mem_range]
    refine Classical.byContradiction fun hno => ?_
    have hall : ∀ t, t < l.length → fitB ts ks l t = false := fun t ht => by
      cases hf : fitB ts ks l t with
      | false => rfl
      | true => exact absurd ⟨t, ht, hf⟩ hno
    have : allowB ks ks.length ts l = true := by
      refine key.2 ⟨fun t ht => ?_, fun i hi => ?_⟩
      · have := hall t (by omega)
        unfold fitB at this
        simp only [Bool.or_eq_false_iff] at this
        rw [Nat.zero_add]; exact this.1
      · by_cases hm : (i : Int) ∈ l
        · obtain ⟨t, ht, he⟩ := List.mem_iff_getElem.1 hm
          have := hall t ht
          unfold fitB at this
          simp only [Bool.or_eq_false_iff, decide_eq_false_iff_not] at this
          have h2 := this.2
          have hlt : l[t]?.getD 0 = (i : Int) := by simp [ht, he]
          rw [hlt, hcnt, Int.toNat_natCast] at h2
          omega
        · rw [List.count_eq_zero_of_not_mem hm]
          exact (hok.tr i hi).1
    rw [this] at ha; cases ha

end Go.Proofs.Ytphdemhopihpnaa.AM

namespace Go.Proofs.Ytphdemhopihpnaa.AM
open Go
set_option linter.unusedVariables false
set_option linter.unusedSimpArgs false

/-- what Index answers, of a valid draw -/
def indexV (ts ks l : List Int) : AV :=
  if l.length ≠ ks.length then .tup [.i 0, .i 3]
  else if (firstBad 0 (ts.length - 1) l).isSome then .tup [.i 0, .i 4]
  else if allowB ks ks.length ts l then .tup [.i (indexF ks ks.length ts l), .i 0] else .tup [.i 0, .i 2]

theorem indexV_cl (ts ks l : List Int) : locsIn 0 (indexV ts ks l) = true := by
  unfold indexV; repeat (split; · rfl)
  rfl

theorem indexF_bounds (ks : List Int) (r : Nat) (us l : List Int) (hl : l.length = r) (h0 : ∀ z ∈ l, 0 ≤ z) (ha : allowB ks r us l = true) : 0 ≤ indexF ks r us l ∧ indexF ks r us l < waysF ks r us :=
  let h := index_in r us l ((allowB_A r us l hl h0).1 ha)
  ⟨h.1, h.2.1⟩

theorem rng_of {ts l : List Int} (h : firstBad 0 (ts.length - 1) l = none) : ∀ j, j < l.length → 0 ≤ l[j]?.getD 0 ∧ l[j]?.getD 0 < ts.length := fun j hj => by
  have := inB_iff.1 (firstBad_iff h j hj); omega
theorem rng_mem {ts l : List Int} (h : firstBad 0 (ts.length - 1) l = none) : ∀ z ∈ l, 0 ≤ z := fun z hz => by
  obtain ⟨j, hj, rfl⟩ := List.mem_iff_getElem.1 hz
  have := rng_of h j hj
  simp [hj] at this; omega

theorem drop_cons (l : List Int) {t : Nat} (h : t < l.length) : l.drop t = l[t]?.getD 0 :: l.drop (t + 1) := by
  rw [List.drop_eq_getElem_cons h]; simp [h]

theorem c31_ok (ts0 ks l : List Int) (ht : ts0.length < 2 ^ 63) (hk : ks.length < 2 ^ 63) (hl : l.length < 2 ^ 62) (hok : DrawOk ts0 ks) : PC Try.prog 31 [drw ts0 ks, ints l] (indexV ts0 ks l) := by
  refine ⟨AC_FE (fok31 true) (Nat.le_of_ble_eq_true rfl) ?_, indexV_cl ..⟩
  have h6 := hok.tl
  have hk8 := hok.kl
  have hc25 := c25 ts0 ks ht hk
  rw [checkV_ok hok] at hc25
  simp only [ic31, f_box, cellsOf, evA, if_true, if_false, reduceIte, Nat.reduceAdd, Nat.reduceMul, Nat.reduceSub, Nat.reduceLeDiff, Nat.reduceEqDiff, Nat.reduceBEq, Nat.reduceBNe, Int.reduceAdd, Int.reduceMul, Int.reduceSub, Int.reduceLT, Int.reduceGT, Int.reduceGE, Int.reduceLE, Int.reduceEq, Int.reduceNeg, Int.reduceToNat, reduceCtorEq, beq_false, Int.reduceBEq, Int.reduceBNe]
  refine hc25.call (by (try dsimp only); repeat (first | exact trivial | rfl | exact frz_ints_nl | (apply frz_ints (fun _ => trivial); first | rfl | (simp [rowOf]; done)) | constructor | simp only [frzA])) ?_
  simp only [evA, if_true, if_false, reduceIte, Nat.reduceAdd, Nat.reduceMul, Nat.reduceSub, Nat.reduceLeDiff, Nat.reduceEqDiff, Nat.reduceBEq, Nat.reduceBNe, Int.reduceAdd, Int.reduceMul, Int.reduceSub, Int.reduceLT, Int.reduceGT, Int.reduceGE, Int.reduceLE, Int.reduceEq, Int.reduceNeg, Int.reduceToNat, reduceCtorEq, beq_false, Int.reduceBEq, Int.reduceBNe]
  refine (c40 ts0 ks l hok hl).call (by (try dsimp only); repeat (first | exact trivial | rfl | exact frz_ints_nl | (apply frz_ints (fun _ => trivial); first | rfl | (simp [rowOf]; done)) | constructor | simp only [frzA])) ?_
  have hE : ∀ e, assignE ts0 ks l = e → e ≠ 0 → indexV ts0 ks l = .tup [.i 0, .i e] := by
    intro e he hne
    unfold assignE at he
    unfold indexV
    by_cases h1 : l.length ≠ ks.length
    · rw [if_pos h1] at he ⊢; rw [← he]
    · rw [if_neg h1] at he ⊢
      by_cases h2 : (firstBad 0 (ts0.length - 1) l).isSome = true
      · rw [if_pos h2] at he ⊢; rw [← he]
      · rw [if_neg h2] at he ⊢
        have hn : firstBad 0 (ts0.length - 1) l = none := by simpa using h2
        rw [assign_allow hok (by simpa using h1) (rng_of hn)] at he
        cases ha : allowB ks ks.length ts0 l with
        | true => rw [ha] at he; simp at he; exact absurd he.symm hne
        | false => rw [ha] at he; simp at he; rw [← he]; rfl
  by_cases he0 : assignE ts0 ks l = 0
  rotate_left
  · have hv := hE _ rfl he0
    have hb := bneI_true he0
    rw [hv]
    simp only [hb, evA, if_true, if_false, reduceIte, Nat.reduceAdd, Nat.reduceMul, Nat.reduceSub, Nat.reduceLeDiff, Nat.reduceEqDiff, Nat.reduceBEq, Nat.reduceBNe, Int.reduceAdd, Int.reduceMul, Int.reduceSub, Int.reduceLT, Int.reduceGT, Int.reduceGE, Int.reduceLE, Int.reduceEq, Int.reduceNeg, Int.reduceToNat, reduceCtorEq, beq_false, Int.reduceBEq, Int.reduceBNe]
    exact (by (try dsimp only); repeat (first | exact trivial | rfl | exact frz_ints_nl | (apply frz_ints (fun _ => trivial); first | rfl | (simp [rowOf]; done)) | constructor | simp only [frzA]))
  have hfacts : l.length = ks.length ∧ firstBad 0 (ts0.length - 1) l = none ∧ allowB ks ks.length ts0 l = true := by
    unfold assignE at he0
    by_cases h1 : l.length ≠ ks.length
    · rw [if_pos h1] at he0; cases he0
    · rw [if_neg h1] at he0
      by_cases h2 : (firstBad 0 (ts0.length - 1) l).isSome = true
      · rw [if_pos h2] at he0; cases he0
      · rw [if_neg h2] at he0
        have hn : firstBad 0 (ts0.length - 1) l = none := by simpa using h2
        rw [assign_allow hok (by simpa using h1) (rng_of hn)] at he0
        refine ⟨by simpa using h1, hn, ?_⟩
        cases ha : allowB ks ks.length ts0 l with
        | true => rfl
        | false => rw [ha] at he0; simp at he0
  obtain ⟨hlen, hn, hal⟩ := hfacts
  have hv : indexV ts0 ks l = .tup [.i (indexF ks ks.length ts0 l), .i 0] := by
    unfold indexV; rw [if_neg (by simpa using hlen), hn, if_neg (by simp), if_pos hal]
  have hb := bneI_false he0
  rw [hv]
  simp only [hb, evA, if_true, if_false, reduceIte, Nat.reduceAdd, Nat.reduceMul, Nat.reduceSub, Nat.reduceLeDiff, Nat.reduceEqDiff, Nat.reduceBEq, Nat.reduceBNe, Int.reduceAdd, Int.reduceMul, Int.reduceSub, Int.reduceLT, Int.reduceGT, Int.reduceGE, Int.reduceLE, Int.reduceEq, Int.reduceNeg, Int.reduceToNat, reduceCtorEq, beq_false, Int.reduceBEq, Int.reduceBNe]
  obtain ⟨τ, hac, htab, _⟩ := c57f ts0 ks hok [AObj.cells [ints ts0, ints ks]]
  refine AC.run hac ?_
  have hb2 : ([AObj.cells [ints ts0, ints ks]] : List AObj).length + 1 = 2 := rfl
  rw [hb2] at htab ⊢
  have r0 : rowOf ([AObj.cells [ints ts0, ints ks]] ++ τ) 0 = some [ints ts0, ints ks] := rfl
  generalize [AObj.cells [ints ts0, ints ks]] ++ τ = σ0 at htab r0 ⊢
  have hmem := rng_mem hn
  have hrng := rng_of hn
  have hwT := waysF_bounds ks ks.length ts0 h6.2
  have hk68 : 6 ^ ks.length ≤ 6 ^ 8 := Nat.pow_le_pow_right (by omega) (by omega)
  have hib := indexF_bounds ks ks.length ts0 l hlen hmem hal
  simp only [r0, evA, if_true, if_false, reduceIte, Nat.reduceAdd, Nat.reduceMul, Nat.reduceSub, Nat.reduceLeDiff, Nat.reduceEqDiff, Nat.reduceBEq, Nat.reduceBNe, Int.reduceAdd, Int.reduceMul, Int.reduceSub, Int.reduceLT, Int.reduceGT, Int.reduceGE, Int.reduceLE, Int.reduceEq, Int.reduceNeg, Int.reduceToNat, reduceCtorEq, beq_false, Int.reduceBEq, Int.reduceBNe]
  refine IL_for l.length (fun t s => ∃ σ K us x v10 v13 v14 v15, (TabR ts0 ks σ 2 K ∧ rowOf σ 0 = some [ints ts0, ints ks] ∧ Dig ts0.length us ∧ allowB ks (ks.length - t) us (l.drop t) = true ∧ 0 ≤ x ∧ x + indexF ks (ks.length - t) us (l.drop t) = indexF ks ks.length ts0 l) ∧
    s = ⟨[drw ts0 ks, ints l, .ptr 0 0, .i 0, .i 0, .i 0, .sl 2 0 ks.length 1, ints us, .i x, .i t, v10, .b true, .b false, v13, v14, v15], σ⟩) ?_ 0 (Nat.zero_le _) ⟨σ0, _, ts0, 0, _, _, _, _, ⟨K0_tabR htab, r0, ⟨rfl, hok.tr⟩, hal, Int.le_refl _, by simp⟩, by rw [he0]; rfl⟩
  rintro t s htl ⟨σ, K, us, x, v10, v13, v14, v15, ⟨hT, hr0, hd, hat, hx0, heq⟩, rfl⟩
  by_cases h : t < l.length
  rotate_left
  · have hte : t = l.length := by omega
    subst hte
    have heq : x = indexF ks ks.length ts0 l := by
      rw [show ks.length - l.length = 0 by omega] at heq
      simpa [indexF] using heq
    simp only [ic31l1, Int.ofNat_lt, h, heq, evA, if_true, if_false, reduceIte, Nat.reduceAdd, Nat.reduceMul, Nat.reduceSub, Nat.reduceLeDiff, Nat.reduceEqDiff, Nat.reduceBEq, Nat.reduceBNe, Int.reduceAdd, Int.reduceMul, Int.reduceSub, Int.reduceLT, Int.reduceGT, Int.reduceGE, Int.reduceLE, Int.reduceEq, Int.reduceNeg, Int.reduceToNat, reduceCtorEq, beq_false, Int.reduceBEq, Int.reduceBNe]
    exact (by (try dsimp only); repeat (first | exact trivial | rfl | exact frz_ints_nl | (apply frz_ints (fun _ => trivial); first | rfl | (simp [rowOf]; done)) | constructor | simp only [frzA]))
  obtain ⟨r, hr⟩ : ∃ r, ks.length - t = r + 1 := ⟨ks.length - t - 1, by omega⟩
  have hrt : ks.length - (r + 1) = t := by omega
  have htk : t < ks.length := by omega
  have hlt := hrng t h
  rw [hr, drop_cons l h] at hat heq
  obtain ⟨z, hz⟩ : ∃ z : Nat, l[t]?.getD 0 = (z : Int) := ⟨(l[t]?.getD 0).toNat, (Int.toNat_of_nonneg hlt.1).symm⟩
  rw [hz] at hat heq
  simp only [allowB, Int.toNat_natCast, Bool.and_eq_true, decide_eq_true_eq, hrt] at hat
  simp only [indexF, Int.toNat_natCast] at heq
  obtain ⟨⟨hzu, hzc⟩, hrest⟩ := hat
  have hu6 : us.length ≤ 6 := by rw [hd.1]; exact h6.2
  have hrb := indexF_bounds ks r (lessF us z) (l.drop (t + 1)) (by simp; omega) (fun y hy => hmem y (List.mem_of_mem_drop hy)) hrest
  obtain ⟨S, hS, hS62, hSn⟩ := bits_ok hok htk
  simp only [ic31l1, Int.ofNat_lt, h, evA, if_true, if_false, reduceIte, Nat.reduceAdd, Nat.reduceMul, Nat.reduceSub, Nat.reduceLeDiff, Nat.reduceEqDiff, Nat.reduceBEq, Nat.reduceBNe, Int.reduceAdd, Int.reduceMul, Int.reduceSub, Int.reduceLT, Int.reduceGT, Int.reduceGE, Int.reduceLE, Int.reduceEq, Int.reduceNeg, Int.reduceToNat, reduceCtorEq, beq_false, Int.reduceBEq, Int.reduceBNe]
  refine IL_for z (fun i s => ∃ σ K v14 v15, (TabR ts0 ks σ 2 K ∧ rowOf σ 0 = some [ints ts0, ints ks]) ∧
    s = ⟨[drw ts0 ks, ints l, .ptr 0 0, .i 0, .i 0, .i 0, .sl 2 0 ks.length 1, ints us, .i (x + preF ks r us i), .i t, .i i, .b true, .b false, .b true, v14, v15], σ⟩) ?_ 0 (Nat.zero_le _) ⟨σ, K, _, _, ⟨hT, hr0⟩, by rw [preF_zero, Int.add_zero]; rfl⟩
  clear hT hr0
  rintro i s hi ⟨σ, K, v14, v15, ⟨hT, hr0⟩, rfl⟩
  have hlz : l.getD t 0 = (z : Int) := by rw [List.getD_eq_getElem?_getD]; exact hz
  by_cases hil : i < z
  rotate_left
  · have hie : i = z := by omega
    subst hie
    have hdz := hd.2 i hzu
    have hpos : us[i]?.getD 0 > 0 := by
      simp only [canB, Bool.and_eq_true, decide_eq_true_eq] at hzc; exact hzc.1
    have h61 := c61 us i (by omega) hzu (by omega)
    have hwt : IntKind.i64.wrap ((t : Int) + 1) = ((t + 1 : Nat) : Int) := by rw [wrap_in (by omega)]; rfl
    simp only [ic31l0, Int.ofNat_lt, hil, h, hz, evA, if_true, if_false, reduceIte, Nat.reduceAdd, Nat.reduceMul, Nat.reduceSub, Nat.reduceLeDiff, Nat.reduceEqDiff, Nat.reduceBEq, Nat.reduceBNe, Int.reduceAdd, Int.reduceMul, Int.reduceSub, Int.reduceLT, Int.reduceGT, Int.reduceGE, Int.reduceLE, Int.reduceEq, Int.reduceNeg, Int.reduceToNat, reduceCtorEq, beq_false, Int.reduceBEq, Int.reduceBNe]
    refine h61.call (by (try dsimp only); repeat (first | exact trivial | rfl | exact frz_ints_nl | (apply frz_ints (fun _ => trivial); first | rfl | (simp [rowOf]; done)) | constructor | simp only [frzA])) ?_
    simp only [hwt, evA, if_true, if_false, reduceIte, Nat.reduceAdd, Nat.reduceMul, Nat.reduceSub, Nat.reduceLeDiff, Nat.reduceEqDiff, Nat.reduceBEq, Nat.reduceBNe, Int.reduceAdd, Int.reduceMul, Int.reduceSub, Int.reduceLT, Int.reduceGT, Int.reduceGE, Int.reduceLE, Int.reduceEq, Int.reduceNeg, Int.reduceToNat, reduceCtorEq, beq_false, Int.reduceBEq, Int.reduceBNe]
    refine kFor_go (by first | trivial | omega) ⟨σ, K, lessF us i, x + preF ks r us i, _, _, _, _, ⟨hT, hr0, dig_less hd hzu hzc, ?_, ?_, ?_⟩, rfl⟩
    · rw [show ks.length - (t + 1) = r by omega]; exact hrest
    · have := preF_nonneg ks r us i; omega
    · rw [show ks.length - (t + 1) = r by omega]; omega
  have hiu : i < us.length := by omega
  have hcan : canB ks us t i = (decide (us[i]?.getD 0 > 0) && !S.testBit i) := by unfold canB; rw [hSn]
  have hdi := hd.2 i hiu
  have hps := preF_succ ks r us i
  rw [hrt] at hps
  have hwi : IntKind.i64.wrap ((i : Int) + 1) = ((i + 1 : Nat) : Int) := by rw [wrap_in (by omega)]; rfl
  have next : canB ks us t i = false → preF ks r us (i + 1) = preF ks r us i := fun hc => by
    rw [hc] at hps; simpa using hps
  by_cases hp : us[i]?.getD 0 > 0
  rotate_left
  · have hc : canB ks us t i = false := by rw [hcan]; simp [hp]
    simp only [ic31l0, Int.ofNat_lt, hil, h, hz, hiu, hp, hwi, evA, if_true, if_false, reduceIte, Nat.reduceAdd, Nat.reduceMul, Nat.reduceSub, Nat.reduceLeDiff, Nat.reduceEqDiff, Nat.reduceBEq, Nat.reduceBNe, Int.reduceAdd, Int.reduceMul, Int.reduceSub, Int.reduceLT, Int.reduceGT, Int.reduceGE, Int.reduceLE, Int.reduceEq, Int.reduceNeg, Int.reduceToNat, reduceCtorEq, beq_false, Int.reduceBEq, Int.reduceBNe]
    exact kFor_go (by first | trivial | omega) ⟨σ, K, _, _, ⟨hT, hr0⟩, by rw [next hc]⟩
  simp only [ic31l0, Int.ofNat_lt, hil, h, hz, hiu, hp, hr0, htk, hS, evA, if_true, if_false, reduceIte, Nat.reduceAdd, Nat.reduceMul, Nat.reduceSub, Nat.reduceLeDiff, Nat.reduceEqDiff, Nat.reduceBEq, Nat.reduceBNe, Int.reduceAdd, Int.reduceMul, Int.reduceSub, Int.reduceLT, Int.reduceGT, Int.reduceGE, Int.reduceLE, Int.reduceEq, Int.reduceNeg, Int.reduceToNat, reduceCtorEq, beq_false, Int.reduceBEq, Int.reduceBNe]
  refine (c45 S i hS62 (by omega)).call (by (try dsimp only); repeat (first | exact trivial | rfl | exact frz_ints_nl | (apply frz_ints (fun _ => trivial); first | rfl | (simp [rowOf]; done)) | constructor | simp only [frzA])) ?_
  cases hbt : S.testBit i
  rotate_left
  · have hc : canB ks us t i = false := by rw [hcan, hbt]; simp
    simp only [hwi, evA, if_true, if_false, reduceIte, Nat.reduceAdd, Nat.reduceMul, Nat.reduceSub, Nat.reduceLeDiff, Nat.reduceEqDiff, Nat.reduceBEq, Nat.reduceBNe, Int.reduceAdd, Int.reduceMul, Int.reduceSub, Int.reduceLT, Int.reduceGT, Int.reduceGE, Int.reduceLE, Int.reduceEq, Int.reduceNeg, Int.reduceToNat, reduceCtorEq, beq_false, Int.reduceBEq, Int.reduceBNe]
    exact kFor_go (by first | trivial | omega) ⟨σ, K, _, _, ⟨hT, hr0⟩, by rw [next hc]⟩
  have hc : canB ks us t i = true := by rw [hcan, hbt]; simp [hp]
  rw [hc, if_pos rfl] at hps
  have hdl := dig_less hd hiu hc
  obtain ⟨K', h56, hT', hKl⟩ := hT.call hok r (lessF us i) (by omega) hdl
  have h61 := c61 us i (by omega) hiu (by omega)
  rw [show ks.length - r = t + 1 by omega] at h56
  have hco := callOk_put (σ := σ) (b := 2) (K := K') (waysF ks r (lessF us i))
  have hwt : IntKind.i64.wrap ((t : Int) + 1) = ((t + 1 : Nat) : Int) := by rw [wrap_in (by omega)]; rfl
  have hr0' : rowOf (putTab σ 2 K') 0 = some [ints ts0, ints ks] := by rw [putTab_lo (by omega)]; exact hr0
  have hpm := preF_mono ks r us (show i + 1 ≤ z by omega)
  have hpn := preF_nonneg ks r us i
  have hsum : IntKind.i64.wrap (x + preF ks r us i + waysF ks r (lessF us i)) = x + preF ks r us (i + 1) := by
    rw [hps] at hpm ⊢
    have := waysF_nonneg ks r (lessF us i)
    generalize 6 ^ ks.length = p1 at *
    rw [wrap_in (by omega)]; omega
  simp only [evA, if_true, if_false, reduceIte, Nat.reduceAdd, Nat.reduceMul, Nat.reduceSub, Nat.reduceLeDiff, Nat.reduceEqDiff, Nat.reduceBEq, Nat.reduceBNe, Int.reduceAdd, Int.reduceMul, Int.reduceSub, Int.reduceLT, Int.reduceGT, Int.reduceGE, Int.reduceLE, Int.reduceEq, Int.reduceNeg, Int.reduceToNat, reduceCtorEq, beq_false, Int.reduceBEq, Int.reduceBNe]
  refine DW_s [7] [] hmix (by kernel_rfl) rfl ?_
  simp only [hr0, hwt, evA, if_true, if_false, reduceIte, Nat.reduceAdd, Nat.reduceMul, Nat.reduceSub, Nat.reduceLeDiff, Nat.reduceEqDiff, Nat.reduceBEq, Nat.reduceBNe, Int.reduceAdd, Int.reduceMul, Int.reduceSub, Int.reduceLT, Int.reduceGT, Int.reduceGE, Int.reduceLE, Int.reduceEq, Int.reduceNeg, Int.reduceToNat, reduceCtorEq, beq_false, Int.reduceBEq, Int.reduceBNe]
  refine kK_keep (h61.call (by (try dsimp only); repeat (first | exact trivial | rfl | exact frz_ints_nl | (apply frz_ints (fun _ => trivial); first | rfl | (simp [rowOf]; done)) | constructor | simp only [frzA])) ⟨rfl, rfl⟩) rfl ?_
  simp only [evA, if_true, if_false, reduceIte, Nat.reduceAdd, Nat.reduceMul, Nat.reduceSub, Nat.reduceLeDiff, Nat.reduceEqDiff, Nat.reduceBEq, Nat.reduceBNe, Int.reduceAdd, Int.reduceMul, Int.reduceSub, Int.reduceLT, Int.reduceGT, Int.reduceGE, Int.reduceLE, Int.reduceEq, Int.reduceNeg, Int.reduceToNat, reduceCtorEq, beq_false, Int.reduceBEq, Int.reduceBNe]
  refine kK_turn h56 hco ?_
  simp only [hsum, hwi, evA, if_true, if_false, reduceIte, Nat.reduceAdd, Nat.reduceMul, Nat.reduceSub, Nat.reduceLeDiff, Nat.reduceEqDiff, Nat.reduceBEq, Nat.reduceBNe, Int.reduceAdd, Int.reduceMul, Int.reduceSub, Int.reduceLT, Int.reduceGT, Int.reduceGE, Int.reduceLE, Int.reduceEq, Int.reduceNeg, Int.reduceToNat, reduceCtorEq, beq_false, Int.reduceBEq, Int.reduceBNe]
  exact kFor_go (by first | trivial | omega) ⟨_, K', _, _, ⟨hT', hr0'⟩, rfl⟩

theorem c31_err (ts ks l : List Int) (ht : ts.length < 2 ^ 63) (hk : ks.length < 2 ^ 63) {x y e : Int} (hv : checkV ts ks = tup3 x y e) (he : e ≠ 0) : PC Try.prog 31 [drw ts ks, ints l] (.tup [.i 0, .i e]) := by
  refine ⟨AC_FE (fok31 true) (Nat.le_of_ble_eq_true rfl) ?_, rfl⟩
  have hb := bneI_true he
  have hb2 := beqI_false he
  have hc25 := c25 ts ks ht hk
  rw [hv] at hc25
  simp only [ic31, f_box, cellsOf, evA, if_true, if_false, reduceIte, Nat.reduceAdd, Nat.reduceMul, Nat.reduceSub, Nat.reduceLeDiff, Nat.reduceEqDiff, Nat.reduceBEq, Nat.reduceBNe, Int.reduceAdd, Int.reduceMul, Int.reduceSub, Int.reduceLT, Int.reduceGT, Int.reduceGE, Int.reduceLE, Int.reduceEq, Int.reduceNeg, Int.reduceToNat, reduceCtorEq, beq_false, Int.reduceBEq, Int.reduceBNe]
  refine hc25.call (by (try dsimp only); repeat (first | exact trivial | rfl | exact frz_ints_nl | (apply frz_ints (fun _ => trivial); first | rfl | (simp [rowOf]; done)) | constructor | simp only [frzA])) ?_
  simp only [hb, hb2, evA, if_true, if_false, reduceIte, Nat.reduceAdd, Nat.reduceMul, Nat.reduceSub, Nat.reduceLeDiff, Nat.reduceEqDiff, Nat.reduceBEq, Nat.reduceBNe, Int.reduceAdd, Int.reduceMul, Int.reduceSub, Int.reduceLT, Int.reduceGT, Int.reduceGE, Int.reduceLE, Int.reduceEq, Int.reduceNeg, Int.reduceToNat, reduceCtorEq, beq_false, Int.reduceBEq, Int.reduceBNe]
  exact (by (try dsimp only); repeat (first | exact trivial | rfl | exact frz_ints_nl | (apply frz_ints (fun _ => trivial); first | rfl | (simp [rowOf]; done)) | constructor | simp only [frzA]))

end Go.Proofs.Ytphdemhopihpnaa.AM

namespace Go.Proofs.Ytphdemhopihpnaa.AM
open Go
set_option linter.unusedVariables false
set_option linter.unusedSimpArgs false

def ia30 : IC := (.seq (.region [⟨(.some 9), none, (.prim .mv), [(.v 19)]⟩])
 (.region [⟨(.some 10), none, (.prim (.alloc [(.cv (.int .i64 0)), (.cv (.int .i64 0)), (.cv (.int .i64 0)), (.cv (.int .i64 0)), (.cv (.int .i64 0)), (.cv (.int .i64 0)), (.cv (.int .i64 0))])), []⟩, ⟨none, none, (.prim (.store 7)), [(.v 10), (.v 20)]⟩]))
def ib30 : IC := (.block 4 (.seq (.seq (.region [⟨none, none, (.prim .mv), [(.v 9)]⟩, ⟨none, none, (.prim .load1), [(.v 7)]⟩, ⟨(.some 21), none, (.prim (.bin .eql .int)), [(.t 0), (.t 1)]⟩])
 (.cond 21 (.seq (.region [⟨none, none, (.prim (.loadN 7)), [(.v 10)]⟩, ⟨none, none, (.prim (.store 7)), [(.v 6), (.t 0)]⟩, ⟨none, none, (.prim (.store 1)), [(.v 8), (.c (.cv (.bool true)))]⟩])
 (.exit 3))
 .skip))
 (.dr [[], [], [], [1, 2], [0, 3], [4, 3, 0, 1, 2, 3, 4]] [⟨none, none, (.prim .load1), [(.v 3)]⟩, ⟨none, none, (.prim .load1), [(.v 5)]⟩, ⟨none, none, (.prim (.loadN 7)), [(.v 10)]⟩, ⟨none, none, .call, [(.c (.fn (.func 54) [])), (.t 1), (.t 2)]⟩, ⟨none, none, (.prim (.bin .add .int)), [(.t 0), (.t 3)]⟩, ⟨none, none, (.prim (.store 1)), [(.v 3), (.t 4)]⟩])))
theorem ca30 : compC Try.prog vs30 68 (nav [1, 1, 1, 1, 0, 1, 0, 0, 1, 1, 0, 0, 1, 1, 0, 1, 0, 2] (Try.f30.body.getD .skip)) = some ia30 := by kernel_rfl
theorem cb30 : compC Try.prog vs30 68 (nav [1, 1, 1, 1, 0, 1, 0, 0, 1, 1, 0, 0, 1, 1, 0, 1, 0, 3] (Try.f30.body.getD .skip)) = some ib30 := by kernel_rfl

structure ISt (ts0 ks l : List Int) (t : Nat) (σ : List AObj) (K : Memo) (us : List Int) (x : Int) : Prop where
  len : 7 ≤ σ.length
  o1 : σ[1]? = some (.cells [.i x])
  o3 : σ[3]? = some (.map (rendK K))
  o4 : σ[4]? = some (.cells [ints ts0, ints ks, .map 3])
  o5 : σ[5]? = some (.cells [.ptr 4 0])
  o6 : σ[6]? = some (.cells (keyCs t us))
  cl : Cl σ
  kr : RightQ ks ts0.length K
  ud : Dig ts0.length us
  xb : 0 ≤ x ∧ x + waysF ks (ks.length - t) us ≤ waysF ks ks.length ts0
  al : allowB ks ks.length ts0 l = allowB ks (ks.length - t) us (l.drop t)
  eq : indexF ks ks.length ts0 l = x + indexF ks (ks.length - t) us (l.drop t)

theorem c30_ok (ts0 ks l : List Int) (ht : ts0.length < 2 ^ 63) (hk : ks.length < 2 ^ 63) (hl : l.length < 2 ^ 62) (hok : DrawOk ts0 ks) : PC Try.prog 30 [drw ts0 ks, ints l] (indexV ts0 ks l) := by
  refine ⟨AC_FE (fok30 true) (Nat.le_of_ble_eq_true rfl) ?_, indexV_cl ..⟩
  have h6 := hok.tl
  have hk8 := hok.kl
  have h53 := c53f ts0 ks ht hk (checkV_ok hok) [AObj.cells [ints ts0, ints ks], AObj.cells [.i 0]]
  simp only [List.length_cons, List.length_nil, Nat.reduceAdd] at h53
  simp only [ic30, f_box, cellsOf, evA, if_true, if_false, reduceIte, Nat.reduceAdd, Nat.reduceMul, Nat.reduceSub, Nat.reduceLeDiff, Nat.reduceEqDiff, Nat.reduceBEq, Nat.reduceBNe, Int.reduceAdd, Int.reduceMul, Int.reduceSub, Int.reduceLT, Int.reduceGT, Int.reduceGE, Int.reduceLE, Int.reduceEq, Int.reduceNeg, Int.reduceToNat, reduceCtorEq, beq_false, Int.reduceBEq, Int.reduceBNe]
  refine AC.run h53 ?_
  have hwn : IntKind.i64.wrap ((ts0.length : Int) - 1) = (ts0.length : Int) - 1 := wrap_in (by omega)
  by_cases hlen : l.length = ks.length
  rotate_left
  · have hb := bneI_true (a := (l.length : Int)) (b := (ks.length : Int)) (by omega)
    have hv : indexV ts0 ks l = .tup [.i 0, .i 3] := by unfold indexV; rw [if_pos hlen]
    simp only [hb, hv, evA, if_true, if_false, reduceIte, Nat.reduceAdd, Nat.reduceMul, Nat.reduceSub, Nat.reduceLeDiff, Nat.reduceEqDiff, Nat.reduceBEq, Nat.reduceBNe, Int.reduceAdd, Int.reduceMul, Int.reduceSub, Int.reduceLT, Int.reduceGT, Int.reduceGE, Int.reduceLE, Int.reduceEq, Int.reduceNeg, Int.reduceToNat, reduceCtorEq, beq_false, Int.reduceBEq, Int.reduceBNe]
    exact (by (try dsimp only); repeat (first | exact trivial | rfl | exact frz_ints_nl | (apply frz_ints (fun _ => trivial); first | rfl | (simp [rowOf]; done)) | constructor | simp only [frzA]))
  have hb := bneI_false (a := (l.length : Int)) (b := (ks.length : Int)) (by omega)
  simp only [hb, hwn, evA, if_true, if_false, reduceIte, Nat.reduceAdd, Nat.reduceMul, Nat.reduceSub, Nat.reduceLeDiff, Nat.reduceEqDiff, Nat.reduceBEq, Nat.reduceBNe, Int.reduceAdd, Int.reduceMul, Int.reduceSub, Int.reduceLT, Int.reduceGT, Int.reduceGE, Int.reduceLE, Int.reduceEq, Int.reduceNeg, Int.reduceToNat, reduceCtorEq, beq_false, Int.reduceBEq, Int.reduceBNe]
  refine (c47 0 ((ts0.length : Int) - 1) l (by omega)).call (by (try dsimp only); repeat (first | exact trivial | rfl | exact frz_ints_nl | (apply frz_ints (fun _ => trivial); first | rfl | (simp [rowOf]; done)) | constructor | simp only [frzA])) ?_
  cases ho : outF 0 ((ts0.length : Int) - 1) l
  rotate_left
  · have hv : indexV ts0 ks l = .tup [.i 0, .i 4] := by
      unfold indexV
      rw [if_neg (by simpa using hlen), if_pos]
      cases hf : firstBad 0 ((ts0.length : Int) - 1) l with
      | some i => rfl
      | none =>
        have := outF_false.2 (fun j hj => firstBad_iff hf j hj)
        rw [this] at ho; cases ho
    simp only [hv, evA, if_true, if_false, reduceIte, Nat.reduceAdd, Nat.reduceMul, Nat.reduceSub, Nat.reduceLeDiff, Nat.reduceEqDiff, Nat.reduceBEq, Nat.reduceBNe, Int.reduceAdd, Int.reduceMul, Int.reduceSub, Int.reduceLT, Int.reduceGT, Int.reduceGE, Int.reduceLE, Int.reduceEq, Int.reduceNeg, Int.reduceToNat, reduceCtorEq, beq_false, Int.reduceBEq, Int.reduceBNe]
    exact (by (try dsimp only); repeat (first | exact trivial | rfl | exact frz_ints_nl | (apply frz_ints (fun _ => trivial); first | rfl | (simp [rowOf]; done)) | constructor | simp only [frzA]))
  have hn : firstBad 0 ((ts0.length : Int) - 1) l = none := firstBad_none fun j hj => outF_false.1 ho j hj
  have hrng := rng_of hn
  have hv : indexV ts0 ks l = if allowB ks ks.length ts0 l then .tup [.i (indexF ks ks.length ts0 l), .i 0] else .tup [.i 0, .i 2] := by
    unfold indexV; rw [if_neg (by simpa using hlen), hn, if_neg (by simp)]
  rw [hv]
  simp only [evA, if_true, if_false, reduceIte, Nat.reduceAdd, Nat.reduceMul, Nat.reduceSub, Nat.reduceLeDiff, Nat.reduceEqDiff, Nat.reduceBEq, Nat.reduceBNe, Int.reduceAdd, Int.reduceMul, Int.reduceSub, Int.reduceLT, Int.reduceGT, Int.reduceGE, Int.reduceLE, Int.reduceEq, Int.reduceNeg, Int.reduceToNat, reduceCtorEq, beq_false, Int.reduceBEq, Int.reduceBNe]
  refine AC.run (c55 4 ts0 [ints ks, .map 3] [AObj.cells [ints ts0, ints ks], AObj.cells [.i 0], AObj.cells [ints ts0, ints ks], AObj.map [], AObj.cells [ints ts0, ints ks, .map 3], AObj.cells [.ptr 4 0]] rfl h6.2) ?_
  have hp6 := pad6_len h6.2
  have hsr : ∀ x : AV, setRange [x, .cv (.int .i64 0), .cv (.int .i64 0), .cv (.int .i64 0), .cv (.int .i64 0), .cv (.int .i64 0), .cv (.int .i64 0)] 1 ((pad6 ts0).map AV.i) = x :: (pad6 ts0).map AV.i := fun x => setRange_1 (by simp [hp6])
  have hwT := waysF_bounds ks ks.length ts0 h6.2
  have hk68 : 6 ^ ks.length ≤ 6 ^ 8 := Nat.pow_le_pow_right (by omega) (by omega)
  simp only [cellsOf, hp6, isSc_ints, hsr, evA, if_true, if_false, reduceIte, Nat.reduceAdd, Nat.reduceMul, Nat.reduceSub, Nat.reduceLeDiff, Nat.reduceEqDiff, Nat.reduceBEq, Nat.reduceBNe, Int.reduceAdd, Int.reduceMul, Int.reduceSub, Int.reduceLT, Int.reduceGT, Int.reduceGE, Int.reduceLE, Int.reduceEq, Int.reduceNeg, Int.reduceToNat, reduceCtorEq, beq_false, Int.reduceBEq, Int.reduceBNe]
  refine IL_for l.length (fun t s => ∃ σ K us x, ISt ts0 ks l t σ K us x ∧ s = ⟨[drw ts0 ks, ints l, .ptr 0 0, .ptr 1 0, .i 0, .ptr 5 0, .ptr 6 0, .undef, .undef, .undef, .undef, .b false, .b false, .b false, ints l, .i l.length, .i t, .undef, .undef, .undef, .undef, .undef, .undef], σ⟩) ?_ 0 (Nat.zero_le _) ⟨_, [], ts0, 0, ⟨by simp, rfl, rfl, rfl, rfl, rfl, ?_, right_nil _ _, ⟨rfl, hok.tr⟩, ⟨Int.le_refl _, by simp⟩, by simp, by simp⟩, rfl⟩
  rotate_left
  · intro l' o ho
    match l', ho with
    | 0, ho | 1, ho | 2, ho | 4, ho | 5, ho => cases ho; rfl
    | 3, ho => cases ho; rfl
    | 6, ho => cases ho; exact objIn_key _ 0 ts0
  rintro t s htl ⟨σ, K, us, x, hP, rfl⟩
  by_cases h : t < l.length
  rotate_left
  · have hte : t = l.length := by omega
    subst hte
    have r1 := rowOf_get hP.o1
    have hst := set_same hP.o1
    have hal := hP.al
    have heq := hP.eq
    rw [show ks.length - l.length = 0 by omega] at hal heq
    simp only [List.drop_length, allowB, indexF, Int.add_zero] at hal heq
    rw [hal, if_pos rfl, heq]
    simp only [ic30l0, Int.ofNat_lt, h, r1, hst, evA, if_true, if_false, reduceIte, Nat.reduceAdd, Nat.reduceMul, Nat.reduceSub, Nat.reduceLeDiff, Nat.reduceEqDiff, Nat.reduceBEq, Nat.reduceBNe, Int.reduceAdd, Int.reduceMul, Int.reduceSub, Int.reduceLT, Int.reduceGT, Int.reduceGE, Int.reduceLE, Int.reduceEq, Int.reduceNeg, Int.reduceToNat, reduceCtorEq, beq_false, Int.reduceBEq, Int.reduceBNe]
    exact (by (try dsimp only); repeat (first | exact trivial | rfl | exact frz_ints_nl | (apply frz_ints (fun _ => trivial); first | rfl | (simp [rowOf]; done)) | constructor | simp only [frzA]))
  obtain ⟨r, hr⟩ : ∃ r, ks.length - t = r + 1 := ⟨ks.length - t - 1, by omega⟩
  have hrt : ks.length - (r + 1) = t := by omega
  have hu6 : us.length ≤ 6 := by rw [hP.ud.1]; exact h6.2
  have hup6 := pad6_len hu6
  have hutk : ((pad6 us).map AV.i).take 6 = (pad6 us).map AV.i := List.take_of_length_le (by simp [hup6])
  have hlt := hrng t h
  obtain ⟨z, hz⟩ : ∃ z : Nat, l[t]?.getD 0 = (z : Int) := ⟨(l[t]?.getD 0).toNat, (Int.toNat_of_nonneg hlt.1).symm⟩
  have hzu : z < us.length := by have := hP.ud.1; omega
  have hN7 := hP.len
  obtain ⟨σ2, hσ2⟩ : ∃ σ2 : List AObj, σ2 = σ ++ [AObj.cells [.i z], AObj.cells [.b false]] := ⟨_, rfl⟩
  have h2lo : ∀ k, k < σ.length → σ2[k]? = σ[k]? := fun k hk => by rw [hσ2, List.getElem?_append_left hk]
  have r5 : rowOf σ2 5 = some [.ptr 4 0] := rowOf_get ((h2lo 5 (by omega)).trans hP.o5)
  have r6 : rowOf σ2 6 = some (keyCs t us) := rowOf_get ((h2lo 6 (by omega)).trans hP.o6)
  have q1 := rowOf_last σ [.cv (.int .i64 0)]
  have q2 := rowOf_last (σ ++ [AObj.cells [.cv (.int .i64 z)]]) [.cv (.bool false)]
  have hse : ∀ x y : AObj, (σ ++ [x]).set σ.length y = σ ++ [y] := fun x y => by simp
  have hse2 : ∀ x y : AObj, ((σ ++ [AObj.cells [.cv (.int .i64 z)]]) ++ [x]).set (σ ++ [AObj.cells [.cv (.int .i64 z)]]).length y = σ ++ [AObj.cells [.i z], y] := fun x y => by simp
  simp only [ic30l0, Int.ofNat_lt, h, hz, q1, q2, hse, hse2, evA, if_true, if_false, reduceIte, Nat.reduceAdd, Nat.reduceMul, Nat.reduceSub, Nat.reduceLeDiff, Nat.reduceEqDiff, Nat.reduceBEq, Nat.reduceBNe, Int.reduceAdd, Int.reduceMul, Int.reduceSub, Int.reduceLT, Int.reduceGT, Int.reduceGE, Int.reduceLE, Int.reduceEq, Int.reduceNeg, Int.reduceToNat, reduceCtorEq, beq_false, Int.reduceBEq, Int.reduceBNe]
  rw [← hσ2]
  have hl1 : (σ ++ [AObj.cells [.cv (.int .i64 z)]]).length = σ.length + 1 := by simp
  simp only [hl1, r5, r6, hup6, hutk, evA, if_true, if_false, reduceIte, Nat.reduceAdd, Nat.reduceMul, Nat.reduceSub, Nat.reduceLeDiff, Nat.reduceEqDiff, Nat.reduceBEq, Nat.reduceBNe, Int.reduceAdd, Int.reduceMul, Int.reduceSub, Int.reduceLT, Int.reduceGT, Int.reduceGE, Int.reduceLE, Int.reduceEq, Int.reduceNeg, Int.reduceToNat, reduceCtorEq, beq_false, Int.reduceBEq, Int.reduceBNe]
  refine AC.run (c60 4 t us σ2 hu6) ?_
  simp only [evA, if_true, if_false, reduceIte, Nat.reduceAdd, Nat.reduceMul, Nat.reduceSub, Nat.reduceLeDiff, Nat.reduceEqDiff, Nat.reduceBEq, Nat.reduceBNe, Int.reduceAdd, Int.reduceMul, Int.reduceSub, Int.reduceLT, Int.reduceGT, Int.reduceGE, Int.reduceLE, Int.reduceEq, Int.reduceNeg, Int.reduceToNat, reduceCtorEq, beq_false, Int.reduceBEq, Int.reduceBNe]
  refine RW_s (gf := 75) (cap := [.ptr σ2.length 0, .ptr (σ2.length + 1) 0]) rfl (Nat.le_of_ble_eq_true rfl) (fun l h => by cases h) ?_
  generalize hRR : newLoop _ _ _ _ _ = R
  have e1 : R.vars = vs30 := by rw [← hRR]; rfl
  have e2 : R.ntmps = 68 := by rw [← hRR]; rfl
  have e3 : R.params = [53, 54] := by rw [← hRR]; rfl
  have e4 : R.vals = [drw ts0 ks, ints l, .ptr 0 0, .ptr 1 0, .i 0, .ptr 5 0, .ptr 6 0, .ptr σ.length 0, .ptr (σ.length + 1) 0, .undef, .undef, .b false, .b false, .b false, ints l, .i l.length, .i t, .b true, .fn (.func 75) [.ptr σ2.length 0, .ptr (σ2.length + 1) 0], .undef, .undef, .undef, .undef] := by rw [← hRR]; rfl
  have e5 : R.state = .ready := by rw [← hRR]; rfl
  have e6 : R.pending = none := by rw [← hRR]; rfl
  have e7 : compC Try.prog vs30 68 R.assign = some ia30 := by rw [← hRR]; exact ca30
  have e8 : compC Try.prog vs30 68 R.body = some ib30 := by rw [← hRR]; exact cb30
  have e9 : ({ { R with state := .busy, pending := none } with state := .ready, pending := none } : ALoop) = R := by
    clear hRR; cases R; simp_all
  clear hRR
  have hN2 : σ2.length = σ.length + 2 := by rw [hσ2]; simp
  have hz2 : σ2[σ.length]? = some (.cells [.i z]) := by rw [hσ2, List.getElem?_append_right (Nat.le_refl _), Nat.sub_self]; rfl
  have hf2 : σ2[σ.length + 1]? = some (.cells [.b false]) := by rw [hσ2, List.getElem?_append_right (by omega), Nat.add_sub_cancel_left]; rfl
  have hcl2 : Cl σ2 := by
    rw [hσ2, show [AObj.cells [.i z], AObj.cells [.b false]] = [AObj.cells [.i z]] ++ [AObj.cells [.b false]] from rfl, ← List.append_assoc]
    exact (hP.cl.push (show objIn _ (AObj.cells [.i z]) = true from rfl)).push (show objIn _ (AObj.cells [.b false]) = true from rfl)
  have p1 : σ2[1]? = some (.cells [.i x]) := (h2lo 1 (by omega)).trans hP.o1
  have p3 : σ2[3]? = some (.map (rendK K)) := (h2lo 3 (by omega)).trans hP.o3
  have p4 : σ2[4]? = some (.cells [ints ts0, ints ks, .map 3]) := (h2lo 4 (by omega)).trans hP.o4
  have p5 : σ2[5]? = some (.cells [.ptr 4 0]) := (h2lo 5 (by omega)).trans hP.o5
  have p6 : σ2[6]? = some (.cells (keyCs t us)) := (h2lo 6 (by omega)).trans hP.o6
  have hlen2 : (σ2 ++ [AObj.cells [.ptr 4 0], AObj.cells (keyCs t us)]).length = σ2.length + 2 := by simp
  have hrk : r + 1 ≤ ks.length := by omega
  have hQL := waysQL_pre (ks := ks) (r := r) (us := us) (K := K) hrk hP.ud hP.kr
  obtain ⟨X, hX⟩ : ∃ X : Nat → AObj, ∀ i, X i = .cells (keyCs (t + 1) (lessF us i)) := ⟨_, fun _ => rfl⟩
  obtain ⟨G, hG⟩ : ∃ G : Nat → List AObj, ∀ i, G i = (σ2.set 3 (.map (rendK (waysQL ks r us K i).2))).set 1 (.cells [.i (x + preF ks r us i)]) := ⟨_, fun _ => rfl⟩
  obtain ⟨H, hH⟩ : ∃ H : Nat → List AObj, ∀ i, H i = G i ++ [AObj.cells [.ptr 4 0], .cells (keyCs t us), .loop R] := ⟨_, fun _ => rfl⟩
  have hG0 : G 0 = σ2 := by
    rw [hG, preF_zero, Int.add_zero]
    have : (waysQL ks r us K 0).2 = K := rfl
    rw [this, set_same p3, set_same p1]
  have hGl : ∀ i, (G i).length = σ2.length := fun i => by rw [hG]; simp
  have hHl : ∀ i, (H i).length = σ2.length + 3 := fun i => by rw [hH]; simp [hGl]
  have hGn : ∀ i l, l ≠ 1 → l ≠ 3 → (G i)[l]? = σ2[l]? := fun i l h1 h3 => by
    rw [hG, List.getElem?_set_ne (by omega), List.getElem?_set_ne (by omega)]
  have hHlo : ∀ i l, l < σ2.length → (H i)[l]? = (G i)[l]? := fun i l hl => by rw [hH, List.getElem?_append_left (by rw [hGl]; exact hl)]
  have hHhi : ∀ i k, (H i)[σ2.length + k]? = [AObj.cells [.ptr 4 0], .cells (keyCs t us), .loop R][k]? := fun i k => by
    rw [hH, List.getElem?_append_right (by rw [hGl]; omega), hGl, Nat.add_sub_cancel_left]
  have hap2 : ∀ (n : Nat) (L : List AObj) (k : Nat), σ2.length + 3 ≤ k → (H n ++ L)[k]? = L[k - (σ2.length + 3)]? := fun n L k h => by rw [List.getElem?_append_right (by rw [hHl]; exact h), hHl]
  have hG3 : ∀ i, (G i)[3]? = some (.map (rendK (waysQL ks r us K i).2)) := fun i => by
    rw [hG, List.getElem?_set_ne (by omega), List.getElem?_set_self (by omega)]
  have hG1 : ∀ i, (G i)[1]? = some (.cells [.i (x + preF ks r us i)]) := fun i => by
    rw [hG, List.getElem?_set_self (by simp; omega)]
  have hRin : ∀ n, σ2.length + 3 ≤ n → objIn n (.loop R) = true := fun n hn => by
    simp [objIn, e4, locsInAll, locsIn]
    omega
  have hGcl : ∀ i, Cl (G i) := fun i => by
    rw [hG]
    exact (hcl2.set 3 (objIn_rend _ _)).set 1 rfl
  have hHcl : ∀ i, Cl (H i) := fun i => by
    rw [hH, show [AObj.cells [.ptr 4 0], .cells (keyCs t us), .loop R] = [AObj.cells [.ptr 4 0]] ++ [AObj.cells (keyCs t us)] ++ [AObj.loop R] from rfl, ← List.append_assoc, ← List.append_assoc]
    refine (((hGcl i).push ?_).push (objIn_key _ _ _)).push (hRin _ (by simp [hGl]))
    simp [objIn, locsInAll, locsIn, hGl]; omega
  have hG0' : (σ2 ++ [AObj.cells [.ptr 4 0], AObj.cells (keyCs t us)]) ++ [AObj.loop R] = H 0 := by rw [hH, hG0]; simp
  rw [hG0', hlen2]
  obtain ⟨go, hgo⟩ : ∃ go : Nat → Bool, ∀ i, go i = !decide (i = z) := ⟨_, fun _ => rfl⟩
  obtain ⟨T2, hT2⟩ : ∃ T2 : Nat → List AObj, ∀ i, T2 i = ((H i ++ [X i]) ++ [X i]).set (σ2.length + 2) (.loop { R with state := .busy, pending := none }) := ⟨_, fun _ => rfl⟩
  obtain ⟨F, hF⟩ : ∃ F : Nat → List AObj, ∀ i, F i = (((T2 i).set 6 (X i)).set (σ.length + 1) (.cells [.b true])).set (σ2.length + 2) (.loop { R with state := .done, pending := some (.exit 3) }) := ⟨_, fun _ => rfl⟩
  have hT2l : ∀ i, (T2 i).length = σ2.length + 5 := fun i => by rw [hT2]; simp [hHl]
  have hT2cl : ∀ i, Cl (T2 i) := fun i => by
    rw [hT2]
    refine Cl.set (Cl.push (Cl.push (hHcl i) ?_) ?_) (σ2.length + 2) ?_
    · rw [hX]; exact objIn_key _ _ _
    · rw [hX]; exact objIn_key _ _ _
    · simp only [List.length_append, List.length_cons, List.length_nil, hHl]
      exact hRin _ (by omega)
  have hFcl : ∀ i, Cl (F i) := fun i => by
    rw [hF]
    refine Cl.set (Cl.set (Cl.set (hT2cl i) 6 ?_) (σ.length + 1) rfl) (σ2.length + 2) ?_
    · rw [hX]; exact objIn_key _ _ _
    · simp only [List.length_set, hT2l]
      exact hRin _ (by omega)
  have hFl : ∀ i, (F i).length = σ2.length + 5 := fun i => by rw [hF]; simp [hT2l]
  have hHt : ∀ i l, l < σ2.length → (T2 i)[l]? = (G i)[l]? := fun i l hl => by
    rw [hT2, List.getElem?_set_ne (by omega), List.append_assoc, List.getElem?_append_left (by rw [hHl]; omega), hHlo i l hl]
  refine (c75 ts0 ks us (.map 3) σ2.length (σ2.length + 1) 4 (σ2.length + 2) t H F go hok hP.ud.1 hP.ud.2 (by omega) (fun i hi => ?_) (by rw [hHl]; omega) (fun i hi hc => ?_) (fun i hi hc hb => ?_) (fun i hi hc hb hg => ?_)).mono ?_
  · refine ⟨by rw [hHl, hHl], rowOf_get (hHhi i 0), rowOf_get ?_, rowOf_get (hHhi i 1), fun o ho => ?_⟩
    · rw [hHlo i 4 (by omega), hGn i 4 (by omega) (by omega)]; exact p4
    · have := (hHcl i).mem o ho
      rwa [hHl i, ← hHl 0] at this
  · rw [hH, hH, hG, hG, waysQL_succ, preF_succ, hrt, hc]
    simp
  · have hdi := dig_less hP.ud hi hc
    have hQi := hQL i (by omega)
    have h54 := fun (τ : List AObj) h1 h2 => c54f ts0 ks hok r (lessF us i) (waysQL ks r us K i).2 (by omega) hdi hQi.2 (σ := τ) 4 3 (by omega) h1 h2
    have hsucc := waysQL_succ ks r us K i
    rw [hrt, hc, if_pos rfl] at hsucc
    have hK' : (waysQ ks r (lessF us i) (waysQL ks r us K i).2).2 = (waysQL ks r us K (i + 1)).2 := by rw [hsucc]
    rw [hK', show ks.length - r = t + 1 by omega] at h54
    have hgi := hgo i
    have hXi := hX i
    have hT2i := hT2 i
    have hps := preF_succ ks r us i
    rw [hrt, hc, if_pos rfl] at hps
    have hFi := hF i
    have hpm := preF_mono ks r us (show i + 1 ≤ us.length by omega)
    have hpf := preF_full ks r us
    have hpn := preF_nonneg ks r us i
    have hwn2 := waysF_nonneg ks r (lessF us i)
    rw [hXi] at hT2i hFi
    show YC _ _ [.i i, keyV (t + 1) (lessF us i)] (H i ++ [.cells (keyCs (t + 1) (lessF us i))]) fun v τ => v = .b (go i) ∧ τ = if go i then H (i + 1) ++ [AObj.cells (keyCs (t + 1) (lessF us i))] else F i
    have hp62 : (pad6 (lessF us i)).length = 6 := pad6_len (by simpa using hu6)
    generalize lessF us i = us' at *
    have body : ∀ Q : AV → List AObj → Prop, (go i = true → Q (.b true) (H (i + 1) ++ [AObj.cells (keyCs (t + 1) us')] ++ [AObj.cells (keyCs (t + 1) us')])) → (go i = false → Q (.b false) (F i)) → YC Try.prog (σ2.length + 2) [.i i, keyV (t + 1) us'] (H i ++ [AObj.cells (keyCs (t + 1) us')]) Q := by
      intro Q kq1 kq2
      have x53 : vs30.idxOf? 53 = some 19 := by decide
      have x54 : vs30.idxOf? 54 = some 20 := by decide
      have htk2 : ((pad6 us').map AV.i).take 6 = (pad6 us').map AV.i := List.take_of_length_le (by simp [hp62])
      have hsr2 : ∀ x : AV, setRange [x, .cv (.int .i64 0), .cv (.int .i64 0), .cv (.int .i64 0), .cv (.int .i64 0), .cv (.int .i64 0), .cv (.int .i64 0)] 1 ((pad6 us').map AV.i) = x :: (pad6 us').map AV.i := fun x => setRange_1 (by simp [hp62])
      obtain ⟨B, hB⟩ : ∃ B, B = H i ++ [AObj.cells (keyCs (t + 1) us')] := ⟨_, rfl⟩
      have hBl : B.length = σ2.length + 4 := by rw [hB]; simp [hHl]
      have hBH : ∀ l, l < σ2.length + 3 → B[l]? = (H i)[l]? := fun l hl => by rw [hB, List.getElem?_append_left (by rw [hHl]; exact hl)]
      have hBr : B[σ2.length + 2]? = some (.loop R) := by rw [hBH _ (by omega), hHhi i 2]; rfl
      rw [← hB]
      refine YC_IS (r := R) ia30 ib30 hBr e5 (by rw [e3]; rfl) (by rw [e1, e2, e3]; rfl) (by rw [e1, e2]; exact e7) (by rw [e1, e2]; exact e8) ?_
      rw [e1, e2, e3, e4]
      have ql := fun cs => rowOf_last B cs
      simp only [ia30, putPars, x53, x54, cellsOf, hp62, isSc_ints, hsr2, ql, set_end, kAsg_n, evA, if_true, if_false, reduceIte, Nat.reduceAdd, Nat.reduceMul, Nat.reduceSub, Nat.reduceLeDiff, Nat.reduceEqDiff, Nat.reduceBEq, Nat.reduceBNe, Int.reduceAdd, Int.reduceMul, Int.reduceSub, Int.reduceLT, Int.reduceGT, Int.reduceGE, Int.reduceLE, Int.reduceEq, Int.reduceNeg, Int.reduceToNat, reduceCtorEq, beq_false, Int.reduceBEq, Int.reduceBNe]
      refine ⟨R, by rw [List.getElem?_append_left (by omega)]; exact hBr, e5, ?_⟩
      rw [e6]
      have hT1 : setLoop (B ++ [AObj.cells (keyCs (t + 1) us')]) (σ2.length + 2) R .busy none = T2 i := by rw [hT2i, hB]; rfl
      have hlit : (AObj.cells (AV.i ((t + 1 : Nat) : Int) :: (pad6 us').map AV.i)) = AObj.cells (keyCs (t + 1) us') := rfl
      rw [hT1]
      have ty : (T2 i)[σ2.length + 4]? = some (.cells (keyCs (t + 1) us')) := by
        rw [hT2i, List.getElem?_set_ne (by omega), List.append_assoc, hap2 _ _ _ (by omega)]
        rw [show σ2.length + 4 - (σ2.length + 3) = 1 by omega]; rfl
      have tr : (T2 i)[σ2.length + 2]? = some (.loop { R with state := .busy, pending := none }) := by
        rw [hT2i, List.getElem?_set_self (by simp [hHl])]
      have tz := rowOf_get ((hHt i σ.length (by omega)).trans ((hGn i σ.length (by omega) (by omega)).trans hz2))
      have ta := rowOf_get ((hHt i (σ.length + 1) (by omega)).trans ((hGn i (σ.length + 1) (by omega) (by omega)).trans hf2))
      have t1 := rowOf_get ((hHt i 1 (by omega)).trans (hG1 i))
      have t5 := rowOf_get ((hHt i 5 (by omega)).trans ((hGn i 5 (by omega) (by omega)).trans p5))
      have t6 := rowOf_get ((hHt i 6 (by omega)).trans ((hGn i 6 (by omega) (by omega)).trans p6))
      have t3 := (hHt i 3 (by omega)).trans (hG3 i)
      have t4 := (hHt i 4 (by omega)).trans ((hGn i 4 (by omega) (by omega)).trans p4)
      have ty' := rowOf_get ty
      simp only [ib30, tz, evA, if_true, if_false, reduceIte, Nat.reduceAdd, Nat.reduceMul, Nat.reduceSub, Nat.reduceLeDiff, Nat.reduceEqDiff, Nat.reduceBEq, Nat.reduceBNe, Int.reduceAdd, Int.reduceMul, Int.reduceSub, Int.reduceLT, Int.reduceGT, Int.reduceGE, Int.reduceLE, Int.reduceEq, Int.reduceNeg, Int.reduceToNat, reduceCtorEq, beq_false, Int.reduceBEq, Int.reduceBNe]
      by_cases hiz : i = z
      · subst hiz
        have hgf : go i = false := by rw [hgi]; simp
        have kq2 := kq2 hgf
        have hbe := beqI_true (a := (i : Int)) rfl
        have ta' : ∀ y, rowOf ((T2 i).set 6 y) (σ.length + 1) = some [.b false] := fun y => by rw [rowOf_set_ne (by omega)]; exact ta
        have hsr5 : setRange (.i (t : Int) :: (pad6 us).map AV.i) 0 (.i ((t + 1 : Nat) : Int) :: (pad6 us').map AV.i) = .i ((t + 1 : Nat) : Int) :: (pad6 us').map AV.i := setRange_0 (by simp [hp62, hup6])
        have hsr6 : setRange (.i ((t + 1 : Nat) : Int) :: (pad6 us).map AV.i) 1 ((pad6 us').map AV.i) = .i ((t + 1 : Nat) : Int) :: (pad6 us').map AV.i := setRange_1 (by simp [hp62, hup6])
        simp only [hbe, ty', hBl, t6, ta', hp62, htk2, hup6, cellsOf, isSc_ints, hsr5, hsr6, evA, if_true, if_false, reduceIte, Nat.reduceAdd, Nat.reduceMul, Nat.reduceSub, Nat.reduceLeDiff, Nat.reduceEqDiff, Nat.reduceBEq, Nat.reduceBNe, Int.reduceAdd, Int.reduceMul, Int.reduceSub, Int.reduceLT, Int.reduceGT, Int.reduceGE, Int.reduceLE, Int.reduceEq, Int.reduceNeg, Int.reduceToNat, reduceCtorEq, beq_false, Int.reduceBEq, Int.reduceBNe]
        rw [kRnd_x]
        refine ⟨{ R with state := .busy, pending := none }, ?_, ?_⟩
        · rw [List.getElem?_set_ne (by omega), List.getElem?_set_ne (by omega)]; exact tr
        · rw [hFi] at kq2
          exact kq2
      · have hgf : go i = true := by rw [hgi]; simp [hiz]
        have kq1 := kq1 hgf
        have hbe := beqI_false (a := (i : Int)) (b := (z : Int)) (by omega)
        have hsum : IntKind.i64.wrap (x + preF ks r us i + waysF ks r us') = x + preF ks r us (i + 1) := by
          have h2 := hP.xb
          rw [hr, hpf] at h2
          rw [hps] at hpm ⊢
          generalize 6 ^ ks.length = p1 at *
          rw [wrap_in (by omega)]; omega
        simp only [hbe, evA, if_true, if_false, reduceIte, Nat.reduceAdd, Nat.reduceMul, Nat.reduceSub, Nat.reduceLeDiff, Nat.reduceEqDiff, Nat.reduceBEq, Nat.reduceBNe, Int.reduceAdd, Int.reduceMul, Int.reduceSub, Int.reduceLT, Int.reduceGT, Int.reduceGE, Int.reduceLE, Int.reduceEq, Int.reduceNeg, Int.reduceToNat, reduceCtorEq, beq_false, Int.reduceBEq, Int.reduceBNe]
        refine DW_s [] [(0, 3)] hmix (by kernel_rfl) rfl ?_
        simp only [t1, t5, ty', hBl, hp62, htk2, evA, if_true, if_false, reduceIte, Nat.reduceAdd, Nat.reduceMul, Nat.reduceSub, Nat.reduceLeDiff, Nat.reduceEqDiff, Nat.reduceBEq, Nat.reduceBNe, Int.reduceAdd, Int.reduceMul, Int.reduceSub, Int.reduceLT, Int.reduceGT, Int.reduceGE, Int.reduceLE, Int.reduceEq, Int.reduceNeg, Int.reduceToNat, reduceCtorEq, beq_false, Int.reduceBEq, Int.reduceBNe]
        refine kK_turn (h54 (T2 i) t4 t3) (callOk_set rfl (objIn_rend _ _)) ?_
        have s1 : rowOf ((T2 i).set 3 (.map (rendK (waysQL ks r us K (i + 1)).2))) 1 = some [.i (x + preF ks r us i)] := by rw [rowOf_set_ne (by omega)]; exact t1
        have s11 : ((T2 i).set 3 (.map (rendK (waysQL ks r us K (i + 1)).2)))[1]? = (T2 i)[1]? := List.getElem?_set_ne (by omega)
        simp only [s1, s11, hsum, evA, if_true, if_false, reduceIte, Nat.reduceAdd, Nat.reduceMul, Nat.reduceSub, Nat.reduceLeDiff, Nat.reduceEqDiff, Nat.reduceBEq, Nat.reduceBNe, Int.reduceAdd, Int.reduceMul, Int.reduceSub, Int.reduceLT, Int.reduceGT, Int.reduceGE, Int.reduceLE, Int.reduceEq, Int.reduceNeg, Int.reduceToNat, reduceCtorEq, beq_false, Int.reduceBEq, Int.reduceBNe]
        rw [kRnd_n]
        refine ⟨{ R with state := .busy, pending := none }, ?_, ?_⟩
        · rw [List.getElem?_set_ne (by omega), List.getElem?_set_ne (by omega)]; exact tr
        have hend : setLoop (((T2 i).set 3 (.map (rendK (waysQL ks r us K (i + 1)).2))).set 1 (AObj.cells [.i (x + preF ks r us (i + 1))])) (σ2.length + 2) { R with state := .busy, pending := none } .ready none = H (i + 1) ++ [AObj.cells (keyCs (t + 1) us')] ++ [AObj.cells (keyCs (t + 1) us')] := by
          have e9' : ({ { R with state := .busy, pending := none } with state := .ready, pending := none } : ALoop) = R := e9
          show (((T2 i).set 3 _).set 1 _).set (σ2.length + 2) (.loop { { R with state := .busy, pending := none } with state := .ready, pending := none }) = _
          rw [e9']
          apply List.ext_getElem?
          intro k
          rcases Nat.lt_trichotomy k (σ2.length + 2) with hk | rfl | hk
          · rw [List.getElem?_set_ne (by omega), List.getElem?_append_left (by simp [hHl]; omega), List.getElem?_append_left (by simp [hHl]; omega)]
            rcases Nat.lt_or_ge k σ2.length with hk2 | hk2
            · rw [hHlo _ k hk2]
              by_cases k1 : k = 1
              · subst k1; rw [List.getElem?_set_self (by simp [hT2l]), hG1]
              · rw [List.getElem?_set_ne (by omega)]
                by_cases k3 : k = 3
                · subst k3; rw [List.getElem?_set_self (by rw [hT2l]; omega), hG3]
                · rw [List.getElem?_set_ne (by omega), hHt _ k hk2, hGn _ k k1 k3, hGn _ k k1 k3]
            · rw [List.getElem?_set_ne (by omega), List.getElem?_set_ne (by omega), hT2i, List.getElem?_set_ne (by omega), List.append_assoc, List.getElem?_append_left (by rw [hHl]; omega)]
              obtain ⟨k', rfl⟩ : ∃ k', k = σ2.length + k' := ⟨k - σ2.length, by omega⟩
              rw [hHhi, hHhi]
          · rw [List.getElem?_set_self (by simp [hT2l]), List.getElem?_append_left (by simp [hHl]), List.getElem?_append_left (by simp [hHl]), hHhi]; rfl
          · rw [List.getElem?_set_ne (by omega), List.getElem?_set_ne (by omega), List.getElem?_set_ne (by omega), hT2i, List.getElem?_set_ne (by omega), List.append_assoc, List.append_assoc, hap2 _ _ k (by omega), hap2 _ _ k (by omega)]
        rw [hend]
        exact kq1
    cases hgi2 : go i
    · simp only [Bool.false_eq_true, if_false]
      exact body _ (fun h => by rw [hgi2] at h; cases h) (fun _ => ⟨rfl, rfl⟩)
    · simp only [if_true]
      refine YC.cut (body _ (fun _ => ⟨rfl, _, rfl⟩) (fun h => by rw [hgi2] at h; cases h)) (by simp [hHl]) rfl (fun l o ho => ?_)
      refine .inr ?_
      have hcl3 : Cl (H (i + 1) ++ [AObj.cells (keyCs (t + 1) us')]) := Cl.push (hHcl _) (objIn_key _ _ _)
      have := hcl3 l o ho
      simpa [hHl] using this
  · refine ⟨rfl, by rw [hFl]; simp [hHl], fun l o ho _ => ⟨hFcl i l o ho, fun hl => ?_⟩⟩
    simp only [List.length_append, List.length_cons, List.length_nil, hHl] at hl
    have hlt3 := (List.getElem?_eq_some_iff.1 ho).1
    rw [hFl] at hlt3
    rw [hF, List.getElem?_set_ne (by omega), List.getElem?_set_ne (by omega), List.getElem?_set_ne (by omega), hT2, List.getElem?_set_ne (by omega), List.append_assoc, hap2 _ _ l (by omega), hX] at ho
    have : l = σ2.length + 3 + 1 := by omega
    subst this
    rw [Nat.add_sub_cancel_left] at ho
    cases ho; trivial
  · have hal := hP.al
    have heq := hP.eq
    rw [hr, drop_cons l h, hz] at hal heq
    simp only [allowB, Int.toNat_natCast, hrt, decide_eq_true hzu, Bool.true_and] at hal
    simp only [indexF, Int.toNat_natCast] at heq
    have hll : l.length < 2 ^ 62 := hl
    have hwt : IntKind.i64.wrap ((t : Int) + 1) = ((t + 1 : Nat) : Int) := by rw [wrap_in (by omega)]; rfl
    rintro vv τ (⟨J, rfl, hall⟩ | ⟨j, rfl, hj, hcj, hgj, hbj⟩)
    · have hcz : canB ks us t z = false := by
        cases hc : canB ks us t z with
        | false => rfl
        | true =>
          have h1 := hall z hzu hc
          rw [hgo z] at h1; simp at h1
      rw [hcz, Bool.false_and] at hal
      refine ⟨R, ?_, (by rw [e5]; intro h; cases h), ?_⟩
      · rw [List.getElem?_append_left (by rw [hHl]; omega), hHhi]; rfl
      rw [e6]
      obtain ⟨Z, hZ⟩ : ∃ Z, Z = setLoop (H us.length ++ J) (σ2.length + 2) R .exhausted none := ⟨_, rfl⟩
      have hZlo : ∀ k, k < σ2.length → Z[k]? = (G us.length)[k]? := fun k hk => by
        rw [hZ]; simp only [setLoop]
        rw [List.getElem?_set_ne (by omega), List.getElem?_append_left (by rw [hHl]; omega), hHlo _ k hk]
      have za := rowOf_get ((hZlo (σ.length + 1) (by omega)).trans ((hGn _ (σ.length + 1) (by omega) (by omega)).trans hf2))
      have z1 := rowOf_get ((hZlo 1 (by omega)).trans (hG1 us.length))
      have zs1 := fun cs => rowOf_set_self (cs' := cs) z1
      dsimp only
      rw [hal, ← hZ]
      simp only [za, z1, zs1, evA, if_true, if_false, reduceIte, Nat.reduceAdd, Nat.reduceMul, Nat.reduceSub, Nat.reduceLeDiff, Nat.reduceEqDiff, Nat.reduceBEq, Nat.reduceBNe, Int.reduceAdd, Int.reduceMul, Int.reduceSub, Int.reduceLT, Int.reduceGT, Int.reduceGE, Int.reduceLE, Int.reduceEq, Int.reduceNeg, Int.reduceToNat, reduceCtorEq, beq_false, Int.reduceBEq, Int.reduceBNe]
      exact (by (try dsimp only); repeat (first | exact trivial | rfl | exact frz_ints_nl | (apply frz_ints (fun _ => trivial); first | rfl | (simp [rowOf]; done)) | constructor | simp only [frzA]))
    · have hjz : j = z := by
        have := hgo j
        rw [hgj] at this
        simpa using this.symm
      subst hjz
      have hdl := dig_less hP.ud hj hcj
      rw [hcj, Bool.true_and] at hal
      have hps := preF_succ ks r us j
      rw [hrt, if_pos hcj] at hps
      have hpm := preF_mono ks r us (show j + 1 ≤ us.length by omega)
      have hpf := preF_full ks r us
      have hpn := preF_nonneg ks r us j
      have hFr : (F j)[σ2.length + 2]? = some (.loop { R with state := .done, pending := some (.exit 3) }) := by
        rw [hF, List.getElem?_set_self (by simp [hT2l])]
      have hFlo : ∀ k, k < σ2.length → k ≠ 6 → k ≠ σ.length + 1 → (F j)[k]? = (G j)[k]? := fun k hk h6' ha => by
        rw [hF, List.getElem?_set_ne (by omega), List.getElem?_set_ne (by omega), List.getElem?_set_ne (by omega), hHt j k hk]
      have hFa : (F j)[σ.length + 1]? = some (.cells [.b true]) := by
        rw [hF, List.getElem?_set_ne (by omega), List.getElem?_set_self (by simp [hT2l]; omega)]
      have hF6 : (F j)[6]? = some (X j) := by
        rw [hF, List.getElem?_set_ne (by omega), List.getElem?_set_ne (by omega), List.getElem?_set_self (by simp [hT2l]; omega)]
      refine ⟨_, hFr, by simp, ?_⟩
      show W _ _ (.exit 3) _ _
      refine W_exit ?_
      obtain ⟨Z, hZ⟩ : ∃ Z, Z = setLoop (F j) (σ2.length + 2) { R with state := .done, pending := some (.exit 3) } .exhausted (some (.exit 3)) := ⟨_, rfl⟩
      have hZg : ∀ k, k < σ2.length → Z[k]? = (F j)[k]? := fun k hk => by
        rw [hZ]; simp only [setLoop]
        rw [List.getElem?_set_ne (by omega)]
      have hZl : Z.length = σ2.length + 5 := by rw [hZ]; simp [setLoop, hFl]
      have hZcl : Cl Z := by
        rw [hZ]; simp only [setLoop]
        refine Cl.set (hFcl j) _ ?_
        rw [hFl]
        exact hRin _ (by omega)
      have za := rowOf_get ((hZg (σ.length + 1) (by omega)).trans hFa)
      rw [← hZ]
      simp only [za, hwt, evA, if_true, if_false, reduceIte, Nat.reduceAdd, Nat.reduceMul, Nat.reduceSub, Nat.reduceLeDiff, Nat.reduceEqDiff, Nat.reduceBEq, Nat.reduceBNe, Int.reduceAdd, Int.reduceMul, Int.reduceSub, Int.reduceLT, Int.reduceGT, Int.reduceGE, Int.reduceLE, Int.reduceEq, Int.reduceNeg, Int.reduceToNat, reduceCtorEq, beq_false, Int.reduceBEq, Int.reduceBNe]
      refine kFor_weak (by first | trivial | omega) (Weak.undef (vals' := [drw ts0 ks, ints l, .ptr 0 0, .ptr 1 0, .i 0, .ptr 5 0, .ptr 6 0, .undef, .undef, .undef, .undef, .b false, .b false, .b false, ints l, .i l.length, .i ((t + 1 : Nat) : Int), .undef, .undef, .undef, .undef, .undef, .undef]) ⟨.inl rfl, .inl rfl, .inl rfl, .inl rfl, .inl rfl, .inl rfl, .inl rfl, .inr rfl, .inr rfl, .inr rfl, .inr rfl, .inl rfl, .inl rfl, .inl rfl, .inl rfl, .inl rfl, .inl rfl, .inr rfl, .inr rfl, .inr rfl, .inr rfl, .inr rfl, .inr rfl, trivial⟩)
        ⟨Z, (waysQL ks r us K j).2, lessF us j, x + preF ks r us j, ⟨by omega, ?_, ?_, ?_, ?_, ?_, hZcl, (hQL j (by omega)).2, hdl, ?_, ?_, ?_⟩, rfl⟩
      · rw [hZg 1 (by omega), hFlo 1 (by omega) (by omega) (by omega)]; exact hG1 j
      · rw [hZg 3 (by omega), hFlo 3 (by omega) (by omega) (by omega)]; exact hG3 j
      · rw [hZg 4 (by omega), hFlo 4 (by omega) (by omega) (by omega), hGn j 4 (by omega) (by omega)]; exact p4
      · rw [hZg 5 (by omega), hFlo 5 (by omega) (by omega) (by omega), hGn j 5 (by omega) (by omega)]; exact p5
      · rw [hZg 6 (by omega), hF6, hX]
      · rw [show ks.length - (t + 1) = r by omega]
        have := hP.xb
        rw [hr, hpf] at this
        omega
      · rw [hal, show ks.length - (t + 1) = r by omega]
      · rw [heq, show ks.length - (t + 1) = r by omega]; omega

theorem c30_err (ts ks l : List Int) (ht : ts.length < 2 ^ 63) (hk : ks.length < 2 ^ 63) {x y e : Int} (hv : checkV ts ks = tup3 x y e) (he : e ≠ 0) : PC Try.prog 30 [drw ts ks, ints l] (.tup [.i 0, .i e]) := by
  refine ⟨AC_FE (fok30 true) (Nat.le_of_ble_eq_true rfl) ?_, rfl⟩
  have hb := bneI_true he
  have h53 := c53f ts ks ht hk hv [AObj.cells [ints ts, ints ks], AObj.cells [.i 0]]
  simp only [List.length_cons, List.length_nil, Nat.reduceAdd] at h53
  simp only [ic30, f_box, cellsOf, evA, if_true, if_false, reduceIte, Nat.reduceAdd, Nat.reduceMul, Nat.reduceSub, Nat.reduceLeDiff, Nat.reduceEqDiff, Nat.reduceBEq, Nat.reduceBNe, Int.reduceAdd, Int.reduceMul, Int.reduceSub, Int.reduceLT, Int.reduceGT, Int.reduceGE, Int.reduceLE, Int.reduceEq, Int.reduceNeg, Int.reduceToNat, reduceCtorEq, beq_false, Int.reduceBEq, Int.reduceBNe]
  refine AC.run h53 ?_
  simp only [hb, evA, if_true, if_false, reduceIte, Nat.reduceAdd, Nat.reduceMul, Nat.reduceSub, Nat.reduceLeDiff, Nat.reduceEqDiff, Nat.reduceBEq, Nat.reduceBNe, Int.reduceAdd, Int.reduceMul, Int.reduceSub, Int.reduceLT, Int.reduceGT, Int.reduceGE, Int.reduceLE, Int.reduceEq, Int.reduceNeg, Int.reduceToNat, reduceCtorEq, beq_false, Int.reduceBEq, Int.reduceBNe]
  exact (by (try dsimp only); repeat (first | exact trivial | rfl | exact frz_ints_nl | (apply frz_ints (fun _ => trivial); first | rfl | (simp [rowOf]; done)) | constructor | simp only [frzA]))

end Go.Proofs.Ytphdemhopihpnaa.AM


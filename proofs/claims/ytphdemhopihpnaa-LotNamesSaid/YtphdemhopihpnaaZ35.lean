/- Parts of the proof, joined: AmAt to AmAt. -/
import Derived.Test.YtphdemhopihpnaaZ34

namespace Go.Proofs.Ytphdemhopihpnaa.AM
open Go
set_option linter.unusedVariables false
set_option linter.unusedSimpArgs false

/-- where the places of the small heap lie: those of the list; what is made, behind -/
def atF (gl : List Nat) (N : Nat) (l : Nat) : Nat := if l < gl.length then gl.getD l 0 else N + (l - gl.length)

/-- objects put at places; those that are left, behind -/
def putL (σ : List AObj) : List Nat → List AObj → List AObj
  | l :: ls, o :: os => putL (σ.set l o) ls os
  | [], os => σ ++ os
  | _ :: _, [] => σ

def AtOk (σ : List AObj) (g : Nat → Nat) (n : Nat) : List Nat → List AObj → Prop
  | l :: ls, o :: os => (o.live ∧ objIn n o = true ∧ σ[l]? = some (renO g o)) ∧ AtOk σ g n ls os
  | [], [] => True
  | _, _ => False

theorem AtOk.get {σ : List AObj} {g : Nat → Nat} {n : Nat} : ∀ {ls : List Nat} {os : List AObj}, AtOk σ g n ls os → ls.length = os.length ∧ ∀ (k : Nat) (o : AObj), os[k]? = some o → o.live ∧ objIn n o = true ∧ σ[ls.getD k 0]? = some (renO g o)
  | [], [], _ => ⟨rfl, fun k o h => by simp at h⟩
  | l :: ls, o :: os, h => by
    obtain ⟨h1, h2⟩ := h
    obtain ⟨h3, h4⟩ := h2.get
    refine ⟨by simp [h3], fun k o' hk => ?_⟩
    cases k with
    | zero => simp at hk; subst hk; simpa using h1
    | succ k => simpa using h4 k o' (by simpa using hk)
  | [], _ :: _, h => h.elim
  | _ :: _, [], h => h.elim

theorem putL_get : ∀ (gl : List Nat) (os σ : List AObj), gl.Nodup → (∀ l ∈ gl, l < σ.length) → gl.length ≤ os.length →
    (putL σ gl os).length = σ.length + (os.length - gl.length) ∧ (∀ (k l : Nat), gl[k]? = some l → (putL σ gl os)[l]? = os[k]?) ∧ (∀ (l : Nat), l < σ.length → l ∉ gl → (putL σ gl os)[l]? = σ[l]?) ∧ ∀ (j : Nat), (putL σ gl os)[σ.length + j]? = os[gl.length + j]?
  | [], os, σ, _, _, _ => by
    refine ⟨by simp [putL], fun k l h => by simp at h, fun l hl _ => ?_, fun j => ?_⟩
    · simp only [putL]; rw [List.getElem?_append_left hl]
    · simp only [putL]; rw [List.getElem?_append_right (by omega)]; simp
  | g :: gl, [], σ, _, _, h => by simp at h
  | g :: gl, o :: os, σ, hnd, hlt, hle => by
    have hn := List.nodup_cons.1 hnd
    obtain ⟨h1, h2, h3, h4⟩ := putL_get gl os (σ.set g o) hn.2 (fun l hl => by simpa using hlt l (by simp [hl])) (by simpa using hle)
    simp only [putL]
    simp only [List.length_set] at h1 h3 h4
    have hg := hlt g (by simp)
    refine ⟨by rw [h1]; simp, fun k l hk => ?_, fun l hl hm => ?_, fun j => ?_⟩
    · cases k with
      | zero =>
        simp at hk; subst hk
        rw [h3 g hg hn.1, List.getElem?_set_self hg]; rfl
      | succ k => rw [h2 k l (by simpa using hk)]; rfl
    · simp only [List.mem_cons, not_or] at hm
      rw [h3 l hl hm.2, List.getElem?_set_ne (fun h => hm.1 h.symm)]
    · rw [h4 j, show (g :: gl).length + j = (gl.length + j) + 1 by simp; omega]; rfl

theorem live_of_renO {g : Nat → Nat} {o : AObj} (h : (renO g o).live) : o.live := by cases o <;> simp_all [renO, AObj.live]

theorem AC.at {P : Program} {f : FuncId} {args : List AV} {σ0 σ : List AObj} {Q : AV → List AObj → Prop} (gl : List Nat) (h : AC P f args σ0 Q) (hnd : gl.Nodup) (hcl : locsInAll σ0.length args = true)
    (hobj : AtOk σ (atF gl σ.length) σ0.length gl σ0) :
    AC P f (rens (atF gl σ.length) args) σ fun r τ => ∃ r0 τ0, Q r0 τ0 ∧ σ0.length ≤ τ0.length ∧ r = ren (atF gl σ.length) r0 ∧ τ = putL σ gl (τ0.map (renO (atF gl σ.length))) := by
  refine ⟨h.1, fun m X w cargs ha hh => ?_⟩
  obtain ⟨hlen, hget⟩ := hobj.get
  generalize hn0 : σ0.length = n0 at *
  let N := σ.length
  obtain ⟨g, hg⟩ : ∃ g, g = atF gl N := ⟨_, rfl⟩
  rw [← hg] at ha hget ⊢
  have glo : ∀ l, l < n0 → g l = gl.getD l 0 := fun l hl => by rw [hg]; unfold atF; rw [if_pos (by omega)]
  have ghi : ∀ j, g (n0 + j) = N + j := fun j => by rw [hg]; unfold atF; rw [if_neg (by omega)]; omega
  have gmem : ∀ l, l < n0 → gl[l]? = some (g l) := fun l hl => by rw [glo l hl]; simp [List.getD, show l < gl.length by omega]
  have hsome : ∀ l, l < n0 → ∃ o, σ0[l]? = some o := fun l hl => ⟨σ0[l], by simp⟩
  have glt : ∀ l, l < n0 → g l < N := fun l hl => by
    obtain ⟨o, ho⟩ := hsome l hl
    have := (hget l o ho).2.2
    rw [← glo l hl] at this
    exact (List.getElem?_eq_some_iff.1 this).1
  have gobj : ∀ (l : Nat) o, σ0[l]? = some o → l < n0 ∧ o.live ∧ objIn n0 o = true ∧ σ[g l]? = some (renO g o) := fun l o ho => by
    have hl : l < n0 := by rw [← hn0]; exact (List.getElem?_eq_some_iff.1 ho).1
    have := hget l o ho
    rw [← glo l hl] at this
    exact ⟨hl, this⟩
  have glive : ∀ l, l < n0 → ∃ o, σ[g l]? = some o ∧ o.live := fun l hl => by
    obtain ⟨o, ho⟩ := hsome l hl
    have := gobj l o ho
    exact ⟨_, this.2.2.2, renO_live this.2.1⟩
  have ginj : ∀ a b, a < n0 → b < n0 → g a = g b → a = b := fun a b ha hb he => by
    have h1 := gmem a ha
    have h2 := gmem b hb
    rw [← he] at h2
    exact (List.getElem?_inj (by omega) hnd).1 (h1.trans h2.symm)
  -- two places of the heap with one block, both live, are one
  have hone : ∀ l l' b o o', m l = some b → m l' = some b → σ[l]? = some o → σ[l']? = some o' → o.live → o'.live → l = l' := fun l l' b o o' h1 h2 h3 h4 h5 h6 => by
    have := hh.inj l l' b o' h1 h2 h4 h6
    have := hh.inj l' l b o h2 h1 h3 h5
    omega
  let m0 : LM := fun l => if l < n0 then m (g l) else none
  have m0lo : ∀ l, l < n0 → m0 l = m (g l) := fun l hl => by simp only [m0]; rw [if_pos hl]
  have m0s : ∀ l b, m0 l = some b → l < n0 ∧ m (g l) = some b := fun l b hl => by
    simp only [m0] at hl
    split at hl
    · rename_i h; exact ⟨h, hl⟩
    · cases hl
  let X' : Nat → Prop := fun b => Own m X b ∧ ∀ l, l < n0 → m (g l) ≠ some b
  have hown : ∀ b, Own m X b → Own m0 X' b := fun b hb => by
    by_cases hx : ∃ l, l < n0 ∧ m (g l) = some b
    · obtain ⟨l, h1, h2⟩ := hx
      exact .inr ⟨l, by rw [m0lo l h1]; exact h2⟩
    · exact .inl ⟨hb, fun l h1 h2 => hx ⟨l, h1, h2⟩⟩
  have hown' : ∀ b, Own m0 X' b → Own m0 (Own m X) b := fun b hb => hb.elim (fun h => .inl h.1) .inr
  have hown2 : ∀ b, Own m0 (Own m X) b → Own m (Own m X) b := fun b hb => hb.elim .inl (fun ⟨l, hl⟩ => .inr ⟨_, (m0s l b hl).2⟩)
  have hown3 : ∀ b, Own m (Own m X) b → Own m X b := fun b hb => hb.elim id .inr
  have hlt : ∀ b, Own m X b → b < w.heap.size := fun b hb => by
    rcases hb with hb | ⟨l, hl⟩
    · exact hh.xb b hb
    · exact (hh.dom l b hl).2
  have ha0 : VRels m0 X' w args cargs := by
    have hk := VRels.locs (n := N) (fun l b hl => (hh.dom l b hl).1) _ _ ha
    have h1 : VRels m (Own m X) w (rens g args) cargs := VRels.less (k := N) (fun _ _ => rfl) (fun b hb => hown3 b hb) _ _ hk ha
    have h2 : VRels m0 (Own m X) w args cargs := VRels.ren (k := n0) (g := g) (fun l hl => m0lo l hl) (fun b hb => hown2 b hb) _ _ hcl h1
    exact VRels.less (k := n0) (fun _ _ => rfl) hown' _ _ hcl h2
  have hh0 : HRel m0 X' σ0 w := by
    refine ⟨fun b hb => hlt b hb.1, fun l b hl => ?_, fun l b o hl ho hv hx => ?_, fun l l' b o' hl hl' ho' hv => ?_, fun l o ho => ?_⟩
    · obtain ⟨h1, h2⟩ := m0s l b hl
      exact ⟨by rw [hn0]; exact h1, (hh.dom _ b h2).2⟩
    · obtain ⟨h1, h2⟩ := m0s l b hl
      exact hx.2 l h1 h2
    · obtain ⟨h1, h2⟩ := m0s l b hl
      obtain ⟨h1', h2'⟩ := m0s l' b hl'
      obtain ⟨o1, e1, e2⟩ := glive l h1
      obtain ⟨o2, e3, e4⟩ := glive l' h1'
      have := ginj l l' h1 h1' (hone _ _ b o1 o2 h2 h2' e1 e3 e2 e4)
      omega
    · obtain ⟨h1, h2, h3, h4⟩ := gobj l o ho
      rw [m0lo l h1]
      have hor := hh.obj _ _ h4
      cases hml : m (g l) with
      | none => rw [hml] at hor; cases o <;> simp [ORel, renO] at hor ⊢
      | some b =>
        rw [hml] at hor
        have hk : objIn N (renO g o) = true := hh.closed _ _ h4
        have h1 : ORel m (Own m X) w (some b) (renO g o) := ORel.less (k := N) (fun _ _ => rfl) (fun b hb => hown3 b hb) hk hor
        have h2 : ORel m0 (Own m X) w (some b) o := ORel.ren (k := n0) (g := g) (fun l hl => m0lo l hl) (fun b hb => hown2 b hb) h3 h1
        exact ORel.less (k := n0) (fun _ _ => rfl) hown' h3 h2
  refine (h.2 m0 X' w cargs ha0 hh0).mono ?_
  rintro e w' ⟨c, r0, τ0, m', rfl, hQ, hv, hh', hst, hle⟩
  rw [hn0] at hst hle
  let m2 : LM := fun l => if l < N then m l else m' (n0 + (l - N))
  have m2lo : ∀ l, l < N → m2 l = m l := fun l hl => by simp only [m2]; rw [if_pos hl]
  have m2hi : ∀ j, m2 (N + j) = m' (n0 + j) := fun j => by simp only [m2]; rw [if_neg (by omega), Nat.add_sub_cancel_left]
  have mk : ∀ l, l < n0 → m' l = m (g l) := fun l hl => by rw [hst.keep l hl, m0lo l hl]
  have m2s : ∀ l b, m2 l = some b → (l < N ∧ m l = some b) ∨ (∃ j, l = N + j ∧ m' (n0 + j) = some b) := fun l b hl => by
    rcases Nat.lt_or_ge l N with h | h
    · exact .inl ⟨h, by rw [← m2lo l h]; exact hl⟩
    · refine .inr ⟨l - N, by omega, ?_⟩
      rw [← m2hi, show N + (l - N) = l by omega]; exact hl
  have hnew : ∀ l b, m' l = some b → (∃ l0, l0 < n0 ∧ m (g l0) = some b) ∨ w.heap.size ≤ b := fun l b hl => by
    rcases hst.new l b hl with ⟨l', hl'⟩ | hge
    · exact .inl ⟨l', m0s l' b hl'⟩
    · exact .inr hge
  have hsame : ∀ b, b < w.heap.size → (∀ l, l < n0 → m (g l) ≠ some b) → w'.heap[b]? = w.heap[b]? := fun b hb hno => hst.fr b hb (.inr fun l hl => by
    obtain ⟨h1, h2⟩ := m0s l b hl
    exact hno l h1 h2)
  have hmap : ∀ l b, m' l = some b → m2 (g l) = some b := fun l b hl => by
    rcases Nat.lt_or_ge l n0 with h | h
    · rw [m2lo _ (glt l h), ← mk l h]; exact hl
    · obtain ⟨j, rfl⟩ : ∃ j, l = n0 + j := ⟨l - n0, by omega⟩
      rw [ghi, m2hi]; exact hl
  have hX' : ∀ b, Own m X b → Own m' X' b := fun b hb => by
    rcases hown b hb with h | ⟨l, hl⟩
    · exact .inl h
    · obtain ⟨h1, h2⟩ := m0s l b hl
      exact .inr ⟨l, by rw [mk l h1]; exact h2⟩
  have how : ∀ b, Own m2 X b → Own m' X' b := by
    rintro b (hx | ⟨l, hl⟩)
    · exact hX' b (.inl hx)
    · rcases m2s l b hl with ⟨_, h⟩ | ⟨j, _, h⟩
      · exact hX' b (.inr ⟨l, h⟩)
      · exact .inr ⟨_, h⟩
  have hXg : ∀ b, X b → ∀ l, l < n0 → m (g l) ≠ some b := fun b hx l hl he => by
    obtain ⟨o, h1, h2⟩ := glive l hl
    exact hh.own _ b o he h1 h2 hx
  obtain ⟨pl, p1, p2, p3⟩ := putL_get gl (τ0.map (renO g)) σ hnd (fun l hl => by
    obtain ⟨k, hk, rfl⟩ := List.mem_iff_getElem.1 hl
    have h1 := glt k (by omega)
    rw [glo k (by omega)] at h1
    simpa [List.getD, hk] using h1) (by rw [List.length_map]; omega)
  generalize hτ : putL σ gl (τ0.map (renO g)) = τ at *
  have τlen : τ.length = N + (τ0.length - n0) := by rw [pl, List.length_map, hlen]
  have τim : ∀ l, l < n0 → τ[g l]? = (τ0[l]?).map (renO g) := fun l hl => by rw [p1 l _ (gmem l hl), List.getElem?_map]
  have τhi : ∀ j, τ[N + j]? = (τ0[n0 + j]?).map (renO g) := fun j => by rw [p3 j, List.getElem?_map, hlen]
  have cls : ∀ (l : Nat) o, τ[l]? = some o → (l < N ∧ (∀ k, k < n0 → g k ≠ l) ∧ σ[l]? = some o) ∨ (∃ k o0, k < n0 ∧ l = g k ∧ τ0[k]? = some o0 ∧ o = renO g o0) ∨ (∃ j o0, l = N + j ∧ τ0[n0 + j]? = some o0 ∧ o = renO g o0) := fun l o ho => by
    rcases Nat.lt_or_ge l N with h | h
    · by_cases hk : ∃ k, k < n0 ∧ l = g k
      · obtain ⟨k, h1, rfl⟩ := hk
        rw [τim k h1, Option.map_eq_some_iff] at ho
        obtain ⟨o0, h2, h3⟩ := ho
        exact .inr (.inl ⟨k, o0, h1, rfl, h2, h3.symm⟩)
      · have hno : ∀ k, k < n0 → g k ≠ l := fun k h1 h2 => hk ⟨k, h1, h2.symm⟩
        refine .inl ⟨h, hno, ?_⟩
        rw [← p2 l h (fun hm => ?_)]
        · exact ho
        · obtain ⟨k, hk1, hk2⟩ := List.mem_iff_getElem.1 hm
          refine hno k (by omega) ?_
          rw [glo k (by omega)]; simp [List.getD, hk1, hk2]
    · obtain ⟨j, rfl⟩ : ∃ j, l = N + j := ⟨l - N, by omega⟩
      rw [τhi j, Option.map_eq_some_iff] at ho
      obtain ⟨o0, h2, h3⟩ := ho
      exact .inr (.inr ⟨j, o0, rfl, h2, h3.symm⟩)
  refine ⟨c, ren g r0, τ, m2, rfl, ⟨r0, τ0, hQ, hle, rfl, hτ.symm⟩, VRel.shift hmap how r0 c hv, ⟨?_, ?_, ?_, ?_, ?_⟩, ?_, by rw [τlen]; exact Nat.le_add_right _ _⟩
  · exact fun b hb => Nat.lt_of_lt_of_le (hh.xb b hb) hst.size
  · intro l b hl
    rcases m2s l b hl with ⟨h1, h2⟩ | ⟨j, rfl, h2⟩
    · exact ⟨by rw [τlen]; omega, Nat.lt_of_lt_of_le (hh.dom l b h2).2 hst.size⟩
    · have := hh'.dom _ b h2
      exact ⟨by rw [τlen]; omega, this.2⟩
  · intro l b o hl ho hv hx
    rcases cls l o ho with ⟨h1, _, h2⟩ | ⟨k, o0, h1, rfl, h2, h3⟩ | ⟨j, o0, rfl, h2, rfl⟩
    · rw [m2lo l h1] at hl
      exact hh.own l b o hl h2 hv hx
    · rw [m2lo _ (glt k h1)] at hl
      exact hXg b hx k h1 hl
    · rw [m2hi] at hl
      exact hh'.own _ b o0 hl h2 (live_of_renO hv) ⟨.inl hx, hXg b hx⟩
  · intro l l' b o' hl hl' ho' hv
    -- the place l' is live in the new heap
    rcases cls l' o' ho' with ⟨h1, h1n, h2⟩ | ⟨k, o0, h1, rfl, h2, h3⟩ | ⟨j, o0, rfl, h2, rfl⟩
    · rw [m2lo l' h1] at hl'
      rcases m2s l b hl with ⟨g1, g2⟩ | ⟨j, rfl, g2⟩
      · exact hh.inj l l' b o' g2 hl' h2 hv
      · exfalso
        rcases hnew _ b g2 with ⟨l0, q1, q2⟩ | hge
        · obtain ⟨o1, e1, e2⟩ := glive l0 q1
          exact h1n l0 q1 (hone _ _ b o1 o' q2 hl' e1 h2 e2 hv)
        · have := (hh.dom l' b hl').2; omega
    · rw [m2lo _ (glt k h1)] at hl'
      obtain ⟨o1, e1, e2⟩ := glive k h1
      rcases m2s l b hl with ⟨g1, g2⟩ | ⟨j, rfl, g2⟩
      · exact hh.inj l (g k) b o1 g2 hl' e1 e2
      · exfalso
        have hk : m' k = some b := by rw [mk k h1]; exact hl'
        have := hh'.inj (n0 + j) k b o0 g2 hk h2 (live_of_renO (by rw [← h3]; exact hv))
        omega
    · rw [m2hi] at hl'
      rcases m2s l b hl with ⟨g1, g2⟩ | ⟨j', rfl, g2⟩
      · omega
      · have := hh'.inj (n0 + j') (n0 + j) b o0 g2 hl' h2 (live_of_renO hv)
        omega
  · intro l o ho
    rcases cls l o ho with ⟨h1, h1n, h2⟩ | ⟨k, o0, h1, rfl, h2, rfl⟩ | ⟨j, o0, rfl, h2, rfl⟩
    · rw [m2lo l h1]
      have hor := hh.obj l o h2
      by_cases hlv : o.live
      · cases hml : m l with
        | none => rw [hml] at hor; cases o <;> simp [ORel] at hor ⊢
        | some b =>
          rw [hml] at hor
          have hbs := (hh.dom l b hml).2
          have hno : ∀ l0, l0 < n0 → m (g l0) ≠ some b := fun l0 q1 q2 => by
            obtain ⟨o1, e1, e2⟩ := glive l0 q1
            exact h1n l0 q1 (hone _ _ b o1 o q2 hml e1 h2 e2 hlv)
          have hm : Mono m X w m2 X w' := by
            refine ⟨fun l b hl => ?_, fun b hb hc => ⟨hsame b hc.lt (fun l0 _ q2 => hb (.inr ⟨_, q2⟩)), ?_⟩, hst.shp⟩
            · rw [m2lo l (hh.dom l b hl).1]; exact hl
            · rintro (hx | ⟨l, hl⟩)
              · exact hb (.inl hx)
              · rcases m2s l b hl with ⟨_, h⟩ | ⟨j, _, h⟩
                · exact hb (.inr ⟨l, h⟩)
                · rcases hnew _ b h with ⟨l0, q1, q2⟩ | hge
                  · exact hb (.inr ⟨_, q2⟩)
                  · have := hc.lt; omega
          exact ORel.mono hm (hsame b hbs hno) hor
      · cases o <;> simp [AObj.live, ORel] at hlv ⊢
    · have hor := hh'.obj k o0 h2
      rw [m2lo _ (glt k h1), ← mk k h1]
      cases hml : m' k with
      | none => rw [hml] at hor; cases o0 <;> simp [ORel, renO] at hor ⊢
      | some b => rw [hml] at hor; exact ORel.shift hmap how hor
    · have hor := hh'.obj _ o0 h2
      rw [m2hi]
      cases hml : m' (n0 + j) with
      | none => rw [hml] at hor; cases o0 <;> simp [ORel, renO] at hor ⊢
      | some b => rw [hml] at hor; exact ORel.shift hmap how hor
  · refine ⟨fun l hl => m2lo l hl, fun l b hl => ?_, hst.size, fun b hb hx => hsame b hb fun l0 q1 q2 => ?_, hst.shp, hst.os, hst.tape, hst.output, hst.drawn⟩
    · rcases m2s l b hl with ⟨_, h⟩ | ⟨j, _, h⟩
      · exact .inl ⟨l, h⟩
      · rcases hnew _ b h with ⟨l0, q1, q2⟩ | hge
        · exact .inl ⟨_, q2⟩
        · exact .inr hge
    · rcases hx with hx | hx
      · exact hXg b hx l0 q1 q2
      · exact hx _ q2

end Go.Proofs.Ytphdemhopihpnaa.AM


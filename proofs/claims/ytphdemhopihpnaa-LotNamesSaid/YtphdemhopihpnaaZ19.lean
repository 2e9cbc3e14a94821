/- Parts of the proof, joined: AmR to AmR. -/
import Derived.Test.YtphdemhopihpnaaZ18

namespace Go.Proofs.Ytphdemhopihpnaa.AM
open Go
set_option linter.unusedVariables false
set_option linter.unusedSimpArgs false

theorem dst_inj {vars : List Nat} {u : Nat} (huv : u ∉ vars) : ∀ (l : List Oper), ((l.filterMap (·.dst)).filter fun t => !vars.contains t).Nodup → ∀ (a b : Nat), (l[a]?).bind (fun o : Oper => o.dst) = some u → (l[b]?).bind (fun o : Oper => o.dst) = some u → a = b := by
  intro l
  induction l with
  | nil => intro _ a b h; simp at h
  | cons x l ih =>
    intro hn a b h1 h2
    have hmem : ∀ (q : Nat), (l[q]?).bind (fun o : Oper => o.dst) = some u → u ∈ (l.filterMap (·.dst)).filter fun t => !vars.contains t := by
      intro q hq
      cases hlq : l[q]? with
      | none => rw [hlq] at hq; simp at hq
      | some y =>
        rw [hlq] at hq
        refine List.mem_filter.2 ⟨List.mem_filterMap.2 ⟨y, List.mem_of_getElem? hlq, by simpa using hq⟩, by simpa using huv⟩
    cases hx : x.dst with
    | none =>
      simp only [List.filterMap_cons, hx] at hn
      cases a with
      | zero => simp [hx] at h1
      | succ a => cases b with
        | zero => simp [hx] at h2
        | succ b => simp at h1 h2; rw [ih hn a b h1 h2]
    | some tx =>
      simp only [List.filterMap_cons, hx] at hn
      have hn' : ((l.filterMap (·.dst)).filter fun t => !vars.contains t).Nodup := by
        rw [List.filter_cons] at hn; split at hn
        · exact (List.nodup_cons.1 hn).2
        · exact hn
      have hno : tx = u → ∀ q : Nat, (l[q]?).bind (fun o : Oper => o.dst) = some u → False := by
        rintro rfl q hq
        rw [List.filter_cons, if_pos (by simpa using huv)] at hn
        exact (List.nodup_cons.1 hn).1 (hmem q hq)
      cases a with
      | zero =>
        cases b with
        | zero => rfl
        | succ b => simp [hx] at h1; simp at h2; exact (hno h1 b h2).elim
      | succ a =>
        cases b with
        | zero => simp [hx] at h2; simp at h1; exact (hno h2 a h1).elim
        | succ b => simp at h1 h2; rw [ih hn' a b h1 h2]

variable {P : Program} {fx : Fx} {ops : Array Oper} {is : List Ins} {V : Nat → List AV} {r : Nat → AV} {S : Nat → List AObj} {pd : Nat → List Nat} {ch hd : Nat → Nat → Bool}
variable {m : LM} {X : Nat → Prop} {en : Nat} {w : World} {D : List Nat} {ac : Act} {j : Nat}

def mAt (S : Nat → List AObj) (j : Nat) (m : LM) : LM := fun l => if l < (S j).length then m l else none

/-- the blocks that operation j must leave alone: those of places that are hidden from it, or made behind it -/
def xAt (S : Nat → List AObj) (ch hd : Nat → Nat → Bool) (n : Nat) (D : List Nat) (j : Nat) (m : LM) (X : Nat → Prop) : Nat → Prop := fun b =>
  X b ∨ ∃ l, m l = some b ∧ ((S j).length ≤ l ∨ (hd j l = true ∧ ∃ o, (hAt S ch n fun k => decide (k ∈ D))[l]? = some o ∧ o.live))

theorem mAt_some {l b : Nat} (h : mAt S j m l = some b) : l < (S j).length ∧ m l = some b := by
  unfold mAt at h; split at h
  · exact ⟨by assumption, h⟩
  · cases h

theorem own_at {b : Nat} (h : Own (mAt S j m) (xAt S ch hd ops.size D j m X) b) : Own m X b := by
  rcases h with (h | ⟨l, h, _⟩) | ⟨l, h⟩
  · exact .inl h
  · exact .inr ⟨l, h⟩
  · exact .inr ⟨l, (mAt_some h).2⟩

theorem Inv.restrict (h : Free P fx ops is V r S pd ch hd) (inv : Inv fx ops is V r S pd ch X en D m ac w) (hcl0 : ∀ (l : Nat) o, (S 0)[l]? = some o → objIn (S 0).length o = true)
    (hjn : j < ops.size) (hjD : j ∉ D) (hpj : ∀ e ∈ pd j, e ∈ D) : HRel (mAt S j m) (xAt S ch hd ops.size D j m X) (hideL (hd j) (S j)) w := by
  have hle := h.le' (show j ≤ ops.size by omega) (Nat.le_refl _)
  have obj : ∀ (l : Nat) o, (S j)[l]? = some o → hd j l = false → (hAt S ch ops.size fun k => decide (k ∈ D))[l]? = some o := by
    intro l o hl hh
    have hlt : l < (S j).length := (List.getElem?_eq_some_iff.1 hl).1
    rw [hAt_get (by omega), h.oEq hjn inv.inn inv.clos hjD hpj hh, ← h.S_at j (by omega), hl]; rfl
  refine ⟨?_, ?_, ?_, ?_, ?_⟩
  · rintro b (hb | ⟨l, hb, _⟩)
    · exact inv.heap.xb b hb
    · exact (inv.heap.dom l b hb).2
  · intro l b hb
    obtain ⟨h1, h2⟩ := mAt_some hb
    exact ⟨by rw [hideL_length]; exact h1, (inv.heap.dom l b h2).2⟩
  · intro l b o hb ho hv
    obtain ⟨h1, h2⟩ := mAt_some hb
    rw [hideL_get, Option.map_eq_some_iff] at ho
    obtain ⟨o0, ho0, he⟩ := ho
    cases hh : hd j l with
    | true => rw [hh] at he; simp at he; subst he; exact hv.elim
    | false =>
      rw [hh] at he; simp at he; subst he
      have hD := obj l o0 ho0 hh
      rintro (hx | ⟨l', hl', hc⟩)
      · exact inv.heap.own l b o0 h2 hD hv hx
      · rcases hc with hc | ⟨hc1, o', hc2, hc3⟩
        · have := inv.heap.inj l' l b o0 hl' h2 hD hv; omega
        · have := inv.heap.inj2 l l' b o0 o' h2 hl' hD hc2 hv hc3
          subst this; rw [hh] at hc1; cases hc1
  · intro l l' b o' hb hb' ho hv
    obtain ⟨h1, h2⟩ := mAt_some hb
    obtain ⟨h3, h4⟩ := mAt_some hb'
    rw [hideL_get, Option.map_eq_some_iff] at ho
    obtain ⟨o0, ho0, he⟩ := ho
    cases hh : hd j l' with
    | true => rw [hh] at he; simp at he; subst he; exact hv.elim
    | false =>
      rw [hh] at he; simp at he; subst he
      exact inv.heap.inj l l' b o0 h2 h4 (obj l' o0 ho0 hh) hv
  · intro l o ho
    rw [hideL_get, Option.map_eq_some_iff] at ho
    obtain ⟨o0, ho0, he⟩ := ho
    cases hh : hd j l with
    | true => rw [hh] at he; simp at he; subst he; simp [ORel]
    | false =>
      rw [hh] at he; simp at he; subst he
      have hlt : l < (S j).length := (List.getElem?_eq_some_iff.1 ho0).1
      have hr := inv.heap.obj l o0 (obj l o0 ho0 hh)
      have e1 : mAt S j m l = m l := by simp [mAt, hlt]
      rw [e1]
      exact ORel.less (k := (S j).length) (fun x hx => by simp [mAt, hx]) (fun b hb => own_at hb) (h.closedAt hcl0 objIn_mono j (by omega) l o0 ho0) hr

theorem Inv.step (h : Free P fx ops is V r S pd ch hd) (hlen : is.length = ops.size) (hok : regOk fx.vars fx.N ops.toList = true) (inv : Inv fx ops is V r S pd ch X en D m ac w) (hn0 : fx.n0 ≤ (S 0).length)
    (hjn : j < ops.size) (hjD : j ∉ D) (hpj : ∀ e ∈ pd j, e ∈ D) {o : Oper} {i0 : Ins} (ho : ops[j]? = some o) (hi0 : is[j]? = some i0) (hdst : i0.dst = compDst fx.vars o.dst)
    {mj : LM} {w' : World} {c : Value} (hh : HRel mj (xAt S ch hd ops.size D j m X) (hideL (hd j) (S (j + 1))) w') (hst : Step (S j).length (mAt S j m) (xAt S ch hd ops.size D j m X) w mj w')
    (hv : VRel mj (xAt S ch hd ops.size D j m X) w' (r j) c) : ∃ m', Inv fx ops is V r S pd ch X en (j :: D) m' (ac.put o.dst c) w' ∧ Step fx.n0 m X w m' w' := by
  have hle := h.le j hjn
  have hleN := h.le' (show j + 1 ≤ ops.size by omega) (Nat.le_refl _)
  have hle0 := h.le' (Nat.zero_le j) (by omega)
  let m' : LM := fun l => if (S j).length ≤ l ∧ l < (S (j + 1)).length then mj l else m l
  have m'new : ∀ l, (S j).length ≤ l → l < (S (j + 1)).length → m' l = mj l := fun l h1 h2 => by simp [m', h1, h2]
  have m'old : ∀ l, ¬ ((S j).length ≤ l ∧ l < (S (j + 1)).length) → m' l = m l := fun l h1 => by simp only [m', if_neg h1]
  have keepj : ∀ l, l < (S j).length → mj l = m l := fun l hl => by rw [hst.keep l hl]; simp [mAt, hl]
  have m'lo : ∀ l, l < (S (j + 1)).length → m' l = mj l := fun l hl => by
    by_cases h1 : (S j).length ≤ l
    · exact m'new l h1 hl
    · rw [m'old l (by omega), keepj l (by omega)]
  have xsub : ∀ b, X b → xAt S ch hd ops.size D j m X b := fun b hb => .inl hb
  have xlate : ∀ l b, m l = some b → (S j).length ≤ l → xAt S ch hd ops.size D j m X b := fun l b h1 h2 => .inr ⟨l, h1, .inl h2⟩
  have fresh : ∀ l, (S j).length ≤ l → l < (S (j + 1)).length → m l = none := fun l h1 h2 => by
    refine inv.fresh l (by omega) fun k hk hc => ?_
    have hkn := inv.inn k hk
    rcases Nat.lt_trichotomy k j with hlt | he | hgt
    · have := h.le' (show k + 1 ≤ j by omega) (by omega); omega
    · subst he; exact hjD hk
    · have := h.le' (show j + 1 ≤ k by omega) (by omega); omega
  have hmj : ∀ l b, mAt S j m l = some b → m l = some b := fun l b hb => (mAt_some hb).2
  have hst' : Step fx.n0 m X w m' w' :=
    { keep := fun l hl => m'old l (by omega)
      new := fun l b hb => by
        by_cases hr : (S j).length ≤ l ∧ l < (S (j + 1)).length
        · rw [m'new l hr.1 hr.2] at hb
          rcases hst.new l b hb with ⟨l', hl'⟩ | hge
          · exact .inl ⟨l', hmj _ _ hl'⟩
          · exact .inr hge
        · rw [m'old l hr] at hb; exact .inl ⟨l, hb⟩
      size := hst.size
      fr := fun b hb hno => hst.fr b hb (hno.imp (xsub b) fun hno l hl => hno l (hmj _ _ hl))
      shp := hst.shp, os := hst.os, tape := hst.tape, output := hst.output, drawn := hst.drawn }
  have MM : Mono m X w m' X w' :=
    { sub := fun l b hb => by
        by_cases hr : (S j).length ≤ l ∧ l < (S (j + 1)).length
        · rw [fresh l hr.1 hr.2] at hb; cases hb
        · rw [m'old l hr]; exact hb
      cl := fun b hb hc => by
        refine ⟨hst.fr b hc.lt (.inr fun l hl => hb (.inr ⟨l, hmj _ _ hl⟩)), ?_⟩
        rintro (hx | ⟨l, hl⟩)
        · exact hb (.inl hx)
        · rcases hst'.new l b hl with ⟨l', hl'⟩ | hge
          · exact hb (.inr ⟨l', hl'⟩)
          · have := hc.lt; omega
      shp := hst.shp }
  have hjdom : ∀ l b, mj l = some b → l < (S (j + 1)).length := fun l b hb => by have := (hh.dom l b hb).1; rwa [hideL_length] at this
  have MJ : Mono mj (xAt S ch hd ops.size D j m X) w' m' X w' :=
    { sub := fun l b hb => by rw [m'lo l (hjdom l b hb)]; exact hb
      cl := fun b hb hc => by
        refine ⟨rfl, ?_⟩
        rintro (hx | ⟨l, hl⟩)
        · exact hb (.inl (xsub b hx))
        · by_cases hlt : l < (S (j + 1)).length
          · rw [m'lo l hlt] at hl; exact hb (.inr ⟨l, hl⟩)
          · rw [m'old l (by omega)] at hl; exact hb (.inl (xlate l b hl (by omega)))
      shp := fun b c e hb => ⟨c, hb, rfl⟩ }
  -- WHICH OBJECT LIES WHERE
  have chNew : ∀ l, (S j).length ≤ l → l < (S (j + 1)).length → ch j l = true := fun l h1 h2 => by
    cases hc : ch j l with
    | true => rfl
    | false =>
      have := h.nch j hjn l hc
      rw [List.getElem?_eq_none h1, List.getElem?_eq_getElem h2] at this; cases this
  have oCh : ∀ l, ch j l = true → oAt S ch ops.size (fun k => decide (k ∈ j :: D)) l = (S (j + 1))[l]? := fun l hc => by
    have : lastOf (fun k => decide (k ∈ j :: D) && ch k l) ops.size = some j := by
      refine lastOf_top hjn (by simp [hc]) fun k hk hkn => ?_
      cases hck : ch k l with
      | false => simp
      | true =>
        simp only [Bool.and_true, decide_eq_false_iff_not, List.mem_cons, not_or]
        refine ⟨by omega, fun hkD => ?_⟩
        by_cases h1 : k ∈ pd j
        · have := h.pdlt j hjn k h1; omega
        · by_cases h2 : j ∈ pd k
          · exact hjD (inv.clos k hkD j h2)
          · have := h.un j k hjn hkn (by omega) h1 h2 l hck
            rw [h.mine j hjn l hc] at this; cases this
    simp only [oAt, this]
  have oNc : ∀ l, ch j l = false → oAt S ch ops.size (fun k => decide (k ∈ j :: D)) l = oAt S ch ops.size (fun k => decide (k ∈ D)) l := fun l hc => by
    have : lastOf (fun k => decide (k ∈ j :: D) && ch k l) ops.size = lastOf (fun k => decide (k ∈ D) && ch k l) ops.size := by
      refine lastOf_congr fun k hk => ?_
      by_cases hkj : k = j
      · subst hkj; simp [hc]
      · simp [hkj]
    simp only [oAt, this]
  have oA : ∀ l, l < (S (j + 1)).length → hd j l = false → oAt S ch ops.size (fun k => decide (k ∈ j :: D)) l = (S (j + 1))[l]? := fun l hl hdl => by
    cases hc : ch j l with
    | true => exact oCh l hc
    | false => rw [oNc l hc, h.oEq hjn inv.inn inv.clos hjD hpj hdl, ← h.S_at j (by omega), h.nch j hjn l hc]
  have getA : ∀ l o1, l < (S (j + 1)).length → hd j l = false → (hAt S ch ops.size fun k => decide (k ∈ j :: D))[l]? = some o1 → (hideL (hd j) (S (j + 1)))[l]? = some o1 := fun l o1 hl hdl ho1 => by
    rw [hAt_get (by omega), oA l hl hdl, List.getElem?_eq_getElem hl] at ho1
    rw [hideL_get, List.getElem?_eq_getElem hl]
    simpa [hdl] using ho1
  have getB : ∀ l o1, ch j l = false → (hAt S ch ops.size fun k => decide (k ∈ j :: D))[l]? = some o1 → (hAt S ch ops.size fun k => decide (k ∈ D))[l]? = some o1 := fun l o1 hc ho1 => by
    have hl : l < (S ops.size).length := by have := (List.getElem?_eq_some_iff.1 ho1).1; simpa [hAt] using this
    rw [hAt_get hl, oNc l hc] at ho1
    rw [hAt_get hl]; exact ho1
  -- three kinds of places
  have kinds : ∀ l, (l < (S (j + 1)).length ∧ hd j l = false) ∨ (l < (S j).length ∧ hd j l = true ∧ ch j l = false) ∨ ((S (j + 1)).length ≤ l ∧ ch j l = false) := fun l => by
    by_cases hl : l < (S (j + 1)).length
    · cases hdl : hd j l with
      | false => exact .inl ⟨hl, rfl⟩
      | true =>
        have hc : ch j l = false := by
          cases hc : ch j l with
          | false => rfl
          | true => rw [h.mine j hjn l hc] at hdl; cases hdl
        by_cases hl2 : l < (S j).length
        · exact .inr (.inl ⟨hl2, rfl, hc⟩)
        · rw [chNew l (by omega) hl] at hc; cases hc
    · refine .inr (.inr ⟨by omega, ?_⟩)
      cases hc : ch j l with
      | false => rfl
      | true => have := h.chl j hjn l hc; omega
  have hheap : HRel m' X (hAt S ch ops.size fun k => decide (k ∈ j :: D)) w' := by
    refine ⟨fun b hb => Nat.lt_of_lt_of_le (inv.heap.xb b hb) hst.size, ?_, ?_, ?_, ?_⟩
    · intro l b hb
      by_cases hr : (S j).length ≤ l ∧ l < (S (j + 1)).length
      · rw [m'new l hr.1 hr.2] at hb
        have := hh.dom l b hb
        exact ⟨by simp [hAt]; omega, this.2⟩
      · rw [m'old l hr] at hb
        have := inv.heap.dom l b hb
        refine ⟨by simpa [hAt] using this.1, Nat.lt_of_lt_of_le this.2 hst.size⟩
    · intro l b o1 hb ho1 hv1
      rcases kinds l with ⟨h1, h2⟩ | ⟨h1, h2, h3⟩ | ⟨h1, h3⟩
      · rw [m'lo l h1] at hb
        exact fun hx => hh.own l b o1 hb (getA l o1 h1 h2 ho1) hv1 (xsub b hx)
      · rw [m'old l (by omega)] at hb; exact inv.heap.own l b o1 hb (getB l o1 h3 ho1) hv1
      · rw [m'old l (by omega)] at hb; exact inv.heap.own l b o1 hb (getB l o1 h3 ho1) hv1
    · intro l l' b o1 hb hb' ho1 hv1
      rcases kinds l' with ⟨h1, h2⟩ | ⟨h1, h2, h3⟩ | ⟨h1, h3⟩
      · rw [m'lo l' h1] at hb'
        have hg := getA l' o1 h1 h2 ho1
        by_cases hl : l < (S (j + 1)).length
        · rw [m'lo l hl] at hb; exact hh.inj l l' b o1 hb hb' hg hv1
        · rw [m'old l (by omega)] at hb
          exact absurd (xlate l b hb (by omega)) (hh.own l' b o1 hb' hg hv1)
      · rw [m'old l' (by omega)] at hb'
        have hg := getB l' o1 h3 ho1
        by_cases hr : (S j).length ≤ l ∧ l < (S (j + 1)).length
        · exfalso
          rw [m'new l hr.1 hr.2] at hb
          have hlo : (S (j + 1))[l]? = some (S (j + 1))[l] := List.getElem?_eq_getElem hr.2
          have hlive := h.made j hjn l _ hr.1 hlo
          have hdl := h.mine j hjn l (chNew l hr.1 hr.2)
          exact hh.own l b _ hb (by rw [hideL_get, hlo]; simp [hdl]) hlive (.inr ⟨l', hb', .inr ⟨h2, o1, hg, hv1⟩⟩)
        · rw [m'old l hr] at hb; exact inv.heap.inj l l' b o1 hb hb' hg hv1
      · rw [m'old l' (by omega)] at hb'
        have hg := getB l' o1 h3 ho1
        by_cases hr : (S j).length ≤ l ∧ l < (S (j + 1)).length
        · omega
        · rw [m'old l hr] at hb; exact inv.heap.inj l l' b o1 hb hb' hg hv1
    · intro l o1 ho1
      rcases kinds l with ⟨h1, h2⟩ | ⟨h1, h2, h3⟩ | ⟨h1, h3⟩
      · have hr := hh.obj l o1 (getA l o1 h1 h2 ho1)
        rw [m'lo l h1]
        cases hb : mj l with
        | none => rw [hb] at hr; cases o1 <;> simp [ORel] at hr ⊢
        | some b => rw [hb] at hr; exact ORel.mono MJ rfl hr
      · have hg := getB l o1 h3 ho1
        have hr := inv.heap.obj l o1 hg
        rw [m'old l (by omega)]
        cases hb : m l with
        | none => rw [hb] at hr; cases o1 <;> simp [ORel] at hr ⊢
        | some b =>
          rw [hb] at hr
          by_cases hv1 : o1.live
          · exact ORel.mono MM (hst.fr b (inv.heap.dom l b hb).2 (.inl (.inr ⟨l, hb, .inr ⟨h2, o1, hg, hv1⟩⟩))) hr
          · cases o1 <;> simp [AObj.live] at hv1
            simp [ORel]
      · have hg := getB l o1 h3 ho1
        have hr := inv.heap.obj l o1 hg
        rw [m'old l (by omega)]
        cases hb : m l with
        | none => rw [hb] at hr; cases o1 <;> simp [ORel] at hr ⊢
        | some b => rw [hb] at hr; exact ORel.mono MM (hst.fr b (inv.heap.dom l b hb).2 (.inl (xlate l b hb (by omega)))) hr
  have hvr : VRel m' X w' (r j) c := VRel.mono MJ _ _ hv
  have hok' := hok
  unfold regOk at hok'
  simp only [Bool.and_eq_true, decide_eq_true_eq, List.all_eq_true] at hok'
  obtain ⟨⟨⟨⟨hnd, hvn⟩, hlt⟩, hvlt⟩, hgs⟩ := hok'
  have hol : ops.toList[j]? = some o := by simpa using ho
  have getD_put : ∀ u, (ac.put o.dst c).tmps.getD u Go.undef = if o.dst = some u then c else ac.tmps.getD u Go.undef := by
    intro u
    cases hd0 : o.dst with
    | none => simp [Act.put]
    | some t =>
      have htN : t < ac.tmps.size := by
        rw [inv.size]; have := hlt t (List.mem_filterMap.2 ⟨o, List.mem_of_getElem? hol, hd0⟩); simpa using this
      simp only [Act.put, Array.getD_eq_getD_getElem?, Option.some.injEq]
      by_cases hu : t = u
      · subst hu; simp [htN]
      · rw [if_neg hu, Array.getElem?_setIfInBounds_ne hu]
  have hdefs : DRel m' X en w' (ac.put o.dst c).defers := by
    have := inv.defs.step hst'
    cases hd0 : o.dst <;> simpa [Act.put] using this
  refine ⟨m', ⟨?_, ?_, ?_, ?_, ?_, hdefs, hheap, ?_, Nat.le_trans inv.entry hst.size⟩, hst'⟩
  · intro k hk; rcases List.mem_cons.1 hk with rfl | hk
    · exact hjn
    · exact inv.inn k hk
  · intro k hk e he; rcases List.mem_cons.1 hk with rfl | hk
    · exact List.mem_cons_of_mem _ (hpj e he)
    · exact List.mem_cons_of_mem _ (inv.clos k hk e he)
  · cases hd0 : o.dst <;> simp [Act.put, inv.size]
  · intro i t hi
    rw [getD_put]
    by_cases hdi : i0.dst = some i
    · have hot : o.dst = some t := by
        rw [hdst] at hdi
        cases hd0 : o.dst with
        | none => rw [hd0] at hdi; simp [compDst] at hdi
        | some u =>
          rw [hd0] at hdi; simp only [compDst] at hdi
          have := idxOf?_some hdi
          rw [hi] at this; cases this; rfl
      rw [if_pos hot]
      have : lastOf (fun k => decide (k ∈ j :: D) && dstI is k i) ops.size = some j := by
        refine lastOf_top hjn (by simp [dstI, hi0, hdi]) fun k hk hkn => ?_
        cases hck : dstI is k i with
        | false => simp
        | true =>
          simp only [Bool.and_true, decide_eq_false_iff_not, List.mem_cons, not_or]
          refine ⟨by omega, fun hkD => ?_⟩
          have hik : is[k]? = some is[k] := List.getElem?_eq_getElem (by omega)
          have hdk : is[k].dst = some i := by simpa [dstI, hik] using hck
          rcases h.vrs j k i0 _ i hi0 hik (by omega) hdk (.inr hdi) with h1 | h1
          · have := h.pdlt j hjn k h1; omega
          · exact hjD (inv.clos k hkD j h1)
      simp only [vAt, this]; exact hvr
    · have hot : o.dst ≠ some t := by
        intro hot
        apply hdi
        rw [hdst, hot]; simp only [compDst]
        cases hx : fx.vars.idxOf? t with
        | none => exact absurd (List.mem_of_getElem? hi) (idxOf?_none hx)
        | some i' =>
          have h1 := idxOf?_some hx
          have h2 : i < fx.vars.length := (List.getElem?_eq_some_iff.1 hi).1
          rw [(List.getElem?_inj h2 hvn).1 (hi.trans h1.symm)]
      rw [if_neg hot]
      have : lastOf (fun k => decide (k ∈ j :: D) && dstI is k i) ops.size = lastOf (fun k => decide (k ∈ D) && dstI is k i) ops.size := by
        refine lastOf_congr fun k hk => ?_
        by_cases hkj : k = j
        · subst hkj; simp [dstI, hi0, hdi]
        · simp [hkj]
      simp only [vAt, this]
      exact VRel.mono MM _ _ (inv.vars i t hi)
  · intro k hk t hkt htv
    rw [getD_put]
    rcases List.mem_cons.1 hk with rfl | hkD
    · have : o.dst = some t := by rw [hol] at hkt; simpa using hkt
      rw [if_pos this]; exact hvr
    · have : o.dst ≠ some t := by
        intro hot
        have hkj := dst_inj htv ops.toList hnd k j hkt (by rw [hol]; simpa using hot)
        rw [hkj] at hkD; exact hjD hkD
      rw [if_neg this]; exact VRel.mono MM _ _ (inv.tmps k hkD t hkt htv)
  · intro l hl hno
    have h1 : ¬ ((S j).length ≤ l ∧ l < (S (j + 1)).length) := hno j (by simp)
    rw [m'old l h1]
    exact inv.fresh l hl fun k hk => hno k (by simp [hk])

theorem ofScalar_locs (n : Nat) (v : Value) : locsIn n (ofScalar v) = true := by unfold ofScalar; split <;> rfl
theorem ofConst_locs (n : Nat) (v : Value) : locsIn n (ofConst v) = true := by
  unfold ofConst; split
  · simp only [locsIn]
    rename_i cs
    generalize cs.toList = l
    induction l with
    | nil => rfl
    | cons x l ih => simp only [List.map_cons, locsInAll, ofScalar_locs, ih, Bool.and_self]
  · exact ofScalar_locs n v

theorem Free.V_locs (h : Free P fx ops is V r S pd ch hd) (hlen : is.length = ops.size) (hv0 : locsInAll (S 0).length (V 0) = true) : ∀ j, j ≤ ops.size → locsInAll (S j).length (V j) = true
  | 0, _ => hv0
  | j + 1, hj => by
    have ih := Free.V_locs h hlen hv0 j (by omega)
    rw [h.Vs j _ (List.getElem?_eq_getElem (show j < is.length by omega))]
    have h1 := locsInAll_mono (h.le j (by omega)) _ ih
    unfold setD
    split
    · rename_i x _
      generalize V j = vs at h1
      have h2 := h.rl j (by omega)
      clear ih
      revert x
      induction vs with
      | nil => intro x _; rfl
      | cons v vs ihv =>
        intro x hx
        simp only [locsInAll, Bool.and_eq_true] at h1
        cases x with
        | zero => simp only [List.set_cons_zero, locsInAll, Bool.and_eq_true]; exact ⟨h2, h1.2⟩
        | succ x =>
          simp only [List.set_cons_succ, locsInAll, Bool.and_eq_true]
          refine ⟨h1.1, ?_⟩
          have : ∀ (vs : List AV) (x : Nat), locsInAll (S (j + 1)).length vs = true → locsInAll (S (j + 1)).length (vs.set x (r j)) = true := by
            intro vs
            induction vs with
            | nil => intro x _; rfl
            | cons v vs ih2 =>
              intro x hvs
              simp only [locsInAll, Bool.and_eq_true] at hvs
              cases x with
              | zero => simp only [List.set_cons_zero, locsInAll, Bool.and_eq_true]; exact ⟨h2, hvs.2⟩
              | succ x => simp only [List.set_cons_succ, locsInAll, Bool.and_eq_true]; exact ⟨hvs.1, ih2 x hvs.2⟩
          exact this vs x h1.2
    · exact h1

theorem RD_go {ro : Option Nat} (h : Free P fx ops is V r S pd ch hd) (hok : regOk fx.vars fx.N ops.toList = true) (hc : compAll P fx.vars (ops.toList.map (·.dst)) ops.toList = some is)
    (hcl0 : ∀ (l : Nat) o, (S 0)[l]? = some o → objIn (S 0).length o = true) (hv0 : locsInAll (S 0).length (V 0) = true) (hn0 : fx.n0 ≤ (S 0).length) {Qc : Exit → Act → World → Prop} :
    ∀ (l : List Nat) (D : List Nat) (m : LM) (w : World) (ac : Act), Sched (dirOf ops) ops.size D l → Inv fx ops is V r S pd ch X en D m ac w →
    (∀ m' ac' w', SRel fx m' X en ⟨V ops.size, S ops.size⟩ ac' w' → Step fx.n0 m X w m' w' → Qc .normal ac' w') → wpOpsIn (wfen ro) 0 P ops Qc l ac w
  | [], D, m, w, ac, hs, inv, hk => by
    cases hs with
    | nil hall =>
      simp only [wpOpsIn]
      obtain ⟨hlen, _⟩ := h.size hc
      refine hk m ac w ⟨inv.size, ?_, inv.defs, ?_, Nat.le_trans hn0 (h.le' (Nat.zero_le _) (Nat.le_refl _)), inv.entry⟩ (Step.refl _ _ _ _)
      · intro i t hi
        have hv := inv.vars i t hi
        have hil : i < fx.vars.length := (List.getElem?_eq_some_iff.1 hi).1
        have e1 : vAt is r (V 0) ops.size (fun k => decide (k ∈ D)) i = vAt is r (V 0) ops.size (fun k => decide (k < ops.size)) i := by
          have : lastOf (fun k => decide (k ∈ D) && dstI is k i) ops.size = lastOf (fun k => decide (k < ops.size) && dstI is k i) ops.size := lastOf_congr fun k hk => by simp [hk, hall k hk]
          simp only [vAt, this]
        rw [e1, ← (h.V_at hlen ops.size (Nat.le_refl _)).2 i hil] at hv
        exact hv
      · have e : (hAt S ch ops.size fun k => decide (k ∈ D)) = S ops.size := by
          apply List.ext_getElem?
          intro l
          by_cases hl : l < (S ops.size).length
          · rw [hAt_get hl]
            have : oAt S ch ops.size (fun k => decide (k ∈ D)) l = oAt S ch ops.size (fun k => decide (k < ops.size)) l := by
              have : lastOf (fun k => decide (k ∈ D) && ch k l) ops.size = lastOf (fun k => decide (k < ops.size) && ch k l) ops.size := lastOf_congr fun k hk => by simp [hk, hall k hk]
              simp only [oAt, this]
            rw [this, ← h.S_at ops.size (Nat.le_refl _), List.getElem?_eq_getElem hl]; rfl
          · rw [List.getElem?_eq_none (by simp [hAt]; omega), List.getElem?_eq_none (by omega)]
        rw [← e]; exact inv.heap
  | j :: l, D, m, w, ac, hs, inv, hk => by
    cases hs with
    | cons hjn hjD hdir hs' =>
    obtain ⟨hlen, hcomp⟩ := h.size hc
    have hoj : ops[j]? = some ops[j] := Array.getElem?_eq_getElem hjn
    obtain ⟨i, hij, hi⟩ := hcomp j _ hoj
    generalize ops[j] = o at hoj hi
    have hpj : ∀ e ∈ pd j, e ∈ D := fun e he => by
      rcases h.pddir j hjn e he with h1 | ⟨x, hx, h1⟩
      · exact hdir e h1
      · exact inv.clos x (hdir x hx) e h1
    simp only [wpOpsIn, hoj]
    obtain ⟨hdst, hgd⟩ := compIns_dst hi
    have hol : ops.toList[j]? = some o := by simpa using hoj
    have hrj := inv.restrict h hcl0 hjn hjD hpj
    -- the guard
    have hgdr : ∀ b, gdOk ((List.range j).map r) i.gd = some b → Region.wanted o (yielded ops ac.tmps) = b := by
      intro b hb
      unfold Region.wanted
      rw [hgd] at hb
      cases hg : o.guard with
      | none => rw [hg] at hb; simp [gdOk] at hb; simp [hb]
      | some kw =>
        obtain ⟨k, want⟩ := kw
        have hkp := h.gds j i k want hij (by rw [hgd]; exact hg)
        have hkD := hpj k hkp
        have hkj := h.pdlt j hjn k hkp
        rw [hg] at hb
        simp only [gdOk] at hb
        have e1 : ((List.range j).map r).getD k .undef = r k := by simp [List.getD, hkj]
        rw [e1] at hb
        split at hb
        · rename_i bb hbb
          cases hb
          have hok' := hok
          unfold regOk at hok'
          simp only [Bool.and_eq_true, decide_eq_true_eq, List.all_eq_true] at hok'
          obtain ⟨⟨⟨⟨_, _⟩, hlt⟩, _⟩, hgs⟩ := hok'
          have h1 := hgs o (List.mem_of_getElem? hol)
          rw [hg] at h1
          simp only at h1
          split at h1
          · rename_i t htk
            have htv : t ∉ fx.vars := by simpa using h1
            have hr := inv.tmps k hkD t htk htv
            rw [hbb] at hr
            have hv := hr.bool
            cases hok2 : ops.toList[k]? with
            | none => rw [hok2] at htk; simp at htk
            | some ok =>
              rw [hok2] at htk; simp at htk
              have htN : t < ac.tmps.size := by
                rw [inv.size]; have := hlt t (List.mem_filterMap.2 ⟨ok, List.mem_of_getElem? hok2, htk⟩); simpa using this
              have e2 : ac.tmps[t]? = some (.bool bb) := by
                rw [Array.getD_eq_getD_getElem?, Array.getElem?_eq_getElem htN] at hv
                rw [Array.getElem?_eq_getElem htN]; simpa using hv
              have e3 : ops[k]? = some ok := by simpa using hok2
              simp only [yielded, e3, Option.bind_some, htk, e2]
              cases bb <;> cases want <;> rfl
          · cases h1
        · rename_i us hbb
          cases hb
          have hok' := hok
          unfold regOk at hok'
          simp only [Bool.and_eq_true, decide_eq_true_eq, List.all_eq_true] at hok'
          obtain ⟨⟨⟨⟨_, _⟩, hlt⟩, _⟩, hgs⟩ := hok'
          have h1 := hgs o (List.mem_of_getElem? hol)
          rw [hg] at h1
          simp only at h1
          split at h1
          · rename_i t htk
            have htv : t ∉ fx.vars := by simpa using h1
            have hr := inv.tmps k hkD t htk htv
            rw [hbb] at hr
            simp only [VRel] at hr
            obtain ⟨vs, hv, _⟩ := hr
            cases hok2 : ops.toList[k]? with
            | none => rw [hok2] at htk; simp at htk
            | some ok =>
              rw [hok2] at htk; simp at htk
              have htN : t < ac.tmps.size := by
                rw [inv.size]; have := hlt t (List.mem_filterMap.2 ⟨ok, List.mem_of_getElem? hok2, htk⟩); simpa using this
              have e2 : ac.tmps[t]? = some (.tuple vs.toArray) := by
                rw [Array.getD_eq_getD_getElem?, Array.getElem?_eq_getElem htN] at hv
                rw [Array.getElem?_eq_getElem htN]; simpa using hv
              have e3 : ops[k]? = some ok := by simpa using hok2
              simp only [yielded, e3, Option.bind_some, htk, e2]
              cases want <;> rfl
          · cases h1
        · cases hb
    -- the operands
    have hargs : ∀ (xs : List Operand), (∀ x ∈ xs.map (compOpd fx.vars (ops.toList.map (·.dst))), x ∈ i.args) →
        VRels (mAt S j m) (xAt S ch hd ops.size D j m X) w ((xs.map (compOpd fx.vars (ops.toList.map (·.dst)))).map (evalO (V j) ((List.range j).map r))) (xs.map ac.eval) := by
      intro xs
      induction xs with
      | nil => intro _; simp [VRels]
      | cons x xs ih =>
        intro hall
        simp only [List.map_cons, VRels]
        refine ⟨?_, ih fun y hy => hall y (by simp only [List.map_cons]; exact List.mem_cons_of_mem _ hy)⟩
        have hx := hall (compOpd fx.vars (ops.toList.map (·.dst)) x) (by simp)
        have less : ∀ a v, locsIn (S j).length a = true → VRel m X w a v → VRel (mAt S j m) (xAt S ch hd ops.size D j m X) w a v :=
          fun a v => VRel.less (fun l hl => by simp [mAt, hl]) (fun b hb => own_at hb) a v
        cases x with
        | tmp t =>
          simp only [compOpd, Act.eval] at hx ⊢
          split at hx
          · rename_i x hxi
            simp only [evalO]
            have h1 := idxOf?_some hxi
            have h2 : x < fx.vars.length := (List.getElem?_eq_some_iff.1 h1).1
            rw [(h.V_at hlen j (by omega)).2 x h2]
            refine less _ _ ?_ ?_
            · rw [← (h.V_at hlen j (by omega)).2 x h2]
              exact locsInAll_getD (h.V_locs hlen hv0 j (by omega)) x
            · rw [← h.vEq hlen hij inv.clos hjD hpj (.inl hx)]; exact inv.vars x t h1
          · rename_i hxi
            split at hx
            · rename_i k hki
              simp only [evalO]
              have hkp := h.rds j i hij k hx
              have hkj := h.pdlt j hjn k hkp
              have e1 : ((List.range j).map r).getD k .undef = r k := by simp [List.getD, hkj]
              rw [e1]
              refine less _ _ (locsIn_mono (h.le' (show k + 1 ≤ j by omega) (by omega)) _ (h.rl k (by omega))) ?_
              have := idxOf?_some hki
              simp only [List.getElem?_map, Option.map_eq_some_iff] at this
              obtain ⟨ok, hok2, hd2⟩ := this
              exact inv.tmps k (hpj k hkp) t (by rw [hok2]; simpa using hd2) (idxOf?_none hxi)
            · rename_i hki
              simp [evalO, VRel]
        | const v => simp only [compOpd, evalO, Act.eval]; exact ofConst_rel v
        | global g => simp [compOpd, evalO, VRel]
        | func f => simp only [compOpd, evalO, Act.eval, VRel]; exact ⟨[], rfl, by simp [VRels]⟩
    -- and on
    have next : ∀ (mj : LM) (w' : World) (c : Value), HRel mj (xAt S ch hd ops.size D j m X) (hideL (hd j) (S (j + 1))) w' → Step (S j).length (mAt S j m) (xAt S ch hd ops.size D j m X) w mj w' →
        VRel mj (xAt S ch hd ops.size D j m X) w' (r j) c → wpOpsIn (wfen ro) 0 P ops Qc l (ac.put o.dst c) w' := by
      intro mj w' c hh hst hv
      obtain ⟨m', inv', hst'⟩ := inv.step h hlen hok hn0 hjn hjD hpj hoj hij hdst hh hst hv
      exact RD_go h hok hc hcl0 hv0 hn0 l (j :: D) m' w' _ hs' inv' fun m2 ac2 w2 h1 h2 => hk m2 ac2 w2 h1 (hst'.trans h2)
    have hop := h.op j i hij
    split at hop
    · exact hop.elim
    · rename_i hg
      rw [hgdr _ hg]
      simp only [Bool.false_eq_true, if_false]
      refine ⟨fun _ _ => trivial, next _ w Go.undef ?_ (Step.refl _ _ _ _) ?_⟩
      · rw [hop.2]; exact hrj
      · rw [hop.1]; simp [VRel, VRels, Go.undef]
    · rename_i hg
      rw [hgdr _ hg]
      simp only [if_true]
      refine ⟨fun _ _ => trivial, ?_⟩
      have hHl : (hideL (hd j) (S j)).length = (S j).length := hideL_length _ _
      generalize has : i.args.map (evalO (V j) ((List.range j).map r)) = as at hop
      cases hiop : i.op with
      | prim io =>
        rw [hiop] at hop
        dsimp only at hop
        obtain ⟨os', hco, hia, _, _⟩ := compIns_prim hi hiop
        have hrel := hargs os' (fun x hx => by rw [hia]; exact hx)
        rw [← hia, has] at hrel
        obtain ⟨nx, w', mj, hrun, hres, hh, hst⟩ := prim_sound hco hrj hrel hop
        rw [hHl] at hst
        rw [Oper.semAt_eq _ _ _ (compOp_not_defer hco), hrun]
        rcases hres with ⟨c, rfl, hv⟩ | ⟨rfl, hr⟩
        · exact next mj w' c hh hst hv
        · exact next mj w' Go.undef hh hst (by rw [hr]; simp [VRel])
      | call =>
        rw [hiop] at hop
        cases as with
        | nil => exact hop.elim
        | cons fv as =>
        dsimp only at hop
        obtain ⟨f, args, at_, hop', hia, _, _⟩ := compIns_call hi hiop
        have hrel := hargs (f :: args.toList) (fun x hx => by rw [hia]; exact hx)
        rw [← hia, has] at hrel
        obtain ⟨fc, us, he, hfv, hrest⟩ := hrel.cons
        simp only [List.map_cons, List.cons.injEq] at he
        obtain ⟨rfl, rfl⟩ := he
        have hnd : ∀ c, o.op ≠ .defer c := by rw [hop']; simp
        rw [Oper.semAt_eq _ _ _ hnd]
        have hex : execOp ac.eval o = (do let d ← resolve ac.eval { callee := .value f, args, argTypes := at_ } o.type; invoke d.target d.args) := by
          simp only [execOp, hop']
        rw [hex]
        unfold CallV at hop
        split at hop
        · rename_i g cap
          simp only [VRel] at hfv
          obtain ⟨vs, hfe, hcap⟩ := hfv
          have hrun : (do let d ← resolve ac.eval { callee := .value f, args, argTypes := at_ } o.type; invoke d.target d.args : Sem Next).run P w = .ok (.enter g ((args.toList.map ac.eval) ++ vs).toArray) w := by
            simp only [resolve, hfe, Deferred.ofValue, Sem.run_bind, Sem.run_pure, Result.andThen_ok, invoke]
            rw [hop.1]
            congr 2
            apply Array.ext'; simp
          rw [hrun]
          refine ⟨by simp [wfen, Fence.wide], ?_⟩
          have hcall := hop.2 _ _ w _ (VRels.append hrest hcap) hrj
          refine CallsIn.mono (F := wfen ro) (n := 0) hcall ?_
          rintro e w' ⟨c, r', σ', mj, rfl, ⟨rfl, rfl⟩, hv, hh, hst, _⟩
          rw [hHl] at hst
          exact next mj w' c hh hst hv
        · rename_i g first
          simp only [VRel] at hfv
          obtain ⟨vs, hfe, hcap⟩ := hfv
          have hrun : (do let d ← resolve ac.eval { callee := .value f, args, argTypes := at_ } o.type; invoke d.target d.args : Sem Next).run P w = .ok (.enter g (vs ++ (args.toList.map ac.eval)).toArray) w := by
            simp only [resolve, hfe, Deferred.ofValue, Sem.run_bind, Sem.run_pure, Result.andThen_ok, invoke]
            rw [hop.1]
            congr 2
            apply Array.ext'; simp
          rw [hrun]
          refine ⟨by simp [wfen, Fence.wide], ?_⟩
          have hcall := hop.2 _ _ w _ (VRels.append hcap hrest) hrj
          refine CallsIn.mono (F := wfen ro) (n := 0) hcall ?_
          rintro e w' ⟨c, r', σ', mj, rfl, ⟨rfl, rfl⟩, hv, hh, hst, _⟩
          rw [hHl] at hst
          exact next mj w' c hh hst hv
        · rename_i lc
          simp only [VRel] at hfv
          obtain ⟨b, hb, hfe⟩ := hfv
          obtain ⟨L, hL, hsz, hround⟩ := hop _ _ w _ b hb hrest hrj
          have hrun : (do let d ← resolve ac.eval { callee := .value f, args, argTypes := at_ } o.type; invoke d.target d.args : Sem Next).run P w = .ok (.round b L.fn ((L.params.zip (args.toList.map ac.eval).toArray).foldl (fun tmps (t, a) => tmps.setIfInBounds t a) L.tmps) L.assign L.body) w := by
            simp only [resolve, hfe, Deferred.ofValue, Sem.run_bind, Sem.run_pure, Result.andThen_ok, invoke]
            have e : #[] ++ args.map ac.eval = (args.toList.map ac.eval).toArray := by apply Array.ext'; simp
            rw [e]
            exact run_yield hL (by simpa using hsz)
          rw [hrun]
          refine ⟨by simp [wfen, Fence.wide], ?_⟩
          refine RoundIn.mono (F := wfen ro) (n := 0) hround ?_
          rintro e w' ⟨c, r', σ', mj, rfl, ⟨rfl, rfl⟩, hv, hh, hst, _⟩
          rw [hHl] at hst
          exact next mj w' c hh hst hv
        · exact hop.elim

end Go.Proofs.Ytphdemhopihpnaa.AM


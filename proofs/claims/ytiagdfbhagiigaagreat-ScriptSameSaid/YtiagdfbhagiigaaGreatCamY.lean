/- Cam, part Y: a region that draws its order: what holds in the middle of any order. -/
import Derived.Test.YtiagdfbhagiigaaGreatCamX
namespace Cam
open Go Go.Lib
variable {X : Type} {P : Program}

theorem addChunks_get {a : Tr (Chunk X)} : ∀ {k lo : Nat} {t : Tr (Chunk X)} {n : Nat} {c : Chunk X}, (addChunks t a lo k).get n = some c → t.get n = some c ∨ (lo ≤ n ∧ n < lo + k ∧ a.get n = some c)
  | 0, lo, t, n, c, h => .inl h
  | k + 1, lo, t, n, c, h => by
    simp only [addChunks] at h
    rcases addChunks_get h with h1 | ⟨h1, h2, h3⟩
    · split at h1
      · rename_i c0 hc0
        rw [Tr.get_set] at h1
        split at h1
        · rename_i he; subst he; cases h1; exact .inr ⟨Nat.le_refl _, by omega, hc0⟩
        · exact .inl h1
      · exact .inl h1
    · exact .inr ⟨by omega, by omega, h3⟩

theorem stageHeap_get {st : Stage X} {mask : Nat} : ∀ {frees : List (FreeOp X)} {n : Nat} {c : Chunk X}, (stageHeap st mask frees).get n = some c →
    st.tr.get n = some c ∨ ∃ fo ∈ frees, mask.testBit fo.i = true ∧ st.merged.testBit fo.i = false ∧ fo.lo ≤ n ∧ n < fo.hi ∧ fo.tr.get n = some c
  | [], n, c, h => .inl h
  | ⟨i, t, lo, hi⟩ :: l, n, c, h => by
    simp only [stageHeap] at h
    split at h
    · rename_i hb
      simp only [Bool.and_eq_true, Bool.not_eq_true'] at hb
      rcases addChunks_get h with h1 | ⟨h1, h2, h3⟩
      · rcases stageHeap_get h1 with q | ⟨fo, q1, q2⟩
        · exact .inl q
        · exact .inr ⟨fo, List.mem_cons_of_mem _ q1, q2⟩
      · exact .inr ⟨⟨i, t, lo, hi⟩, List.mem_cons_self, hb.1, hb.2, h1, by simp only; omega, h3⟩
    · rcases stageHeap_get h with q | ⟨fo, q1, q2⟩
      · exact .inl q
      · exact .inr ⟨fo, List.mem_cons_of_mem _ q1, q2⟩

theorem maskFrees_bit {mask : Nat} : ∀ {frees : List (FreeOp X)} {fo : FreeOp X}, fo ∈ frees → mask.testBit fo.i = true → (maskFrees mask frees).testBit fo.i = true
  | ⟨i, t, lo, hi⟩ :: l, fo, h, hm => by
    simp only [maskFrees]
    rcases List.mem_cons.1 h with rfl | h
    · simp only at hm
      simp only [hm]
      rw [Nat.testBit_or, Nat.testBit_two_pow]; simp
    · split
      · rw [Nat.testBit_or, maskFrees_bit h hm]; simp
      · exact maskFrees_bit h hm

structure DV (f : Nat → DS X) (ops : Array Oper) (tm0 : Tm) (tmps0 : Array Value) (S : Nat → Prop) (E : Env) (tmps : Array Value) : Prop where
  tn : tmps.size = tm0.n
  vals : ∀ i o t, S i → ops[i]? = some o → o.dst = some t → R (upto E (f (i + 1)).nx) ((f (i + 1)).tm.get t) (tmps.getD t undef)
  olds : ∀ t, (∀ i o, S i → ops[i]? = some o → o.dst ≠ some t) → tmps.getD t undef = tmps0.getD t undef

section
variable {cfg : Cfg P} {orc : Orc X} {ops : Array Oper} {l : List (Oper × Nat)} {f : Nat → DS X} {tm0 : Tm} {h : CHeap X} {S : Nat → Prop} {E E'' : Env} {tmps tmps0 : Array Value} {E0 : Env}

theorem DV.mono (v : DV f ops tm0 tmps0 S E tmps) (hE : Ext E E'') : DV f ops tm0 tmps0 S E'' tmps :=
  ⟨v.tn, fun i o t h1 h2 h3 => (v.vals i o t h1 h2 h3).mono (upto_mono hE (Nat.le_refl _)), v.olds⟩

theorem DV.put (d : DT cfg orc ops l f tm0 h) (v : DV f ops tm0 tmps0 S E tmps) (hE : Ext E E'') {i : Nat} (hil : i < l.length) (hi : ¬ S i) {o : Oper} (ho : ops[i]? = some o) {x : SV} {y : Value}
    (htm : (f (i + 1)).tm = cput (f i).tm o.dst x) (hx : R (upto E'' (f (i + 1)).nx) x y) (h0 : RT E0 tm0 tmps0) (hE0 : Ext E0 (upto E'' (f (i + 1)).nx)) {ds : List Deferred} :
    DV f ops tm0 tmps0 (fun j => S j ∨ j = i) E'' (Act.put ⟨tmps, ds⟩ o.dst y).tmps := by
  refine ⟨?_, ?_, ?_⟩
  · rw [← v.tn]; cases o.dst <;> simp [Act.put]
  · intro j oj t hj hoj hd
    rcases hj with hj | hj
    · have hne : o.dst ≠ some t := fun he => hi ((d.ann.one i j o oj t ho hoj he hd) ▸ hj)
      have := (v.vals j oj t hj hoj hd).mono (upto_mono hE (Nat.le_refl _))
      cases ho' : o.dst with
      | none => exact this
      | some d' =>
        have hne' : d' ≠ t := fun he => hne (by rw [ho', he])
        simpa [Act.put, Array.getElem?_setIfInBounds_ne hne'] using this
    · subst hj
      rw [ho] at hoj; cases hoj
      rw [htm, hd]
      simp only [cput, Act.put, Tm.get_set]
      by_cases hlt : t < (f j).tm.n
      · rw [if_pos ⟨trivial, hlt⟩]
        have : t < tmps.size := by rw [v.tn, ← d.tmn j (by omega)]; exact hlt
        simpa [this] using hx
      · rw [if_neg (fun hh => hlt hh.2)]
        have hge : tmps.size ≤ t := by rw [v.tn, ← d.tmn j (Nat.le_of_lt hil)]; exact Nat.le_of_not_lt hlt
        rw [Array.setIfInBounds_eq_of_size_le hge]
        have hold := d.tmOld (t := t) j (by omega) (fun k ok hk hok he => by have := d.ann.one k j ok o t hok ho he hd; omega)
        rw [hold]
        have h1 : tmps.getD t undef = undef := by rw [Array.getD_eq_getD_getElem?, Array.getElem?_eq_none hge]; rfl
        have h2 : tmps0.getD t undef = undef := by
          have : tmps0.size ≤ t := by rw [h0.1]; rw [v.tn] at hge; exact hge
          rw [Array.getD_eq_getD_getElem?, Array.getElem?_eq_none this]; rfl
        rw [h1, ← h2]
        exact (h0.2 t).mono hE0
  · intro t ht
    have hne : o.dst ≠ some t := ht i o (.inr rfl) ho
    have := v.olds t (fun j oj hj hoj => ht j oj (.inl hj) hoj)
    cases ho' : o.dst with
    | none => simpa [Act.put] using this
    | some d' =>
      have hne' : d' ≠ t := fun he => hne (by rw [ho', he])
      simpa [Act.put, Array.getElem?_setIfInBounds_ne hne'] using this

/-- A temporary that operation i looks at. -/
theorem DV.look (d : DT cfg orc ops l f tm0 h) (v : DV f ops tm0 tmps0 S E tmps) (hcl : ∀ i o m j, l[i]? = some (o, m) → S i → m.testBit j = true → S j) (hsl : ∀ i, S i → i < l.length)
    {i : Nat} (hil : i < l.length) (hi : ¬ S i) {o : Oper} {m : Nat} (hl : l[i]? = some (o, m)) (hanc : ∀ j, m.testBit j = true → S j) (h0 : RT E0 tm0 tmps0)
    {k : Nat} (hk : (f i).nx ≤ k) (hE0 : Ext E0 (upto E k)) {t : Tmp} (ht : t ∈ o.looksAt ops) : R (upto E k) ((f i).tm.get t) (tmps.getD t undef) := by
  by_cases hex : ∃ (j : Nat) (oj : Oper), ops[j]? = some oj ∧ oj.dst = some t
  · obtain ⟨j, oj, hoj, hd⟩ := hex
    rcases Nat.lt_or_ge j i with hji | hji
    · have hSj := hanc j (d.ann.look i o m t j oj hl ht hoj hd hji)
      rw [d.tmNew hoj hd i (by omega) hji]
      exact (v.vals j oj t hSj hoj hd).mono (upto_mono (Ext.refl _) (Nat.le_trans (d.mono (by omega) (by omega)) hk))
    · have hSj : ¬ S j := by
        intro hSj
        rcases Nat.lt_or_ge i j with h1 | h1
        · obtain ⟨oj', mj, hlj, hoj', _⟩ := d.at (hsl j hSj)
          rw [hoj] at hoj'; cases hoj'
          exact hi (hcl j oj mj i hlj hSj (d.ann.write j oj mj t i o hlj hd (d.ann.op _ _ _ hl) h1 ht))
        · have : i = j := by omega
          subst this; exact hi hSj
      rw [d.tmOld i (by omega) (fun k ok hk hok he => by have := d.ann.one k j ok oj t hok hoj he hd; omega), v.olds t (fun k ok hSk hok he => hSj ((d.ann.one k j ok oj t hok hoj he hd) ▸ hSk))]
      exact (h0.2 t).mono hE0
  · rw [d.tmOld i (by omega) (fun k ok hk hok he => hex ⟨k, ok, hok, he⟩), v.olds t (fun k ok hSk hok he => hex ⟨k, ok, hok, he⟩)]
    exact (h0.2 t).mono hE0

theorem looksAt_op {o : Oper} {t : Tmp} (h : .tmp t ∈ o.op.operands) : t ∈ o.looksAt ops :=
  List.mem_append_left _ (List.mem_filterMap.2 ⟨.tmp t, by simpa using h, rfl⟩)

theorem ops_of_looks {tm : Tm} {a : Act} {o : Oper} (hx : ∀ t ∈ o.looksAt ops, R E (tm.get t) (a.tmps.getD t undef)) : ∀ x ∈ o.op.operands, R E (cev tm x) (a.eval x) := by
  intro x hm
  cases x with
  | tmp t => exact hx t (looksAt_op hm)
  | const v => exact .sc v
  | global g => exact .sc _
  | func f => exact .fn .nil .nil

theorem wanted_of_looks {tm : Tm} {a : Array Value} {o : Oper} (hx : ∀ t ∈ o.looksAt ops, R E (tm.get t) (a.getD t undef)) {b : Bool} (hy : cwanted ops tm o = some b) : Region.wanted o (yielded ops a) = b := by
  unfold cwanted at hy
  unfold Region.wanted
  split at hy
  · rename_i hg; cases hy; rw [hg]
  · rename_i j want hg
    rw [hg]
    split at hy
    · rename_i d hd
      split at hy
      · rename_i c hc
        cases hy
        have hm : d ∈ o.looksAt ops := List.mem_append_right _ (by simp only [hg, hd]; simp)
        have h1 := svBool_ok hc (hx d hm)
        have h2 : a[d]? = some (.bool c) := by
          rw [Array.getD_eq_getD_getElem?] at h1
          cases hz : a[d]? with
          | none => rw [hz] at h1; cases h1
          | some v => rw [hz] at h1; exact congrArg some h1
        simp only [yielded, hd, Option.bind_some, h2]
        cases c <;> cases want <;> rfl
      · cases hy
    · cases hy
end
end Cam

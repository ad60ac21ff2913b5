/- Cam, part W: the stages of the pass, and the reads at them. -/
import Derived.Test.YtiagdfbhagiigaaGreatCamV
namespace Cam
open Go Go.Lib
variable {X : Type} {P : Program}

section
variable {cfg : Cfg P} {orc : Orc X} {ops : Array Oper} {l : List (Oper × Nat)} {f : Nat → DS X} {tm0 : Tm} {h : CHeap X}

/-- Operation i is an effect. -/
def Eff (f : Nat → DS X) (i : Nat) : Prop := (f (i + 1)).old = ((f i).st, i) :: (f i).old

theorem DT.step (d : DT cfg orc ops l f tm0 h) {i : Nat} (hi : i < l.length) : (Eff f i ∧ (f (i + 1)).last = some i) ∨ (¬ Eff f i ∧ (f (i + 1)).st = (f i).st ∧ (f (i + 1)).old = (f i).old ∧ (f (i + 1)).last = (f i).last) := by
  obtain ⟨o, m, _, ho, hdc⟩ := d.at hi
  have hidx := d.idx i (by omega)
  unfold Eff
  have hne : ∀ {x : Stage X × Nat} {y : List (Stage X × Nat)}, ¬ (y = x :: y) := fun {x y} he => by
    have := congrArg List.length he; simp at this
  generalize f i = s at hdc hidx
  generalize f (i + 1) = s' at hdc
  cases hdc <;> simp only at hidx ⊢ <;> subst hidx <;> first
    | exact .inl ⟨trivial, trivial⟩
    | exact .inl ⟨rfl, rfl⟩
    | exact .inr ⟨hne, trivial, trivial, trivial⟩
    | exact .inr ⟨hne, rfl, rfl, rfl⟩

/-- Where there is no effect between, the stage is the same. -/
theorem DT.sameStage (d : DT cfg orc ops l f tm0 h) {i : Nat} : ∀ {j : Nat}, i ≤ j → j ≤ l.length → (∀ e, i ≤ e → e < j → ¬ Eff f e) → (f j).st = (f i).st ∧ (f j).old = (f i).old ∧ (f j).last = (f i).last := by
  intro j hij
  induction j with
  | zero => intro _ _; have : i = 0 := by omega
            subst this; exact ⟨rfl, rfl, rfl⟩
  | succ j ih =>
    intro hj hn
    rcases Nat.lt_or_ge j i with h1 | h1
    · have : i = j + 1 := by omega
      subst this; exact ⟨rfl, rfl, rfl⟩
    · obtain ⟨g1, g2, g3⟩ := ih h1 (by omega) (fun e he he' => hn e he (by omega))
      rcases d.step (i := j) (by omega) with q | q
      · exact absurd q.1 (hn j h1 (by omega))
      · exact ⟨q.2.1.trans g1, q.2.2.1.trans g2, q.2.2.2.trans g3⟩

/-- The last effect ahead of j, if there is one. -/
theorem lastEff (f : Nat → DS X) (i : Nat) : ∀ j, (∀ e, i ≤ e → e < j → ¬ Eff f e) ∨ ∃ e, i ≤ e ∧ e < j ∧ Eff f e ∧ ∀ e', e < e' → e' < j → ¬ Eff f e'
  | 0 => .inl (fun e _ he => by omega)
  | j + 1 => by
    by_cases hj : i ≤ j ∧ Eff f j
    · exact .inr ⟨j, hj.1, by omega, hj.2, fun e' h1 h2 => by omega⟩
    · rcases lastEff f i j with h1 | ⟨e, h1, h2, h3, h4⟩
      · refine .inl (fun e he he' => ?_)
        rcases Nat.lt_or_ge e j with h2 | h2
        · exact h1 e he h2
        · have : e = j := by omega
          subst this; exact fun hE => hj ⟨he, hE⟩
      · refine .inr ⟨e, h1, by omega, h3, fun e' h5 h6 => ?_⟩
        rcases Nat.lt_or_ge e' j with h7 | h7
        · exact h4 e' h5 h7
        · have : e' = j := by omega
          subst this; exact fun hE => hj ⟨by omega, hE⟩

theorem firstEff (f : Nat → DS X) (i : Nat) : ∀ j, (∀ e, i ≤ e → e < j → ¬ Eff f e) ∨ ∃ e, i ≤ e ∧ e < j ∧ Eff f e ∧ ∀ e', i ≤ e' → e' < e → ¬ Eff f e'
  | 0 => .inl (fun e _ he => by omega)
  | j + 1 => by
    rcases firstEff f i j with h1 | ⟨e, h1, h2, h3, h4⟩
    · by_cases hj : i ≤ j ∧ Eff f j
      · exact .inr ⟨j, hj.1, by omega, hj.2, fun e' h2 h3 => h1 e' h2 h3⟩
      · refine .inl (fun e he he' => ?_)
        rcases Nat.lt_or_ge e j with h2 | h2
        · exact h1 e he h2
        · have : e = j := by omega
          subst this; exact fun hE => hj ⟨he, hE⟩
    · exact .inr ⟨e, h1, by omega, h3, h4⟩

/-- 'last' is the last effect. -/
theorem DT.lastIs (d : DT cfg orc ops l f tm0 h) {e i : Nat} (he : Eff f e) (hei : e < i) (hi : i ≤ l.length) : ∃ e', (f i).last = some e' ∧ Eff f e' ∧ e ≤ e' ∧ e' < i := by
  rcases lastEff f e i with h1 | ⟨e', h1, h2, h3, h4⟩
  · exact absurd he (h1 e (Nat.le_refl _) hei)
  · refine ⟨e', ?_, h3, h1, h2⟩
    obtain ⟨_, _, g3⟩ := d.sameStage (i := e' + 1) (j := i) (by omega) hi (fun x hx hx' => h4 x (by omega) hx')
    rw [g3]
    rcases d.step (i := e') (by omega) with q | q
    · exact q.2
    · exact absurd h3 q.1

theorem DT.stopStays (d : DT cfg orc ops l f tm0 h) {i : Nat} : ∀ {j : Nat}, i ≤ j → j ≤ l.length → (f j).stop = none → (f i).stop = none := by
  intro j hij
  induction j with
  | zero => intro _ hs; have : i = 0 := by omega
            subst this; exact hs
  | succ j ih =>
    intro hj hs
    rcases Nat.lt_or_ge j i with h1 | h1
    · have : i = j + 1 := by omega
      subst this; exact hs
    · refine ih h1 (by omega) ?_
      obtain ⟨o, m, _, ho, hdc⟩ := d.at (i := j) (by omega)
      generalize f j = s at hdc
      generalize f (j + 1) = s' at hdc hs
      cases hdc <;> simp only at hs ⊢ <;> cases hs

/-- Every effect is behind the one ahead of it, in every order. -/
theorem DT.effChain (d : DT cfg orc ops l f tm0 h) {e i : Nat} (he : Eff f e) (hi : i < l.length) (hE : Eff f i) (hei : e < i) {o : Oper} {m : Nat} (hl : l[i]? = some (o, m)) :
    ∃ e', Eff f e' ∧ e ≤ e' ∧ e' < i ∧ m.testBit e' = true := by
  obtain ⟨e', h1, h2, h3, h4⟩ := d.lastIs he hei (by omega)
  refine ⟨e', h2, h3, h4, ?_⟩
  have hdc := d.dc i o m hl
  have hidx := d.idx i (by omega)
  unfold Eff at hE
  generalize f i = s at hdc h1 hE hidx
  generalize f (i + 1) = s' at hdc hE
  have hne : ∀ {x : Stage X × Nat} {y : List (Stage X × Nat)}, ¬ (y = x :: y) := fun {x y} he => by
    have := congrArg List.length he; simp at this
  cases hdc <;> simp only at h1 hE <;> first | (exact absurd hE hne) | skip
  · rename_i hlast _ _ _; exact hlast _ h1
  · rename_i hlast _ _; exact hlast _ h1

theorem DT.stageNx (d : DT cfg orc ops l f tm0 h) : ∀ i, i ≤ l.length → (f i).st.nx ≤ (f i).nx
  | 0, _ => by rw [d.start]; exact Nat.le_refl _
  | i + 1, hi => by
    obtain ⟨o, m, _, ho, hdc⟩ := d.at (i := i) (by omega)
    have ih := d.stageNx i (by omega)
    generalize f i = s at hdc ih
    generalize f (i + 1) = s' at hdc
    cases hdc <;> simp only at ih ⊢ <;> omega

/-- The older stages. -/
theorem DT.oldAt (d : DT cfg orc ops l f tm0 h) {e : Nat} (he : Eff f e) : ∀ {i : Nat}, e < i → i ≤ l.length →
    ∃ p, (f i).old[p]? = some ((f e).st, e) ∧ ∀ (q : Nat) (st' : Stage X) (e' : Nat), q < p → (f i).old[q]? = some (st', e') → e < e' ∧ e' < i ∧ Eff f e' := by
  intro i hei
  induction i with
  | zero => omega
  | succ i ih =>
    intro hi
    rcases Nat.lt_or_ge e i with h1 | h1
    · obtain ⟨p, g1, g2⟩ := ih h1 (by omega)
      rcases d.step (i := i) (by omega) with q | q
      · have hq : (f (i + 1)).old = ((f i).st, i) :: (f i).old := q.1
        refine ⟨p + 1, by rw [hq]; simpa using g1, fun r st' e' hr hg => ?_⟩
        rw [hq] at hg
        cases r with
        | zero => simp at hg; obtain ⟨_, rfl⟩ := hg; exact ⟨h1, by omega, q.1⟩
        | succ r =>
          simp at hg
          obtain ⟨t1, t2, t3⟩ := g2 r st' e' (by omega) hg
          exact ⟨t1, by omega, t3⟩
      · rw [q.2.2.1]; exact ⟨p, g1, fun r st' e' hr hg => by obtain ⟨t1, t2, t3⟩ := g2 r st' e' hr hg; exact ⟨t1, by omega, t3⟩⟩
    · have : e = i := by omega
      subst this
      have hq : (f (e + 1)).old = ((f e).st, e) :: (f e).old := he
      exact ⟨0, by rw [hq]; rfl, fun q st' e' hq' => by omega⟩

theorem readOld_spec {frees : List (FreeOp X)} {nx m : Nat} {tm : Tm} {o : Oper} {v : SV} : ∀ {old : List (Stage X × Nat)}, readOld cfg frees nx m tm o v old = true → ∀ {p : Nat} {st : Stage X} {e : Nat}, old[p]? = some (st, e) →
    (∀ q st' e', q ≤ p → old[q]? = some (st', e') → m.testBit e' = false) → ∃ u, readAt cfg st frees nx m tm o = some u ∧ u = v
  | [], _, p, st, e, hp, _ => by simp at hp
  | (st0, e0) :: old, hr, p, st, e, hp, hm => by
    have h0 := hm 0 st0 e0 (by omega) rfl
    simp only [readOld, h0] at hr
    split at hr
    · rename_i u hu
      simp only [Bool.and_eq_true] at hr
      cases p with
      | zero => simp at hp; obtain ⟨rfl, rfl⟩ := hp; exact ⟨u, hu, SV.eqb_eq hr.1⟩
      | succ p => simp at hp; exact readOld_spec hr.2 hp (fun q st' e' hq hg => hm (q + 1) st' e' (by omega) (by simpa using hg))
    · cases hr

theorem readNew_spec {st : Stage X} {frees : List (FreeOp X)} {nx m : Nat} : ∀ {reads : List ReadOp}, readNew cfg st frees nx m reads = true → ∀ r ∈ reads, m.testBit r.i = false → ∃ u, readAt cfg st frees nx r.mask r.tm r.o = some u ∧ u = r.v
  | [], _, r, hr, _ => by cases hr
  | ⟨i, m', o, tm, v⟩ :: l, h, r, hr, hm => by
    simp only [readNew, Bool.and_eq_true] at h
    rcases List.mem_cons.1 hr with rfl | hr
    · have h1 := h.1
      simp only at hm
      rw [hm] at h1
      simp only at h1
      split at h1
      · rename_i u hu; exact ⟨u, hu, SV.eqb_eq h1⟩
      · cases h1
    · exact readNew_spec h.2 r hr hm

theorem DT.readsSub (d : DT cfg orc ops l f tm0 h) {r : ReadOp} : ∀ {i j : Nat}, i ≤ j → j ≤ l.length → r ∈ (f i).reads → r ∈ (f j).reads := by
  intro i j hij
  induction j with
  | zero => intro _ hm; have : i = 0 := by omega
            subst this; exact hm
  | succ j ih =>
    intro hj hm
    rcases Nat.lt_or_ge j i with h1 | h1
    · have : i = j + 1 := by omega
      subst this; exact hm
    · have hm' := ih h1 (by omega) hm
      obtain ⟨o, m, _, ho, hdc⟩ := d.at (i := j) (by omega)
      generalize f j = s at hdc hm'
      generalize f (j + 1) = s' at hdc
      cases hdc <;> simp only at hm' ⊢ <;> first | exact hm' | exact List.mem_cons_of_mem _ hm'

/-- A read, at whatever stage it may come up. -/
theorem DT.readOK (d : DT cfg orc ops l f tm0 h) {r : Nat} {o : Oper} {m : Nat} {v : SV} (hl : l[r]? = some (o, m)) (hrd : readAt cfg (f r).st (f r).frees (f r).nx m (f r).tm o = some v)
    (hold : readOld cfg (f r).frees (f r).nx m (f r).tm o v (f r).old = true) (hmem : ⟨r, m, o, (f r).tm, v⟩ ∈ (f (r + 1)).reads) (hne : ¬ Eff f r)
    {q : Nat} (hq : q ≤ l.length) (hstop : (f q).stop = none) (h1 : ∀ e, Eff f e → e < l.length → m.testBit e = true → e < q)
    (h2 : ∀ e oe me, Eff f e → e < q → l[e]? = some (oe, me) → me.testBit r = false) :
    ∃ i nx', r ≤ i ∧ i ≤ l.length ∧ (f q).st.nx ≤ nx' ∧ (f i).nx ≤ nx' ∧ readAt cfg (f q).st (f i).frees nx' m (f r).tm o = some v := by
  have hrl : r < l.length := (List.getElem?_eq_some_iff.1 hl).1
  rcases Nat.lt_or_ge r q with hrq | hrq
  · rcases lastEff f r q with h3 | ⟨e, h3, h4, h5, h6⟩
    · obtain ⟨g1, _, _⟩ := d.sameStage (i := r) (j := q) (by omega) hq h3
      rw [g1]
      exact ⟨r, (f r).nx, Nat.le_refl _, by omega, d.stageNx r (by omega), Nat.le_refl _, hrd⟩
    · have her : e ≠ r := fun hh => by subst hh; exact hne h5
      obtain ⟨g1, _, _⟩ := d.sameStage (i := e + 1) (j := q) (by omega) hq (fun x hx hx' => h6 x (by omega) hx')
      rw [g1]
      obtain ⟨oe, me, hle, _, hdc⟩ := d.at (i := e) (by omega)
      have hm := h2 e oe me h5 h4 hle
      have hmem' := d.readsSub (i := r + 1) (j := e) (by omega) (by omega) hmem
      have hs2 := d.stopStays (i := e + 1) (j := q) (by omega) hq hstop
      refine ⟨e, (f (e + 1)).nx, by omega, by omega, d.stageNx _ (by omega), d.mono1 (by omega), ?_⟩
      have hE : (f (e + 1)).old = ((f e).st, e) :: (f e).old := h5
      have hne' : ∀ {x : Stage X × Nat} {y : List (Stage X × Nat)}, ¬ (y = x :: y) := fun {x y} he => by
        have := congrArg List.length he; simp at this
      generalize f e = s at hdc hmem' hE
      generalize f (e + 1) = s' at hdc hs2 hE
      cases hdc <;> simp only at hs2 hE hmem' <;> first | (exact absurd hE hne') | (cases hs2; done) | skip
      rename_i hr'
      obtain ⟨u, q1, q2⟩ := readNew_spec hr' _ hmem' hm
      have q2' : u = v := q2
      rw [q2'] at q1
      exact q1
  · rcases firstEff f q r with h3 | ⟨e, h3, h4, h5, h6⟩
    · obtain ⟨g1, _, _⟩ := d.sameStage (i := q) (j := r) hrq (by omega) h3
      rw [← g1]
      exact ⟨r, (f r).nx, Nat.le_refl _, by omega, d.stageNx r (by omega), Nat.le_refl _, hrd⟩
    · obtain ⟨g1, _, _⟩ := d.sameStage (i := q) (j := e) h3 (by omega) (fun x hx hx' => h6 x hx hx')
      rw [← g1]
      obtain ⟨p, s1, s2⟩ := d.oldAt h5 h4 (by omega)
      obtain ⟨u, q1, q2⟩ := readOld_spec hold s1 (fun p' st' e' hp' hg => by
        have he' : q ≤ e' ∧ e' < r ∧ Eff f e' := by
          rcases Nat.lt_or_ge p' p with h7 | h7
          · have := s2 p' st' e' h7 hg; exact ⟨by omega, this.2⟩
          · have : p' = p := by omega
            subst this; rw [s1] at hg; cases hg; exact ⟨h3, h4, h5⟩
        cases hb : m.testBit e' with
        | false => rfl
        | true =>
          have := h1 e' he'.2.2 (by omega) hb
          omega)
      rw [q2] at q1
      exact ⟨r, (f r).nx, Nat.le_refl _, by omega, Nat.le_trans (d.stageNx e (by omega)) (d.mono (by omega) (by omega)), Nat.le_refl _, q1⟩
end
end Cam

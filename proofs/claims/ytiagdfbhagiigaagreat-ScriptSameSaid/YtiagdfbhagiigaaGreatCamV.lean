/- Cam, part V: a region that draws its order: the pass in the text's order. -/
import Derived.Test.YtiagdfbhagiigaaGreatCamU
namespace Cam
open Go Go.Lib
variable {X : Type} {P : Program}

inductive DC (cfg : Cfg P) (orc : Orc X) (ops : Array Oper) (o : Oper) (mask : Nat) : DS X → DS X → Prop
  | stopped {i : Nat} {tm : Tm} {nx : Nat} {st : Stage X} {old : List (Stage X × Nat)} {frees : List (FreeOp X)} {reads : List ReadOp} {e : Nat} {c : List CPE} (h : mask.testBit e = true) :
      DC cfg orc ops o mask ⟨i, tm, nx, st, old, frees, reads, some e, some c⟩ ⟨i + 1, tm, nx, st, old, frees, reads, some e, some c⟩
  | skip {i : Nat} {tm : Tm} {nx : Nat} {st : Stage X} {old : List (Stage X × Nat)} {frees : List (FreeOp X)} {reads : List ReadOp} {last : Option Nat} (hw : cwanted ops tm o = some false) :
      DC cfg orc ops o mask ⟨i, tm, nx, st, old, frees, reads, last, none⟩ ⟨i + 1, cput tm o.dst unset, nx, st, old, frees, reads, last, none⟩
  | free {i : Nat} {tm : Tm} {nx nx' : Nat} {st : Stage X} {old : List (Stage X × Nat)} {frees : List (FreeOp X)} {reads : List ReadOp} {last : Option Nat} {v : SV} {t : Tr (Chunk X)} (hw : cwanted ops tm o = some true)
      (h : cop cfg ⟨.nil, nx⟩ (cev tm) o = some (.value v ⟨t, nx'⟩)) (hle : nx ≤ nx') :
      DC cfg orc ops o mask ⟨i, tm, nx, st, old, frees, reads, last, none⟩ ⟨i + 1, cput tm o.dst v, nx', st, old, ⟨i, t, nx, nx'⟩ :: frees, reads, last, none⟩
  | read {i : Nat} {tm : Tm} {nx : Nat} {st : Stage X} {old : List (Stage X × Nat)} {frees : List (FreeOp X)} {reads : List ReadOp} {last : Option Nat} {v : SV} (hw : cwanted ops tm o = some true) (hk : kindOf o.op = .read)
      (h : readAt cfg st frees nx mask tm o = some v) (hu : v.under nx = true) (ho : readOld cfg frees nx mask tm o v old = true) :
      DC cfg orc ops o mask ⟨i, tm, nx, st, old, frees, reads, last, none⟩ ⟨i + 1, cput tm o.dst v, nx, st, old, frees, ⟨i, mask, o, tm, v⟩ :: reads, last, none⟩
  | effv {i : Nat} {tm : Tm} {nx nx' : Nat} {st : Stage X} {tr' : Tr (Chunk X)} {old : List (Stage X × Nat)} {frees : List (FreeOp X)} {reads : List ReadOp} {last : Option Nat} {v : SV} (hw : cwanted ops tm o = some true)
      (hlast : ∀ e, last = some e → mask.testBit e = true) (h : effOut orc ⟨stageHeap st mask frees, nx⟩ (cop cfg ⟨stageHeap st mask frees, nx⟩ (cev tm) o) = some (.inl v, ⟨tr', nx'⟩)) (hle : nx ≤ nx')
      (hr : readNew cfg ⟨tr', st.merged ||| maskFrees mask frees, st.done ||| 2 ^ i, nx'⟩ frees nx' mask reads = true) :
      DC cfg orc ops o mask ⟨i, tm, nx, st, old, frees, reads, last, none⟩ ⟨i + 1, cput tm o.dst v, nx', ⟨tr', st.merged ||| maskFrees mask frees, st.done ||| 2 ^ i, nx'⟩, (st, i) :: old, frees, reads, some i, none⟩
  | effp {i : Nat} {tm : Tm} {nx nx' : Nat} {st : Stage X} {tr' : Tr (Chunk X)} {old : List (Stage X × Nat)} {frees : List (FreeOp X)} {reads : List ReadOp} {last : Option Nat} {c : List CPE} (hw : cwanted ops tm o = some true)
      (hlast : ∀ e, last = some e → mask.testBit e = true) (h : effOut orc ⟨stageHeap st mask frees, nx⟩ (cop cfg ⟨stageHeap st mask frees, nx⟩ (cev tm) o) = some (.inr c, ⟨tr', nx'⟩)) (hle : nx ≤ nx') :
      DC cfg orc ops o mask ⟨i, tm, nx, st, old, frees, reads, last, none⟩ ⟨i + 1, tm, nx', ⟨tr', st.merged ||| maskFrees mask frees, st.done ||| 2 ^ i, nx'⟩, (st, i) :: old, frees, reads, some i, some c⟩

theorem dstep_dc (cfg : Cfg P) {orc : Orc X} {ops : Array Oper} {o : Oper} {mask : Nat} {s s' : DS X} (h : dstep cfg orc ops s o mask = some s') : DC cfg orc ops o mask s s' := by
  obtain ⟨i, tm, nx, ⟨tr, merged, done, snx⟩, old, frees, reads, last, stop⟩ := s
  unfold dstep at h
  simp only at h
  split at h
  · rename_i c e
    split at h
    · rename_i hb; cases h; exact .stopped hb
    · cases h
  · cases h
  · split at h
    · cases h
    · rename_i hw; cases h; exact .skip hw
    · rename_i hw
      split at h
      · split at h
        · rename_i v t nx' hc
          split at h
          · rename_i hle; cases h; exact .free hw hc (Nat.le_of_ble_eq_true hle)
          · cases h
        · cases h
      · rename_i hk
        split at h
        · rename_i v hv
          split at h
          · rename_i hb
            cases h
            simp only [Bool.and_eq_true] at hb
            exact .read hw hk hv hb.1 hb.2
          · cases h
        · cases h
      · split at h
        · cases h
        · rename_i hlast
          have hlast' : ∀ e, last = some e → mask.testBit e = true := fun e he => by subst he; exact hlast
          split at h
          · rename_i v tr' nx' heff
            split at h
            · rename_i hb
              cases h
              simp only [Bool.and_eq_true] at hb
              exact .effv (st := ⟨tr, merged, done, snx⟩) hw hlast' heff (Nat.le_of_ble_eq_true hb.1) hb.2
            · cases h
          · rename_i c tr' nx' heff
            split at h
            · rename_i hb
              cases h
              exact .effp (st := ⟨tr, merged, done, snx⟩) hw hlast' heff (Nat.le_of_ble_eq_true hb)
            · cases h
          · cases h

theorem dsteps_trace (cfg : Cfg P) {orc : Orc X} {ops : Array Oper} : ∀ {l : List (Oper × Nat)} {s s' : DS X}, dsteps cfg orc ops l s = some s' →
    ∃ f : Nat → DS X, f 0 = s ∧ f l.length = s' ∧ ∀ i o m, l[i]? = some (o, m) → DC cfg orc ops o m (f i) (f (i + 1))
  | [], s, s', h => by simp only [dsteps, Option.some.injEq] at h; exact ⟨fun _ => s, rfl, h, fun i o m hi => by simp at hi⟩
  | (o, m) :: l, s, s', h => by
    simp only [dsteps] at h
    split at h
    · rename_i s1 h1
      obtain ⟨f, g1, g2, g3⟩ := dsteps_trace cfg h
      refine ⟨fun i => match i with | 0 => s | i + 1 => f i, rfl, g2, fun i o' m' hi => ?_⟩
      cases i with
      | zero => simp at hi; obtain ⟨rfl, rfl⟩ := hi; simp only [g1]; exact dstep_dc cfg h1
      | succ i => simp at hi; exact g3 i o' m' hi
    · cases h

/-- The pass. -/
structure DT (cfg : Cfg P) (orc : Orc X) (ops : Array Oper) (l : List (Oper × Nat)) (f : Nat → DS X) (tm0 : Tm) (h : CHeap X) : Prop where
  ann : Ann ops l
  start : f 0 = ⟨0, tm0, h.next, ⟨h.tr, 0, 0, h.next⟩, [], [], [], none, none⟩
  dc : ∀ i o m, l[i]? = some (o, m) → DC cfg orc ops o m (f i) (f (i + 1))

section
variable {cfg : Cfg P} {orc : Orc X} {ops : Array Oper} {l : List (Oper × Nat)} {f : Nat → DS X} {tm0 : Tm} {h : CHeap X}

theorem DT.at (d : DT cfg orc ops l f tm0 h) {i : Nat} (hi : i < l.length) : ∃ o m, l[i]? = some (o, m) ∧ ops[i]? = some o ∧ DC cfg orc ops o m (f i) (f (i + 1)) := by
  have : l[i]? = some l[i] := List.getElem?_eq_getElem hi
  generalize l[i] = p at this
  obtain ⟨o, m⟩ := p
  exact ⟨o, m, this, d.ann.op _ _ _ this, d.dc _ _ _ this⟩

theorem DT.idx (d : DT cfg orc ops l f tm0 h) : ∀ i, i ≤ l.length → (f i).i = i
  | 0, _ => by rw [d.start]
  | i + 1, hi => by
    obtain ⟨o, m, _, _, hdc⟩ := d.at (i := i) (by omega)
    have ih := d.idx i (by omega)
    generalize f i = s at hdc ih
    generalize f (i + 1) = s' at hdc
    cases hdc <;> simp only at ih ⊢ <;> omega

theorem DT.tmn (d : DT cfg orc ops l f tm0 h) : ∀ i, i ≤ l.length → (f i).tm.n = tm0.n
  | 0, _ => by rw [d.start]
  | i + 1, hi => by
    obtain ⟨o, m, _, _, hdc⟩ := d.at (i := i) (by omega)
    have ih := d.tmn i (by omega)
    have hp : ∀ (t : Tm) (v : SV), (cput t o.dst v).n = t.n := fun t v => by cases o.dst <;> simp [cput, Tm.set_n]
    generalize f i = s at hdc ih
    generalize f (i + 1) = s' at hdc
    cases hdc <;> simp only [hp] at ih ⊢ <;> exact ih

theorem DT.mono1 (d : DT cfg orc ops l f tm0 h) {i : Nat} (hi : i < l.length) : (f i).nx ≤ (f (i + 1)).nx := by
  obtain ⟨o, m, _, _, hdc⟩ := d.at hi
  generalize f i = s at hdc
  generalize f (i + 1) = s' at hdc
  cases hdc <;> simp only <;> first | exact Nat.le_refl _ | assumption

theorem DT.mono (d : DT cfg orc ops l f tm0 h) {i j : Nat} (hij : i ≤ j) (hj : j ≤ l.length) : (f i).nx ≤ (f j).nx := by
  induction j with
  | zero => have : i = 0 := by omega
            subst this; exact Nat.le_refl _
  | succ j ih =>
    rcases Nat.lt_or_ge j i with h1 | h1
    · have : i = j + 1 := by omega
      subst this; exact Nat.le_refl _
    · exact Nat.le_trans (ih h1 (by omega)) (d.mono1 (by omega))

theorem cput_other {t : Tm} {dst : Option Tmp} {x : SV} {u : Tmp} (hne : dst ≠ some u) : (cput t dst x).get u = t.get u := by
  cases dst with
  | none => rfl
  | some d =>
    simp only [cput, Tm.get_set]
    rw [if_neg (fun hh => hne (by rw [hh.1]))]

/-- A temporary that the operations so far have not written. -/
theorem DT.tm1 (d : DT cfg orc ops l f tm0 h) {i : Nat} (hi : i < l.length) {o : Oper} (ho : ops[i]? = some o) {t : Tmp} (hne : o.dst ≠ some t) : (f (i + 1)).tm.get t = (f i).tm.get t := by
  obtain ⟨o', m, _, ho', hdc⟩ := d.at hi
  rw [ho] at ho'; cases ho'
  generalize f i = s at hdc
  generalize f (i + 1) = s' at hdc
  cases hdc <;> simp only [cput_other hne]

theorem DT.tmOld (d : DT cfg orc ops l f tm0 h) {t : Tmp} : ∀ i, i ≤ l.length → (∀ j o, j < i → ops[j]? = some o → o.dst ≠ some t) → (f i).tm.get t = tm0.get t
  | 0, _, _ => by rw [d.start]
  | i + 1, hi, hn => by
    obtain ⟨o, m, _, ho, _⟩ := d.at (i := i) (by omega)
    rw [d.tm1 (by omega) ho (hn i o (by omega) ho)]
    exact d.tmOld i (by omega) (fun j o hj => hn j o (by omega))

theorem DT.tmNew (d : DT cfg orc ops l f tm0 h) {t : Tmp} {j : Nat} {oj : Oper} (hoj : ops[j]? = some oj) (hd : oj.dst = some t) : ∀ i, i ≤ l.length → j < i → (f i).tm.get t = (f (j + 1)).tm.get t
  | 0, _, hj => by omega
  | i + 1, hi, hj => by
    rcases Nat.lt_or_ge j i with h1 | h1
    · obtain ⟨o, m, _, ho, _⟩ := d.at (i := i) (by omega)
      rw [d.tm1 (by omega) ho (fun hh => by have := d.ann.one i j o oj t ho hoj hh hd; omega)]
      exact d.tmNew hoj hd i (by omega) h1
    · have : i = j := by omega
      subst this; rfl

/-! ### operations that are free of memory -/
theorem DT.freesSub (d : DT cfg orc ops l f tm0 h) {fo : FreeOp X} : ∀ {i j : Nat}, i ≤ j → j ≤ l.length → fo ∈ (f i).frees → fo ∈ (f j).frees := by
  intro i j hij
  induction j with
  | zero => intro _ hm; have : i = 0 := by omega
            subst this; exact hm
  | succ j ih =>
    intro hj hm
    rcases Nat.lt_or_ge j i with h1 | h1
    · have : i = j + 1 := by omega
      subst this; exact hm
    · have hm' := ih h1 (by omega) hm
      obtain ⟨o, m, _, ho, hdc⟩ := d.at (i := j) (by omega)
      generalize f j = s at hdc hm'
      generalize f (j + 1) = s' at hdc
      cases hdc <;> simp only at hm' ⊢ <;> first | exact hm' | exact List.mem_cons_of_mem _ hm'

/-- What a free operation is. -/
theorem DT.freeAt (d : DT cfg orc ops l f tm0 h) {fo : FreeOp X} : ∀ i, i ≤ l.length → fo ∈ (f i).frees →
    fo.i < i ∧ fo.lo = (f fo.i).nx ∧ fo.hi = (f (fo.i + 1)).nx ∧ fo ∈ (f (fo.i + 1)).frees ∧ fo ∉ (f fo.i).frees
  | 0, _, hm => by rw [d.start] at hm; cases hm
  | i + 1, hi, hm => by
    obtain ⟨o, m, _, ho, hdc⟩ := d.at (i := i) (by omega)
    have hidx := d.idx i (by omega)
    by_cases hin : fo ∈ (f i).frees
    · obtain ⟨h1, h2⟩ := d.freeAt i (by omega) hin
      exact ⟨by omega, h2⟩
    · have hm0 := hm
      generalize hs : f i = s at hdc hin hidx
      generalize hs' : f (i + 1) = s' at hdc hm
      cases hdc <;> simp only at hin hm hidx <;> first | (exact absurd hm hin) | skip
      subst hidx
      rcases List.mem_cons.1 hm with rfl | hm
      · refine ⟨by simp, by simp [hs], by simp [hs'], ?_, ?_⟩
        · simp only; exact hm0
        · simp only [hs]; exact hin
      · exact absurd hm hin

theorem DT.freeBefore (d : DT cfg orc ops l f tm0 h) {fo : FreeOp X} {i j : Nat} (hj : j ≤ l.length) (hm : fo ∈ (f j).frees) (hi : fo.i < i) (hil : i ≤ l.length) : fo ∈ (f i).frees :=
  d.freesSub (by omega) hil (d.freeAt j hj hm).2.2.2.1

theorem DT.freeOne (d : DT cfg orc ops l f tm0 h) {fo fo' : FreeOp X} {j : Nat} (hj : j ≤ l.length) (hm : fo ∈ (f j).frees) (hm' : fo' ∈ (f j).frees) (hi : fo.i = fo'.i) : fo = fo' := by
  obtain ⟨h1, _, _, h4, h5⟩ := d.freeAt j hj hm
  obtain ⟨h1', _, _, h4', h5'⟩ := d.freeAt j hj hm'
  rw [← hi] at h4' h5'
  obtain ⟨o, m, _, ho, hdc⟩ := d.at (i := fo.i) (by omega)
  generalize f fo.i = s at hdc h5 h5'
  generalize f (fo.i + 1) = s' at hdc h4 h4'
  cases hdc <;> simp only at h4 h4' h5 h5' <;> first | (exact absurd h4 h5) | skip
  rcases List.mem_cons.1 h4 with h6 | h6
  · rcases List.mem_cons.1 h4' with h7 | h7
    · rw [h6, h7]
    · exact absurd h7 h5'
  · exact absurd h6 h5
end
end Cam

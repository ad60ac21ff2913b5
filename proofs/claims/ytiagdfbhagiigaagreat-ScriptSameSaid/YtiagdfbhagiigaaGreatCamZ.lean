/- Cam, part Z: a region that draws its order: the memory in the middle of any order. -/
import Derived.Test.YtiagdfbhagiigaaGreatCamY
namespace Cam
open Go Go.Lib
variable {X : Type} [AbsRep X] {P : Program}

/-- The world, beside the chunks. -/
structure DB (f : Nat → DS X) (L : Nat) (h : CHeap X) (E0 : Env) (own0 : Own) (w0 : World) (S : Nat → Prop) (E : Env) (own : Own) (w : World) : Prop where
  clear : ∀ i, i < L → ¬ S i → ∀ n, (f i).nx ≤ n → n < (f (i + 1)).nx → E n = none ∧ ∀ b, own b ≠ some n
  top : ∀ n, (f L).nx ≤ n → E n = none ∧ ∀ b, own b ≠ some n
  ownlt : ∀ b n, own b = some n → b < w.heap.size
  ext : Ext E0 E
  names0 : ∀ n, n < h.next → E n = E0 n
  owns0 : ∀ b n, own b = some n → n < h.next → own0 b = some n
  os : w.os = w0.os
  tape : w.tape = w0.tape
  output : w.output = w0.output
  size : w0.heap.size ≤ w.heap.size
  keep : ∀ b, b < w0.heap.size → (∀ n, own0 b = some n → h.get n = none) → w.heap[b]? = w0.heap[b]? ∧ own b = own0 b

structure DH (f : Nat → DS X) (l : List (Oper × Nat)) (h : CHeap X) (E0 : Env) (own0 : Own) (w0 : World) (S : Nat → Prop) (q : Nat) (E : Env) (own : Own) (w : World) : Prop where
  base : DB f l.length h E0 own0 w0 S E own w
  q_le : q ≤ l.length
  stop : (f q).stop = none
  qin : ∀ e, Eff f e → e < q → S e
  qout : ∀ e, Eff f e → q ≤ e → ¬ S e
  closed : ∀ i o m j, l[i]? = some (o, m) → S i → m.testBit j = true → S j
  slt : ∀ i, S i → i < l.length
  stage : ∀ n c, (f q).st.tr.get n = some c → Lies E own w n c (f q).st.nx
  frees : ∀ fo ∈ (f l.length).frees, S fo.i → (f q).st.merged.testBit fo.i = false → ∀ n c, fo.tr.get n = some c → fo.lo ≤ n ∧ Lies E own w n c fo.hi
  sep : ∀ fo ∈ (f l.length).frees, (f q).st.merged.testBit fo.i = false → ∀ n, fo.lo ≤ n → n < fo.hi → (f q).st.tr.get n = none
  live : ∀ n, n < h.next → h.get n = none → (f q).st.tr.get n = none

section
variable {cfg : Cfg P} {orc : Orc X} {ops : Array Oper} {l : List (Oper × Nat)} {f : Nat → DS X} {tm0 : Tm} {h : CHeap X} {S : Nat → Prop} {E : Env} {own : Own} {w : World} {E0 : Env} {own0 : Own} {w0 : World}

omit [AbsRep X] in
theorem get_tr (h : CHeap X) (n : Nat) : h.get n = h.tr.get n := rfl

omit [AbsRep X] in
theorem DT.nx0 (d : DT cfg orc ops l f tm0 h) {i : Nat} (hi : i ≤ l.length) : h.next ≤ (f i).nx := by
  have := d.mono (i := 0) (j := i) (by omega) hi
  rw [d.start] at this
  exact this

omit [AbsRep X] in
theorem DB.grow (s : DB f l.length h E0 own0 w0 S E own w) {i : Nat} : DB f l.length h E0 own0 w0 (fun j => S j ∨ j = i) E own w :=
  ⟨fun j hj hS => s.clear j hj (fun hh => hS (.inl hh)), s.top, s.ownlt, s.ext, s.names0, s.owns0, s.os, s.tape, s.output, s.size, s.keep⟩

theorem DB.step (d : DT cfg orc ops l f tm0 h) (e0 : Emb E0 own0 h w0) (s : DB f l.length h E0 own0 w0 S E own w) {i : Nat} (hi : i < l.length) {hs hs' : CHeap X} {E' : Env} {own' : Own} {w' : World}
    (bs : Beside E own w hs E' own' hs' w') (h1 : hs.next = (f i).nx) (h2 : hs'.next = (f (i + 1)).nx) (hl : ∀ n, n < h.next → h.get n = none → hs.get n = none) :
    DB f l.length h E0 own0 w0 (fun j => S j ∨ j = i) (joinE E E' hs'.next) (joinO own own' hs'.next) w' where
  clear := fun j hj hS n hn1 hn2 => by
    have hji : j ≠ i := fun he => hS (.inr he)
    have hr : n < hs.next ∨ hs'.next ≤ n := by
      rcases Nat.lt_or_ge j i with h3 | h3
      · have := d.mono (i := j + 1) (j := i) (by omega) (by omega); exact .inl (by omega)
      · have := d.mono (i := i + 1) (j := j) (by omega) (by omega); exact .inr (by omega)
    obtain ⟨g1, g2⟩ := s.clear j hj (fun hh => hS (.inl hh)) n hn1 hn2
    refine ⟨by rw [bs.names hr]; exact g1, fun b hb => ?_⟩
    rcases (bs.owns hb).2 with q | q
    · exact g2 b q
    · omega
  top := fun n hn => by
    have := d.mono (i := i + 1) (j := l.length) (by omega) (Nat.le_refl _)
    obtain ⟨g1, g2⟩ := s.top n hn
    refine ⟨by rw [bs.names (.inr (by omega))]; exact g1, fun b hb => ?_⟩
    rcases (bs.owns hb).2 with q | q
    · exact g2 b q
    · omega
  ownlt := fun b n hb => (bs.owns hb).1
  ext := s.ext.trans bs.ext
  names0 := fun n hn => by
    have := d.nx0 (i := i) (by omega)
    rw [bs.names (.inl (by omega))]; exact s.names0 n hn
  owns0 := fun b n hb hn => by
    have := d.nx0 (i := i) (by omega)
    rcases (bs.owns hb).2 with q | q
    · exact s.owns0 b n q hn
    · omega
  os := bs.tran.os.trans s.os
  tape := bs.tran.tape.trans s.tape
  output := bs.tran.output.trans s.output
  size := Nat.le_trans s.size bs.tran.size
  keep := fun b hb hn => by
    obtain ⟨g1, g2⟩ := s.keep b hb hn
    have := d.nx0 (i := i) (by omega)
    obtain ⟨k1, k2⟩ := bs.keep (b := b) (Nat.lt_of_lt_of_le hb s.size) (fun n hn' => by
      rw [g2] at hn'
      have hlt := (e0.own_lt b n hn').2
      exact .inl ⟨by omega, hl n hlt (hn n hn')⟩)
    exact ⟨k1.trans g1, k2.trans g2⟩

variable {q : Nat}

theorem DH.start (d : DT cfg orc ops l f tm0 h) (e0 : Emb E0 own0 h w0) : DH f l h E0 own0 w0 (fun _ => False) 0 E0 own0 { w0 with drawn := w0.drawn + 1 } where
  base := {
    clear := fun i hi _ n hn _ => by
      have := d.nx0 (i := i) (by omega)
      exact ⟨e0.fresh n (by omega), fun b hb => by have := (e0.own_lt b n hb).2; omega⟩
    top := fun n hn => by
      have := d.nx0 (i := l.length) (Nat.le_refl _)
      exact ⟨e0.fresh n (by omega), fun b hb => by have := (e0.own_lt b n hb).2; omega⟩
    ownlt := fun b n hb => (e0.own_lt b n hb).1
    ext := Ext.refl _
    names0 := fun _ _ => rfl
    owns0 := fun _ _ hb _ => hb
    os := rfl
    tape := rfl
    output := rfl
    size := Nat.le_refl _
    keep := fun _ _ _ => ⟨rfl, rfl⟩ }
  q_le := by omega
  stop := by rw [d.start]
  qin := fun e _ he => by omega
  qout := fun _ _ _ hh => hh
  closed := fun _ _ _ _ _ hh => hh.elim
  slt := fun _ hh => hh.elim
  stage := fun n c hc => by
    rw [d.start] at hc ⊢
    have hc' : h.get n = some c := hc
    obtain ⟨nb, g1, g2⟩ := e0.ch n c hc'
    exact ⟨e0.lt n c hc', nb, g1, ChunkOK.world (w := w0) (w' := { w0 with drawn := w0.drawn + 1 }) (fun _ hb => hb) (fun _ _ => rfl) (g2.ext (ext_upto (Ext.refl _) e0.fresh))⟩
  frees := fun _ _ hh => hh.elim
  sep := fun fo hfo _ n hn1 hn2 => by
    obtain ⟨g1, g2, _⟩ := d.freeAt l.length (Nat.le_refl _) hfo
    have := d.nx0 (i := fo.i) (by omega)
    rw [d.start]
    cases hc : h.tr.get n with
    | none => rfl
    | some c => have := e0.lt n c hc; omega
  live := fun n _ hn => by rw [d.start]; exact hn

theorem Beside.make (s : DB f l.length h E0 own0 w0 S E own w) {i : Nat} (hi : i < l.length) (hS : ¬ S i) {hs hs' : CHeap X} {E' : Env} {own' : Own} {w' : World} (e : Emb E' own' hs' w')
    (t : Tran (upto E hs.next) (ownUpto own hs.next) hs w E' own' hs' w') (h1 : hs.next = (f i).nx) (h2 : hs'.next = (f (i + 1)).nx) : Beside E own w hs E' own' hs' w' :=
  ⟨e, t, fun n hn1 hn2 => s.clear i hi hS n (by omega) (by omega), s.ownlt⟩

/-- A name that lies somewhere is not one that operation i will make. -/
theorem DB.apart (s : DB f l.length h E0 own0 w0 S E own w) {i : Nat} (hi : i < l.length) (hS : ¬ S i) {n k : Nat} {c : Chunk X} (hl : Lies E own w n c k) : n < (f i).nx ∨ (f (i + 1)).nx ≤ n := by
  obtain ⟨_, nb, h2, _⟩ := hl
  rcases Nat.lt_or_ge n (f i).nx with h3 | h3
  · exact .inl h3
  · rcases Nat.lt_or_ge n (f (i + 1)).nx with h4 | h4
    · rw [(s.clear i hi hS n h3 h4).1] at h2; cases h2
    · exact .inr h4

theorem closed_step (hc : ∀ i o m j, l[i]? = some (o, m) → S i → m.testBit j = true → S j) {i : Nat} {o : Oper} {m : Nat} (hl : l[i]? = some (o, m)) (hanc : ∀ j, m.testBit j = true → S j) :
    ∀ i' o' m' j, l[i']? = some (o', m') → (S i' ∨ i' = i) → m'.testBit j = true → (S j ∨ j = i) := by
  intro i' o' m' j h1 h2 h3
  rcases h2 with h2 | h2
  · exact .inl (hc i' o' m' j h1 h2 h3)
  · subst h2
    rw [hl] at h1; cases h1
    exact .inl (hanc j h3)

/-- A step that leaves the world. -/
theorem DH.idle (s : DH f l h E0 own0 w0 S q E own w) {i : Nat} {o : Oper} {m : Nat} (hl : l[i]? = some (o, m)) (hanc : ∀ j, m.testBit j = true → S j) (hne : ¬ Eff f i)
    (hnf : ∀ fo ∈ (f l.length).frees, fo.i ≠ i) : DH f l h E0 own0 w0 (fun j => S j ∨ j = i) q E own w where
  base := s.base.grow
  q_le := s.q_le
  stop := s.stop
  qin := fun e he hq => .inl (s.qin e he hq)
  qout := fun e he hq hh => by
    rcases hh with hh | hh
    · exact s.qout e he hq hh
    · subst hh; exact hne he
  closed := closed_step s.closed hl hanc
  slt := fun j hj => by
    rcases hj with hj | hj
    · exact s.slt j hj
    · subst hj; exact (List.getElem?_eq_some_iff.1 hl).1
  stage := s.stage
  frees := fun fo hfo hS => by
    rcases hS with hS | hS
    · exact s.frees fo hfo hS
    · exact absurd hS (hnf fo hfo)
  sep := s.sep
  live := s.live

/-- A step that makes something new. -/
theorem DH.free (d : DT cfg orc ops l f tm0 h) (e0 : Emb E0 own0 h w0) (s : DH f l h E0 own0 w0 S q E own w) {i : Nat} {o : Oper} {m : Nat} (hl : l[i]? = some (o, m)) (hS : ¬ S i) (hanc : ∀ j, m.testBit j = true → S j) (hne : ¬ Eff f i)
    {t : Tr (Chunk X)} (hfree : ∀ fo ∈ (f l.length).frees, fo.i = i → fo.tr = t ∧ fo.lo = (f i).nx ∧ fo.hi = (f (i + 1)).nx) {E' : Env} {own' : Own} {w' : World}
    (bs : Beside E own w ⟨.nil, (f i).nx⟩ E' own' ⟨t, (f (i + 1)).nx⟩ w') :
    DH f l h E0 own0 w0 (fun j => S j ∨ j = i) q (joinE E E' (f (i + 1)).nx) (joinO own own' (f (i + 1)).nx) w' := by
  have hi : i < l.length := (List.getElem?_eq_some_iff.1 hl).1
  have other : ∀ {n k : Nat} {c : Chunk X}, Lies E own w n c k → Lies (joinE E E' (f (i + 1)).nx) (joinO own own' (f (i + 1)).nx) w' n c k := fun {n k c} hL => by
    refine bs.other ?_ hL
    rcases s.base.apart hi hS hL with q | q
    · exact .inl ⟨q, rfl⟩
    · exact .inr q
  exact {
    base := DB.step d e0 s.base hi bs rfl rfl (fun _ _ _ => rfl)
    q_le := s.q_le
    stop := s.stop
    qin := fun e he hq => .inl (s.qin e he hq)
    qout := fun e he hq hh => by
      rcases hh with hh | hh
      · exact s.qout e he hq hh
      · subst hh; exact hne he
    closed := closed_step s.closed hl hanc
    slt := fun j hj => by
      rcases hj with hj | hj
      · exact s.slt j hj
      · subst hj; exact hi
    stage := fun n c hc => other (s.stage n c hc)
    frees := fun fo hfo hSf hm n c hc => by
      rcases hSf with hSf | hSf
      · obtain ⟨g1, g2⟩ := s.frees fo hfo hSf hm n c hc
        exact ⟨g1, other g2⟩
      · obtain ⟨g1, g2, g3⟩ := hfree fo hfo hSf
        rw [g1] at hc
        rw [g2, g3]
        refine ⟨?_, bs.new hc⟩
        rcases Nat.lt_or_ge n (f i).nx with h1 | h1
        · have := bs.tran.live n h1 rfl
          have hc' : CHeap.get ⟨t, (f (i + 1)).nx⟩ n = some c := hc
          rw [this] at hc'; cases hc'
        · exact h1
    sep := s.sep
    live := s.live }

/-- At an effect: which stage it is. -/
theorem DH.atEff (d : DT cfg orc ops l f tm0 h) (s : DH f l h E0 own0 w0 S q E own w) {i : Nat} {o : Oper} {m : Nat} (hl : l[i]? = some (o, m)) (hS : ¬ S i) (hanc : ∀ j, m.testBit j = true → S j) (hE : Eff f i) :
    q ≤ i ∧ (∀ e, q ≤ e → e < i → ¬ Eff f e) ∧ (f i).st = (f q).st := by
  have hi : i < l.length := (List.getElem?_eq_some_iff.1 hl).1
  have hqi : q ≤ i := by
    rcases Nat.lt_or_ge i q with h1 | h1
    · exact absurd (s.qin i hE h1) hS
    · exact h1
  have hno : ∀ e, q ≤ e → e < i → ¬ Eff f e := fun e h1 h2 he => by
    obtain ⟨e', g1, g2, g3, g4⟩ := d.effChain he hi hE h2 hl
    exact s.qout e' g1 (by omega) (hanc e' g4)
  exact ⟨hqi, hno, (d.sameStage hqi (by omega) hno).1⟩

omit [AbsRep X] in
theorem DT.freeRange (d : DT cfg orc ops l f tm0 h) {fo fo' : FreeOp X} (h1 : fo ∈ (f l.length).frees) (h2 : fo' ∈ (f l.length).frees) {n : Nat} (a1 : fo.lo ≤ n) (a2 : n < fo.hi) (b1 : fo'.lo ≤ n) (b2 : n < fo'.hi) : fo = fo' := by
  obtain ⟨g1, g2, g3, _⟩ := d.freeAt l.length (Nat.le_refl _) h1
  obtain ⟨k1, k2, k3, _⟩ := d.freeAt l.length (Nat.le_refl _) h2
  refine d.freeOne (Nat.le_refl _) h1 h2 ?_
  rcases Nat.lt_trichotomy fo.i fo'.i with q | q | q
  · have := d.mono (i := fo.i + 1) (j := fo'.i) (by omega) (by omega); omega
  · exact q
  · have := d.mono (i := fo'.i + 1) (j := fo.i) (by omega) (by omega); omega

/-- What an effect is run on. -/
theorem DH.preEff (d : DT cfg orc ops l f tm0 h) (s : DH f l h E0 own0 w0 S q E own w) {i : Nat} {o : Oper} {m : Nat} (hl : l[i]? = some (o, m)) (hS : ¬ S i) (hanc : ∀ j, m.testBit j = true → S j) (hE : Eff f i) :
    (∀ n c, (stageHeap (f i).st m (f i).frees).get n = some c → ∃ k, k ≤ (f i).nx ∧ Lies E own w n c k) ∧
    (∀ n, n < h.next → h.get n = none → (stageHeap (f i).st m (f i).frees).get n = none) ∧
    (∀ fo ∈ (f l.length).frees, (f i).st.merged.testBit fo.i = false → m.testBit fo.i = false → ∀ n, fo.lo ≤ n → n < fo.hi → (stageHeap (f i).st m (f i).frees).get n = none) := by
  have hi : i < l.length := (List.getElem?_eq_some_iff.1 hl).1
  obtain ⟨hqi, hno, hst⟩ := s.atEff d hl hS hanc hE
  refine ⟨fun n c hc => ?_, fun n hn hn' => ?_, fun fo hfo hm1 hm2 n hn1 hn2 => ?_⟩
  · rcases stageHeap_get hc with g | ⟨fo, g1, g2, g3, g4, g5, g6⟩
    · rw [hst] at g
      exact ⟨_, Nat.le_trans (d.stageNx q s.q_le) (d.mono hqi (by omega)), s.stage n c g⟩
    · obtain ⟨k1, k2, k3, _⟩ := d.freeAt i (by omega) g1
      rw [hst] at g3
      exact ⟨fo.hi, by rw [k3]; exact d.mono (by omega) (by omega), (s.frees fo (d.freesSub (by omega) (Nat.le_refl _) g1) (hanc _ g2) g3 n c g6).2⟩
  · cases hc : (stageHeap (f i).st m (f i).frees).get n with
    | none => rfl
    | some c =>
      rcases stageHeap_get hc with g | ⟨fo, g1, g2, g3, g4, g5, g6⟩
      · rw [hst, s.live n hn hn'] at g; cases g
      · obtain ⟨k1, k2, k3, _⟩ := d.freeAt i (by omega) g1
        have := d.nx0 (i := fo.i) (by omega)
        omega
  · cases hc : (stageHeap (f i).st m (f i).frees).get n with
    | none => rfl
    | some c =>
      rcases stageHeap_get hc with g | ⟨fo', g1, g2, g3, g4, g5, g6⟩
      · rw [hst] at g hm1
        rw [s.sep fo hfo hm1 n hn1 hn2] at g; cases g
      · have := d.freeRange hfo (d.freesSub (by omega) (Nat.le_refl _) g1) hn1 hn2 g4 g5
        subst this
        rw [hm2] at g2; cases g2

/-- An effect. -/
theorem DH.eff (d : DT cfg orc ops l f tm0 h) (e0 : Emb E0 own0 h w0) (s : DH f l h E0 own0 w0 S q E own w) {i : Nat} {o : Oper} {m : Nat} (hl : l[i]? = some (o, m)) (hS : ¬ S i) (hanc : ∀ j, m.testBit j = true → S j) (hE : Eff f i)
    {tr' : Tr (Chunk X)} (hst' : (f (i + 1)).st = ⟨tr', (f i).st.merged ||| maskFrees m (f i).frees, (f i).st.done ||| 2 ^ i, (f (i + 1)).nx⟩) (hfr : (f (i + 1)).frees = (f i).frees) (hstop : (f (i + 1)).stop = none)
    {E' : Env} {own' : Own} {w' : World} (bs : Beside E own w ⟨stageHeap (f i).st m (f i).frees, (f i).nx⟩ E' own' ⟨tr', (f (i + 1)).nx⟩ w') :
    DH f l h E0 own0 w0 (fun j => S j ∨ j = i) (i + 1) (joinE E E' (f (i + 1)).nx) (joinO own own' (f (i + 1)).nx) w' := by
  have hi : i < l.length := (List.getElem?_eq_some_iff.1 hl).1
  obtain ⟨hqi, hno, hst⟩ := s.atEff d hl hS hanc hE
  obtain ⟨p1, p2, p3⟩ := s.preEff d hl hS hanc hE
  have hnf : ∀ fo ∈ (f l.length).frees, fo.i ≠ i := fun fo hfo he => by
    obtain ⟨_, _, _, k4, k5⟩ := d.freeAt l.length (Nat.le_refl _) hfo
    rw [he] at k4 k5
    rw [hfr] at k4
    exact k5 k4
  have hmerge : ∀ fo ∈ (f l.length).frees, (f (i + 1)).st.merged.testBit fo.i = false → (f i).st.merged.testBit fo.i = false ∧ (fo.i < i → m.testBit fo.i = false) := fun fo hfo hm => by
    rw [hst'] at hm
    simp only [Nat.testBit_or, Bool.or_eq_false_iff] at hm
    refine ⟨hm.1, fun hlt => ?_⟩
    cases hb : m.testBit fo.i with
    | false => rfl
    | true => rw [maskFrees_bit (d.freeBefore (Nat.le_refl _) hfo hlt (by omega)) hb] at hm; cases hm.2
  exact {
    base := DB.step d e0 s.base hi bs rfl rfl p2
    q_le := hi
    stop := hstop
    qin := fun e he hq => by
      rcases Nat.lt_or_ge e i with h1 | h1
      · rcases Nat.lt_or_ge e q with h2 | h2
        · exact .inl (s.qin e he h2)
        · exact absurd he (hno e h2 h1)
      · exact .inr (by omega)
    qout := fun e he hq hh => by
      rcases hh with hh | hh
      · exact s.qout e he (by omega) hh
      · omega
    closed := closed_step s.closed hl hanc
    slt := fun j hj => by
      rcases hj with hj | hj
      · exact s.slt j hj
      · subst hj; exact hi
    stage := fun n c hc => by
      rw [hst'] at hc ⊢
      exact bs.new hc
    frees := fun fo hfo hSf hm n c hc => by
      obtain ⟨g1, g2⟩ := hmerge fo hfo hm
      have hSf' : S fo.i := hSf.resolve_right (hnf fo hfo)
      obtain ⟨hlo, hL⟩ := s.frees fo hfo hSf' (by rw [← hst]; exact g1) n c hc
      refine ⟨hlo, bs.other ?_ hL⟩
      obtain ⟨k1, k2, k3, k4, k5⟩ := d.freeAt l.length (Nat.le_refl _) hfo
      rcases Nat.lt_or_ge fo.i i with h1 | h1
      · have hn3 : n < (f i).nx := by
          have := hL.1
          have := d.mono (i := fo.i + 1) (j := i) (by omega) (by omega); omega
        exact .inl ⟨hn3, p3 fo hfo g1 (g2 h1) n hlo hL.1⟩
      · have hne := hnf fo hfo
        have := d.mono (i := i + 1) (j := fo.i) (by omega) (by omega)
        exact .inr (by simp only; omega)
    sep := fun fo hfo hm n hn1 hn2 => by
      obtain ⟨g1, g2⟩ := hmerge fo hfo hm
      obtain ⟨k1, k2, k3, k4, k5⟩ := d.freeAt l.length (Nat.le_refl _) hfo
      rw [hst']
      rcases Nat.lt_or_ge fo.i i with h1 | h1
      · have hn3 : n < (f i).nx := by
          have := d.mono (i := fo.i + 1) (j := i) (by omega) (by omega); omega
        exact bs.tran.live n hn3 (p3 fo hfo g1 (g2 h1) n hn1 hn2)
      · have hne := hnf fo hfo
        have hge : (f (i + 1)).nx ≤ n := by
          have := d.mono (i := i + 1) (j := fo.i) (by omega) (by omega); omega
        cases hg : tr'.get n with
        | none => rfl
        | some c' => have := bs.emb.lt n c' hg; simp only at this; omega
    live := fun n hn hn' => by
      rw [hst']
      have := d.nx0 (i := i) (by omega)
      exact bs.tran.live n (by simp only; omega) (p2 n hn hn') }
end
end Cam

/- Cam, part U: an operation that is run on a part of the memory: what it does to the rest. -/
import Derived.Test.YtiagdfbhagiigaaGreatCamT
namespace Cam
open Go Go.Lib
variable {X : Type} [AbsRep X] {P : Program}

/-- Chunk c, made of names below k alone, lies at name n. -/
def Lies (E : Env) (own : Own) (w : World) (n : Nat) (c : Chunk X) (k : Nat) : Prop := n < k ∧ ∃ nb, E n = some nb ∧ ChunkOK (upto E k) own w n nb c

theorem part_emb {E : Env} {own : Own} {w : World} {hs : CHeap X} (hH : ∀ n c, hs.get n = some c → ∃ k, k ≤ hs.next ∧ Lies E own w n c k) (hown : ∀ b n, own b = some n → b < w.heap.size) :
    Emb (upto E hs.next) (ownUpto own hs.next) hs w where
  ch := fun n c hc => by
    obtain ⟨k, hk, h1, nb, h2, h3⟩ := hH n c hc
    exact ⟨nb, upto_some.2 ⟨by omega, h2⟩, (h3.ext (upto_mono (Ext.refl E) hk)).world (fun b hb => ownUpto_some.2 ⟨by omega, hb⟩) (fun _ _ => rfl)⟩
  lt := fun n c hc => by
    obtain ⟨k, hk, h1, _⟩ := hH n c hc
    omega
  fresh := fun n hn => by simp only [upto]; rw [if_neg (by omega)]
  own_lt := fun b n hb => by
    obtain ⟨h1, h2⟩ := ownUpto_some.1 hb
    exact ⟨hown _ _ h2, h1⟩

def joinE (E E' : Env) (k : Nat) : Env := fun n => if n < k then E' n else E n
def joinO (own own' : Own) (k : Nat) : Own := fun b => match own' b with
  | some n => some n
  | none => match own b with
    | some n => if n < k then none else some n
    | none => none

/-- The rest, beside a stretch that was run on a part. -/
structure Beside (E : Env) (own : Own) (w : World) (hs : CHeap X) (E' : Env) (own' : Own) (hs' : CHeap X) (w' : World) : Prop where
  emb : Emb E' own' hs' w'
  tran : Tran (upto E hs.next) (ownUpto own hs.next) hs w E' own' hs' w'
  clear : ∀ n, hs.next ≤ n → n < hs'.next → E n = none ∧ ∀ b, own b ≠ some n
  own : ∀ b n, own b = some n → b < w.heap.size

section
variable {E : Env} {own : Own} {w : World} {hs : CHeap X} {E' : Env} {own' : Own} {hs' : CHeap X} {w' : World}

theorem Beside.below (h : Beside E own w hs E' own' hs' w') {n : Nat} (hn : n < hs.next) : E' n = E n := by
  rw [h.tran.names n hn]; simp only [upto]; rw [if_pos hn]

theorem Beside.ext (h : Beside E own w hs E' own' hs' w') : Ext E (joinE E E' hs'.next) := fun n nb hn => by
  simp only [joinE]
  split
  · rename_i h1
    rcases Nat.lt_or_ge n hs.next with h2 | h2
    · rw [h.below h2]; exact hn
    · rw [(h.clear n h2 h1).1] at hn; cases hn
  · exact hn

theorem Beside.ext' (h : Beside E own w hs E' own' hs' w') : Ext E' (upto (joinE E E' hs'.next) hs'.next) := fun n nb hn => by
  have h1 : n < hs'.next := by
    rcases Nat.lt_or_ge n hs'.next with h1 | h1
    · exact h1
    · rw [h.emb.fresh n h1] at hn; cases hn
  exact upto_some.2 ⟨h1, by simp only [joinE]; rw [if_pos h1]; exact hn⟩

theorem Beside.names (h : Beside E own w hs E' own' hs' w') {n : Nat} (hn : n < hs.next ∨ hs'.next ≤ n) : joinE E E' hs'.next n = E n := by
  simp only [joinE]
  have := h.tran.next
  split
  · rename_i h1
    rcases hn with h2 | h2
    · exact h.below h2
    · omega
  · rfl

theorem Beside.keep (h : Beside E own w hs E' own' hs' w') {b : Nat} (hb : b < w.heap.size) (hn : ∀ n, own b = some n → (n < hs.next ∧ hs.get n = none) ∨ hs'.next ≤ n) :
    w'.heap[b]? = w.heap[b]? ∧ joinO own own' hs'.next b = own b := by
  have hnx := h.tran.next
  obtain ⟨h1, h2⟩ := h.tran.keep b hb (fun n hn' => by
    obtain ⟨q1, q2⟩ := ownUpto_some.1 hn'
    rcases hn n q2 with q | q
    · exact q.2
    · omega)
  refine ⟨h1, ?_⟩
  simp only [joinO, h2]
  cases ho : own b with
  | none => simp [ownUpto, ho]
  | some n =>
    rcases hn n ho with q | q
    · have : ownUpto own hs.next b = some n := ownUpto_some.2 ⟨q.1, ho⟩
      rw [this]
    · have : ownUpto own hs.next b = none := by
        simp only [ownUpto, ho]; rw [if_neg (by omega)]
      rw [this]
      simp only
      rw [if_neg (by omega)]

theorem Beside.other (h : Beside E own w hs E' own' hs' w') {n k : Nat} {c : Chunk X} (hn : (n < hs.next ∧ hs.get n = none) ∨ hs'.next ≤ n) (hl : Lies E own w n c k) :
    Lies (joinE E E' hs'.next) (joinO own own' hs'.next) w' n c k := by
  obtain ⟨h1, nb, h2, h3⟩ := hl
  have hk : ∀ b, own b = some n → w'.heap[b]? = w.heap[b]? ∧ joinO own own' hs'.next b = own b := fun b hb => h.keep (h.own _ _ hb) (fun m hm => by rw [hb] at hm; cases hm; exact hn)
  exact ⟨h1, nb, h.ext _ _ h2, (h3.ext (upto_mono h.ext (Nat.le_refl _))).world (fun b hb => by rw [(hk b hb).2]; exact hb) (fun b hb => (hk b hb).1)⟩

theorem Beside.new (h : Beside E own w hs E' own' hs' w') {n : Nat} {c : Chunk X} (hc : hs'.get n = some c) : Lies (joinE E E' hs'.next) (joinO own own' hs'.next) w' n c hs'.next := by
  obtain ⟨nb, h1, h2⟩ := h.emb.ch n c hc
  have hlt := h.emb.lt n c hc
  refine ⟨hlt, nb, by simp only [joinE]; rw [if_pos hlt]; exact h1, (h2.ext h.ext').world (fun b hb => by simp only [joinO, hb]) (fun _ _ => rfl)⟩

theorem Beside.owns (h : Beside E own w hs E' own' hs' w') {b n : Nat} (hb : joinO own own' hs'.next b = some n) : b < w'.heap.size ∧ (own b = some n ∨ (hs.next ≤ n ∧ n < hs'.next)) := by
  simp only [joinO] at hb
  split at hb
  · rename_i m hm
    cases hb
    obtain ⟨q1, q2⟩ := h.emb.own_lt _ _ hm
    refine ⟨q1, ?_⟩
    rcases Nat.lt_or_ge n hs.next with h1 | h1
    · exact .inl (ownUpto_some.1 (h.tran.owns _ _ hm h1)).2
    · exact .inr ⟨h1, q2⟩
  · split at hb
    · rename_i m hm
      split at hb
      · cases hb
      · cases hb
        exact ⟨Nat.lt_of_lt_of_le (h.own _ _ hm) h.tran.size, .inl hm⟩
    · cases hb
end

/-! ### annotations -/
theorem maskOf_spec {ms : Tr Nat} {i : Nat} : ∀ {l : List Edge} {s m : Nat}, maskOf ms i l s = some m →
    (∀ e ∈ l, Region.binds .any e = true → e.on < i) ∧
    (∀ j, m.testBit j = true → s.testBit j = true ∨ ∃ e ∈ l, Region.binds .any e = true ∧ (j = e.on ∨ ∃ m', ms.get e.on = some m' ∧ m'.testBit j = true))
  | [], s, m, h => by
    simp only [maskOf, Option.some.injEq] at h
    subst h
    exact ⟨fun _ h => (by cases h), fun j hj => .inl hj⟩
  | e :: l, s, m, h => by
    simp only [maskOf] at h
    split at h
    · rename_i hb
      split at h
      · rename_i m' hlt hm
        obtain ⟨h1, h2⟩ := maskOf_spec h
        have hlt' : e.on < i := by rw [Nat.blt_eq] at hlt; exact hlt
        refine ⟨fun e' he' hb' => ?_, fun j hj => ?_⟩
        · rcases List.mem_cons.1 he' with rfl | he'
          · exact hlt'
          · exact h1 e' he' hb'
        · rcases h2 j hj with h3 | ⟨e', he', h4⟩
          · rw [Nat.testBit_or, Nat.testBit_or, Nat.testBit_two_pow] at h3
            simp only [Bool.or_eq_true, decide_eq_true_eq] at h3
            rcases h3 with (h3 | h3) | h3
            · exact .inl h3
            · exact .inr ⟨e, List.mem_cons_self, hb, .inl h3.symm⟩
            · exact .inr ⟨e, List.mem_cons_self, hb, .inr ⟨m', hm, h3⟩⟩
          · exact .inr ⟨e', List.mem_cons_of_mem _ he', h4⟩
      · cases h
    · rename_i hb
      obtain ⟨h1, h2⟩ := maskOf_spec h
      refine ⟨fun e' he' hb' => ?_, fun j hj => ?_⟩
      · rcases List.mem_cons.1 he' with rfl | he'
        · rw [hb] at hb'; cases hb'
        · exact h1 e' he' hb'
      · rcases h2 j hj with h3 | ⟨e', he', h4⟩
        · exact .inl h3
        · exact .inr ⟨e', List.mem_cons_of_mem _ he', h4⟩

theorem looksOk_spec {wr : Tr Nat} {i m : Nat} : ∀ {l : List Tmp}, looksOk wr i m l = true → ∀ t ∈ l, ∀ j, wr.get t = some j → j < i → m.testBit j = true
  | [], _, t, ht => by cases ht
  | t :: l, h, u, hu => by
    simp only [looksOk, Bool.and_eq_true] at h
    intro j hj hlt
    rcases List.mem_cons.1 hu with rfl | hu
    · have h1 := h.1
      rw [hj] at h1
      simp only at h1
      split at h1
      · exact h1
      · rename_i hb
        have : Nat.blt j i = true := by rw [Nat.blt_eq]; exact hlt
        rw [this] at hb; cases hb
    · exact looksOk_spec h.2 u hu j hj hlt

theorem readersOk_spec {d m : Nat} : ∀ {l : List (Nat × List Tmp)}, readersOk d m l = true → ∀ i ls, (i, ls) ∈ l → d ∈ ls → m.testBit i = true
  | [], _, i, ls, h => by cases h
  | (i0, ls0) :: l, h, i, ls, hm => by
    simp only [readersOk, Bool.and_eq_true] at h
    intro hd
    rcases List.mem_cons.1 hm with he | hm
    · simp only [Prod.mk.injEq] at he
      have h1 := h.1
      have : ls0.contains d = true := by rw [← he.2]; simpa using hd
      rw [this] at h1
      rw [he.1]
      exact h1
    · exact readersOk_spec h.2 i ls hm hd

theorem writers_spec : ∀ {l : List Oper} {i : Nat} {t wr : Tr Nat}, writers i l t = some wr → (∀ d j, t.get d = some j → j < i) →
    (∀ d j, t.get d = some j → wr.get d = some j) ∧ (∀ k o d, l[k]? = some o → o.dst = some d → wr.get d = some (i + k)) ∧
    (∀ d j, wr.get d = some j → t.get d = some j ∨ ∃ k o, j = i + k ∧ l[k]? = some o ∧ o.dst = some d)
  | [], i, t, wr, h, ht => by
    simp only [writers, Option.some.injEq] at h; subst h
    exact ⟨fun _ _ h => h, fun k o d hk => by simp at hk, fun d j h => .inl h⟩
  | o :: l, i, t, wr, h, ht => by
    simp only [writers] at h
    split at h
    · rename_i hd
      obtain ⟨h1, h2, h3⟩ := writers_spec h (fun d j hj => Nat.lt_succ_of_lt (ht d j hj))
      refine ⟨h1, fun k o' d hk hd' => ?_, fun d j hj => ?_⟩
      · cases k with
        | zero => simp at hk; subst hk; rw [hd] at hd'; cases hd'
        | succ k => simp at hk; rw [h2 k o' d hk hd']; congr 1; omega
      · rcases h3 d j hj with q | ⟨k, o', q1, q2, q3⟩
        · exact .inl q
        · exact .inr ⟨k + 1, o', by omega, by simpa using q2, q3⟩
    · rename_i d0 hd
      split at h
      · cases h
      · rename_i hnone
        obtain ⟨h1, h2, h3⟩ := writers_spec h (fun d j hj => by
          rw [Tr.get_set] at hj
          split at hj
          · cases hj; omega
          · exact Nat.lt_succ_of_lt (ht d j hj))
        refine ⟨fun d j hj => h1 d j ?_, fun k o' d hk hd' => ?_, fun d j hj => ?_⟩
        · rw [Tr.get_set, if_neg (fun he => by rw [he, hnone] at hj; cases hj)]; exact hj
        · cases k with
          | zero =>
            simp at hk; subst hk; rw [hd] at hd'; cases hd'
            exact h1 d0 i (by rw [Tr.get_set, if_pos rfl])
          | succ k => simp at hk; rw [h2 k o' d hk hd']; congr 1; omega
        · rcases h3 d j hj with q | ⟨k, o', q1, q2, q3⟩
          · rw [Tr.get_set] at q
            split at q
            · rename_i he; cases q; subst he; exact .inr ⟨0, o, by omega, rfl, hd⟩
            · exact .inl q
          · exact .inr ⟨k + 1, o', by omega, by simpa using q2, q3⟩

/-- What the analysis of a region says. -/
structure Ann (ops : Array Oper) (l : List (Oper × Nat)) : Prop where
  len : l.length = ops.size
  op : ∀ (i : Nat) (o : Oper) (m : Nat), l[i]? = some (o, m) → ops[i]? = some o
  dep : ∀ (i : Nat) (o : Oper) (m : Nat) (e : Edge), l[i]? = some (o, m) → e ∈ o.after.toList → Region.binds .any e = true → e.on < i
  mask : ∀ (i : Nat) (o : Oper) (m j : Nat), l[i]? = some (o, m) → m.testBit j = true → ∃ e ∈ o.after.toList, Region.binds .any e = true ∧ (j = e.on ∨ ∃ o' m', l[e.on]? = some (o', m') ∧ m'.testBit j = true)
  look : ∀ (i : Nat) (o : Oper) (m t j : Nat) (oj : Oper), l[i]? = some (o, m) → t ∈ o.looksAt ops → ops[j]? = some oj → oj.dst = some t → j < i → m.testBit j = true
  write : ∀ (i : Nat) (o : Oper) (m d j : Nat) (oj : Oper), l[i]? = some (o, m) → o.dst = some d → ops[j]? = some oj → j < i → d ∈ oj.looksAt ops → m.testBit j = true
  one : ∀ (i j : Nat) (oi oj : Oper) (d : Nat), ops[i]? = some oi → ops[j]? = some oj → oi.dst = some d → oj.dst = some d → i = j

theorem annotGo_spec {ops : Array Oper} {wr : Tr Nat} : ∀ {l : List Oper} {i : Nat} {ms : Tr Nat} {prev : List (Nat × List Tmp)} {r : List (Oper × Nat)}, annotGo ops wr i l ms prev = some r →
    (∀ (k : Nat) (o : Oper), l[k]? = some o → ops[i + k]? = some o) → (∀ (j : Nat) (oj : Oper), j < i → ops[j]? = some oj → (j, oj.looksAt ops) ∈ prev) →
    r.length = l.length ∧ (∀ (k : Nat) (o : Oper) (m : Nat), r[k]? = some (o, m) → l[k]? = some o ∧ (∀ e ∈ o.after.toList, Region.binds .any e = true → e.on < i + k) ∧
      (∀ j, m.testBit j = true → ∃ e ∈ o.after.toList, Region.binds .any e = true ∧ (j = e.on ∨ (∃ m', e.on < i ∧ ms.get e.on = some m' ∧ m'.testBit j = true) ∨ ∃ k' o' m', e.on = i + k' ∧ r[k']? = some (o', m') ∧ m'.testBit j = true)) ∧
      (∀ t ∈ o.looksAt ops, ∀ j, wr.get t = some j → j < i + k → m.testBit j = true) ∧
      (∀ d, o.dst = some d → ∀ j oj, ops[j]? = some oj → j < i + k → d ∈ oj.looksAt ops → m.testBit j = true))
  | [], i, ms, prev, r, h, _, _ => by
    simp only [annotGo, Option.some.injEq] at h; subst h
    exact ⟨rfl, fun k o m hk => by simp at hk⟩
  | o :: l, i, ms, prev, r, h, hl, hp => by
    simp only [annotGo] at h
    split at h
    · cases h
    · rename_i m hm
      split at h
      · cases h
      · rename_i hok
        simp only [Bool.and_eq_true] at hok
        split at h
        · cases h
        · rename_i r' hr
          simp only [Option.some.injEq] at h
          subst h
          have h0 : ops[i]? = some o := by have := hl 0 o rfl; simpa using this
          obtain ⟨g1, g2⟩ := annotGo_spec hr (fun k o' hk => by have := hl (k + 1) o' (by simpa using hk); rw [← this]; congr 1; omega)
            (fun j oj hj hoj => by
              rcases Nat.lt_or_ge j i with h1 | h1
              · exact List.mem_cons_of_mem _ (hp j oj h1 hoj)
              · have : j = i := by omega
                subst this
                rw [h0] at hoj; cases hoj
                exact List.mem_cons_self)
          obtain ⟨m1, m2⟩ := maskOf_spec hm
          refine ⟨by simp [g1], fun k o' m' hk => ?_⟩
          cases k with
          | zero =>
            simp at hk
            obtain ⟨rfl, rfl⟩ := hk
            refine ⟨rfl, fun e he hb => by have := m1 e he hb; omega, fun j hj => ?_, fun t ht j hj hlt => looksOk_spec hok.1 t ht j hj (by omega), fun d hd j oj hoj hlt hdl => ?_⟩
            · rcases m2 j hj with q | ⟨e, q1, q2, q3⟩
              · simp at q
              · refine ⟨e, q1, q2, ?_⟩
                rcases q3 with q3 | ⟨m', q4, q5⟩
                · exact .inl q3
                · exact .inr (.inl ⟨m', m1 e q1 q2, q4, q5⟩)
            · have h2 := hok.2
              rw [hd] at h2
              exact readersOk_spec h2 j _ (hp j oj (by omega) hoj) hdl
          | succ k =>
            simp at hk
            obtain ⟨q1, q2, q3, q4, q5⟩ := g2 k o' m' hk
            refine ⟨by simpa using q1, fun e he hb => by have := q2 e he hb; omega, fun j hj => ?_, fun t ht j hj hlt => q4 t ht j hj (by omega), fun d hd j oj hoj hlt hdl => q5 d hd j oj hoj (by omega) hdl⟩
            obtain ⟨e, s1, s2, s3⟩ := q3 j hj
            refine ⟨e, s1, s2, ?_⟩
            rcases s3 with s3 | ⟨m'', s4, s5, s6⟩ | ⟨k', o'', m'', s4, s5, s6⟩
            · exact .inl s3
            · rw [Tr.get_set] at s5
              split at s5
              · rename_i he
                cases s5
                exact .inr (.inr ⟨0, o, m, by omega, rfl, s6⟩)
              · rename_i he
                exact .inr (.inl ⟨m'', by omega, s5, s6⟩)
            · exact .inr (.inr ⟨k' + 1, o'', m'', by omega, by simpa using s5, s6⟩)

theorem annot_spec {ops : Array Oper} {l : List (Oper × Nat)} (h : annot ops = some l) : Ann ops l := by
  unfold annot at h
  split at h
  · cases h
  · rename_i wr hwr
    obtain ⟨w1, w2, w3⟩ := writers_spec hwr (fun d j hj => by simp [Tr.get] at hj)
    obtain ⟨g1, g2⟩ := annotGo_spec h (fun k o hk => by simpa using hk) (fun j oj hj => by omega)
    have hwr' : ∀ {j oj d}, ops[j]? = some oj → oj.dst = some d → wr.get d = some j := fun {j oj d} hoj hd => by
      have := w2 j oj d (by simpa using hoj) hd
      simpa using this
    have hop : ∀ i o m, l[i]? = some (o, m) → ops[i]? = some o := fun i o m hi => by have := (g2 i o m hi).1; simpa using this
    refine ⟨by simp [g1], hop, fun i o m e hi he hb => by have := (g2 i o m hi).2.1 e he hb; omega, fun i o m j hi hj => ?_, fun i o m t j oj hi ht hoj hd hlt => ?_,
      fun i o m d j oj hi hd hoj hlt hdl => (g2 i o m hi).2.2.2.2 d hd j oj hoj (by omega) hdl, fun i j oi oj d hoi hoj hdi hdj => ?_⟩
    · obtain ⟨e, s1, s2, s3⟩ := (g2 i o m hi).2.2.1 j hj
      refine ⟨e, s1, s2, ?_⟩
      rcases s3 with s3 | ⟨m'', s4, s5, s6⟩ | ⟨k', o'', m'', s4, s5, s6⟩
      · exact .inl s3
      · omega
      · exact .inr ⟨o'', m'', by rw [s4]; simpa using s5, s6⟩
    · exact (g2 i o m hi).2.2.2.1 t ht j (hwr' hoj hd) (by omega)
    · have h1 := hwr' hoi hdi
      have h2 := hwr' hoj hdj
      rw [h1] at h2
      exact Option.some.inj h2
end Cam

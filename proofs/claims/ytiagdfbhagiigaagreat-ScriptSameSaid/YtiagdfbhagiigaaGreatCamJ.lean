/- Cam, part J: maps. -/
import Derived.Test.YtiagdfbhagiigaaGreatCamI
namespace Cam
open Go Go.Lib
variable {P : Program}

theorem pureRun_bind {α β : Type} (f : α → Sem β) : ∀ (s : Sem α), pureRun P (s >>= f) = (pureRun P s).bind fun a => pureRun P (f a)
  | .pure a => rfl
  | .program k => by
    show pureRun P ((k P).bind f) = _
    exact pureRun_bind f (k P)
  | .mark _ k => by
    show pureRun P (k.bind f) = _
    exact pureRun_bind f k
  | .load .. => rfl
  | .store .. => rfl
  | .new .. => rfl
  | .shape .. => rfl
  | .freeze .. => rfl
  | .frozen .. => rfl
  | .getObj .. => rfl
  | .setObj .. => rfl
  | .choose .. => rfl
  | .sys .. => rfl
  | .halt .. => rfl

/-- What is found in a list, by its keys alone. -/
def Found (r : Option (Nat × Value)) (i : Nat) (es' : List MapEntry) (r' : Option (Nat × Value)) : Prop :=
  match r with
  | none => r' = none
  | some (j, _) => ∃ e', i ≤ j ∧ es'[j - i]? = some e' ∧ r' = some (j, e'.val)

theorem findNow_keys (kind : TypeDesc) (k : Value) : ∀ (es es' : List MapEntry) (i : Nat), es.map (·.key) = es'.map (·.key) →
    (Instr.findNow kind k es i = none → Instr.findNow kind k es' i = none) ∧
    (∀ r, Instr.findNow kind k es i = some r → ∃ r', Instr.findNow kind k es' i = some r' ∧ Found r i es' r')
  | [], [], i, _ => by
    constructor
    · intro h; exact h
    · intro r h; simp [Instr.findNow] at h; subst h; exact ⟨none, rfl, rfl⟩
  | [], e :: es, i, h => by simp at h
  | e :: es, [], i, h => by simp at h
  | e :: es, e' :: es', i, h => by
    simp only [List.map_cons, List.cons.injEq] at h
    obtain ⟨hk, ht⟩ := h
    obtain ⟨ih1, ih2⟩ := findNow_keys kind k es es' (i + 1) ht
    constructor
    · intro hn
      simp only [Instr.findNow] at hn ⊢
      rw [← hk]
      cases hs : Instr.sameNow kind k e.key with
      | none => rfl
      | some b => cases b with
        | true => rw [hs] at hn; cases hn
        | false => rw [hs] at hn; exact ih1 hn
    · intro r hr
      simp only [Instr.findNow] at hr ⊢
      rw [← hk]
      cases hs : Instr.sameNow kind k e.key with
      | none => rw [hs] at hr; cases hr
      | some b => cases b with
        | true =>
          rw [hs] at hr
          simp only [Option.some.injEq] at hr
          subst hr
          exact ⟨_, rfl, e', Nat.le_refl _, by simp, rfl⟩
        | false =>
          rw [hs] at hr
          obtain ⟨r', q1, q2⟩ := ih2 r hr
          refine ⟨r', q1, ?_⟩
          cases r with
          | none => exact q2
          | some p =>
            obtain ⟨j, v⟩ := p
            obtain ⟨f, w1, w2, w3⟩ := q2
            refine ⟨f, by omega, ?_, w3⟩
            rw [show j - i = (j - (i + 1)) + 1 by omega]; simpa using w2

theorem findAsking_keys (kt : TypeId) (k : Value) : ∀ (es es' : List MapEntry) (i : Nat) (r : Option (Nat × Value)), es.map (·.key) = es'.map (·.key) →
    pureRun P (Instr.findAsking kt k es i) = some r → ∃ r', (∀ w, (Instr.findAsking kt k es' i).run P w = .ok r' w) ∧ Found r i es' r'
  | [], [], i, r, _, h => by
    simp [Instr.findAsking] at h
    exact ⟨none, fun w => rfl, by cases h; rfl⟩
  | [], e :: es, i, r, h, _ => by simp at h
  | e :: es, [], i, r, h, _ => by simp at h
  | e :: es, e' :: es', i, r, h, hr => by
    simp only [List.map_cons, List.cons.injEq] at h
    obtain ⟨hk, ht⟩ := h
    simp only [Instr.findAsking] at hr ⊢
    rw [pureRun_bind] at hr
    cases hq : pureRun P (Op.equal kt k e.key) with
    | none => rw [hq] at hr; cases hr
    | some b =>
      rw [hq] at hr
      simp only [Option.bind_some] at hr
      have hq' := pureRun_ok hq
      rw [hk] at hq'
      cases b with
      | true =>
        simp only [if_true] at hr
        cases hr
        exact ⟨some (i, e'.val), fun w => by simp [hq' w], e', Nat.le_refl _, by simp, rfl⟩
      | false =>
        simp only [Bool.false_eq_true, if_false] at hr
        obtain ⟨r', q1, q2⟩ := findAsking_keys kt k es es' (i + 1) r ht hr
        refine ⟨r', fun w => by simp [hq' w, q1 w], ?_⟩
        cases r with
        | none => exact q2
        | some p =>
          obtain ⟨j, v⟩ := p
          obtain ⟨f, w1, w2, w3⟩ := q2
          refine ⟨f, by omega, ?_, w3⟩
          rw [show j - i = (j - (i + 1)) + 1 by omega]; simpa using w2

theorem findKey_keys {kt : TypeId} {k : Value} {es es' : List MapEntry} {r : Option (Nat × Value)} (h : es.map (·.key) = es'.map (·.key)) (hr : pureRun P (Instr.findKey kt k es) = some r) :
    ∃ r', (∀ w, (Instr.findKey kt k es').run P w = .ok r' w) ∧ Found r 0 es' r' := by
  simp only [Instr.findKey] at hr ⊢
  rw [pureRun_bind] at hr
  cases hu : pureRun P (underlying kt) with
  | none => rw [hu] at hr; cases hr
  | some d =>
    rw [hu] at hr
    simp only [Option.bind_some] at hr
    have hu' := pureRun_ok hu
    obtain ⟨q1, q2⟩ := findNow_keys d k es es' 0 h
    cases hf : Instr.findNow d k es 0 with
    | none =>
      rw [hf] at hr
      obtain ⟨r', w1, w2⟩ := findAsking_keys kt k es es' 0 r h hr
      exact ⟨r', fun w => by simp [hu' w, q1 hf, w1 w], w2⟩
    | some r0 =>
      rw [hf] at hr
      simp only at hr
      cases hr
      obtain ⟨r', w1, w2⟩ := q2 r hf
      exact ⟨r', fun w => by simp [hu' w, w1], w2⟩

/-- Keys alone. -/
def keysOf (es : List (Value × Nat × SV)) : List MapEntry := es.map fun e => { key := e.1, val := default, born := 0 }

theorem keysOf_eq {E : Env} : ∀ {es : List (Value × Nat × SV)} {es' : List MapEntry}, ME E es es' → (keysOf es).map (·.key) = es'.map (·.key)
  | _, _, .nil => rfl
  | _, _, .cons _ h => by simpa [keysOf] using keysOf_eq h

theorem ME.get {E : Env} : ∀ {es : List (Value × Nat × SV)} {es' : List MapEntry} {i : Nat} {e' : MapEntry}, ME E es es' → es'[i]? = some e' →
    ∃ x, es[i]? = some (e'.key, e'.born, x) ∧ R E x e'.val
  | _, _, i, e', .nil, h => by simp at h
  | _, _, 0, e', .cons hx _, h => by simp at h; subst h; exact ⟨_, by simp, hx⟩
  | _, _, i + 1, e', .cons _ hl, h => by simp at h; simpa using ME.get hl h

theorem ME.set {E : Env} {x : SV} {v : Value} {k : Value} {b : Nat} (hx : R E x v) : ∀ {es : List (Value × Nat × SV)} {es' : List MapEntry} (i : Nat), ME E es es' → ME E (es.set i (k, b, x)) (es'.set i { key := k, val := v, born := b })
  | _, _, _, .nil => .nil
  | _, _, 0, .cons _ h => .cons hx h
  | _, _, i + 1, .cons h1 h => .cons h1 (ME.set hx i h)

theorem ME.append {E : Env} : ∀ {es fs : List (Value × Nat × SV)} {es' fs' : List MapEntry}, ME E es es' → ME E fs fs' → ME E (es ++ fs) (es' ++ fs')
  | _, _, _, _, .nil, h => h
  | _, _, _, _, .cons hx hl, h => .cons hx (ME.append hl h)

theorem ME.eraseIdx {E : Env} : ∀ {es : List (Value × Nat × SV)} {es' : List MapEntry} (i : Nat), ME E es es' → ME E (es.eraseIdx i) (es'.eraseIdx i)
  | _, _, _, .nil => .nil
  | _, _, 0, .cons _ h => h
  | _, _, i + 1, .cons h1 h => .cons h1 (ME.eraseIdx i h)

theorem ME.isEmpty {E : Env} {es : List (Value × Nat × SV)} {es' : List MapEntry} (h : ME E es es') : es'.isEmpty = es.isEmpty := by cases h <;> rfl

/-- Where a key stands: 'some none': nowhere. -/
def cfind (P : Program) (kt : TypeId) (k : Value) (es : List (Value × Nat × SV)) : Option (Option Nat) :=
  match pureRun P (Instr.checkKey es.isEmpty 10000 kt k), pureRun P (Instr.findKey kt k (keysOf es)) with
  | some (), some r => some (r.map (·.1))
  | _, _ => none

theorem cfind_ok {E : Env} {kt : TypeId} {k : Value} {es : List (Value × Nat × SV)} {es' : List MapEntry} {r : Option Nat} (h : ME E es es') (hr : cfind P kt k es = some r) :
    (∀ w, (Instr.checkKey es'.isEmpty 10000 kt k).run P w = .ok () w) ∧
    match r with
    | none => ∀ w, (Instr.findKey kt k es').run P w = .ok none w
    | some i => ∃ e' x, es'[i]? = some e' ∧ es[i]? = some (e'.key, e'.born, x) ∧ R E x e'.val ∧ ∀ w, (Instr.findKey kt k es').run P w = .ok (some (i, e'.val)) w := by
  unfold cfind at hr
  split at hr
  · rename_i r0 h1 h2
    cases hr
    obtain ⟨r', q1, q2⟩ := findKey_keys (keysOf_eq h) h2
    refine ⟨fun w => by rw [h.isEmpty]; exact pureRun_ok h1 w, ?_⟩
    cases r0 with
    | none => simp only [Found] at q2; subst q2; exact q1
    | some p =>
      obtain ⟨j, v⟩ := p
      obtain ⟨e', w1, w2, rfl⟩ := q2
      simp only [Nat.sub_zero] at w2
      obtain ⟨x, w3, w4⟩ := h.get w2
      exact ⟨e', x, w2, w3, w4, q1⟩
  · cases hr
end Cam

/- Cam, part T: a region that draws its order: what its analysis says. -/
import Derived.Test.YtiagdfbhagiigaaGreatCamS
namespace Cam
open Go Go.Lib
variable {X : Type} {P : Program}

/-! ### equality, names -/
theorem veqb_eq : ∀ {a b : Value}, veqb a b = true → a = b := by
  intro a b h
  unfold veqb at h
  split at h
  · simp at h; rw [h.1, h.2]
  · simp at h; rw [h]
  · rw [of_decide_eq_true h]
  all_goals first | (cases h; done) | rfl

mutual
theorem SV.eqb_eq : ∀ {a b : SV}, SV.eqb a b = true → a = b
  | .sc v, b, h => by cases b <;> simp [SV.eqb] at h; rw [veqb_eq h]
  | .ptr n o, b, h => by cases b <;> simp [SV.eqb] at h; rw [h.1, h.2]
  | .sl n o l e c x, b, h => by
    cases b <;> simp [SV.eqb] at h
    obtain ⟨⟨⟨⟨⟨h1, h2⟩, h3⟩, h4⟩, h5⟩, h6⟩ := h
    subst h1 h2 h3 h4 h5 h6; rfl
  | .esl n o, b, h => by cases b <;> simp [SV.eqb] at h; rw [h.1, h.2]
  | .mp n, b, h => by cases b <;> simp [SV.eqb] at h; rw [h]
  | .yld n, b, h => by cases b <;> simp [SV.eqb] at h; rw [h]
  | .ifc t x, b, h => by cases b <;> simp [SV.eqb] at h; rw [h.1, SV.eqb_eq h.2]
  | .agg l, b, h => by cases b <;> simp [SV.eqb] at h; rw [SV.eqbL_eq h]
  | .tup l, b, h => by cases b <;> simp [SV.eqb] at h; rw [SV.eqbL_eq h]
  | .fn f a c, b, h => by cases b <;> simp [SV.eqb] at h
theorem SV.eqbL_eq : ∀ {a b : List SV}, SV.eqbL a b = true → a = b
  | [], b, h => by cases b <;> simp [SV.eqbL] at h; rfl
  | x :: l, b, h => by cases b <;> simp [SV.eqbL] at h; rw [SV.eqb_eq h.1, SV.eqbL_eq h.2]
end

/-- The names below k. -/
def upto (E : Env) (k : Nat) : Env := fun n => if n < k then E n else none
def ownUpto (own : Own) (k : Nat) : Own := fun b => match own b with
  | some n => if n < k then some n else none
  | none => none

theorem upto_some {E : Env} {k n : Nat} {nb : Nb} : upto E k n = some nb ↔ n < k ∧ E n = some nb := by
  unfold upto; split
  · rename_i h; simp [h]
  · rename_i h; simp [h]
theorem upto_ext (E : Env) (k : Nat) : Ext (upto E k) E := fun _ _ h => (upto_some.1 h).2
theorem upto_mono {E E' : Env} (hE : Ext E E') {k k' : Nat} (h : k ≤ k') : Ext (upto E k) (upto E' k') := fun n nb hn => by
  obtain ⟨h1, h2⟩ := upto_some.1 hn
  exact upto_some.2 ⟨by omega, hE _ _ h2⟩
theorem ext_upto {E E' : Env} (hE : Ext E E') {k : Nat} (h : ∀ n, k ≤ n → E n = none) : Ext E (upto E' k) := fun n nb hn => by
  refine upto_some.2 ⟨?_, hE _ _ hn⟩
  rcases Nat.lt_or_ge n k with h1 | h1
  · exact h1
  · rw [h n h1] at hn; cases hn
theorem ownUpto_some {own : Own} {k b n : Nat} : ownUpto own k b = some n ↔ n < k ∧ own b = some n := by
  unfold ownUpto
  cases h : own b with
  | none => simp
  | some m =>
    simp only [Option.some.injEq]
    split
    · rename_i hm; simp only [Option.some.injEq]; constructor
      · rintro rfl; exact ⟨hm, rfl⟩
      · exact fun h => h.2
    · rename_i hm
      constructor
      · intro h; cases h
      · rintro ⟨h1, rfl⟩; exact absurd h1 hm

mutual
theorem R.under {E : Env} {k : Nat} : ∀ {x : SV} {v : Value}, SV.under k x = true → R E x v → R (upto E k) x v
  | _, _, _, .sc v => .sc v
  | _, _, h, .ptr hn => .ptr (upto_some.2 ⟨by simpa [SV.under] using h, hn⟩)
  | _, _, h, .sl hn h1 h2 h3 => .sl (upto_some.2 ⟨by simpa [SV.under] using h, hn⟩) h1 h2 h3
  | _, _, h, .esl hn h2 => .esl (upto_some.2 ⟨by simpa [SV.under] using h, hn⟩) h2
  | _, _, h, .mp hn => .mp (upto_some.2 ⟨by simpa [SV.under] using h, hn⟩)
  | _, _, h, .yld hn => .yld (upto_some.2 ⟨by simpa [SV.under] using h, hn⟩)
  | _, _, h, .fn hl hc => by
    simp only [SV.under, Bool.and_eq_true] at h
    exact .fn (RL.under h.1 hl) (RL.under h.2 hc)
  | _, _, h, .ifc hx => .ifc (R.under (by simpa [SV.under] using h) hx)
  | _, _, h, .agg hl => .agg (RL.under (by simpa [SV.under] using h) hl)
  | _, _, h, .tup hl => .tup (RL.under (by simpa [SV.under] using h) hl)
theorem RL.under {E : Env} {k : Nat} : ∀ {x : List SV} {v : List Value}, SV.underL k x = true → RL E x v → RL (upto E k) x v
  | _, _, _, .nil => .nil
  | _, _, h, .cons hx hl => by
    simp only [SV.underL, Bool.and_eq_true] at h
    exact .cons (R.under h.1 hx) (RL.under h.2 hl)
end
end Cam

/- Cam, part A: symbolic values, regions by name, the heap of chunks, and how they lie in the model's world. No program in sight. -/
import Derived.RecoverIn
import Derived.RangeFuncNested
import Derived.OrdersIn
import Derived.OwnWalkIn
namespace Cam
open Go

/-- A value whose pointers are names of regions. -/
inductive SV where
  | sc (v : Value)
  | ptr (n off : Nat)
  | sl (n off len esz cmin : Nat) (exact : Bool)
  | esl (n esz : Nat)
  | mp (n : Nat)
  | yld (n : Nat)
  | fn (f : Fn) (first captured : List SV)
  | ifc (t : TypeId) (v : SV)
  | agg (l : List SV)
  | tup (l : List SV)
  deriving Inhabited

/-- Where a region lies: its block, its first cell, and how many cells there are from there on. -/
structure Nb where
  block : Nat
  base : Nat
  size : Nat

abbrev Env := Nat → Option Nb
abbrev Own := Nat → Option Nat

mutual
inductive R (E : Env) : SV → Value → Prop
  | sc (v : Value) : R E (.sc v) v
  | ptr {n off : Nat} {nb : Nb} (h : E n = some nb) : R E (.ptr n off) (.pointer (some ⟨nb.block, nb.base + off, none⟩))
  | sl {n off len esz cmin : Nat} {exact : Bool} {nb : Nb} {c : Nat} (h : E n = some nb) (h1 : len ≤ cmin ∧ cmin ≤ c) (h2 : off + c * esz ≤ nb.size)
      (h3 : exact = true → c = cmin) : R E (.sl n off len esz cmin exact) (.slice (some ⟨nb.block, nb.base + off, none⟩) len c)
  | esl {n esz : Nat} {nb : Nb} {o c : Nat} (h : E n = some nb) (h2 : o + c * esz ≤ nb.size) : R E (.esl n esz) (.slice (some ⟨nb.block, nb.base + o, none⟩) 0 c)
  | mp {n : Nat} {nb : Nb} (h : E n = some nb) : R E (.mp n) (.map (some nb.block))
  | yld {n : Nat} {nb : Nb} (h : E n = some nb) : R E (.yld n) (.func (.yield nb.block) #[] #[])
  | fn {f : Fn} {l c : List SV} {l' c' : List Value} (hl : RL E l l') (hc : RL E c c') : R E (.fn f l c) (.func f l'.toArray c'.toArray)
  | ifc {t : TypeId} {x : SV} {v : Value} (h : R E x v) : R E (.ifc t x) (.iface t v)
  | agg {l : List SV} {l' : List Value} (h : RL E l l') : R E (.agg l) (.agg l'.toArray)
  | tup {l : List SV} {l' : List Value} (h : RL E l l') : R E (.tup l) (.tuple l'.toArray)
inductive RL (E : Env) : List SV → List Value → Prop
  | nil : RL E [] []
  | cons {x : SV} {v : Value} {l : List SV} {l' : List Value} (h : R E x v) (hl : RL E l l') : RL E (x :: l) (v :: l')
end

def Ext (E E' : Env) : Prop := ∀ n nb, E n = some nb → E' n = some nb
theorem Ext.refl (E : Env) : Ext E E := fun _ _ h => h
theorem Ext.trans {A B C : Env} (h : Ext A B) (k : Ext B C) : Ext A C := fun n nb e => k n nb (h n nb e)

mutual
theorem R.mono {E E' : Env} (hE : Ext E E') : ∀ {x : SV} {v : Value}, R E x v → R E' x v
  | _, _, .sc v => .sc v
  | _, _, .ptr h => .ptr (hE _ _ h)
  | _, _, .sl h h1 h2 h3 => .sl (hE _ _ h) h1 h2 h3
  | _, _, .esl h h2 => .esl (hE _ _ h) h2
  | _, _, .mp h => .mp (hE _ _ h)
  | _, _, .yld h => .yld (hE _ _ h)
  | _, _, .fn hl hc => .fn (RL.mono hE hl) (RL.mono hE hc)
  | _, _, .ifc h => .ifc (R.mono hE h)
  | _, _, .agg h => .agg (RL.mono hE h)
  | _, _, .tup h => .tup (RL.mono hE h)
theorem RL.mono {E E' : Env} (hE : Ext E E') : ∀ {l : List SV} {l' : List Value}, RL E l l' → RL E' l l'
  | _, _, .nil => .nil
  | _, _, .cons h hl => .cons (R.mono hE h) (RL.mono hE hl)
end

theorem RL.length {E : Env} : ∀ {l : List SV} {l' : List Value}, RL E l l' → l.length = l'.length
  | _, _, .nil => rfl
  | _, _, .cons _ hl => by simp [RL.length hl]

theorem RL.append {E : Env} {a b : List SV} {a' b' : List Value} (h : RL E a a') (k : RL E b b') : RL E (a ++ b) (a' ++ b') := by
  induction a generalizing a' with
  | nil => cases h; exact k
  | cons x a ih => cases h with | cons hx ha => exact .cons hx (ih ha)

theorem RL.get {E : Env} {l : List SV} {l' : List Value} (h : RL E l l') {i : Nat} {x : SV} (hx : l[i]? = some x) : ∃ v, l'[i]? = some v ∧ R E x v := by
  induction l generalizing l' i with
  | nil => simp at hx
  | cons y l ih =>
    cases h with
    | cons hy hl =>
      cases i with
      | zero => simp at hx; subst hx; exact ⟨_, by simp, hy⟩
      | succ i => simp at hx; simpa using ih hl hx

theorem RL.get' {E : Env} {l : List SV} {l' : List Value} (h : RL E l l') {i : Nat} {v : Value} (hx : l'[i]? = some v) : ∃ x, l[i]? = some x ∧ R E x v := by
  induction l generalizing l' i with
  | nil => cases h; simp at hx
  | cons y l ih =>
    cases h with
    | cons hy hl =>
      cases i with
      | zero => simp at hx; subst hx; exact ⟨_, by simp, hy⟩
      | succ i => simp at hx; simpa using ih hl hx

theorem RL.take {E : Env} {l : List SV} {l' : List Value} (h : RL E l l') (k : Nat) : RL E (l.take k) (l'.take k) := by
  induction l generalizing l' k with
  | nil => cases h; simpa using RL.nil
  | cons y l ih =>
    cases h with
    | cons hy hl => cases k with
      | zero => exact .nil
      | succ k => simpa using RL.cons hy (ih hl k)

theorem RL.drop {E : Env} {l : List SV} {l' : List Value} (h : RL E l l') (k : Nat) : RL E (l.drop k) (l'.drop k) := by
  induction l generalizing l' k with
  | nil => cases h; simpa using RL.nil
  | cons y l ih =>
    cases h with
    | cons hy hl => cases k with
      | zero => exact .cons hy hl
      | succ k => simpa using ih hl k

theorem RL.set {E : Env} {l : List SV} {l' : List Value} (h : RL E l l') (i : Nat) {x : SV} {v : Value} (hx : R E x v) : RL E (l.set i x) (l'.set i v) := by
  induction l generalizing l' i with
  | nil => cases h; simpa using RL.nil
  | cons y l ih =>
    cases h with
    | cons hy hl => cases i with
      | zero => simpa using RL.cons hx hl
      | succ i => simpa using RL.cons hy (ih hl i)

theorem RL.scs (E : Env) : ∀ l : List Value, RL E (l.map .sc) l
  | [] => .nil
  | v :: l => .cons (.sc v) (RL.scs E l)

theorem RL.of_scs {E : Env} {l l' : List Value} (h : RL E (l.map .sc) l') : l' = l := by
  induction l generalizing l' with
  | nil => cases h; rfl
  | cons v l ih => cases h with | cons hv hl => cases hv; rw [ih hl]

theorem RL.replicate {E : Env} {x : SV} {v : Value} (h : R E x v) : ∀ k : Nat, RL E (List.replicate k x) (List.replicate k v)
  | 0 => .nil
  | k + 1 => .cons h (RL.replicate h k)

/-! ### Views -/
mutual
def SV.plain? : SV → Option Value
  | .sc v => some v
  | .ifc t x => match SV.plain? x with | some v => some (.iface t v) | none => none
  | .agg l => match SV.plainL? l with | some l => some (.agg l.toArray) | none => none
  | .tup l => match SV.plainL? l with | some l => some (.tuple l.toArray) | none => none
  | .fn f a c => match SV.plainL? a with
    | some a => (match SV.plainL? c with | some c => some (.func f a.toArray c.toArray) | none => none)
    | none => none
  | .ptr .. => none
  | .sl .. => none
  | .esl .. => none
  | .mp _ => none
  | .yld _ => none
def SV.plainL? : List SV → Option (List Value)
  | [] => some []
  | x :: l => match SV.plain? x with
    | some v => (match SV.plainL? l with | some vs => some (v :: vs) | none => none)
    | none => none
end

mutual
theorem SV.plain_eq {E : Env} : ∀ {x : SV} {v v' : Value}, SV.plain? x = some v → R E x v' → v' = v
  | .sc u, v, v', h, hr => by cases hr; simpa [SV.plain?] using h
  | .ifc t x, v, v', h, hr => by
    cases hr with
    | ifc hx =>
      simp only [SV.plain?] at h
      split at h
      · rename_i u hu; cases h; rw [SV.plain_eq hu hx]
      · cases h
  | .agg l, v, v', h, hr => by
    cases hr with
    | agg hl =>
      simp only [SV.plain?] at h
      split at h
      · rename_i u hu; cases h; rw [SV.plainL_eq hu hl]
      · cases h
  | .tup l, v, v', h, hr => by
    cases hr with
    | tup hl =>
      simp only [SV.plain?] at h
      split at h
      · rename_i u hu; cases h; rw [SV.plainL_eq hu hl]
      · cases h
  | .fn f a c, v, v', h, hr => by
    cases hr with
    | fn hl hc =>
      simp only [SV.plain?] at h
      split at h
      · rename_i u hu
        split at h
        · rename_i u2 hu2; cases h; rw [SV.plainL_eq hu hl, SV.plainL_eq hu2 hc]
        · cases h
      · cases h
  | .ptr .., v, v', h, hr => by simp [SV.plain?] at h
  | .sl .., v, v', h, hr => by simp [SV.plain?] at h
  | .esl .., v, v', h, hr => by simp [SV.plain?] at h
  | .mp _, v, v', h, hr => by simp [SV.plain?] at h
  | .yld _, v, v', h, hr => by simp [SV.plain?] at h
theorem SV.plainL_eq {E : Env} : ∀ {x : List SV} {v v' : List Value}, SV.plainL? x = some v → RL E x v' → v' = v
  | [], v, v', h, hr => by cases hr; simpa [SV.plainL?] using h
  | x :: l, v, v', h, hr => by
    cases hr with
    | cons hx hl =>
      simp only [SV.plainL?] at h
      split at h
      · rename_i u hu
        split at h
        · rename_i u2 hu2; cases h; rw [SV.plain_eq hu hx, SV.plainL_eq hu2 hl]
        · cases h
      · cases h
end

def SV.agg? : SV → Option (List SV)
  | .agg l => some l
  | .sc (.agg cs) => some (cs.toList.map .sc)
  | _ => none
theorem SV.agg_eq {E : Env} {x : SV} {l : List SV} {v : Value} (h : x.agg? = some l) (hr : R E x v) : ∃ l', v = .agg l'.toArray ∧ RL E l l' := by
  cases hr with
  | sc v =>
    cases v <;> simp [SV.agg?] at h
    subst h
    exact ⟨_, by simp, RL.scs E _⟩
  | agg hl => simp [SV.agg?] at h; subst h; exact ⟨_, rfl, hl⟩
  | _ => simp [SV.agg?] at h

def SV.tup? : SV → Option (List SV)
  | .tup l => some l
  | .sc (.tuple cs) => some (cs.toList.map .sc)
  | _ => none
theorem SV.tup_eq {E : Env} {x : SV} {l : List SV} {v : Value} (h : x.tup? = some l) (hr : R E x v) : ∃ l', v = .tuple l'.toArray ∧ RL E l l' := by
  cases hr with
  | sc v =>
    cases v <;> simp [SV.tup?] at h
    subst h
    exact ⟨_, by simp, RL.scs E _⟩
  | tup hl => simp [SV.tup?] at h; subst h; exact ⟨_, rfl, hl⟩
  | _ => simp [SV.tup?] at h

def SV.fn? : SV → Option (Fn × List SV × List SV)
  | .fn f a c => some (f, a, c)
  | .sc (.func f a c) => some (f, a.toList.map .sc, c.toList.map .sc)
  | _ => none
theorem SV.fn_eq {E : Env} {x : SV} {f : Fn} {a c : List SV} {v : Value} (h : x.fn? = some (f, a, c)) (hr : R E x v) :
    ∃ a' c', v = .func f a'.toArray c'.toArray ∧ RL E a a' ∧ RL E c c' := by
  cases hr with
  | sc v =>
    cases v <;> simp [SV.fn?] at h
    obtain ⟨rfl, rfl, rfl⟩ := h
    exact ⟨_, _, by simp, RL.scs E _, RL.scs E _⟩
  | fn hl hc => simp [SV.fn?] at h; obtain ⟨rfl, rfl, rfl⟩ := h; exact ⟨_, _, rfl, hl, hc⟩
  | _ => simp [SV.fn?] at h

def SV.ifc? : SV → Option (TypeId × SV)
  | .ifc t x => some (t, x)
  | .sc (.iface t v) => some (t, .sc v)
  | _ => none
theorem SV.ifc_eq {E : Env} {x y : SV} {t : TypeId} {v : Value} (h : x.ifc? = some (t, y)) (hr : R E x v) : ∃ u, v = .iface t u ∧ R E y u := by
  cases hr with
  | sc v =>
    cases v <;> simp [SV.ifc?] at h
    obtain ⟨rfl, rfl⟩ := h
    exact ⟨_, rfl, .sc _⟩
  | ifc hx => simp [SV.ifc?] at h; obtain ⟨rfl, rfl⟩ := h; exact ⟨_, rfl, hx⟩
  | _ => simp [SV.ifc?] at h

/-- The cells that a value takes. -/
def SV.cells : SV → List SV
  | .agg l => l
  | .sc (.agg cs) => cs.toList.map .sc
  | x => [x]
theorem SV.cells_eq {E : Env} {x : SV} {v : Value} (hr : R E x v) : RL E x.cells v.cells.toList := by
  cases hr with
  | sc v => cases v <;> first | exact .cons (.sc _) .nil | exact RL.scs E _
  | agg hl => simpa [SV.cells, Value.cells] using hl
  | ptr h => exact .cons (.ptr h) .nil
  | sl h h1 h2 h3 => exact .cons (.sl h h1 h2 h3) .nil
  | esl h h2 => exact .cons (.esl h h2) .nil
  | mp h => exact .cons (.mp h) .nil
  | yld h => exact .cons (.yld h) .nil
  | fn h1 h2 => exact .cons (.fn h1 h2) .nil
  | ifc h => exact .cons (.ifc h) .nil
  | tup h => exact .cons (.tup h) .nil

/-- Is it the value of one cell? -/
def SV.atom : SV → Bool
  | .agg _ => false
  | .tup _ => false
  | .sc (.agg _) => false
  | .sc (.tuple _) => false
  | _ => true
def isAtom : Value → Bool
  | .agg _ => false
  | .tuple _ => false
  | _ => true
theorem SV.atom_eq {E : Env} {x : SV} {v : Value} (hr : R E x v) : isAtom v = x.atom := by
  cases hr with
  | sc v => cases v <;> rfl
  | _ => rfl

/-! ### A finite map from numbers -/
inductive Tr (α : Type) where
  | nil
  | node (v : Option α) (l r : Tr α)

def Tr.get {α : Type} : Tr α → Nat → Option α
  | .nil, _ => none
  | .node v _ _, 0 => v
  | .node _ l r, n + 1 => if n % 2 = 0 then l.get (n / 2) else r.get (n / 2)

def Tr.setF {α : Type} : Nat → Tr α → Nat → Option α → Tr α
  | 0, t, _, _ => t
  | _ + 1, .nil, 0, x => .node x .nil .nil
  | _ + 1, .node _ l r, 0, x => .node x l r
  | k + 1, .nil, n + 1, x => if n % 2 = 0 then .node none (Tr.setF k .nil (n / 2) x) .nil else .node none .nil (Tr.setF k .nil (n / 2) x)
  | k + 1, .node v l r, n + 1, x => if n % 2 = 0 then .node v (l.setF k (n / 2) x) r else .node v l (r.setF k (n / 2) x)
termination_by structural k => k

def Tr.set {α : Type} (t : Tr α) (n : Nat) (x : Option α) : Tr α := t.setF (n + 1) n x

theorem Tr.get_nil {α : Type} (n : Nat) : (Tr.nil : Tr α).get n = none := rfl

theorem Tr.get_setF {α : Type} (k : Nat) : ∀ (t : Tr α) (n m : Nat) (x : Option α), n < k → (t.setF k n x).get m = if m = n then x else t.get m := by
  induction k with
  | zero => intro t n m x h; omega
  | succ k ih =>
    intro t n m x h
    cases n with
    | zero =>
      cases t <;> cases m <;> simp [Tr.setF, Tr.get]
    | succ n =>
      have hk : n / 2 < k := by omega
      cases t with
      | nil =>
        simp only [Tr.setF]
        split
        · rename_i hn
          cases m with
          | zero => simp [Tr.get]
          | succ m =>
            simp only [Tr.get]
            split
            · rename_i hm; rw [ih _ _ _ _ hk]; simp only [Tr.get_nil, Nat.add_right_cancel_iff]
              have : (m / 2 = n / 2) ↔ m = n := by omega
              simp [this]
            · rename_i hm
              have : ¬ m = n := by omega
              simp [this]
        · rename_i hn
          cases m with
          | zero => simp [Tr.get]
          | succ m =>
            simp only [Tr.get]
            split
            · rename_i hm
              have : ¬ m = n := by omega
              simp [this]
            · rename_i hm; rw [ih _ _ _ _ hk]; simp only [Tr.get_nil, Nat.add_right_cancel_iff]
              have : (m / 2 = n / 2) ↔ m = n := by omega
              simp [this]
      | node v l r =>
        simp only [Tr.setF]
        split
        · rename_i hn
          cases m with
          | zero => simp [Tr.get]
          | succ m =>
            simp only [Tr.get]
            split
            · rename_i hm; rw [ih _ _ _ _ hk]
              have : (m / 2 = n / 2) ↔ m = n := by omega
              simp [this]
            · rename_i hm
              have : ¬ m = n := by omega
              simp [this]
        · rename_i hn
          cases m with
          | zero => simp [Tr.get]
          | succ m =>
            simp only [Tr.get]
            split
            · rename_i hm
              have : ¬ m = n := by omega
              simp [this]
            · rename_i hm; rw [ih _ _ _ _ hk]
              have : (m / 2 = n / 2) ↔ m = n := by omega
              simp [this]

theorem Tr.get_set {α : Type} (t : Tr α) (n m : Nat) (x : Option α) : (t.set n x).get m = if m = n then x else t.get m :=
  Tr.get_setF (n + 1) t n m x (by omega)
/-! ### Temporaries -/
structure Tm where
  n : Nat
  tr : Tr SV

def Tm.get (t : Tm) (i : Nat) : SV := match t with
  | ⟨_, tr⟩ => match tr.get i with
    | some x => x
    | none => .sc undef
def Tm.set (t : Tm) (i : Nat) (x : SV) : Tm := match t with
  | ⟨n, tr⟩ => match Nat.blt i n with
    | true => ⟨n, tr.set i (some x)⟩
    | false => ⟨n, tr⟩

def RT (E : Env) (t : Tm) (a : Array Value) : Prop := a.size = t.n ∧ ∀ i, R E (t.get i) (a.getD i undef)
theorem RT.mono {E E' : Env} (hE : Ext E E') {t : Tm} {a : Array Value} (h : RT E t a) : RT E' t a := ⟨h.1, fun i => (h.2 i).mono hE⟩
theorem Tm.set_n (t : Tm) (i : Nat) (x : SV) : (t.set i x).n = t.n := by cases t; simp only [Tm.set]; split <;> rfl
theorem Tm.get_set (t : Tm) (i j : Nat) (x : SV) : (t.set i x).get j = if j = i ∧ i < t.n then x else t.get j := by
  cases t with | mk n tr
  simp only [Tm.set]
  split
  · rename_i h
    simp only [Nat.blt_eq] at h
    simp only [Tm.get, Tr.get_set]
    by_cases hj : j = i
    · simp [hj, h]
    · simp [hj]
  · rename_i h
    have : ¬ i < n := fun hl => absurd ((Nat.blt_eq (x := i) (y := n)).mpr hl) (by rw [h]; simp)
    simp [this]
theorem RT.set {E : Env} {t : Tm} {a : Array Value} (h : RT E t a) (i : Nat) {x : SV} {v : Value} (hx : R E x v) : RT E (t.set i x) (a.setIfInBounds i v) := by
  refine ⟨by simp [h.1, Tm.set_n], fun j => ?_⟩
  rw [Tm.get_set]
  by_cases hj : j = i ∧ i < t.n
  · rw [if_pos hj]
    obtain ⟨rfl, hi⟩ := hj
    have : j < a.size := by rw [h.1]; exact hi
    simpa [this] using hx
  · rw [if_neg hj]
    have hne : (a.setIfInBounds i v).getD j undef = a.getD j undef := by
      by_cases hji : j = i
      · have hi : ¬ i < a.size := fun hl => hj ⟨hji, by rw [← h.1]; exact hl⟩
        rw [Array.setIfInBounds_eq_of_size_le (by omega)]
      · simp [Array.getElem?_setIfInBounds_ne (Ne.symm hji)]
    rw [hne]; exact h.2 j

/-- The temporaries of a function that is entered. -/
def Tm.fill : Nat → List SV → Tr SV → Tr SV
  | _, [], t => t
  | i, x :: l, t => Tm.fill (i + 1) l (t.set i (some x))
def Tm.enter (args : List SV) (ntmps : Nat) : Tm := { n := args.length + (ntmps - args.length), tr := Tm.fill 0 args .nil }
theorem Tm.fill_get : ∀ (l : List SV) (i : Nat) (t : Tr SV) (j : Nat), (Tm.fill i l t).get j = if i ≤ j ∧ j - i < l.length then l[j - i]? else t.get j
  | [], i, t, j => by simp [Tm.fill]
  | x :: l, i, t, j => by
    rw [Tm.fill, Tm.fill_get l (i + 1) _ j, Tr.get_set]
    by_cases h1 : j = i
    · subst h1
      have : ¬ (j + 1 ≤ j ∧ j - (j + 1) < l.length) := by omega
      rw [if_neg this]; simp
    · by_cases h2 : i + 1 ≤ j ∧ j - (i + 1) < l.length
      · have h3 : i ≤ j ∧ j - i < (x :: l).length := by simp; omega
        rw [if_pos h2, if_pos h3]
        have : j - i = (j - (i + 1)) + 1 := by omega
        rw [this]; simp
      · have h3 : ¬ (i ≤ j ∧ j - i < (x :: l).length) := by simp only [List.length_cons]; omega
        rw [if_neg h2, if_neg h3, if_neg h1]
theorem RT.enter {E : Env} {args : List SV} {args' : List Value} (h : RL E args args') (ntmps : Nat) : RT E (Tm.enter args ntmps) (args'.toArray ++ Array.replicate (ntmps - args'.toArray.size) undef) := by
  have hl := h.length
  refine ⟨by simp [Tm.enter, hl], fun i => ?_⟩
  simp only [Tm.enter, Tm.get, Tm.fill_get, Nat.zero_le, true_and, Nat.sub_zero, Tr.get_nil]
  by_cases hi : i < args.length
  · rw [if_pos hi]
    obtain ⟨x, hx⟩ : ∃ x, args[i]? = some x := ⟨args[i], by simp [hi]⟩
    obtain ⟨v, hv, hr⟩ := h.get hx
    rw [hx]
    have : i < args'.length := by omega
    have h3 : args'[i] = v := by have := List.getElem?_eq_getElem this; rw [hv] at this; exact (Option.some.inj this).symm
    simpa [Array.getElem?_append, this, h3] using hr
  · rw [if_neg hi]
    have h2 : ¬ i < args'.length := by omega
    have : (args'.toArray ++ Array.replicate (ntmps - args'.toArray.size) undef).getD i undef = undef := by
      simp only [Array.getD_eq_getD_getElem?, Array.getElem?_append, List.size_toArray, h2, if_false, Array.getElem?_replicate]
      split <;> rfl
    rw [this]; exact .sc _
end Cam

import Derived.Test.YtiagdfbhagiigaaGreatEqA
import Derived.Test.YtiagdfbhagiigaaGreatEqC
import Derived.Deep.RegionHeld
import Derived.Deep.RegionWith
import Derived.Laws.BytesString
import Derived.Laws.NewBlocks
import Derived.Below
namespace Go.Proofs
open Go.RowKit Go.Lib

/-- What held a value holds it still. -/
def Kept (w w' : World) : Prop := ∀ a v, w.cell? a = some v → w'.cell? a = some v
theorem Kept.refl (w : World) : Kept w w := fun _ _ h => h
theorem Kept.trans {a b c : World} (h : Kept a b) (k : Kept b c) : Kept a c := fun x v e => k x v (h x v e)
theorem Kept.drewN (w : World) (q : Nat) : Kept w (w.drewN q) := fun _ _ h => by rw [World.cell?_drewN]; exact h
theorem Kept.alloc (w : World) (o : Obj) : Kept w (w.alloc o) := fun a v h => by rw [World.cell?_alloc_some w a o (by rw [h]; rfl)]; exact h
theorem Kept.below {w w' : World} (h : Below w.heap.size w w') : Kept w w' := fun _ _ e => (h.cell (World.block_lt_of_cell? _ _ e)).trans e

/-- A slice of one-cell elements. -/
structure Rd {α : Type} [Inhabited α] (enc : α → Value) (w : World) (p : Option Addr) (n : Nat) (xs : List α) : Prop where
  len : xs.length = n
  le : n ≤ maxLen
  at_ : 0 < n → ∃ b o, p = some ⟨b, o, none⟩ ∧ ∀ j, j < n → w.cell? ⟨b, o + j, none⟩ = some (enc xs[j]!)
theorem Rd.mono {α : Type} [Inhabited α] {enc : α → Value} {w w' : World} {p : Option Addr} {n : Nat} {xs : List α} (h : Rd enc w p n xs) (k : Kept w w') : Rd enc w' p n xs :=
  ⟨h.len, h.le, fun h0 => by obtain ⟨b, o, e, hc⟩ := h.at_ h0; exact ⟨b, o, e, fun j hj => k _ _ (hc j hj)⟩⟩
/-- A slice of elements of three cells. -/
structure Rd3 (t : TypeId) (w : World) (p : Option Addr) (n : Nat) (xs : List (List Lit)) : Prop where
  len : xs.length = n
  le : n ≤ maxLen
  at_ : 0 < n → ∃ b o, p = some ⟨b, o, none⟩ ∧ ∀ j, j < n → Cells3 t w b (o + j * 3) xs[j]!
theorem Rd3.mono {t : TypeId} {w w' : World} {p : Option Addr} {n : Nat} {xs : List (List Lit)} (h : Rd3 t w p n xs) (k : Kept w w') : Rd3 t w' p n xs :=
  ⟨h.len, h.le, fun h0 => by
    obtain ⟨b, o, e, hc⟩ := h.at_ h0
    exact ⟨b, o, e, fun j hj => by obtain ⟨v0, v1, v2, D, hk, a0, a1, a2⟩ := hc j hj; exact ⟨v0, v1, v2, D, hk, k _ _ a0, k _ _ a1, k _ _ a2⟩⟩⟩
abbrev eByte (x : UInt8) : Value := .int .u8 x.toNat
abbrev eInt (x : Int) : Value := .int .i64 x
/-- A slice of slices of bytes. -/
structure RdB (w : World) (p : Option Addr) (n : Nat) (xs : List (List UInt8)) : Prop where
  len : xs.length = n
  le : n ≤ maxLen
  at_ : 0 < n → ∃ b o, p = some ⟨b, o, none⟩ ∧ ∀ j, j < n → ∃ pj mj cj, w.cell? ⟨b, o + j, none⟩ = some (.slice pj mj cj) ∧ Rd eByte w pj mj xs[j]!
theorem RdB.mono {w w' : World} {p : Option Addr} {n : Nat} {xs : List (List UInt8)} (h : RdB w p n xs) (k : Kept w w') : RdB w' p n xs :=
  ⟨h.len, h.le, fun h0 => by
    obtain ⟨b, o, e, hc⟩ := h.at_ h0
    exact ⟨b, o, e, fun j hj => by obtain ⟨pj, mj, cj, h1, h2⟩ := hc j hj; exact ⟨pj, mj, cj, k _ _ h1, h2.mono k⟩⟩⟩

def bEq (x y : UInt8) : Bool := x == y
def iEq (x y : Int) : Bool := x == y
/-- What a comparison does: it tells 'b', and draws at most. -/
def Tells (b : Bool) (w : World) (e : Ending) (w' : World) : Prop := e = .returned (.bool b) ∧ ∃ q, w' = w.drewN q

theorem equal63 (p1 p2 : Option Addr) (n c1 m c2 : Nat) (xs ys : List Int) (w : World) (h1 : Rd eInt w p1 n xs) (h2 : Rd eInt w p2 m ys) : Calls Tryz.prog 63 #[.slice p1 n c1, .slice p2 m c2] w (Tells (allEq iEq xs ys) w) :=
  eq63 p1 p2 n c1 m c2 xs ys w h1.len h2.len h1.le h2.le h1.at_ h2.at_
theorem equal65 (p1 p2 : Option Addr) (n c1 m c2 : Nat) (xs ys : List UInt8) (w : World) (h1 : Rd eByte w p1 n xs) (h2 : Rd eByte w p2 m ys) : Calls Tryz.prog 65 #[.slice p1 n c1, .slice p2 m c2] w (Tells (allEq bEq xs ys) w) :=
  eq65 p1 p2 n c1 m c2 xs ys w h1.len h2.len h1.le h2.le h1.at_ h2.at_
theorem equal64 (p1 p2 : Option Addr) (n c1 m c2 : Nat) (xs ys : List (List Lit)) (w : World) (h1 : Rd3 85 w p1 n xs) (h2 : Rd3 85 w p2 m ys) : Calls Tryz.prog 64 #[.slice p1 n c1, .slice p2 m c2] w (Tells (allEq litsEq xs ys) w) :=
  eq64 p1 p2 n c1 m c2 xs ys w h1.len h2.len h1.le h2.le h1.at_ h2.at_
theorem equal66 (p1 p2 : Option Addr) (n c1 m c2 : Nat) (xs ys : List (List Lit)) (w : World) (h1 : Rd3 89 w p1 n xs) (h2 : Rd3 89 w p2 m ys) : Calls Tryz.prog 66 #[.slice p1 n c1, .slice p2 m c2] w (Tells (allEq litsEq xs ys) w) :=
  eq66 p1 p2 n c1 m c2 xs ys w h1.len h2.len h1.le h2.le h1.at_ h2.at_
theorem alerts34 (p1 p2 : Option Addr) (n c1 m c2 : Nat) (xs ys : List (List Lit)) (w : World) (h1 : Rd3 85 w p1 n xs) (h2 : Rd3 85 w p2 m ys) : Calls Tryz.prog 34 #[.slice p1 n c1, .slice p2 m c2] w (Tells (allEq litsEq xs ys) w) :=
  eq34 p1 p2 n c1 m c2 xs ys w h1.len h2.len h1.le h2.le h1.at_ h2.at_
theorem held36 (p1 p2 : Option Addr) (n c1 m c2 : Nat) (xs ys : List (List Lit)) (w : World) (h1 : Rd3 89 w p1 n xs) (h2 : Rd3 89 w p2 m ys) : Calls Tryz.prog 36 #[.slice p1 n c1, .slice p2 m c2] w (Tells (allEq litsEq xs ys) w) :=
  eq36 p1 p2 n c1 m c2 xs ys w h1.len h2.len h1.le h2.le h1.at_ h2.at_

theorem like29 (p1 p2 : Option Addr) (n c1 m c2 : Nat) (xs ys : List Int) (w : World) (h1 : Rd eInt w p1 n xs) (h2 : Rd eInt w p2 m ys) : Calls Tryz.prog 29 #[.slice p1 n c1, .slice p2 m c2] w (Tells (allEq iEq xs ys) w) := by
  go_enter Tryz.func29, Tryz.ntmps29
  go_wp2_with fail
  refine (equal63 p1 p2 n c1 m c2 xs ys _ h1 h2).mono ?_
  rintro e w' ⟨rfl, q, rfl⟩
  go_wp2
  go_ret
  exact ⟨rfl, q, rfl⟩
theorem like31 (p1 p2 : Option Addr) (n c1 m c2 : Nat) (xs ys : List UInt8) (w : World) (h1 : Rd eByte w p1 n xs) (h2 : Rd eByte w p2 m ys) : Calls Tryz.prog 31 #[.slice p1 n c1, .slice p2 m c2] w (Tells (allEq bEq xs ys) w) := by
  go_enter Tryz.func31, Tryz.ntmps31
  go_wp2_with fail
  refine (equal65 p1 p2 n c1 m c2 xs ys _ h1 h2).mono ?_
  rintro e w' ⟨rfl, q, rfl⟩
  go_wp2
  go_ret
  exact ⟨rfl, q, rfl⟩
theorem like30 (p1 p2 : Option Addr) (n c1 m c2 : Nat) (xs ys : List (List Lit)) (w : World) (h1 : Rd3 85 w p1 n xs) (h2 : Rd3 85 w p2 m ys) : Calls Tryz.prog 30 #[.slice p1 n c1, .slice p2 m c2] w (Tells (allEq litsEq xs ys) w) := by
  go_enter Tryz.func30, Tryz.ntmps30
  go_wp2_with fail
  refine (equal64 p1 p2 n c1 m c2 xs ys _ h1 h2).mono ?_
  rintro e w' ⟨rfl, q, rfl⟩
  go_wp2
  go_ret
  exact ⟨rfl, q, rfl⟩
theorem like33 (p1 p2 : Option Addr) (n c1 m c2 : Nat) (xs ys : List (List Lit)) (w : World) (h1 : Rd3 89 w p1 n xs) (h2 : Rd3 89 w p2 m ys) : Calls Tryz.prog 33 #[.slice p1 n c1, .slice p2 m c2] w (Tells (allEq litsEq xs ys) w) := by
  go_enter Tryz.func33, Tryz.ntmps33
  go_wp2_with fail
  refine (equal66 p1 p2 n c1 m c2 xs ys _ h1 h2).mono ?_
  rintro e w' ⟨rfl, q, rfl⟩
  go_wp2
  go_ret
  exact ⟨rfl, q, rfl⟩

/-- The string that bytes are. -/
def strOf (xs : List UInt8) : ByteArray := ⟨xs.toArray⟩
theorem foldl_push (xs : List UInt8) : ∀ s : ByteArray, (xs.map fun x => ((x.toNat : Nat) : Int)).foldl (fun r n => r.push (UInt8.ofNat n.toNat)) s = ⟨s.data ++ xs.toArray⟩ := by
  induction xs with
  | nil => intro s; simp
  | cons x xs ih =>
    intro s
    rw [List.map_cons, List.foldl_cons, ih]
    simp [ByteArray.push]
theorem conv26 (p : Option Addr) (n c : Nat) (xs : List UInt8) (w : World) (h : Rd eByte w p n xs) : Sem.run Tryz.prog (convert 26 9 (.slice p n c)) w = .ok (.string (strOf xs)) w := by
  rw [run_convert_bytes_string w 26 9 5 p n c Tryz.underlying26 Tryz.underlying5 Tryz.underlying9]
  by_cases h0 : 0 < n
  · obtain ⟨b, o, rfl, hc⟩ := h.at_ h0
    have hl := run_loadCells_list (P := Tryz.prog) w ⟨b, o, none⟩ (xs.map eByte) (fun j v hv => by
      simp only [List.getElem?_map, Option.map_eq_some_iff] at hv
      obtain ⟨x, hx, rfl⟩ := hv
      have hj := (List.getElem?_eq_some_iff.1 hx).1
      have := hc j (by rw [← h.len]; exact hj)
      rw [Addr.add_lit, this, List.getElem!_eq_getElem?_getD, hx]; rfl)
    rw [List.length_map, h.len] at hl
    have e : xs.map eByte = (xs.map fun x => ((x.toNat : Nat) : Int)).map (Value.int .u8) := by rw [List.map_map]; rfl
    rw [e] at hl
    rw [run_bytesToString w _ n c _ hl, foldl_push]
    simp [strOf]
  · obtain rfl : n = 0 := by omega
    obtain rfl := List.length_eq_zero_iff.1 h.len
    cases p with
    | none => rfl
    | some a =>
      have hl := run_loadCells_list (P := Tryz.prog) w a [] (fun j v hv => by simp at hv)
      rw [run_bytesToString w _ 0 c [] hl]; rfl
theorem strOf_eq (xs ys : List UInt8) : ((strOf xs).toList == (strOf ys).toList) = allEq bEq xs ys := by
  have e : ∀ l : List UInt8, (strOf l).toList = l := fun l => by rw [ByteArray.toList_eq]; rfl
  rw [e, e]
  induction xs generalizing ys with
  | nil => cases ys <;> rfl
  | cons x xs ih => cases ys with
    | nil => rfl
    | cons y ys => rw [List.cons_beq_cons, ih]; rfl
end Go.Proofs

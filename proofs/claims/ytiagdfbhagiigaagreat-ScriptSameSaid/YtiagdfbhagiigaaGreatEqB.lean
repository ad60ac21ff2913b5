import Derived.Test.YtiagdfbhagiigaaGreatProg
import Derived.Shelf.SlicesQ.Equal
import Derived.Lib.SlBy2
import Derived.DeepKeys
import Derived.WalkKit
import Derived.KernelRfl
import Derived.Laws.StructEq
import Derived.Deep.LoopGhost
import Derived.Deep.Draws
import Derived.BigQuiet
import Derived.Deep.QuietTactic
import Derived.Lib.Hide
import Derived.OpenShut
import Derived.ChangeArms
import Derived.Outline
namespace Go.Proofs
open Go.RowKit Go.Lib

/-- Are two readings the same? -/
noncomputable def litsEq (a b : List Lit) : Bool := @decide (a = b) (Classical.propDecidable _)
theorem litsEq_iff (a b : List Lit) : litsEq a b = true ↔ a = b := by unfold litsEq; exact @decide_eq_true_iff _ (Classical.propDecidable _)

/-- Two elements of a type of plain cells: '==' tells whether their cells read alike. -/
theorem neq_deep {P : Program} (m : Nat) (hm : m ≤ 10000) (t : TypeId) (hk : P.keyTypeAt m t = true) (hg : P.eqGuardType P.depth t = false) (X Y : Array Value) (D D' : Nat) (la lb : List Lit)
    (fx : (Value.agg X).formed P t = true) (fy : (Value.agg Y).formed P t = true) (hx : P.keyLits D t X.toList = some la) (hy : P.keyLits D' t Y.toList = some lb) :
    (∀ w, Sem.run P (binOp .neq t (.agg X) (.agg Y)) w = .ok (.bool (!litsEq la lb)) w) ∧ (∀ w, Sem.run P (binOp .eql t (.agg X) (.agg Y)) w = .ok (.bool (litsEq la lb)) w) ∧
    (∀ op a b w, Sem.run P (eqGuard op t a b (.agg X) (.agg Y)) w = .ok () w) := by
  have h : ∀ w, Sem.run P (Op.equalIn 10000 t (.agg X) (.agg Y)) w = .ok (litsEq la lb) w := fun w => by
    have e := run_equalIn_deep (P := P) (10000 - m) m t hk w D D' (.agg X) (.agg Y) la lb fx fy hx hy
    rw [Nat.sub_add_cancel hm] at e
    obtain ⟨r, h1, h2⟩ := e
    rw [h1]
    congr 1
    rw [Bool.eq_iff_iff, h2, litsEq_iff]
  exact ⟨fun w => by rw [run_neq_struct, h]; rfl, fun w => by rw [run_eql_struct, h]; rfl, fun op a b w => GuardAt.agg (T := t) (fun x : Bool => bif x then X else Y) hg op a b true false w⟩

theorem keyLits_of_trod {H : Type} {enc : TypeId × Value → H} {P : Program} {w : World} {base : Nat} {spare : Nat → Bool} {held : Bool} : ∀ (m : Nat) {n : Nat} {t : TypeId} {cs : List Value} {x : DataW H × List MemPlace},
    P.keyTypeAt m t = true → DataW.trod enc P w base spare held n t cs = some x → ∃ la, P.keyLits n t cs = some la
  | 0, n, t, cs, x, hk, h => by simp [Program.keyTypeAt] at hk
  | m + 1, n, t, cs, x, hk, h => by
    cases n with
    | zero => simp [DataW.trod] at h
    | succ n =>
      unfold Program.keyTypeAt at hk
      cases hu : P.underlying t with
      | none => simp [hu] at hk
      | some kd =>
        cases kd
        case bool => obtain ⟨b, rfl, _⟩ := DataW.trod_bool hu h; simp [Program.keyLits, hu]
        case int q => obtain ⟨b, rfl, _, hw⟩ := DataW.trod_int hu h; simp [Program.keyLits, hu, hw]
        case string => obtain ⟨b, rfl, _, hw⟩ := DataW.trod_string hu h; simp [Program.keyLits, hu, hw]
        case array k e =>
          simp only [hu] at hk
          obtain ⟨xs, m', hm', _, hl, hxl, hg⟩ := DataW.trod_array hu h
          cases hm'
          have : ∀ is : List Nat, (∀ i ∈ is, i < k) → ∃ zs, is.mapM (fun i => P.keyLits n e ((cs.drop (i * P.cellsOf e)).take (P.cellsOf e))) = some zs := by
            intro is
            induction is with
            | nil => intro _; exact ⟨[], rfl⟩
            | cons i is ih =>
              intro hi
              obtain ⟨zs, ha⟩ := ih (fun j hj => hi j (by simp [hj]))
              have hik := hi i (by simp)
              have h1 := hg i hik
              rw [List.getElem?_eq_getElem (by omega)] at h1
              obtain ⟨la, hla⟩ := keyLits_of_trod m hk h1
              exact ⟨la ::  zs, by rw [List.mapM_cons, hla, ha]; rfl⟩
          obtain ⟨zs, ha⟩ := this (List.range k) (fun i hi => List.mem_range.1 hi)
          exact ⟨zs.flatten, by simp [Program.keyLits, hu, hl, ha]⟩
        case struct fs =>
          simp only [hu, Bool.and_eq_true, Bool.not_eq_true'] at hk
          obtain ⟨xs, m', hm', _, hl, hxl, hg⟩ := DataW.trod_struct hu h
          cases hm'
          have hall : fs.all (fun f => f.name != "_") = true := by
            rw [Array.all_eq_true_iff_forall_mem]
            intro f hf
            exact (Bool.and_eq_true_iff.1 (Array.all_eq_true_iff_forall_mem.1 hk.1.1 f hf)).1
          have : ∀ l : List Field, (∀ f ∈ l, f ∈ fs) → ∃ zs, l.mapM (fun f => P.keyLits n f.type ((cs.drop f.offset).take (P.cellsOf f.type))) = some zs := by
            intro l
            induction l with
            | nil => intro _; exact ⟨[], rfl⟩
            | cons f l ih =>
              intro hi
              obtain ⟨zs, ha⟩ := ih (fun j hj => hi j (by simp [hj]))
              have hf := hi f (by simp)
              obtain ⟨i, hif, hfi⟩ := Array.mem_iff_getElem.1 hf
              have h1 := hg i f (by rw [Array.getElem?_eq_getElem hif, hfi])
              rw [List.getElem?_eq_getElem (by omega)] at h1
              obtain ⟨la, hla⟩ := keyLits_of_trod m (Bool.and_eq_true_iff.1 (Array.all_eq_true_iff_forall_mem.1 hk.1.1 f hf)).2 h1
              exact ⟨la ::  zs, by rw [List.mapM_cons, hla, ha]; rfl⟩
          obtain ⟨zs, ha⟩ := this fs.toList (fun f hf => Array.mem_toList_iff.1 hf)
          exact ⟨zs.flatten, by simp only [Program.keyLits, hu]; rw [if_pos ⟨hl, hall⟩, ha]; rfl⟩
        all_goals (simp [hu] at hk; done)
end Go.Proofs

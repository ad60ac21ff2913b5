import Derived.Test.YtiagdfbhagiigaaGreatEqE
import Derived.Test.YtiagdfbhagiigaaGreatEqFall
import Derived.Deep.Light
import Derived.Deep.MidRow
import Derived.Deep.CutBlock
namespace Go.Proofs
open Go.RowKit Go.Lib Go

/-- What a comparison of two lives does: it tells 'b', and leaves all that was there. -/
def TellsB (b : Bool) (w : World) (e : Ending) (w' : World) : Prop := e = .returned (.bool b) ∧ Below w.heap.size w w'
theorem below_drewN (B : Nat) (w : World) {q : Nat} : Below B w (w.drewN q) := ⟨rfl, rfl, rfl, Nat.le_refl _, fun _ _ => rfl⟩
theorem boxes_range (w : World) (x y : List Value) (t : TypeId) :
    ((w.alloc (.cells x.toArray t)).alloc (.cells y.toArray t)).rangeAt w.heap.size 0 x ∧ ((w.alloc (.cells x.toArray t)).alloc (.cells y.toArray t)).rangeAt (w.heap.size + 1) 0 y ∧
    Kept w ((w.alloc (.cells x.toArray t)).alloc (.cells y.toArray t)) ∧ Below w.heap.size w ((w.alloc (.cells x.toArray t)).alloc (.cells y.toArray t)) := by
  refine ⟨fun j v hv => ?_, fun j v hv => ?_, (Kept.alloc _ _).trans (Kept.alloc _ _), ((Below.refl _ w).alloc (Nat.le_refl _) _).alloc (by simp) _⟩
  · rw [World.cell?_alloc_past _ _ _ (by simp), World.cell?_alloc_at _ _ _ _ rfl]; simpa using hv
  · rw [World.cell?_alloc_at _ _ _ _ (by simp)]; simpa using hv

theorem fall_end {P : Program} {f : Func} {post : Ending → World → Prop} {a : Act} {w : World} {d : List Deferred} (hf : f.results = #[.tmp 4]) (hd : d = []) (h1 : a.defers = d) (h3 : a.tmps[4]? = some (.bool false)) (h : post (.returned (.bool false)) w) : bodyPost P f post .ret a w := by
  refine bodyPost_ret (results_tmp hf a.tmps P w) (h1.trans hd) ?_
  rw [Array.getD_eq_getD_getElem?, h3]; exact h

end Go.Proofs

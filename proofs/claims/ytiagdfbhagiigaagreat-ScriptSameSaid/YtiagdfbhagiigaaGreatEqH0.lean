import Derived.Test.YtiagdfbhagiigaaGreatEqG
import Derived.Deep.RegionHeld3
namespace Go.Proofs
open Go.RowKit Go.Lib Go

/-- A variable of 26 cells lies there, and may be read. -/
def ReadableAt (W : World) (v : Value) : Prop := ∃ b cs, v = .pointer (some ⟨b, 0, none⟩) ∧ cs.length = 26 ∧ W.rangeAt b 0 cs
/-- What it reads as. -/
def readAt (W : World) (v : Value) : Value := match v with
  | .pointer (some ⟨b, _, _⟩) => .agg ((List.range 26).map fun i => (W.cell? ⟨b, i, none⟩).getD undef).toArray
  | _ => undef
theorem readAt_of {W : World} {b : Nat} {cs : List Value} (hl : cs.length = 26) (h : W.rangeAt b 0 cs) : readAt W (.pointer (some ⟨b, 0, none⟩)) = .agg cs.toArray := by
  unfold readAt
  simp only
  congr 2
  refine List.ext_getElem? fun i => ?_
  by_cases hi : i < 26
  · have hc : cs[i]? = some cs[i] := List.getElem?_eq_getElem (by omega)
    have := h i _ hc
    rw [Nat.zero_add] at this
    rw [List.getElem?_map, List.getElem?_range hi, Option.map_some, this, hc]; rfl
  · rw [List.getElem?_eq_none (by simp; omega), List.getElem?_eq_none (by omega)]
theorem load_read {W : World} {v : Value} (h : ReadableAt W v) : Sem.run Tryz.prog (Instr.loadAt 53 v) W = .ok (readAt W v) W := by
  obtain ⟨b, cs, rfl, hl, hr⟩ := h
  rw [readAt_of hl hr]
  exact run_loadAt_mid W b 0 53 cs _ hr Tryz.underlying53 rfl (by rw [hl]; kernel_rfl)
theorem keep_call {w W W' : World} {u v x y : Value} (hb : Below W.heap.size W W') (h : ReadableAt W u ∧ readAt W u = x ∧ ReadableAt W v ∧ readAt W v = y ∧ Kept w W ∧ Below w.heap.size w W) :
    ReadableAt W' u ∧ readAt W' u = x ∧ ReadableAt W' v ∧ readAt W' v = y ∧ Kept w W' ∧ Below w.heap.size w W' := by
  have k := Kept.below hb
  have step : ∀ {u x}, ReadableAt W u → readAt W u = x → ReadableAt W' u ∧ readAt W' u = x := fun h e => by
    obtain ⟨b, cs, rfl, hl, hr⟩ := h
    have hr' : W'.rangeAt b 0 cs := fun j v hv => k _ _ (hr j v hv)
    exact ⟨⟨b, cs, rfl, hl, hr'⟩, by rw [readAt_of hl hr']; rw [readAt_of hl hr] at e; exact e⟩
  obtain ⟨h1, h2, h3, h4, h5, h6⟩ := h
  exact ⟨(step h1 h2).1, (step h1 h2).2, (step h3 h4).1, (step h3 h4).2, h5.trans k, h6.trans (hb.mono h6.size)⟩

theorem keep_kept {w W : World} {u v x y : Value} (h : ReadableAt W u ∧ readAt W u = x ∧ ReadableAt W v ∧ readAt W v = y ∧ Kept w W ∧ Below w.heap.size w W) : Kept w W := h.2.2.2.2.1
theorem keep_below {w W : World} {u v x y : Value} (h : ReadableAt W u ∧ readAt W u = x ∧ ReadableAt W v ∧ readAt W v = y ∧ Kept w W ∧ Below w.heap.size w W) : Below w.heap.size w W := h.2.2.2.2.2
theorem boxes_read {w W : World} {cs ds : List Value} (h1 : W.rangeAt w.heap.size 0 cs) (h2 : W.rangeAt (w.heap.size + 1) 0 ds) (hk : Kept w W) (hB : Below w.heap.size w W) (l1 : cs.length = 26 := by rfl) (l2 : ds.length = 26 := by rfl) :
    ReadableAt W (.pointer (some ⟨w.heap.size, 0, none⟩)) ∧ readAt W (.pointer (some ⟨w.heap.size, 0, none⟩)) = .agg cs.toArray ∧ ReadableAt W (.pointer (some ⟨w.heap.size + 1, 0, none⟩)) ∧ readAt W (.pointer (some ⟨w.heap.size + 1, 0, none⟩)) = .agg ds.toArray ∧ Kept w W ∧ Below w.heap.size w W :=
  ⟨⟨_, _, rfl, l1, h1⟩, readAt_of l1 h1, ⟨_, _, rfl, l2, h2⟩, readAt_of l2 h2, hk, hB⟩
theorem load_op {W : World} {ρ : Operand → Value} {dst : Option Tmp} {x : Operand} {ty : TypeId} {pos : String} {after : Array Edge} {guard : Option (Nat × Bool)} (h : ReadableAt W (ρ x)) :
    Sem.run Tryz.prog (execOp ρ ⟨dst, .load 53 x, ty, pos, after, guard⟩) W = .ok (.value (readAt W (ρ x))) W := by
  simp only [execOp, Sem.run_bind, load_read h, Result.andThen_ok, Sem.run_pure]


end Go.Proofs

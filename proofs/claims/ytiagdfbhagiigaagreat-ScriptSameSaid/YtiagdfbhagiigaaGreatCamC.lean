/- Cam, part C: what is known of the program's types; reading and writing cells of a region; new regions. -/
import Derived.Test.YtiagdfbhagiigaaGreatCamB
namespace Cam
open Go
variable {X : Type} [AbsRep X] {P : Program}

/-- What is asked of a type: its value zero, how many cells, how many bytes. -/
structure TI where
  zero : Value
  size : Nat
  bytes : Nat
  row : Bool

theorem oneCell_of {E : Env} {x : SV} {v : Value} (hr : R E x v) (h : x.atom = true) : v.oneCell' = true := by
  have := SV.atom_eq hr
  rw [h] at this
  cases v <;> simp [isAtom] at this <;> rfl

theorem addr_add (b o j : Nat) : (⟨b, o, none⟩ : Addr).add j = ⟨b, o + j, none⟩ := by
  unfold Addr.add; split <;> simp_all

/-- The cells of a region as they lie. -/
theorem cell_at {w : World} {b base : Nat} {pre vs post : List Value} {cs : Array Value} {t : TypeId} {fz : Nat × Nat} (h1 : w.heap[b]? = some (.cells cs t fz))
    (h2 : cs.toList = pre ++ (vs ++ post)) (h3 : pre.length = base) (i : Nat) (hi : i < vs.length) : w.cell? ⟨b, base + i, none⟩ = vs[i]? := by
  have : cs[base + i]? = vs[i]? := by
    rw [← Array.getElem?_toList, h2, List.getElem?_append_right (by omega), List.getElem?_append_left (by omega)]
    congr 1; omega
  simp [World.cell?, h1, this]

theorem frozen_at {w : World} {b : Nat} {cs : Array Value} {t : TypeId} {fz : Nat × Nat} (h1 : w.heap[b]? = some (.cells cs t fz))
    (h2 : ∀ o, fz.1 ≤ o → o < fz.2 → cs.size ≤ o) (o : Nat) (ho : o < cs.size) : w.frozen? ⟨b, o, none⟩ = false := by
  obtain ⟨lo, hi⟩ := fz
  simp only [World.frozen?, h1, Bool.and_eq_false_iff, decide_eq_false_iff_not]
  by_cases h : lo ≤ o
  · right; intro hh; have := h2 o h hh; omega
  · left; exact h

theorem seg_step (cur : List Value) (k : Nat) (v : Value) (rest : List Value) (h : k + (rest.length + 1) ≤ cur.length) :
    (cur.set k v).take (k + 1) ++ rest ++ (cur.set k v).drop (k + 1 + rest.length) = cur.take k ++ (v :: rest) ++ cur.drop (k + (rest.length + 1)) := by
  rw [List.take_set, List.drop_set, if_pos (by omega)]
  have h1 : (cur.take (k + 1)).set k v = cur.take k ++ [v] := by
    rw [List.take_succ_eq_append_getElem (by omega), List.set_append_right _ _ (by simp; omega)]
    simp [Nat.min_eq_left (show k ≤ cur.length by omega)]
  rw [h1]
  simp [Nat.add_assoc, Nat.add_comm 1]

theorem run_storeCells_any (P : Program) (g o : Nat) (t : TypeId) (fz : Nat × Nat) : ∀ (vs : List Value) (i : Nat) (cur : Array Value) (w : World),
    w.heap[g]? = some (.cells cur t fz) → (∀ o, fz.1 ≤ o → o < fz.2 → cur.size ≤ o) → o + i + vs.length ≤ cur.size → (∀ v ∈ vs, v.oneCell' = true) →
    (storeCells ⟨g, o, none⟩ vs i).run P w = .ok () (w.setRow g (cur.toList.take (o + i) ++ vs ++ cur.toList.drop (o + i + vs.length)).toArray)
  | [], i, cur, w, hg, _, _, _ => by
    simp only [storeCells, List.append_nil, List.length_nil, Nat.add_zero, List.take_append_drop, Array.toArray_toList]
    rw [setRow_self w g cur t fz hg]
    rfl
  | v :: rest, i, cur, w, hg, hfz, hl, h1 => by
    have hi : o + i < cur.size := by simp at hl; omega
    have hcell : w.cell? ⟨g, o + i, none⟩ = some cur[o + i] := by simp [World.cell?, hg, hi]
    have hfro : w.frozen? ⟨g, o + i, none⟩ = false := frozen_at hg hfz _ hi
    have hst : (store ((⟨g, o, none⟩ : Addr).add i) v).run P w = .ok () (w.setRow g (cur.setIfInBounds (o + i) v)) := by
      rw [addr_add, run_store P w _ v _ (h1 v (by simp)), hcell]
      simp [hfro, setCell_eq_setRow w g (o + i) cur t fz v hg]
    have ih := run_storeCells_any P g o t fz rest (i + 1) (cur.setIfInBounds (o + i) v) (w.setRow g (cur.setIfInBounds (o + i) v)) (setRow_heap w g cur _ t _ hg)
      (by simpa using hfz) (by simp at hl ⊢; omega) (fun x hx => h1 x (by simp [hx]))
    simp only [storeCells, Sem.run_bind, hst, Result.andThen_ok, ih, setRow_setRow]
    congr 3
    have e := seg_step cur.toList (o + i) v rest (by simp at hl ⊢; omega)
    simpa [Array.toList_setIfInBounds, Nat.add_assoc] using e

theorem setRow_other (w : World) (g b : Nat) (cs : Array Value) (h : b ≠ g) : (w.setRow g cs).heap[b]? = w.heap[b]? := by
  simp only [World.setRow, Array.getElem?_modify]
  rw [if_neg (by omega)]

theorem setRow_size (w : World) (g : Nat) (cs : Array Value) : (w.setRow g cs).heap.size = w.heap.size := by simp [World.setRow]

/-- Laying a list over a list. -/
def laid {α : Type} (known : List α) (off : Nat) (l : List α) : List α := known.take off ++ l ++ known.drop (off + l.length)

theorem RL.laid {E : Env} {a l : List SV} {a' l' : List Value} (h : RL E a a') (k : RL E l l') (off : Nat) : RL E (Cam.laid a off l) (Cam.laid a' off l') := by
  unfold Cam.laid
  rw [k.length]
  exact ((h.take off).append k).append (h.drop _)

theorem laid_length {α : Type} (known : List α) (off : Nat) (l : List α) (h : off + l.length ≤ known.length) : (laid known off l).length = known.length := by
  simp [laid]; omega

/-- Cells of a region are read. -/
theorem emb_cells {E : Env} {own : Own} {h : CHeap X} {w : World} (e : Emb E own h w) {n : Nat} {known : List SV} {opn : Bool} {t : TypeId} (hc : h.get n = some (.cells known opn t)) :
    ∃ nb vs, E n = some nb ∧ RL E known vs ∧ ∀ i v, vs[i]? = some v → w.cell? ⟨nb.block, nb.base + i, none⟩ = some v := by
  obtain ⟨nb, hn, hown, pre, vs, post, cs, fz, h1, h2, h3, h4, h5, h6, h7⟩ := e.ch n _ hc
  refine ⟨nb, vs, hn, h4, fun i v hv => ?_⟩
  have hi : i < vs.length := (List.getElem?_eq_some_iff.1 hv).1
  rw [cell_at h1 h2 h3 i hi, hv]

theorem load_cells1 {E : Env} {own : Own} {h : CHeap X} {w : World} (e : Emb E own h w) {n off k : Nat} {known : List SV} {opn : Bool} {t : TypeId} (hc : h.get n = some (.cells known opn t))
    (hk : off + k ≤ known.length) : ∃ nb vs, E n = some nb ∧ RL E ((known.drop off).take k) vs ∧ vs.length = k ∧ ∀ w1 : World, w1.heap = w.heap → (loadCells ⟨nb.block, nb.base + off, none⟩ k).run P w1 = .ok vs.toArray w1 := by
  obtain ⟨nb, vs, hn, hr, hcell⟩ := emb_cells e hc
  have hr' := (hr.drop off).take k
  have hl : ((vs.drop off).take k).length = k := by have := hr.length; simp; omega
  refine ⟨nb, (vs.drop off).take k, hn, hr', hl, fun w1 hw1 => ?_⟩
  have := run_loadCells_list (P := P) w1 ⟨nb.block, nb.base + off, none⟩ ((vs.drop off).take k) (fun j v hv => by
    rw [addr_add]
    rw [List.getElem?_take] at hv
    split at hv
    · rw [List.getElem?_drop] at hv
      have := hcell _ _ hv
      rw [← Nat.add_assoc] at this
      simpa [World.cell?, hw1] using this
    · cases hv)
  rwa [hl] at this

theorem load_cells {E : Env} {own : Own} {h : CHeap X} {w : World} (e : Emb E own h w) {n off k : Nat} {known : List SV} {opn : Bool} {t : TypeId} (hc : h.get n = some (.cells known opn t))
    (hk : off + k ≤ known.length) : ∃ nb vs, E n = some nb ∧ RL E ((known.drop off).take k) vs ∧ vs.length = k ∧ (loadCells ⟨nb.block, nb.base + off, none⟩ k).run P w = .ok vs.toArray w :=
  let ⟨nb, vs, h1, h2, h3, h4⟩ := load_cells1 (P := P) e hc hk
  ⟨nb, vs, h1, h2, h3, h4 w rfl⟩

theorem load_cell {E : Env} {own : Own} {h : CHeap X} {w : World} (e : Emb E own h w) {n off : Nat} {known : List SV} {opn : Bool} {t : TypeId} {x : SV} (hc : h.get n = some (.cells known opn t))
    (hx : known[off]? = some x) : ∃ nb v, E n = some nb ∧ R E x v ∧ w.cell? ⟨nb.block, nb.base + off, none⟩ = some v := by
  obtain ⟨nb, vs, hn, hr, hcell⟩ := emb_cells e hc
  obtain ⟨v, hv, hrv⟩ := hr.get hx
  exact ⟨nb, v, hn, hrv, hcell _ _ hv⟩

/-- Cells of a region are written. -/
theorem store_cells {E : Env} {own : Own} {h : CHeap X} {w : World} (e : Emb E own h w) {n off : Nat} {known l : List SV} {l' : List Value} {opn : Bool} {t : TypeId}
    (hc : h.get n = some (.cells known opn t)) (hl : RL E l l') (hk : off + l.length ≤ known.length) (ha : ∀ v ∈ l', v.oneCell' = true) :
    ∃ nb w', E n = some nb ∧ (storeCells ⟨nb.block, nb.base + off, none⟩ l').run P w = .ok () w' ∧
      Emb E own (h.set n (.cells (laid known off l) opn t)) w' ∧ Tran E own h w E own (h.set n (.cells (laid known off l) opn t)) w' := by
  obtain ⟨nb, hn, hown, pre, vs, post, cs, fz, h1, h2, h3, h4, h5, h6, h7⟩ := e.ch n _ hc
  have hll := hl.length
  have hkl := h4.length
  have hcs : cs.size = pre.length + (vs.length + post.length) := by rw [← Array.length_toList, h2]; simp
  have hrun := run_storeCells_any P nb.block (nb.base + off) t fz l' 0 cs w h1 (fz_all h7) (by omega) ha
  have hnew : cs.toList.take (nb.base + off + 0) ++ l' ++ cs.toList.drop (nb.base + off + 0 + l'.length) = pre ++ (laid vs off l' ++ post) := by
    rw [h2]
    unfold laid
    have a1 : (pre ++ (vs ++ post)).take (nb.base + off + 0) = pre ++ vs.take off := by
      rw [List.take_append, List.take_of_length_le (by omega), List.take_append, ]
      simp [show nb.base + off - pre.length = off by omega, show off - vs.length = 0 by omega]
    have a2 : (pre ++ (vs ++ post)).drop (nb.base + off + 0 + l'.length) = vs.drop (off + l'.length) ++ post := by
      rw [List.drop_append, List.drop_of_length_le (by omega), List.drop_append]
      simp [show nb.base + off + l'.length - pre.length = off + l'.length by omega, show off + l'.length - vs.length = 0 by omega]
    rw [a1, a2]; simp [List.append_assoc]
  rw [hnew] at hrun
  have hb := setRow_heap w nb.block cs (pre ++ (laid vs off l' ++ post)).toArray t fz h1
  obtain ⟨e', tr⟩ := e.turn (w' := w.setRow nb.block (pre ++ (laid vs off l' ++ post)).toArray) (c' := .cells (laid known off l) opn t) hc hn rfl (setRow_size _ _ _) rfl rfl rfl
    (fun b hb => setRow_other _ _ _ _ hb)
    ⟨hown, pre, laid vs off l', post, _, fz, hb, by simp, h3, h4.laid hl off, by rw [laid_length _ _ _ (by omega)]; exact h5, h6, by
      simp only [List.size_toArray, List.length_append, laid_length vs off l' (by omega)]
      omega⟩
  exact ⟨nb, _, hn, hrun, e', tr⟩

/-- A new region. -/
theorem new_cells {E : Env} {own : Own} {h : CHeap X} {w : World} (e : Emb E own h w) {l : List SV} {l' : List Value} (hl : RL E l l') (t : TypeId) (post : List Value) (opn : Bool) (hp : opn = false → post = []) (tp : World)
    (htp : tp.heap = w.heap) (h1 : tp.os = w.os) (h2 : tp.tape = w.tape) (h3 : tp.output = w.output) :
    ∃ E' own', Emb E' own' (h.push (.cells l opn t)) { tp with heap := tp.heap.push (.cells (l' ++ post).toArray t) } ∧
      Tran E own h w E' own' (h.push (.cells l opn t)) { tp with heap := tp.heap.push (.cells (l' ++ post).toArray t) } ∧ E' h.next = some ⟨w.heap.size, 0, l'.length + post.length⟩ :=
  e.grow (.cells (l' ++ post).toArray t) (.cells l opn t) 0 (l'.length + post.length) tp htp h1 h2 h3
    (fun E' own' w' hx ho hw => ⟨ho, [], l', post, _, (0, 0), hw, by simp, rfl, hl.mono hx, rfl, hp, .inl rfl⟩)
end Cam

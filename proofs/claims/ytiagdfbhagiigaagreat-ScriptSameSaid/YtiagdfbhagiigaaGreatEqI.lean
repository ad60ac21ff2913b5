import Derived.Test.YtiagdfbhagiigaaGreatEqD
import Derived.Deep.Slices
import Derived.DataReads
namespace Go.Proofs
open Go.RowKit Go.Lib Go.Deep Go.WideShapes Go.ChangeShapes

theorem list_of {α : Type} [Inhabited α] {n : Nat} {p : Nat → α → Prop} (h : ∀ i, i < n → ∃ x, p i x) : ∃ xs : List α, xs.length = n ∧ ∀ j, j < n → p j xs[j]! := by
  obtain ⟨f, hf⟩ := choose_lt h
  refine ⟨(List.range n).map f, by simp, fun j hj => ?_⟩
  have : ((List.range n).map f)[j]! = f j := by
    rw [List.getElem!_eq_getElem?_getD, List.getElem?_map, List.getElem?_range hj]; rfl
  rw [this]; exact hf j hj

section
variable {H : Type} {enc : TypeId × Value → H} {P : Program} {w : World} {base : Nat} {spare : Nat → Bool} {held : Bool}

/-- A slice that came in, whatever its elements. -/
theorem open_any {t e : TypeId} {fuel k : Nat} {cs : List Value} {x : DataW H × List MemPlace} (ht : P.underlying t = some (.slice e)) (hk : P.cellsOf e = k) (h0 : 0 < k) (h : DataW.trod enc P w base spare held fuel t cs = some x) :
    ∃ p n c, cs = [.slice p n c] ∧ n ≤ maxLen ∧ (0 < n → ∃ b o, p = some ⟨b, o, none⟩ ∧ ∀ j, j < n → ∃ cs' m y, cs'.length = k ∧ DataW.trod enc P w base spare held m e cs' = some y ∧ ∀ i, i < k → w.cell? ⟨b, o + j * k + i, none⟩ = cs'[i]?) := by
  subst hk
  rcases open_slice ht h with ⟨hc, _⟩ | ⟨a, len, cap, m, n, D, Pl, hcs, hb, hl, hm, hmm, _, hx⟩
  · exact ⟨none, 0, 0, hc, Nat.zero_le _, fun h => absurd h (Nat.lt_irrefl _)⟩
  · refine ⟨some a, len, cap, hcs, Nat.le_trans hl hm, fun hl0 => ?_⟩
    have hlm : len ≤ m := by rw [hmm]; split <;> omega
    have hsp : a.spot = none := by
      obtain ⟨cs', hc, _⟩ := hx 0 (by omega)
      obtain ⟨_, hlen, hat⟩ := World.cells?_some hc
      have := hat 0 h0
      rw [Nat.zero_mul, add_add] at this
      have hs : cs'[0]? = some (cs'[0]'(by omega)) := List.getElem?_eq_getElem (by omega)
      rw [hs] at this
      exact World.cell?_spot (a := a) (by simpa [Addr.add] using this)
    obtain ⟨b, o, sp⟩ := a
    simp only at hsp
    subst hsp
    refine ⟨b, o, rfl, fun j hj => ?_⟩
    obtain ⟨cs', hc, htr⟩ := hx j (by omega)
    obtain ⟨_, hlen, hat⟩ := World.cells?_some hc
    refine ⟨cs', n, _, hlen, htr, fun i hi => ?_⟩
    rw [← hat i hi, add_add, Addr.add_lit, Nat.add_assoc]

theorem open_rdInt {t e : TypeId} {fuel : Nat} {cs : List Value} {x : DataW H × List MemPlace} (ht : P.underlying t = some (.slice e)) (he : P.underlying e = some (.int .i64)) (hk : P.cellsOf e = 1) (h : DataW.trod enc P w base spare held fuel t cs = some x) :
    ∃ p n c xs, cs = [.slice p n c] ∧ Rd eInt w p n xs := by
  obtain ⟨p, n, c, hcs, hn, hat⟩ := open_any ht hk (by omega) h
  by_cases h0 : 0 < n
  · obtain ⟨b, o, hp, hj⟩ := hat h0
    have : ∀ j, j < n → ∃ z : Int, w.cell? ⟨b, o + j, none⟩ = some (.int .i64 z) := fun j hlt => by
      obtain ⟨cs', m, y, hl, htr, hc⟩ := hj j hlt
      obtain ⟨z, rfl, _, _⟩ := DataW.trod_int he htr
      exact ⟨z, by simpa using hc 0 (by omega)⟩
    obtain ⟨xs, hl, hx⟩ := list_of this
    exact ⟨p, n, c, xs, hcs, hl, hn, fun _ => ⟨b, o, hp, hx⟩⟩
  · obtain rfl : n = 0 := by omega
    exact ⟨p, 0, c, [], hcs, rfl, hn, fun h => absurd h (Nat.lt_irrefl _)⟩

theorem open_rdByte {t e : TypeId} {fuel : Nat} {cs : List Value} {x : DataW H × List MemPlace} (ht : P.underlying t = some (.slice e)) (he : P.underlying e = some (.int .u8)) (hk : P.cellsOf e = 1) (h : DataW.trod enc P w base spare held fuel t cs = some x) :
    ∃ p n c xs, cs = [.slice p n c] ∧ Rd eByte w p n xs := by
  obtain ⟨p, n, c, hcs, hn, hat⟩ := open_any ht hk (by omega) h
  by_cases h0 : 0 < n
  · obtain ⟨b, o, hp, hj⟩ := hat h0
    have : ∀ j, j < n → ∃ z : UInt8, w.cell? ⟨b, o + j, none⟩ = some (eByte z) := fun j hlt => by
      obtain ⟨cs', m, y, hl, htr, hc⟩ := hj j hlt
      obtain ⟨z, rfl, _, hw⟩ := DataW.trod_int he htr
      have hz : 0 ≤ z ∧ z ≤ 255 := by simpa [Lit.wf, IntKind.min, IntKind.max, IntKind.bits, IntKind.signed] using hw
      refine ⟨UInt8.ofNat z.toNat, ?_⟩
      have := hc 0 (by omega)
      simp only [Nat.mul_one, Nat.add_zero] at this
      rw [this]
      simp only [List.getElem?_cons_zero, eByte, UInt8.toNat_ofNat', Nat.reducePow]
      congr 2
      omega
    obtain ⟨xs, hl, hx⟩ := list_of this
    exact ⟨p, n, c, xs, hcs, hl, hn, fun _ => ⟨b, o, hp, hx⟩⟩
  · obtain rfl : n = 0 := by omega
    exact ⟨p, 0, c, [], hcs, rfl, hn, fun h => absurd h (Nat.lt_irrefl _)⟩

theorem open_rdB {t e q : TypeId} {fuel : Nat} {cs : List Value} {x : DataW H × List MemPlace} (ht : P.underlying t = some (.slice e)) (he : P.underlying e = some (.slice q)) (hq : P.underlying q = some (.int .u8)) (hk : P.cellsOf e = 1) (hkq : P.cellsOf q = 1)
    (h : DataW.trod enc P w base spare held fuel t cs = some x) : ∃ p n c xs, cs = [.slice p n c] ∧ RdB w p n xs := by
  obtain ⟨p, n, c, hcs, hn, hat⟩ := open_any ht hk (by omega) h
  by_cases h0 : 0 < n
  · obtain ⟨b, o, hp, hj⟩ := hat h0
    have : ∀ j, j < n → ∃ z : List UInt8, ∃ pj mj cj, w.cell? ⟨b, o + j, none⟩ = some (.slice pj mj cj) ∧ Rd eByte w pj mj z := fun j hlt => by
      obtain ⟨cs', m, y, hl, htr, hc⟩ := hj j hlt
      obtain ⟨pj, mj, cj, z, rfl, hz⟩ := open_rdByte he hq hkq htr
      exact ⟨z, pj, mj, cj, by simpa using hc 0 (by omega), hz⟩
    obtain ⟨xs, hl, hx⟩ := list_of this
    exact ⟨p, n, c, xs, hcs, hl, hn, fun _ => ⟨b, o, hp, hx⟩⟩
  · obtain rfl : n = 0 := by omega
    exact ⟨p, 0, c, [], hcs, rfl, hn, fun h => absurd h (Nat.lt_irrefl _)⟩
end

theorem open_rd3 {H : Type} {enc : TypeId × Value → H} {w : World} {base : Nat} {spare : Nat → Bool} {held : Bool} {t e : TypeId} {fuel : Nat} {cs : List Value} {x : DataW H × List MemPlace} (ht : Tryz.prog.underlying t = some (.slice e)) (hk : Tryz.prog.cellsOf e = 3) (hkt : Tryz.prog.keyTypeAt 20 e = true)
    (h : DataW.trod enc Tryz.prog w base spare held fuel t cs = some x) : ∃ p n c xs, cs = [.slice p n c] ∧ Rd3 e w p n xs := by
  obtain ⟨p, n, c, hcs, hn, hat⟩ := open_any ht hk (by omega) h
  by_cases h0 : 0 < n
  · obtain ⟨b, o, hp, hj⟩ := hat h0
    have : ∀ j, j < n → ∃ z : List Lit, Cells3 e w b (o + j * 3) z := fun j hlt => by
      obtain ⟨cs', m, y, hl, htr, hc⟩ := hj j hlt
      obtain ⟨la, hla⟩ := keyLits_of_trod 20 hkt htr
      match cs', hl with
      | [v0, v1, v2], _ => exact ⟨la, v0, v1, v2, m, hla, by simpa using hc 0 (by omega), by simpa using hc 1 (by omega), by simpa using hc 2 (by omega)⟩
    obtain ⟨xs, hl, hx⟩ := list_of this
    exact ⟨p, n, c, xs, hcs, hl, hn, fun _ => ⟨b, o, hp, hx⟩⟩
  · obtain rfl : n = 0 := by omega
    exact ⟨p, 0, c, [], hcs, rfl, hn, fun h => absurd h (Nat.lt_irrefl _)⟩
end Go.Proofs

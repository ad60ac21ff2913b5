import Derived.Test.YtiagdfbhagiigaaGreatEqB
namespace Go.Proofs
open Go.RowKit Go.Lib

/-- Three cells that lie at a place and read as 'la' at a type. -/
def Cells3 (t : TypeId) (w : World) (b o : Nat) (la : List Lit) : Prop :=
  ∃ (v0 v1 v2 : Value) (D : Nat), Tryz.prog.keyLits D t [v0, v1, v2] = some la ∧ w.cell? ⟨b, o, none⟩ = some v0 ∧ w.cell? ⟨b, o + 1, none⟩ = some v1 ∧ w.cell? ⟨b, o + 2, none⟩ = some v2
theorem Cells3.drewN {t : TypeId} {w : World} {b o : Nat} {la : List Lit} (h : Cells3 t w b o la) (q : Nat) : Cells3 t (w.drewN q) b o la := by
  obtain ⟨v0, v1, v2, D, h, h0, h1, h2⟩ := h
  exact ⟨v0, v1, v2, D, h, by rw [World.cell?_drewN]; exact h0, by rw [World.cell?_drewN]; exact h1, by rw [World.cell?_drewN]; exact h2⟩
theorem Tryz.cellsOf85 : Tryz.prog.cellsOf 85 = 3 := by kernel_rfl
theorem Tryz.cellsOf89 : Tryz.prog.cellsOf 89 = 3 := by kernel_rfl

set_option maxHeartbeats 400000 in
theorem eq64 (p1 p2 : Option Addr) (n c1 m c2 : Nat) (xs ys : List (List Lit)) (w : World) (lx : xs.length = n) (ly : ys.length = m) (hn : n ≤ maxLen) (hm : m ≤ maxLen)
    (h1 : 0 < n → ∃ b o, p1 = some ⟨b, o, none⟩ ∧ ∀ j, j < n → Cells3 85 w b (o + j * 3) xs[j]!)
    (h2 : 0 < m → ∃ b o, p2 = some ⟨b, o, none⟩ ∧ ∀ j, j < m → Cells3 85 w b (o + j * 3) ys[j]!) :
    Calls Tryz.prog 64 #[.slice p1 n c1, .slice p2 m c2] w fun e w' => e = .returned (.bool (Lib.allEq litsEq xs ys)) ∧ ∃ q, w' = w.drewN q := by
  unfold maxLen at hn hm
  by_cases hnm : n = m
  · subst hnm
    by_cases h0 : 0 < n
    · obtain ⟨b1, o1, rfl, hc1⟩ := h1 h0
      obtain ⟨b2, o2, rfl, hc2⟩ := h2 h0
      have HX := Lib.hid lx
      have HY := Lib.hid ly
      clear lx ly h1 h2
      go_enter Tryz.func64, Tryz.ntmps64
      go_wp2
      go_loopg [13] n (fun g s13 wr => ∃ kk q : Nat, kk ≤ n ∧ n - kk ≤ g ∧ s13 = .int .i64 kk ∧ wr = w.drewN q ∧ Aside (∀ j, j < kk → litsEq xs[j]! ys[j]! = true))
      case atStart => exact ⟨0, 0, Nat.zero_le _, by omega, rfl, rfl, fun j hj => absurd hj (Nat.not_lt_zero _)⟩
      case round =>
        obtain ⟨kk, q, hkk, hg, rfl, rfl, A⟩ := hrel
        by_cases hlt : kk < n
        · obtain ⟨x0, x1, x2, D, kx, gx0, gx1, gx2⟩ := (hc1 kk hlt).drewN q
          obtain ⟨y0, y1, y2, D', ky, gy0, gy1, gy2⟩ := (hc2 kk hlt).drewN q
          obtain ⟨hne, -, hgd⟩ := neq_deep (P := Tryz.prog) 20 (by omega) 85 (by kernel_rfl) (by kernel_rfl) #[x0, x1, x2] #[y0, y1, y2] D D' _ _ (by simp [Value.formed, Tryz.underlying85, Tryz.cellsOf85]) (by simp [Value.formed, Tryz.underlying85, Tryz.cellsOf85]) kx ky
          clear hc1 hc2 kx ky
          generalize hr : litsEq xs[kk]! ys[kk]! = r at hne
          have B := Lib.hid hr
          clear hr
          generalize hwq : w.drewN q = wq at *
          have W := Lib.hid hwq
          clear hwq
          cases r with
          | true =>
            go_wp2_with fail
            go_quiet (fail)
            go_wp2
            go_roundg (n - (kk + 1))
            case measure => omega
            case rel =>
              refine ⟨kk + 1, q + nq, by omega, by omega, by go_num, by rw [← W.out, World.drewN_drewN], (show Aside _ from fun j hj => ?_)⟩
              by_cases e : j = kk
              · subst e
                exact B.out
              · exact A.out j (by omega)
          | false =>
            go_wp2_with fail
            go_quiet (fail)
            go_wp2
            go_ret
            refine ⟨?_, q + nq, by rw [← W.out, World.drewN_drewN]⟩
            have BB : litsEq xs[kk]! ys[kk]! = false := B.out
            rw [Lib.allEq_elem litsEq xs ys kk (by rw [HX.out]; exact hlt) (by rw [HY.out]; exact hlt) BB]
            rfl
        · have : kk = n := by omega
          subst this
          clear hc1 hc2
          go_wp2
          go_ret
          refine ⟨?_, q, rfl⟩
          rw [Lib.allEq_all _ xs ys (by rw [HX.out, HY.out]) (fun j hj => A.out j (by rw [HX.out] at hj; exact hj))]
          rfl
    · obtain rfl : n = 0 := by omega
      clear h1 h2
      obtain rfl := List.length_eq_zero_iff.1 lx
      obtain rfl := List.length_eq_zero_iff.1 ly
      clear lx ly h0
      go_enter Tryz.func64, Tryz.ntmps64
      go_wp2
      go_loopg [13] 0 (fun g s13 wr => s13 = .int .i64 0 ∧ wr = w)
      case atStart => exact ⟨rfl, rfl⟩
      case round =>
        obtain ⟨rfl, rfl⟩ := hrel
        go_wp2
        go_ret
        exact ⟨rfl, 0, rfl⟩
  · have HL := Lib.hid (Lib.allEq_len litsEq xs ys (by omega))
    have hnm' : ¬ (n : Int) = (m : Int) := by omega
    clear h1 h2 lx ly
    go_enter Tryz.func64, Tryz.ntmps64
    go_wp2
    go_ret
    exact ⟨by rw [HL.out]; rfl, 0, rfl⟩

set_option maxHeartbeats 400000 in
theorem eq66 (p1 p2 : Option Addr) (n c1 m c2 : Nat) (xs ys : List (List Lit)) (w : World) (lx : xs.length = n) (ly : ys.length = m) (hn : n ≤ maxLen) (hm : m ≤ maxLen)
    (h1 : 0 < n → ∃ b o, p1 = some ⟨b, o, none⟩ ∧ ∀ j, j < n → Cells3 89 w b (o + j * 3) xs[j]!)
    (h2 : 0 < m → ∃ b o, p2 = some ⟨b, o, none⟩ ∧ ∀ j, j < m → Cells3 89 w b (o + j * 3) ys[j]!) :
    Calls Tryz.prog 66 #[.slice p1 n c1, .slice p2 m c2] w fun e w' => e = .returned (.bool (Lib.allEq litsEq xs ys)) ∧ ∃ q, w' = w.drewN q := by
  unfold maxLen at hn hm
  by_cases hnm : n = m
  · subst hnm
    by_cases h0 : 0 < n
    · obtain ⟨b1, o1, rfl, hc1⟩ := h1 h0
      obtain ⟨b2, o2, rfl, hc2⟩ := h2 h0
      have HX := Lib.hid lx
      have HY := Lib.hid ly
      clear lx ly h1 h2
      go_enter Tryz.func66, Tryz.ntmps66
      go_wp2
      go_loopg [13] n (fun g s13 wr => ∃ kk q : Nat, kk ≤ n ∧ n - kk ≤ g ∧ s13 = .int .i64 kk ∧ wr = w.drewN q ∧ Aside (∀ j, j < kk → litsEq xs[j]! ys[j]! = true))
      case atStart => exact ⟨0, 0, Nat.zero_le _, by omega, rfl, rfl, fun j hj => absurd hj (Nat.not_lt_zero _)⟩
      case round =>
        obtain ⟨kk, q, hkk, hg, rfl, rfl, A⟩ := hrel
        by_cases hlt : kk < n
        · obtain ⟨x0, x1, x2, D, kx, gx0, gx1, gx2⟩ := (hc1 kk hlt).drewN q
          obtain ⟨y0, y1, y2, D', ky, gy0, gy1, gy2⟩ := (hc2 kk hlt).drewN q
          obtain ⟨hne, -, hgd⟩ := neq_deep (P := Tryz.prog) 20 (by omega) 89 (by kernel_rfl) (by kernel_rfl) #[x0, x1, x2] #[y0, y1, y2] D D' _ _ (by simp [Value.formed, Tryz.underlying89, Tryz.cellsOf89]) (by simp [Value.formed, Tryz.underlying89, Tryz.cellsOf89]) kx ky
          clear hc1 hc2 kx ky
          generalize hr : litsEq xs[kk]! ys[kk]! = r at hne
          have B := Lib.hid hr
          clear hr
          generalize hwq : w.drewN q = wq at *
          have W := Lib.hid hwq
          clear hwq
          cases r with
          | true =>
            go_wp2_with fail
            go_quiet (fail)
            go_wp2
            go_roundg (n - (kk + 1))
            case measure => omega
            case rel =>
              refine ⟨kk + 1, q + nq, by omega, by omega, by go_num, by rw [← W.out, World.drewN_drewN], (show Aside _ from fun j hj => ?_)⟩
              by_cases e : j = kk
              · subst e
                exact B.out
              · exact A.out j (by omega)
          | false =>
            go_wp2_with fail
            go_quiet (fail)
            go_wp2
            go_ret
            refine ⟨?_, q + nq, by rw [← W.out, World.drewN_drewN]⟩
            have BB : litsEq xs[kk]! ys[kk]! = false := B.out
            rw [Lib.allEq_elem litsEq xs ys kk (by rw [HX.out]; exact hlt) (by rw [HY.out]; exact hlt) BB]
            rfl
        · have : kk = n := by omega
          subst this
          clear hc1 hc2
          go_wp2
          go_ret
          refine ⟨?_, q, rfl⟩
          rw [Lib.allEq_all _ xs ys (by rw [HX.out, HY.out]) (fun j hj => A.out j (by rw [HX.out] at hj; exact hj))]
          rfl
    · obtain rfl : n = 0 := by omega
      clear h1 h2
      obtain rfl := List.length_eq_zero_iff.1 lx
      obtain rfl := List.length_eq_zero_iff.1 ly
      clear lx ly h0
      go_enter Tryz.func66, Tryz.ntmps66
      go_wp2
      go_loopg [13] 0 (fun g s13 wr => s13 = .int .i64 0 ∧ wr = w)
      case atStart => exact ⟨rfl, rfl⟩
      case round =>
        obtain ⟨rfl, rfl⟩ := hrel
        go_wp2
        go_ret
        exact ⟨rfl, 0, rfl⟩
  · have HL := Lib.hid (Lib.allEq_len litsEq xs ys (by omega))
    have hnm' : ¬ (n : Int) = (m : Int) := by omega
    clear h1 h2 lx ly
    go_enter Tryz.func66, Tryz.ntmps66
    go_wp2
    go_ret
    exact ⟨by rw [HL.out]; rfl, 0, rfl⟩

set_option maxHeartbeats 400000 in
theorem eq34 (p1 p2 : Option Addr) (n c1 m c2 : Nat) (xs ys : List (List Lit)) (w : World) (lx : xs.length = n) (ly : ys.length = m) (hn : n ≤ maxLen) (hm : m ≤ maxLen)
    (h1 : 0 < n → ∃ b o, p1 = some ⟨b, o, none⟩ ∧ ∀ j, j < n → Cells3 85 w b (o + j * 3) xs[j]!)
    (h2 : 0 < m → ∃ b o, p2 = some ⟨b, o, none⟩ ∧ ∀ j, j < m → Cells3 85 w b (o + j * 3) ys[j]!) :
    Calls Tryz.prog 34 #[.slice p1 n c1, .slice p2 m c2] w fun e w' => e = .returned (.bool (Lib.allEq litsEq xs ys)) ∧ ∃ q, w' = w.drewN q := by
  unfold maxLen at hn hm
  by_cases hnm : n = m
  · subst hnm
    by_cases h0 : 0 < n
    · obtain ⟨b1, o1, rfl, hc1⟩ := h1 h0
      obtain ⟨b2, o2, rfl, hc2⟩ := h2 h0
      have HX := Lib.hid lx
      have HY := Lib.hid ly
      clear lx ly h1 h2
      go_enter Tryz.func34, Tryz.ntmps34
      go_wp2
      go_loopg [5] n (fun g s13 wr => ∃ kk q : Nat, kk ≤ n ∧ n - kk ≤ g ∧ s13 = .int .i64 kk ∧ wr = w.drewN q ∧ Aside (∀ j, j < kk → litsEq xs[j]! ys[j]! = true))
      case atStart => exact ⟨0, 0, Nat.zero_le _, by omega, rfl, rfl, fun j hj => absurd hj (Nat.not_lt_zero _)⟩
      case round =>
        obtain ⟨kk, q, hkk, hg, rfl, rfl, A⟩ := hrel
        by_cases hlt : kk < n
        · obtain ⟨x0, x1, x2, D, kx, gx0, gx1, gx2⟩ := (hc1 kk hlt).drewN q
          obtain ⟨y0, y1, y2, D', ky, gy0, gy1, gy2⟩ := (hc2 kk hlt).drewN q
          obtain ⟨hne, -, hgd⟩ := neq_deep (P := Tryz.prog) 20 (by omega) 85 (by kernel_rfl) (by kernel_rfl) #[x0, x1, x2] #[y0, y1, y2] D D' _ _ (by simp [Value.formed, Tryz.underlying85, Tryz.cellsOf85]) (by simp [Value.formed, Tryz.underlying85, Tryz.cellsOf85]) kx ky
          clear hc1 hc2 kx ky
          generalize hr : litsEq xs[kk]! ys[kk]! = r at hne
          have B := Lib.hid hr
          clear hr
          generalize hwq : w.drewN q = wq at *
          have W := Lib.hid hwq
          clear hwq
          cases r with
          | true =>
            go_wp2_with fail
            go_quiet (fail)
            go_wp2
            go_roundg (n - (kk + 1))
            case measure => omega
            case rel =>
              refine ⟨kk + 1, q + nq, by omega, by omega, by go_num, by rw [← W.out, World.drewN_drewN], (show Aside _ from fun j hj => ?_)⟩
              by_cases e : j = kk
              · subst e
                exact B.out
              · exact A.out j (by omega)
          | false =>
            go_wp2_with fail
            go_quiet (fail)
            go_wp2
            go_ret
            refine ⟨?_, q + nq, by rw [← W.out, World.drewN_drewN]⟩
            have BB : litsEq xs[kk]! ys[kk]! = false := B.out
            rw [Lib.allEq_elem litsEq xs ys kk (by rw [HX.out]; exact hlt) (by rw [HY.out]; exact hlt) BB]
            rfl
        · have : kk = n := by omega
          subst this
          clear hc1 hc2
          go_wp2
          go_ret
          refine ⟨?_, q, rfl⟩
          rw [Lib.allEq_all _ xs ys (by rw [HX.out, HY.out]) (fun j hj => A.out j (by rw [HX.out] at hj; exact hj))]
          rfl
    · obtain rfl : n = 0 := by omega
      clear h1 h2
      obtain rfl := List.length_eq_zero_iff.1 lx
      obtain rfl := List.length_eq_zero_iff.1 ly
      clear lx ly h0
      go_enter Tryz.func34, Tryz.ntmps34
      go_wp2
      go_loopg [5] 0 (fun g s13 wr => s13 = .int .i64 0 ∧ wr = w)
      case atStart => exact ⟨rfl, rfl⟩
      case round =>
        obtain ⟨rfl, rfl⟩ := hrel
        go_wp2
        go_ret
        exact ⟨rfl, 0, rfl⟩
  · have HL := Lib.hid (Lib.allEq_len litsEq xs ys (by omega))
    have hnm' : ¬ (n : Int) = (m : Int) := by omega
    clear h1 h2 lx ly
    go_enter Tryz.func34, Tryz.ntmps34
    go_wp2
    go_ret
    exact ⟨by rw [HL.out]; rfl, 0, rfl⟩

set_option maxHeartbeats 400000 in
theorem eq36 (p1 p2 : Option Addr) (n c1 m c2 : Nat) (xs ys : List (List Lit)) (w : World) (lx : xs.length = n) (ly : ys.length = m) (hn : n ≤ maxLen) (hm : m ≤ maxLen)
    (h1 : 0 < n → ∃ b o, p1 = some ⟨b, o, none⟩ ∧ ∀ j, j < n → Cells3 89 w b (o + j * 3) xs[j]!)
    (h2 : 0 < m → ∃ b o, p2 = some ⟨b, o, none⟩ ∧ ∀ j, j < m → Cells3 89 w b (o + j * 3) ys[j]!) :
    Calls Tryz.prog 36 #[.slice p1 n c1, .slice p2 m c2] w fun e w' => e = .returned (.bool (Lib.allEq litsEq xs ys)) ∧ ∃ q, w' = w.drewN q := by
  unfold maxLen at hn hm
  by_cases hnm : n = m
  · subst hnm
    by_cases h0 : 0 < n
    · obtain ⟨b1, o1, rfl, hc1⟩ := h1 h0
      obtain ⟨b2, o2, rfl, hc2⟩ := h2 h0
      have HX := Lib.hid lx
      have HY := Lib.hid ly
      clear lx ly h1 h2
      go_enter Tryz.func36, Tryz.ntmps36
      go_wp2
      go_loopg [5] n (fun g s13 wr => ∃ kk q : Nat, kk ≤ n ∧ n - kk ≤ g ∧ s13 = .int .i64 kk ∧ wr = w.drewN q ∧ Aside (∀ j, j < kk → litsEq xs[j]! ys[j]! = true))
      case atStart => exact ⟨0, 0, Nat.zero_le _, by omega, rfl, rfl, fun j hj => absurd hj (Nat.not_lt_zero _)⟩
      case round =>
        obtain ⟨kk, q, hkk, hg, rfl, rfl, A⟩ := hrel
        by_cases hlt : kk < n
        · obtain ⟨x0, x1, x2, D, kx, gx0, gx1, gx2⟩ := (hc1 kk hlt).drewN q
          obtain ⟨y0, y1, y2, D', ky, gy0, gy1, gy2⟩ := (hc2 kk hlt).drewN q
          obtain ⟨hne, -, hgd⟩ := neq_deep (P := Tryz.prog) 20 (by omega) 89 (by kernel_rfl) (by kernel_rfl) #[x0, x1, x2] #[y0, y1, y2] D D' _ _ (by simp [Value.formed, Tryz.underlying89, Tryz.cellsOf89]) (by simp [Value.formed, Tryz.underlying89, Tryz.cellsOf89]) kx ky
          clear hc1 hc2 kx ky
          generalize hr : litsEq xs[kk]! ys[kk]! = r at hne
          have B := Lib.hid hr
          clear hr
          generalize hwq : w.drewN q = wq at *
          have W := Lib.hid hwq
          clear hwq
          cases r with
          | true =>
            go_wp2_with fail
            go_quiet (fail)
            go_wp2
            go_roundg (n - (kk + 1))
            case measure => omega
            case rel =>
              refine ⟨kk + 1, q + nq, by omega, by omega, by go_num, by rw [← W.out, World.drewN_drewN], (show Aside _ from fun j hj => ?_)⟩
              by_cases e : j = kk
              · subst e
                exact B.out
              · exact A.out j (by omega)
          | false =>
            go_wp2_with fail
            go_quiet (fail)
            go_wp2
            go_ret
            refine ⟨?_, q + nq, by rw [← W.out, World.drewN_drewN]⟩
            have BB : litsEq xs[kk]! ys[kk]! = false := B.out
            rw [Lib.allEq_elem litsEq xs ys kk (by rw [HX.out]; exact hlt) (by rw [HY.out]; exact hlt) BB]
            rfl
        · have : kk = n := by omega
          subst this
          clear hc1 hc2
          go_wp2
          go_ret
          refine ⟨?_, q, rfl⟩
          rw [Lib.allEq_all _ xs ys (by rw [HX.out, HY.out]) (fun j hj => A.out j (by rw [HX.out] at hj; exact hj))]
          rfl
    · obtain rfl : n = 0 := by omega
      clear h1 h2
      obtain rfl := List.length_eq_zero_iff.1 lx
      obtain rfl := List.length_eq_zero_iff.1 ly
      clear lx ly h0
      go_enter Tryz.func36, Tryz.ntmps36
      go_wp2
      go_loopg [5] 0 (fun g s13 wr => s13 = .int .i64 0 ∧ wr = w)
      case atStart => exact ⟨rfl, rfl⟩
      case round =>
        obtain ⟨rfl, rfl⟩ := hrel
        go_wp2
        go_ret
        exact ⟨rfl, 0, rfl⟩
  · have HL := Lib.hid (Lib.allEq_len litsEq xs ys (by omega))
    have hnm' : ¬ (n : Int) = (m : Int) := by omega
    clear h1 h2 lx ly
    go_enter Tryz.func36, Tryz.ntmps36
    go_wp2
    go_ret
    exact ⟨by rw [HL.out]; rfl, 0, rfl⟩
end Go.Proofs

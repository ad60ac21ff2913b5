import Derived.Test.YtiagdfbhagiigaaGreatProg
import Derived.Shelf.SlicesE.Kit
import Derived.Lib.SlBy2
import Derived.WalkKit
import Derived.Deep.LoopGhost
import Derived.Deep.Draws
import Derived.BigQuiet
import Derived.Deep.QuietTactic
import Derived.Lib.Hide
import Derived.Outline
namespace Go.Proofs
open Go.RowKit Go.Lib

set_option maxHeartbeats 400000 in
theorem eq63 (p1 p2 : Option Addr) (n c1 m c2 : Nat) (xs ys : List Int) (w : World) (lx : xs.length = n) (ly : ys.length = m) (hn : n ≤ maxLen) (hm : m ≤ maxLen)
    (h1 : 0 < n → ∃ b o, p1 = some ⟨b, o, none⟩ ∧ ∀ j, j < n → w.cell? ⟨b, o + j, none⟩ = some (.int .i64 xs[j]!))
    (h2 : 0 < m → ∃ b o, p2 = some ⟨b, o, none⟩ ∧ ∀ j, j < m → w.cell? ⟨b, o + j, none⟩ = some (.int .i64 ys[j]!)) :
    Calls Tryz.prog 63 #[.slice p1 n c1, .slice p2 m c2] w fun e w' => e = .returned (.bool (Lib.allEq (fun x y : Int => x == y) xs ys)) ∧ ∃ q, w' = w.drewN q := by
  unfold maxLen at hn hm
  by_cases hnm : n = m
  · subst hnm
    by_cases h0 : 0 < n
    · obtain ⟨b1, o1, rfl, hc1⟩ := h1 h0
      obtain ⟨b2, o2, rfl, hc2⟩ := h2 h0
      have HX := Lib.hid lx
      have HY := Lib.hid ly
      clear lx ly
      go_enter Tryz.func63, Tryz.ntmps63
      go_wp2
      go_loopg [13] n (fun g s13 wr => ∃ kk q : Nat, kk ≤ n ∧ n - kk ≤ g ∧ s13 = .int .i64 kk ∧ wr = w.drewN q ∧ Aside (∀ j, j < kk → (xs[j]! == ys[j]!) = true))
      case atStart => exact ⟨0, 0, Nat.zero_le _, by omega, rfl, rfl, fun j hj => absurd hj (Nat.not_lt_zero _)⟩
      case round =>
        obtain ⟨kk, q, hkk, hg, rfl, rfl, A⟩ := hrel
        by_cases hlt : kk < n
        · have g3 : (w.drewN q).cell? ⟨b1, o1 + kk, none⟩ = some (.int .i64 xs[kk]!) := by rw [World.cell?_drewN]; exact hc1 kk hlt
          have g4 : (w.drewN q).cell? ⟨b2, o2 + kk, none⟩ = some (.int .i64 ys[kk]!) := by rw [World.cell?_drewN]; exact hc2 kk hlt
          clear hc1 hc2
          generalize hxk : xs[kk]! = x at g3
          generalize hyk : ys[kk]! = y at g4
          have B : Aside (xs[kk]! = x ∧ ys[kk]! = y) := ⟨hxk, hyk⟩
          clear hxk hyk
          generalize hwq : w.drewN q = wq at *
          have W := Lib.hid hwq
          clear hwq
          by_cases hxy : x = y
          · have HB := Lib.hid (show (x == y) = true by simpa using hxy)
            have hb2 : ((x) != (y)) = false := by simp [hxy]
            clear hxy
            go_wp2_with fail
            go_quiet (fail)
            go_wp2
            go_roundg (n - (kk + 1))
            case measure => omega
            case rel =>
              refine ⟨kk + 1, q + nq, by omega, by omega, by go_num, by rw [← W.out, World.drewN_drewN], (show Aside _ from fun j hj => ?_)⟩
              by_cases e : j = kk
              · subst e
                rw [B.out.1, B.out.2]; exact HB.out
              · exact A.out j (by omega)
          · have HB := Lib.hid (show (x == y) = false by simpa using hxy)
            have hb2 : ((x) != (y)) = true := by simpa using hxy
            clear hxy
            go_wp2_with fail
            go_quiet (fail)
            go_wp2
            go_ret
            refine ⟨?_, q + nq, by rw [← W.out, World.drewN_drewN]⟩
            rw [Lib.allEq_elem _ xs ys kk (by rw [HX.out]; exact hlt) (by rw [HY.out]; exact hlt) (by rw [B.out.1, B.out.2]; exact HB.out)]
            rfl
        · have : kk = n := by omega
          subst this
          clear hc1 hc2
          go_wp2
          go_ret
          refine ⟨?_, q, rfl⟩
          rw [Lib.allEq_all _ xs ys (by rw [HX.out, HY.out]) (fun j hj => A.out j (by rw [HX.out] at hj; exact hj))]
          rfl
    · obtain rfl : n = 0 := by omega
      clear h1 h2
      obtain rfl := List.length_eq_zero_iff.1 lx
      obtain rfl := List.length_eq_zero_iff.1 ly
      clear lx ly h0
      go_enter Tryz.func63, Tryz.ntmps63
      go_wp2
      go_loopg [13] 0 (fun g s13 wr => s13 = .int .i64 0 ∧ wr = w)
      case atStart => exact ⟨rfl, rfl⟩
      case round =>
        obtain ⟨rfl, rfl⟩ := hrel
        go_wp2
        go_ret
        exact ⟨rfl, 0, rfl⟩
  · have HL := Lib.hid (Lib.allEq_len (fun x y : Int => x == y) xs ys (by omega))
    have hnm' : ¬ (n : Int) = (m : Int) := by omega
    clear h1 h2 lx ly
    go_enter Tryz.func63, Tryz.ntmps63
    go_wp2
    go_ret
    exact ⟨by rw [HL.out]; rfl, 0, rfl⟩

set_option maxHeartbeats 400000 in
theorem eq65 (p1 p2 : Option Addr) (n c1 m c2 : Nat) (xs ys : List UInt8) (w : World) (lx : xs.length = n) (ly : ys.length = m) (hn : n ≤ maxLen) (hm : m ≤ maxLen)
    (h1 : 0 < n → ∃ b o, p1 = some ⟨b, o, none⟩ ∧ ∀ j, j < n → w.cell? ⟨b, o + j, none⟩ = some (.int .u8 (xs[j]!).toNat))
    (h2 : 0 < m → ∃ b o, p2 = some ⟨b, o, none⟩ ∧ ∀ j, j < m → w.cell? ⟨b, o + j, none⟩ = some (.int .u8 (ys[j]!).toNat)) :
    Calls Tryz.prog 65 #[.slice p1 n c1, .slice p2 m c2] w fun e w' => e = .returned (.bool (Lib.allEq (fun x y : UInt8 => x == y) xs ys)) ∧ ∃ q, w' = w.drewN q := by
  unfold maxLen at hn hm
  by_cases hnm : n = m
  · subst hnm
    by_cases h0 : 0 < n
    · obtain ⟨b1, o1, rfl, hc1⟩ := h1 h0
      obtain ⟨b2, o2, rfl, hc2⟩ := h2 h0
      have HX := Lib.hid lx
      have HY := Lib.hid ly
      clear lx ly
      go_enter Tryz.func65, Tryz.ntmps65
      go_wp2
      go_loopg [13] n (fun g s13 wr => ∃ kk q : Nat, kk ≤ n ∧ n - kk ≤ g ∧ s13 = .int .i64 kk ∧ wr = w.drewN q ∧ Aside (∀ j, j < kk → (xs[j]! == ys[j]!) = true))
      case atStart => exact ⟨0, 0, Nat.zero_le _, by omega, rfl, rfl, fun j hj => absurd hj (Nat.not_lt_zero _)⟩
      case round =>
        obtain ⟨kk, q, hkk, hg, rfl, rfl, A⟩ := hrel
        by_cases hlt : kk < n
        · have g3 : (w.drewN q).cell? ⟨b1, o1 + kk, none⟩ = some (.int .u8 (xs[kk]!).toNat) := by rw [World.cell?_drewN]; exact hc1 kk hlt
          have g4 : (w.drewN q).cell? ⟨b2, o2 + kk, none⟩ = some (.int .u8 (ys[kk]!).toNat) := by rw [World.cell?_drewN]; exact hc2 kk hlt
          clear hc1 hc2
          generalize hxk : xs[kk]! = x at g3
          generalize hyk : ys[kk]! = y at g4
          have B : Aside (xs[kk]! = x ∧ ys[kk]! = y) := ⟨hxk, hyk⟩
          clear hxk hyk
          generalize hwq : w.drewN q = wq at *
          have W := Lib.hid hwq
          clear hwq
          by_cases hxy : x = y
          · have HB := Lib.hid (show (x == y) = true by simpa using hxy)
            have hb2 : (((x.toNat : Int)) != ((y.toNat : Int))) = false := by simp [hxy]
            clear hxy
            go_wp2_with fail
            go_quiet (fail)
            go_wp2
            go_roundg (n - (kk + 1))
            case measure => omega
            case rel =>
              refine ⟨kk + 1, q + nq, by omega, by omega, by go_num, by rw [← W.out, World.drewN_drewN], (show Aside _ from fun j hj => ?_)⟩
              by_cases e : j = kk
              · subst e
                rw [B.out.1, B.out.2]; exact HB.out
              · exact A.out j (by omega)
          · have HB := Lib.hid (show (x == y) = false by simpa using hxy)
            have hb2 : (((x.toNat : Int)) != ((y.toNat : Int))) = true := by rw [bne_iff_ne]; intro h; exact hxy (UInt8.toNat_inj.1 (Int.ofNat.inj h))
            clear hxy
            go_wp2_with fail
            go_quiet (fail)
            go_wp2
            go_ret
            refine ⟨?_, q + nq, by rw [← W.out, World.drewN_drewN]⟩
            rw [Lib.allEq_elem _ xs ys kk (by rw [HX.out]; exact hlt) (by rw [HY.out]; exact hlt) (by rw [B.out.1, B.out.2]; exact HB.out)]
            rfl
        · have : kk = n := by omega
          subst this
          clear hc1 hc2
          go_wp2
          go_ret
          refine ⟨?_, q, rfl⟩
          rw [Lib.allEq_all _ xs ys (by rw [HX.out, HY.out]) (fun j hj => A.out j (by rw [HX.out] at hj; exact hj))]
          rfl
    · obtain rfl : n = 0 := by omega
      clear h1 h2
      obtain rfl := List.length_eq_zero_iff.1 lx
      obtain rfl := List.length_eq_zero_iff.1 ly
      clear lx ly h0
      go_enter Tryz.func65, Tryz.ntmps65
      go_wp2
      go_loopg [13] 0 (fun g s13 wr => s13 = .int .i64 0 ∧ wr = w)
      case atStart => exact ⟨rfl, rfl⟩
      case round =>
        obtain ⟨rfl, rfl⟩ := hrel
        go_wp2
        go_ret
        exact ⟨rfl, 0, rfl⟩
  · have HL := Lib.hid (Lib.allEq_len (fun x y : UInt8 => x == y) xs ys (by omega))
    have hnm' : ¬ (n : Int) = (m : Int) := by omega
    clear h1 h2 lx ly
    go_enter Tryz.func65, Tryz.ntmps65
    go_wp2
    go_ret
    exact ⟨by rw [HL.out]; rfl, 0, rfl⟩
end Go.Proofs

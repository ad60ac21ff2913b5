import Derived.Test.YtiagdfbhagiigaaGreatEqD
namespace Go.Proofs
open Go.RowKit Go.Lib

def ssEq (xs ys : List UInt8) : Bool := allEq bEq xs ys

set_option maxHeartbeats 400000 in
theorem eqf32 (p1 p2 : Option Addr) (n c1 m c2 : Nat) (xs ys : List (List UInt8)) (w : World) (h1 : RdB w p1 n xs) (h2 : RdB w p2 m ys) :
    Calls Tryz.prog 32 #[.slice p1 n c1, .slice p2 m c2, .func (.func 31) #[] #[]] w (Tells (allEq ssEq xs ys) w) := by
  have hn := h1.le
  have hm := h2.le
  unfold maxLen at hn hm
  by_cases hnm : n = m
  · subst hnm
    by_cases h0 : 0 < n
    · obtain ⟨b1, o1, rfl, hc1⟩ := h1.at_ h0
      obtain ⟨b2, o2, rfl, hc2⟩ := h2.at_ h0
      have HX := Lib.hid h1.len
      have HY := Lib.hid h2.len
      clear h1 h2
      go_enter Tryz.func32, Tryz.ntmps32
      go_wp2
      go_loopg [17] n (fun g s13 wr => ∃ kk q : Nat, kk ≤ n ∧ n - kk ≤ g ∧ s13 = .int .i64 kk ∧ wr = w.drewN q ∧ Aside (∀ j, j < kk → ssEq xs[j]! ys[j]! = true))
      case atStart => exact ⟨0, 0, Nat.zero_le _, by omega, rfl, rfl, fun j hj => absurd hj (Nat.not_lt_zero _)⟩
      case round =>
        obtain ⟨kk, q, hkk, hg, rfl, rfl, A⟩ := hrel
        by_cases hlt : kk < n
        · obtain ⟨pj, mj, cj, gx, rx⟩ := hc1 kk hlt
          obtain ⟨pk, mk, ck, gy, ry⟩ := hc2 kk hlt
          have rx := rx.mono (Kept.drewN w q)
          have ry := ry.mono (Kept.drewN w q)
          rw [← World.cell?_drewN (n := q)] at gx gy
          clear hc1 hc2
          have hcall := like31 pj pk mj cj mk ck xs[kk]! ys[kk]! (w.drewN q) rx ry
          have hb : allEq bEq xs[kk]! ys[kk]! = ssEq xs[kk]! ys[kk]! := rfl
          rw [hb] at hcall
          clear hb rx ry
          generalize hr : ssEq xs[kk]! ys[kk]! = r at hcall
          have B := Lib.hid hr
          clear hr
          generalize hwq : w.drewN q = wq at *
          have W := Lib.hid hwq
          clear hwq
          have HC := Lib.hid hcall
          clear hcall
          cases r with
          | true =>
            go_wp2_with fail
            refine HC.out.mono ?_
            rintro e w' ⟨rfl, q', rfl⟩
            go_wp2
            go_roundg (n - (kk + 1))
            case measure => omega
            case rel =>
              refine ⟨kk + 1, q + q', by omega, by omega, by go_num, by rw [← W.out, World.drewN_drewN], (show Aside _ from fun j hj => ?_)⟩
              by_cases e : j = kk
              · subst e
                exact B.out
              · exact A.out j (by omega)
          | false =>
            go_wp2_with fail
            refine HC.out.mono ?_
            rintro e w' ⟨rfl, q', rfl⟩
            go_wp2
            go_ret
            refine ⟨?_, q + q', by rw [← W.out, World.drewN_drewN]⟩
            have BB : ssEq xs[kk]! ys[kk]! = false := B.out
            rw [Lib.allEq_elem ssEq xs ys kk (by rw [HX.out]; exact hlt) (by rw [HY.out]; exact hlt) BB]
            rfl
        · have : kk = n := by omega
          subst this
          clear hc1 hc2
          go_wp2
          go_ret
          refine ⟨?_, q, rfl⟩
          rw [Lib.allEq_all _ xs ys (by rw [HX.out, HY.out]) (fun j hj => A.out j (by rw [HX.out] at hj; exact hj))]
          rfl
    · obtain rfl : n = 0 := by omega
      obtain rfl := List.length_eq_zero_iff.1 h1.len
      obtain rfl := List.length_eq_zero_iff.1 h2.len
      clear h1 h2 h0
      go_enter Tryz.func32, Tryz.ntmps32
      go_wp2
      go_loopg [17] 0 (fun g s13 wr => s13 = .int .i64 0 ∧ wr = w)
      case atStart => exact ⟨rfl, rfl⟩
      case round =>
        obtain ⟨rfl, rfl⟩ := hrel
        go_wp2
        go_ret
        exact ⟨rfl, 0, rfl⟩
  · have HL := Lib.hid (Lib.allEq_len ssEq xs ys (by rw [h1.len, h2.len]; exact hnm))
    have hnm' : ¬ (n : Int) = (m : Int) := by omega
    clear h1 h2
    go_enter Tryz.func32, Tryz.ntmps32
    go_wp2
    go_ret
    exact ⟨by rw [HL.out]; rfl, 0, rfl⟩

set_option maxHeartbeats 400000 in
theorem packets35 (p1 p2 : Option Addr) (n c1 m c2 : Nat) (xs ys : List (List UInt8)) (w : World) (h1 : RdB w p1 n xs) (h2 : RdB w p2 m ys) :
    Calls Tryz.prog 35 #[.slice p1 n c1, .slice p2 m c2] w (Tells (allEq ssEq xs ys) w) := by
  have hn := h1.le
  have hm := h2.le
  unfold maxLen at hn hm
  by_cases hnm : n = m
  · subst hnm
    by_cases h0 : 0 < n
    · obtain ⟨b1, o1, rfl, hc1⟩ := h1.at_ h0
      obtain ⟨b2, o2, rfl, hc2⟩ := h2.at_ h0
      have HX := Lib.hid h1.len
      have HY := Lib.hid h2.len
      clear h1 h2
      go_enter Tryz.func35, Tryz.ntmps35
      go_wp2
      go_loopg [5] n (fun g s13 wr => ∃ kk q : Nat, kk ≤ n ∧ n - kk ≤ g ∧ s13 = .int .i64 kk ∧ wr = w.drewN q ∧ Aside (∀ j, j < kk → ssEq xs[j]! ys[j]! = true))
      case atStart => exact ⟨0, 0, Nat.zero_le _, by omega, rfl, rfl, fun j hj => absurd hj (Nat.not_lt_zero _)⟩
      case round =>
        obtain ⟨kk, q, hkk, hg, rfl, rfl, A⟩ := hrel
        by_cases hlt : kk < n
        · obtain ⟨pj, mj, cj, gx, rx⟩ := hc1 kk hlt
          obtain ⟨pk, mk, ck, gy, ry⟩ := hc2 kk hlt
          have rx : ∀ nq, Sem.run Tryz.prog (convert 26 9 (.slice pj mj cj)) ((w.drewN q).drewN nq) = .ok (.string (strOf xs[kk]!)) ((w.drewN q).drewN nq) := fun nq => conv26 pj mj cj _ _ (rx.mono ((Kept.drewN w q).trans (Kept.drewN _ nq)))
          have ry : ∀ nq, Sem.run Tryz.prog (convert 26 9 (.slice pk mk ck)) ((w.drewN q).drewN nq) = .ok (.string (strOf ys[kk]!)) ((w.drewN q).drewN nq) := fun nq => conv26 pk mk ck _ _ (ry.mono ((Kept.drewN w q).trans (Kept.drewN _ nq)))
          rw [← World.cell?_drewN (n := q)] at gx gy
          clear hc1 hc2
          have hb : ((strOf xs[kk]!).toList == (strOf ys[kk]!).toList) = ssEq xs[kk]! ys[kk]! := strOf_eq _ _
          generalize strOf xs[kk]! = sx at rx hb
          generalize strOf ys[kk]! = sy at ry hb
          generalize hr : ssEq xs[kk]! ys[kk]! = r at hb
          have B := Lib.hid hr
          clear hr
          generalize hwq : w.drewN q = wq at *
          have W := Lib.hid hwq
          clear hwq
          cases r with
          | true =>
            have hb2 : (sx.toList != sy.toList) = false := by simp [bne, hb]
            go_wp2_with fail
            go_quiet (fail)
            go_wp2
            go_roundg (n - (kk + 1))
            case measure => omega
            case rel =>
              refine ⟨kk + 1, q + nq, by omega, by omega, by go_num, by rw [← W.out, World.drewN_drewN], (show Aside _ from fun j hj => ?_)⟩
              by_cases e : j = kk
              · subst e
                exact B.out
              · exact A.out j (by omega)
          | false =>
            have hb2 : (sx.toList != sy.toList) = true := by simp [bne, hb]
            go_wp2_with fail
            go_quiet (fail)
            go_wp2
            go_ret
            refine ⟨?_, q + nq, by rw [← W.out, World.drewN_drewN]⟩
            have BB : ssEq xs[kk]! ys[kk]! = false := B.out
            rw [Lib.allEq_elem ssEq xs ys kk (by rw [HX.out]; exact hlt) (by rw [HY.out]; exact hlt) BB]
            rfl
        · have : kk = n := by omega
          subst this
          clear hc1 hc2
          go_wp2
          go_ret
          refine ⟨?_, q, rfl⟩
          rw [Lib.allEq_all _ xs ys (by rw [HX.out, HY.out]) (fun j hj => A.out j (by rw [HX.out] at hj; exact hj))]
          rfl
    · obtain rfl : n = 0 := by omega
      obtain rfl := List.length_eq_zero_iff.1 h1.len
      obtain rfl := List.length_eq_zero_iff.1 h2.len
      clear h1 h2 h0
      go_enter Tryz.func35, Tryz.ntmps35
      go_wp2
      go_loopg [5] 0 (fun g s13 wr => s13 = .int .i64 0 ∧ wr = w)
      case atStart => exact ⟨rfl, rfl⟩
      case round =>
        obtain ⟨rfl, rfl⟩ := hrel
        go_wp2
        go_ret
        exact ⟨rfl, 0, rfl⟩
  · have HL := Lib.hid (Lib.allEq_len ssEq xs ys (by rw [h1.len, h2.len]; exact hnm))
    have hnm' : ¬ (n : Int) = (m : Int) := by omega
    clear h1 h2
    go_enter Tryz.func35, Tryz.ntmps35
    go_wp2
    go_ret
    exact ⟨by rw [HL.out]; rfl, 0, rfl⟩
end Go.Proofs

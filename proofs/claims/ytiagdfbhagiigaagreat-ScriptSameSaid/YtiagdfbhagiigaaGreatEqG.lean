import Derived.Test.YtiagdfbhagiigaaGreatEqF0
namespace Go.Proofs
open Go.RowKit Go.Lib Go

set_option maxHeartbeats 40000000 in
set_option maxRecDepth 100000 in
theorem same21 (pEa pAa pMa pDa pTa pSa pHa : Option Addr) (nEa cEa nAa cAa nMa cMa nDa cDa nTa cTa nSa cSa nHa cHa : Nat) (whya nowa : Int) (hala : Bool) (s0a s1a s2a s3a s4a s5a s6a s7a s8a s9a s10a s11a s12a s13a s14a s15a : Value) (pEb pAb pMb pDb pTb pSb pHb : Option Addr) (nEb cEb nAb cAb nMb cMb nDb cDb nTb cTb nSb cSb nHb cHb : Nat) (whyb nowb : Int) (halb : Bool) (s0b s1b s2b s3b s4b s5b s6b s7b s8b s9b s10b s11b s12b s13b s14b s15b : Value) (w : World) (xs ys : List Int) (bA bS bM bD bT bP bH : Bool)
    (h1 : Rd eInt w pEa nEa xs) (h2 : Rd eInt w pEb nEb ys)
    (hA : ∀ W, Kept w W → Calls Tryz.prog 34 #[.slice pAa nAa cAa, .slice pAb nAb cAb] W (Tells bA W))
    (hst : ∀ W, Sem.run Tryz.prog (binOp .eql 49 (.agg #[s0a, s1a, s2a, s3a, s4a, s5a, s6a, s7a, s8a, s9a, s10a, s11a, s12a, s13a, s14a, s15a]) (.agg #[s0b, s1b, s2b, s3b, s4b, s5b, s6b, s7b, s8b, s9b, s10b, s11b, s12b, s13b, s14b, s15b])) W = .ok (.bool bS) W) (hgd : ∀ op a b W, Sem.run Tryz.prog (eqGuard op 49 a b (.agg #[s0a, s1a, s2a, s3a, s4a, s5a, s6a, s7a, s8a, s9a, s10a, s11a, s12a, s13a, s14a, s15a]) (.agg #[s0b, s1b, s2b, s3b, s4b, s5b, s6b, s7b, s8b, s9b, s10b, s11b, s12b, s13b, s14b, s15b])) W = .ok () W)
    (zMa zMb : ByteArray) (hMa : ∀ W, Kept w W → Sem.run Tryz.prog (convert 26 9 (.slice pMa nMa cMa)) W = .ok (.string zMa) W) (hMb : ∀ W, Kept w W → Sem.run Tryz.prog (convert 26 9 (.slice pMb nMb cMb)) W = .ok (.string zMb) W) (hzM : (zMa.toList == zMb.toList) = bM)
    (zDa zDb : ByteArray) (hDa : ∀ W, Kept w W → Sem.run Tryz.prog (convert 26 9 (.slice pDa nDa cDa)) W = .ok (.string zDa) W) (hDb : ∀ W, Kept w W → Sem.run Tryz.prog (convert 26 9 (.slice pDb nDb cDb)) W = .ok (.string zDb) W) (hzD : (zDa.toList == zDb.toList) = bD)
    (zTa zTb : ByteArray) (hTa : ∀ W, Kept w W → Sem.run Tryz.prog (convert 26 9 (.slice pTa nTa cTa)) W = .ok (.string zTa) W) (hTb : ∀ W, Kept w W → Sem.run Tryz.prog (convert 26 9 (.slice pTb nTb cTb)) W = .ok (.string zTb) W) (hzT : (zTa.toList == zTb.toList) = bT)
    (hS : ∀ W, Kept w W → Calls Tryz.prog 35 #[.slice pSa nSa cSa, .slice pSb nSb cSb] W (Tells bP W))
    (hH : ∀ W, Kept w W → Calls Tryz.prog 36 #[.slice pHa nHa cHa, .slice pHb nHb cHb] W (Tells bH W)) :
    Calls Tryz.prog 21 #[.agg #[.slice pEa nEa cEa, .slice pAa nAa cAa, .int .i64 whya, .int .i64 nowa, .bool hala, s0a, s1a, s2a, s3a, s4a, s5a, s6a, s7a, s8a, s9a, s10a, s11a, s12a, s13a, s14a, s15a, .slice pMa nMa cMa, .slice pDa nDa cDa, .slice pTa nTa cTa, .slice pSa nSa cSa, .slice pHa nHa cHa], .agg #[.slice pEb nEb cEb, .slice pAb nAb cAb, .int .i64 whyb, .int .i64 nowb, .bool halb, s0b, s1b, s2b, s3b, s4b, s5b, s6b, s7b, s8b, s9b, s10b, s11b, s12b, s13b, s14b, s15b, .slice pMb nMb cMb, .slice pDb nDb cDb, .slice pTb nTb cTb, .slice pSb nSb cSb, .slice pHb nHb cHb]] w (TellsB (allEq iEq xs ys && bA && (whya == whyb) && (nowa == nowb) && (hala == halb) && bS && bM && bD && bT && bP && bH) w) := by
  have HA := Lib.hid hA; have HS := Lib.hid hS; have HH := Lib.hid hH
  clear hA hS hH
  have hn := h1.le
  have hm := h2.le
  unfold maxLen at hn hm
  by_cases hnm : nEa = nEb
  · subst hnm
    have H1 := Lib.hid h1
    have H2 := Lib.hid h2
    clear h1 h2
    go_enter Tryz.func21, Tryz.ntmps21
    go_upto_region 1 with (fail)
    have HX := boxes_range w [.slice pEa nEa cEa, .slice pAa nAa cAa, .int .i64 whya, .int .i64 nowa, .bool hala, s0a, s1a, s2a, s3a, s4a, s5a, s6a, s7a, s8a, s9a, s10a, s11a, s12a, s13a, s14a, s15a, .slice pMa nMa cMa, .slice pDa nDa cDa, .slice pTa nTa cTa, .slice pSa nSa cSa, .slice pHa nHa cHa] [.slice pEb nEa cEb, .slice pAb nAb cAb, .int .i64 whyb, .int .i64 nowb, .bool halb, s0b, s1b, s2b, s3b, s4b, s5b, s6b, s7b, s8b, s9b, s10b, s11b, s12b, s13b, s14b, s15b, .slice pMb nMb cMb, .slice pDb nDb cDb, .slice pTb nTb cTb, .slice pSb nSb cSb, .slice pHb nHb cHb] 53
    simp only [List.toArray] at HX
    generalize (w.alloc (.cells #[.slice pEa nEa cEa, .slice pAa nAa cAa, .int .i64 whya, .int .i64 nowa, .bool hala, s0a, s1a, s2a, s3a, s4a, s5a, s6a, s7a, s8a, s9a, s10a, s11a, s12a, s13a, s14a, s15a, .slice pMa nMa cMa, .slice pDa nDa cDa, .slice pTa nTa cTa, .slice pSa nSa cSa, .slice pHa nHa cHa] 53)).alloc (.cells #[.slice pEb nEa cEb, .slice pAb nAb cAb, .int .i64 whyb, .int .i64 nowb, .bool halb, s0b, s1b, s2b, s3b, s4b, s5b, s6b, s7b, s8b, s9b, s10b, s11b, s12b, s13b, s14b, s15b, .slice pMb nMb cMb, .slice pDb nDb cDb, .slice pTb nTb cTb, .slice pSb nSb cSb, .slice pHb nHb cHb] 53) = w2 at *
    obtain ⟨hr1, hr2, hk, hB⟩ := HX
    have cA0 := hr1 0 _ rfl
    have cA1 := hr1 1 _ rfl
    have cA2 := hr1 2 _ rfl
    have cA3 := hr1 3 _ rfl
    have cA4 := hr1 4 _ rfl
    have cA5 := hr1 5 _ rfl
    have cA6 := hr1 6 _ rfl
    have cA7 := hr1 7 _ rfl
    have cA8 := hr1 8 _ rfl
    have cA9 := hr1 9 _ rfl
    have cA10 := hr1 10 _ rfl
    have cA11 := hr1 11 _ rfl
    have cA12 := hr1 12 _ rfl
    have cA13 := hr1 13 _ rfl
    have cA14 := hr1 14 _ rfl
    have cA15 := hr1 15 _ rfl
    have cA16 := hr1 16 _ rfl
    have cA17 := hr1 17 _ rfl
    have cA18 := hr1 18 _ rfl
    have cA19 := hr1 19 _ rfl
    have cA20 := hr1 20 _ rfl
    have cA21 := hr1 21 _ rfl
    have cA22 := hr1 22 _ rfl
    have cA23 := hr1 23 _ rfl
    have cA24 := hr1 24 _ rfl
    have cA25 := hr1 25 _ rfl
    have cB0 := hr2 0 _ rfl
    have cB1 := hr2 1 _ rfl
    have cB2 := hr2 2 _ rfl
    have cB3 := hr2 3 _ rfl
    have cB4 := hr2 4 _ rfl
    have cB5 := hr2 5 _ rfl
    have cB6 := hr2 6 _ rfl
    have cB7 := hr2 7 _ rfl
    have cB8 := hr2 8 _ rfl
    have cB9 := hr2 9 _ rfl
    have cB10 := hr2 10 _ rfl
    have cB11 := hr2 11 _ rfl
    have cB12 := hr2 12 _ rfl
    have cB13 := hr2 13 _ rfl
    have cB14 := hr2 14 _ rfl
    have cB15 := hr2 15 _ rfl
    have cB16 := hr2 16 _ rfl
    have cB17 := hr2 17 _ rfl
    have cB18 := hr2 18 _ rfl
    have cB19 := hr2 19 _ rfl
    have cB20 := hr2 20 _ rfl
    have cB21 := hr2 21 _ rfl
    have cB22 := hr2 22 _ rfl
    have cB23 := hr2 23 _ rfl
    have cB24 := hr2 24 _ rfl
    have cB25 := hr2 25 _ rfl
    simp only [Nat.zero_add] at cA0 cA1 cA2 cA3 cA4 cA5 cA6 cA7 cA8 cA9 cA10 cA11 cA12 cA13 cA14 cA15 cA16 cA17 cA18 cA19 cA20 cA21 cA22 cA23 cA24 cA25 cB0 cB1 cB2 cB3 cB4 cB5 cB6 cB7 cB8 cB9 cB10 cB11 cB12 cB13 cB14 cB15 cB16 cB17 cB18 cB19 cB20 cB21 cB22 cB23 cB24 cB25
    clear hr1 hr2
    generalize (Value.agg #[.slice pEa nEa cEa, .slice pAa nAa cAa, .int .i64 whya, .int .i64 nowa, .bool hala, s0a, s1a, s2a, s3a, s4a, s5a, s6a, s7a, s8a, s9a, s10a, s11a, s12a, s13a, s14a, s15a, .slice pMa nMa cMa, .slice pDa nDa cDa, .slice pTa nTa cTa, .slice pSa nSa cSa, .slice pHa nHa cHa]) = vA
    generalize (Value.agg #[.slice pEb nEa cEb, .slice pAb nAb cAb, .int .i64 whyb, .int .i64 nowb, .bool halb, s0b, s1b, s2b, s3b, s4b, s5b, s6b, s7b, s8b, s9b, s10b, s11b, s12b, s13b, s14b, s15b, .slice pMb nMb cMb, .slice pDb nDb cDb, .slice pTb nTb cTb, .slice pSb nSb cSb, .slice pHb nHb cHb]) = vB
    have hMa := fun q => hMa _ (hk.trans (Kept.drewN w2 q)); have hMb := fun q => hMb _ (hk.trans (Kept.drewN w2 q))
    have hDa := fun q => hDa _ (hk.trans (Kept.drewN w2 q)); have hDb := fun q => hDb _ (hk.trans (Kept.drewN w2 q))
    have hTa := fun q => hTa _ (hk.trans (Kept.drewN w2 q)); have hTb := fun q => hTb _ (hk.trans (Kept.drewN w2 q))
    go_wp2
    go_loopg [5] nEa (fun g s5 wr => ∃ kk q : Nat, kk ≤ nEa ∧ nEa - kk ≤ g ∧ s5 = .int .i64 kk ∧ wr = w2.drewN q ∧ Aside (∀ j, j < kk → iEq xs[j]! ys[j]! = true))
    case atStart => exact ⟨0, 0, Nat.zero_le _, by omega, rfl, rfl, fun j hj => absurd hj (Nat.not_lt_zero _)⟩
    case round =>
      obtain ⟨kk, q, hkk, hg, rfl, rfl, A⟩ := hrel
      by_cases hlt : kk < nEa
      · obtain ⟨b1, o1, rfl, hc1⟩ := H1.out.at_ (by omega)
        obtain ⟨b2, o2, rfl, hc2⟩ := H2.out.at_ (by omega)
        have g3 := hk _ _ (hc1 kk hlt)
        have g4 := hk _ _ (hc2 kk hlt)
        clear hc1 hc2
        generalize hxk : xs[kk]! = x at g3
        generalize hyk : ys[kk]! = y at g4
        have B : Aside (xs[kk]! = x ∧ ys[kk]! = y) := ⟨hxk, hyk⟩
        clear hxk hyk
        by_cases hxy : x = y
        · have HB := Lib.hid (show (x == y) = true by simpa using hxy)
          have hbb : (x != y) = false := by simp [hxy]
          clear hxy
          go_wp2_with fail
          go_quiet (fail)
          go_wp2
          go_roundg (nEa - (kk + 1))
          case measure => omega
          case rel =>
            refine ⟨kk + 1, q + nq, by omega, by omega, by go_num, (by first | rfl | rw [World.drewN_drewN]), (show Aside _ from fun j hj => ?_)⟩
            by_cases e : j = kk
            · subst e
              rw [B.out.1, B.out.2]; exact HB.out
            · exact A.out j (by omega)
        · have HB := Lib.hid (show (x == y) = false by simpa using hxy)
          have hbb : (x != y) = true := by simpa using hxy
          clear hxy
          go_wp2_with fail
          go_quiet (fail)
          go_wp2
          go_ret
          have HE := Lib.allEq_elem iEq xs ys kk (by rw [H1.out.len]; exact hlt) (by rw [H2.out.len]; exact hlt) (by rw [B.out.1, B.out.2]; exact HB.out)
          exact ⟨by rw [HE]; simp, hB.trans (by first | exact below_drewN _ _ | exact (below_drewN _ _).trans (below_drewN _ _))⟩
      · have : kk = nEa := by omega
        subst this
        have HE := Lib.hid (Lib.allEq_all iEq xs ys (by rw [H1.out.len, H2.out.len]) (fun j hj => A.out j (by rw [H1.out.len] at hj; exact hj)))
        clear H1 H2 A hkk hg hlt
        go_wp2_with fail
        refine (HA.out _ (by first | exact hk | exact hk.trans (Kept.drewN _ _) | exact hk.trans ((Kept.drewN _ _).trans (Kept.drewN _ _)) | exact hk.trans ((Kept.drewN _ _).trans ((Kept.drewN _ _).trans (Kept.drewN _ _))))).mono ?_
        rintro e w' ⟨rfl, q0, rfl⟩
        cases bA
        · (repeat (first | (refine wpList_fall 105 4 35 (by decide +kernel) rfl rfl ?_; intro a' ha1 ha2 ha3) | go_skip | go_guarded | go_step | go_upon | (dsimp only; go_at_K) | go_at_K)); exact fall_end rfl rfl ha1 ha3 ⟨by simp, hB.trans (by first | exact below_drewN _ _ | exact (below_drewN _ _).trans (below_drewN _ _) | exact (below_drewN _ _).trans ((below_drewN _ _).trans (below_drewN _ _)) | exact (below_drewN _ _).trans ((below_drewN _ _).trans ((below_drewN _ _).trans (below_drewN _ _))))⟩
        cases hwhy : (whya == whyb)
        · (repeat (first | (refine wpList_fall 105 4 42 (by decide +kernel) rfl rfl ?_; intro a' ha1 ha2 ha3) | go_skip | go_guarded | go_step | go_upon | (dsimp only; go_at_K) | go_at_K)); exact fall_end rfl rfl ha1 ha3 ⟨by rw [hwhy]; simp, hB.trans (by first | exact below_drewN _ _ | exact (below_drewN _ _).trans (below_drewN _ _) | exact (below_drewN _ _).trans ((below_drewN _ _).trans (below_drewN _ _)) | exact (below_drewN _ _).trans ((below_drewN _ _).trans ((below_drewN _ _).trans (below_drewN _ _))))⟩
        cases hnow : (nowa == nowb)
        · (repeat (first | (refine wpList_fall 105 4 49 (by decide +kernel) rfl rfl ?_; intro a' ha1 ha2 ha3) | go_skip | go_guarded | go_step | go_upon | (dsimp only; go_at_K) | go_at_K)); exact fall_end rfl rfl ha1 ha3 ⟨by rw [hnow]; simp, hB.trans (by first | exact below_drewN _ _ | exact (below_drewN _ _).trans (below_drewN _ _) | exact (below_drewN _ _).trans ((below_drewN _ _).trans (below_drewN _ _)) | exact (below_drewN _ _).trans ((below_drewN _ _).trans ((below_drewN _ _).trans (below_drewN _ _))))⟩
        cases hhal : (hala == halb)
        · (repeat (first | (refine wpList_fall 105 4 56 (by decide +kernel) rfl rfl ?_; intro a' ha1 ha2 ha3) | go_skip | go_guarded | go_step | go_upon | (dsimp only; go_at_K) | go_at_K)); exact fall_end rfl rfl ha1 ha3 ⟨by rw [hhal]; simp, hB.trans (by first | exact below_drewN _ _ | exact (below_drewN _ _).trans (below_drewN _ _) | exact (below_drewN _ _).trans ((below_drewN _ _).trans (below_drewN _ _)) | exact (below_drewN _ _).trans ((below_drewN _ _).trans ((below_drewN _ _).trans (below_drewN _ _))))⟩
        cases bS
        · (repeat (first | (refine wpList_fall 105 4 63 (by decide +kernel) rfl rfl ?_; intro a' ha1 ha2 ha3) | go_skip | go_guarded | go_step | go_upon | (dsimp only; go_at_K) | go_at_K)); exact fall_end rfl rfl ha1 ha3 ⟨by simp, hB.trans (by first | exact below_drewN _ _ | exact (below_drewN _ _).trans (below_drewN _ _) | exact (below_drewN _ _).trans ((below_drewN _ _).trans (below_drewN _ _)) | exact (below_drewN _ _).trans ((below_drewN _ _).trans ((below_drewN _ _).trans (below_drewN _ _))))⟩
        cases bM
        · (repeat (first | (refine wpList_fall 105 4 72 (by decide +kernel) rfl rfl ?_; intro a' ha1 ha2 ha3) | go_skip | go_guarded | go_step | go_upon | (dsimp only; go_at_K) | go_at_K)); exact fall_end rfl rfl ha1 ha3 ⟨by simp, hB.trans (by first | exact below_drewN _ _ | exact (below_drewN _ _).trans (below_drewN _ _) | exact (below_drewN _ _).trans ((below_drewN _ _).trans (below_drewN _ _)) | exact (below_drewN _ _).trans ((below_drewN _ _).trans ((below_drewN _ _).trans (below_drewN _ _))))⟩
        cases bD
        · (repeat (first | (refine wpList_fall 105 4 81 (by decide +kernel) rfl rfl ?_; intro a' ha1 ha2 ha3) | go_skip | go_guarded | go_step | go_upon | (dsimp only; go_at_K) | go_at_K)); exact fall_end rfl rfl ha1 ha3 ⟨by simp, hB.trans (by first | exact below_drewN _ _ | exact (below_drewN _ _).trans (below_drewN _ _) | exact (below_drewN _ _).trans ((below_drewN _ _).trans (below_drewN _ _)) | exact (below_drewN _ _).trans ((below_drewN _ _).trans ((below_drewN _ _).trans (below_drewN _ _))))⟩
        cases bT
        · (repeat (first | (refine wpList_fall 105 4 90 (by decide +kernel) rfl rfl ?_; intro a' ha1 ha2 ha3) | go_skip | go_guarded | go_step | go_upon | (dsimp only; go_at_K) | go_at_K)); exact fall_end rfl rfl ha1 ha3 ⟨by simp, hB.trans (by first | exact below_drewN _ _ | exact (below_drewN _ _).trans (below_drewN _ _) | exact (below_drewN _ _).trans ((below_drewN _ _).trans (below_drewN _ _)) | exact (below_drewN _ _).trans ((below_drewN _ _).trans ((below_drewN _ _).trans (below_drewN _ _))))⟩
        go_wp2_with fail
        refine (HS.out _ (by first | exact hk | exact hk.trans (Kept.drewN _ _) | exact hk.trans ((Kept.drewN _ _).trans (Kept.drewN _ _)) | exact hk.trans ((Kept.drewN _ _).trans ((Kept.drewN _ _).trans (Kept.drewN _ _))))).mono ?_
        rintro e w' ⟨rfl, q8, rfl⟩
        cases bP
        · (repeat (first | (refine wpList_fall 105 4 97 (by decide +kernel) rfl rfl ?_; intro a' ha1 ha2 ha3) | go_skip | go_guarded | go_step | go_upon | (dsimp only; go_at_K) | go_at_K)); exact fall_end rfl rfl ha1 ha3 ⟨by simp, hB.trans (by first | exact below_drewN _ _ | exact (below_drewN _ _).trans (below_drewN _ _) | exact (below_drewN _ _).trans ((below_drewN _ _).trans (below_drewN _ _)) | exact (below_drewN _ _).trans ((below_drewN _ _).trans ((below_drewN _ _).trans (below_drewN _ _))))⟩
        go_wp2_with fail
        refine (HH.out _ (by first | exact hk | exact hk.trans (Kept.drewN _ _) | exact hk.trans ((Kept.drewN _ _).trans (Kept.drewN _ _)) | exact hk.trans ((Kept.drewN _ _).trans ((Kept.drewN _ _).trans (Kept.drewN _ _))))).mono ?_
        rintro e w' ⟨rfl, q9, rfl⟩
        cases bH
        · (repeat (first | (refine wpList_fall 105 4 104 (by decide +kernel) rfl rfl ?_; intro a' ha1 ha2 ha3) | go_skip | go_guarded | go_step | go_upon | (dsimp only; go_at_K) | go_at_K)); exact fall_end rfl rfl ha1 ha3 ⟨by simp, hB.trans (by first | exact below_drewN _ _ | exact (below_drewN _ _).trans (below_drewN _ _) | exact (below_drewN _ _).trans ((below_drewN _ _).trans (below_drewN _ _)) | exact (below_drewN _ _).trans ((below_drewN _ _).trans ((below_drewN _ _).trans (below_drewN _ _))))⟩
        go_wp2; go_ret; exact ⟨by rw [HE.out, hwhy, hnow, hhal]; simp, hB.trans (by first | exact below_drewN _ _ | exact (below_drewN _ _).trans (below_drewN _ _) | exact (below_drewN _ _).trans ((below_drewN _ _).trans (below_drewN _ _)) | exact (below_drewN _ _).trans ((below_drewN _ _).trans ((below_drewN _ _).trans (below_drewN _ _))))⟩
  · have HL := Lib.hid (Lib.allEq_len iEq xs ys (by rw [h1.len, h2.len]; exact hnm))
    have hnm' : ¬ (nEa : Int) = (nEb : Int) := by omega
    clear h1 h2
    go_enter Tryz.func21, Tryz.ntmps21
    go_wp2
    go_ret
    exact ⟨by rw [HL.out]; simp, (boxes_range _ _ _ _).2.2.2⟩
end Go.Proofs

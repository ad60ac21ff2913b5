import Derived.Test.YtiagdfbhagiigaaGreatEqF0
namespace Go.Proofs
open Go.RowKit Go.Lib Go

set_option maxHeartbeats 40000000 in
set_option maxRecDepth 100000 in
theorem same20 (pEa pAa pMa pDa pTa pSa pHa : Option Addr) (nEa cEa nAa cAa nMa cMa nDa cDa nTa cTa nSa cSa nHa cHa : Nat) (whya nowa : Int) (hala : Bool) (s0a s1a s2a s3a s4a s5a s6a s7a s8a s9a s10a s11a s12a s13a s14a s15a : Value) (pEb pAb pMb pDb pTb pSb pHb : Option Addr) (nEb cEb nAb cAb nMb cMb nDb cDb nTb cTb nSb cSb nHb cHb : Nat) (whyb nowb : Int) (halb : Bool) (s0b s1b s2b s3b s4b s5b s6b s7b s8b s9b s10b s11b s12b s13b s14b s15b : Value) (w : World) (bE bA bS bM bD bT bP bH : Bool)
    (hE : ∀ W, Kept w W → Calls Tryz.prog 29 #[.slice pEa nEa cEa, .slice pEb nEb cEb] W (Tells bE W))
    (hA : ∀ W, Kept w W → Calls Tryz.prog 30 #[.slice pAa nAa cAa, .slice pAb nAb cAb] W (Tells bA W))
    (hst : ∀ W, Sem.run Tryz.prog (binOp .eql 49 (.agg #[s0a, s1a, s2a, s3a, s4a, s5a, s6a, s7a, s8a, s9a, s10a, s11a, s12a, s13a, s14a, s15a]) (.agg #[s0b, s1b, s2b, s3b, s4b, s5b, s6b, s7b, s8b, s9b, s10b, s11b, s12b, s13b, s14b, s15b])) W = .ok (.bool bS) W) (hgd : ∀ op a b W, Sem.run Tryz.prog (eqGuard op 49 a b (.agg #[s0a, s1a, s2a, s3a, s4a, s5a, s6a, s7a, s8a, s9a, s10a, s11a, s12a, s13a, s14a, s15a]) (.agg #[s0b, s1b, s2b, s3b, s4b, s5b, s6b, s7b, s8b, s9b, s10b, s11b, s12b, s13b, s14b, s15b])) W = .ok () W)
    (hM : ∀ W, Kept w W → Calls Tryz.prog 31 #[.slice pMa nMa cMa, .slice pMb nMb cMb] W (Tells bM W))
    (hD : ∀ W, Kept w W → Calls Tryz.prog 31 #[.slice pDa nDa cDa, .slice pDb nDb cDb] W (Tells bD W))
    (hT : ∀ W, Kept w W → Calls Tryz.prog 31 #[.slice pTa nTa cTa, .slice pTb nTb cTb] W (Tells bT W))
    (hS : ∀ W, Kept w W → Calls Tryz.prog 32 #[.slice pSa nSa cSa, .slice pSb nSb cSb, .func (.func 31) #[] #[]] W (Tells bP W))
    (hH : ∀ W, Kept w W → Calls Tryz.prog 33 #[.slice pHa nHa cHa, .slice pHb nHb cHb] W (Tells bH W)) :
    Calls Tryz.prog 20 #[.agg #[.slice pEa nEa cEa, .slice pAa nAa cAa, .int .i64 whya, .int .i64 nowa, .bool hala, s0a, s1a, s2a, s3a, s4a, s5a, s6a, s7a, s8a, s9a, s10a, s11a, s12a, s13a, s14a, s15a, .slice pMa nMa cMa, .slice pDa nDa cDa, .slice pTa nTa cTa, .slice pSa nSa cSa, .slice pHa nHa cHa], .agg #[.slice pEb nEb cEb, .slice pAb nAb cAb, .int .i64 whyb, .int .i64 nowb, .bool halb, s0b, s1b, s2b, s3b, s4b, s5b, s6b, s7b, s8b, s9b, s10b, s11b, s12b, s13b, s14b, s15b, .slice pMb nMb cMb, .slice pDb nDb cDb, .slice pTb nTb cTb, .slice pSb nSb cSb, .slice pHb nHb cHb]] w (TellsB (bE && bA && (whya == whyb) && (nowa == nowb) && (hala == halb) && bS && bM && bD && bT && bP && bH) w) := by
  have HE := Lib.hid hE; have HA := Lib.hid hA; have HM := Lib.hid hM; have HD := Lib.hid hD; have HT := Lib.hid hT; have HS := Lib.hid hS; have HH := Lib.hid hH
  clear hE hA hM hD hT hS hH
  go_enter Tryz.func20, Tryz.ntmps20
  go_wp2_with fail
  have HX := boxes_range w [.slice pEa nEa cEa, .slice pAa nAa cAa, .int .i64 whya, .int .i64 nowa, .bool hala, s0a, s1a, s2a, s3a, s4a, s5a, s6a, s7a, s8a, s9a, s10a, s11a, s12a, s13a, s14a, s15a, .slice pMa nMa cMa, .slice pDa nDa cDa, .slice pTa nTa cTa, .slice pSa nSa cSa, .slice pHa nHa cHa] [.slice pEb nEb cEb, .slice pAb nAb cAb, .int .i64 whyb, .int .i64 nowb, .bool halb, s0b, s1b, s2b, s3b, s4b, s5b, s6b, s7b, s8b, s9b, s10b, s11b, s12b, s13b, s14b, s15b, .slice pMb nMb cMb, .slice pDb nDb cDb, .slice pTb nTb cTb, .slice pSb nSb cSb, .slice pHb nHb cHb] 53
  simp only [List.toArray] at HX
  generalize (w.alloc (.cells #[.slice pEa nEa cEa, .slice pAa nAa cAa, .int .i64 whya, .int .i64 nowa, .bool hala, s0a, s1a, s2a, s3a, s4a, s5a, s6a, s7a, s8a, s9a, s10a, s11a, s12a, s13a, s14a, s15a, .slice pMa nMa cMa, .slice pDa nDa cDa, .slice pTa nTa cTa, .slice pSa nSa cSa, .slice pHa nHa cHa] 53)).alloc (.cells #[.slice pEb nEb cEb, .slice pAb nAb cAb, .int .i64 whyb, .int .i64 nowb, .bool halb, s0b, s1b, s2b, s3b, s4b, s5b, s6b, s7b, s8b, s9b, s10b, s11b, s12b, s13b, s14b, s15b, .slice pMb nMb cMb, .slice pDb nDb cDb, .slice pTb nTb cTb, .slice pSb nSb cSb, .slice pHb nHb cHb] 53) = w2 at *
  obtain ⟨hr1, hr2, hk, hB⟩ := HX
  have cA0 := hr1 0 _ rfl
  have cA1 := hr1 1 _ rfl
  have cA2 := hr1 2 _ rfl
  have cA3 := hr1 3 _ rfl
  have cA4 := hr1 4 _ rfl
  have cA5 := hr1 5 _ rfl
  have cA6 := hr1 6 _ rfl
  have cA7 := hr1 7 _ rfl
  have cA8 := hr1 8 _ rfl
  have cA9 := hr1 9 _ rfl
  have cA10 := hr1 10 _ rfl
  have cA11 := hr1 11 _ rfl
  have cA12 := hr1 12 _ rfl
  have cA13 := hr1 13 _ rfl
  have cA14 := hr1 14 _ rfl
  have cA15 := hr1 15 _ rfl
  have cA16 := hr1 16 _ rfl
  have cA17 := hr1 17 _ rfl
  have cA18 := hr1 18 _ rfl
  have cA19 := hr1 19 _ rfl
  have cA20 := hr1 20 _ rfl
  have cA21 := hr1 21 _ rfl
  have cA22 := hr1 22 _ rfl
  have cA23 := hr1 23 _ rfl
  have cA24 := hr1 24 _ rfl
  have cA25 := hr1 25 _ rfl
  have cB0 := hr2 0 _ rfl
  have cB1 := hr2 1 _ rfl
  have cB2 := hr2 2 _ rfl
  have cB3 := hr2 3 _ rfl
  have cB4 := hr2 4 _ rfl
  have cB5 := hr2 5 _ rfl
  have cB6 := hr2 6 _ rfl
  have cB7 := hr2 7 _ rfl
  have cB8 := hr2 8 _ rfl
  have cB9 := hr2 9 _ rfl
  have cB10 := hr2 10 _ rfl
  have cB11 := hr2 11 _ rfl
  have cB12 := hr2 12 _ rfl
  have cB13 := hr2 13 _ rfl
  have cB14 := hr2 14 _ rfl
  have cB15 := hr2 15 _ rfl
  have cB16 := hr2 16 _ rfl
  have cB17 := hr2 17 _ rfl
  have cB18 := hr2 18 _ rfl
  have cB19 := hr2 19 _ rfl
  have cB20 := hr2 20 _ rfl
  have cB21 := hr2 21 _ rfl
  have cB22 := hr2 22 _ rfl
  have cB23 := hr2 23 _ rfl
  have cB24 := hr2 24 _ rfl
  have cB25 := hr2 25 _ rfl
  simp only [Nat.zero_add] at cA0 cA1 cA2 cA3 cA4 cA5 cA6 cA7 cA8 cA9 cA10 cA11 cA12 cA13 cA14 cA15 cA16 cA17 cA18 cA19 cA20 cA21 cA22 cA23 cA24 cA25 cB0 cB1 cB2 cB3 cB4 cB5 cB6 cB7 cB8 cB9 cB10 cB11 cB12 cB13 cB14 cB15 cB16 cB17 cB18 cB19 cB20 cB21 cB22 cB23 cB24 cB25
  clear hr1 hr2
  generalize (Value.agg #[.slice pEa nEa cEa, .slice pAa nAa cAa, .int .i64 whya, .int .i64 nowa, .bool hala, s0a, s1a, s2a, s3a, s4a, s5a, s6a, s7a, s8a, s9a, s10a, s11a, s12a, s13a, s14a, s15a, .slice pMa nMa cMa, .slice pDa nDa cDa, .slice pTa nTa cTa, .slice pSa nSa cSa, .slice pHa nHa cHa]) = vA
  generalize (Value.agg #[.slice pEb nEb cEb, .slice pAb nAb cAb, .int .i64 whyb, .int .i64 nowb, .bool halb, s0b, s1b, s2b, s3b, s4b, s5b, s6b, s7b, s8b, s9b, s10b, s11b, s12b, s13b, s14b, s15b, .slice pMb nMb cMb, .slice pDb nDb cDb, .slice pTb nTb cTb, .slice pSb nSb cSb, .slice pHb nHb cHb]) = vB
  refine (HE.out _ (by first | exact hk | exact hk.trans (Kept.drewN _ _) | exact hk.trans ((Kept.drewN _ _).trans (Kept.drewN _ _)))).mono ?_
  rintro e w' ⟨rfl, q0, rfl⟩
  try rw [World.drewN_drewN]
  cases bE
  · (repeat (first | (refine wpList_fall 80 4 9 (by decide +kernel) rfl rfl ?_; intro a' ha1 ha2 ha3) | go_skip | go_guarded | go_step | go_upon | (dsimp only; go_at_K) | go_at_K)); exact fall_end rfl rfl ha1 ha3 ⟨by simp, hB.trans (by first | exact Below.refl _ _ | exact below_drewN _ _ | exact (below_drewN _ _).trans (below_drewN _ _))⟩
  go_wp2_with fail
  refine (HA.out _ (by first | exact hk | exact hk.trans (Kept.drewN _ _) | exact hk.trans ((Kept.drewN _ _).trans (Kept.drewN _ _)))).mono ?_
  rintro e w' ⟨rfl, q1, rfl⟩
  try rw [World.drewN_drewN]
  cases bA
  · (repeat (first | (refine wpList_fall 80 4 16 (by decide +kernel) rfl rfl ?_; intro a' ha1 ha2 ha3) | go_skip | go_guarded | go_step | go_upon | (dsimp only; go_at_K) | go_at_K)); exact fall_end rfl rfl ha1 ha3 ⟨by simp, hB.trans (by first | exact Below.refl _ _ | exact below_drewN _ _ | exact (below_drewN _ _).trans (below_drewN _ _))⟩
  cases hwhy : (whya == whyb)
  · (repeat (first | (refine wpList_fall 80 4 23 (by decide +kernel) rfl rfl ?_; intro a' ha1 ha2 ha3) | go_skip | go_guarded | go_step | go_upon | (dsimp only; go_at_K) | go_at_K)); exact fall_end rfl rfl ha1 ha3 ⟨by rw [hwhy]; simp, hB.trans (by first | exact Below.refl _ _ | exact below_drewN _ _ | exact (below_drewN _ _).trans (below_drewN _ _))⟩
  cases hnow : (nowa == nowb)
  · (repeat (first | (refine wpList_fall 80 4 30 (by decide +kernel) rfl rfl ?_; intro a' ha1 ha2 ha3) | go_skip | go_guarded | go_step | go_upon | (dsimp only; go_at_K) | go_at_K)); exact fall_end rfl rfl ha1 ha3 ⟨by rw [hnow]; simp, hB.trans (by first | exact Below.refl _ _ | exact below_drewN _ _ | exact (below_drewN _ _).trans (below_drewN _ _))⟩
  cases hhal : (hala == halb)
  · (repeat (first | (refine wpList_fall 80 4 37 (by decide +kernel) rfl rfl ?_; intro a' ha1 ha2 ha3) | go_skip | go_guarded | go_step | go_upon | (dsimp only; go_at_K) | go_at_K)); exact fall_end rfl rfl ha1 ha3 ⟨by rw [hhal]; simp, hB.trans (by first | exact Below.refl _ _ | exact below_drewN _ _ | exact (below_drewN _ _).trans (below_drewN _ _))⟩
  cases bS
  · (repeat (first | (refine wpList_fall 80 4 44 (by decide +kernel) rfl rfl ?_; intro a' ha1 ha2 ha3) | go_skip | go_guarded | go_step | go_upon | (dsimp only; go_at_K) | go_at_K)); exact fall_end rfl rfl ha1 ha3 ⟨by simp, hB.trans (by first | exact Below.refl _ _ | exact below_drewN _ _ | exact (below_drewN _ _).trans (below_drewN _ _))⟩
  go_wp2_with fail
  refine (HM.out _ (by first | exact hk | exact hk.trans (Kept.drewN _ _) | exact hk.trans ((Kept.drewN _ _).trans (Kept.drewN _ _)))).mono ?_
  rintro e w' ⟨rfl, q6, rfl⟩
  try rw [World.drewN_drewN]
  cases bM
  · (repeat (first | (refine wpList_fall 80 4 51 (by decide +kernel) rfl rfl ?_; intro a' ha1 ha2 ha3) | go_skip | go_guarded | go_step | go_upon | (dsimp only; go_at_K) | go_at_K)); exact fall_end rfl rfl ha1 ha3 ⟨by simp, hB.trans (by first | exact Below.refl _ _ | exact below_drewN _ _ | exact (below_drewN _ _).trans (below_drewN _ _))⟩
  go_wp2_with fail
  refine (HD.out _ (by first | exact hk | exact hk.trans (Kept.drewN _ _) | exact hk.trans ((Kept.drewN _ _).trans (Kept.drewN _ _)))).mono ?_
  rintro e w' ⟨rfl, q7, rfl⟩
  try rw [World.drewN_drewN]
  cases bD
  · (repeat (first | (refine wpList_fall 80 4 58 (by decide +kernel) rfl rfl ?_; intro a' ha1 ha2 ha3) | go_skip | go_guarded | go_step | go_upon | (dsimp only; go_at_K) | go_at_K)); exact fall_end rfl rfl ha1 ha3 ⟨by simp, hB.trans (by first | exact Below.refl _ _ | exact below_drewN _ _ | exact (below_drewN _ _).trans (below_drewN _ _))⟩
  go_wp2_with fail
  refine (HT.out _ (by first | exact hk | exact hk.trans (Kept.drewN _ _) | exact hk.trans ((Kept.drewN _ _).trans (Kept.drewN _ _)))).mono ?_
  rintro e w' ⟨rfl, q8, rfl⟩
  try rw [World.drewN_drewN]
  cases bT
  · (repeat (first | (refine wpList_fall 80 4 65 (by decide +kernel) rfl rfl ?_; intro a' ha1 ha2 ha3) | go_skip | go_guarded | go_step | go_upon | (dsimp only; go_at_K) | go_at_K)); exact fall_end rfl rfl ha1 ha3 ⟨by simp, hB.trans (by first | exact Below.refl _ _ | exact below_drewN _ _ | exact (below_drewN _ _).trans (below_drewN _ _))⟩
  go_wp2_with fail
  refine (HS.out _ (by first | exact hk | exact hk.trans (Kept.drewN _ _) | exact hk.trans ((Kept.drewN _ _).trans (Kept.drewN _ _)))).mono ?_
  rintro e w' ⟨rfl, q9, rfl⟩
  try rw [World.drewN_drewN]
  cases bP
  · (repeat (first | (refine wpList_fall 80 4 72 (by decide +kernel) rfl rfl ?_; intro a' ha1 ha2 ha3) | go_skip | go_guarded | go_step | go_upon | (dsimp only; go_at_K) | go_at_K)); exact fall_end rfl rfl ha1 ha3 ⟨by simp, hB.trans (by first | exact Below.refl _ _ | exact below_drewN _ _ | exact (below_drewN _ _).trans (below_drewN _ _))⟩
  go_wp2_with fail
  refine (HH.out _ (by first | exact hk | exact hk.trans (Kept.drewN _ _) | exact hk.trans ((Kept.drewN _ _).trans (Kept.drewN _ _)))).mono ?_
  rintro e w' ⟨rfl, q10, rfl⟩
  try rw [World.drewN_drewN]
  cases bH
  · (repeat (first | (refine wpList_fall 80 4 79 (by decide +kernel) rfl rfl ?_; intro a' ha1 ha2 ha3) | go_skip | go_guarded | go_step | go_upon | (dsimp only; go_at_K) | go_at_K)); exact fall_end rfl rfl ha1 ha3 ⟨by simp, hB.trans (by first | exact Below.refl _ _ | exact below_drewN _ _ | exact (below_drewN _ _).trans (below_drewN _ _))⟩
  go_wp2; go_ret; exact ⟨by rw [hwhy, hnow, hhal]; simp, hB.trans (by first | exact Below.refl _ _ | exact below_drewN _ _ | exact (below_drewN _ _).trans (below_drewN _ _))⟩
end Go.Proofs

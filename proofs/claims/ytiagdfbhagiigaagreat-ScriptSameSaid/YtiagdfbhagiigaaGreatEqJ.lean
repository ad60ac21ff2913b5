import Derived.Test.YtiagdfbhagiigaaGreatEqI
import Derived.Test.YtiagdfbhagiigaaGreatEqG
import Derived.KernelRfl
namespace Go.Proofs
open Go.RowKit Go.Lib Go.Deep Go.WideShapes Go.ChangeShapes

set_option maxRecDepth 100000 in
set_option maxHeartbeats 4000000 in
theorem open_lived {H : Type} {enc : TypeId × Value → H} {w : World} {base : Nat} {spare : Nat → Bool} {held : Bool} {fuel : Nat} {cs : List Value} {x : DataW H × List MemPlace}
    (h : DataW.trod enc Tryz.prog w base spare held fuel 53 cs = some x) :
    ∃ pEa nEa cEa pAa nAa cAa pMa nMa cMa pDa nDa cDa pTa nTa cTa pSa nSa cSa pHa nHa cHa whya nowa hala s0a s1a s2a s3a s4a s5a s6a s7a s8a s9a s10a s11a s12a s13a s14a s15a xE xA xS xM xD xT xP xH fS, cs = [.slice pEa nEa cEa, .slice pAa nAa cAa, .int .i64 whya, .int .i64 nowa, .bool hala, s0a, s1a, s2a, s3a, s4a, s5a, s6a, s7a, s8a, s9a, s10a, s11a, s12a, s13a, s14a, s15a, .slice pMa nMa cMa, .slice pDa nDa cDa, .slice pTa nTa cTa, .slice pSa nSa cSa, .slice pHa nHa cHa] ∧ Rd eInt w pEa nEa xE ∧ Rd3 85 w pAa nAa xA ∧ Tryz.prog.keyLits fS 49 [s0a, s1a, s2a, s3a, s4a, s5a, s6a, s7a, s8a, s9a, s10a, s11a, s12a, s13a, s14a, s15a] = some xS ∧
      Rd eByte w pMa nMa xM ∧ Rd eByte w pDa nDa xD ∧ Rd eByte w pTa nTa xT ∧ RdB w pSa nSa xP ∧ Rd3 89 w pHa nHa xH := by
  obtain ⟨xs, n, _, _, hl, hxl, hf⟩ := DataW.trod_struct Tryz.underlying53 h
  have hl : cs.length = 26 := hl.trans (by kernel_rfl)
  match cs, hl with
  | [v0, v1, v2, v3, v4, v5, v6, v7, v8, v9, v10, v11, v12, v13, v14, v15, v16, v17, v18, v19, v20, v21, v22, v23, v24, v25], _ =>
  match xs, hxl with
  | [y0, y1, y2, y3, y4, y5, y6, y7, y8, y9, y10], _ =>
  have k44 : Tryz.prog.cellsOf 44 = 1 := by kernel_rfl
  have k45 : Tryz.prog.cellsOf 45 = 1 := by kernel_rfl
  have k46 : Tryz.prog.cellsOf 46 = 1 := by kernel_rfl
  have k2 : Tryz.prog.cellsOf 2 = 1 := by kernel_rfl
  have k4 : Tryz.prog.cellsOf 4 = 1 := by kernel_rfl
  have k49 : Tryz.prog.cellsOf 49 = 16 := by kernel_rfl
  have k26 : Tryz.prog.cellsOf 26 = 1 := by kernel_rfl
  have k50 : Tryz.prog.cellsOf 50 = 1 := by kernel_rfl
  have k51 : Tryz.prog.cellsOf 51 = 1 := by kernel_rfl
  have h0 : DataW.trod enc Tryz.prog w base spare held n 44 [v0] = some y0 := by have t : DataW.trod enc Tryz.prog w base spare held n 44 ((List.drop 0 [v0, v1, v2, v3, v4, v5, v6, v7, v8, v9, v10, v11, v12, v13, v14, v15, v16, v17, v18, v19, v20, v21, v22, v23, v24, v25]).take (Tryz.prog.cellsOf 44)) = some y0 := hf 0 _ rfl; rw [k44] at t; exact t
  have h1 : DataW.trod enc Tryz.prog w base spare held n 45 [v1] = some y1 := by have t : DataW.trod enc Tryz.prog w base spare held n 45 ((List.drop 1 [v0, v1, v2, v3, v4, v5, v6, v7, v8, v9, v10, v11, v12, v13, v14, v15, v16, v17, v18, v19, v20, v21, v22, v23, v24, v25]).take (Tryz.prog.cellsOf 45)) = some y1 := hf 1 _ rfl; rw [k45] at t; exact t
  have h2 : DataW.trod enc Tryz.prog w base spare held n 46 [v2] = some y2 := by have t : DataW.trod enc Tryz.prog w base spare held n 46 ((List.drop 2 [v0, v1, v2, v3, v4, v5, v6, v7, v8, v9, v10, v11, v12, v13, v14, v15, v16, v17, v18, v19, v20, v21, v22, v23, v24, v25]).take (Tryz.prog.cellsOf 46)) = some y2 := hf 2 _ rfl; rw [k46] at t; exact t
  have h3 : DataW.trod enc Tryz.prog w base spare held n 2 [v3] = some y3 := by have t : DataW.trod enc Tryz.prog w base spare held n 2 ((List.drop 3 [v0, v1, v2, v3, v4, v5, v6, v7, v8, v9, v10, v11, v12, v13, v14, v15, v16, v17, v18, v19, v20, v21, v22, v23, v24, v25]).take (Tryz.prog.cellsOf 2)) = some y3 := hf 3 _ rfl; rw [k2] at t; exact t
  have h4 : DataW.trod enc Tryz.prog w base spare held n 4 [v4] = some y4 := by have t : DataW.trod enc Tryz.prog w base spare held n 4 ((List.drop 4 [v0, v1, v2, v3, v4, v5, v6, v7, v8, v9, v10, v11, v12, v13, v14, v15, v16, v17, v18, v19, v20, v21, v22, v23, v24, v25]).take (Tryz.prog.cellsOf 4)) = some y4 := hf 4 _ rfl; rw [k4] at t; exact t
  have h5 : DataW.trod enc Tryz.prog w base spare held n 49 [v5, v6, v7, v8, v9, v10, v11, v12, v13, v14, v15, v16, v17, v18, v19, v20] = some y5 := by have t : DataW.trod enc Tryz.prog w base spare held n 49 ((List.drop 5 [v0, v1, v2, v3, v4, v5, v6, v7, v8, v9, v10, v11, v12, v13, v14, v15, v16, v17, v18, v19, v20, v21, v22, v23, v24, v25]).take (Tryz.prog.cellsOf 49)) = some y5 := hf 5 _ rfl; rw [k49] at t; exact t
  have h6 : DataW.trod enc Tryz.prog w base spare held n 26 [v21] = some y6 := by have t : DataW.trod enc Tryz.prog w base spare held n 26 ((List.drop 21 [v0, v1, v2, v3, v4, v5, v6, v7, v8, v9, v10, v11, v12, v13, v14, v15, v16, v17, v18, v19, v20, v21, v22, v23, v24, v25]).take (Tryz.prog.cellsOf 26)) = some y6 := hf 6 _ rfl; rw [k26] at t; exact t
  have h7 : DataW.trod enc Tryz.prog w base spare held n 26 [v22] = some y7 := by have t : DataW.trod enc Tryz.prog w base spare held n 26 ((List.drop 22 [v0, v1, v2, v3, v4, v5, v6, v7, v8, v9, v10, v11, v12, v13, v14, v15, v16, v17, v18, v19, v20, v21, v22, v23, v24, v25]).take (Tryz.prog.cellsOf 26)) = some y7 := hf 7 _ rfl; rw [k26] at t; exact t
  have h8 : DataW.trod enc Tryz.prog w base spare held n 26 [v23] = some y8 := by have t : DataW.trod enc Tryz.prog w base spare held n 26 ((List.drop 23 [v0, v1, v2, v3, v4, v5, v6, v7, v8, v9, v10, v11, v12, v13, v14, v15, v16, v17, v18, v19, v20, v21, v22, v23, v24, v25]).take (Tryz.prog.cellsOf 26)) = some y8 := hf 8 _ rfl; rw [k26] at t; exact t
  have h9 : DataW.trod enc Tryz.prog w base spare held n 50 [v24] = some y9 := by have t : DataW.trod enc Tryz.prog w base spare held n 50 ((List.drop 24 [v0, v1, v2, v3, v4, v5, v6, v7, v8, v9, v10, v11, v12, v13, v14, v15, v16, v17, v18, v19, v20, v21, v22, v23, v24, v25]).take (Tryz.prog.cellsOf 50)) = some y9 := hf 9 _ rfl; rw [k50] at t; exact t
  have h10 : DataW.trod enc Tryz.prog w base spare held n 51 [v25] = some y10 := by have t : DataW.trod enc Tryz.prog w base spare held n 51 ((List.drop 25 [v0, v1, v2, v3, v4, v5, v6, v7, v8, v9, v10, v11, v12, v13, v14, v15, v16, v17, v18, v19, v20, v21, v22, v23, v24, v25]).take (Tryz.prog.cellsOf 51)) = some y10 := hf 10 _ rfl; rw [k51] at t; exact t
  obtain ⟨pE, nE, cE, xE, e0, r0⟩ := open_rdInt Tryz.underlying44 Tryz.underlying31 (by kernel_rfl) h0
  obtain ⟨pA, nA, cA, xA, e1, r1⟩ := open_rd3 Tryz.underlying45 (by kernel_rfl) (by kernel_rfl) h1
  obtain ⟨z2, e2, _⟩ := DataW.trod_int Tryz.underlying46 h2
  obtain ⟨z3, e3, _⟩ := DataW.trod_int Tryz.underlying2 h3
  obtain ⟨z4, e4, _⟩ := DataW.trod_bool Tryz.underlying4 h4
  obtain ⟨xS, e5⟩ := keyLits_of_trod 20 (by kernel_rfl) h5
  obtain ⟨pM, nM, cM, xM, e6, r6⟩ := open_rdByte Tryz.underlying26 Tryz.underlying5 (by kernel_rfl) h6
  obtain ⟨pD, nD, cD, xD, e7, r7⟩ := open_rdByte Tryz.underlying26 Tryz.underlying5 (by kernel_rfl) h7
  obtain ⟨pT, nT, cT, xT, e8, r8⟩ := open_rdByte Tryz.underlying26 Tryz.underlying5 (by kernel_rfl) h8
  obtain ⟨pP, nP, cP, xP, e9, r9⟩ := open_rdB Tryz.underlying50 Tryz.underlying26 Tryz.underlying5 (by kernel_rfl) (by kernel_rfl) h9
  obtain ⟨pH, nH, cH, xH, e10, r10⟩ := open_rd3 Tryz.underlying51 (by kernel_rfl) (by kernel_rfl) h10
  simp only [List.cons.injEq, and_true] at e0 e1 e2 e3 e4 e6 e7 e8 e9 e10
  subst e0 e1 e2 e3 e4 e6 e7 e8 e9 e10
  exact ⟨pE, nE, cE, pA, nA, cA, pM, nM, cM, pD, nD, cD, pT, nT, cT, pP, nP, cP, pH, nH, cH, z2, z3, z4, v5, v6, v7, v8, v9, v10, v11, v12, v13, v14, v15, v16, v17, v18, v19, v20, xE, xA, xS, xM, xD, xT, xP, xH, n, rfl, r0, r1, e5, r6, r7, r8, r9, r10⟩
end Go.Proofs

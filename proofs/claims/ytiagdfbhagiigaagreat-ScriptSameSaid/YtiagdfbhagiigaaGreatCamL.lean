/- Cam, part L: comparing, picking, asserting; walks over maps. -/
import Derived.Test.YtiagdfbhagiigaaGreatCamK
namespace Cam
open Go Go.Lib
variable {X : Type} [AbsRep X] {P : Program}

/-- What is held against nil. -/
def nilEq (d : TypeDesc) (x y : SV) : Bool :=
  match d, x, y with
  | .pointer _, .ptr _ _, .sc (.pointer none) => true
  | .pointer _, .sc (.pointer none), .ptr _ _ => true
  | .slice _, .sl .., .sc (.slice none _ _) => true
  | .slice _, .esl .., .sc (.slice none _ _) => true
  | .map _ _, .mp _, .sc (.map none) => true
  | .func _ _ _, .fn .., .sc .nilFunc => true
  | .func _ _ _, .yld _, .sc .nilFunc => true
  | .interface _, .ifc .., .sc .nilIface => true
  | .interface _, .sc .nilIface, .ifc .. => true
  | _, _, _ => false

theorem nilEq_ok {E : Env} {w : World} {t : TypeId} {d : TypeDesc} (hd : P.underlying t = some d) {x y : SV} {v u : Value} (hx : R E x v) (hy : R E y u) (h : nilEq d x y = true) (k : Nat) :
    (Op.equalIn (k + 1) t v u).run P w = .ok false w ∧ (∀ o, (∃ a b, v = .agg a ∧ u = .agg b) ∨ (v = .nilIface ∧ u = .nilIface) ∨ (binOp o t v u = (match o with
      | .eql => (do pure (.bool (← Op.equal t v u))) | .neq => (do pure (.bool (!(← Op.equal t v u)))) | _ => binOp o t v u))) ∧ ¬ (∃ a b, v = .agg a ∧ u = .agg b) ∧ ¬ (v = .nilIface ∧ u = .nilIface) := by
  unfold nilEq at h
  split at h <;> first
    | (cases h; done)
    | (cases hx; cases hy
       refine ⟨by simp [Op.equalIn, run_und hd], fun o => .inr (.inr (by cases o <;> rfl)), (by rintro ⟨a, b, h1, h2⟩; first | (cases h1; done) | (cases h2; done)), (by rintro ⟨h1, h2⟩; first | (cases h1; done) | (cases h2; done))⟩)

def vbinOp (cfg : Cfg P) (op : BinOp) (t : TypeId) (ox oy : Operand) (x y : SV) : Option SV :=
  match x.plain?, y.plain? with
  | some a, some b => (match pureRun P (do eqGuard op t ox oy a b; binOp op t a b) with | some v => some (.sc v) | none => none)
  | _, _ => (match cfg.U t with
    | some d => if nilEq d x y then (match op with
      | .eql => some (.sc (.bool false))
      | .neq => some (.sc (.bool true))
      | _ => none) else none
    | none => none)

theorem vbinOp_ok (cfg : Cfg P) {E : Env} {w : World} {op : BinOp} {t : TypeId} {ox oy : Operand} {x y z : SV} {v u : Value} (hx : R E x v) (hy : R E y u) (h : vbinOp cfg op t ox oy x y = some z) :
    ∃ r, (do eqGuard op t ox oy v u; binOp op t v u : Sem Value).run P w = .ok r w ∧ R E z r := by
  unfold vbinOp at h
  split at h
  · rename_i a b ha hb
    obtain rfl := SV.plain_eq ha hx
    obtain rfl := SV.plain_eq hb hy
    split at h
    · rename_i r hr
      cases h
      exact ⟨r, pureRun_ok hr w, .sc r⟩
    · cases h
  · split at h
    · rename_i d hd
      split at h
      · rename_i hn
        obtain ⟨q1, q2, q3, q4⟩ := nilEq_ok (w := w) (cfg.hU hd) hx hy hn 9999
        have hg : (eqGuard op t ox oy v u).run P w = .ok () w := by
          unfold eqGuard
          cases op <;> first
            | rfl
            | (rw [if_neg (by decide)]
               split
               · exact absurd ⟨rfl, rfl⟩ q4
               · exact absurd ⟨_, _, rfl, rfl⟩ q3
               · rfl)
        have hq := q2 op
        simp only [q3, q4, false_or] at hq
        cases op <;> simp only at h <;> first | (cases h; done) | skip
        · cases h
          refine ⟨.bool false, ?_, .sc _⟩
          simp only [Sem.run_bind, hg, Result.andThen_ok]
          rw [hq]
          simp [Op.equal, Op.maxDepth, q1]
        · cases h
          refine ⟨.bool true, ?_, .sc _⟩
          simp only [Sem.run_bind, hg, Result.andThen_ok]
          rw [hq]
          simp [Op.equal, Op.maxDepth, q1]
      · cases h
    · cases h

def vunOp (P : Program) (op : UnOp) (x : SV) : Option SV :=
  match x.plain? with
  | some a => (match pureRun P (Op.unary op a) with | some v => some (.sc v) | none => none)
  | none => none
theorem vunOp_ok {E : Env} {w : World} {op : UnOp} {x z : SV} {v : Value} (hx : R E x v) (h : vunOp P op x = some z) : ∃ r, (Op.unary op v).run P w = .ok r w ∧ R E z r := by
  unfold vunOp at h
  split at h
  · rename_i a ha
    obtain rfl := SV.plain_eq ha hx
    split at h
    · rename_i r hr; cases h; exact ⟨r, pureRun_ok hr w, .sc r⟩
    · cases h
  · cases h

def vnil : SV → Bool
  | .ptr .. => true
  | .sl .. => true
  | .ifc .. => true
  | .fn (.func _) _ _ => true
  | .sc (.pointer (some _)) => true
  | .sc (.func (.func _) _ _) => true
  | .sc (.iface _ _) => true
  | _ => false

def vtypeAssert (cfg : Cfg P) (x : SV) (asserted : TypeId) (ok : Bool) : Option SV :=
  match cfg.U asserted, cfg.I asserted with
  | some (.interface _), _ => none
  | some _, some ia => (match x with
    | .sc .nilIface => if ok then some (.tup [.sc ia.zero, .sc (.bool false)]) else none
    | _ => (match x.ifc? with
      | some (t, v) => if t = asserted then some (if ok then .tup [v, .sc (.bool true)] else v) else (if ok then some (.tup [.sc ia.zero, .sc (.bool false)]) else none)
      | none => none))
  | _, _ => none

theorem vtypeAssert_ok (cfg : Cfg P) {E : Env} {w : World} {x z : SV} {xt a : TypeId} {ok : Bool} {v : Value} (hx : R E x v) (h : vtypeAssert cfg x a ok = some z) :
    ∃ r, (Instr.typeAssert v xt a ok).run P w = .ok r w ∧ R E z r := by
  unfold vtypeAssert at h
  split at h
  · cases h
  · rename_i d ia hne hu hi
    have hz := cfg.run_zero hi w
    have hd := run_und (cfg.hU hu) w
    split at h
    · cases hx
      split at h
      · rename_i hok
        cases h
        refine ⟨.tuple #[ia.zero, .bool false], ?_, .tup (.cons (.sc _) (.cons (.sc _) .nil))⟩
        simp only [Instr.typeAssert, Sem.run_bind, hd, Result.andThen_ok]
        cases d <;> first | exact absurd rfl (hne _) | simp [hok, hz]
      · cases h
    · split at h
      · rename_i t y hif
        obtain ⟨u, rfl, hr⟩ := SV.ifc_eq hif hx
        split at h
        · rename_i hta
          cases h
          refine ⟨if ok then .tuple #[u, .bool true] else u, ?_, ?_⟩
          · simp only [Instr.typeAssert, Sem.run_bind, hd, Result.andThen_ok]
            cases d <;> first | exact absurd rfl (hne _) | simp [hta]
          · cases ok
            · exact hr
            · exact .tup (.cons hr (.cons (.sc _) .nil))
        · rename_i hta
          split at h
          · rename_i hok
            cases h
            refine ⟨.tuple #[ia.zero, .bool false], ?_, .tup (.cons (.sc _) (.cons (.sc _) .nil))⟩
            simp only [Instr.typeAssert, Sem.run_bind, hd, Result.andThen_ok]
            cases d <;> first | exact absurd rfl (hne _) | simp [hta, hok, hz]
          · cases h
      · cases h
  · cases h

/-! ### walks over maps, with what comes next open to no choice -/
def vrange (cfg : Cfg P) (h : CHeap X) (t : TypeId) (x : SV) : Option (SV × CHeap X) :=
  match cfg.U t, x with
  | some (.map _ _), .sc (.map none) => some (.ptr h.next 0, h.push (.iter none 0 [] 0))
  | some (.map _ _), .mp n => (match h.get n with
    | some (.map _ clock) => some (.ptr h.next 0, h.push (.iter (some n) clock [] clock))
    | _ => none)
  | _, _ => none

theorem vrange_ok (cfg : Cfg P) {E : Env} {own : Own} {h h' : CHeap X} {w : World} (e : Emb E own h w) {t : TypeId} {x y : SV} {v : Value} (hx : R E x v) (hy : vrange cfg h t x = some (y, h')) :
    ∃ r E' own' w', (Instr.range t v).run P w = .ok r w' ∧ Emb E' own' h' w' ∧ Tran E own h w E' own' h' w' ∧ R E' y r := by
  unfold vrange at hy
  split at hy
  · rename_i kt el hu
    cases hy; cases hx
    obtain ⟨E', own', g1, g2, g3⟩ := e.grow (.mapIter none 0 #[] 0) (.iter none 0 [] 0) 0 0 w rfl rfl rfl rfl (fun E' own' w' hx ho hw => ⟨ho, rfl, by simpa using hw⟩)
    refine ⟨.pointer (some ⟨w.heap.size, 0, none⟩), E', own', _, ?_, g1, g2, by simpa using R.ptr (E := E') (n := h.next) (off := 0) g3⟩
    simp [Instr.range, run_und (cfg.hU hu)]
  · rename_i kt el n hu
    split at hy
    · rename_i es clock hg
      cases hy
      cases hx with
      | @mp _ nb hn =>
        obtain ⟨nb', entries, g1, g2, g3⟩ := emb_map e hg
        rw [hn] at g1; cases g1
        obtain ⟨E', own', q1, q2, q3⟩ := e.grow (.mapIter (some nb.block) clock #[] clock) (.iter (some n) clock [] clock) 0 0 w rfl rfl rfl rfl (fun E' own' w' hx ho hw => ⟨ho, rfl, nb, hx _ _ hn, by simpa using hw⟩)
        refine ⟨.pointer (some ⟨w.heap.size, 0, none⟩), E', own', _, ?_, q1, q2, by simpa using R.ptr (E := E') (n := h.next) (off := 0) q3⟩
        simp [Instr.range, run_und (cfg.hU hu), run_getObj_map g3]
    · cases hy
  · cases hy
end Cam

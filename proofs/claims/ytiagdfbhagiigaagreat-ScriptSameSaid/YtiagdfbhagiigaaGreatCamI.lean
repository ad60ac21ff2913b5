/- Cam, part I: copy, len, cap, conversions. -/
import Derived.Test.YtiagdfbhagiigaaGreatCamH
namespace Cam
open Go Go.Lib
theorem Tran.congr {X : Type} {E E' : Env} {own own' : Own} {h h1 h2 : CHeap X} {w w' : World} (t : Tran E own h w E' own' h1 w') (hg : ∀ n, h2.get n = h1.get n) (hn : h2.next = h1.next) : Tran E own h w E' own' h2 w' :=
  ⟨t.ext, by rw [hn]; exact t.next, t.os, t.tape, t.output, t.size, t.keep, fun n a b => by rw [hg]; exact t.live n a b, t.names, t.owns⟩

variable {X : Type} [AbsRep X] {P : Program}

def vcopy (cfg : Cfg P) (h : CHeap X) (t : TypeId) (dst src : SV) : Option (SV × CHeap X) :=
  match cfg.U t, lenS src, lenS dst with
  | some (.slice elem), some n, some dn => (match cfg.I elem with
    | some ie => (match readS h ie.size (Nat.min n dn) src with
      | some l => if l.all SV.atom = true then (match dst with
        | .sl m off _ _ _ _ => (match h.get m with
          | some (.cells known opn ty) => if off + l.length ≤ known.length then some (.sc (.int .i64 (Nat.min n dn : Nat)), h.set m (.cells (laid known off l) opn ty)) else none
          | _ => none)
        | .sc (.slice none _ _) => if l.length = 0 then some (.sc (.int .i64 (Nat.min n dn : Nat)), h) else none
        | .esl _ _ => if l.length = 0 then some (.sc (.int .i64 (Nat.min n dn : Nat)), h) else none
        | _ => none) else none
      | none => none)
    | none => none)
  | _, _, _ => none


theorem vcopy_ok (cfg : Cfg P) {E : Env} {own : Own} {h h' : CHeap X} {w : World} (e : Emb E own h w) {t u : TypeId} {d s y : SV} {vd vs : Value} (ty : TypeId) (hd : R E d vd) (hs : R E s vs)
    (hy : vcopy cfg h t d s = some (y, h')) :
    ∃ r w', (Builtin.copy_ #[t, u] ty #[vd, vs]).run P w = .ok r w' ∧ Emb E own h' w' ∧ Tran E own h w E own h' w' ∧ R E y r := by
  unfold vcopy at hy
  split at hy
  · rename_i elem n dn hu hn hdn
    split at hy
    · rename_i ie hie
      split at hy
      · rename_i l hl
        have hlen := lenS_ok (P := P) hs hn w
        obtain ⟨l', g1, g2⟩ := readS_ok (P := P) e hs hl
        have hll := g2.length
        split at hy
        · rename_i hat
          have hat' := atoms_of g2 hat
          split at hy
          · rename_i m off dl de dc dx
            split at hy
            · rename_i known opn tt hm
              split at hy
              · rename_i hfit
                cases hy
                cases hd with
                | @sl _ _ _ _ _ _ nb c hnb hle hcap hex =>
                  simp [lenS] at hdn
                  subst hdn
                  obtain ⟨nb', w', q1, q2, q3, q4⟩ := store_cells (P := P) (off := off) e hm g2 hfit hat'
                  rw [hnb] at q1; cases q1
                  refine ⟨_, w', ?_, q3, q4, .sc _⟩
                  simp [Builtin.copy_, run_und (cfg.hU hu), hlen, cfg.run_size hie, g1 w rfl, q2, goInt]
              · cases hy
            · cases hy
          · rename_i dl dc
            split at hy
            · rename_i hl0
              cases hy
              cases hd
              simp [lenS] at hdn
              subst hdn
              exact ⟨_, w, by simp [Builtin.copy_, run_und (cfg.hU hu), hlen, cfg.run_size hie, g1 w rfl, goInt], e, Tran.refl _ _ _ _, .sc _⟩
            · cases hy
          · rename_i m es
            split at hy
            · rename_i hl0
              cases hy
              have hnil : l' = [] := List.length_eq_zero_iff.1 (by omega)
              subst hnil
              cases hd with
              | @esl _ _ nb o c hnb hcap =>
                simp [lenS] at hdn
                subst hdn
                have hmin : n.min 0 = 0 := Nat.min_zero n
                have g1w : (Builtin.firstCells ie.size 0 vs).run P w = .ok #[] w := by simpa [hmin] using g1 w rfl
                exact ⟨_, w, by simp [Builtin.copy_, run_und (cfg.hU hu), hlen, cfg.run_size hie, g1w, goInt, storeCells], e, Tran.refl _ _ _ _, .sc _⟩
            · cases hy
          · cases hy
        · cases hy
      · cases hy
    · cases hy
  · cases hy

/-! ### len, cap -/
def vlen (cfg : Cfg P) (h : CHeap X) (t : TypeId) (x : SV) : Option SV :=
  match cfg.U t, x with
  | some .string, .sc (.string s) => some (.sc (.int .i64 s.size))
  | some (.array n _), _ => some (.sc (.int .i64 n))
  | some (.slice _), .sl _ _ len _ _ _ => some (.sc (.int .i64 len))
  | some (.slice _), .esl _ _ => some (.sc (.int .i64 0))
  | some (.slice _), .sc (.slice _ n _) => some (.sc (.int .i64 n))
  | some (.map _ _), .sc (.map none) => some (.sc (.int .i64 0))
  | some (.map _ _), .mp n => (match h.get n with
    | some (.map es _) => some (.sc (.int .i64 es.length))
    | _ => none)
  | _, _ => none

theorem emb_map {E : Env} {own : Own} {h : CHeap X} {w : World} (e : Emb E own h w) {n : Nat} {es : List (Value × Nat × SV)} {clock : Nat} (hc : h.get n = some (.map es clock)) :
    ∃ nb entries, E n = some nb ∧ ME E es entries ∧ w.heap[nb.block]? = some (.map entries.toArray clock) := by
  obtain ⟨nb, hn, hown, entries, h1, h2⟩ := e.ch n _ hc
  exact ⟨nb, entries, hn, h2, h1⟩

theorem ME.length {E : Env} : ∀ {l : List (Value × Nat × SV)} {l' : List MapEntry}, ME E l l' → l.length = l'.length
  | _, _, .nil => rfl
  | _, _, .cons _ h => by simp [h.length]

theorem run_getObj_map {w : World} {r : Nat} {es : Array MapEntry} {c : Nat} (h : w.heap[r]? = some (.map es c)) : (getObj r).run P w = .ok (.map es c) w := by
  simp [getObj, Sem.run, h]

theorem vlen_ok (cfg : Cfg P) {E : Env} {own : Own} {h : CHeap X} {w : World} (e : Emb E own h w) {t : TypeId} {ts : Array TypeId} (hts : ts[0]? = some t) {x y : SV} {v : Value} (ty : TypeId) (hx : R E x v)
    (hy : vlen cfg h t x = some y) : ∃ r, (Builtin.len_ ts ty #[v]).run P w = .ok r w ∧ R E y r := by
  unfold vlen at hy
  split at hy
  · rename_i s hu
    cases hy; cases hx
    exact ⟨_, by simp [Builtin.len_, hts, run_und (cfg.hU hu), goInt], .sc _⟩
  · rename_i n el hu
    cases hy
    refine ⟨.int .i64 n, ?_, .sc _⟩
    simp only [Builtin.len_, hts, Sem.run_bind, run_und (cfg.hU hu), Result.andThen_ok, List.getElem?_toArray, List.getElem?_cons_zero]
    cases v <;> rfl
  · rename_i hu
    cases hy
    cases hx
    exact ⟨_, by simp [Builtin.len_, hts, run_und (cfg.hU hu), goInt], .sc _⟩
  · rename_i hu
    cases hy
    cases hx
    exact ⟨_, by simp [Builtin.len_, hts, run_und (cfg.hU hu), goInt], .sc _⟩
  · rename_i hu
    cases hy
    cases hx
    exact ⟨_, by simp [Builtin.len_, hts, run_und (cfg.hU hu), goInt], .sc _⟩
  · rename_i hu
    cases hy
    cases hx
    exact ⟨_, by simp [Builtin.len_, hts, run_und (cfg.hU hu), goInt], .sc _⟩
  · rename_i n hu
    split at hy
    · rename_i es clock hc
      cases hy
      cases hx with
      | @mp _ nb hn =>
        obtain ⟨nb', entries, g1, g2, g3⟩ := emb_map e hc
        rw [hn] at g1; cases g1
        exact ⟨_, by simp [Builtin.len_, hts, run_und (cfg.hU hu), goInt, run_getObj_map g3, ← g2.length], .sc _⟩
    · cases hy
  · cases hy

def vcap (cfg : Cfg P) (t : TypeId) (x : SV) : Option SV :=
  match cfg.U t, x with
  | some (.slice _), .sl _ _ _ _ c true => some (.sc (.int .i64 c))
  | some (.slice _), .sc (.slice _ _ c) => some (.sc (.int .i64 c))
  | _, _ => none

theorem vcap_ok (cfg : Cfg P) {E : Env} {w : World} {t : TypeId} {ts : Array TypeId} (hts : ts[0]? = some t) {x y : SV} {v : Value} (ty : TypeId) (hx : R E x v)
    (hy : vcap cfg t x = some y) : ∃ r, (Builtin.cap_ ts ty #[v]).run P w = .ok r w ∧ R E y r := by
  unfold vcap at hy
  split at hy
  · rename_i hu
    cases hy
    cases hx with
    | sl hn h1 h2 h3 => exact ⟨_, by simp [Builtin.cap_, hts, run_und (cfg.hU hu), goInt, h3 rfl], .sc _⟩
  · rename_i hu
    cases hy; cases hx
    exact ⟨_, by simp [Builtin.cap_, hts, run_und (cfg.hU hu), goInt], .sc _⟩
  · cases hy

/-! ### conversions -/
def intsOf : List SV → Option (List Int)
  | [] => some []
  | .sc (.int .u8 n) :: l => (match intsOf l with | some r => some (n :: r) | none => none)
  | _ => none

theorem intsOf_ok {E : Env} : ∀ {l : List SV} {l' : List Value} {ns : List Int}, RL E l l' → intsOf l = some ns → l' = ns.map (Value.int .u8)
  | [], _, ns, .nil, h => by simp [intsOf] at h; subst h; rfl
  | x :: l, v :: l', ns, .cons hx hl, h => by
    cases hx with
    | sc v =>
      cases v with
      | int k n =>
        cases k <;> simp only [intsOf] at h <;> try cases h
        split at h
        · rename_i r hr
          cases h
          simp [intsOf_ok hl hr]
        · cases h
      | _ => simp [intsOf] at h
    | _ => simp [intsOf] at h

def bytesStr (ns : List Int) : ByteArray := ns.foldl (fun r n => r.push (UInt8.ofNat n.toNat)) ByteArray.empty

def vconvert (cfg : Cfg P) (h : CHeap X) (src dst : TypeId) (x : SV) : Option (SV × CHeap X) :=
  match cfg.U src, cfg.U dst with
  | some (.int _), some (.int k) => (match svInt x with
    | some n => some (.sc (.int k (k.wrap n)), h)
    | none => none)
  | some (.slice e), some .string => (match cfg.U e, x with
    | some (.int .u8), .sl n off len es _ _ => (match readS h 1 len (.sl n off len es len true) with
      | some l => (match intsOf l with
        | some ns => some (.sc (.string (bytesStr ns)), h)
        | none => none)
      | none => none)
    | some (.int .u8), .esl _ _ => some (.sc (.string .empty), h)
    | some (.int .u8), .sc (.slice none _ _) => some (.sc (.string .empty), h)
    | _, _ => none)
  | some .string, some (.slice e) => (match cfg.U e, x with
    | some (.int .u8), .sc (.string s) => some (.sl h.next 0 s.size 1 s.size false, h.push (.cells (strS s) true e))
    | _, _ => none)
  | some (.slice _), some (.slice e) => if src = dst then (match cfg.U e, x with
    | some (.int .u8), .sl n _ _ _ _ _ => (match h.get n with | some (.cells ..) => some (x, h) | _ => none)
    | _, _ => none) else none
  | _, _ => none

theorem Emb.congr {E : Env} {own : Own} {h h' : CHeap X} {w : World} (e : Emb E own h w) (hg : ∀ n, h'.get n = h.get n) (hn : h'.next = h.next) : Emb E own h' w :=
  ⟨fun n c hc => e.ch n c (by rw [← hg]; exact hc), fun n c hc => by rw [hn]; exact e.lt n c (by rw [← hg]; exact hc), fun n hle => e.fresh n (by rw [← hn]; exact hle), fun b n hb => by rw [hn]; exact e.own_lt b n hb⟩

/-- Bytes that a string may share are marked: no cell of the region is. -/
theorem mark_ok {E : Env} {own : Own} {h : CHeap X} {w : World} (e : Emb E own h w) {m : Nat} {known : List SV} {opn : Bool} {t : TypeId} {nb : Nb} (hc : h.get m = some (.cells known opn t)) (hm : E m = some nb) (o : Nat) :
    ∃ w', (markStringish ⟨nb.block, o, none⟩).run P w = .ok () w' ∧ Emb E own h w' ∧ Tran E own h w E own h w' := by
  obtain ⟨nb0, hn0, hown, pre, vs, post, cs, fz, h1, h2, h3, h4, h5, h6, h7⟩ := e.ch m _ hc
  rw [hm] at hn0; cases hn0
  have hsh : w.shape? nb.block = some (t, cs.size) := by simp [World.shape?, h1]
  have hfz : (w.freeze ⟨nb.block, cs.size, none⟩ 1).heap[nb.block]? = some (.cells cs t (if fz.1 == fz.2 then (cs.size, cs.size + 1) else (min fz.1 cs.size, max fz.2 (cs.size + 1)))) := by
    simp [World.freeze, Array.getElem?_modify, h1]
  have hoth : ∀ b, b ≠ nb.block → (w.freeze ⟨nb.block, cs.size, none⟩ 1).heap[b]? = w.heap[b]? := fun b hb => by
    simp only [World.freeze, Nat.one_ne_zero, if_false, Array.getElem?_modify]
    rw [if_neg (by omega)]
  obtain ⟨e', tr⟩ := e.turn (w' := w.freeze ⟨nb.block, cs.size, none⟩ 1) (c' := .cells known opn t) hc hm rfl (by simp [World.freeze]) rfl rfl rfl hoth
    ⟨hown, pre, vs, post, cs, _, hfz, h2, h3, h4, h5, h6, by
      split
      · right; exact Nat.le_refl _
      · rename_i hf
        right
        simp only [beq_iff_eq] at hf
        simp only
        omega⟩
  have hsame : ∀ n, h.get n = (h.set m (.cells known opn t)).get n := fun n => by
    rw [CHeap.get_set]; split
    · rename_i hn; rw [hn, hc]
    · rfl
  exact ⟨_, by simp [markStringish, hsh], e'.congr hsame rfl, tr.congr hsame rfl⟩

theorem vconvert_ok (cfg : Cfg P) {E : Env} {own : Own} {h h' : CHeap X} {w : World} (e : Emb E own h w) {src dst : TypeId} {x y : SV} {v : Value} (hx : R E x v)
    (hy : vconvert cfg h src dst x = some (y, h')) :
    ∃ r E' own' w', (convert src dst v).run P w = .ok r w' ∧ Emb E' own' h' w' ∧ Tran E own h w E' own' h' w' ∧ R E' y r := by
  unfold vconvert at hy
  split at hy
  · rename_i j k hs hd
    split at hy
    · rename_i n hn
      cases hy
      obtain ⟨q, rfl⟩ := svInt_ok hn hx
      exact ⟨_, E, own, w, by simp [convert, run_und (cfg.hU hs), run_und (cfg.hU hd), Conv.intToInt], e, Tran.refl _ _ _ _, .sc _⟩
    · cases hy
  · rename_i el hs hd
    split at hy
    · rename_i n off len es c ex he
      split at hy
      · rename_i l hl
        split at hy
        · rename_i ns hns
          cases hy
          cases hx with
          | @sl _ _ _ _ _ _ nb c hnb hle hcap hex =>
            have hr : R E (.sl n off len es len true) (.slice (some ⟨nb.block, nb.base + off, none⟩) len len) := .sl hnb ⟨Nat.le_refl _, Nat.le_refl _⟩
              (by have := Nat.mul_le_mul_right es (show len ≤ c by omega); omega) (fun _ => rfl)
            obtain ⟨l', g1, g2⟩ := readS_ok (P := P) e hr hl
            have := intsOf_ok g2 hns
            subst this
            have hload : (loadCells ⟨nb.block, nb.base + off, none⟩ len).run P w = .ok (ns.map (Value.int .u8)).toArray w := by
              have := g1 w rfl
              simpa [Builtin.firstCells] using this
            refine ⟨_, E, own, w, ?_, e, Tran.refl _ _ _ _, .sc _⟩
            rw [run_convert_bytes_string w src dst el _ _ _ (cfg.hU hs) (cfg.hU he) (cfg.hU hd), run_bytesToString w _ _ _ ns hload]
            rfl
        · cases hy
      · cases hy
    · rename_i n es he
      cases hy
      cases hx with
      | @esl _ _ nb o c hnb hcap =>
        refine ⟨_, E, own, w, ?_, e, Tran.refl _ _ _ _, .sc _⟩
        rw [run_convert_bytes_string w src dst el _ _ _ (cfg.hU hs) (cfg.hU he) (cfg.hU hd), run_bytesToString w _ _ _ [] (by simp [loadCells, loadCellsFrom])]
        rfl
    · rename_i l c he
      cases hy
      cases hx
      refine ⟨_, E, own, w, ?_, e, Tran.refl _ _ _ _, .sc _⟩
      rw [run_convert_bytes_string w src dst el _ _ _ (cfg.hU hs) (cfg.hU he) (cfg.hU hd)]
      simp [Conv.bytesToString]
    · cases hy
  · rename_i el hs hd
    split at hy
    · rename_i s he
      cases hy
      cases hx
      obtain ⟨c, hc⟩ : ∃ c, (Question.appendCap s.size 0 el).cut (w.tape w.drawn (.appendCap s.size 0 el)) = c := ⟨_, rfl⟩
      have hle : s.size ≤ c := by rw [← hc]; simp [Question.cut]
      obtain ⟨E', own', e', tr, hn'⟩ := new_cells e (strS_ok E s) el (List.replicate (c - s.size) (.int .u8 0)) true (fun h => by cases h) w.drew rfl rfl rfl rfl
      obtain ⟨w', m1, m2, m3⟩ := mark_ok (P := P) e' (m := h.next) (by rw [CHeap.get_push, if_pos rfl]) hn' 0
      refine ⟨.slice (some ⟨w.heap.size, 0, none⟩) s.size c, E', own', w', ?_, m2, tr.trans e m3, ?_⟩
      · have harr : (Array.map (fun (b : UInt8) => Value.int IntKind.u8 (b.toNat : Int)) s.data) ++ Array.replicate (c - s.size) (Value.int IntKind.u8 0) =
            (strCells s ++ List.replicate (c - s.size) (Value.int IntKind.u8 0)).toArray := by
          apply Array.ext'; simp [strCells]
        have m1' : (markStringish ⟨w.heap.size, 0, none⟩).run P (w.drew.alloc (.cells (strCells s ++ List.replicate (c - s.size) (Value.int IntKind.u8 0)).toArray el)) = .ok () w' := m1
        simp [convert, run_und (cfg.hU hs), run_und (cfg.hU hd), run_und (cfg.hU he), Conv.stringToBytes, Question.forced, hc, newRow, harr, m1']
      · have hsl : (strCells s).length = s.size := strCells_length s
        have := R.sl (E := E') (n := h.next) (off := 0) (len := s.size) (esz := 1) (cmin := s.size) (exact := false) (c := c) hn' ⟨Nat.le_refl _, hle⟩
          (by simp only [hsl, List.length_replicate]; omega) (fun h => by cases h)
        simpa using this
    · cases hy
  · rename_i e0 el hs hd
    split at hy
    · rename_i hsd
      split at hy
      · rename_i n off len es c ex he
        split at hy
        · rename_i known opn tt hn
          cases hy
          have hx' := hx
          cases hx with
          | @sl _ _ _ _ _ _ nb c hnb hle hcap hex =>
            obtain ⟨w', m1, m2, m3⟩ := mark_ok (P := P) e hn hnb (nb.base + off)
            refine ⟨_, E, own, w', ?_, m2, m3, hx'⟩
            simp [convert, run_und (cfg.hU hd), run_und (cfg.hU he), hsd, m1]
        · cases hy
      · cases hy
    · cases hy
  · cases hy
end Cam

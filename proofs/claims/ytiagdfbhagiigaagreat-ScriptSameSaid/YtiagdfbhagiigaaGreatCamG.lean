/- Cam, part G: slices made, appended to, copied; bytes and strings. -/
import Derived.Test.YtiagdfbhagiigaaGreatCamF
namespace Cam
open Go Go.Lib
variable {X : Type} [AbsRep X] {P : Program}

/-! ### make -/
def vmakeSlice (cfg : Cfg P) (h : CHeap X) (t : TypeId) (len cap : SV) : Option (SV × CHeap X) :=
  match cfg.U t, svInt len, svInt cap with
  | some (.slice elem), some l, some c => (match cfg.I elem with
    | some ie => if 0 ≤ l ∧ l ≤ c ∧ c ≤ 2 ^ 30 ∧ ie.bytes ≤ 2 ^ 12 then
        some (.sl h.next 0 l.toNat ie.size c.toNat true, h.push (.cells ((zeroRow ie.zero.cells.toList (c.toNat * ie.size)).map .sc) false elem)) else none
    | none => none)
  | _, _, _ => none

theorem wrap_small {n : Int} (h0 : 0 ≤ n) (h1 : n ≤ 2 ^ 60) : IntKind.i64.wrap n = n := by
  rw [IntKind.wrap_i64]; omega

theorem vmakeSlice_ok (cfg : Cfg P) {E : Env} {own : Own} {h h' : CHeap X} {w : World} (e : Emb E own h w) {t : TypeId} {len cap y : SV} {l c : Value} (hl : R E len l) (hc : R E cap c)
    (hy : vmakeSlice cfg h t len cap = some (y, h')) :
    ∃ v E' own' w', (Instr.makeSlice t l c).run P w = .ok v w' ∧ Emb E' own' h' w' ∧ Tran E own h w E' own' h' w' ∧ R E' y v := by
  unfold vmakeSlice at hy
  split at hy
  · rename_i elem l0 c0 hu hl0 hc0
    obtain ⟨k1, rfl⟩ := svInt_ok hl0 hl
    obtain ⟨k2, rfl⟩ := svInt_ok hc0 hc
    split at hy
    · rename_i ie hie
      split at hy
      · rename_i hcond
        obtain ⟨g1, g2, g3, g4⟩ := hcond
        cases hy
        have hz := cfg.run_zero hie w
        obtain ⟨info, hb1, hb2⟩ := cfg.run_bytes hie w
        obtain ⟨E', own', e', tr, hn⟩ := new_cells e (RL.scs E (zeroRow ie.zero.cells.toList (c0.toNat * ie.size))) elem [] false (fun _ => rfl) w rfl rfl rfl rfl
        refine ⟨.slice (some ⟨w.heap.size, 0, none⟩) l0.toNat c0.toNat, E', own', _, ?_, e', tr, ?_⟩
        · have w1 := wrap_small g1 (by omega)
          have w2 := wrap_small (n := c0) (by omega) (by omega)
          have hbc : ((ie.bytes : Int) * c0) ≤ 2 ^ 42 := by
            have : (ie.bytes : Int) * c0 ≤ (2 ^ 12 : Int) * 2 ^ 30 := Int.mul_le_mul (by omega) g3 (by omega) (by omega)
            omega
          have n1 : ¬ c0 < 0 := by omega
          have n2 : ¬ (281474976710656 < (ie.bytes : Int) * c0) := by omega
          have n3 : ¬ l0 < 0 := by omega
          have n4 : ¬ c0 < l0 := by omega
          by_cases h0 : c0.toNat * ie.size = 0
          · have hr0 : (Array.map (fun (_ : Nat) => (default : Value)) (Array.range 0)) = #[] := by simp [Array.range]
            simp [Instr.makeSlice, run_und (cfg.hU hu), asInt, asIntOf, hb1, hb2, w1, w2, n1, n2, n3, n4, cfg.run_size hie, h0, zeroRow, newRow, hr0]
          · have hcells : (Array.map (fun x => ie.zero.cells[x % ie.zero.cells.size]!) (Array.range (c0.toNat * ie.size))) = (zeroRow ie.zero.cells.toList (c0.toNat * ie.size)).toArray := by
              apply Array.ext'; rw [zeroRow_eq]
            simp [Instr.makeSlice, run_und (cfg.hU hu), asInt, asIntOf, hb1, hb2, w1, w2, n1, n2, n3, n4, cfg.run_size hie, h0, hz, newRow, hcells]
        · have := R.sl (E := E') (n := h.next) (off := 0) (len := l0.toNat) (esz := ie.size) (cmin := c0.toNat) (exact := true) (c := c0.toNat) hn ⟨by omega, Nat.le_refl _⟩ (by simp [zeroRow_length]) (fun _ => rfl)
          simpa using this
      · cases hy
    · cases hy
  · cases hy

/-! ### cells that are read off a slice or a string, to be appended or copied -/
def strS (s : ByteArray) : List SV := s.data.toList.map fun b => .sc (.int .u8 b.toNat)

/-- The cells of the first k elements. -/
def readS (h : CHeap X) (esz k : Nat) : SV → Option (List SV)
  | .sl n off len es _ _ => match h.get n with
    | some (.cells known _ _) => if es = esz ∧ k ≤ len ∧ off + k * esz ≤ known.length then some ((known.drop off).take (k * esz)) else none
    | _ => none
  | .esl _ _ => if k = 0 then some [] else none
  | .sc (.slice none _ _) => if k = 0 then some [] else none
  | .sc (.string s) => if k = s.size then some (strS s) else none
  | _ => none

def lenS : SV → Option Nat
  | .sl _ _ len _ _ _ => some len
  | .esl _ _ => some 0
  | .sc (.slice none n _) => some n
  | .sc (.string s) => some s.size
  | _ => none

theorem lenS_ok {E : Env} {x : SV} {v : Value} {n : Nat} (hr : R E x v) (h : lenS x = some n) (w : World) : (Builtin.lenOf v).run P w = .ok n w := by
  cases hr with
  | sc v =>
    cases v with
    | slice a l c => cases a <;> simp [lenS] at h; subst h; simp [Builtin.lenOf]
    | string s => simp [lenS] at h; subst h; simp [Builtin.lenOf]
    | _ => simp [lenS] at h
  | sl hn h1 h2 h3 => simp [lenS] at h; subst h; simp [Builtin.lenOf]
  | esl hn h2 => simp [lenS] at h; subst h; simp [Builtin.lenOf]
  | _ => simp [lenS] at h

theorem strS_ok (E : Env) (s : ByteArray) : RL E (strS s) (strCells s) := by
  have := RL.scs E (strCells s)
  simpa [strS, strCells, List.map_map, Function.comp_def] using this

theorem readS_ok {E : Env} {own : Own} {h : CHeap X} {w : World} (e : Emb E own h w) {esz k : Nat} {x : SV} {v : Value} {l : List SV} (hr : R E x v) (hy : readS h esz k x = some l) :
    ∃ l', (∀ w1 : World, w1.heap = w.heap → (Builtin.firstCells esz k v).run P w1 = .ok l'.toArray w1) ∧ RL E l l' := by
  cases hr with
  | sc v =>
    cases v with
    | slice a l c =>
      cases a <;> simp [readS] at hy
      obtain ⟨rfl, rfl⟩ := hy
      exact ⟨[], by simp [Builtin.firstCells], .nil⟩
    | string s =>
      simp only [readS] at hy
      split at hy
      · rename_i hk
        cases hy
        subst hk
        exact ⟨strCells s, fun w1 _ => run_firstCells_string w1 esz s, strS_ok E s⟩
      · cases hy
    | _ => simp [readS] at hy
  | @sl n off len es cmin ex nb c hn h1 h2 h3 =>
    simp only [readS] at hy
    split at hy
    · rename_i known opn t hc
      split at hy
      · rename_i hcond
        cases hy
        obtain ⟨nb', vs, g1, g2, g3, g4⟩ := load_cells1 (P := P) e hc hcond.2.2
        rw [hn] at g1; cases g1
        exact ⟨vs, by simpa [Builtin.firstCells] using g4, g2⟩
      · cases hy
    · cases hy
  | esl hn h2 =>
    simp only [readS] at hy
    split at hy
    · rename_i hk
      cases hy; subst hk
      exact ⟨[], by simp [Builtin.firstCells, loadCells, loadCellsFrom], .nil⟩
    · cases hy
  | _ => simp [readS] at hy

/-! ### append -/
def newsS (cfg : Cfg P) (h : CHeap X) (u : TypeId) (ie : TI) (x : SV) : Option (Nat × List SV) :=
  match cfg.U u with
  | some (.int _) => (match svInt x with
    | some l => if 0 ≤ l ∧ l ≤ 2 ^ 30 then some (l.toNat, (zeroRow ie.zero.cells.toList (l.toNat * ie.size)).map .sc) else none
    | none => none)
  | some (.slice _) => (match lenS x with
    | some n => (match readS h ie.size n x with | some l => some (n, l) | none => none)
    | none => none)
  | some .string => (match lenS x with
    | some n => (match readS h ie.size n x with | some l => some (n, l) | none => none)
    | none => none)
  | _ => none

def vappend (cfg : Cfg P) (h : CHeap X) (t u : TypeId) (s x : SV) : Option (SV × CHeap X) :=
  match cfg.U t with
  | some (.slice elem) => (match cfg.I elem with
    | some ie => (match newsS cfg h u ie x with
      | some (n, news) => if news.length = n * ie.size ∧ news.all SV.atom = true ∧ ie.bytes ≤ 2 ^ 12 then
        (match s with
        | .sc (.slice none 0 0) => if n = 0 then some (s, h) else if n ≤ 2 ^ 30 then some (.sl h.next 0 n ie.size n false, h.push (.cells news true elem)) else none
        | .sl m off len esz cmin exact => (match h.get m with
          | some (.cells known opn ty) => if esz = ie.size ∧ off + len * esz ≤ known.length ∧ len + n ≤ 2 ^ 30 then
              (if n = 0 then some (s, h)
               else if len + n ≤ cmin then
                (if off + (len + n) * esz ≤ known.length then some (.sl m off (len + n) esz cmin exact, h.set m (.cells (laid known (off + len * esz) news) opn ty)) else none)
               else if exact then some (.sl h.next 0 (len + n) esz (len + n) false, h.push (.cells ((known.drop off).take (len * esz) ++ news) true elem))
               else if ty = elem then some (.sl h.next 0 (len + n) esz (len + n) false, (h.kill m).push (.cells ((known.drop off).take (len * esz) ++ news) true elem)) else none)
              else none
          | _ => none)
        | .esl m esz => (match h.get m with
          | some (.cells _ _ ty) => if esz = ie.size ∧ ty = elem ∧ n ≤ 2 ^ 30 then
              (if n = 0 then some (s, h) else some (.sl h.next 0 n esz n false, (h.kill m).push (.cells news true elem))) else none
          | _ => none)
        | _ => none) else none
      | none => none)
    | none => none)
  | _ => none

theorem growBy_le (n : Nat) : ∀ (r c : Nat), c < n → Builtin.growBy n r c ≤ 2 * n + 256
  | 0, c, h => by simp [Builtin.growBy]; omega
  | r + 1, c, h => by
    simp only [Builtin.growBy]
    split
    · omega
    · by_cases hc : c + (c + 768) / 4 < n
      · exact growBy_le n r _ hc
      · cases r with
        | zero => simp [Builtin.growBy]; omega
        | succ r => simp only [Builtin.growBy]; rw [if_pos (by omega)]; omega

theorem nextcap_le {n c : Nat} (h : c < n) : Builtin.nextslicecap n c ≤ 2 * n + 256 := by
  unfold Builtin.nextslicecap
  split
  · omega
  · split
    · omega
    · exact growBy_le n 4 c h

theorem ChunkOK.heap {E : Env} {own : Own} {w w' : World} {n : Nat} {nb : Nb} {c : Chunk X} (hw : w'.heap = w.heap) (h : ChunkOK E own w n nb c) : ChunkOK E own w' n nb c :=
  h.world (fun _ h => h) (fun _ _ => by rw [hw])
theorem Emb.heap {E : Env} {own : Own} {h : CHeap X} {w w' : World} (e : Emb E own h w) (hw : w'.heap = w.heap) : Emb E own h w' :=
  ⟨fun n c hc => let ⟨nb, h1, h2⟩ := e.ch n c hc; ⟨nb, h1, h2.heap hw⟩, e.lt, e.fresh, by rw [hw]; exact e.own_lt⟩

section
variable {w : World} {t u elem : TypeId} {ie : TI} {d : TypeDesc} {base : Option Addr} {sLen sCap n : Nat} {x : Value} {news olds : List Value} (ty : TypeId)

/-- The model's append, where there is room. -/
theorem append_room (cfg : Cfg P) (hu : cfg.U t = some (.slice elem)) (hie : cfg.I elem = some ie) (hd : P.underlying u = some d)
    (hz : (∃ e, d = .slice e) ∨ d = .string)
    (hlen : (Builtin.lenOf x).run P w = .ok n w) (hnews : (Builtin.firstCells ie.size n x).run P w = .ok news.toArray w) (hroom : sLen + n ≤ sCap) :
    (Builtin.append_ #[t, u] ty #[.slice base sLen sCap, x]).run P w =
      match base with
      | some a => ((storeCells (a.add (sLen * ie.size)) news).run P w).andThen fun _ w' => .ok (.slice base (sLen + n) sCap) w'
      | none => .ok (.slice none (sLen + n) sCap) w := by
  rcases hz with ⟨_, rfl⟩ | rfl <;> cases base <;> simp [Builtin.append_, run_und (cfg.hU hu), cfg.run_size hie, run_und hd, hlen, hnews, hroom]

theorem append_room_zeros (cfg : Cfg P) (hu : cfg.U t = some (.slice elem)) (hie : cfg.I elem = some ie) {k : IntKind} (hd : P.underlying u = some (.int k)) {j : IntKind} {l : Int}
    (h0 : 0 ≤ l) (h1 : l ≤ 2 ^ 30) (hb : ie.bytes ≤ 2 ^ 12) (hroom : sLen + l.toNat ≤ sCap) :
    (Builtin.append_ #[t, u] ty #[.slice base sLen sCap, .int j l]).run P w =
      match base with
      | some a => ((storeCells (a.add (sLen * ie.size)) (zeroRow ie.zero.cells.toList (l.toNat * ie.size))).run P w).andThen fun _ w' => .ok (.slice base (sLen + l.toNat) sCap) w'
      | none => .ok (.slice none (sLen + l.toNat) sCap) w := by
  have hw := wrap_small h0 (by omega)
  obtain ⟨info, hb1, hb2⟩ := cfg.run_bytes hie w
  have hz := cfg.run_zero hie w
  have hzs := cfg.zsize hie
  have n1 : ¬ l < 0 := by omega
  have n2 : ¬ 281474976710656 < l * (ie.bytes : Int) := by
    have : l * (ie.bytes : Int) ≤ (2 ^ 30 : Int) * 2 ^ 12 := Int.mul_le_mul h1 (by omega) (by omega) (by omega)
    omega
  by_cases hn0 : l.toNat * ie.size = 0
  · cases base with
    | none => simp [Builtin.append_, run_und (cfg.hU hu), cfg.run_size hie, run_und hd, asInt, asIntOf, hw, n1, n2, hb1, hb2, hroom, hn0]
    | some a => simp [Builtin.append_, run_und (cfg.hU hu), cfg.run_size hie, run_und hd, asInt, asIntOf, hw, n1, n2, hb1, hb2, hroom, hn0, zeroRow]
  · have hzc : (Builtin.zeroCells ie.zero.cells l.toNat).toList = zeroRow ie.zero.cells.toList (l.toNat * ie.size) := by
      rw [Builtin.zeroCells, hzs, ← zeroRow_eq]; simp [hzs]
    cases base with
    | none => simp [Builtin.append_, run_und (cfg.hU hu), cfg.run_size hie, run_und hd, asInt, asIntOf, hw, n1, n2, hb1, hb2, hroom, hn0, hz]
    | some a => simp [Builtin.append_, run_und (cfg.hU hu), cfg.run_size hie, run_und hd, asInt, asIntOf, hw, n1, n2, hb1, hb2, hroom, hn0, hz, hzc]

theorem zeroCells_len (z : Array Value) (k : Nat) : (Builtin.zeroCells z k).toList.length = k * z.size := by simp [Builtin.zeroCells]

/-- .. where there is none. -/
theorem append_grow (cfg : Cfg P) (hu : cfg.U t = some (.slice elem)) (hie : cfg.I elem = some ie) (hd : P.underlying u = some d)
    (hz : (∃ e, d = .slice e) ∨ d = .string)
    (hlen : (Builtin.lenOf x).run P w = .ok n w) (hnews : (Builtin.firstCells ie.size n x).run P w.drew = .ok news.toArray w.drew)
    (holds : (Builtin.firstCells ie.size sLen (.slice base sLen sCap)).run P w.drew = .ok olds.toArray w.drew) (hb : ie.bytes ≤ 2 ^ 12) (hneed : sLen + n ≤ 2 ^ 30) (hg : sCap < sLen + n) :
    ∃ (c : Nat) (rest : List Value), sLen + n ≤ c ∧ rest.length = (c - (sLen + n)) * ie.size ∧ (Builtin.append_ #[t, u] ty #[.slice base sLen sCap, x]).run P w =
      .ok (.slice (some ⟨w.heap.size, 0, none⟩) (sLen + n) c) (w.drew.alloc (.cells ((olds ++ news) ++ rest).toArray elem)) := by
  obtain ⟨info, hb1, hb2⟩ := cfg.run_bytes hie w
  obtain ⟨info', hb1', hb2'⟩ := cfg.run_bytes hie w.drew
  have hzr := cfg.run_zero hie w.drew
  have hzs := cfg.zsize hie
  have n0 : ¬ sLen + n ≤ sCap := by omega
  have n1' : ¬ ((9223372036854775807 : Int) < (sLen : Int) + (n : Int)) := by omega
  have n2 : ¬ (281474976710656 < Builtin.nextslicecap (sLen + n) sCap * ie.bytes) := by
    have h1 := nextcap_le hg
    have : Builtin.nextslicecap (sLen + n) sCap * ie.bytes ≤ (2 * 2 ^ 30 + 256) * 2 ^ 12 := Nat.mul_le_mul (by omega) hb
    omega
  obtain ⟨c, hc⟩ : ∃ c, (Question.appendCap (sLen + n) sCap elem).cut (w.tape w.drawn (.appendCap (sLen + n) sCap elem)) = c := ⟨_, rfl⟩
  obtain ⟨zl, hzl⟩ : ∃ zl : List Value, Builtin.zeroCells ie.zero.cells (c - (sLen + n)) = zl.toArray := ⟨_, Array.toArray_toList.symm⟩
  refine ⟨c, zl, ?_, ?_, ?_⟩
  · rw [← hc]; simp [Question.cut]
  · have := zeroCells_len ie.zero.cells (c - (sLen + n)); rw [hzl, hzs] at this; exact this
  · rcases hz with ⟨_, rfl⟩ | rfl <;>
      simp [Builtin.append_, run_und (cfg.hU hu), cfg.run_size hie, run_und hd, hlen, n0, n1', hb1, hb2, hb1', n2, Question.forced, hnews, holds, hzr, newRow, hc, hzl]

theorem append_grow_zeros (cfg : Cfg P) (hu : cfg.U t = some (.slice elem)) (hie : cfg.I elem = some ie) {k : IntKind} (hd : P.underlying u = some (.int k)) {j : IntKind} {l : Int}
    (h0 : 0 ≤ l) (holds : (Builtin.firstCells ie.size sLen (.slice base sLen sCap)).run P w.drew = .ok olds.toArray w.drew) (hb : ie.bytes ≤ 2 ^ 12) (hneed : sLen + l.toNat ≤ 2 ^ 30) (hg : sCap < sLen + l.toNat) :
    ∃ (c : Nat) (rest : List Value), sLen + l.toNat ≤ c ∧ rest.length = (c - (sLen + l.toNat)) * ie.size ∧ (Builtin.append_ #[t, u] ty #[.slice base sLen sCap, .int j l]).run P w =
      .ok (.slice (some ⟨w.heap.size, 0, none⟩) (sLen + l.toNat) c) (w.drew.alloc (.cells ((olds ++ zeroRow ie.zero.cells.toList (l.toNat * ie.size)) ++ rest).toArray elem)) := by
  have hw := wrap_small h0 (by omega)
  obtain ⟨info, hb1, hb2⟩ := cfg.run_bytes hie w
  obtain ⟨info', hb1', hb2'⟩ := cfg.run_bytes hie w.drew
  have hzr := cfg.run_zero hie w.drew
  have hzs := cfg.zsize hie
  have m1 : ¬ l < 0 := by omega
  have m2 : ¬ 281474976710656 < l * (ie.bytes : Int) := by
    have : l * (ie.bytes : Int) ≤ (2 ^ 30 : Int) * 2 ^ 12 := Int.mul_le_mul (by omega) (by omega) (by omega) (by omega)
    omega
  have n0 : ¬ sLen + l.toNat ≤ sCap := by omega
  have n1' : ¬ ((9223372036854775807 : Int) < (sLen : Int) + max l 0) := by omega
  have n2 : ¬ (281474976710656 < Builtin.nextslicecap (sLen + l.toNat) sCap * ie.bytes) := by
    have h1 := nextcap_le hg
    have : Builtin.nextslicecap (sLen + l.toNat) sCap * ie.bytes ≤ (2 * 2 ^ 30 + 256) * 2 ^ 12 := Nat.mul_le_mul (by omega) hb
    omega
  obtain ⟨c, hc⟩ : ∃ c, (Question.appendCap (sLen + l.toNat) sCap elem).cut (w.tape w.drawn (.appendCap (sLen + l.toNat) sCap elem)) = c := ⟨_, rfl⟩
  obtain ⟨zl, hzl⟩ : ∃ zl : List Value, Builtin.zeroCells ie.zero.cells (c - (sLen + l.toNat)) = zl.toArray := ⟨_, Array.toArray_toList.symm⟩
  refine ⟨c, zl, ?_, ?_, ?_⟩
  · rw [← hc]; simp [Question.cut]
  · have := zeroCells_len ie.zero.cells (c - (sLen + l.toNat)); rw [hzl, hzs] at this; exact this
  · by_cases hn0 : l.toNat * ie.size = 0
    · simp [Builtin.append_, run_und (cfg.hU hu), cfg.run_size hie, run_und hd, asInt, asIntOf, hw, m1, m2, n0, n1', hb1, hb2, hb1', n2, Question.forced, holds, hzr, newRow, hc, hzl, hn0, zeroRow]
    · have hzc : Builtin.zeroCells ie.zero.cells l.toNat = (zeroRow ie.zero.cells.toList (l.toNat * ie.size)).toArray := by
        apply Array.ext'; rw [Builtin.zeroCells, hzs, ← zeroRow_eq]; simp [hzs]
      simp [Builtin.append_, run_und (cfg.hU hu), cfg.run_size hie, run_und hd, asInt, asIntOf, hw, m1, m2, n0, n1', hb1, hb2, hb1', n2, Question.forced, holds, hzr, newRow, hc, hzl, hn0, hzc]
end
end Cam

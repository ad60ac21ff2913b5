/- Cam, part F: slices cut, made, appended to, copied; bytes and strings. -/
import Derived.Test.YtiagdfbhagiigaaGreatCamE
import Derived.Laws.BytesString
import Derived.Lib.AppendStr
namespace Cam
open Go
variable {X : Type} [AbsRep X] {P : Program}

/-! ### cutting -/
inductive RO (E : Env) : Option SV → Option Value → Prop
  | none : RO E none none
  | some {x : SV} {v : Value} (h : R E x v) : RO E (some x) (some v)

def optNat : Option SV → Option (Option Nat)
  | none => some none
  | some x => match svInt x with
    | some i => if 0 ≤ i then some (some i.toNat) else none
    | none => none

def sbounds (len cap : Nat) (lo hi mx : Option Nat) : Option (Nat × Nat × Nat) :=
  match mx with
  | some m => (match hi with
    | some h => if m ≤ cap ∧ h ≤ m ∧ lo.getD 0 ≤ h then some (lo.getD 0, h, m) else none
    | none => none)
  | none => if hi.getD len ≤ cap ∧ lo.getD 0 ≤ hi.getD len then some (lo.getD 0, hi.getD len, cap) else none

theorem sbound_ok {E : Env} {x : SV} {v : Value} {k : Nat} (hr : R E x v) (h : optNat (some x) = some (some k)) (y : Nat) (code : BoundsCode) (hk : k ≤ y) (w : World) :
    (Instr.sliceBound v y code).run P w = .ok k w := by
  simp only [optNat] at h
  split at h
  · rename_i i hi
    split at h
    · rename_i h0
      cases h
      obtain ⟨q, rfl⟩ := svInt_ok hi hr
      have : 0 ≤ i ∧ i ≤ (y : Int) := ⟨h0, by omega⟩
      simp [Instr.sliceBound, asIntOf, this]
    · cases h
  · cases h

theorem sbounds_ok {E : Env} {b : Bool} {len cap : Nat} {lo hi mx : Option SV} {lo' hi' mx' : Option Value} {l h m : Option Nat} {r : Nat × Nat × Nat}
    (hlo : RO E lo lo') (hhi : RO E hi hi') (hmx : RO E mx mx') (el : optNat lo = some l) (eh : optNat hi = some h) (em : optNat mx = some m)
    (hs : sbounds len cap l h m = some r) (w : World) : (Instr.sliceBounds b len cap lo' hi' mx').run P w = .ok r w := by
  cases hmx with
  | none =>
    simp [optNat] at em
    subst em
    simp only [sbounds] at hs
    split at hs
    · rename_i hc
      cases hs
      cases hhi with
      | none =>
        simp [optNat] at eh; subst eh
        cases hlo with
        | none => simp [optNat] at el; subst el; simp [Instr.sliceBounds]
        | some hx =>
          obtain ⟨k, rfl⟩ : ∃ k, l = some k := by
            simp only [optNat] at el; split at el <;> (try split at el) <;> cases el; exact ⟨_, rfl⟩
          have := sbound_ok (P := P) hx el len .sliceB (by simpa using hc.2) w
          simp [Instr.sliceBounds, this]
      | some hx =>
        obtain ⟨k, rfl⟩ : ∃ k, h = some k := by
          simp only [optNat] at eh; split at eh <;> (try split at eh) <;> cases eh; exact ⟨_, rfl⟩
        have h1 := sbound_ok (P := P) hx eh cap (if b then .sliceAcap else .sliceAlen) (by simpa using hc.1) w
        cases hlo with
        | none => simp [optNat] at el; subst el; simp [Instr.sliceBounds, h1]
        | some hy =>
          obtain ⟨k2, rfl⟩ : ∃ k, l = some k := by
            simp only [optNat] at el; split at el <;> (try split at el) <;> cases el; exact ⟨_, rfl⟩
          have h2 := sbound_ok (P := P) hy el k .sliceB (by simpa using hc.2) w
          simp [Instr.sliceBounds, h1, h2]
    · cases hs
  | some hz =>
    obtain ⟨km, rfl⟩ : ∃ k, m = some k := by
      simp only [optNat] at em; split at em <;> (try split at em) <;> cases em; exact ⟨_, rfl⟩
    simp only [sbounds] at hs
    split at hs
    · rename_i kh
      split at hs
      · rename_i hc
        cases hs
        have h0 := sbound_ok (P := P) hz em cap (if b then .slice3Acap else .slice3Alen) hc.1 w
        cases hhi with
        | none => simp [optNat] at eh
        | some hx =>
          have h1 := sbound_ok (P := P) hx eh km .slice3B hc.2.1 w
          cases hlo with
          | none => simp [optNat] at el; subst el; simp [Instr.sliceBounds, h0, h1]
          | some hy =>
            obtain ⟨k2, rfl⟩ : ∃ k, l = some k := by
              simp only [optNat] at el; split at el <;> (try split at el) <;> cases el; exact ⟨_, rfl⟩
            have h2 := sbound_ok (P := P) hy el kh .slice3C (by simpa using hc.2.2) w
            simp [Instr.sliceBounds, h0, h1, h2]
      · cases hs
    · cases hs

theorem sbounds_wider {len cap cap' : Nat} {lo hi : Option Nat} {l h m : Nat} (hc : cap ≤ cap') (hs : sbounds len cap lo hi none = some (l, h, m)) :
    m = cap ∧ l ≤ h ∧ h ≤ cap ∧ sbounds len cap' lo hi none = some (l, h, cap') := by
  simp only [sbounds] at hs ⊢
  split at hs
  · rename_i hcond
    cases hs
    exact ⟨rfl, hcond.2, hcond.1, by rw [if_pos ⟨by omega, hcond.2⟩]⟩
  · cases hs

def vslice (cfg : Cfg P) (h : CHeap X) (t : TypeId) (x : SV) (lo hi mx : Option SV) : Option SV :=
  match optNat lo, optNat hi, optNat mx with
  | some l, some r, some m =>
    (match cfg.U t, x with
    | some (.array len elem), .ptr n off => (match cfg.I elem, h.get n, sbounds len len l r m with
      | some ie, some (.cells known _ _), some (l, r, m) => if off + len * ie.size ≤ known.length ∧ m ≤ len then some (.sl n (if m = l then off else off + l * ie.size) (r - l) ie.size (m - l) true) else none
      | _, _, _ => none)
    | some (.slice elem), .sl n off len esz cmin exact => (match cfg.I elem, sbounds len cmin l r m with
      | some ie, some (l, r, m') => if ie.size = esz then
          (if exact = true ∨ m.isSome = true then some (.sl n (if m' = l then off else off + l * esz) (r - l) esz (m' - l) true)
           else if l < cmin then some (.sl n (off + l * esz) (r - l) esz (cmin - l) false)
           else if l = 0 then some (.sl n off 0 esz 0 false) else some (.esl n esz))
          else none
      | _, _ => none)
    | some (.slice elem), .esl n esz => (match cfg.I elem, sbounds 0 0 l r m with
      | some ie, some (0, 0, 0) => if ie.size = esz ∧ m = none then some (.esl n esz) else none
      | _, _ => none)
    | some (.slice elem), .sc (.slice none 0 0) => (match cfg.I elem, sbounds 0 0 l r m with
      | some _, some (0, 0, 0) => some (.sc (.slice none 0 0))
      | _, _ => none)
    | some .string, .sc (.string s) => (match m, sbounds s.size s.size l r none with
      | none, some (l, r, _) => some (.sc (.string (s.extract l r)))
      | _, _ => none)
    | _, _ => none)
  | _, _, _ => none

theorem add_if (b o k : Nat) (c : Prop) [Decidable c] : (if c then (⟨b, o, none⟩ : Addr) else (⟨b, o, none⟩ : Addr).add k) = ⟨b, if c then o else o + k, none⟩ := by
  split <;> simp [addr_add]

theorem vslice_ok (cfg : Cfg P) {E : Env} {own : Own} {h : CHeap X} {w : World} (e : Emb E own h w) {t : TypeId} {x y : SV} {lo hi mx : Option SV} {v : Value} {lo' hi' mx' : Option Value}
    (hx : R E x v) (hlo : RO E lo lo') (hhi : RO E hi hi') (hmx : RO E mx mx') (hy : vslice cfg h t x lo hi mx = some y) :
    ∃ u, (Instr.sliceAt t v lo' hi' mx').run P w = .ok u w ∧ R E y u := by
  unfold vslice at hy
  split at hy
  · rename_i l r m el er em
    split at hy
    · -- an array behind a pointer
      rename_i len elem n off hu
      split at hy
      · rename_i ie known opn ty l1 r1 m1 hie hg hs
        split at hy
        · rename_i hc
          cases hy
          cases hx with
          | @ptr _ _ nb hn =>
            obtain ⟨nb', hn', hown, pre, vs, post, cs, fz, k1, k2, k3, k4, k5, k6, k7⟩ := e.ch n _ hg
            rw [hn] at hn'; cases hn'
            have hb := sbounds_ok (P := P) (b := false) hlo hhi hmx el er em hs w
            have hkl := k4.length
            have hlm : l1 ≤ r1 ∧ r1 ≤ m1 := by
              unfold sbounds at hs
              split at hs
              · split at hs
                · split at hs
                  · rename_i hh; cases hs; exact ⟨hh.2.2, hh.2.1⟩
                  · cases hs
                · cases hs
              · split at hs
                · rename_i hh; cases hs; exact ⟨hh.2, hh.1⟩
                · cases hs
            refine ⟨.slice (some ⟨nb.block, nb.base + (if m1 = l1 then off else off + l1 * ie.size), none⟩) (r1 - l1) (m1 - l1), ?_, .sl hn ⟨by omega, Nat.le_refl _⟩ ?_ (fun _ => rfl)⟩
            · simp [Instr.sliceAt, run_und (cfg.hU hu), Instr.sureAddr, hb, cfg.run_size hie, add_if]
              split <;> simp [Nat.add_assoc]
            · have h1 : m1 * ie.size ≤ len * ie.size := Nat.mul_le_mul_right _ hc.2
              have h2 : (m1 - l1) * ie.size + l1 * ie.size = m1 * ie.size := by rw [← Nat.add_mul]; congr 1; omega
              split <;> omega
        · cases hy
      · cases hy
    · -- a slice
      rename_i elem n off len esz cmin exact hu
      split at hy
      · rename_i ie l1 r1 m1 hie hs
        split at hy
        · rename_i hes
          subst hes
          cases hx with
          | @sl _ _ _ _ _ _ nb c hn hle hfit hex =>
            have hrun : ∀ (l1 r1 m1 : Nat), sbounds len c l r m = some (l1, r1, m1) → (Instr.sliceAt t (.slice (some ⟨nb.block, nb.base + off, none⟩) len c) lo' hi' mx').run P w =
                .ok (.slice (some ⟨nb.block, if m1 = l1 then nb.base + off else nb.base + off + l1 * ie.size, none⟩) (r1 - l1) (m1 - l1)) w := by
              intro l1 r1 m1 hs'
              have hb := sbounds_ok (P := P) (b := true) hlo hhi hmx el er em hs' w
              simp [Instr.sliceAt, Instr.slice, run_und (cfg.hU hu), hb, cfg.run_size hie]
              split <;> simp [addr_add]
            have hlm : l1 ≤ r1 ∧ r1 ≤ m1 ∧ m1 ≤ cmin := by
              unfold sbounds at hs
              split at hs
              · split at hs
                · split at hs
                  · rename_i hh; cases hs; exact ⟨hh.2.2, hh.2.1, hh.1⟩
                  · cases hs
                · cases hs
              · split at hs
                · rename_i hh; cases hs; exact ⟨hh.2, hh.1, Nat.le_refl _⟩
                · cases hs
            have hmul : (m1 - l1) * ie.size + l1 * ie.size = m1 * ie.size := by rw [← Nat.add_mul]; congr 1; omega
            have hmc : m1 * ie.size ≤ c * ie.size := Nat.mul_le_mul_right _ (by omega)
            split at hy
            · rename_i hcase
              cases hy
              have hs' : sbounds len c l r m = some (l1, r1, m1) := by
                rcases hcase with hcase | hcase
                · rw [hex hcase]; exact hs
                · cases m with
                  | none => cases hcase
                  | some mm =>
                    simp only [sbounds] at hs ⊢
                    split at hs
                    · split at hs
                      · rename_i hh; rw [if_pos ⟨by omega, hh.2⟩]; exact hs
                      · cases hs
                    · cases hs
              refine ⟨_, hrun _ _ _ hs', ?_⟩
              have : (if m1 = l1 then nb.base + off else nb.base + off + l1 * ie.size) = nb.base + (if m1 = l1 then off else off + l1 * ie.size) := by split <;> omega
              rw [this]
              refine .sl hn ⟨by omega, Nat.le_refl _⟩ ?_ (fun _ => rfl)
              split <;> omega
            · rename_i hcase
              have hm : m = none := by cases m <;> simp at hcase ⊢
              subst hm
              obtain ⟨q1, q2, q3, q4⟩ := sbounds_wider hle.2 hs
              subst q1
              have hcl : (c - l1) * ie.size + l1 * ie.size = c * ie.size := by rw [← Nat.add_mul]; congr 1; omega
              split at hy
              · rename_i hlt
                cases hy
                refine ⟨_, hrun _ _ _ q4, ?_⟩
                rw [if_neg (by omega), Nat.add_assoc]
                exact .sl hn ⟨by omega, by omega⟩ (by omega) (fun h => by cases h)
              · rename_i hlt
                have hl1 : l1 = m1 := by omega
                have hr1 : r1 = l1 := by omega
                split at hy
                · rename_i hl0
                  cases hy
                  refine ⟨_, hrun _ _ _ q4, ?_⟩
                  have : (if c = l1 then nb.base + off else nb.base + off + l1 * ie.size) = nb.base + off := by rw [hl0]; simp
                  rw [this, hr1, hl0]
                  exact .sl hn ⟨by omega, by omega⟩ (by simpa using hfit) (fun h => by cases h)
                · cases hy
                  refine ⟨_, hrun _ _ _ q4, ?_⟩
                  have : (if c = l1 then nb.base + off else nb.base + off + l1 * ie.size) = nb.base + (if c = l1 then off else off + l1 * ie.size) := by split <;> omega
                  rw [this, hr1, Nat.sub_self]
                  refine .esl hn ?_
                  split <;> omega
        · cases hy
      · cases hy
    · -- an empty one somewhere
      rename_i elem n esz hu
      split at hy
      · rename_i ie hie hs
        split at hy
        · rename_i hc
          obtain ⟨hes, rfl⟩ := hc
          subst hes
          cases hy
          cases hx with
          | @esl _ _ nb o c hn hfit =>
            obtain ⟨q1, q2, q3, q4⟩ := sbounds_wider (Nat.zero_le c) hs
            have hb := sbounds_ok (P := P) (b := true) hlo hhi hmx el er em q4 w
            refine ⟨.slice (some ⟨nb.block, nb.base + o, none⟩) 0 c, ?_, .esl hn hfit⟩
            simp [Instr.sliceAt, Instr.slice, run_und (cfg.hU hu), hb, cfg.run_size hie, addr_add]
        · cases hy
      · cases hy
    · -- a nil one
      rename_i elem hu
      split at hy
      · rename_i ie hie hs
        cases hy
        cases hx
        have hb := sbounds_ok (P := P) (b := true) hlo hhi hmx el er em hs w
        exact ⟨.slice none 0 0, by simp [Instr.sliceAt, Instr.slice, run_und (cfg.hU hu), hb, cfg.run_size hie], .sc _⟩
      · cases hy
    · -- a string
      rename_i s hu
      split at hy
      · rename_i l1 r1 m1 hs
        cases hy
        cases hx
        cases hmx with
        | some hz => simp only [optNat] at em; split at em <;> (try split at em) <;> cases em
        | none =>
          have hb := sbounds_ok (P := P) (b := false) hlo hhi .none el er (by rfl) hs w
          exact ⟨.string (s.extract l1 r1), by simp [Instr.sliceAt, Instr.slice, run_und (cfg.hU hu), hb], .sc _⟩
      · cases hy
    · cases hy
  · cases hy
end Cam

/- Cam, part D: the operations that give a value: what they do to names and chunks, and that the model does the same. -/
import Derived.Test.YtiagdfbhagiigaaGreatCamC
namespace Cam
open Go

def isRow : TypeDesc → Bool
  | .struct _ => true
  | .array _ _ => true
  | _ => false

structure CFn where
  body : Code
  ntmps : Nat
  results : Array ResultVar

/-- What is known of a program: types and functions, out of tables. -/
structure Cfg (P : Program) where
  U : TypeId → Option TypeDesc
  hU : ∀ {t d}, U t = some d → P.underlying t = some d
  I : TypeId → Option TI
  hI : ∀ {t i}, I t = some i → ∃ info d, P.info? t = some info ∧ info.zero = some i.zero ∧ info.size = i.size ∧ info.bytes = i.bytes ∧ P.underlying t = some d ∧ isRow d = i.row ∧ i.zero.cells.size = i.size
  C : FuncId → Option CFn
  hC : ∀ {f c}, C f = some c → ∃ fn, P.funcs[f]? = some fn ∧ fn.body = some c.body ∧ fn.ntmps = c.ntmps ∧ fn.results = c.results ∧ ∀ args w, (callFunc f args).run P w = .ok (.enter f args) w
  mixed : P.follows .mixedOrders = true
  /-- Methods that pointers have themselves. -/
  M : TypeId → String → Option FuncId
  hM : ∀ {t name f}, M t name = some f → ∀ v w, (method (P.types.size + Made.depth) t v name).run P w = .ok (f, v) w
  /-- 'maps.clone', which has no body. -/
  K : FuncId → Bool
  hK : ∀ {f}, K f = true → ∀ args w, (callFunc f args).run P w = ((fun v => Next.value v) <$> Extern.MapsClone.clone args).run P w

variable {X : Type} [AbsRep X] {P : Program}

theorem run_und {t : TypeId} {d : TypeDesc} (h : P.underlying t = some d) (w : World) : (underlying t).run P w = .ok d w := by
  simp [underlying, h]
theorem run_info {t : TypeId} {i : TypeInfo} (h : P.info? t = some i) (w : World) : (typeInfo t).run P w = .ok i w := by
  simp [typeInfo, h]
theorem Cfg.run_size (cfg : Cfg P) {t : TypeId} {i : TI} (h : cfg.I t = some i) (w : World) : (Go.sizeOf t).run P w = .ok i.size w := by
  obtain ⟨info, d, h1, h2, h3, _⟩ := cfg.hI h
  simp [Go.sizeOf, run_info h1, h3]
theorem Cfg.run_bytes (cfg : Cfg P) {t : TypeId} {i : TI} (h : cfg.I t = some i) (w : World) : ∃ info, (typeInfo t).run P w = .ok info w ∧ info.bytes = i.bytes := by
  obtain ⟨info, d, h1, h2, h3, h4, _⟩ := cfg.hI h
  exact ⟨info, run_info h1 w, h4⟩
theorem Cfg.run_zero (cfg : Cfg P) {t : TypeId} {i : TI} (h : cfg.I t = some i) (w : World) : (zeroValue t).run P w = .ok i.zero w := by
  obtain ⟨info, d, h1, h2, _⟩ := cfg.hI h
  simp [zeroValue, run_info h1, h2]
theorem Cfg.zsize (cfg : Cfg P) {t : TypeId} {i : TI} (h : cfg.I t = some i) : i.zero.cells.size = i.size := by
  obtain ⟨info, d, h1, h2, h3, h4, h5, h6, h7⟩ := cfg.hI h
  exact h7
theorem Cfg.run_isAgg (cfg : Cfg P) {t : TypeId} {i : TI} (h : cfg.I t = some i) (w : World) : (isAgg t).run P w = .ok i.row w := by
  obtain ⟨info, d, h1, h2, h3, h4, h5, h6, _⟩ := cfg.hI h
  simp only [isAgg, Sem.run_bind, run_und h5, Result.andThen_ok]
  rw [← h6]
  cases d <;> rfl

/-! ### Without memory -/
def pureRun (P : Program) {α : Type} : Sem α → Option α
  | .pure a => some a
  | .program k => pureRun P (k P)
  | .mark _ k => pureRun P k
  | _ => none

theorem pureRun_ok {α : Type} : ∀ {s : Sem α} {a : α}, pureRun P s = some a → ∀ w, s.run P w = .ok a w
  | .pure a, b, h, w => by simp [pureRun] at h; subst h; rfl
  | .program k, b, h, w => by simp only [pureRun] at h; simpa [Sem.run] using pureRun_ok h w
  | .mark _ k, b, h, w => by simp only [pureRun] at h; simpa [Sem.run] using pureRun_ok h w
  | .load .., b, h, w => by simp [pureRun] at h
  | .store .., b, h, w => by simp [pureRun] at h
  | .new .., b, h, w => by simp [pureRun] at h
  | .shape .., b, h, w => by simp [pureRun] at h
  | .freeze .., b, h, w => by simp [pureRun] at h
  | .frozen .., b, h, w => by simp [pureRun] at h
  | .getObj .., b, h, w => by simp [pureRun] at h
  | .setObj .., b, h, w => by simp [pureRun] at h
  | .choose .., b, h, w => by simp [pureRun] at h
  | .sys .., b, h, w => by simp [pureRun] at h
  | .halt .., b, h, w => by simp [pureRun] at h

def svBool : SV → Option Bool
  | .sc (.bool b) => some b
  | _ => none
theorem svBool_ok {E : Env} {x : SV} {v : Value} {b : Bool} (h : svBool x = some b) (hr : R E x v) : v = .bool b := by
  cases hr with
  | sc v => cases v <;> simp [svBool] at h; rw [h]
  | _ => simp [svBool] at h

def svInt : SV → Option Int
  | .sc (.int _ n) => some n
  | _ => none
theorem svInt_ok {E : Env} {x : SV} {v : Value} {n : Int} (h : svInt x = some n) (hr : R E x v) : ∃ k, v = .int k n := by
  cases hr with
  | sc v => cases v <;> simp [svInt] at h; subst h; exact ⟨_, rfl⟩
  | _ => simp [svInt] at h

/-! ### load, store -/
def vload (cfg : Cfg P) (h : CHeap X) (t : TypeId) : SV → Option SV
  | .ptr n off => match h.get n with
    | some (.cells known _ _) => (match cfg.I t with
      | some i => if i.row then (if off + i.size ≤ known.length then some (.agg ((known.drop off).take i.size)) else none) else known[off]?
      | none => none)
    | _ => none
  | _ => none

theorem vload_ok (cfg : Cfg P) {E : Env} {own : Own} {h : CHeap X} {w : World} (e : Emb E own h w) {t : TypeId} {x y : SV} {a : Value} (ha : R E x a) (hy : vload cfg h t x = some y) :
    ∃ v, (Instr.loadAt t a).run P w = .ok v w ∧ R E y v := by
  cases ha with
  | @ptr n off nb hn =>
    simp only [vload] at hy
    split at hy
    · rename_i known opn ty hc
      split at hy
      · rename_i i hi
        have hag := cfg.run_isAgg hi w
        split at hy
        · rename_i hrow
          split at hy
          · rename_i hle
            cases hy
            obtain ⟨nb', vs, h1, h2, h3, h4⟩ := load_cells (P := P) e hc hle
            rw [hn] at h1; cases h1
            exact ⟨_, by simp [Instr.loadAt, Instr.sureAddr, loadVar, hag, hrow, cfg.run_size hi, h4], .agg h2⟩
          · cases hy
        · rename_i hrow
          obtain ⟨nb', v, h1, h2, h3⟩ := load_cell e hc hy
          rw [hn] at h1; cases h1
          exact ⟨v, by simp [Instr.loadAt, Instr.sureAddr, loadVar, hag, hrow, h3], h2⟩
      · cases hy
    · cases hy
  | _ => simp [vload] at hy

def vstore (cfg : Cfg P) (h : CHeap X) (t : TypeId) (x : SV) : SV → Option (CHeap X)
  | .ptr n off => match h.get n with
    | some (.cells known opn ty) => (match cfg.I t with
      | some i => if x.cells.length = i.size ∧ off + i.size ≤ known.length ∧ x.cells.all SV.atom = true then some (h.set n (.cells (laid known off x.cells) opn ty)) else none
      | none => none)
    | _ => none
  | _ => none

theorem atoms_of {E : Env} {l : List SV} {l' : List Value} (hl : RL E l l') (h : l.all SV.atom = true) : ∀ v ∈ l', v.oneCell' = true := by
  intro v hv
  obtain ⟨i, hi⟩ := List.getElem?_of_mem hv
  obtain ⟨x, hx, hr⟩ := hl.get' hi
  exact oneCell_of hr (List.all_eq_true.1 h x (List.mem_of_getElem? hx))

theorem vstore_ok (cfg : Cfg P) {E : Env} {own : Own} {h h' : CHeap X} {w : World} (e : Emb E own h w) {t : TypeId} {x y : SV} {a v : Value} (ha : R E x a) (hv : R E y v) (hy : vstore cfg h t y x = some h') :
    ∃ w', (Instr.storeAt t a v).run P w = .ok () w' ∧ Emb E own h' w' ∧ Tran E own h w E own h' w' := by
  cases ha with
  | @ptr n off nb hn =>
    simp only [vstore] at hy
    split at hy
    · rename_i known opn ty hc
      split at hy
      · rename_i i hi
        split at hy
        · rename_i hcond
          obtain ⟨hl, hle, hat⟩ := hcond
          cases hy
          have hcl := SV.cells_eq hv
          obtain ⟨nb', w', h1, h2, h3, h4⟩ := store_cells (P := P) (off := off) e hc hcl (by omega) (atoms_of hcl hat)
          rw [hn] at h1; cases h1
          have hsz : v.cells.size = i.size := by have := hcl.length; simp at this; omega
          exact ⟨w', by simp [Instr.storeAt, Instr.sureAddr, storeVar, cfg.run_size hi, hsz, h2], h3, h4⟩
        · cases hy
      · cases hy
    · cases hy
  | _ => simp [vstore] at hy

/-! ### new variables -/
def vbox (h : CHeap X) (t : TypeId) (x : SV) : SV × CHeap X := (.ptr h.next 0, h.push (.cells x.cells false t))

theorem vbox_ok {E : Env} {own : Own} {h : CHeap X} {w : World} (e : Emb E own h w) (t : TypeId) {x : SV} {v : Value} (hv : R E x v) :
    ∃ u E' own' w', (newVar t v).run P w = .ok u w' ∧ Emb E' own' (vbox h t x).2 w' ∧ Tran E own h w E' own' (vbox h t x).2 w' ∧ R E' (vbox h t x).1 (.pointer (some u)) := by
  obtain ⟨E', own', h1, h2, h3⟩ := new_cells e (SV.cells_eq hv) t [] false (fun _ => rfl) w rfl rfl rfl rfl
  refine ⟨⟨w.heap.size, 0, none⟩, E', own', _, ?_, h1, h2, ?_⟩
  · simp [newVar, newRow]
  · have := R.ptr (E := E') (n := h.next) (off := 0) h3
    simpa [vbox] using this
end Cam

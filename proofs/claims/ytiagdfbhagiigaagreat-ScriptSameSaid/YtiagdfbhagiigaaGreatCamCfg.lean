/- Cam, the tables of a program, out of the program itself. -/
import Derived.Test.YtiagdfbhagiigaaGreatCamZc
namespace Cam
open Go Go.Lib
variable (P : Program)

def gI (t : TypeId) : Option TI := match P.info? t with
  | some info => (match info.zero, P.underlying t with
    | some z, some d => (match Nat.beq z.cells.size info.size with
      | true => some ⟨z, info.size, info.bytes, isRow d⟩
      | false => none)
    | _, _ => none)
  | none => none

def gC (f : FuncId) : Option CFn := match P.funcs[f]? with
  | some fn => (match fn.body with
    | some b => (match fn.name == "runtime.NumGoroutine" with
      | true => none
      | false => some ⟨b, fn.ntmps, fn.results⟩)
    | none => none)
  | none => none

def gM (t : TypeId) (name : String) : Option FuncId := match P.info? t, P.underlying t with
  | some info, some (.pointer _) => (match info.methods.find? (·.name == name) with
    | some m => (match m.path.toList, m.func with
      | [], some (f, true) => some f
      | _, _ => none)
    | none => none)
  | _, _ => none

variable {P}
theorem gI_ok {t : TypeId} {i : TI} (h : gI P t = some i) : ∃ info d, P.info? t = some info ∧ info.zero = some i.zero ∧ info.size = i.size ∧ info.bytes = i.bytes ∧ P.underlying t = some d ∧ isRow d = i.row ∧ i.zero.cells.size = i.size := by
  unfold gI at h
  split at h
  · rename_i info hinfo
    split at h
    · rename_i z d hz hd
      split at h
      · rename_i hb
        cases h
        exact ⟨info, d, hinfo, hz, rfl, rfl, hd, rfl, Nat.eq_of_beq_eq_true hb⟩
      · cases h
    · cases h
  · cases h

theorem gC_ok {f : FuncId} {c : CFn} (h : gC P f = some c) : ∃ fn, P.funcs[f]? = some fn ∧ fn.body = some c.body ∧ fn.ntmps = c.ntmps ∧ fn.results = c.results ∧ ∀ args w, (callFunc f args).run P w = .ok (.enter f args) w := by
  unfold gC at h
  split at h
  · rename_i fn hfn
    split at h
    · rename_i b hb
      split at h
      · cases h
      · rename_i hname
        cases h
        refine ⟨fn, hfn, hb, rfl, rfl, fun args w => ?_⟩
        have hn : ¬ fn.name = "runtime.NumGoroutine" := by simpa using hname
        simp [callFunc, hfn, hn, hb]
    · cases h
  · cases h

theorem gM_ok {t : TypeId} {name : String} {f : FuncId} (h : gM P t name = some f) (v : Value) (w : World) : (method (P.types.size + Made.depth) t v name).run P w = .ok (f, v) w := by
  unfold gM at h
  split at h
  · rename_i info e hinfo hu
    split at h
    · rename_i m hm
      split at h
      · rename_i f' hp hf
        cases h
        have hd : P.types.size + Made.depth = (P.types.size + (Made.depth - 1)) + 1 := by simp [Made.depth]
        rw [hd]
        simp only [method, Sem.run_bind, run_info hinfo, Result.andThen_ok, hm, hp, follow, Sem.run_pure, hf, receiverAt, run_und hu, Place.get]
      · cases h
    · cases h
  · cases h

/-- The tables of a program in which one function, 'maps.clone', has no body and is known. -/
def mkCfg (P : Program) (mixed : P.follows .mixedOrders = true) (kf : FuncId) (hk : ∀ args w, (callFunc kf args).run P w = ((fun v => Next.value v) <$> Extern.MapsClone.clone args).run P w) : Cfg P where
  U := fun t => P.underlying t
  hU := fun h => h
  I := gI P
  hI := gI_ok
  C := gC P
  hC := gC_ok
  mixed := mixed
  M := gM P
  hM := fun h v w => gM_ok h v w
  K := fun f => Nat.beq f kf
  hK := fun h args w => by rw [Nat.eq_of_beq_eq_true h]; exact hk args w
end Cam

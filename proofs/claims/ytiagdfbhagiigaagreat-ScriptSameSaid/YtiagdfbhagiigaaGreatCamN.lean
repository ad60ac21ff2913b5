/- Cam, part N: one operation. -/
import Derived.Test.YtiagdfbhagiigaaGreatCamM
namespace Cam
open Go Go.Lib
variable {X : Type} [AbsRep X] {P : Program}

inductive CDef where
  | call (fn : Fn) (cap args : List SV)
  | mark (n : Nat)

inductive DR (E : Env) : CDef → Deferred → Prop
  | call {fn : Fn} {cap args : List SV} {cap' args' : List Value} (hc : RL E cap cap') (ha : RL E args args') : DR E (.call fn cap args) { target := .fn fn cap'.toArray, args := args'.toArray }
  | mark {n : Nat} {nb : Nb} (h : E n = some nb) : DR E (.mark n) { target := .collected nb.block, args := #[] }

theorem DR.mono {E E' : Env} (hE : Ext E E') {d : CDef} {d' : Deferred} (h : DR E d d') : DR E' d d' := by
  cases h with
  | call hc ha => exact .call (hc.mono hE) (ha.mono hE)
  | mark h => exact .mark (hE _ _ h)

inductive CNext (X : Type) where
  | value (v : SV) (h : CHeap X)
  | skip (h : CHeap X)
  | enter (f : FuncId) (args : List SV)
  | round (l : Nat) (args : List SV)
  | defer (d : CDef)
  | recover
  | panic (v : SV)

/-- What an operation comes to in the model, by what it comes to here. -/
def OpOK (P : Program) (E : Env) (own : Own) (h : CHeap X) (w : World) (s : Sem Next) : CNext X → Prop
  | .value v h' => ∃ v' E' own' w', s.run P w = .ok (.value v') w' ∧ Emb E' own' h' w' ∧ Tran E own h w E' own' h' w' ∧ R E' v v'
  | .skip h' => ∃ E' own' w', s.run P w = .ok .skip w' ∧ Emb E' own' h' w' ∧ Tran E own h w E' own' h' w'
  | .enter f args => ∃ args' : List Value, s.run P w = .ok (.enter f args'.toArray) w ∧ RL E args args'
  | .round l args => ∃ (nb : Nb) (args' : List Value), E l = some nb ∧ RL E args args' ∧ s.run P w = (Instr.yield nb.block args'.toArray).run P w
  | .defer d => ∃ d', s.run P w = .ok (.defer d') w ∧ DR E d d'
  | .recover => s.run P w = .ok .recover w
  | .panic v => ∃ v', s.run P w = .halt (.panic v') w ∧ R E v v'

theorem opOK_pure {E : Env} {own : Own} {h : CHeap X} {w : World} (e : Emb E own h w) {s : Sem Value} {y : SV} (hs : ∃ r, s.run P w = .ok r w ∧ R E y r) :
    OpOK P E own h w (do pure (.value (← s))) (.value y h) := by
  obtain ⟨r, h1, h2⟩ := hs
  exact ⟨r, E, own, w, by simp [h1], e, Tran.refl _ _ _ _, h2⟩

theorem opOK_val {E : Env} {own : Own} {h h' : CHeap X} {w : World} {s : Sem Value} {y : SV}
    (hs : ∃ r E' own' w', s.run P w = .ok r w' ∧ Emb E' own' h' w' ∧ Tran E own h w E' own' h' w' ∧ R E' y r) :
    OpOK P E own h w (do pure (.value (← s))) (.value y h') := by
  obtain ⟨r, E', own', w', h1, h2, h3, h4⟩ := hs
  exact ⟨r, E', own', w', by simp [h1], h2, h3, h4⟩

theorem opOK_unit {E : Env} {own : Own} {h h' : CHeap X} {w : World} {s : Sem Unit}
    (hs : ∃ w', s.run P w = .ok () w' ∧ Emb E own h' w' ∧ Tran E own h w E own h' w') :
    OpOK P E own h w (do s; pure .skip) (.skip h') := by
  obtain ⟨w', h1, h2, h3⟩ := hs
  exact ⟨E, own, w', by simp [h1], h2, h3⟩

/-! ### calls -/
theorem RL.one {E : Env} {a : SV} {l' : List Value} (h : RL E [a] l') : ∃ u, l' = [u] ∧ R E a u := by
  cases h with
  | cons h1 h2 => cases h2; exact ⟨_, rfl, h1⟩
theorem RL.two {E : Env} {a b : SV} {l' : List Value} (h : RL E [a, b] l') : ∃ u v, l' = [u, v] ∧ R E a u ∧ R E b v := by
  cases h with
  | cons h1 h2 =>
    obtain ⟨v, rfl, h3⟩ := h2.one
    exact ⟨_, v, rfl, h1, h3⟩

def cbuiltin (cfg : Cfg P) (h : CHeap X) (b : Builtin) (ts : List TypeId) (args : List SV) : Option (CNext X) :=
  match b, ts, args with
  | .append, [t, u], [s, x] => (match vappend cfg h t u s x with | some (v, h') => some (.value v h') | none => none)
  | .len, t :: _, [x] => (match vlen cfg h t x with | some v => some (.value v h) | none => none)
  | .cap, t :: _, [x] => (match vcap cfg t x with | some v => some (.value v h) | none => none)
  | .copy, [t, _], [d, s] => (match vcopy cfg h t d s with | some (v, h') => some (.value v h') | none => none)
  | .delete, t :: _, [m, k] => (match vdelete cfg h t m k with | some h' => some (.value (.sc (.tuple #[])) h') | none => none)
  | .min, _, _ => (match SV.plainL? args with | some l => (match pureRun P (Builtin.min_ #[] 0 l.toArray) with | some v => some (.value (.sc v) h) | none => none) | none => none)
  | .max, _, _ => (match SV.plainL? args with | some l => (match pureRun P (Builtin.max_ #[] 0 l.toArray) with | some v => some (.value (.sc v) h) | none => none) | none => none)
  | .recover, _, [] => some .recover
  | _, _, _ => none

theorem cbuiltin_ok (cfg : Cfg P) {E : Env} {own : Own} {h : CHeap X} {w : World} (e : Emb E own h w) {b : Builtin} {ts : Array TypeId} {args : List SV} {args' : List Value} (ty : TypeId) (cs : Array Bool) (ha : RL E args args')
    {r : CNext X} (hy : cbuiltin cfg h b ts.toList args = some r) : OpOK P E own h w (builtin b ts ty cs args'.toArray) r := by
  have hts : ∀ {l : List TypeId}, ts.toList = l → ts = l.toArray := fun h => by rw [← h]
  unfold cbuiltin at hy
  split at hy
  · rename_i t u s x htl
    split at hy
    · rename_i v h' hv
      cases hy
      obtain ⟨v1, v2, rfl, h1, h2⟩ := ha.two
      rw [hts htl]
      exact opOK_val (vappend_ok cfg e ty h1 h2 hv)
    · cases hy
  · rename_i t l x htl
    split at hy
    · rename_i v hv
      cases hy
      obtain ⟨v1, rfl, h1⟩ := ha.one
      exact opOK_pure e (vlen_ok cfg e (by rw [hts htl]; rfl) ty h1 hv)
    · cases hy
  · rename_i t l x htl
    split at hy
    · rename_i v hv
      cases hy
      obtain ⟨v1, rfl, h1⟩ := ha.one
      exact opOK_pure e (vcap_ok cfg (by rw [hts htl]; rfl) ty h1 hv)
    · cases hy
  · rename_i t u d s htl
    split at hy
    · rename_i v h' hv
      cases hy
      obtain ⟨v1, v2, rfl, h1, h2⟩ := ha.two
      rw [hts htl]
      obtain ⟨r, w', q1, q2, q3, q4⟩ := vcopy_ok cfg e (u := u) ty h1 h2 hv
      exact opOK_val ⟨r, E, own, w', q1, q2, q3, q4⟩
    · cases hy
  · rename_i t l m k htl
    split at hy
    · rename_i h' hv
      cases hy
      obtain ⟨v1, v2, rfl, h1, h2⟩ := ha.two
      obtain ⟨w', q1, q2, q3⟩ := vdelete_ok cfg e (ts := ts) (by rw [hts htl]; rfl) ty h1 h2 hv
      exact opOK_val ⟨_, E, own, w', q1, q2, q3, .sc _⟩
    · cases hy
  · split at hy
    · rename_i l hl
      split at hy
      · rename_i v hv
        cases hy
        have := SV.plainL_eq hl ha
        subst this
        exact opOK_pure e ⟨v, pureRun_ok hv w, .sc _⟩
      · cases hy
    · cases hy
  · split at hy
    · rename_i l hl
      split at hy
      · rename_i v hv
        cases hy
        have := SV.plainL_eq hl ha
        subst this
        exact opOK_pure e ⟨v, pureRun_ok hv w, .sc _⟩
      · cases hy
    · cases hy
  · cases hy
    rfl
  · cases hy

/-- A call of a function value. -/
def cinvoke (cfg : Cfg P) (h : CHeap X) (fn : Fn) (cap args : List SV) : Option (CNext X) :=
  match fn with
  | .func f => if cfg.K f then (match vclone h (args ++ cap) with | some (v, h') => some (.value v h') | none => none)
    else (match cfg.C f with | some _ => some (.enter f (args ++ cap)) | none => none)
  | .method name => (match args with
    | recv :: rest => (match recv.ifc? with
      | some (t, v) => (match cfg.M t name with
        | some f => (match cfg.C f with | some _ => some (.enter f (v :: rest)) | none => none)
        | none => none)
      | none => none)
    | [] => none)
  | _ => none

theorem cinvoke_ok (cfg : Cfg P) {E : Env} {own : Own} {h : CHeap X} {w : World} (e : Emb E own h w) {fn : Fn} {cap args : List SV} {cap' args' : List Value} (hc : RL E cap cap') (ha : RL E args args')
    {r : CNext X} (hy : cinvoke cfg h fn cap args = some r) : OpOK P E own h w (invoke (.fn fn cap'.toArray) args'.toArray) r := by
  unfold cinvoke at hy
  split at hy
  · rename_i f
    split at hy
    · rename_i hK
      split at hy
      · rename_i v h' hv
        cases hy
        obtain ⟨r, E', own', w', q1, q2, q3, q4⟩ := vclone_ok (P := P) e (ha.append hc) hv
        refine ⟨r, E', own', w', ?_, q2, q3, q4⟩
        simp only [invoke, List.append_toArray]
        rw [cfg.hK hK]
        simp [q1]
      · cases hy
    · split at hy
      · rename_i c hcf
        cases hy
        obtain ⟨fn, _, _, _, _, hen⟩ := cfg.hC hcf
        exact ⟨args' ++ cap', by simp [invoke, hen], ha.append hc⟩
      · cases hy
  · rename_i name
    split at hy
    · rename_i recv rest
      split at hy
      · rename_i t v hif
        split at hy
        · rename_i f hf
          split at hy
          · rename_i c hcf
            cases hy
            cases ha with
            | @cons _ v1 _ rest' h1 h2 =>
              obtain ⟨u, hv1, hr⟩ := SV.ifc_eq hif h1
              subst hv1
              obtain ⟨fn, _, _, _, _, hen⟩ := cfg.hC hcf
              refine ⟨u :: rest', ?_, .cons hr h2⟩
              have hm := cfg.hM hf u w
              have hex : (Value.iface t u :: rest').toArray.extract 1 (Value.iface t u :: rest').toArray.size = rest'.toArray := by
                apply Array.ext'; simp
              have hcons : #[u] ++ rest'.toArray = (u :: rest').toArray := by apply Array.ext'; simp
              simp only [invoke, List.getElem?_toArray, List.getElem?_cons_zero, callMethod, Sem.run_bind, run_program, Result.andThen_ok, hm, hex, hcons, hen]
          · cases hy
        · cases hy
      · cases hy
    · cases hy
  · cases hy
end Cam

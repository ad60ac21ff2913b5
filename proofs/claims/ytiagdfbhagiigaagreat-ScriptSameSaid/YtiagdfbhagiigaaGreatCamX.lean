/- Cam, part X: operations that look at a part of the temporaries; reads; effects. -/
import Derived.Test.YtiagdfbhagiigaaGreatCamW
namespace Cam
open Go Go.Lib
variable {X : Type} {P : Program}

theorem ccall_congr (cfg : Cfg P) {h : CHeap X} {ρ ρ' : Operand → SV} {c : Call} (hx : ∀ x ∈ c.operands, ρ x = ρ' x) : ccall cfg h ρ c = ccall cfg h ρ' c := by
  have hargs : c.args.toList.map ρ = c.args.toList.map ρ' := List.map_congr_left fun x hm => hx x (by simp [Call.operands]; exact .inr (by simpa using hm))
  unfold ccall
  rw [hargs]
  cases hc : c.callee with
  | value f => have hf : ρ f = ρ' f := hx f (by simp [Call.operands, hc]); simp only [hf]
  | invoke r m => have hr : ρ r = ρ' r := hx r (by simp [Call.operands, hc]); simp only [hr]
  | builtin b => rfl

theorem cop_congr (cfg : Cfg P) {h : CHeap X} {ρ ρ' : Operand → SV} (o : Oper) (hx : ∀ x ∈ o.op.operands, ρ x = ρ' x) : cop cfg h ρ o = cop cfg h ρ' o := by
  obtain ⟨dst, op, type, pos, after, guard⟩ := o
  have pairs : ∀ ps : Array (Nat × Operand), (∀ x ∈ (ps.toList.map (·.2)).toArray, ρ x = ρ' x) → (ps.toList.map fun p => (p.1, ρ p.2)) = (ps.toList.map fun p => (p.1, ρ' p.2)) := fun ps hp =>
    List.map_congr_left fun p hm => by rw [hp p.2 (by simp; exact ⟨p.1, by simpa using hm⟩)]
  cases op <;> simp only [Op.operands] at hx <;> simp only [cop]
  case build t ps => rw [pairs ps hx]
  case buildSlice t n ps => rw [pairs ps hx]
  case makeFunc fn first captured =>
    rw [List.map_congr_left (l := first.toList) fun x hm => hx x (by simp; exact .inl (by simpa using hm)), List.map_congr_left (l := captured.toList) fun x hm => hx x (by simp; exact .inr (by simpa using hm))]
  case call c => exact ccall_congr cfg hx
  case defer c =>
    have hargs : c.args.toList.map ρ = c.args.toList.map ρ' := List.map_congr_left fun x hm => hx x (by simp [Call.operands]; exact .inr (by simpa using hm))
    rw [hargs]
    cases hc : c.callee with
    | value f => have hf : ρ f = ρ' f := hx f (by simp [Call.operands, hc]); simp only [hf]
    | invoke r m => rfl
    | builtin b => rfl
  case makeMap t r => cases r <;> rfl
  case slice t x lo hi mx => cases lo <;> cases hi <;> cases mx <;> simp_all
  case next it s => cases s <;> simp_all
  all_goals (first | rfl | (simp_all; done))

/-- Only what an operation looks at needs to be known. -/
theorem part_ops (E : Env) {o : Oper} {ρ : Operand → SV} {ρ' : Operand → Value} (hx : ∀ x ∈ o.op.operands, R E (ρ x) (ρ' x)) (cfg : Cfg P) (h : CHeap X) (hs : ∀ cs b, o.op ≠ .select cs b) :
    ∃ (ρ₁ : Operand → SV) (ρ₁' : Operand → Value), (∀ x, R E (ρ₁ x) (ρ₁' x)) ∧ cop cfg h ρ₁ o = cop cfg h ρ o ∧ execOp ρ₁' o = execOp ρ' o := by
  classical
  refine ⟨fun x => if x ∈ o.op.operands then ρ x else .sc undef, fun x => if x ∈ o.op.operands then ρ' x else undef, fun x => ?_, ?_, ?_⟩
  · by_cases hm : x ∈ o.op.operands
    · simp only [hm, if_true]; exact hx x hm
    · simp only [hm, if_false]; exact .sc _
  · exact cop_congr cfg o fun x hm => by simp only [hm, if_true]
  · exact execOp_congr o hs fun x hm => by simp only [hm, if_true]

theorem cop_noSelect (cfg : Cfg P) {h : CHeap X} {ρ : Operand → SV} {o : Oper} {r : CNext X} (hy : cop cfg h ρ o = some r) : ∀ cs b, o.op ≠ .select cs b := by
  intro cs b ho
  simp [cop, ho] at hy

variable [AbsRep X]

omit [AbsRep X] in
theorem cbuiltin_len (cfg : Cfg P) {h h' : CHeap X} {ts : List TypeId} {args : List SV} {v : SV} (hy : cbuiltin cfg h .len ts args = some (.value v h')) : ∃ t ts' x, ts = t :: ts' ∧ args = [x] ∧ vlen cfg h t x = some v := by
  rcases ts with _ | ⟨t, ts⟩
  · simp [cbuiltin] at hy
  · rcases args with _ | ⟨x, _ | ⟨y, l⟩⟩
    · simp [cbuiltin] at hy
    · simp only [cbuiltin] at hy
      split at hy
      · rename_i u hu; cases hy; exact ⟨t, ts, x, rfl, rfl, hu⟩
      · cases hy
    · simp [cbuiltin] at hy

omit [AbsRep X] in
theorem cbuiltin_cap (cfg : Cfg P) {h h' : CHeap X} {ts : List TypeId} {args : List SV} {v : SV} (hy : cbuiltin cfg h .cap ts args = some (.value v h')) : ∃ t ts' x, ts = t :: ts' ∧ args = [x] ∧ vcap cfg t x = some v := by
  rcases ts with _ | ⟨t, ts⟩
  · simp [cbuiltin] at hy
  · rcases args with _ | ⟨x, _ | ⟨y, l⟩⟩
    · simp [cbuiltin] at hy
    · simp only [cbuiltin] at hy
      split at hy
      · rename_i u hu; cases hy; exact ⟨t, ts, x, rfl, rfl, hu⟩
      · cases hy
    · simp [cbuiltin] at hy

theorem cread_ok (cfg : Cfg P) {E : Env} {own : Own} {h h' : CHeap X} {w : World} (e : Emb E own h w) {ρ : Operand → SV} {ρ' : Operand → Value} (hρ : ∀ x, R E (ρ x) (ρ' x)) {o : Oper} {v : SV} (hk : kindOf o.op = .read)
    (hy : cop cfg h ρ o = some (.value v h')) : ∃ v', (execOp ρ' o).run P w = .ok (.value v') w ∧ R E v v' := by
  have fin : ∀ {s : Sem Value} {y : SV} {z : Option SV}, val h z = some (.value v h') → (z = some y → ∃ r, s.run P w = .ok r w ∧ R E y r) → z = some y → ∃ v', (do pure (.value (← s)) : Sem Next).run P w = .ok (.value v') w ∧ R E v v' := by
    intro s y z h1 h2 hz
    obtain ⟨r, q1, q2⟩ := h2 hz
    rw [hz] at h1
    simp only [val, Option.some.injEq, CNext.value.injEq] at h1
    obtain ⟨rfl, _⟩ := h1
    exact ⟨r, by simp [q1], q2⟩
  cases hop : o.op <;> simp only [cop, hop] at hy <;> simp only [hop, kindOf] at hk <;> simp only [execOp, hop] <;> try (cases hk; done)
  case load t a =>
    obtain ⟨u, h1, h2⟩ := val_some hy
    exact fin hy (fun _ => vload_ok cfg e (hρ a) h1) h1
  case slice t x lo hi mx =>
    obtain ⟨u, h1, h2⟩ := val_some hy
    exact fin hy (fun _ => vslice_ok cfg e (hρ x) (RO.map hρ lo) (RO.map hρ hi) (RO.map hρ mx) h1) h1
  case lookup t x i ok =>
    obtain ⟨u, h1, h2⟩ := val_some hy
    exact fin hy (fun _ => vlookup_ok cfg e (hρ x) (hρ i) h1) h1
  case entry it =>
    obtain ⟨u, h1, h2⟩ := val_some hy
    exact fin hy (fun _ => ventry_ok e (hρ it) h1) h1
  case call c =>
    unfold ccall at hy
    have hargs := RL.map hρ c.args.toList
    split at hk
    · rename_i hc
      simp only [hc] at hy
      obtain ⟨t, ts', x, h1, h2, h3⟩ := cbuiltin_len cfg hy
      rw [h2] at hargs
      obtain ⟨u, hu, hr⟩ := hargs.one
      have hts : c.argTypes = (t :: ts').toArray := by rw [← h1]
      obtain ⟨r, q1, q2⟩ := vlen_ok (P := P) cfg e (ts := c.argTypes) (by rw [hts]; rfl) o.type hr h3
      refine ⟨r, ?_, q2⟩
      simp only [resolve, hc, pure_bind, map_arr (ρ' := ρ'), hu, invoke, builtin, Sem.run_bind, q1, Result.andThen_ok, Sem.run_pure]
    · rename_i hc
      simp only [hc] at hy
      obtain ⟨t, ts', x, h1, h2, h3⟩ := cbuiltin_cap cfg hy
      rw [h2] at hargs
      obtain ⟨u, hu, hr⟩ := hargs.one
      have hts : c.argTypes = (t :: ts').toArray := by rw [← h1]
      obtain ⟨r, q1, q2⟩ := vcap_ok (P := P) (w := w) cfg (ts := c.argTypes) (by rw [hts]; rfl) o.type hr h3
      refine ⟨r, ?_, q2⟩
      simp only [resolve, hc, pure_bind, map_arr (ρ' := ρ'), hu, invoke, builtin, Sem.run_bind, q1, Result.andThen_ok, Sem.run_pure]
    · cases hk
    · cases hk
    · cases hk

def EffEnds (P : Program) (E' : Env) (m : Machine) (fr : Frame) (cs : List Frame) (w' : World) : Sum SV (List CPE) → Prop
  | .inl v => ∃ v', R E' v v' ∧ Steps P m (lone (fr.finish v') cs w')
  | .inr c => ∃ c', CH E' c c' ∧ Steps P m (lone (fr.raise c') cs w')

/-- What an effect (or a free operation) comes to, at the machine. -/
theorem eff_ok (cfg : Cfg P) {orc : Orc X} (horc : OrcOK P orc) {E : Env} {own : Own} {hs hs' : CHeap X} {w : World} (e : Emb E own hs w) {tm : Tm} {b : Frame} {a : Act} {ops : Array Oper} {i : Nat} {rest : List Nat} {k : List Item} {cs : List Frame}
    {o : Oper} (hx : ∀ x ∈ o.op.operands, R E (cev tm x) (a.eval x)) (ho : ops[i]? = some o) (hw : Region.wanted o (yielded ops a.tmps) = true) {out : Sum SV (List CPE)} (hy : effOut orc hs (cop cfg hs (cev tm) o) = some (out, hs')) :
    ∃ E' own' w', Emb E' own' hs' w' ∧ Tran E own hs w E' own' hs' w' ∧
      EffEnds P E' (lone (b.atR a (.inRegion ops (i :: rest) :: k)) cs w) (b.atR a (.inRegion ops (i :: rest) :: k)) cs w' out := by
  cases hc : cop cfg hs (cev tm) o with
  | none => rw [hc] at hy; cases hy
  | some r =>
    obtain ⟨ρ₁, ρ₁', g1, g2, g3⟩ := part_ops E hx cfg hs (cop_noSelect cfg hc)
    have hok := cop_ok (P := P) cfg e g1 (g2.trans hc)
    rw [g3] at hok
    have hsem : (∀ d, r ≠ .defer d) → o.semAt b.roundOf a.eval = execOp a.eval o := fun hr => Oper.semAt_eq _ _ _ (cop_noDefer cfg hc hr)
    rw [hc] at hy
    cases r with
    | value v h1 =>
      simp only [effOut, Option.some.injEq, Prod.mk.injEq] at hy
      obtain ⟨rfl, rfl⟩ := hy
      obtain ⟨v', E', own', w', h1, h2, h3, h4⟩ := hok
      rw [← hsem (by simp)] at h1
      exact ⟨E', own', w', h2, h3, v', h4, .one (sop_value ho hw h1)⟩
    | skip h1 =>
      simp only [effOut, Option.some.injEq, Prod.mk.injEq] at hy
      obtain ⟨rfl, rfl⟩ := hy
      obtain ⟨E', own', w', h1, h2, h3⟩ := hok
      rw [← hsem (by simp)] at h1
      exact ⟨E', own', w', h2, h3, undef, .sc _, .one (sop_skip ho hw h1)⟩
    | enter f args =>
      obtain ⟨args', h1, h2⟩ := hok
      rw [← hsem (by simp)] at h1
      have hstep := fun cs => sop_enter (P := P) (k := k) (cs := cs) (rest := rest) ho hw h1
      simp only [effOut] at hy
      split at hy
      · rename_i v h' hs
        cases hy
        obtain ⟨E', own', w', q1, q2, q3⟩ := call_ends (cs := cs) (horc f args _ _ _ hs E own w args' e h2) hstep
        exact ⟨E', own', w', q1, q2, q3⟩
      · rename_i c h' hs
        cases hy
        obtain ⟨E', own', w', q1, q2, q3⟩ := call_ends (cs := cs) (horc f args _ _ _ hs E own w args' e h2) hstep
        exact ⟨E', own', w', q1, q2, q3⟩
      · cases hy
    | panic v =>
      simp only [effOut, Option.some.injEq, Prod.mk.injEq] at hy
      obtain ⟨rfl, rfl⟩ := hy
      obtain ⟨v', h1, h2⟩ := hok
      rw [← hsem (by simp)] at h1
      exact ⟨E, own, w, e, Tran.refl _ _ _ _, [{ v := v', recovered := false }], .cons h2 .nil, .one (sop_panic ho hw h1)⟩
    | round l args => cases hy
    | defer d => cases hy
    | recover => cases hy
end Cam

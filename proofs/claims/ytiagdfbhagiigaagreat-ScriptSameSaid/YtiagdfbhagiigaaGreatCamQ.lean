/- Cam, part Q: how the machine on names lies in the model's: frames, items, endings. -/
import Derived.Test.YtiagdfbhagiigaaGreatCamP
import Derived.RangeFuncRecord
import Derived.RangeFuncNested
namespace Cam
open Go Go.Lib
variable {X : Type} [AbsRep X] {P : Program}

/-! ### temporaries -/
theorem RT.eval {E : Env} {t : Tm} {a : Array Value} {ds : List Deferred} (h : RT E t a) (x : Operand) : R E (cev t x) ((⟨a, ds⟩ : Act).eval x) := by
  cases x with
  | tmp i => exact h.2 i
  | const v => exact .sc v
  | global g => exact .sc _
  | func f => exact .fn .nil .nil

theorem RT.put {E : Env} {t : Tm} {a : Array Value} {ds : List Deferred} (h : RT E t a) (dst : Option Tmp) {x : SV} {v : Value} (hx : R E x v) : RT E (cput t dst x) (Act.put ⟨a, ds⟩ dst v).tmps := by
  cases dst with
  | none => exact h
  | some d => exact h.set d hx

theorem RT.wanted {E : Env} {t : Tm} {a : Array Value} (h : RT E t a) {ops : Array Oper} {o : Oper} {b : Bool} (hy : cwanted ops t o = some b) : Region.wanted o (yielded ops a) = b := by
  unfold cwanted at hy
  unfold Region.wanted
  split at hy
  · rename_i hg; cases hy; rw [hg]
  · rename_i j want hg
    rw [hg]
    split at hy
    · rename_i d hd
      split at hy
      · rename_i c hc
        cases hy
        have h1 := svBool_ok hc (h.2 d)
        have h2 : a[d]? = some (.bool c) := by
          rw [Array.getD_eq_getD_getElem?] at h1
          cases hz : a[d]? with
          | none => rw [hz] at h1; cases h1
          | some v => rw [hz] at h1; exact congrArg some h1
        simp only [yielded, hd, Option.bind_some, h2]
        cases c <;> cases want <;> rfl
      · cases hy
    · cases hy

/-! ### the parts of a frame -/
inductive DL (E : Env) : List CDef → List Deferred → Prop
  | nil : DL E [] []
  | cons {d : CDef} {d' : Deferred} {l : List CDef} {l' : List Deferred} (h : DR E d d') (hl : DL E l l') : DL E (d :: l) (d' :: l')
theorem DL.mono {E E' : Env} (hE : Ext E E') : ∀ {l : List CDef} {l' : List Deferred}, DL E l l' → DL E' l l'
  | _, _, .nil => .nil
  | _, _, .cons h hl => .cons (h.mono hE) (hl.mono hE)

inductive CH (E : Env) : List CPE → List PanicEntry → Prop
  | nil : CH E [] []
  | cons {v : SV} {v' : Value} {r : Bool} {l : List CPE} {l' : List PanicEntry} (h : R E v v') (hl : CH E l l') : CH E (⟨v, r⟩ :: l) ({ v := v', recovered := r } :: l')
theorem CH.mono {E E' : Env} (hE : Ext E E') : ∀ {l : List CPE} {l' : List PanicEntry}, CH E l l' → CH E' l l'
  | _, _, .nil => .nil
  | _, _, .cons h hl => .cons (h.mono hE) (hl.mono hE)
theorem CH.append {E : Env} : ∀ {l m : List CPE} {l' m' : List PanicEntry}, CH E l l' → CH E m m' → CH E (l ++ m) (l' ++ m')
  | _, _, _, _, .nil, k => k
  | _, _, _, _, .cons h hl, k => .cons h (hl.append k)
theorem CH.noGoexit {E : Env} : ∀ {l : List CPE} {l' : List PanicEntry}, CH E l l' → l'.dropWhile (!·.goexit) = []
  | _, _, .nil => rfl
  | _, _, .cons h hl => by simp [List.dropWhile, hl.noGoexit]

inductive MR (E : Env) : CMode → FrameMode → Prop
  | run : MR E .run .run
  | returning : MR E .returning .returning
  | panicking {l : List CPE} {l' : List PanicEntry} (h : CH E l l') : MR E (.panicking l) (.panicking l')
theorem MR.mono {E E' : Env} (hE : Ext E E') {m : CMode} {m' : FrameMode} (h : MR E m m') : MR E' m m' := by
  cases h with
  | run => exact .run
  | returning => exact .returning
  | panicking h => exact .panicking (h.mono hE)

inductive IR (E : Env) : CItem → Item → Prop
  | code (c : Code) : IR E (.code c) (.code c)
  | inBlock (id : Nat) : IR E (.inBlock id) (.inBlock id)
  | inLoop (b : Code) : IR E (.inLoop b) (.inLoop b)
  | inScope (b : Code) : IR E (.inScope b) (.inScope b)
  | inRegion {ops : Array Oper} {i : Nat} {rest : List Oper} (h : ops.toList.drop i = rest) : IR E (.inRegion ops i rest) (.inRegion ops (List.range' i rest.length))
  | inRangeFunc {l : Nat} {nb : Nb} (h : E l = some nb) : IR E (.inRangeFunc l) (.inRangeFunc nb.block)
  | endRangeFunc {l : Nat} {nb : Nb} (h : E l = some nb) : IR E (.endRangeFunc l) (.endRangeFunc nb.block)
  | beginRound : IR E .beginRound .beginRound
theorem IR.mono {E E' : Env} (hE : Ext E E') {m : CItem} {m' : Item} (h : IR E m m') : IR E' m m' := by
  cases h with
  | code c => exact .code c
  | inBlock => exact .inBlock _
  | inLoop => exact .inLoop _
  | inScope => exact .inScope _
  | inRegion h => exact .inRegion h
  | inRangeFunc h => exact .inRangeFunc (hE _ _ h)
  | endRangeFunc h => exact .endRangeFunc (hE _ _ h)
  | beginRound => exact .beginRound

inductive IL (E : Env) : List CItem → List Item → Prop
  | nil : IL E [] []
  | cons {x : CItem} {y : Item} {l : List CItem} {l' : List Item} (h : IR E x y) (hl : IL E l l') : IL E (x :: l) (y :: l')
theorem IL.mono {E E' : Env} (hE : Ext E E') : ∀ {l : List CItem} {l' : List Item}, IL E l l' → IL E' l l'
  | _, _, .nil => .nil
  | _, _, .cons h hl => .cons (h.mono hE) (hl.mono hE)

theorem IL.exitTo {E : Env} (id : Nat) : ∀ {k : List CItem} {k' : List Item}, IL E k k' → match cexitTo id k with
    | some r => ∃ r', Go.exitTo id k' = some r' ∧ IL E r r'
    | none => Go.exitTo id k' = none
  | _, _, .nil => by simp [cexitTo, Go.exitTo]
  | _, _, .cons h hl => by
    have ih := hl.exitTo id
    cases h with
    | inBlock id' =>
      simp only [cexitTo, Go.exitTo]
      by_cases hid : (id' == id) = true
      · simp only [hid, if_true]; exact ⟨_, rfl, hl⟩
      · simp only [hid]; exact ih
    | code => simpa only [cexitTo, Go.exitTo] using ih
    | inLoop => simpa only [cexitTo, Go.exitTo] using ih
    | inScope => simpa only [cexitTo, Go.exitTo] using ih
    | inRegion => simpa only [cexitTo, Go.exitTo] using ih
    | inRangeFunc => simpa only [cexitTo, Go.exitTo] using ih
    | endRangeFunc => simpa only [cexitTo, Go.exitTo] using ih
    | beginRound => simpa only [cexitTo, Go.exitTo] using ih

theorem IL.gotoIn {E : Env} (t : Nat) : ∀ {k : List CItem} {k' : List Item}, IL E k k' → match cgotoIn t k with
    | some r => ∃ r', Go.gotoIn t k' = some r' ∧ IL E r r'
    | none => Go.gotoIn t k' = none
  | _, _, .nil => by simp [cgotoIn, Go.gotoIn]
  | _, _, .cons h hl => by
    have ih := hl.gotoIn t
    cases h with
    | inScope body =>
      simp only [cgotoIn, Go.gotoIn]
      cases findLabel body t with
      | none => exact ih
      | some rest => exact ⟨_, rfl, .cons (.code _) (.cons (.inScope _) hl)⟩
    | inBlock => simpa only [cgotoIn, Go.gotoIn] using ih
    | code => simpa only [cgotoIn, Go.gotoIn] using ih
    | inLoop => simpa only [cgotoIn, Go.gotoIn] using ih
    | inRegion => simpa only [cgotoIn, Go.gotoIn] using ih
    | inRangeFunc => simpa only [cgotoIn, Go.gotoIn] using ih
    | endRangeFunc => simpa only [cgotoIn, Go.gotoIn] using ih
    | beginRound => simpa only [cgotoIn, Go.gotoIn] using ih

def RoR (E : Env) : Option Nat → Option Nat → Prop
  | none, r => r = none
  | some l, r => ∃ nb, E l = some nb ∧ r = some nb.block
theorem RoR.mono {E E' : Env} (hE : Ext E E') : ∀ {o r : Option Nat}, RoR E o r → RoR E' o r
  | none, _, h => h
  | some _, _, ⟨nb, h1, h2⟩ => ⟨nb, hE _ _ h1, h2⟩

def kindOfB (dfd : Bool) : CallKind := if dfd then .deferred else .normal

structure FR (E : Env) (c : CFr) (fr : Frame) : Prop where
  fn : fr.fn = c.fn
  n : fr.tmps.size = c.tm.n
  tm : ∀ i, i ∉ c.dead → R E (c.tm.get i) (fr.tmps.getD i undef)
  todo : fr.mode = .run → IL E c.todo fr.todo
  defers : DL E c.defers fr.defers
  mode : MR E c.mode fr.mode
  kind : fr.kind = kindOfB c.deferred
  round : RoR E c.roundOf fr.roundOf

theorem FR.mono {E E' : Env} (hE : Ext E E') {c : CFr} {fr : Frame} (h : FR E c fr) : FR E' c fr :=
  ⟨h.fn, h.n, fun i hi => (h.tm i hi).mono hE, fun hm => (h.todo hm).mono hE, h.defers.mono hE, h.mode.mono hE, h.kind, h.round.mono hE⟩

inductive FL (E : Env) : List CFr → List Frame → Prop
  | nil : FL E [] []
  | cons {c : CFr} {fr : Frame} {l : List CFr} {l' : List Frame} (h : FR E c fr) (hl : FL E l l') : FL E (c :: l) (fr :: l')
theorem FL.mono {E E' : Env} (hE : Ext E E') : ∀ {l : List CFr} {l' : List Frame}, FL E l l' → FL E' l l'
  | _, _, .nil => .nil
  | _, _, .cons h hl => .cons (h.mono hE) (hl.mono hE)

/-- A frame that runs. -/
theorem FR.run {E : Env} {fn : FuncId} {tm : Tm} {todo : List CItem} {defers : List CDef} {dfd : Bool} {ro : Option Nat} {fr : Frame} (h : FR E ⟨fn, tm, todo, defers, .run, dfd, ro, []⟩ fr) :
    ∃ (b : Frame) (a : Act) (k : List Item), fr = b.atR a k ∧ b.fn = fn ∧ RT E tm a.tmps ∧ IL E todo k ∧ DL E defers a.defers ∧ b.kind = kindOfB dfd ∧ RoR E ro b.roundOf := by
  have hm : fr.mode = .run := by
    have := h.mode
    cases hx : fr.mode <;> rw [hx] at this <;> first | (cases this; done) | rfl
  refine ⟨fr, ⟨fr.tmps, fr.defers⟩, fr.todo, ?_, h.fn, ⟨h.n, fun i => h.tm i (by simp)⟩, h.todo hm, h.defers, h.kind, h.round⟩
  cases fr
  simp only at hm
  subst hm
  rfl

theorem FR.of_run {E : Env} {fn : FuncId} {tm : Tm} {todo : List CItem} {defers : List CDef} {dfd : Bool} {ro : Option Nat} {b : Frame} {a : Act} {k : List Item} (h1 : b.fn = fn) (h2 : RT E tm a.tmps)
    (h3 : IL E todo k) (h4 : DL E defers a.defers) (h5 : b.kind = kindOfB dfd) (h6 : RoR E ro b.roundOf) : FR E ⟨fn, tm, todo, defers, .run, dfd, ro, []⟩ (b.atR a k) :=
  ⟨h1, h2.1, fun i _ => h2.2 i, fun _ => h3, h4, .run, h5, h6⟩

theorem FR.finish {E : Env} {c : CFr} {fr : Frame} (h : FR E c fr) (hm : c.mode = .run) {v : SV} {v' : Value} (hv : R E v v') (hd : c.dead = []) : FR E (c.finish v) (fr.finish v') := by
  obtain ⟨fn, tm, todo, defers, mode, dfd, ro, dead⟩ := c
  simp only at hm hd
  subst hm hd
  obtain ⟨b, a, k, rfl, h1, h2, h3, h4, h5, h6⟩ := h.run
  obtain ⟨tmps, ds⟩ := a
  cases h3 with
  | nil => exact FR.of_run h1 h2 .nil h4 h5 h6
  | @cons x y l l' hx hl =>
    cases hx with
    | code c => exact FR.of_run h1 h2 (.cons (.code c) hl) h4 h5 h6
    | inBlock id => exact FR.of_run h1 h2 (.cons (.inBlock id) hl) h4 h5 h6
    | inLoop id => exact FR.of_run h1 h2 (.cons (.inLoop id) hl) h4 h5 h6
    | inScope id => exact FR.of_run h1 h2 (.cons (.inScope id) hl) h4 h5 h6
    | beginRound => exact FR.of_run (a := ⟨tmps, ds⟩) h1 h2 hl h4 h5 h6
    | inRangeFunc hh => exact FR.of_run (a := ⟨tmps, ds⟩) h1 h2 (.cons (.endRangeFunc hh) hl) h4 h5 h6
    | endRangeFunc hh => exact FR.of_run h1 h2 (.cons (.endRangeFunc hh) hl) h4 h5 h6
    | @inRegion ops i rest hr =>
      cases rest with
      | nil => exact FR.of_run h1 h2 (.cons (.inRegion hr) hl) h4 h5 h6
      | cons o rest =>
        have ho : ops[i]? = some o := by
          have := congrArg (·[0]?) hr
          simpa using this
        have hr' : ops.toList.drop (i + 1) = rest := by
          rw [← List.drop_drop, hr]; rfl
        have hf := Frame.finish_atR b ⟨tmps, ds⟩ ops i (List.range' (i + 1) rest.length) l' v'
        rw [ho] at hf
        simp only [List.length_cons, List.range'_succ, Option.bind_some] at hf ⊢
        rw [hf]
        refine FR.of_run h1 (h2.put o.dst hv) (.cons (.inRegion hr') hl) ?_ h5 h6
        cases o.dst <;> exact h4

theorem FR.raise {E : Env} {c : CFr} {fr : Frame} (h : FR E c fr) {vs : List CPE} {vs' : List PanicEntry} (hv : CH E vs vs') : FR E (c.raise vs) (fr.raise vs') := by
  obtain ⟨fn, tm, todo, defers, mode, dfd, ro, dead⟩ := c
  obtain ⟨fn', tmps, todo', defers', mode', kind', ro'⟩ := fr
  have hmode := h.mode
  have h1 := h.fn; have h2 := h.n; have h3 := h.tm; have h5 := h.defers; have h6 := h.kind; have h7 := h.round
  simp only at *
  cases hmode with
  | run => exact ⟨h1, h2, h3, fun hh => by simp [Frame.raise] at hh, h5, .panicking hv, h6, h7⟩
  | returning => exact ⟨h1, h2, h3, fun hh => by simp [Frame.raise] at hh, h5, .panicking hv, h6, h7⟩
  | panicking hl => exact ⟨h1, h2, h3, fun hh => by simp [Frame.raise] at hh, h5, .panicking (hv.append hl), h6, h7⟩

/-! ### endings, calls -/
def ER (E : Env) : CEnd → Ending → Prop
  | .ret v, .returned v' => R E v v'
  | .panic c, .panicked c' => CH E c c'
  | _, _ => False

def OrcOK (P : Program) (orc : Orc X) : Prop := ∀ f args h r h', orc f args h = some (r, h') → ∀ (E : Env) (own : Own) (w : World) (args' : List Value), Emb E own h w → RL E args args' →
  Calls P f args'.toArray w (fun e w' => ∃ E' own', Emb E' own' h' w' ∧ Tran E own h w E' own' h' w' ∧ ER E' r e)

def DrawnOK (cfg : Cfg P) (orc : Orc X) : Prop := ∀ (ops : Array Oper) (tm : Tm) (h : CHeap X) (out : Sum Tm (List CPE)) (h' : CHeap X), cdrawn cfg orc ops tm h = some (out, h') →
  ∀ (E : Env) (own : Own) (w : World) (b : Frame) (a : Act) (k : List Item) (cs : List Frame) (id : Nat), Emb E own h w → RT E tm a.tmps →
    ∃ E' own' w' tmps', Emb E' own' h' w' ∧ Tran E own h w E' own' h' w' ∧ tmps'.size = tm.n ∧ match out with
      | .inl tm' => RT E' tm' tmps' ∧ Steps P (lone (b.atR a (.code (.region id ops true) :: k)) cs w) (lone (b.atR ⟨tmps', a.defers⟩ k) cs w')
      | .inr c => ∃ todo chain, CH E' c chain ∧ (∀ i, i ∉ dsts ops.toList → R E' (tm.get i) (tmps'.getD i undef)) ∧
          Steps P (lone (b.atR a (.code (.region id ops true) :: k)) cs w) (lone { b.atR ⟨tmps', a.defers⟩ todo with mode := .panicking chain } cs w')
end Cam

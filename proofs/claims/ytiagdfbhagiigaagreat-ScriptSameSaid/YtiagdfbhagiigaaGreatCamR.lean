/- Cam, part R: one step is sound. -/
import Derived.Test.YtiagdfbhagiigaaGreatCamQ
namespace Cam
open Go Go.Lib
variable {X : Type} [AbsRep X] {P : Program}

/-- What a step owes. -/
def StepOK (P : Program) (E : Env) (own : Own) (s : CS X) (w : World) (fr : Frame) (cs : List Frame) (f0 : FuncId) : CR X → Prop
  | .next s' => ∀ base, ∃ E' own' w' fr' cs', Steps P (lone fr (cs ++ base) w) (lone fr' (cs' ++ base) w') ∧ Emb E' own' s'.h w' ∧ Tran E own s.h w E' own' s'.h w' ∧ FR E' s'.fr fr' ∧ FL E' s'.cs cs'
  | .done e h => h = s.h ∧ cs = [] ∧ fr.fn = f0 ∧ ∃ e', ER E e e' ∧ fr.leaving P w e' ∧ e' ≠ .outgrown
  | .fail => True

theorem stepOK_same {E : Env} {own : Own} {s : CS X} {w : World} {fr fr' : Frame} {cs cs' : List Frame} {f0 : FuncId} {c' : CFr} {l' : List CFr} (e : Emb E own s.h w) (h1 : FR E c' fr') (h2 : FL E l' cs')
    (hs : ∀ base, step P (lone fr (cs ++ base) w) = .next (lone fr' (cs' ++ base) w)) : StepOK P E own s w fr cs f0 (.next ⟨c', l', s.h⟩) :=
  fun base => ⟨E, own, w, fr', cs', .one (hs base), e, Tran.refl _ _ _ _, h1, h2⟩

theorem stepOK_to {E : Env} {own : Own} {s : CS X} {w w' : World} {fr fr' : Frame} {cs cs' : List Frame} {f0 : FuncId} {c' : CFr} {l' : List CFr} {h' : CHeap X} {E' : Env} {own' : Own}
    (e : Emb E' own' h' w') (t : Tran E own s.h w E' own' h' w') (h1 : FR E' c' fr') (h2 : FL E' l' cs')
    (hs : ∀ base, step P (lone fr (cs ++ base) w) = .next (lone fr' (cs' ++ base) w')) : StepOK P E own s w fr cs f0 (.next ⟨c', l', h'⟩) :=
  fun base => ⟨E', own', w', fr', cs', .one (hs base), e, t, h1, h2⟩

/-! ### loops' records -/
theorem emb_loop {E : Env} {own : Own} {h : CHeap X} {w : World} (e : Emb E own h w) {l : Nat} {st : LoopState} {p : Option Code} {fn : FuncId} {tm : Tm} {ps : Array Tmp} {assign body : Code} {dn : Nat}
    (hc : h.get l = some (.loop st p fn tm ps assign body dn)) : ∃ (nb db : Nb) (tmps : Array Value), E l = some nb ∧ E dn = some db ∧ RT E tm tmps ∧ own nb.block = some l ∧
      w.heap[nb.block]? = some (.loop { state := st, pending := p, fn, tmps, params := ps, assign, body, defers := db.block }) := by
  obtain ⟨nb, h1, h0, tmps, db, h2, h3, h4⟩ := e.ch l _ hc
  exact ⟨nb, db, tmps, h1, h2, h3, h0, h4⟩

theorem putObj_turn {E : Env} {own : Own} {h : CHeap X} {w : World} (e : Emb E own h w) {l : Nat} {c c' : Chunk X} {nb : Nb} {o' : Obj} (hc : h.get l = some c) (hn : E l = some nb) (hraw : c.raw = true)
    (hlt : nb.block < w.heap.size) (hok : ∀ w', w'.heap[nb.block]? = some o' → ChunkOK E own w' l nb c') :
    Emb E own (h.set l c') (w.putObj nb.block o') ∧ Tran E own h w E own (h.set l c') (w.putObj nb.block o') :=
  e.turn hc hn hraw (by simp [World.putObj]) rfl rfl rfl (fun b hb => World.putObj_heap_other hb) (hok _ (World.putObj_heap_same hlt))

/-- A loop's record is turned. -/
theorem turn_loop {E : Env} {own : Own} {h : CHeap X} {w : World} (e : Emb E own h w) {l : Nat} {st st' : LoopState} {p p' : Option Code} {fn : FuncId} {tm : Tm} {ps : Array Tmp} {assign body : Code} {dn : Nat} {nb db : Nb}
    {tmps : Array Value} (hc : h.get l = some (.loop st p fn tm ps assign body dn)) (h1 : E l = some nb) (h2 : E dn = some db) (h3 : RT E tm tmps) (h0 : own nb.block = some l)
    (h4 : w.heap[nb.block]? = some (.loop { state := st, pending := p, fn, tmps, params := ps, assign, body, defers := db.block })) :
    Emb E own (h.set l (.loop st' p' fn tm ps assign body dn)) (w.putObj nb.block (.loop { state := st', pending := p', fn, tmps, params := ps, assign, body, defers := db.block })) ∧
    Tran E own h w E own (h.set l (.loop st' p' fn tm ps assign body dn)) (w.putObj nb.block (.loop { state := st', pending := p', fn, tmps, params := ps, assign, body, defers := db.block })) :=
  putObj_turn e hc h1 rfl (Array.getElem?_eq_some_iff.1 h4).1 (fun _ hw => ⟨h0, tmps, db, h2, h3, hw⟩)

/-! ### back to a caller -/
theorem creturn_ok {E : Env} {own : Own} {s : CS X} {w w' : World} {fr : Frame} {cs : List Frame} {f0 : FuncId} {E' : Env} {own' : Own} {h' : CHeap X} {dfd : Bool} {l : List CFr} {v : SV} {v' : Value} {r : CR X}
    (e : Emb E' own' h' w') (t : Tran E own s.h w E' own' h' w') (hcs : FL E' l cs) (hv : R E' v v')
    (hs : ∀ c rest, cs = c :: rest → ∀ base, step P (lone fr (cs ++ base) w) = .next (lone (if dfd then (match c.mode with
        | .panicking ({ recovered := true, .. } :: older) => (match older.dropWhile (!·.goexit) with
          | [] => { c with mode := .returning }
          | rest => { c with mode := .panicking rest })
        | _ => c) else c.finish v') (rest ++ base) w'))
    (hy : creturn dfd l h' v = r) : StepOK P E own s w fr cs f0 r := by
  subst hy
  unfold creturn
  cases hcs with
  | nil => trivial
  | @cons c fr1 l l' hc hl =>
    have hs := hs _ _ rfl
    obtain ⟨fn, tm, todo, defers, mode, dfd', ro, dead⟩ := c
    obtain ⟨fn1, tmps1, todo1, defers1, mode1, kind1, ro1⟩ := fr1
    have hmode := hc.mode
    cases dfd with
    | false =>
      simp only [Bool.false_eq_true, if_false] at hs
      cases hmode with
      | run =>
        simp only
        cases dead with
        | nil => exact stepOK_to e t (hc.finish rfl hv rfl) hl hs
        | cons d dead => trivial
      | returning => cases dead <;> trivial
      | panicking _ => cases dead <;> trivial
    | true =>
      simp only [if_true] at hs
      cases hmode with
      | run => exact stepOK_to e t hc hl hs
      | returning => exact stepOK_to e t hc hl hs
      | panicking hch =>
        cases hch with
        | nil => exact stepOK_to e t hc hl hs
        | @cons u u' rc l1 l1' hu hl1 =>
          cases rc with
          | false => exact stepOK_to e t hc hl hs
          | true =>
            simp only [hl1.noGoexit] at hs
            have hfr : FR E' ⟨fn, tm, todo, defers, .returning, dfd', ro, dead⟩ ⟨fn1, tmps1, todo1, defers1, .returning, kind1, ro1⟩ :=
              ⟨hc.fn, hc.n, hc.tm, fun hh => by simp at hh, hc.defers, .returning, hc.kind, hc.round⟩
            exact stepOK_to e t hfr hl hs

/-! ### the end of a body, or a jump out of it -/
inductive Leaves : List Item → Option Code → Prop
  | ended : Leaves [] none
  | ret (k : List Item) : Leaves (.code .ret :: k) (some .ret)
  | exit (id : Nat) (k : List Item) (h : Go.exitTo id k = none) : Leaves (.code (.exit id) :: k) (some (.exit id))
  | goto (l : Nat) (k : List Item) (h : Go.gotoIn l k = none) : Leaves (.code (.goto l) :: k) (some (.goto l))

theorem cleave_ok {E : Env} {own : Own} {h : CHeap X} {w : World} {b : Frame} {a : Act} {k : List Item} {cs : List Frame} {f0 : FuncId} {fn : FuncId} {tm : Tm} {todo todo2 : List CItem} {defers : List CDef} {dfd : Bool} {ro : Option Nat}
    {l : List CFr} {jump : Option Code} (e : Emb E own h w) (h1 : b.fn = fn) (h2 : RT E tm a.tmps) (h4 : DL E defers a.defers) (h5 : b.kind = kindOfB dfd) (h6 : RoR E ro b.roundOf)
    (hcs : FL E l cs) (hk : Leaves k jump) :
    StepOK P E own ⟨⟨fn, tm, todo, defers, .run, dfd, ro, []⟩, l, h⟩ w (b.atR a k) cs f0 (cleave ⟨fn, tm, todo2, defers, .run, dfd, ro, []⟩ l h jump) := by
  unfold cleave
  cases ro with
  | none =>
    have h6 : b.roundOf = none := h6
    have hfr : ∀ k, FR E ⟨fn, tm, todo2, defers, .returning, dfd, none, []⟩ { b.atR a k with mode := .returning } := fun k =>
      ⟨h1, h2.1, fun i _ => h2.2 i, fun hh => by simp at hh, h4, .returning, h5, h6⟩
    cases hk with
    | ended => exact stepOK_same (s := ⟨_, l, h⟩) e (hfr []) hcs (fun base => stepR_end h6)
    | ret k => exact stepOK_same (s := ⟨_, l, h⟩) e (hfr _) hcs (fun base => stepR_ret h6)
    | exit => trivial
    | goto => trivial
  | some lp =>
    obtain ⟨nb0, hnb0, hro⟩ := h6
    cases dfd with
    | true => trivial
    | false =>
      simp only
      split
      · rename_i st p lfn tmps params assign body dn _ hget
        obtain ⟨nb, db, tmps', g1, g2, g3, g0, g4⟩ := emb_loop e hget
        rw [hnb0] at g1; cases g1
        have hend := fun (j : Option Code) => run_endRound (P := P) j g4
        have hturn := fun (st' : LoopState) (p' : Option Code) => turn_loop (st' := st') (p' := p') e hget hnb0 g2 g3 g0 g4
        have hkind : b.kind = .normal := h5
        cases hk with
        | ended =>
          have ht := hturn .ready none
          exact creturn_ok ht.1 ht.2 hcs (.sc _) (fun c rest hc base => by subst hc; exact stepR_round_end hro hkind (hend none)) rfl
        | ret k =>
          have ht := hturn .done (some .ret)
          exact creturn_ok ht.1 ht.2 hcs (.sc _) (fun c rest hc base => by subst hc; exact stepR_round_ret hro hkind (hend (some .ret))) rfl
        | exit id k hx =>
          have ht := hturn .done (some (.exit id))
          exact creturn_ok ht.1 ht.2 hcs (.sc _) (fun c rest hc base => by subst hc; exact stepR_round_exit hro hkind hx (hend (some (.exit id)))) rfl
        | goto t k hx =>
          have ht := hturn .done (some (.goto t))
          exact creturn_ok ht.1 ht.2 hcs (.sc _) (fun c rest hc base => by subst hc; exact stepR_round_goto hro hkind hx (hend (some (.goto t)))) rfl
      · trivial

/-! ### results -/
def resOf (tmps : Array Value) : ResultVar → Sem Value
  | .tmp t => pure (tmps.getD t undef)
  | .cell a t => do loadVar t (← asAddr (tmps.getD a undef))

theorem cresults_ok (cfg : Cfg P) {E : Env} {own : Own} {h : CHeap X} {w : World} (e : Emb E own h w) {tm : Tm} {dead : List Nat} {tmps : Array Value} (ht : ∀ i, i ∉ dead → R E (tm.get i) (tmps.getD i undef)) :
    ∀ {l : List ResultVar} {r : List SV}, cresults cfg tm dead h l = some r → ∃ vs, (l.mapM (resOf tmps)).run P w = .ok vs w ∧ RL E r vs
  | [], r, hy => by simp only [cresults] at hy; cases hy; exact ⟨[], by simp, .nil⟩
  | .tmp t :: l, r, hy => by
    simp only [cresults] at hy
    split at hy
    · cases hy
    · rename_i hd
      split at hy
      · rename_i r' hr
        cases hy
        obtain ⟨vs, h1, h2⟩ := cresults_ok cfg e ht hr
        have hd' : t ∉ dead := by simpa using hd
        refine ⟨tmps.getD t undef :: vs, ?_, .cons (ht t hd') h2⟩
        rw [List.mapM_cons]
        simp only [Sem.run_bind, h1, resOf, Sem.run_pure, Result.andThen_ok]
      · cases hy
  | .cell a t :: l, r, hy => by
    simp only [cresults] at hy
    split at hy
    · cases hy
    · rename_i hd
      split at hy
      · rename_i v hv
        split at hy
        · rename_i r' hr
          cases hy
          obtain ⟨vs, h1, h2⟩ := cresults_ok cfg e ht hr
          have hd' : a ∉ dead := by simpa using hd
          obtain ⟨u, q1, q2⟩ := vload_ok (P := P) cfg e (ht a hd') hv
          refine ⟨u :: vs, ?_, .cons q2 h2⟩
          have hres : (resOf tmps (.cell a t)).run P w = .ok u w := by
            cases hx : tm.get a with
            | ptr n off =>
              have hra := ht a hd'
              rw [hx] at hra
              simp only [resOf]
              generalize tmps.getD a undef = z at hra q1
              cases hra with
              | ptr hn =>
                simp only [Instr.loadAt, Instr.sureAddr] at q1
                simpa [asAddr] using q1
            | _ => simp [vload, hx] at hv
          rw [List.mapM_cons]
          simp only [Sem.run_bind, h1, hres, Sem.run_pure, Result.andThen_ok]
        · cases hy
      · cases hy

def resV : List Value → Value
  | [v] => v
  | vs => .tuple vs.toArray

theorem results_run (fn : Func) (tmps : Array Value) {w : World} {vs : List Value} (h : (fn.results.toList.mapM (resOf tmps)).run P w = .ok vs w) :
    (results fn tmps).run P w = .ok (resV vs) w := by
  have hm : (fn.results.mapM (resOf tmps)).run P w = .ok vs.toArray w := by
    rw [Array.mapM_eq_mapM_toList]
    simp only [map_eq_pure_bind, Sem.run_bind, h, Result.andThen_ok, Sem.run_pure]
  have hr : results fn tmps = (do let vs ← fn.results.mapM (resOf tmps); pure (if h : vs.size = 1 then vs[0] else .tuple vs)) := rfl
  rw [hr]
  simp only [Sem.run_bind, hm, Result.andThen_ok, Sem.run_pure]
  match vs with
  | [] => rfl
  | [v] => rfl
  | v :: u :: l => simp [resV]

theorem cresult_ok {E : Env} {r : List SV} {vs : List Value} (h : RL E r vs) : R E (cresult r) (resV vs) := by
  cases h with
  | nil => exact .tup .nil
  | cons h1 h2 =>
    cases h2 with
    | nil => exact h1
    | cons h3 h4 => exact .tup (.cons h1 (.cons h3 h4))

/-! ### entering -/
theorem center_ok (cfg : Cfg P) {E : Env} {f : FuncId} {c : CFn} (hf : cfg.C f = some c) {args : List SV} {args' : List Value} (ha : RL E args args') (dfd : Bool) :
    FR E (center c f args dfd) (Frame.enter P f args'.toArray (kindOfB dfd)) := by
  obtain ⟨fn, h1, h2, h3, h4, _⟩ := cfg.hC hf
  obtain ⟨body, ntmps, results⟩ := c
  simp only at h2 h3 h4
  have hfr : Frame.enter P f args'.toArray (kindOfB dfd) =
      { fn := f, tmps := args'.toArray ++ Array.replicate (ntmps - args'.toArray.size) undef, todo := [.code body], defers := [], mode := .run, kind := kindOfB dfd } := by
    simp [Frame.enter, h1, h2, h3]
  rw [hfr]
  have ht := RT.enter ha ntmps
  exact ⟨rfl, ht.1, fun i _ => ht.2 i, fun _ => .cons (.code _) .nil, .nil, .run, rfl, rfl⟩

/-! ### a frame that unwinds -/
theorem step_result {fr c : Frame} {cs : List Frame} {w : World} {v : Value} {fn : Func} (hm : fr.mode = .returning) (hd : fr.defers = []) (hf : P.funcs[fr.fn]? = some fn) (hr : (results fn fr.tmps).run P w = .ok v w)
    {dfd : Bool} (hk : fr.kind = kindOfB dfd) :
    step P (lone fr (c :: cs) w) = .next (lone (if dfd then (match c.mode with
        | .panicking ({ recovered := true, .. } :: older) => (match older.dropWhile (!·.goexit) with
          | [] => { c with mode := .returning }
          | rest => { c with mode := .panicking rest })
        | _ => c) else c.finish v) cs w) := by
  refine step_lone_go ?_
  cases dfd with
  | false => simp [stepG, unwind, doReturn, hm, hd, hf, hr, hk, kindOfB]
  | true =>
    simp only [stepG, unwind, doReturn, hm, hd, hk, hf, Sem.runT_eq, hr, GStep.bare_after, GStep.bare_go, kindOfB, if_true]
    rfl

theorem cunwind_ok (cfg : Cfg P) {E : Env} {own : Own} {h : CHeap X} {w : World} {c : CFr} {fr : Frame} {l : List CFr} {cs : List Frame} {f0 : FuncId}
    (e : Emb E own h w) (hfr : FR E c fr) (hcs : FL E l cs) (hm : fr.mode ≠ .run) : StepOK P E own ⟨c, l, h⟩ w fr cs f0 (cunwind cfg f0 c l h) := by
  obtain ⟨fn, tm, todo, defers, mode, dfd, ro, dead⟩ := c
  unfold cunwind
  have hdef := hfr.defers
  simp only at hdef ⊢
  generalize hds : fr.defers = ds' at hdef
  cases hdef with
  | nil =>
    simp only
    split
    · trivial
    · rename_i body ntmps results hc
      obtain ⟨func, g1, g2, g3, g4, _⟩ := cfg.hC hc
      simp only at g2 g3 g4
      have hfn : fr.fn = fn := hfr.fn
      have hmode := hfr.mode
      simp only at hmode
      generalize hmd : fr.mode = md at hmode hm
      cases hmode with
      | run => exact absurd rfl hm
      | @panicking ch ch' hch =>
        simp only
        cases hcs with
        | nil =>
          simp only
          split
          · rename_i hbeq
            exact ⟨rfl, rfl, hfn.trans (Nat.eq_of_beq_eq_true hbeq), .panicked ch', hch, ⟨hmd, hds, func, by rw [hfn]; exact g1⟩, by simp⟩
          · trivial
        | @cons c2 fr2 l2 cs2 hc2 hl2 =>
          exact stepOK_same (s := ⟨_, _, h⟩) e (hc2.raise hch) hl2 (fun base => step_lone_go (by simp [stepG, unwind, Frame.catches, hmd, hds, hfn, g1]))
      | returning =>
        simp only
        split
        · trivial
        · rename_i rl hrl
          rw [← g4] at hrl
          obtain ⟨vs, q1, q2⟩ := cresults_ok (P := P) cfg e hfr.tm hrl
          have hres := results_run (P := P) func fr.tmps q1
          have hv := cresult_ok q2
          cases hcs with
          | nil =>
            simp only
            split
            · rename_i hbeq
              simp only [Bool.and_eq_true, Bool.not_eq_true'] at hbeq
              have hk := hfr.kind
              simp only [hbeq.2] at hk
              exact ⟨rfl, rfl, hfn.trans (Nat.eq_of_beq_eq_true hbeq.1), .returned _, hv, ⟨hmd, hds, hk, func, by rw [hfn]; exact g1, hres⟩, by simp⟩
            · trivial
          | @cons c2 fr2 l2 cs2 hc2 hl2 =>
            simp only
            refine creturn_ok (s := ⟨_, _, h⟩) e (Tran.refl _ _ _ _) (.cons hc2 hl2) hv ?_ rfl
            intro c3 rest hc3 base
            cases hc3
            exact step_result hmd hds (by rw [hfn]; exact g1) hres hfr.kind
  | @cons d d' ds ds' hd hdl =>
    cases hd with
    | @call g cap args cap' args' hcap hargs =>
      simp only
      split
      · rename_i f as hinv
        split
        · rename_i c' hC
          obtain ⟨as', q1, q2⟩ := cinvoke_ok cfg e hcap hargs hinv
          have hstep : ∀ base, step P (lone fr (cs ++ base) w) = .next (lone (Frame.enter P f as'.toArray .deferred) ({ fr with defers := ds' } :: cs ++ base) w) :=
            fun base => step_defer hm hds rfl q1
          refine stepOK_same (s := ⟨_, _, h⟩) e (center_ok cfg hC q2 true) (.cons ?_ hcs) hstep
          exact ⟨hfr.fn, hfr.n, hfr.tm, fun hh => absurd hh hm, hdl, hfr.mode, hfr.kind, hfr.round⟩
        · trivial
      · trivial
    | @mark n nb hn =>
      simp only
      split
      · rename_i hget
        obtain ⟨nb', g1, g0, g2⟩ := e.ch n _ hget
        rw [hn] at g1; cases g1
        simp only [if_true] at g2
        have htake := run_takeDeferred (P := P) g2
        have ht := putObj_turn (c' := .deferred false) (o' := .deferred none) e hget hn rfl (Array.getElem?_eq_some_iff.1 g2).1 (fun w' hw => ⟨g0, hw⟩)
        have hstep : ∀ base, step P (lone fr (cs ++ base) w) = .next (lone { fr with defers := ds' } (cs ++ base) (w.putObj nb.block (.deferred none))) := fun base => by
          refine step_lone_go ?_
          cases hmode : fr.mode with
          | run => exact absurd hmode hm
          | returning => simp [stepG, unwind, hmode, hds, Sem.runT_eq, htake, GStep.bare_after]
          | panicking chain => simp [stepG, unwind, hmode, hds, Sem.runT_eq, htake, GStep.bare_after]
        have hfr' : FR E ⟨fn, tm, todo, ds, mode, dfd, ro, dead⟩ { fr with defers := ds' } := ⟨hfr.fn, hfr.n, hfr.tm, fun hh => absurd hh hm, hdl, hfr.mode, hfr.kind, hfr.round⟩
        exact stepOK_to ht.1 ht.2 hfr' hcs hstep
      · trivial

/-! ### one operation -/
theorem setParams_ok {E : Env} : ∀ {ps : List Tmp} {xs : List SV} {vs : List Value} {t t' : Tm} {a : Array Value}, setParams ps xs t = some t' → RL E xs vs → RT E t a →
    ps.length = vs.length ∧ RT E t' ((ps.zip vs).foldl (fun tmps (p, v) => tmps.setIfInBounds p v) a)
  | [], [], vs, t, t', a, h, hl, ht => by cases hl; simp only [setParams] at h; cases h; exact ⟨rfl, ht⟩
  | p :: ps, x :: xs, vs, t, t', a, h, hl, ht => by
    cases hl with
    | cons hx hl =>
      simp only [setParams] at h
      obtain ⟨h1, h2⟩ := setParams_ok h hl (ht.set p hx)
      exact ⟨by simp [h1], h2⟩
  | [], _ :: _, _, _, _, _, h, _, _ => by simp [setParams] at h
  | _ :: _, [], _, _, _, _, h, _, _ => by simp [setParams] at h

theorem tryRecover_ok {E : Env} {fr : Frame} {dfd : Bool} {l : List CFr} {cs : List Frame} (hk : fr.kind = kindOfB dfd) (hcs : FL E l cs) {r : Option (SV × List CFr)} (hy : ctryRecover dfd l = some r) (base : List Frame) :
    match r with
    | none => tryRecover fr (cs ++ base) = none
    | some (v, l') => ∃ v' cs', R E v v' ∧ FL E l' cs' ∧ tryRecover fr (cs ++ base) = some (v', cs' ++ base) := by
  unfold ctryRecover at hy
  cases dfd with
  | false => cases hy; simp [tryRecover, hk, kindOfB]
  | true =>
    have hk : fr.kind = .deferred := hk
    cases hcs with
    | nil => cases hy
    | @cons c fr1 l1 cs1 hc hl =>
      obtain ⟨fn, tm, todo, defers, mode, dfd', ro, dead⟩ := c
      have hmode := hc.mode
      simp only at hy hmode
      generalize hmd : fr1.mode = md at hmode
      cases hmode with
      | run => cases hy; simp [tryRecover, hk, hmd]
      | returning => cases hy; simp [tryRecover, hk, hmd]
      | panicking hch =>
        cases hch with
        | nil => cases hy; simp [tryRecover, hk, hmd]
        | @cons v v' rc l2 l2' hv hl2 =>
          cases rc with
          | true => cases hy; simp [tryRecover, hk, hmd]
          | false =>
            cases hy
            refine ⟨v', { fr1 with mode := .panicking ({ v := v', recovered := true } :: l2') } :: cs1, hv, .cons ⟨hc.fn, hc.n, hc.tm, fun hh => by simp at hh, hc.defers, .panicking (.cons hv hl2), hc.kind, hc.round⟩ hl, ?_⟩
            simp [tryRecover, hk, hmd]

/-- What is known of a call's ending, at the caller. -/
theorem call_ends {E : Env} {own : Own} {h : CHeap X} {w : World} {b : Frame} {a : Act} {ops : Array Oper} {i : Nat} {k : List Item} {cs : List Frame} {f : FuncId} {args' : List Value} {r : CEnd} {h' : CHeap X}
    (hc : Calls P f args'.toArray w (fun e w' => ∃ E' own', Emb E' own' h' w' ∧ Tran E own h w E' own' h' w' ∧ ER E' r e))
    {rest : List Nat} (hs : ∀ cs, step P (lone (b.atR a (.inRegion ops (i :: rest) :: k)) cs w) = .next (lone (Frame.enter P f args'.toArray .normal) (b.atR a (.inRegion ops (i :: rest) :: k) :: cs) w)) :
    ∃ E' own' w', Emb E' own' h' w' ∧ Tran E own h w E' own' h' w' ∧ match r with
      | .ret v => ∃ v', R E' v v' ∧ Steps P (lone (b.atR a (.inRegion ops (i :: rest) :: k)) cs w) (lone ((b.atR a (.inRegion ops (i :: rest) :: k)).finish v') cs w')
      | .panic c => ∃ c', CH E' c c' ∧ Steps P (lone (b.atR a (.inRegion ops (i :: rest) :: k)) cs w) (lone ((b.atR a (.inRegion ops (i :: rest) :: k)).raise c') cs w') := by
  obtain ⟨e, w', fr, ⟨E', own', h1, h2, h3⟩, hcomes, hfn, hl⟩ := hc (b.atR a (.inRegion ops (i :: rest) :: k) :: cs)
  refine ⟨E', own', w', h1, h2, ?_⟩
  cases r with
  | ret v =>
    cases e with
    | returned v' => exact ⟨v', h3, .head (hs cs) (Steps.trans hcomes (.one (step_leave_returned hl)))⟩
    | panicked c => exact h3.elim
    | outgrown => exact h3.elim
  | panic c =>
    cases e with
    | returned v' => exact h3.elim
    | panicked c' => exact ⟨c', h3, .head (hs cs) (Steps.trans hcomes (.one (step_leave_panicked hl)))⟩
    | outgrown => exact h3.elim

section
variable {b : Frame} {a : Act} {ops : Array Oper} {i : Nat} {rest : List Nat} {k : List Item} {cs : List Frame} {w w' : World} {o : Oper}

theorem sop_value (ho : ops[i]? = some o) (hw : Region.wanted o (yielded ops a.tmps) = true) {v : Value} (hr : (o.semAt b.roundOf a.eval).run P w = .ok (.value v) w') :
    step P (lone (b.atR a (.inRegion ops (i :: rest) :: k)) cs w) = .next (lone ((b.atR a (.inRegion ops (i :: rest) :: k)).finish v) cs w') :=
  step_lone_go (by rw [stepGR_op ho hw]; simp [stepG.apply, hr])

theorem sop_skip (ho : ops[i]? = some o) (hw : Region.wanted o (yielded ops a.tmps) = true) (hr : (o.semAt b.roundOf a.eval).run P w = .ok .skip w') :
    step P (lone (b.atR a (.inRegion ops (i :: rest) :: k)) cs w) = .next (lone ((b.atR a (.inRegion ops (i :: rest) :: k)).finish undef) cs w') :=
  step_lone_go (by rw [stepGR_op ho hw]; simp [stepG.apply, hr])

theorem sop_enter (ho : ops[i]? = some o) (hw : Region.wanted o (yielded ops a.tmps) = true) {f : FuncId} {args : Array Value} (hr : (o.semAt b.roundOf a.eval).run P w = .ok (.enter f args) w') :
    step P (lone (b.atR a (.inRegion ops (i :: rest) :: k)) cs w) = .next (lone (Frame.enter P f args .normal) (b.atR a (.inRegion ops (i :: rest) :: k) :: cs) w') :=
  step_lone_go (by rw [stepGR_op ho hw]; simp [stepG.apply, hr, Frame.atR])

theorem sop_round (ho : ops[i]? = some o) (hw : Region.wanted o (yielded ops a.tmps) = true) {l : Nat} {f : FuncId} {tmps : Array Value} {assign body : Code}
    (hr : (o.semAt b.roundOf a.eval).run P w = .ok (.round l f tmps assign body) w') :
    step P (lone (b.atR a (.inRegion ops (i :: rest) :: k)) cs w) = .next (lone (Frame.round l f tmps assign body .normal) (b.atR a (.inRegion ops (i :: rest) :: k) :: cs) w') :=
  step_lone_go (by rw [stepGR_op ho hw]; simp [stepG.apply, hr])

theorem sop_panic (ho : ops[i]? = some o) (hw : Region.wanted o (yielded ops a.tmps) = true) {v : Value} (hr : (o.semAt b.roundOf a.eval).run P w = .halt (.panic v) w') :
    step P (lone (b.atR a (.inRegion ops (i :: rest) :: k)) cs w) = .next (lone ((b.atR a (.inRegion ops (i :: rest) :: k)).raise [{ v, recovered := false }]) cs w') :=
  step_lone_go (by rw [stepGR_op ho hw]; simp [stepG.apply, hr])

theorem sop_defer (ho : ops[i]? = some o) (hw : Region.wanted o (yielded ops a.tmps) = true) {d : Deferred} (hr : (o.semAt b.roundOf a.eval).run P w = .ok (.defer d) w') :
    step P (lone (b.atR a (.inRegion ops (i :: rest) :: k)) cs w) = .next (lone ((b.atR ⟨a.tmps, d :: a.defers⟩ (.inRegion ops (i :: rest) :: k)).finish undef) cs w') :=
  step_lone_go (by rw [stepGR_op ho hw]; simp [stepG.apply, hr]; rfl)

theorem sop_recover (ho : ops[i]? = some o) (hw : Region.wanted o (yielded ops a.tmps) = true) (hro : b.roundOf = none) (hr : (o.semAt b.roundOf a.eval).run P w = .ok .recover w') :
    step P (lone (b.atR a (.inRegion ops (i :: rest) :: k)) cs w) = (match tryRecover (b.atR a (.inRegion ops (i :: rest) :: k)) cs with
      | some (v, cs') => .next (lone ((b.atR a (.inRegion ops (i :: rest) :: k)).finish v) cs' w')
      | none => .next (lone ((b.atR a (.inRegion ops (i :: rest) :: k)).finish .nilIface) cs w')) := by
  have hro' : (b.atR a (.inRegion ops (i :: rest) :: k)).roundOf = none := hro
  cases ht : tryRecover (b.atR a (.inRegion ops (i :: rest) :: k)) cs with
  | none => exact step_lone_go (by rw [stepGR_op ho hw]; simp [stepG.apply, hr, hro', ht])
  | some p => obtain ⟨v, cs'⟩ := p; exact step_lone_go (by rw [stepGR_op ho hw]; simp [stepG.apply, hr, hro', ht])
end
end Cam

/- Cam, part S: one step is sound: an operation; code. -/
import Derived.Test.YtiagdfbhagiigaaGreatCamR
namespace Cam
open Go Go.Lib
variable {X : Type} [AbsRep X] {P : Program}

omit [AbsRep X] in
theorem cop_noDefer (cfg : Cfg P) {h : CHeap X} {ρ : Operand → SV} {o : Oper} {r : CNext X} (hy : cop cfg h ρ o = some r) (hr : ∀ d, r ≠ .defer d) (c : Call) : o.op ≠ .defer c := by
  intro ho
  simp only [cop, ho] at hy
  split at hy
  · split at hy
    · cases hy; exact hr _ rfl
    · cases hy
  · cases hy

theorem capply_ok (cfg : Cfg P) {sum : Orc X} (hsum : OrcOK P sum) {E : Env} {own : Own} {h : CHeap X} {w : World} (e : Emb E own h w) {b : Frame} {a : Act} {ops : Array Oper} {i : Nat} {rest : List Nat} {k : List Item} {cs : List Frame}
    {c : CFr} {l : List CFr} {f0 : FuncId} {o : Oper} (hfr : FR E c (b.atR a (.inRegion ops (i :: rest) :: k))) (hcm : c.mode = .run) (hcd : c.dead = []) (hcs : FL E l cs) (ho : ops[i]? = some o) (hw : Region.wanted o (yielded ops a.tmps) = true) :
    StepOK P E own ⟨c, l, h⟩ w (b.atR a (.inRegion ops (i :: rest) :: k)) cs f0 (capply cfg sum c l h (cop cfg h (cev c.tm) o)) := by
  have hrt : RT E c.tm a.tmps := ⟨hfr.n, fun i => hfr.tm i (by rw [hcd]; simp)⟩
  have hρ : ∀ x, R E (cev c.tm x) (a.eval x) := hrt.eval (ds := a.defers)
  cases hy : cop cfg h (cev c.tm) o with
  | none => trivial
  | some r =>
    have hok := cop_ok (P := P) cfg e hρ hy
    have hsem : (∀ d, r ≠ .defer d) → o.semAt b.roundOf a.eval = execOp a.eval o := fun hr => Oper.semAt_eq _ _ _ (cop_noDefer cfg hy hr)
    cases r with
    | value v h' =>
      obtain ⟨v', E', own', w', h1, h2, h3, h4⟩ := hok
      rw [← hsem (by simp)] at h1
      exact stepOK_to h2 h3 ((hfr.mono h3.ext).finish hcm h4 hcd) (hcs.mono h3.ext) (fun base => sop_value ho hw h1)
    | skip h' =>
      obtain ⟨E', own', w', h1, h2, h3⟩ := hok
      rw [← hsem (by simp)] at h1
      exact stepOK_to h2 h3 ((hfr.mono h3.ext).finish hcm (.sc _) hcd) (hcs.mono h3.ext) (fun base => sop_skip ho hw h1)
    | enter f args =>
      obtain ⟨args', h1, h2⟩ := hok
      rw [← hsem (by simp)] at h1
      have hstep := fun cs => sop_enter (P := P) (k := k) (cs := cs) (rest := rest) ho hw h1
      simp only [capply]
      cases hs : sum f args h with
      | none =>
        simp only
        split
        · rename_i cc hC
          exact stepOK_same (s := ⟨c, l, h⟩) (l' := c :: l) e (center_ok cfg hC h2 false) (.cons hfr hcs) (fun base => hstep _)
        · trivial
      | some p =>
        obtain ⟨r, h'⟩ := p
        have hcall := hsum f args h r h' hs E own w args' e h2
        cases r with
        | ret v =>
          intro base
          obtain ⟨E', own', w', q1, q2, v', q3, q4⟩ := call_ends (cs := cs ++ base) hcall hstep
          exact ⟨E', own', w', _, cs, q4, q1, q2, (hfr.mono q2.ext).finish hcm q3 hcd, hcs.mono q2.ext⟩
        | panic ch =>
          intro base
          obtain ⟨E', own', w', q1, q2, v', q3, q4⟩ := call_ends (cs := cs ++ base) hcall hstep
          exact ⟨E', own', w', _, cs, q4, q1, q2, (hfr.mono q2.ext).raise q3, hcs.mono q2.ext⟩
    | round lp args =>
      obtain ⟨nb, args', hnb, h2, h1⟩ := hok
      simp only [capply]
      split
      · rename_i st p fn tmps params assign body dn hget
        split
        · rename_i tm hset
          obtain ⟨nb', db, tmps', g1, g2, g3, g0, g4⟩ := emb_loop e hget
          rw [hnb] at g1; cases g1
          obtain ⟨hlen, hrt'⟩ := setParams_ok hset h2 g3
          have hyield := run_yield (P := P) (args := args'.toArray) g4 (by simp only [List.size_toArray]; rw [← hlen]; simp)
          rw [hyield, ← hsem (by simp)] at h1
          have hzip : (params.zip args'.toArray).foldl (fun tmps (p, v) => tmps.setIfInBounds p v) tmps' = (params.toList.zip args').foldl (fun tmps (p, v) => tmps.setIfInBounds p v) tmps' := by
            rw [← Array.foldl_toList, Array.toList_zip]
          have hfr2 : FR E ⟨fn, tm, [.code assign, .beginRound, .code body], [], .run, false, some lp, []⟩
              (Frame.round nb.block fn ((params.zip args'.toArray).foldl (fun tmps (p, v) => tmps.setIfInBounds p v) tmps') assign body .normal) := by
            refine ⟨rfl, ?_, fun i _ => ?_, fun _ => .cons (.code _) (.cons .beginRound (.cons (.code _) .nil)), .nil, .run, rfl, ⟨nb, hnb, rfl⟩⟩
            · simp only [Frame.round]; rw [hzip]; exact hrt'.1
            · simp only [Frame.round]; rw [hzip]; exact hrt'.2 i
          exact stepOK_same (s := ⟨c, l, h⟩) (l' := c :: l) e hfr2 (.cons hfr hcs) (fun base => sop_round ho hw h1)
        · trivial
      · trivial
    | defer d =>
      obtain ⟨d', h1, h2⟩ := hok
      obtain ⟨fn, tm, todo, defers, mode, dfd, ro, dead⟩ := c
      simp only at hcm hcd
      subst hcm hcd
      simp only [capply]
      cases ro with
      | some _ => trivial
      | none =>
        have hro : b.roundOf = none := hfr.round
        have h1' : (o.semAt b.roundOf a.eval).run P w = .ok (.defer d') w := by rw [hro]; exact h1
        have hfr2 : FR E ⟨fn, tm, todo, d :: defers, .run, dfd, none, []⟩ (b.atR ⟨a.tmps, d' :: a.defers⟩ (.inRegion ops (i :: rest) :: k)) :=
          ⟨hfr.fn, hfr.n, hfr.tm, fun _ => hfr.todo rfl, .cons h2 hfr.defers, .run, hfr.kind, hfr.round⟩
        exact stepOK_same (s := ⟨_, l, h⟩) e (hfr2.finish rfl (.sc _) rfl) hcs (fun base => sop_defer ho hw h1')
    | recover =>
      have h1 : (execOp a.eval o).run P w = .ok .recover w := hok
      rw [← hsem (by simp)] at h1
      obtain ⟨fn, tm, todo, defers, mode, dfd, ro, dead⟩ := c
      simp only at hcm hcd
      subst hcm hcd
      simp only [capply]
      cases ro with
      | some _ => trivial
      | none =>
        have hro : b.roundOf = none := hfr.round
        have hstep := fun cs => sop_recover (P := P) (k := k) (cs := cs) (rest := rest) ho hw hro h1
        simp only
        cases hrec : ctryRecover dfd l with
        | none => trivial
        | some r =>
          have htr := tryRecover_ok hfr.kind hcs hrec
          cases r with
          | none =>
            exact stepOK_same (s := ⟨_, l, h⟩) e (hfr.finish rfl (.sc _) rfl) hcs (fun base => by rw [hstep, htr base])
          | some p =>
            obtain ⟨v, l'⟩ := p
            intro base
            obtain ⟨v', cs', q1, q2, q3⟩ := htr base
            exact ⟨E, own, w, _, cs', .one (by rw [hstep, q3]), e, Tran.refl _ _ _ _, hfr.finish rfl q1 rfl, q2⟩
    | panic v =>
      obtain ⟨v', h1, h2⟩ := hok
      rw [← hsem (by simp)] at h1
      exact stepOK_same (s := ⟨c, l, h⟩) e (hfr.raise (.cons h2 .nil)) hcs (fun base => sop_panic ho hw h1)

theorem emb_new {E : Env} {own : Own} {h : CHeap X} {w : World} (e : Emb E own h w) (o : Obj) (c : Chunk X)
    (hok : ∀ (E' : Env) (own' : Own) (w' : World), Ext E E' → own' w.heap.size = some h.next → w'.heap[w.heap.size]? = some o → ChunkOK E' own' w' h.next ⟨w.heap.size, 0, 0⟩ c) :
    ∃ E' own', Emb E' own' (h.push c) (w.alloc o) ∧ Tran E own h w E' own' (h.push c) (w.alloc o) ∧ E' h.next = some ⟨w.heap.size, 0, 0⟩ := by
  have := e.grow o c 0 0 { w with heap := w.heap } rfl rfl rfl rfl hok
  exact this

/-- The one call of a range over a function. -/
theorem range_call (cfg : Cfg P) {E : Env} {own : Own} {h : CHeap X} {w w0 : World} (e : Emb E own h w) {b : Frame} {a : Act} {tm : Tm} (ht : RT E tm a.tmps) {f : Operand} {g : Fn} {first cap : List SV} {n1 : Nat} {nb : Nb}
    (hf : (cev tm f).fn? = some (g, first, cap)) (hn : E n1 = some nb) {g' : FuncId} {args : List SV} (hinv : cinvoke cfg h g cap (first ++ [.yld n1]) = some (.enter g' args)) {params : Array Tmp} {assign body : Code} {mark : List Deferred}
    (hen : (Instr.enterLoop b.fn a.tmps params assign body b.roundOf).run P w0 = .ok (nb.block, mark) w) :
    ∃ args', RL E args args' ∧ ∀ (k : List Item) (cs : List Frame), step P (lone (b.atR a (.code (.rangeFunc f params assign body) :: k)) cs w0) =
      .next (lone (Frame.enter P g' args'.toArray .normal) (b.atR { a with defers := mark ++ a.defers } (.inRangeFunc nb.block :: k) :: cs) w) := by
  obtain ⟨first', cap', hv, h1, h2⟩ := SV.fn_eq hf (ht.eval (ds := a.defers) f)
  obtain ⟨args', q1, q2⟩ := cinvoke_ok (P := P) cfg e h2 (h1.append (.cons (.yld hn) .nil)) hinv
  refine ⟨args', q2, fun k cs => stepR_rangeFunc (d := { target := .fn g cap'.toArray, args := (first' ++ [Value.func (.yield nb.block) #[] #[]]).toArray }) hen ?_ q1⟩
  have hv' : a.eval f = .func g first'.toArray cap'.toArray := hv
  simp only [resolve, hv', Deferred.ofValue]
  simp [Act.eval]

theorem crun1_ok (cfg : Cfg P) {sum orc : Orc X} (hsum : OrcOK P sum) (hdr : DrawnOK cfg orc) {E : Env} {own : Own} {h : CHeap X} {w : World} (e : Emb E own h w) {fn : FuncId} {tm : Tm} {todo : List CItem} {defers : List CDef} {dfd : Bool} {ro : Option Nat}
    {fr : Frame} {l : List CFr} {cs : List Frame} {f0 : FuncId} (hfr : FR E ⟨fn, tm, todo, defers, .run, dfd, ro, []⟩ fr) (hcs : FL E l cs) :
    StepOK P E own ⟨⟨fn, tm, todo, defers, .run, dfd, ro, []⟩, l, h⟩ w fr cs f0 (crun1 cfg sum orc fn tm todo defers dfd ro l h) := by
  obtain ⟨b, a, k, rfl, h1, h2, h3, h4, h5, h6⟩ := hfr.run
  have to : ∀ {todo' : List CItem} {k' : List Item}, IL E todo' k' → (∀ base, step P (lone (b.atR a k) (cs ++ base) w) = .next (lone (b.atR a k') (cs ++ base) w)) →
      StepOK P E own ⟨⟨fn, tm, todo, defers, .run, dfd, ro, []⟩, l, h⟩ w (b.atR a k) cs f0 (.next ⟨⟨fn, tm, todo', defers, .run, dfd, ro, []⟩, l, h⟩) :=
    fun hk hs => stepOK_same (s := ⟨_, l, h⟩) e (FR.of_run h1 h2 hk h4 h5 h6) hcs hs
  unfold crun1
  cases h3 with
  | nil => exact cleave_ok e h1 h2 h4 h5 h6 hcs .ended
  | @cons x y todo k hx hk =>
    cases hx with
    | inBlock id => exact to hk (fun _ => stepR_inBlock)
    | inScope id => exact to hk (fun _ => step_lone_go (by simp [stepG, stepG.exec, Frame.atR]))
    | inLoop body => exact to (.cons (.code _) (.cons (.inLoop _) hk)) (fun _ => stepR_inLoop)
    | inRangeFunc => trivial
    | beginRound =>
      cases ro with
      | none => trivial
      | some lp =>
        obtain ⟨nb0, hnb0, hro⟩ := h6
        simp only
        split
        · rename_i p lfn tmps params assign body dn hget
          obtain ⟨nb, db, tmps', g1, g2, g3, g0, g4⟩ := emb_loop e hget
          rw [hnb0] at g1; cases g1
          have ht := turn_loop (st' := .busy) (p' := p) e hget hnb0 g2 g3 g0 g4
          exact stepOK_to (s := ⟨_, l, h⟩) ht.1 ht.2 (FR.of_run h1 h2 hk h4 h5 ⟨nb0, hnb0, hro⟩) hcs (fun base => stepR_beginRound hro (run_beginRound g4 rfl))
        · trivial
    | @endRangeFunc lp nb0 hnb0 =>
      simp only
      split
      · trivial
      · rename_i st p lfn tmps params assign body dn hnb hget
        obtain ⟨nb, db, tmps', g1, g2, g3, g0, g4⟩ := emb_loop e hget
        rw [hnb0] at g1; cases g1
        have hst : st ≠ .busy := fun hb => by subst hb; exact hnb rfl
        have hend := run_endLoop (P := P) g4 hst
        cases p with
        | none =>
          have ht := turn_loop (st' := .exhausted) (p' := none) e hget hnb0 g2 g3 g0 g4
          exact stepOK_to (s := ⟨_, l, h⟩) ht.1 ht.2 (FR.of_run h1 h2 hk h4 h5 h6) hcs (fun base => stepR_endRangeFunc hend)
        | some c =>
          have ht := turn_loop (st' := .exhausted) (p' := some c) e hget hnb0 g2 g3 g0 g4
          exact stepOK_to (s := ⟨_, l, h⟩) ht.1 ht.2 (FR.of_run h1 h2 (.cons (.code c) hk) h4 h5 h6) hcs (fun base => stepR_endRangeFunc hend)
      · trivial
    | @inRegion ops i rest hr =>
      cases rest with
      | nil => exact to hk (fun _ => stepR_region_end)
      | cons o rest =>
        have ho : ops[i]? = some o := by
          have := congrArg (·[0]?) hr
          simpa using this
        simp only
        split
        · rename_i hw
          have hw' := h2.wanted hw
          exact capply_ok (c := ⟨fn, tm, .inRegion ops i (o :: rest) :: todo, defers, .run, dfd, ro, []⟩) cfg hsum e hfr rfl rfl hcs ho hw'
        · rename_i hw
          have hw' := h2.wanted hw
          have hs := fun cs => stepR_op_skip (P := P) (b := b) (a := a) (k := k) (cs := cs) (w := w) (ops := ops) (i := i) (rest := List.range' (i + 1) rest.length) (by simp [ho, hw'])
          rw [ho] at hs
          have hr' : ops.toList.drop (i + 1) = rest := by rw [← List.drop_drop, hr]; rfl
          refine stepOK_same (s := ⟨_, l, h⟩) e (FR.of_run h1 (h2.put (ds := a.defers) o.dst (.sc undef)) (.cons (.inRegion hr') hk) ?_ h5 h6) hcs (fun base => hs _)
          cases o.dst <;> exact h4
        · trivial
    | code c =>
      cases c with
      | skip => exact to hk (fun _ => stepR_skip)
      | label n => exact to hk (fun _ => stepR_label)
      | seq x y => exact to (.cons (.code _) (.cons (.code _) hk)) (fun _ => stepR_seq)
      | block id body => exact to (.cons (.code _) (.cons (.inBlock _) hk)) (fun _ => stepR_block)
      | loop body => exact to (.cons (.code _) (.cons (.inLoop _) hk)) (fun _ => stepR_loop)
      | scope body => exact to (.cons (.code _) (.cons (.inScope _) hk)) (fun _ => step_lone_go (by simp [stepG, stepG.exec, Frame.atR]))
      | ret => exact cleave_ok e h1 h2 h4 h5 h6 hcs (.ret k)
      | refuse => trivial
      | cond c x y =>
        simp only
        split
        · rename_i hc
          exact to (.cons (.code _) hk) (fun _ => stepR_cond (t := true) (svBool_ok hc (h2.eval (ds := a.defers) c)))
        · rename_i hc
          exact to (.cons (.code _) hk) (fun _ => stepR_cond (t := false) (svBool_ok hc (h2.eval (ds := a.defers) c)))
        · trivial
      | exit id =>
        have hx := hk.exitTo id
        simp only
        split
        · rename_i k' hk'
          rw [hk'] at hx
          obtain ⟨r', q1, q2⟩ := hx
          exact to q2 (fun _ => stepR_exit q1)
        · rename_i hk'
          rw [hk'] at hx
          exact cleave_ok e h1 h2 h4 h5 h6 hcs (.exit id k hx)
      | goto t =>
        have hx := hk.gotoIn t
        simp only
        split
        · rename_i k' hk'
          rw [hk'] at hx
          obtain ⟨r', q1, q2⟩ := hx
          exact to q2 (fun _ => stepR_goto q1)
        · rename_i hk'
          rw [hk'] at hx
          exact cleave_ok e h1 h2 h4 h5 h6 hcs (.goto t k hx)
      | region id ops draw =>
        cases draw with
        | false =>
          refine to (.cons (.inRegion (i := 0) rfl) hk) (fun _ => ?_)
          have := stepR_region (P := P) (b := b) (a := a) (k := k) (cs := cs ++ (by assumption)) (w := w) (ops := ops) (id := id)
          rw [List.range_eq_range'] at this
          simpa using this
        | true =>
          simp only
          split
          · rename_i tm' h' hd
            intro base
            obtain ⟨E', own', w', tmps', q1, q2, q3, q4, q5⟩ := hdr ops tm h _ h' hd E own w b a k (cs ++ base) id e h2
            exact ⟨E', own', w', _, cs, q5, q1, q2, FR.of_run h1 q4 (hk.mono q2.ext) (h4.mono q2.ext) h5 (h6.mono q2.ext), hcs.mono q2.ext⟩
          · rename_i ch h' hd
            intro base
            obtain ⟨E', own', w', tmps', q1, q2, q3, todo', chain, q4, q5, q6⟩ := hdr ops tm h _ h' hd E own w b a k (cs ++ base) id e h2
            exact ⟨E', own', w', _, cs, q6, q1, q2, ⟨h1, q3, q5, fun hh => by simp at hh, h4.mono q2.ext, .panicking q4, h5, h6.mono q2.ext⟩, hcs.mono q2.ext⟩
          · trivial
      | rangeFunc f params assign body =>
        simp only
        cases ro with
        | none =>
          have hro : b.roundOf = none := h6
          obtain ⟨t, nx⟩ := h
          simp only
          split
          · rename_i g first cap hfn
            split
            · rename_i g' args hinv
              split
              · rename_i cc hC
                obtain ⟨E1, own1, e1, t1, hn1⟩ := emb_new e (.deferred (some [])) (.deferred true) (fun E' own' w' _ ho hh => ⟨ho, hh⟩)
                obtain ⟨E2, own2, e2, t2, hn2⟩ := emb_new e1 (.loop { state := .ready, pending := none, fn := b.fn, tmps := a.tmps, params, assign, body, defers := w.heap.size })
                  (.loop .ready none fn tm params assign body nx) (fun E' own' w' hE ho hh => ⟨ho, a.tmps, ⟨w.heap.size, 0, 0⟩, hE _ _ hn1, (h2.mono t1.ext).mono hE, by rw [hh, h1]⟩)
                have tt := t1.trans e t2
                have hen := run_enterLoop_outer (P := P) (w := w) b.fn a.tmps params assign body
                have hsz : (w.alloc (.deferred (some []))).heap.size = w.heap.size + 1 := World.size_alloc _ _
                rw [← hro] at hen
                rw [hsz] at hn2
                obtain ⟨args', q1, hstep⟩ := range_call (nb := ⟨w.heap.size + 1, 0, 0⟩) cfg e2 (h2.mono tt.ext) hfn hn2 hinv hen
                have hfr2 : FR E2 ⟨fn, tm, .inRangeFunc (CHeap.push ⟨t, nx⟩ (.deferred true)).next :: todo, .mark nx :: defers, .run, dfd, none, []⟩
                    (b.atR ⟨a.tmps, [{ target := .collected w.heap.size, args := #[] }] ++ a.defers⟩ (.inRangeFunc (w.heap.size + 1) :: k)) :=
                  FR.of_run h1 (h2.mono tt.ext) (.cons (.inRangeFunc hn2) (hk.mono tt.ext)) (.cons (.mark (nb := ⟨w.heap.size, 0, 0⟩) (t2.ext _ _ hn1)) (h4.mono tt.ext)) h5 h6
                exact stepOK_to (s := ⟨_, l, ⟨t, nx⟩⟩) (l' := _ :: l) e2 tt (center_ok cfg hC q1 false) (.cons hfr2 (hcs.mono tt.ext)) (fun base => hstep k (cs ++ base))
              · trivial
            · trivial
          · trivial
        | some l0 =>
          obtain ⟨nb0, hnb0, hro⟩ := h6
          simp only
          split
          · trivial
          · rename_i _ dn t1 n1 defers' hopt
            split at hopt
            · rename_i st p lfn tmps params' assign' body' dn' hget
              simp only [Option.some.injEq, Prod.mk.injEq] at hopt
              obtain ⟨rfl, rfl, rfl⟩ := hopt
              split
              · rename_i g first cap hfn
                split
                · rename_i g' args hinv
                  split
                  · rename_i cc hC
                    obtain ⟨nb, db, tmps', g1, g2, g3, g0, g4⟩ := emb_loop e hget
                    rw [hnb0] at g1; cases g1
                    obtain ⟨E2, own2, e2, tt, hn2⟩ := emb_new e (.loop { state := .ready, pending := none, fn := b.fn, tmps := a.tmps, params, assign, body, defers := db.block })
                      (.loop .ready none fn tm params assign body dn') (fun E' own' w' hE ho hh => ⟨ho, a.tmps, db, hE _ _ g2, h2.mono hE, by rw [hh, h1]⟩)
                    have hen := run_enterLoop_inner (P := P) g4 b.fn a.tmps params assign body
                    rw [← hro] at hen
                    obtain ⟨args', q1, hstep⟩ := range_call (nb := ⟨w.heap.size, 0, 0⟩) cfg e2 (h2.mono tt.ext) hfn hn2 hinv hen
                    have hfr2 : FR E2 ⟨fn, tm, .inRangeFunc n1 :: todo, defers, .run, dfd, some l0, []⟩
                        (b.atR ⟨a.tmps, [] ++ a.defers⟩ (.inRangeFunc w.heap.size :: k)) :=
                      FR.of_run h1 (h2.mono tt.ext) (.cons (.inRangeFunc hn2) (hk.mono tt.ext)) (h4.mono tt.ext) h5 ⟨nb0, tt.ext _ _ hnb0, hro⟩
                    exact stepOK_to (s := ⟨_, l, ⟨t1, n1⟩⟩) (l' := _ :: l) e2 tt (center_ok cfg hC q1 false) (.cons hfr2 (hcs.mono tt.ext)) (fun base => hstep k (cs ++ base))
                  · trivial
                · trivial
              · trivial
            · cases hopt

theorem cstep_ok (cfg : Cfg P) {sum orc : Orc X} (hsum : OrcOK P sum) (hdr : DrawnOK cfg orc) {E : Env} {own : Own} {w : World} {s : CS X} {fr : Frame} {cs : List Frame} {f0 : FuncId} (e : Emb E own s.h w) (hfr : FR E s.fr fr) (hcs : FL E s.cs cs) :
    StepOK P E own s w fr cs f0 (cstep cfg sum orc f0 s) := by
  obtain ⟨⟨fn, tm, todo, defers, mode, dfd, ro, dead⟩, l, h⟩ := s
  unfold cstep
  have hmode := hfr.mode
  simp only at hmode
  generalize hmd : fr.mode = md at hmode
  cases hmode with
  | run =>
    cases dead with
    | nil => exact crun1_ok cfg hsum hdr e hfr hcs
    | cons => trivial
  | returning => exact cunwind_ok cfg e hfr hcs (by rw [hmd]; simp)
  | panicking => exact cunwind_ok cfg e hfr hcs (by rw [hmd]; simp)

/-! ### runs -/
theorem crun_ok (cfg : Cfg P) {sum orc : Orc X} (hsum : OrcOK P sum) (hdr : DrawnOK cfg orc) {f0 : FuncId} : ∀ (k : Nat) {s : CS X} {e : CEnd} {h' : CHeap X}, crun cfg sum orc f0 k s = some (e, h') →
    ∀ (E : Env) (own : Own) (w : World) (fr : Frame) (cs base : List Frame), Emb E own s.h w → FR E s.fr fr → FL E s.cs cs →
      ∃ E' own' w' fr' e', Steps P (lone fr (cs ++ base) w) (lone fr' base w') ∧ Emb E' own' h' w' ∧ Tran E own s.h w E' own' h' w' ∧ fr'.fn = f0 ∧ ER E' e e' ∧ fr'.leaving P w' e' ∧ e' ≠ .outgrown
  | 0, s, e, h', hy => by simp [crun] at hy
  | k + 1, s, e, h', hy => by
    intro E own w fr cs base hemb hfr hcs
    have hst := cstep_ok (f0 := f0) cfg hsum hdr hemb hfr hcs
    have hy' : (match cstep cfg sum orc f0 s with
      | .next s' => crun cfg sum orc f0 k s'
      | .done e h => some (e, h)
      | .fail => none) = some (e, h') := hy
    cases hc : cstep cfg sum orc f0 s with
    | next s' =>
      rw [hc] at hst hy'
      obtain ⟨E1, own1, w1, fr1, cs1, q1, q2, q3, q4, q5⟩ := hst base
      obtain ⟨E2, own2, w2, fr2, e2, r1, r2, r3, r4⟩ := crun_ok cfg hsum hdr k hy' _ _ _ _ _ base q2 q4 q5
      exact ⟨E2, own2, w2, fr2, e2, Steps.trans q1 r1, r2, q3.trans hemb r3, r4⟩
    | done e1 h1 =>
      rw [hc] at hst hy'
      cases hy'
      obtain ⟨rfl, rfl, hf, e', q1, q2, q3⟩ := hst
      exact ⟨E, own, w, fr, e', .refl _ _, hemb, Tran.refl _ _ _ _, hf, q1, q2, q3⟩
    | fail => rw [hc] at hy'; cases hy'

theorem ccallRun_ok (cfg : Cfg P) {sum : Orc X} (hsum : OrcOK P sum) (hdr : ∀ orc : Orc X, OrcOK P orc → DrawnOK cfg orc) (steps : Nat) : ∀ d, OrcOK P (ccallRun cfg sum steps d)
  | 0 => hsum
  | d + 1 => by
    intro f args h r h' hy E own w args' hemb hargs
    have hy' : (match sum f args h with
      | some r => some r
      | none => (match cfg.C f with
        | some c => crun cfg sum (ccallRun cfg sum steps d) f steps ⟨center c f args false, [], h⟩
        | none => none)) = some (r, h') := hy
    split at hy'
    · rename_i r0 hs
      cases hy'
      exact hsum f args h r h' hs E own w args' hemb hargs
    · split at hy'
      · rename_i c hC
        intro base
        obtain ⟨E2, own2, w2, fr2, e2, q1, q2, q3, q4, q5, q6, q7⟩ := crun_ok cfg hsum (hdr _ (ccallRun_ok cfg hsum hdr steps d)) steps hy' _ _ _ _ [] base hemb (center_ok cfg hC hargs false) .nil
        refine ⟨e2, w2, fr2, ⟨E2, own2, q2, q3, q5⟩, ?_, q4, q6⟩
        cases e2 with
        | returned => exact q1
        | panicked => exact q1
        | outgrown => exact absurd rfl q7
      · cases hy'
end Cam

/- Cam, part Zb: a region that draws its order is sound. -/
import Derived.Test.YtiagdfbhagiigaaGreatCamZ
namespace Cam
open Go Go.Lib
variable {X : Type} [AbsRep X] {P : Program}

section
variable {cfg : Cfg P} {orc : Orc X} {ops : Array Oper} {l : List (Oper × Nat)} {f : Nat → DS X} {tm0 : Tm} {h : CHeap X} {E0 : Env} {own0 : Own} {w0 : World} {tmps0 : Array Value}

/-- How it ends in a panic. -/
def PanicFin (P : Program) (ops : Array Oper) (l : List (Oper × Nat)) (f : Nat → DS X) (tm0 : Tm) (h : CHeap X) (E0 : Env) (own0 : Own) (w0 : World) (m : Machine) (b : Frame) (ds : List Deferred) (cs : List Frame) : Prop :=
  ∃ c E' own' w' tmps' todo chain, (f l.length).stop = some c ∧ Steps P m (lone { b.atR ⟨tmps', ds⟩ todo with mode := .panicking chain } cs w') ∧ CH E' c chain ∧
    Emb E' own' ⟨(f l.length).st.tr, (f l.length).nx⟩ w' ∧ Tran E0 own0 h w0 E' own' ⟨(f l.length).st.tr, (f l.length).nx⟩ w' ∧ tmps'.size = tm0.n ∧
    ∀ t, (∀ (i : Nat) (o : Oper), ops[i]? = some o → o.dst ≠ some t) → R E' (tm0.get t) (tmps'.getD t undef)

theorem PanicFin.steps {m m' : Machine} {b : Frame} {ds : List Deferred} {cs : List Frame} (hs : Steps P m m') (hp : PanicFin P ops l f tm0 h E0 own0 w0 m' b ds cs) : PanicFin P ops l f tm0 h E0 own0 w0 m b ds cs := by
  obtain ⟨c, E', own', w', tmps', todo, chain, g1, g2, g3⟩ := hp
  exact ⟨c, E', own', w', tmps', todo, chain, g1, Steps.trans hs g2, g3⟩

omit [AbsRep X] in
/-- Behind a panic nothing changes. -/
theorem DT.stopped (d : DT cfg orc ops l f tm0 h) {i : Nat} {c : List CPE} (hc : (f i).stop = some c) : ∀ {j : Nat}, i ≤ j → j ≤ l.length → (f j).stop = some c ∧ (f j).st = (f i).st ∧ (f j).nx = (f i).nx ∧ (f j).last = (f i).last := by
  intro j hij
  induction j with
  | zero => intro _; have : i = 0 := by omega
            subst this; exact ⟨hc, rfl, rfl, rfl⟩
  | succ j ih =>
    intro hj
    rcases Nat.lt_or_ge j i with h1 | h1
    · have : i = j + 1 := by omega
      subst this; exact ⟨hc, rfl, rfl, rfl⟩
    · obtain ⟨g1, g2, g3, g4⟩ := ih h1 (by omega)
      obtain ⟨o, m, _, ho, hdc⟩ := d.at (i := j) (by omega)
      generalize f j = s at hdc g1 g2 g3 g4
      generalize f (j + 1) = s' at hdc
      cases hdc <;> simp only at g1 <;> first | (cases g1; done) | exact ⟨g1, g2, g3, g4⟩

omit [AbsRep X] in
theorem DT.stopMask (d : DT cfg orc ops l f tm0 h) {i : Nat} {c : List CPE} (hc : (f (i + 1)).stop = some c) (hlast : (f (i + 1)).last = some i) {j : Nat} (hij : i < j) {o : Oper} {m : Nat} (hl : l[j]? = some (o, m)) : m.testBit i = true := by
  have hj : j < l.length := (List.getElem?_eq_some_iff.1 hl).1
  obtain ⟨g1, g2, g3, g4⟩ := d.stopped hc (j := j) (by omega) (by omega)
  rw [hlast] at g4
  have hdc := d.dc j o m hl
  generalize f j = s at hdc g1 g4
  generalize f (j + 1) = s' at hdc
  cases hdc <;> simp only at g1 g4 <;> first | (cases g1; done) | skip
  rename_i hb
  cases g4; exact hb

omit [AbsRep X] in
theorem DT.lastStop (d : DT cfg orc ops l f tm0 h) {e : Nat} {c : List CPE} : ∀ i, i ≤ l.length → (f i).stop = some c → (f i).last = some e → e < i ∧ Eff f e ∧ (f (e + 1)).stop = some c
  | 0, _, hs, _ => by rw [d.start] at hs; cases hs
  | i + 1, hi, hs, hl => by
    obtain ⟨o, m, _, ho, hdc⟩ := d.at (i := i) (by omega)
    have hidx := d.idx i (by omega)
    rcases d.step (i := i) (by omega) with hq | hq
    · rw [hq.2] at hl; cases hl
      exact ⟨by omega, hq.1, hs⟩
    · have hs' : (f i).stop = some c := by
        have hold := hq.2.2.1
        have hne' : ∀ {x : Stage X × Nat} {y : List (Stage X × Nat)}, ¬ (x :: y = y) := fun {x y} he => by
          have := congrArg List.length he; simp at this
        generalize f i = s at hdc hold
        generalize f (i + 1) = s' at hdc hs hold
        cases hdc <;> simp only at hs hold ⊢ <;> first | exact hs | (cases hs; done) | exact absurd hold hne'
      rw [hq.2.2.2] at hl
      obtain ⟨g1, g2, g3⟩ := d.lastStop i (by omega) hs' hl
      exact ⟨by omega, g2, g3⟩

variable {S : Nat → Prop} {q : Nat} {E : Env} {own : Own} {w : World} {tmps : Array Value}

theorem DB.ext0 (d : DT cfg orc ops l f tm0 h) (e0 : Emb E0 own0 h w0) (s : DB f l.length h E0 own0 w0 S E own w) {i : Nat} (hi : i ≤ l.length) : Ext E0 (upto E (f i).nx) :=
  ext_upto s.ext (fun n hn => e0.fresh n (Nat.le_trans (d.nx0 hi) hn))

theorem finish_op {b : Frame} {tmps : Array Value} {ds : List Deferred} {ops : Array Oper} {i : Nat} {rest : List Nat} {k : List Item} {o : Oper} (ho : ops[i]? = some o) (v : Value) :
    (b.atR ⟨tmps, ds⟩ (.inRegion ops (i :: rest) :: k)).finish v = b.atR ⟨(Act.put ⟨tmps, ds⟩ o.dst v).tmps, ds⟩ (.inRegion ops rest :: k) := by
  have := Frame.finish_atR b ⟨tmps, ds⟩ ops i rest k v
  rw [ho] at this
  rw [this]
  cases hd : o.dst <;> simp [Act.put, Frame.atR, hd]

/-- One operation, whichever it is. -/
theorem drawn_step (d : DT cfg orc ops l f tm0 h) (horc : OrcOK P orc) (e0 : Emb E0 own0 h w0) (h0 : RT E0 tm0 tmps0) (s : DH f l h E0 own0 w0 S q E own w) (v : DV f ops tm0 tmps0 S E tmps) {i : Nat} {o : Oper} {m : Nat}
    (hl : l[i]? = some (o, m)) (hS : ¬ S i) (hanc : ∀ j, m.testBit j = true → S j) (b : Frame) (ds : List Deferred) (rest : List Nat) (k : List Item) (cs : List Frame) :
    (∃ q' E' own' w' tmps', Steps P (lone (b.atR ⟨tmps, ds⟩ (.inRegion ops (i :: rest) :: k)) cs w) (lone (b.atR ⟨tmps', ds⟩ (.inRegion ops rest :: k)) cs w') ∧
      DH f l h E0 own0 w0 (fun j => S j ∨ j = i) q' E' own' w' ∧ DV f ops tm0 tmps0 (fun j => S j ∨ j = i) E' tmps') ∨
    PanicFin P ops l f tm0 h E0 own0 w0 (lone (b.atR ⟨tmps, ds⟩ (.inRegion ops (i :: rest) :: k)) cs w) b ds cs := by
  have hi : i < l.length := (List.getElem?_eq_some_iff.1 hl).1
  have ho : ops[i]? = some o := d.ann.op i o m hl
  have hdc := d.dc i o m hl
  have hidx := d.idx i (by omega)
  have hlook : ∀ {kk : Nat}, (f i).nx ≤ kk → ∀ t ∈ o.looksAt ops, R (upto E kk) ((f i).tm.get t) (tmps.getD t undef) := fun hk t ht =>
    v.look d s.closed s.slt hi hS hl hanc h0 hk (ext_upto s.base.ext (fun n hn => e0.fresh n (Nat.le_trans (d.nx0 (by omega)) (Nat.le_trans hk hn)))) ht
  have hstep := d.step hi
  have hfreeAt : ∀ fo ∈ (f l.length).frees, fo.i = i → fo ∈ (f (i + 1)).frees ∧ fo ∉ (f i).frees ∧ fo.lo = (f i).nx ∧ fo.hi = (f (i + 1)).nx := fun fo hfo he => by
    obtain ⟨_, k2, k3, k4, k5⟩ := d.freeAt l.length (Nat.le_refl _) hfo
    rw [he] at k2 k3 k4 k5
    exact ⟨k4, k5, k2, k3⟩
  have hne' : ∀ {x : Stage X × Nat} {y : List (Stage X × Nat)}, ¬ (y = x :: y) := fun {x y} he => by
    have := congrArg List.length he; simp at this
  have hsi : (f i).stop = none ∨ ∃ c, (f i).stop = some c := by cases (f i).stop <;> simp
  generalize hfi : f i = si at hdc
  generalize hfi' : f (i + 1) = si' at hdc
  cases hdc with
  | stopped hb =>
    rename_i ii tm nx st old frees reads e c
    obtain ⟨g1, g2, g3⟩ := d.lastStop (e := e) (c := c) i (by omega) (by rw [hfi]) (by rw [hfi])
    have hSe := hanc e hb
    rcases Nat.lt_or_ge e q with h1 | h1
    · have := (d.stopped g3 (j := q) (by omega) s.q_le).1
      rw [s.stop] at this; cases this
    · exact absurd hSe (s.qout e g2 h1)
  | skip hw =>
    rename_i ii tm nx st old frees reads last
    have htm : tm = (f i).tm := by rw [hfi]
    subst htm
    have hw' := wanted_of_looks (hlook (Nat.le_refl _)) hw
    have hneff : ¬ Eff f i := by unfold Eff; rw [hfi, hfi']; exact hne'
    refine .inl ⟨q, E, own, w, _, ?_, s.idle hl hanc hneff (fun fo hfo he => ?_), v.put d (Ext.refl _) hi hS ho (x := unset) (y := undef) (by rw [hfi']) (.sc _) h0 (s.base.ext0 d e0 (by omega)) (ds := ds)⟩
    · have hs := stepR_op_skip (P := P) (b := b) (a := ⟨tmps, ds⟩) (k := k) (cs := cs) (w := w) (ops := ops) (i := i) (rest := rest) (by simp [ho, hw'])
      rw [← Frame.finish_atR, finish_op ho] at hs
      exact .one hs
    · obtain ⟨g1, g2, _⟩ := hfreeAt fo hfo he
      rw [hfi'] at g1; rw [hfi] at g2
      exact g2 g1
  | free hw hcop hle =>
    rename_i ii tm nx nx' st old frees reads last x t
    have htm : tm = (f i).tm := by rw [hfi]
    have hnx : nx = (f i).nx := by rw [hfi]
    have hnx' : nx' = (f (i + 1)).nx := by rw [hfi']
    have hst : (f (i + 1)).tm = cput (f i).tm o.dst x := by rw [hfi', htm]
    have hfr : (f (i + 1)).frees = ⟨i, t, (f i).nx, (f (i + 1)).nx⟩ :: (f i).frees := by
      have : ii = i := by rw [hfi] at hidx; exact hidx
      rw [← hnx, ← hnx', hfi', hfi, this]
    have hneff : ¬ Eff f i := by unfold Eff; rw [hfi, hfi']; exact hne'
    subst htm hnx hnx'
    have hw' := wanted_of_looks (hlook (Nat.le_refl _)) hw
    have e1 : Emb (upto E (f i).nx) (ownUpto own (f i).nx) (⟨.nil, (f i).nx⟩ : CHeap X) w := part_emb (hs := (⟨.nil, (f i).nx⟩ : CHeap X)) (fun n c hc => by cases hc) s.base.ownlt
    obtain ⟨E', own', w', g1, g2, v', g3, g4⟩ := eff_ok (b := b) (a := ⟨tmps, ds⟩) (rest := rest) (k := k) (cs := cs) cfg horc e1 (ops_of_looks (a := ⟨tmps, ds⟩) (hlook (Nat.le_refl _))) ho hw' (out := .inl x) (hs' := ⟨t, (f (i + 1)).nx⟩) (by rw [hcop]; rfl)
    have bs := Beside.make (hs := ⟨.nil, (f i).nx⟩) (hs' := ⟨t, (f (i + 1)).nx⟩) s.base hi hS g1 g2 rfl rfl
    refine .inl ⟨q, _, _, w', _, by rw [finish_op ho] at g4; exact g4, s.free d e0 hl hS hanc hneff (fun fo hfo he => ?_) bs,
      v.put d bs.ext hi hS ho hst (g3.mono bs.ext') h0 (ext_upto (s.base.ext.trans bs.ext) (fun n hn => e0.fresh n (Nat.le_trans (d.nx0 hi) hn))) (ds := ds)⟩
    obtain ⟨k1, k2, k3, k4⟩ := hfreeAt fo hfo he
    rw [hfr] at k1
    rcases List.mem_cons.1 k1 with k5 | k5
    · rw [k5]; exact ⟨rfl, rfl, rfl⟩
    · exact absurd k5 k2
  | read hw hk hrd hu hold =>
    rename_i ii tm nx st old frees reads last x
    have htm : tm = (f i).tm := by rw [hfi]
    have hnx : nx = (f i).nx := by rw [hfi]
    have hstt : st = (f i).st := by rw [hfi]
    have hfrr : frees = (f i).frees := by rw [hfi]
    have holdd : old = (f i).old := by rw [hfi]
    have hnx' : (f (i + 1)).nx = (f i).nx := by rw [hfi', hnx]
    have hst : (f (i + 1)).tm = cput (f i).tm o.dst x := by rw [hfi', htm]
    have hneff : ¬ Eff f i := by unfold Eff; rw [hfi, hfi']; exact hne'
    have hmem : ⟨i, m, o, (f i).tm, x⟩ ∈ (f (i + 1)).reads := by
      have : ii = i := by rw [hfi] at hidx; exact hidx
      rw [← htm, hfi', this]; exact List.mem_cons_self
    have hnfree : ∀ fo ∈ (f l.length).frees, fo.i ≠ i := fun fo hfo he => by
      obtain ⟨g1, g2, _⟩ := hfreeAt fo hfo he
      rw [hfi'] at g1; rw [hfi] at g2
      exact g2 g1
    subst htm hnx hstt hfrr holdd
    have hw' := wanted_of_looks (hlook (Nat.le_refl _)) hw
    obtain ⟨i', kk, r1, r2, r3, r4, r5⟩ := d.readOK hl hrd hold hmem hneff s.q_le s.stop
      (fun e he _ hb => by
        rcases Nat.lt_or_ge e q with h1 | h1
        · exact h1
        · exact absurd (hanc e hb) (s.qout e he h1))
      (fun e oe me he heq hle => by
        cases hb : me.testBit i with
        | false => rfl
        | true => exact absurd (s.closed e oe me i hle (s.qin e he heq) hb) hS)
    have hik : (f i).nx ≤ kk := Nat.le_trans (d.mono r1 r2) r4
    unfold readAt at r5
    split at r5
    · rename_i x' h'' hcop
      cases r5
      have e1 : Emb (upto E kk) (ownUpto own kk) ⟨stageHeap (f q).st m (f i').frees, kk⟩ w := part_emb (hs := ⟨stageHeap (f q).st m (f i').frees, kk⟩) (fun n c hc => by
        rcases stageHeap_get hc with g | ⟨fo, g1, g2, g3, g4, g5, g6⟩
        · exact ⟨_, r3, s.stage n c g⟩
        · obtain ⟨k1, k2, k3, _⟩ := d.freeAt i' r2 g1
          refine ⟨fo.hi, ?_, (s.frees fo (d.freesSub r2 (Nat.le_refl _) g1) (hanc _ g2) g3 n c g6).2⟩
          simp only
          rw [k3]; exact Nat.le_trans (d.mono (by omega) r2) r4) s.base.ownlt
      obtain ⟨ρ₁, ρ₁', t1, t2, t3⟩ := part_ops (upto E kk) (ops_of_looks (a := ⟨tmps, ds⟩) (hlook hik)) cfg ⟨stageHeap (f q).st m (f i').frees, kk⟩ (cop_noSelect cfg hcop)
      obtain ⟨v', t4, t5⟩ := cread_ok (P := P) cfg e1 t1 hk (t2.trans hcop)
      rw [t3, ← Oper.semAt_eq b.roundOf _ _ (cop_noDefer cfg hcop (by simp))] at t4
      have hsv := sop_value (P := P) (b := b) (a := ⟨tmps, ds⟩) (rest := rest) (k := k) (cs := cs) ho hw' t4
      rw [finish_op ho] at hsv
      have t6 : R (upto E (f (i + 1)).nx) x v' := by
        rw [hnx']
        exact (R.under hu t5).mono (upto_mono (upto_ext _ _) (Nat.le_refl _))
      exact .inl ⟨q, E, own, w, _, .one hsv, s.idle hl hanc hneff hnfree, v.put d (Ext.refl _) hi hS ho hst t6 h0 (s.base.ext0 d e0 (by omega)) (ds := ds)⟩
    · cases r5
  | effv hw hlast heff hle hr =>
    rename_i ii tm nx nx' st tr' old frees reads last x
    have hii : ii = i := by rw [hfi] at hidx; exact hidx
    have htm : tm = (f i).tm := by rw [hfi]
    have hnx : nx = (f i).nx := by rw [hfi]
    have hnx' : nx' = (f (i + 1)).nx := by rw [hfi']
    have hstt : st = (f i).st := by rw [hfi]
    have hfrr : frees = (f i).frees := by rw [hfi]
    have hst : (f (i + 1)).tm = cput (f i).tm o.dst x := by rw [hfi', htm]
    have hE : Eff f i := by unfold Eff; rw [hfi', hfi, hii]
    have hst' : (f (i + 1)).st = ⟨tr', (f i).st.merged ||| maskFrees m (f i).frees, (f i).st.done ||| 2 ^ i, (f (i + 1)).nx⟩ := by
      rw [← hnx', hfi', ← hstt, ← hfrr, hii]
    have hfr : (f (i + 1)).frees = (f i).frees := by rw [hfi', hfi]
    have hstop : (f (i + 1)).stop = none := by rw [hfi']
    subst htm hnx hnx' hstt hfrr
    have hw' := wanted_of_looks (hlook (Nat.le_refl _)) hw
    obtain ⟨p1, p2, p3⟩ := s.preEff d hl hS hanc hE
    have e1 : Emb (upto E (f i).nx) (ownUpto own (f i).nx) ⟨stageHeap (f i).st m (f i).frees, (f i).nx⟩ w := part_emb (hs := ⟨stageHeap (f i).st m (f i).frees, (f i).nx⟩) p1 s.base.ownlt
    obtain ⟨E', own', w', g1, g2, v', g3, g4⟩ := eff_ok (b := b) (a := ⟨tmps, ds⟩) (rest := rest) (k := k) (cs := cs) cfg horc e1 (ops_of_looks (a := ⟨tmps, ds⟩) (hlook (Nat.le_refl _))) ho hw' heff
    have bs := Beside.make (hs := ⟨stageHeap (f i).st m (f i).frees, (f i).nx⟩) (hs' := ⟨tr', (f (i + 1)).nx⟩) s.base hi hS g1 g2 rfl rfl
    exact .inl ⟨i + 1, _, _, w', _, by rw [finish_op ho] at g4; exact g4, s.eff d e0 hl hS hanc hE hst' hfr hstop bs,
      v.put d bs.ext hi hS ho hst (g3.mono bs.ext') h0 (ext_upto (s.base.ext.trans bs.ext) (fun n hn => e0.fresh n (Nat.le_trans (d.nx0 hi) hn))) (ds := ds)⟩
  | effp hw hlast heff hle =>
    rename_i ii tm nx nx' st tr' old frees reads last c
    have hii : ii = i := by rw [hfi] at hidx; exact hidx
    have htm : tm = (f i).tm := by rw [hfi]
    have hnx : nx = (f i).nx := by rw [hfi]
    have hnx' : nx' = (f (i + 1)).nx := by rw [hfi']
    have hstt : st = (f i).st := by rw [hfi]
    have hfrr : frees = (f i).frees := by rw [hfi]
    have hE : Eff f i := by unfold Eff; rw [hfi', hfi, hii]
    have hst' : (f (i + 1)).st.tr = tr' := by rw [hfi']
    have hstop : (f (i + 1)).stop = some c := by rw [hfi']
    subst htm hnx hnx' hstt hfrr
    have hw' := wanted_of_looks (hlook (Nat.le_refl _)) hw
    obtain ⟨p1, p2, p3⟩ := s.preEff d hl hS hanc hE
    have e1 : Emb (upto E (f i).nx) (ownUpto own (f i).nx) ⟨stageHeap (f i).st m (f i).frees, (f i).nx⟩ w := part_emb (hs := ⟨stageHeap (f i).st m (f i).frees, (f i).nx⟩) p1 s.base.ownlt
    obtain ⟨E', own', w', g1, g2, c', g3, g4⟩ := eff_ok (b := b) (a := ⟨tmps, ds⟩) (rest := rest) (k := k) (cs := cs) cfg horc e1 (ops_of_looks (a := ⟨tmps, ds⟩) (hlook (Nat.le_refl _))) ho hw' heff
    have bs := Beside.make (hs := ⟨stageHeap (f i).st m (f i).frees, (f i).nx⟩) (hs' := ⟨tr', (f (i + 1)).nx⟩) s.base hi hS g1 g2 rfl rfl
    have db := DB.step d e0 s.base hi bs rfl rfl p2
    obtain ⟨k1, k2, k3, k4⟩ := d.stopped hstop (j := l.length) (by omega) (Nat.le_refl _)
    refine .inr ⟨c, _, joinO own own' (f (i + 1)).nx, w', tmps, .inRegion ops (i :: rest) :: k, c', k1, g4, g3.mono (bs.ext'.trans (upto_ext _ _)), ?_, ?_, v.tn, fun t ht => ?_⟩
    · rw [k2, hst', k3]
      exact {
        ch := fun n cc hc => by
          obtain ⟨_, nb, q2, q3⟩ := bs.new hc
          exact ⟨nb, q2, q3.ext (upto_ext _ _)⟩
        lt := fun n cc hc => bs.emb.lt n cc hc
        fresh := fun n hn => (db.top n (by rw [k3]; exact hn)).1
        own_lt := fun b' n hb => ⟨(bs.owns hb).1, by
          rcases Nat.lt_or_ge n (f (i + 1)).nx with h1 | h1
          · exact h1
          · exact absurd hb ((db.top n (by rw [k3]; exact h1)).2 b')⟩ }
    · rw [k2, hst', k3]
      exact ⟨db.ext, d.nx0 (by omega), db.os, db.tape, db.output, db.size, db.keep, fun n hn hn' => bs.tran.live n (by have := d.nx0 (i := i) (by omega); simp only; omega) (p2 n hn hn'), db.names0, db.owns0⟩
    · rw [v.olds t (fun j oj _ hoj => ht j oj hoj)]
      exact (h0.2 t).mono db.ext

/-- The operations that have been run, out of the model's list. -/
def ran (listed : Array Bool) (n : Nat) : Nat → Prop := fun i => i < n ∧ listed.getD i true = true

def left (listed : Array Bool) (n : Nat) : Nat := ((List.range n).filter fun i => !listed.getD i true).length

omit [AbsRep X] in
theorem ready_mem {ops : Array Oper} {listed : Array Bool} {i : Nat} (h : i ∈ Region.ready .any ops listed) :
    i < ops.size ∧ listed.getD i true = false ∧ ∃ o, ops[i]? = some o ∧ ∀ e ∈ o.after.toList, Region.binds .any e = true → listed.getD e.on false = true := by
  unfold Region.ready at h
  obtain ⟨h1, h2⟩ := List.mem_filter.1 h
  have h1 := List.mem_range.1 h1
  simp only [Bool.and_eq_true, Bool.not_eq_true'] at h2
  refine ⟨h1, h2.1, ops[i], by simp [h1], fun e he hb => ?_⟩
  have h3 := h2.2
  simp only [Array.getElem?_eq_getElem h1, Option.map_some, Option.getD_some] at h3
  rw [Array.all_eq_true_iff_forall_mem] at h3
  have := h3 e (by simpa using he)
  rw [hb] at this
  simpa using this
end
end Cam

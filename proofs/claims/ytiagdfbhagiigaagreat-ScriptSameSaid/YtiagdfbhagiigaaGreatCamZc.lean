/- Cam, part Zc: a region that draws its order is sound: any order, to its end. -/
import Derived.Test.YtiagdfbhagiigaaGreatCamZb
namespace Cam
open Go Go.Lib
variable {X : Type} [AbsRep X] {P : Program}

theorem dsts_mem {o : Oper} {d : Tmp} (hd : o.dst = some d) (l : List Oper) (hm : o ∈ l) : d ∈ dsts l := by
  induction l with
  | nil => cases hm
  | cons o' l ih =>
    simp only [dsts]
    rcases List.mem_cons.1 hm with rfl | hm
    · rw [hd]; exact List.mem_cons_self
    · have := ih hm
      split
      · exact List.mem_cons_of_mem _ this
      · exact this

def leftN (listed : Array Bool) : Nat → Nat
  | 0 => 0
  | k + 1 => leftN listed k + (if listed.getD k true = true then 0 else 1)

theorem leftN_le (listed : Array Bool) : ∀ n, leftN listed n ≤ n
  | 0 => Nat.le_refl _
  | k + 1 => by have := leftN_le listed k; simp only [leftN]; split <;> omega

theorem leftN_zero {listed : Array Bool} : ∀ {n}, leftN listed n = 0 → ∀ i, i < n → listed.getD i true = true
  | 0, _, i, hi => by omega
  | k + 1, h, i, hi => by
    simp only [leftN] at h
    rcases Nat.lt_or_ge i k with h1 | h1
    · exact leftN_zero (by omega) i h1
    · have : i = k := by omega
      subst this
      split at h
      · assumption
      · omega

theorem getD_lt {listed : Array Bool} {i : Nat} (h : listed.getD i true = false) : i < listed.size := by
  rcases Nat.lt_or_ge i listed.size with h1 | h1
  · exact h1
  · rw [Array.getD_eq_getD_getElem?, Array.getElem?_eq_none h1] at h; cases h

theorem leftN_same {listed : Array Bool} {i : Nat} : ∀ {n}, n ≤ i → leftN (listed.setIfInBounds i true) n = leftN listed n
  | 0, _ => rfl
  | k + 1, h => by
    simp only [leftN]
    rw [leftN_same (by omega), getD_set_ne true (by omega)]

theorem leftN_set {listed : Array Bool} {i : Nat} (h : listed.getD i true = false) : ∀ {n}, i < n → leftN (listed.setIfInBounds i true) n + 1 = leftN listed n
  | 0, hi => by omega
  | k + 1, hi => by
    simp only [leftN]
    rcases Nat.lt_or_ge i k with h1 | h1
    · have := leftN_set h h1
      rw [getD_set_ne true (by omega)]
      omega
    · have : i = k := by omega
      subst this
      have hlt := getD_lt h
      rw [leftN_same (Nat.le_refl _), h]
      have : (listed.setIfInBounds i true).getD i true = true := by simp [hlt]
      rw [this]; simp

section
variable {cfg : Cfg P} {orc : Orc X} {ops : Array Oper} {l : List (Oper × Nat)} {f : Nat → DS X} {tm0 : Tm} {h : CHeap X} {E0 : Env} {own0 : Own} {w0 : World} {tmps0 : Array Value}

omit [AbsRep X] in
theorem all_listed (d : DT cfg orc ops l f tm0 h) {listed : Array Bool} (hsz : listed.size = ops.size) (hr : Region.ready .any ops listed = []) : ∀ i, i < ops.size → listed.getD i true = true := by
  intro i
  induction i using Nat.strongRecOn with
  | _ i ih =>
    intro hi
    cases hb : listed.getD i true with
    | true => rfl
    | false =>
      have hil : i < l.length := by rw [d.ann.len]; exact hi
      obtain ⟨o, m, hl, ho, _⟩ := d.at hil
      have : i ∈ Region.ready .any ops listed := mem_ready.2 ⟨hb, o, ho, fun e he hbi => by
        have hlt := d.ann.dep i o m e hl (by simpa using he) hbi
        have h1 := ih e.on hlt (by omega)
        have h2 : e.on < listed.size := by omega
        simp only [Array.getD_eq_getD_getElem?, Array.getElem?_eq_getElem h2, Option.getD_some] at h1 ⊢
        exact h1⟩
      rw [hr] at this; cases this

theorem drawn_go (d : DT cfg orc ops l f tm0 h) (horc : OrcOK P orc) (e0 : Emb E0 own0 h w0) (h0 : RT E0 tm0 tmps0) (b : Frame) (ds : List Deferred) (k : List Item) (cs : List Frame) :
    ∀ (fuel tt : Nat) (listed : Array Bool) (q : Nat) (E : Env) (own : Own) (w : World) (tmps : Array Value), listed.size = ops.size → leftN listed ops.size ≤ fuel →
      DH f l h E0 own0 w0 (ran listed ops.size) q E own w → DV f ops tm0 tmps0 (ran listed ops.size) E tmps →
      (∃ q' E' own' w' tmps', Steps P (lone (b.atR ⟨tmps, ds⟩ (.inRegion ops (Region.linearise.go .any ops fuel tt listed []) :: k)) cs w) (lone (b.atR ⟨tmps', ds⟩ (.inRegion ops [] :: k)) cs w') ∧
        DH f l h E0 own0 w0 (fun i => i < ops.size) q' E' own' w' ∧ DV f ops tm0 tmps0 (fun i => i < ops.size) E' tmps') ∨
      PanicFin P ops l f tm0 h E0 own0 w0 (lone (b.atR ⟨tmps, ds⟩ (.inRegion ops (Region.linearise.go .any ops fuel tt listed []) :: k)) cs w) b ds cs := by
  intro fuel
  have fin : ∀ {listed : Array Bool} {q : Nat} {E : Env} {own : Own} {w : World} {tmps : Array Value}, (∀ i, i < ops.size → listed.getD i true = true) →
      DH f l h E0 own0 w0 (ran listed ops.size) q E own w → DV f ops tm0 tmps0 (ran listed ops.size) E tmps →
      ∃ q' E' own' w' tmps', Steps P (lone (b.atR ⟨tmps, ds⟩ (.inRegion ops [] :: k)) cs w) (lone (b.atR ⟨tmps', ds⟩ (.inRegion ops [] :: k)) cs w') ∧
        DH f l h E0 own0 w0 (fun i => i < ops.size) q' E' own' w' ∧ DV f ops tm0 tmps0 (fun i => i < ops.size) E' tmps' := by
    intro listed q E own w tmps hall s v
    have hS : ran listed ops.size = fun i => i < ops.size := funext fun i => propext ⟨fun hh => hh.1, fun hh => ⟨hh, hall i hh⟩⟩
    rw [hS] at s v
    exact ⟨q, E, own, w, tmps, .refl _ _, s, v⟩
  induction fuel with
  | zero =>
    intro tt listed q E own w tmps hsz hleft s v
    exact .inl (fin (leftN_zero (by omega)) s v)
  | succ fuel ih =>
    intro tt listed q E own w tmps hsz hleft s v
    simp only [Region.linearise.go]
    change _ ∨ _
    generalize hrs : ((List.range ops.size).filter fun i => !listed.getD i true && ((ops[i]?).map (·.after.all fun e => !Region.binds .any e || listed.getD e.on false)).getD false) = rs
    have hrs' : Region.ready .any ops listed = rs := hrs
    cases hi : rs[tt % rs.length]? with
    | none =>
      have hnil : rs = [] := by
        cases rs with
        | nil => rfl
        | cons x xs =>
          have hlt : tt % (x :: xs).length < (x :: xs).length := Nat.mod_lt _ (by simp)
          rw [List.getElem?_eq_getElem hlt] at hi; cases hi
      exact .inl (fin (all_listed d hsz (hrs'.trans hnil)) s v)
    | some i =>
      have hmem : i ∈ Region.ready .any ops listed := by rw [hrs']; exact List.mem_of_getElem? hi
      obtain ⟨hun, o', ho', hdep⟩ := mem_ready.1 hmem
      have hin : i < ops.size := (Array.getElem?_eq_some_iff.1 ho').1
      obtain ⟨o, m, hl, ho, _⟩ := d.at (i := i) (by rw [d.ann.len]; exact hin)
      have hoo : o = o' := by rw [ho] at ho'; exact Option.some.inj ho'
      subst hoo
      have hS : ¬ ran listed ops.size i := fun hh => by have h2 := hh.2; rw [hun] at h2; cases h2
      have hlisted : ∀ j, listed.getD j false = true → ran listed ops.size j := fun j hj => by
        have hlt : j < listed.size := by
          rcases Nat.lt_or_ge j listed.size with h1 | h1
          · exact h1
          · rw [Array.getD_eq_getD_getElem?, Array.getElem?_eq_none h1] at hj; cases hj
        refine ⟨by omega, ?_⟩
        simp only [Array.getD_eq_getD_getElem?, Array.getElem?_eq_getElem hlt, Option.getD_some] at hj ⊢
        exact hj
      have hanc : ∀ j, m.testBit j = true → ran listed ops.size j := fun j hj => by
        obtain ⟨e, g1, g2, g3⟩ := d.ann.mask i o m j hl hj
        have hSe := hlisted e.on (hdep e (by simpa using g1) g2)
        rcases g3 with g3 | ⟨o'', m'', g4, g5⟩
        · rw [g3]; exact hSe
        · exact s.closed e.on o'' m'' j g4 hSe g5
      have hS' : (fun j => ran listed ops.size j ∨ j = i) = ran (listed.setIfInBounds i true) ops.size := funext fun j => propext (by
        by_cases hji : j = i
        · subst hji
          have : j < listed.size := by omega
          simp [ran, hin, this]
        · have := getD_set_ne (listed := listed) true (Ne.symm hji)
          simp only [ran, this, hji, or_false])
      have hgo : Region.linearise.go .any ops fuel (tt / rs.length) (listed.setIfInBounds i true) [i] = i :: Region.linearise.go .any ops fuel (tt / rs.length) (listed.setIfInBounds i true) [] := by
        rw [linearise_go_acc]; rfl
      simp only []
      rw [hgo]
      rcases drawn_step d horc e0 h0 s v hl hS hanc b ds (Region.linearise.go .any ops fuel (tt / rs.length) (listed.setIfInBounds i true) []) k cs with ⟨q1, E1, own1, w1, tmps1, g1, g2, g3⟩ | hp
      · rw [hS'] at g2 g3
        have hl2 := leftN_set hun hin
        rcases ih (tt / rs.length) (listed.setIfInBounds i true) q1 E1 own1 w1 tmps1 (by simp [hsz]) (by omega) g2 g3 with ⟨q2, E2, own2, w2, tmps2, k1, k2⟩ | hp
        · exact .inl ⟨q2, E2, own2, w2, tmps2, Steps.trans g1 k1, k2⟩
        · exact .inr (hp.steps g1)
      · exact .inr hp

omit [AbsRep X] in
theorem DT.stopLast (d : DT cfg orc ops l f tm0 h) {c : List CPE} : ∀ i, i ≤ l.length → (f i).stop = some c → ∃ e, (f i).last = some e
  | 0, _, hs => by rw [d.start] at hs; cases hs
  | i + 1, hi, hs => by
    obtain ⟨o, m, _, ho, hdc⟩ := d.at (i := i) (by omega)
    generalize f i = s at hdc
    generalize f (i + 1) = s' at hdc hs
    cases hdc <;> simp only at hs ⊢ <;> first | (cases hs; done) | exact ⟨_, rfl⟩

theorem drawn_fin (d : DT cfg orc ops l f tm0 h) (h0 : RT E0 tm0 tmps0) {q : Nat} {E : Env} {own : Own} {w : World} {tmps : Array Value}
    (s : DH f l h E0 own0 w0 (fun i => i < ops.size) q E own w) (v : DV f ops tm0 tmps0 (fun i => i < ops.size) E tmps) :
    (f l.length).stop = none ∧ Emb E own ⟨stageHeap (f l.length).st (allMask l.length) (f l.length).frees, (f l.length).nx⟩ w ∧
      Tran E0 own0 h w0 E own ⟨stageHeap (f l.length).st (allMask l.length) (f l.length).frees, (f l.length).nx⟩ w ∧ RT E (f l.length).tm tmps := by
  have hlen := d.ann.len
  have hst : (f l.length).st = (f q).st := (d.sameStage s.q_le (Nat.le_refl _) (fun e h1 h2 he => s.qout e he h1 (by rw [← hlen]; exact h2))).1
  have hget : ∀ n c, (stageHeap (f l.length).st (allMask l.length) (f l.length).frees).get n = some c → ∃ k, k ≤ (f l.length).nx ∧ Lies E own w n c k := fun n c hc => by
    rcases stageHeap_get hc with g | ⟨fo, g1, g2, g3, g4, g5, g6⟩
    · rw [hst] at g
      exact ⟨_, Nat.le_trans (d.stageNx q s.q_le) (d.mono s.q_le (Nat.le_refl _)), s.stage n c g⟩
    · obtain ⟨k1, k2, k3, _⟩ := d.freeAt l.length (Nat.le_refl _) g1
      rw [hst] at g3
      exact ⟨fo.hi, by rw [k3]; exact d.mono (by omega) (Nat.le_refl _), (s.frees fo g1 (by rw [← hlen]; exact k1) g3 n c g6).2⟩
  refine ⟨?_, ?_, ?_, ?_, fun t => ?_⟩
  · cases hs : (f l.length).stop with
    | none => rfl
    | some c =>
      obtain ⟨e, he⟩ := d.stopLast l.length (Nat.le_refl _) hs
      obtain ⟨g1, g2, g3⟩ := d.lastStop l.length (Nat.le_refl _) hs he
      have hlt : e < q := by
        rcases Nat.lt_or_ge e q with h1 | h1
        · exact h1
        · exact absurd (by rw [← hlen]; exact g1) (s.qout e g2 h1)
      have := (d.stopped g3 (j := q) (by omega) s.q_le).1
      rw [s.stop] at this; cases this
  · exact {
      ch := fun n c hc => by
        obtain ⟨k, _, _, nb, h2, h3⟩ := hget n c hc
        exact ⟨nb, h2, h3.ext (upto_ext _ _)⟩
      lt := fun n c hc => by
        obtain ⟨k, h1, h2, _⟩ := hget n c hc
        exact Nat.lt_of_lt_of_le h2 h1
      fresh := fun n hn => (s.base.top n hn).1
      own_lt := fun b n hb => ⟨s.base.ownlt b n hb, by
        rcases Nat.lt_or_ge n (f l.length).nx with h1 | h1
        · exact h1
        · exact absurd hb ((s.base.top n h1).2 b)⟩ }
  · refine ⟨s.base.ext, d.nx0 (Nat.le_refl _), s.base.os, s.base.tape, s.base.output, s.base.size, s.base.keep, fun n hn hn' => ?_, s.base.names0, s.base.owns0⟩
    cases hc : CHeap.get ⟨stageHeap (f l.length).st (allMask l.length) (f l.length).frees, (f l.length).nx⟩ n with
    | none => rfl
    | some c =>
      rcases stageHeap_get hc with g | ⟨fo, g1, g2, g3, g4, g5, g6⟩
      · rw [hst, s.live n hn hn'] at g; cases g
      · obtain ⟨k1, k2, k3, _⟩ := d.freeAt l.length (Nat.le_refl _) g1
        have := d.nx0 (i := fo.i) (by omega)
        omega
  · rw [v.tn, d.tmn _ (Nat.le_refl _)]
  · by_cases hex : ∃ (j : Nat) (oj : Oper), ops[j]? = some oj ∧ oj.dst = some t
    · obtain ⟨j, oj, hoj, hd⟩ := hex
      have hj : j < ops.size := (Array.getElem?_eq_some_iff.1 hoj).1
      rw [d.tmNew hoj hd l.length (Nat.le_refl _) (by omega)]
      exact (v.vals j oj t hj hoj hd).mono (upto_ext _ _)
    · rw [d.tmOld l.length (Nat.le_refl _) (fun j oj _ hoj hd => hex ⟨j, oj, hoj, hd⟩), v.olds t (fun j oj _ hoj hd => hex ⟨j, oj, hoj, hd⟩)]
      exact (h0.2 t).mono s.base.ext

end

/-- A region that draws its order. -/
theorem drawnOK (cfg : Cfg P) (orc : Orc X) (horc : OrcOK P orc) : DrawnOK cfg orc := by
  intro ops tm h out h' hy E own w b a k cs id e ht
  unfold cdrawn at hy
  split at hy
  · cases hy
  · rename_i l hann
    obtain ⟨tr, nx⟩ := h
    simp only at hy
    split at hy
    · cases hy
    · rename_i i tm' nx' st old frees reads last stop hds
      obtain ⟨f, f0, fl, fd⟩ := dsteps_trace cfg hds
      have d : DT cfg orc ops l f tm ⟨tr, nx⟩ := ⟨annot_spec hann, f0, fd⟩
      have hsched : Region.schedule (P.follows .mixedOrders) ops (w.tape w.drawn (.order b.fn id)) = Region.linearise.go .any ops ops.size (w.tape w.drawn (.order b.fn id)) (Array.replicate ops.size false) [] := by
        simp only [Region.schedule, cfg.mixed, Bool.true_or, if_true, Region.linearise]
      have hstep := stepR_region_draw (P := P) (b := b) (a := a) (k := k) (cs := cs) (w := w) (ops := ops) (id := id)
      rw [hsched] at hstep
      have hran : ran (Array.replicate ops.size false) ops.size = fun _ => False := funext fun i => propext ⟨fun hh => by
        have h2 := hh.2
        simp [hh.1] at h2, fun hh => hh.elim⟩
      have s0 := DH.start (E0 := E) (own0 := own) (w0 := w) d e
      rw [← hran] at s0
      have v0 : DV f ops tm a.tmps (ran (Array.replicate ops.size false) ops.size) E a.tmps := ⟨ht.1, fun i o t hS => by rw [hran] at hS; exact hS.elim, fun _ _ => rfl⟩
      have hb : b.atR a = b.atR ⟨a.tmps, a.defers⟩ := rfl
      have hi := d.idx l.length (Nat.le_refl _)
      rcases drawn_go d horc e ht b a.defers k cs ops.size (w.tape w.drawn (.order b.fn id)) (Array.replicate ops.size false) 0 E own _ a.tmps (by simp) (leftN_le _ _) s0 v0 with ⟨q', E', own', w', tmps', g1, g2, g3⟩ | hp
      · obtain ⟨k1, k2, k3, k4⟩ := drawn_fin d ht g2 g3
        rw [fl] at k1 k2 k3 k4 hi
        simp only at k1 k2 k3 k4 hi
        subst k1 hi
        simp only [Option.some.injEq, Prod.mk.injEq] at hy
        obtain ⟨rfl, rfl⟩ := hy
        refine ⟨E', own', w', tmps', k2, k3, ?_, k4, .head hstep (Steps.trans g1 (.one stepR_region_end))⟩
        exact g3.tn
      · obtain ⟨c, E', own', w', tmps', todo, chain, k1, k2, k3, k4, k5, k6, k7⟩ := hp
        rw [fl] at k1 k4 k5
        simp only at k1 k4 k5
        subst k1
        obtain ⟨tr1, merged1, done1, nx1⟩ := st
        simp only [Option.some.injEq, Prod.mk.injEq] at hy
        obtain ⟨rfl, rfl⟩ := hy
        refine ⟨E', own', w', tmps', k4, k5, k6, todo, chain, k3, fun t ht' => k7 t (fun j o hoj hd => ht' (dsts_mem hd _ (List.mem_of_getElem? (by simpa using hoj : ops.toList[j]? = some o)))), .head hstep k2⟩

/-- Calls, run on names, are the model's. -/
theorem callsOK (cfg : Cfg P) {sum : Orc X} (hsum : OrcOK P sum) (steps d : Nat) : OrcOK P (ccallRun cfg sum steps d) := ccallRun_ok cfg hsum (fun orc h => drawnOK cfg orc h) steps d
end Cam

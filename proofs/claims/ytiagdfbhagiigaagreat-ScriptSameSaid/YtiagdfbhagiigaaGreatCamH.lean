/- Cam, part H: append, copy, bytes and strings, len, cap. -/
import Derived.Test.YtiagdfbhagiigaaGreatCamG
namespace Cam
open Go Go.Lib
variable {X : Type} [AbsRep X] {P : Program}

theorem Emb.kill {E : Env} {own : Own} {h : CHeap X} {w : World} (e : Emb E own h w) (m : Nat) : Emb E own (h.kill m) w ∧ Tran E own h w E own (h.kill m) w := by
  refine ⟨⟨?_, ?_, e.fresh, e.own_lt⟩, ⟨Ext.refl E, Nat.le_refl _, rfl, rfl, rfl, Nat.le_refl _, fun _ _ _ => ⟨rfl, rfl⟩, ?_, fun _ _ => rfl, fun _ _ h _ => h⟩⟩
  · intro n c hc
    rw [CHeap.get_kill] at hc
    split at hc
    · cases hc
    · exact e.ch n c hc
  · intro n c hc
    rw [CHeap.get_kill] at hc
    split at hc
    · cases hc
    · exact e.lt n c hc
  · intro n _ hd
    rw [CHeap.get_kill]
    split
    · rfl
    · exact hd

/-- The end of a region goes over to a new name. -/
theorem Emb.steal {E : Env} {own : Own} {h : CHeap X} {w w' : World} (e : Emb E own h w) {m off : Nat} {known l : List SV} {opn : Bool} {t : TypeId} {nb : Nb}
    (hc : h.get m = some (.cells known opn t)) (hm : E m = some nb)
    (hs : w'.heap.size = w.heap.size) (hos : w'.os = w.os) (ht : w'.tape = w.tape) (ho : w'.output = w.output) (hoth : ∀ b, b ≠ nb.block → w'.heap[b]? = w.heap[b]?)
    {pre vs post : List Value} {cs : Array Value} {fz : Nat × Nat} (k1 : w'.heap[nb.block]? = some (.cells cs t fz)) (k2 : cs.toList = pre ++ (vs ++ post)) (k3 : pre.length = nb.base + off)
    (k4 : RL E l vs) (k5 : vs.length + post.length = nb.size - off) (k6 : fz.1 = fz.2 ∨ cs.size ≤ fz.1) :
    ∃ E' own', Emb E' own' ((h.kill m).push (.cells l true t)) w' ∧ Tran E own h w E' own' ((h.kill m).push (.cells l true t)) w' ∧ E' h.next = some ⟨nb.block, nb.base + off, nb.size - off⟩ ∧ Ext E E' := by
  obtain ⟨nb0, hnb0, hok0⟩ := e.ch m _ hc
  rw [hm] at hnb0; cases hnb0
  have hown := hok0.owned rfl
  have hlt := (e.own_lt _ _ hown)
  have hx : Ext E (envSet E h.next ⟨nb.block, nb.base + off, nb.size - off⟩) := envSet_ext (e.fresh _ (Nat.le_refl _)) _
  refine ⟨envSet E h.next ⟨nb.block, nb.base + off, nb.size - off⟩, ownSet own nb.block h.next, ⟨?_, ?_, ?_, ?_⟩, ⟨hx, by simp, hos, ht, ho, Nat.le_of_eq hs.symm, ?_, ?_, fun n hn => by simp only [envSet]; rw [if_neg (by omega)], fun b n hb hn => by
    simp only [ownSet] at hb
    split at hb
    · cases hb; omega
    · exact hb⟩, by simp, hx⟩
  · intro n c hn
    rw [CHeap.get_push, CHeap.next_kill, CHeap.get_kill] at hn
    by_cases hnn : n = h.next
    · subst hnn
      rw [if_pos rfl] at hn; cases hn
      exact ⟨_, envSet_same _ _ _, ownSet_same _ _ _, pre, vs, post, cs, fz, k1, k2, k3, k4.mono hx, k5, (fun h => by cases h), k6⟩
    · rw [if_neg hnn] at hn
      by_cases hnm : n = m
      · rw [if_pos hnm] at hn; cases hn
      · rw [if_neg hnm] at hn
        obtain ⟨nb', g1, g2⟩ := e.ch n c hn
        have hne : ∀ b, own b = some n → b ≠ nb.block := fun b hb he => by rw [he, hown] at hb; cases hb; exact hnm rfl
        exact ⟨nb', hx _ _ g1, (g2.ext hx).world (fun b hb => by simp only [ownSet]; rw [if_neg (hne b hb)]; exact hb) (fun b hb => hoth b (hne b hb))⟩
  · intro n c hn
    rw [CHeap.get_push, CHeap.next_kill, CHeap.get_kill] at hn
    by_cases hnn : n = h.next
    · simp [hnn]
    · rw [if_neg hnn] at hn
      split at hn
      · cases hn
      · have := e.lt n c hn; simp; omega
  · intro n hn
    simp only [CHeap.next_push, CHeap.next_kill] at hn
    simp only [envSet]; rw [if_neg (by omega)]; exact e.fresh n (by omega)
  · intro b n hb
    simp only [ownSet] at hb
    split at hb
    · rename_i hbb; cases hb; subst hbb; simp [hs]; omega
    · have := e.own_lt b n hb; simp [hs]; omega
  · intro b hb hd
    have hne : b ≠ nb.block := fun he => by
      have := hd m (by rw [he]; exact hown)
      rw [hc] at this; cases this
    exact ⟨hoth b hne, by simp only [ownSet]; rw [if_neg hne]⟩
  · intro n hn hd
    rw [CHeap.get_push, CHeap.next_kill, if_neg (by omega), CHeap.get_kill]
    split
    · rfl
    · exact hd

/-- What is appended, and what the model's append does with it. -/
theorem news_ok (cfg : Cfg P) {E : Env} {own : Own} {h : CHeap X} {w : World} (e : Emb E own h w) {t u elem : TypeId} {ie : TI} {x : SV} {v : Value} {n : Nat} {news : List SV} (ty : TypeId)
    (hu : cfg.U t = some (.slice elem)) (hie : cfg.I elem = some ie) (hb : ie.bytes ≤ 2 ^ 12) (hr : R E x v) (hy : newsS cfg h u ie x = some (n, news)) :
    ∃ news', RL E news news' ∧
      (∀ base sLen sCap, sLen + n ≤ sCap → (Builtin.append_ #[t, u] ty #[.slice base sLen sCap, v]).run P w =
        match base with
        | some a => ((storeCells (a.add (sLen * ie.size)) news').run P w).andThen fun _ w' => .ok (.slice base (sLen + n) sCap) w'
        | none => .ok (.slice none (sLen + n) sCap) w) ∧
      (∀ base sLen sCap (olds : List Value), (Builtin.firstCells ie.size sLen (.slice base sLen sCap)).run P w.drew = .ok olds.toArray w.drew → sLen + n ≤ 2 ^ 30 → sCap < sLen + n →
        ∃ (c : Nat) (rest : List Value), sLen + n ≤ c ∧ rest.length = (c - (sLen + n)) * ie.size ∧ (Builtin.append_ #[t, u] ty #[.slice base sLen sCap, v]).run P w =
          .ok (.slice (some ⟨w.heap.size, 0, none⟩) (sLen + n) c) (w.drew.alloc (.cells ((olds ++ news') ++ rest).toArray elem))) := by
  unfold newsS at hy
  split at hy
  · rename_i k hk
    split at hy
    · rename_i l hl
      split at hy
      · rename_i hc
        cases hy
        obtain ⟨j, rfl⟩ := svInt_ok hl hr
        exact ⟨_, RL.scs E _, fun base sLen sCap hroom => append_room_zeros ty cfg hu hie (cfg.hU hk) hc.1 hc.2 hb hroom,
          fun base sLen sCap olds ho hn hg => append_grow_zeros ty cfg hu hie (cfg.hU hk) hc.1 ho hb hn hg⟩
      · cases hy
    · cases hy
  · rename_i el hk
    split at hy
    · rename_i n' hn
      split at hy
      · rename_i l hl
        cases hy
        obtain ⟨l', g1, g2⟩ := readS_ok (P := P) e hr hl
        exact ⟨_, g2, fun base sLen sCap hroom => append_room ty cfg hu hie (cfg.hU hk) (.inl ⟨_, rfl⟩) (lenS_ok hr hn w) (g1 w rfl) hroom,
          fun base sLen sCap olds ho hn' hg => append_grow ty cfg hu hie (cfg.hU hk) (.inl ⟨_, rfl⟩) (lenS_ok hr hn w) (g1 w.drew rfl) ho hb hn' hg⟩
      · cases hy
    · cases hy
  · rename_i hk
    split at hy
    · rename_i n' hn
      split at hy
      · rename_i l hl
        cases hy
        obtain ⟨l', g1, g2⟩ := readS_ok (P := P) e hr hl
        exact ⟨_, g2, fun base sLen sCap hroom => append_room ty cfg hu hie (cfg.hU hk) (.inr rfl) (lenS_ok hr hn w) (g1 w rfl) hroom,
          fun base sLen sCap olds ho hn' hg => append_grow ty cfg hu hie (cfg.hU hk) (.inr rfl) (lenS_ok hr hn w) (g1 w.drew rfl) ho hb hn' hg⟩
      · cases hy
    · cases hy
  · cases hy

/-- Appended in place, into what room a region has. -/
theorem steal_append {E : Env} {own : Own} {h : CHeap X} {w : World} (e : Emb E own h w) {m off k : Nat} {known news : List SV} {news' : List Value} {opn : Bool} {t : TypeId} {nb : Nb}
    (hc : h.get m = some (.cells known opn t)) (hm : E m = some nb) (hk : k = 0 ∨ off + k ≤ known.length) (hfit : off + k + news'.length ≤ nb.size) (hrl : RL E news news') (hat : ∀ v ∈ news', v.oneCell' = true) :
    ∃ E' own' w', (storeCells ⟨nb.block, nb.base + off + k, none⟩ news').run P w = .ok () w' ∧ Emb E' own' ((h.kill m).push (.cells ((known.drop off).take k ++ news) true t)) w' ∧
      Tran E own h w E' own' ((h.kill m).push (.cells ((known.drop off).take k ++ news) true t)) w' ∧ E' h.next = some ⟨nb.block, nb.base + off, nb.size - off⟩ := by
  obtain ⟨nb0, hn0, hown, pre, vs, post, cs, fz, h1, h2, h3, h4, h5, h6, h7⟩ := e.ch m _ hc
  rw [hm] at hn0; cases hn0
  have hkl := h4.length
  have hcs : cs.size = pre.length + (vs.length + post.length) := by rw [← Array.length_toList, h2]; simp
  have hrun := run_storeCells_any P nb.block (nb.base + off + k) t fz news' 0 cs w h1 (fz_all h7) (by omega) hat
  have hold : (cs.toList.drop (nb.base + off)).take k = (vs.drop off).take k := by
    rcases hk with rfl | hk
    · simp
    · rw [h2, List.drop_append, List.drop_of_length_le (by omega), List.nil_append, show nb.base + off - pre.length = off by omega, List.drop_append]
      rw [show off - vs.length = 0 by omega, List.drop_zero, List.take_append_of_le_length (by simp; omega)]
  have hnew : cs.toList.take (nb.base + off + k + 0) ++ news' ++ cs.toList.drop (nb.base + off + k + 0 + news'.length) =
      cs.toList.take (nb.base + off) ++ (((vs.drop off).take k ++ news') ++ cs.toList.drop (nb.base + off + k + news'.length)) := by
    rw [Nat.add_zero, List.take_add, hold]; simp [List.append_assoc]
  rw [hnew] at hrun
  have hb := setRow_heap w nb.block cs (cs.toList.take (nb.base + off) ++ (((vs.drop off).take k ++ news') ++ cs.toList.drop (nb.base + off + k + news'.length))).toArray t fz h1
  have hkl2 : ((vs.drop off).take k).length = k := by rcases hk with rfl | hk <;> simp; omega
  obtain ⟨E', own', g1, g2, g3, _⟩ := e.steal (off := off) (l := (known.drop off).take k ++ news) (pre := cs.toList.take (nb.base + off)) (vs := (vs.drop off).take k ++ news') (post := cs.toList.drop (nb.base + off + k + news'.length)) hc hm (setRow_size _ _ _) rfl rfl rfl (fun b hb => setRow_other _ _ _ _ hb) hb (by simp)
    (by simp; omega) (((h4.drop off).take k).append hrl) (by simp only [List.length_append, hkl2, List.length_drop, Array.length_toList]; omega)
    (by
      simp only [List.size_toArray, List.length_append, List.length_take, Array.length_toList, hkl2, List.length_drop]
      omega)
  exact ⟨E', own', _, hrun, g1, g2, g3⟩

theorem vappend_ok (cfg : Cfg P) {E : Env} {own : Own} {h h' : CHeap X} {w : World} (e : Emb E own h w) {t u : TypeId} {s x y : SV} {v v2 : Value} (ty : TypeId) (hs : R E s v) (hx : R E x v2)
    (hy : vappend cfg h t u s x = some (y, h')) :
    ∃ r E' own' w', (Builtin.append_ #[t, u] ty #[v, v2]).run P w = .ok r w' ∧ Emb E' own' h' w' ∧ Tran E own h w E' own' h' w' ∧ R E' y r := by
  unfold vappend at hy
  split at hy
  · rename_i elem hu
    split at hy
    · rename_i ie hie
      split at hy
      · rename_i n news hnews
        split at hy
        · rename_i hcond
          obtain ⟨hlen, hat, hb⟩ := hcond
          obtain ⟨news', hrl, hroom, hgrow⟩ := news_ok cfg e ty hu hie hb hx hnews
          have hlen' := hrl.length
          have hat' := atoms_of hrl hat
          have hnl : news'.length = n * ie.size := by omega
          split at hy
          · -- a nil slice
            cases hs
            split at hy
            · rename_i hn
              cases hy
              exact ⟨_, E, own, w, hroom none 0 0 (by omega), e, Tran.refl _ _ _ _, by rw [hn]; exact .sc _⟩
            · rename_i hn
              split at hy
              · rename_i hle
                cases hy
                obtain ⟨c, rest, g1, g2, g3⟩ := hgrow none 0 0 [] (by simp [Builtin.firstCells]) (by omega) (by omega)
                obtain ⟨E', own', e', tr, hn'⟩ := new_cells e hrl elem rest true (fun h => by cases h) w.drew rfl rfl rfl rfl
                refine ⟨_, E', own', _, g3, e', tr, ?_⟩
                have hmul : n * ie.size + (c - n) * ie.size = c * ie.size := by rw [← Nat.add_mul]; congr 1; omega
                have := R.sl (E := E') (n := h.next) (off := 0) (len := n) (esz := ie.size) (cmin := n) (exact := false) (c := c) hn' ⟨Nat.le_refl _, by omega⟩
                  (by simp only [Nat.zero_add] at g2 ⊢; omega) (fun h => by cases h)
                simpa using this
              · cases hy
          · -- a slice of a region
            rename_i m off len esz cmin exact
            split at hy
            · rename_i known opn tt hm
              split at hy
              · rename_i hc2
                obtain ⟨rfl, hfit, hsz⟩ := hc2
                have hs' := hs
                cases hs with
                | @sl _ _ _ _ _ _ nb c hnb hle hcap hex =>
                  split at hy
                  · rename_i hn
                    cases hy
                    subst hn
                    have hnil : news' = [] := List.length_eq_zero_iff.1 (by rw [hnl]; simp)
                    have := hroom (some ⟨nb.block, nb.base + off, none⟩) len c (by omega)
                    simp only [hnil, storeCells, Sem.run_pure, Result.andThen_ok] at this
                    exact ⟨_, E, own, w, this, e, Tran.refl _ _ _ _, hs'⟩
                  · rename_i hn
                    have hmul : (len + n) * ie.size = len * ie.size + n * ie.size := Nat.add_mul _ _ _
                    split at hy
                    · -- room that is known
                      rename_i hr
                      split at hy
                      · rename_i hk
                        cases hy
                        obtain ⟨nb', w', q1, q2, q3, q4⟩ := store_cells (P := P) (off := off + len * ie.size) e hm hrl (by omega) hat'
                        rw [hnb] at q1; cases q1
                        have := hroom (some ⟨nb.block, nb.base + off, none⟩) len c (by omega)
                        simp only [addr_add, Nat.add_assoc, q2, Result.andThen_ok] at this
                        exact ⟨_, E, own, w', by simpa [Nat.add_assoc] using this, q3, q4, .sl hnb ⟨hr, hle.2⟩ hcap hex⟩
                      · cases hy
                    · rename_i hr
                      obtain ⟨nb', olds, q1, q2, q3, q4⟩ := load_cells1 (P := P) e hm hfit
                      rw [hnb] at q1; cases q1
                      have hfirst : (Builtin.firstCells ie.size len (.slice (some ⟨nb.block, nb.base + off, none⟩) len c)).run P w.drew = .ok olds.toArray w.drew := by
                        simpa [Builtin.firstCells] using q4 w.drew rfl
                      split at hy
                      · -- a region that is full
                        rename_i hexact
                        cases hy
                        have hcc := hex hexact
                        obtain ⟨c', rest, g1, g2, g3⟩ := hgrow _ len c olds hfirst hsz (by omega)
                        obtain ⟨E', own', e', tr, hn'⟩ := new_cells e (q2.append hrl) elem rest true (fun h => by cases h) w.drew rfl rfl rfl rfl
                        refine ⟨_, E', own', _, g3, e', tr, ?_⟩
                        have hm2 : (len + n) * ie.size + (c' - (len + n)) * ie.size = c' * ie.size := by rw [← Nat.add_mul]; congr 1; omega
                        have := R.sl (E := E') (n := h.next) (off := 0) (len := len + n) (esz := ie.size) (cmin := len + n) (exact := false) (c := c') hn' ⟨Nat.le_refl _, by omega⟩
                          (by simp only [List.length_append]; omega) (fun h => by cases h)
                        simpa using this
                      · split at hy
                        · rename_i hty
                          subst hty
                          cases hy
                          by_cases hroom2 : len + n ≤ c
                          · have hm3 : (len + n) * ie.size ≤ c * ie.size := Nat.mul_le_mul_right _ hroom2
                            obtain ⟨E', own', w', g1, g2, g3, g4⟩ := steal_append (P := P) (off := off) (k := len * ie.size) e hm hnb (.inr hfit) (by omega) hrl hat'
                            have := hroom (some ⟨nb.block, nb.base + off, none⟩) len c hroom2
                            simp only [addr_add, g1, Result.andThen_ok] at this
                            refine ⟨_, E', own', w', this, g2, g3, ?_⟩
                            have := R.sl (E := E') (n := h.next) (off := 0) (len := len + n) (esz := ie.size) (cmin := len + n) (exact := false) (c := c) g4 ⟨Nat.le_refl _, by omega⟩
                              (by simp only; omega) (fun h => by cases h)
                            simpa using this
                          · obtain ⟨c', rest, g1, g2, g3⟩ := hgrow _ len c olds hfirst hsz (by omega)
                            obtain ⟨ek, tk⟩ := e.kill m
                            obtain ⟨E', own', e', tr, hn'⟩ := new_cells ek (q2.append hrl) tt rest true (fun h => by cases h) w.drew rfl rfl rfl rfl
                            refine ⟨_, E', own', _, g3, e', tk.trans e tr, ?_⟩
                            have hm2 : (len + n) * ie.size + (c' - (len + n)) * ie.size = c' * ie.size := by rw [← Nat.add_mul]; congr 1; omega
                            have := R.sl (E := E') (n := h.next) (off := 0) (len := len + n) (esz := ie.size) (cmin := len + n) (exact := false) (c := c') hn' ⟨Nat.le_refl _, by omega⟩
                              (by simp only [List.length_append]; omega) (fun h => by cases h)
                            simpa using this
                        · cases hy
              · cases hy
            · cases hy
          · -- an empty slice somewhere in a region
            rename_i m esz
            split at hy
            · rename_i known opn tt hm
              split at hy
              · rename_i hc2
                obtain ⟨rfl, rfl, hsz⟩ := hc2
                have hs' := hs
                cases hs with
                | @esl _ _ nb o c hnb hcap =>
                  split at hy
                  · rename_i hn
                    cases hy
                    subst hn
                    have hnil : news' = [] := List.length_eq_zero_iff.1 (by rw [hnl]; simp)
                    have := hroom (some ⟨nb.block, nb.base + o, none⟩) 0 c (by omega)
                    simp only [hnil, storeCells, Sem.run_pure, Result.andThen_ok] at this
                    exact ⟨_, E, own, w, this, e, Tran.refl _ _ _ _, hs'⟩
                  · rename_i hn
                    cases hy
                    by_cases hroom2 : n ≤ c
                    · have hm3 : n * ie.size ≤ c * ie.size := Nat.mul_le_mul_right _ hroom2
                      obtain ⟨E', own', w', g1, g2, g3, g4⟩ := steal_append (P := P) (off := o) (k := 0) e hm hnb (.inl rfl) (by omega) hrl hat'
                      have := hroom (some ⟨nb.block, nb.base + o, none⟩) 0 c (by omega)
                      simp only [addr_add, Nat.zero_mul, g1, Result.andThen_ok, Nat.zero_add] at this
                      refine ⟨_, E', own', w', this, by simpa using g2, by simpa using g3, ?_⟩
                      have := R.sl (E := E') (n := h.next) (off := 0) (len := n) (esz := ie.size) (cmin := n) (exact := false) (c := c) g4 ⟨Nat.le_refl _, by omega⟩
                        (by simp only; omega) (fun h => by cases h)
                      simpa using this
                    · obtain ⟨c', rest, g1, g2, g3⟩ := hgrow (some ⟨nb.block, nb.base + o, none⟩) 0 c [] (by simp [Builtin.firstCells, loadCells, loadCellsFrom]) (by omega) (by omega)
                      obtain ⟨ek, tk⟩ := e.kill m
                      obtain ⟨E', own', e', tr, hn'⟩ := new_cells ek hrl tt rest true (fun h => by cases h) w.drew rfl rfl rfl rfl
                      refine ⟨_, E', own', _, g3, e', tk.trans e tr, ?_⟩
                      have hm2 : n * ie.size + (c' - n) * ie.size = c' * ie.size := by rw [← Nat.add_mul]; congr 1; omega
                      have := R.sl (E := E') (n := h.next) (off := 0) (len := n) (esz := ie.size) (cmin := n) (exact := false) (c := c') hn' ⟨Nat.le_refl _, by omega⟩
                        (by simp only [Nat.zero_add] at g2 ⊢; omega) (fun h => by cases h)
                      simpa using this
              · cases hy
            · cases hy
          · cases hy
        · cases hy
      · cases hy
    · cases hy
  · cases hy
end Cam

/- Cam, part M: the next entry of a map; an entry that is written where it was found. -/
import Derived.Test.YtiagdfbhagiigaaGreatCamL
namespace Cam
open Go Go.Lib
variable {X : Type} [AbsRep X] {P : Program}

def candS (since : Nat) (seen : List Nat) (es : List (Value × Nat × SV)) : List (Option (Value × Nat × SV)) :=
  (if ((es.filter fun e => !seen.contains e.2.1).filter fun e => decide (e.2.1 < since)).isEmpty then [none] else []) ++
    ((((es.filter fun e => !seen.contains e.2.1).filter fun e => decide (e.2.1 < since)) ++ ((es.filter fun e => !seen.contains e.2.1).filter fun e => decide (e.2.1 ≥ since))).map some)

def vnext (h : CHeap X) : SV → Option (SV × CHeap X)
  | .ptr r 0 => match h.get r with
    | some (.iter none _ _ _) => some (.tup [.sc (.bool false)], h)
    | some (.iter (some m) since seen last) => (match h.get m with
      | some (.map es clock) => if !seen.isEmpty && !es.isEmpty && es.all (fun e => decide (e.2.1 ≥ last)) then none else
        (match candS since seen es with
        | [none] => some (.tup [.sc (.bool false)], h)
        | [some (k, b, x)] => some (.tup [.sc (.bool true), .sc k, x], h.set r (.iter (some m) since (seen ++ [b]) clock))
        | _ => none)
      | _ => none)
    | _ => none
  | _ => none

theorem ME.filter {E : Env} (p : Nat → Bool) : ∀ {es : List (Value × Nat × SV)} {es' : List MapEntry}, ME E es es' → ME E (es.filter fun e => p e.2.1) (es'.filter fun e => p e.born)
  | _, _, .nil => .nil
  | _, _, .cons (b := b) hx hl => by
    have ih := ME.filter p hl
    cases hb : p b
    · simpa [List.filter_cons, hb] using ih
    · simpa [List.filter_cons, hb] using ME.cons hx ih

theorem ME.all {E : Env} (p : Nat → Bool) : ∀ {es : List (Value × Nat × SV)} {es' : List MapEntry}, ME E es es' → (es'.all fun e => p e.born) = es.all fun e => p e.2.1
  | _, _, .nil => rfl
  | _, _, .cons (b := b) hx hl => by simp [ME.all p hl]

theorem run_getObj_iter {w : World} {r : Nat} {m : Option Nat} {a c : Nat} {b : Array Nat} (h : w.heap[r]? = some (.mapIter m a b c)) : (getObj r).run P w = .ok (.mapIter m a b c) w := by
  simp [getObj, Sem.run, h]

def candM (since : Nat) (seen : List Nat) (es : List MapEntry) : List (Option MapEntry) :=
  (if ((es.filter fun e => !seen.contains e.born).filter fun e => decide (e.born < since)).isEmpty then [none] else []) ++
    ((((es.filter fun e => !seen.contains e.born).filter fun e => decide (e.born < since)) ++ ((es.filter fun e => !seen.contains e.born).filter fun e => decide (e.born ≥ since))).map some)

theorem ME.one {E : Env} {k : Value} {b : Nat} {x : SV} {es' : List MapEntry} (h : ME E [(k, b, x)] es') : ∃ v, es' = [{ key := k, val := v, born := b }] ∧ R E x v := by
  cases h with | cons hx hl => cases hl; exact ⟨_, rfl, hx⟩

theorem cand_none {E : Env} {since : Nat} {seen : List Nat} {es : List (Value × Nat × SV)} {es' : List MapEntry} (h : ME E es es') (hc : candS since seen es = [none]) : candM since seen es' = [none] := by
  have hleft := h.filter (fun b => !seen.contains b)
  have hold := hleft.filter (fun b => decide (b < since))
  have hnew := hleft.filter (fun b => decide (b ≥ since))
  have hE := hold.isEmpty
  have hl := (hold.append hnew).length
  unfold candS at hc
  unfold candM
  rw [hE]
  split at hc
  · rename_i h0
    rw [if_pos h0]
    simp only [List.cons_append, List.nil_append, List.cons.injEq, true_and, List.map_eq_nil_iff] at hc ⊢
    rw [hc] at hl
    exact List.length_eq_zero_iff.1 hl.symm
  · simp only [List.nil_append] at hc
    have := congrArg (List.head?) hc
    rw [List.head?_map] at this
    simp at this

theorem cand_some {E : Env} {since : Nat} {seen : List Nat} {es : List (Value × Nat × SV)} {es' : List MapEntry} {k : Value} {b : Nat} {x : SV} (h : ME E es es') (hc : candS since seen es = [some (k, b, x)]) :
    ∃ v, candM since seen es' = [some { key := k, val := v, born := b }] ∧ R E x v := by
  have hleft := h.filter (fun b => !seen.contains b)
  have hold := hleft.filter (fun b => decide (b < since))
  have hnew := hleft.filter (fun b => decide (b ≥ since))
  have hE := hold.isEmpty
  have hall := hold.append hnew
  unfold candS at hc
  unfold candM
  rw [hE]
  split at hc
  · simp at hc
  · rename_i h0
    rw [if_neg h0]
    simp only [List.nil_append, List.map_eq_singleton_iff, Option.some.injEq] at hc
    obtain ⟨a, ha, rfl⟩ := hc
    rw [ha] at hall
    obtain ⟨v, hv, hr⟩ := hall.one
    exact ⟨v, by rw [hv]; rfl, hr⟩

theorem vnext_ok {E : Env} {own : Own} {h h' : CHeap X} {w : World} (e : Emb E own h w) {x y : SV} {v : Value} (t : TypeId) (hx : R E x v) (hy : vnext h x = some (y, h')) :
    ∃ r w', (Instr.next v false t).run P w = .ok r w' ∧ Emb E own h' w' ∧ Tran E own h w E own h' w' ∧ R E y r := by
  unfold vnext at hy
  split at hy
  · rename_i r
    cases hx with
    | @ptr _ _ nb hn =>
      split at hy
      · rename_i s se st hg
        cases hy
        obtain ⟨nb', hn', hown, hb0, hheap⟩ := e.ch r _ hg
        rw [hn] at hn'; cases hn'
        refine ⟨.tuple #[.bool false], w, ?_, e, Tran.refl _ _ _ _, .tup (.cons (.sc _) .nil)⟩
        simp [Instr.next, hb0, run_getObj_iter hheap]
      · rename_i m since seen last hg
        obtain ⟨nb', hn', hown, hb0, mb, hm, hheap⟩ := e.ch r _ hg
        rw [hn] at hn'; cases hn'
        split at hy
        · rename_i es clock hgm
          obtain ⟨mb', entries, g1, g2, g3⟩ := emb_map e hgm
          rw [hm] at g1; cases g1
          split at hy
          · cases hy
          · rename_i hbad
            have hbad' : (!seen.isEmpty && !entries.isEmpty && entries.all (fun e => decide (e.born ≥ last))) = false := by
              have h1 := g2.all (fun b => decide (b ≥ last))
              simp only [Bool.not_eq_true] at hbad
              rw [← hbad, h1, g2.isEmpty]
            have hcand : ((if ((entries.toArray.filter fun (e : MapEntry) => !seen.toArray.contains e.born).filter fun (e : MapEntry) => decide (e.born < since)).isEmpty then #[none] else #[]) ++
                (((entries.toArray.filter fun (e : MapEntry) => !seen.toArray.contains e.born).filter fun (e : MapEntry) => decide (e.born < since)) ++
                  ((entries.toArray.filter fun (e : MapEntry) => !seen.toArray.contains e.born).filter fun (e : MapEntry) => decide (e.born ≥ since))).map some : Array (Option MapEntry)) = (candM since seen entries).toArray := by
              unfold candM
              apply Array.ext'
              simp
              split <;> simp
            split at hy
            · rename_i hc
              cases hy
              refine ⟨.tuple #[.bool false], w, ?_, e, Tran.refl _ _ _ _, .tup (.cons (.sc _) .nil)⟩
              simp only [Instr.next, hb0, Nat.zero_add, Sem.run_bind, run_getObj_iter hheap, Result.andThen_ok, run_getObj_map g3, List.isEmpty_toArray, List.all_toArray, hbad', Bool.false_eq_true, if_false]
              rw [hcand, cand_none g2 hc]
              simp [Question.forced]
            · rename_i k b x hc
              cases hy
              obtain ⟨u, hcm, hru⟩ := cand_some g2 hc
              obtain ⟨e1, t1⟩ := turn_obj e (c' := .iter (some m) since (seen ++ [b]) clock) (o' := .mapIter (some mb.block) since (seen ++ [b]).toArray clock) hg hn rfl hheap
                (fun w' ho hw => ⟨ho, hb0, mb, hm, hw⟩)
              refine ⟨.tuple #[.bool true, k, u], _, ?_, e1, t1, .tup (.cons (.sc _) (.cons (.sc _) (.cons hru .nil)))⟩
              simp only [Instr.next, hb0, Nat.zero_add, Sem.run_bind, run_getObj_iter hheap, Result.andThen_ok, run_getObj_map g3, List.isEmpty_toArray, List.all_toArray, hbad', Bool.false_eq_true, if_false]
              rw [hcand, hcm]
              simp [Question.forced, run_setObj hheap rfl]
            · cases hy
        · cases hy
      · cases hy
  · cases hy

/-! ### 'm[k] op= v' -/
def vmapEntry (cfg : Cfg P) (h : CHeap X) (t : TypeId) (m k : SV) : Option (SV × CHeap X) :=
  match cfg.U t, m, k.plain? with
  | some (.map kt elem), .mp n, some k => (match h.get n with
    | some (.map es clock) => (match pureRun P (Instr.checkKey false 10000 kt k), cfind P kt k es with
      | some (), some (some i) => (match es[i]? with
        | some (k0, b, x) => if Instr.sameBits 10000 k0 k then some (.tup [x, .sc (.int .i64 b)], h.set n (.map (es.set i (k, b, x)) clock)) else none
        | none => none)
      | some (), some none => (match cfg.I elem with
        | some ie => some (.tup [.sc ie.zero, .sc (.int .i64 clock)], h.set n (.map (es ++ [(k, clock, .sc ie.zero)]) (clock + 1)))
        | none => none)
      | _, _ => none)
    | _ => none)
  | _, _, _ => none

theorem vmapEntry_ok (cfg : Cfg P) {E : Env} {own : Own} {h h' : CHeap X} {w : World} (e : Emb E own h w) {t : TypeId} {m k y : SV} {vm vk : Value} (hm : R E m vm) (hk : R E k vk)
    (hy : vmapEntry cfg h t m k = some (y, h')) : ∃ r w', (Instr.mapEntry t vm vk).run P w = .ok r w' ∧ Emb E own h' w' ∧ Tran E own h w E own h' w' ∧ R E y r := by
  unfold vmapEntry at hy
  split at hy
  · rename_i kt elem n k0 hu hk0
    obtain rfl := SV.plain_eq hk0 hk
    cases hm with
    | @mp _ nb hn =>
      split at hy
      · rename_i es clock hg
        obtain ⟨nb', entries, g1, g2, g3⟩ := emb_map e hg
        rw [hn] at g1; cases g1
        split at hy
        · rename_i i hck hf
          obtain ⟨_, e', x', q1, q2, q3, q4⟩ := cfind_ok g2 hf
          rw [q2] at hy
          simp only at hy
          split at hy
          · rename_i hsame
            cases hy
            obtain ⟨e1, t1⟩ := turn_obj e (c' := .map (es.set i (vk, e'.born, x')) clock) (o' := .map (entries.set i { key := vk, val := e'.val, born := e'.born }).toArray clock) hg hn rfl g3
              (fun w' ho hw => ⟨ho, _, hw, g2.set q3 i⟩)
            refine ⟨.tuple #[e'.val, .int .i64 e'.born], _, ?_, e1, t1, .tup (.cons q3 (.cons (.sc _) .nil))⟩
            have hlt : i < entries.length := (List.getElem?_eq_some_iff.1 q1).1
            have hge : entries[i] = e' := (List.getElem?_eq_some_iff.1 q1).2
            have hmod : entries.toArray.modify i (fun e => { e with key := vk }) = (entries.set i { key := vk, val := e'.val, born := e'.born }).toArray := by
              apply Array.ext'
              simp only [Array.toList_modify]
              apply List.ext_getElem?
              intro j
              rw [List.getElem?_modify, List.getElem?_set]
              by_cases hij : i = j
              · subst hij
                simp [hlt, hge]
              · simp [hij]
            have hkey : (Instr.keyThatStays e'.key vk).run P w = .ok vk w := by simp [Instr.keyThatStays, hsame]
            simp only [Instr.mapEntry, Sem.run_bind, run_und (cfg.hU hu), Result.andThen_ok, run_getObj_map g3, pureRun_ok hck w, q4 w, List.getElem?_toArray, q1, Option.map_some, Option.getD_some, hkey, hmod, run_setObj g3 rfl, Sem.run_pure, goInt]
          · cases hy
        · rename_i hck hf
          obtain ⟨_, q4⟩ := cfind_ok g2 hf
          split at hy
          · rename_i ie hie
            cases hy
            have hz := cfg.run_zero hie w
            obtain ⟨e1, t1⟩ := turn_obj e (c' := .map (es ++ [(vk, clock, .sc ie.zero)]) (clock + 1)) (o' := .map (entries ++ [({ key := vk, val := ie.zero, born := clock } : MapEntry)]).toArray (clock + 1)) hg hn rfl g3
              (fun w' ho hw => ⟨ho, _, hw, g2.append (.cons (.sc _) .nil)⟩)
            refine ⟨.tuple #[ie.zero, .int .i64 clock], _, ?_, e1, t1, .tup (.cons (.sc _) (.cons (.sc _) .nil))⟩
            simp only [Instr.mapEntry, Sem.run_bind, run_und (cfg.hU hu), Result.andThen_ok, run_getObj_map g3, pureRun_ok hck w, q4 w, run_setObj g3 rfl, List.push_toArray, hz, Sem.run_pure, goInt]
          · cases hy
        · cases hy
      · cases hy
  · cases hy

def ventryStore (h : CHeap X) (m s x : SV) : Option (CHeap X) :=
  match m, svInt s with
  | .mp n, some b => (match h.get n with
    | some (.map es clock) => (match es.findIdx? (fun e => decide ((e.2.1 : Int) = b)) with
      | some i => (match es[i]? with
        | some (k, b, _) => some (h.set n (.map (es.set i (k, b, x)) clock))
        | none => none)
      | none => none)
    | _ => none)
  | _, _ => none

theorem ME.findIdx {E : Env} (p : Nat → Bool) : ∀ {es : List (Value × Nat × SV)} {es' : List MapEntry}, ME E es es' → es'.findIdx? (fun e => p e.born) = es.findIdx? (fun e => p e.2.1)
  | _, _, .nil => rfl
  | _, _, .cons (b := b) hx hl => by simp [List.findIdx?_cons, ME.findIdx p hl]

theorem ventryStore_ok {E : Env} {own : Own} {h h' : CHeap X} {w : World} (e : Emb E own h w) (t : TypeId) {m s x : SV} {vm vs vx : Value} (hm : R E m vm) (hs : R E s vs) (hx : R E x vx)
    (hy : ventryStore h m s x = some h') : ∃ w', (Instr.entryStore t vm vs vx).run P w = .ok () w' ∧ Emb E own h' w' ∧ Tran E own h w E own h' w' := by
  unfold ventryStore at hy
  split at hy
  · rename_i n b hb
    obtain ⟨q, rfl⟩ := svInt_ok hb hs
    cases hm with
    | @mp _ nb hn =>
      split at hy
      · rename_i es clock hg
        obtain ⟨nb', entries, g1, g2, g3⟩ := emb_map e hg
        rw [hn] at g1; cases g1
        split at hy
        · rename_i i hf
          split at hy
          · rename_i k0 b0 x0 hi
            cases hy
            have hf' : entries.findIdx? (fun e => (e.born : Int) == b) = some i := by
              have := g2.findIdx (fun c => decide ((c : Int) = b))
              rw [hf] at this
              rw [← this]; congr 1
            obtain ⟨e', hei⟩ : ∃ e', entries[i]? = some e' := by
              have h1 : i < es.length := (List.getElem?_eq_some_iff.1 hi).1
              have h2 := g2.length
              exact ⟨entries[i]'(by omega), List.getElem?_eq_getElem (by omega)⟩
            obtain ⟨x1, w1, w2⟩ := g2.get hei
            rw [hi] at w1
            simp only [Option.some.injEq, Prod.mk.injEq] at w1
            obtain ⟨rfl, rfl, rfl⟩ := w1
            obtain ⟨e1, t1⟩ := turn_obj e (c' := .map (es.set i (e'.key, e'.born, x)) clock) (o' := .map (entries.set i { key := e'.key, val := vx, born := e'.born }).toArray clock) hg hn rfl g3
              (fun w' ho hw => ⟨ho, _, hw, g2.set hx i⟩)
            refine ⟨_, ?_, e1, t1⟩
            have hlt : i < entries.length := (List.getElem?_eq_some_iff.1 hei).1
            have hge : entries[i] = e' := (List.getElem?_eq_some_iff.1 hei).2
            have hmod : entries.toArray.modify i (fun e => { e with val := vx }) = (entries.set i { key := e'.key, val := vx, born := e'.born }).toArray := by
              apply Array.ext'
              simp only [Array.toList_modify]
              apply List.ext_getElem?
              intro j
              rw [List.getElem?_modify, List.getElem?_set]
              by_cases hij : i = j
              · subst hij
                simp [hlt, hge]
              · simp [hij]
            simp [Instr.entryStore, run_getObj_map g3, asInt, asIntOf, hf', hmod, run_setObj g3 rfl]
          · cases hy
        · cases hy
      · cases hy
  · cases hy
end Cam

/- Cam, part K: the operations on maps. -/
import Derived.Test.YtiagdfbhagiigaaGreatCamJ
namespace Cam
open Go Go.Lib
variable {X : Type} [AbsRep X] {P : Program}

def mapEs (h : CHeap X) : SV → Option (List (Value × Nat × SV))
  | .sc (.map none) => some []
  | .mp n => match h.get n with | some (.map es _) => some es | _ => none
  | _ => none

def vlookup (cfg : Cfg P) (h : CHeap X) (t : TypeId) (x ix : SV) (commaOk : Bool) : Option SV :=
  match cfg.U t, mapEs h x, ix.plain? with
  | some (.map kt elem), some es, some k => (match cfind P kt k es with
    | some (some i) => (match es[i]? with | some (_, _, v) => some (if commaOk then .tup [v, .sc (.bool true)] else v) | none => none)
    | some none => (match cfg.I elem with | some ie => some (if commaOk then .tup [.sc ie.zero, .sc (.bool false)] else .sc ie.zero) | none => none)
    | none => none)
  | _, _, _ => none

theorem vlookup_ok (cfg : Cfg P) {E : Env} {own : Own} {h : CHeap X} {w : World} (e : Emb E own h w) {t : TypeId} {x ix y : SV} {v k : Value} {ok : Bool} (hx : R E x v) (hk : R E ix k)
    (hy : vlookup cfg h t x ix ok = some y) : ∃ r, (Instr.lookup t v k ok).run P w = .ok r w ∧ R E y r := by
  unfold vlookup at hy
  split at hy
  · rename_i kt elem es k0 hu hes hk0
    obtain rfl := SV.plain_eq hk0 hk
    -- the entries
    obtain ⟨es', hme, hrun⟩ : ∃ es' : List MapEntry, ME E es es' ∧ ((v = .map none ∧ es' = []) ∨ ∃ b clock, v = .map (some b) ∧ w.heap[b]? = some (.map es'.toArray clock)) := by
      unfold mapEs at hes
      split at hes
      · cases hes; cases hx; exact ⟨[], .nil, .inl ⟨rfl, rfl⟩⟩
      · rename_i n
        split at hes
        · rename_i es0 clock hg
          cases hes
          cases hx with
          | @mp _ nb hn =>
            obtain ⟨nb', entries, g1, g2, g3⟩ := emb_map e hg
            rw [hn] at g1; cases g1
            exact ⟨entries, g2, .inr ⟨_, _, rfl, g3⟩⟩
        · cases hes
      · cases hes
    split at hy
    · rename_i i hf
      obtain ⟨hck, e', x', q1, q2, q3, q4⟩ := cfind_ok hme hf
      rw [q2] at hy
      simp only at hy
      cases hy
      refine ⟨if ok then .tuple #[e'.val, .bool true] else e'.val, ?_, ?_⟩
      · have hck' := hck w
        have q4' := q4 w
        rcases hrun with ⟨rfl, rfl⟩ | ⟨b, clock, rfl, hb⟩
        · simp at q1
        · simp only [Instr.lookup, Sem.run_bind, run_und (cfg.hU hu), Result.andThen_ok, run_getObj_map hb, List.isEmpty_toArray, hck', q4', Sem.run_pure]
      · cases ok
        · exact q3
        · exact .tup (.cons q3 (.cons (.sc _) .nil))
    · rename_i hf
      obtain ⟨hck, q4⟩ := cfind_ok hme hf
      split at hy
      · rename_i ie hie
        cases hy
        have hz := cfg.run_zero hie w
        refine ⟨if ok then .tuple #[ie.zero, .bool false] else ie.zero, ?_, ?_⟩
        · have hck' := hck w
          have q4' := q4 w
          rcases hrun with ⟨rfl, rfl⟩ | ⟨b, clock, rfl, hb⟩
          · simp only [Instr.lookup, Sem.run_bind, run_und (cfg.hU hu), Result.andThen_ok, Sem.run_pure, List.isEmpty_toArray, hck', q4', hz]
          · simp only [Instr.lookup, Sem.run_bind, run_und (cfg.hU hu), Result.andThen_ok, run_getObj_map hb, List.isEmpty_toArray, hck', q4', hz, Sem.run_pure]
        · cases ok
          · exact .sc _
          · exact .tup (.cons (.sc _) (.cons (.sc _) .nil))
      · cases hy
    · cases hy
  · cases hy

/-- An entry of the very key, for the same. -/
def vmapUpdate (cfg : Cfg P) (h : CHeap X) (t : TypeId) (m k x : SV) : Option (CHeap X) :=
  match cfg.U t, m, k.plain? with
  | some (.map kt _), .mp n, some k => (match h.get n with
    | some (.map es clock) => (match pureRun P (Instr.checkKey false 10000 kt k), cfind P kt k es with
      | some (), some (some i) => (match es[i]? with
        | some (k0, b, _) => if Instr.sameBits 10000 k0 k then some (h.set n (.map (es.set i (k, b, x)) clock)) else none
        | none => none)
      | some (), some none => some (h.set n (.map (es ++ [(k, clock, x)]) (clock + 1)))
      | _, _ => none)
    | _ => none)
  | _, _, _ => none

theorem run_setObj {w : World} {r : Nat} {o o' : Obj} (h : w.heap[r]? = some o) (hc : o.isCells = false) : (setObj r o').run P w = .ok () { w with heap := w.heap.setIfInBounds r o' } := by
  cases o <;> simp [Obj.isCells] at hc <;> simp [setObj, Sem.run, h]

theorem turn_obj {E : Env} {own : Own} {h : CHeap X} {w : World} (e : Emb E own h w) {n : Nat} {c c' : Chunk X} {nb : Nb} {o o' : Obj} (hc : h.get n = some c) (hn : E n = some nb) (hraw : c.raw = true)
    (ho : w.heap[nb.block]? = some o) (hok : ∀ w' : World, own nb.block = some n → w'.heap[nb.block]? = some o' → ChunkOK E own w' n nb c') :
    Emb E own (h.set n c') { w with heap := w.heap.setIfInBounds nb.block o' } ∧ Tran E own h w E own (h.set n c') { w with heap := w.heap.setIfInBounds nb.block o' } := by
  obtain ⟨nb0, hnb0, hok0⟩ := e.ch n c hc
  rw [hn] at hnb0; cases hnb0
  have hown := hok0.owned hraw
  have hlt : nb.block < w.heap.size := (Array.getElem?_eq_some_iff.1 ho).1
  refine e.turn hc hn hraw (by simp) rfl rfl rfl (fun b hb => ?_) (hok _ hown ?_)
  · simp only [Array.getElem?_setIfInBounds]; rw [if_neg (fun h => hb h.symm)]
  · simp [hlt]

theorem vmapUpdate_ok (cfg : Cfg P) {E : Env} {own : Own} {h h' : CHeap X} {w : World} (e : Emb E own h w) {t : TypeId} {m k x : SV} {vm vk vx : Value} (hm : R E m vm) (hk : R E k vk) (hx : R E x vx)
    (hy : vmapUpdate cfg h t m k x = some h') : ∃ w', (Instr.mapUpdate t vm vk vx).run P w = .ok () w' ∧ Emb E own h' w' ∧ Tran E own h w E own h' w' := by
  unfold vmapUpdate at hy
  split at hy
  · rename_i kt elem n k0 hu hk0
    obtain rfl := SV.plain_eq hk0 hk
    cases hm with
    | @mp _ nb hn =>
      split at hy
      · rename_i es clock hg
        obtain ⟨nb', entries, g1, g2, g3⟩ := emb_map e hg
        rw [hn] at g1; cases g1
        split at hy
        · rename_i i hck hf
          obtain ⟨_, e', x', q1, q2, q3, q4⟩ := cfind_ok g2 hf
          rw [q2] at hy
          simp only at hy
          split at hy
          · rename_i hsame
            cases hy
            obtain ⟨e1, t1⟩ := turn_obj e (c' := .map (es.set i (vk, e'.born, x)) clock) (o' := .map (entries.set i { key := vk, val := vx, born := e'.born }).toArray clock) hg hn rfl g3
              (fun w' ho hw => ⟨ho, _, hw, g2.set hx i⟩)
            refine ⟨_, ?_, e1, t1⟩
            have hmod : entries.toArray.modify i (fun e => { e with key := vk, val := vx }) = (entries.set i { key := vk, val := vx, born := e'.born }).toArray := by
              apply Array.ext'
              simp only [Array.toList_modify]
              apply List.ext_getElem?
              intro j
              rw [List.getElem?_modify, List.getElem?_set]
              by_cases hij : i = j
              · subst hij
                have hlt : i < entries.length := (List.getElem?_eq_some_iff.1 q1).1
                have hge : entries[i] = e' := (List.getElem?_eq_some_iff.1 q1).2
                simp [hlt, hge]
              · simp [hij]
            have hkey : (Instr.keyThatStays e'.key vk).run P w = .ok vk w := by simp [Instr.keyThatStays, hsame]
            simp only [Instr.mapUpdate, Sem.run_bind, run_und (cfg.hU hu), Result.andThen_ok, run_getObj_map g3, pureRun_ok hck w, q4 w, List.getElem?_toArray, q1, Option.map_some, Option.getD_some, hkey, hmod, run_setObj g3 rfl]
          · cases hy
        · rename_i hck hf
          obtain ⟨_, q4⟩ := cfind_ok g2 hf
          cases hy
          obtain ⟨e1, t1⟩ := turn_obj e (c' := .map (es ++ [(vk, clock, x)]) (clock + 1)) (o' := .map (entries ++ [({ key := vk, val := vx, born := clock } : MapEntry)]).toArray (clock + 1)) hg hn rfl g3
            (fun w' ho hw => ⟨ho, _, hw, g2.append (.cons hx .nil)⟩)
          refine ⟨_, ?_, e1, t1⟩
          simp only [Instr.mapUpdate, Sem.run_bind, run_und (cfg.hU hu), Result.andThen_ok, run_getObj_map g3, pureRun_ok hck w, q4 w, run_setObj g3 rfl, List.push_toArray]
        · cases hy
      · cases hy
  · cases hy

def vdelete (cfg : Cfg P) (h : CHeap X) (t : TypeId) (m k : SV) : Option (CHeap X) :=
  match cfg.U t, m, k.plain? with
  | some (.map kt _), .mp n, some k => (match h.get n with
    | some (.map es clock) => (match cfind P kt k es with
      | some (some i) => some (h.set n (.map (es.eraseIdx i) clock))
      | some none => some (h.set n (.map es clock))
      | none => none)
    | _ => none)
  | _, _, _ => none

theorem vdelete_ok (cfg : Cfg P) {E : Env} {own : Own} {h h' : CHeap X} {w : World} (e : Emb E own h w) {t : TypeId} {ts : Array TypeId} (hts : ts[0]? = some t) {m k : SV} {vm vk : Value} (ty : TypeId) (hm : R E m vm) (hk : R E k vk)
    (hy : vdelete cfg h t m k = some h') : ∃ w', (Builtin.delete_ ts ty #[vm, vk]).run P w = .ok (.tuple #[]) w' ∧ Emb E own h' w' ∧ Tran E own h w E own h' w' := by
  unfold vdelete at hy
  split at hy
  · rename_i kt elem n k0 hu hk0
    obtain rfl := SV.plain_eq hk0 hk
    cases hm with
    | @mp _ nb hn =>
      split at hy
      · rename_i es clock hg
        obtain ⟨nb', entries, g1, g2, g3⟩ := emb_map e hg
        rw [hn] at g1; cases g1
        split at hy
        · rename_i i hf
          obtain ⟨hck, e', x', q1, q2, q3, q4⟩ := cfind_ok g2 hf
          cases hy
          obtain ⟨e1, t1⟩ := turn_obj e (c' := .map (es.eraseIdx i) clock) (o' := .map (entries.eraseIdx i).toArray clock) hg hn rfl g3 (fun w' ho hw => ⟨ho, _, hw, g2.eraseIdx i⟩)
          refine ⟨_, ?_, e1, t1⟩
          have hlt : i < entries.length := (List.getElem?_eq_some_iff.1 q1).1
          simp [Builtin.delete_, hts, run_und (cfg.hU hu), run_getObj_map g3, hck w, q4 w, run_setObj g3 rfl]
        · rename_i hf
          obtain ⟨hck, q4⟩ := cfind_ok g2 hf
          cases hy
          obtain ⟨e1, t1⟩ := turn_obj e (c' := .map es clock) (o' := .map entries.toArray clock) hg hn rfl g3 (fun w' ho hw => ⟨ho, _, hw, g2⟩)
          refine ⟨_, ?_, e1, t1⟩
          simp [Builtin.delete_, hts, run_und (cfg.hU hu), run_getObj_map g3, hck w, q4 w, run_setObj g3 rfl]
        · cases hy
      · cases hy
  · cases hy

def vmakeMap (h : CHeap X) : SV × CHeap X := (.mp h.next, h.push (.map [] 0))

theorem vmakeMap_ok {E : Env} {own : Own} {h : CHeap X} {w : World} (e : Emb E own h w) (t : TypeId) :
    ∃ v E' own' w', (Instr.makeMap t none).run P w = .ok v w' ∧ Emb E' own' (vmakeMap h).2 w' ∧ Tran E own h w E' own' (vmakeMap h).2 w' ∧ R E' (vmakeMap h).1 v := by
  obtain ⟨E', own', g1, g2, g3⟩ := e.grow (.map #[] 0) (.map [] 0) 0 0 w rfl rfl rfl rfl (fun E' own' w' hx ho hw => ⟨ho, [], by simpa using hw, .nil⟩)
  refine ⟨.map (some w.heap.size), E', own', _, ?_, g1, g2, ?_⟩
  · simp [Instr.makeMap]
  · exact R.mp (E := E') (n := h.next) g3

/-- 'maps.clone'. -/
def vclone (h : CHeap X) : List SV → Option (SV × CHeap X)
  | [.ifc t (.mp n)] => match h.get n with
    | some (.map es clock) => some (.ifc t (.mp h.next), h.push (.map es clock))
    | _ => none
  | _ => none

theorem vclone_ok {E : Env} {own : Own} {h h' : CHeap X} {w : World} (e : Emb E own h w) {l : List SV} {l' : List Value} {y : SV} (hl : RL E l l') (hy : vclone h l = some (y, h')) :
    ∃ v E' own' w', (Extern.MapsClone.clone l'.toArray).run P w = .ok v w' ∧ Emb E' own' h' w' ∧ Tran E own h w E' own' h' w' ∧ R E' y v := by
  unfold vclone at hy
  split at hy
  · rename_i t n
    split at hy
    · rename_i es clock hg
      cases hy
      obtain ⟨nb, entries, g1, g2, g3⟩ := emb_map e hg
      cases hl with
      | cons hx hl =>
        cases hl
        cases hx with
        | ifc hx =>
          cases hx with
          | @mp _ nb' hn =>
            rw [g1] at hn; cases hn
            obtain ⟨E', own', q1, q2, q3⟩ := e.grow (.map entries.toArray clock) (.map es clock) 0 0 w rfl rfl rfl rfl (fun E' own' w' hx ho hw => ⟨ho, entries, hw, g2.mono hx⟩)
            refine ⟨.iface t (.map (some w.heap.size)), E', own', _, ?_, q1, q2, ?_⟩
            · have hcl : Extern.MapsClone.clone [Value.iface t (.map (some nb.block))].toArray = (do
                  let .map entries clock ← getObj nb.block | stuck "maps.clone: a map expected"
                  pure (.iface t (.map (some (← newObj (.map entries clock)))))) := rfl
              rw [hcl]
              simp [run_getObj_map g3]
            · exact .ifc (R.mp (E := E') (n := h.next) q3)
    · cases hy
  · cases hy
end Cam

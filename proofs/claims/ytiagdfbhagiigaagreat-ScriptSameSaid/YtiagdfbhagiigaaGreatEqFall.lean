import Derived.Tactics
import Derived.Calls
namespace Go.Proofs
open Go

/-- Operations behind a flag that is false: those under its guard are left out, a move, a pick and an assignment of it are false. L: the slots that hold false. -/
def fallsGo (ops : Array Oper) (n : Nat) : List Oper → List Tmp → Option (List Tmp)
  | [], L => some L
  | o :: rest, L =>
    match o.dst, o.guard, o.op with
    | some d, some (j, true), _ =>
      match (ops[j]?).bind (·.dst) with
      | some t => if L.contains t then fallsGo ops n rest (L.filter (· != d)) else none
      | none => none
    | some d, none, .move (.tmp t) => if L.contains t && Nat.blt d n then fallsGo ops n rest (d :: L.filter (· != d)) else none
    | some d, none, .assign (.tmp t) => if L.contains t && Nat.blt d n then fallsGo ops n rest (d :: L.filter (· != d)) else none
    | some d, none, .pick (.tmp t) _ (.const (.bool false)) => if L.contains t && Nat.blt d n then fallsGo ops n rest (d :: L.filter (· != d)) else none
    | _, _, _ => none

def FalseAt (a : Act) (L : List Tmp) : Prop := ∀ t, t ∈ L → a.tmps[t]? = some (.bool false)

theorem FalseAt.skip {a : Act} {L : List Tmp} (h : FalseAt a L) (d : Tmp) (v : Value) : FalseAt (a.put (some d) v) (L.filter (· != d)) := fun t ht => by
  simp only [List.mem_filter, bne_iff_ne, ne_eq] at ht
  simp only [Act.put, Array.getElem?_setIfInBounds]
  rw [if_neg (fun e => ht.2 e.symm)]
  exact h t ht.1
theorem FalseAt.more {a : Act} {L : List Tmp} (h : FalseAt a L) (d : Tmp) (hd : d < a.tmps.size) : FalseAt (a.put (some d) (.bool false)) (d :: L.filter (· != d)) := fun t ht => by
  rcases List.mem_cons.1 ht with rfl | ht
  · simp [Act.put, hd]
  · exact h.skip d _ t ht

theorem wpList_falls {P : Program} {ops : Array Oper} {Q : Exit → Act → World → Prop} (n : Nat) : ∀ (rest : List Oper) (L L' : List Tmp) (a : Act) (w : World), fallsGo ops n rest L = some L' → a.tmps.size = n → FalseAt a L →
    (∀ a', a'.defers = a.defers → a'.tmps.size = n → FalseAt a' L' → Q .normal a' w) → wpList P ops Q rest a w
  | [], L, L', a, w, h, hs, hL, k => by
    simp only [fallsGo, Option.some.injEq] at h
    subst h
    exact k a rfl hs hL
  | o :: rest, L, L', a, w, h, hs, hL, k => by
    have go : ∀ (d : Tmp) (x : Value) (L2 : List Tmp), fallsGo ops n rest L2 = some L' → FalseAt (a.put (some d) x) L2 → wpList P ops Q rest (a.put (some d) x) w := fun d x L2 h2 hf =>
      wpList_falls n rest L2 L' (a.put (some d) x) w h2 (by simp [Act.put, hs]) hf (fun a' e1 e2 e3 => k a' (by rw [e1]; rfl) e2 e3)
    obtain ⟨dst, op, ty, pos, after, guard⟩ := o
    have val : ∀ (d t : Tmp), dst = some d → guard = none → t ∈ L → d < n → (∀ (a : Act) (w : World), (execOp a.eval ⟨dst, op, ty, pos, after, guard⟩).run P w = .ok (Next.value (Value.bool false)) w ∨ a.tmps[t]? ≠ some (Value.bool false)) →
        fallsGo ops n rest (d :: L.filter (· != d)) = some L' → wpList P ops Q (⟨dst, op, ty, pos, after, guard⟩ :: rest) a w := fun d t e1 e2 ht hd hx hr => by
      subst e1 e2
      unfold wpList
      rw [if_pos (by rfl)]
      left
      unfold Oper.wp
      rcases hx a w with hx | hx
      · rw [hx]
        exact go d _ _ hr (hL.more d (by rw [hs]; exact hd))
      · exact absurd (hL t ht) hx
    have hev : ∀ (a : Act) (t : Tmp), a.tmps[t]? = some (.bool false) → a.eval (.tmp t) = .bool false := fun a t ht => by
      simp [Act.eval, ht]
    unfold fallsGo at h
    split at h
    · rename_i d j e1 e2
      simp only at e1 e2
      subst e1 e2
      split at h
      · rename_i t ht
        split at h
        · rename_i hc
          have hc : t ∈ L := by simpa using hc
          unfold wpList
          rw [if_neg]
          · exact go d undef _ h (hL.skip d undef)
          · simp only [Region.wanted, yielded]
            cases hj : ops[j]? with
            | none => simp [hj] at ht
            | some oj =>
              simp only [hj, Option.bind_some] at ht ⊢
              rw [ht]
              simp [hL t hc]
        · cases h
      · cases h
    · rename_i d t e1 e2 e3
      simp only at e1 e2 e3
      split at h
      · rename_i hc
        simp only [Bool.and_eq_true, List.contains_iff_mem, Nat.blt_eq] at hc
        refine val d t e1 e2 hc.1 hc.2 (fun a w => ?_) h
        by_cases ht : a.tmps[t]? = some (.bool false)
        · left; subst e3; simp [execOp, hev a t ht]
        · exact Or.inr ht
      · cases h
    · rename_i d t e1 e2 e3
      simp only at e1 e2 e3
      split at h
      · rename_i hc
        simp only [Bool.and_eq_true, List.contains_iff_mem, Nat.blt_eq] at hc
        refine val d t e1 e2 hc.1 hc.2 (fun a w => ?_) h
        by_cases ht : a.tmps[t]? = some (.bool false)
        · left; subst e3; simp [execOp, hev a t ht]
        · exact Or.inr ht
      · cases h
    · rename_i d t x e1 e2 e3
      simp only at e1 e2 e3
      split at h
      · rename_i hc
        simp only [Bool.and_eq_true, List.contains_iff_mem, Nat.blt_eq] at hc
        refine val d t e1 e2 hc.1 hc.2 (fun a w => ?_) h
        by_cases ht : a.tmps[t]? = some (.bool false)
        · left; subst e3; simp only [execOp, hev a t ht, asBool, Sem.run_bind, Sem.run_pure, Result.andThen_ok]; rfl
        · exact Or.inr ht
      · cases h
    · cases h

/-- As above, for one flag t and the slot r of the result. -/
theorem wpList_fall {P : Program} {ops : Array Oper} {Q : Exit → Act → World → Prop} (n : Nat) (r t : Tmp) {rest : List Oper} {a : Act} {w : World} (h : (match fallsGo ops n rest [t] with | some L => L.contains r | none => false) = true)
    (hs : a.tmps.size = n) (ht : a.tmps[t]? = some (.bool false)) (k : ∀ a', a'.defers = a.defers → a'.tmps.size = n → a'.tmps[r]? = some (.bool false) → Q .normal a' w) : wpList P ops Q rest a w := by
  split at h
  · rename_i L hL
    exact wpList_falls n rest [t] L a w hL hs (fun x hx => by rw [List.mem_singleton.1 hx]; exact ht) (fun a' e1 e2 e3 => k a' e1 e2 (e3 r (by simpa using h)))
  · cases h
end Go.Proofs

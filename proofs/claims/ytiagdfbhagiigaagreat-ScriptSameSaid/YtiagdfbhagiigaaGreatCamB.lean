/- Cam, part B: chunks, the heap of chunks, how it lies in a world ('Emb'), and what a stretch of a run does to it ('Tran'). -/
import Derived.Test.YtiagdfbhagiigaaGreatCamA
namespace Cam
open Go

/-- What stands for an object of many blocks: where it lies is its own matter; it hangs on its own blocks alone. -/
class AbsRep (X : Type) where
  rep : X → (Nat → Prop) → Nb → World → Prop
  inv : ∀ {x : X} {F F' : Nat → Prop} {nb : Nb} {w w' : World}, rep x F nb w → (∀ b, F b → F' b) → (∀ b, F b → w'.heap[b]? = w.heap[b]?) → rep x F' nb w'

instance : AbsRep Empty := ⟨fun x _ _ _ => x.elim, fun {x} => x.elim⟩

inductive Chunk (X : Type) where
  | cells (known : List SV) (opn : Bool) (t : TypeId)
  | map (es : List (Value × Nat × SV)) (clock : Nat)
  | loop (st : LoopState) (pending : Option Code) (fn : FuncId) (tmps : Tm) (params : Array Tmp) (assign body : Code) (defers : Nat)
  | deferred (there : Bool)
  | iter (m : Option Nat) (since : Nat) (seen : List Nat) (stepped : Nat)
  | abs (x : X)

structure CHeap (X : Type) where
  tr : Tr (Chunk X)
  next : Nat

variable {X : Type}

def CHeap.get (h : CHeap X) (n : Nat) : Option (Chunk X) := match h with
  | ⟨t, _⟩ => t.get n
def CHeap.set (h : CHeap X) (n : Nat) (c : Chunk X) : CHeap X := match h with
  | ⟨t, k⟩ => ⟨t.set n (some c), k⟩
def CHeap.kill (h : CHeap X) (n : Nat) : CHeap X := match h with
  | ⟨t, k⟩ => ⟨t.set n none, k⟩
def CHeap.push (h : CHeap X) (c : Chunk X) : CHeap X := match h with
  | ⟨t, k⟩ => ⟨t.set k (some c), k + 1⟩
def CHeap.empty : CHeap X := { tr := .nil, next := 0 }

@[simp] theorem CHeap.get_set (h : CHeap X) (n m : Nat) (c : Chunk X) : (h.set n c).get m = if m = n then some c else h.get m := Tr.get_set _ _ _ _
@[simp] theorem CHeap.get_kill (h : CHeap X) (n m : Nat) : (h.kill n).get m = if m = n then none else h.get m := Tr.get_set _ _ _ _
@[simp] theorem CHeap.get_push (h : CHeap X) (m : Nat) (c : Chunk X) : (h.push c).get m = if m = h.next then some c else h.get m := Tr.get_set _ _ _ _
@[simp] theorem CHeap.next_set (h : CHeap X) (n : Nat) (c : Chunk X) : (h.set n c).next = h.next := rfl
@[simp] theorem CHeap.next_kill (h : CHeap X) (n : Nat) : (h.kill n).next = h.next := rfl
@[simp] theorem CHeap.next_push (h : CHeap X) (c : Chunk X) : (h.push c).next = h.next + 1 := rfl
@[simp] theorem CHeap.get_empty (n : Nat) : (CHeap.empty : CHeap X).get n = none := rfl

inductive ME (E : Env) : List (Value × Nat × SV) → List MapEntry → Prop
  | nil : ME E [] []
  | cons {k : Value} {b : Nat} {x : SV} {v : Value} {l : List (Value × Nat × SV)} {l' : List MapEntry} (hx : R E x v) (hl : ME E l l') : ME E ((k, b, x) :: l) ({ key := k, val := v, born := b } :: l')

theorem ME.mono {E E' : Env} (hE : Ext E E') : ∀ {l : List (Value × Nat × SV)} {l' : List MapEntry}, ME E l l' → ME E' l l'
  | _, _, .nil => .nil
  | _, _, .cons hx hl => .cons (hx.mono hE) (hl.mono hE)

structure Tran (E : Env) (own : Own) (h : CHeap X) (w : World) (E' : Env) (own' : Own) (h' : CHeap X) (w' : World) : Prop where
  ext : Ext E E'
  next : h.next ≤ h'.next
  os : w'.os = w.os
  tape : w'.tape = w.tape
  output : w'.output = w.output
  size : w.heap.size ≤ w'.heap.size
  keep : ∀ b, b < w.heap.size → (∀ n, own b = some n → h.get n = none) → w'.heap[b]? = w.heap[b]? ∧ own' b = own b
  live : ∀ n, n < h.next → h.get n = none → h'.get n = none
  names : ∀ n, n < h.next → E' n = E n
  owns : ∀ b n, own' b = some n → n < h.next → own b = some n

theorem Tran.refl (E : Env) (own : Own) (h : CHeap X) (w : World) : Tran E own h w E own h w :=
  ⟨Ext.refl E, Nat.le_refl _, rfl, rfl, rfl, Nat.le_refl _, fun _ _ _ => ⟨rfl, rfl⟩, fun _ _ h => h, fun _ _ => rfl, fun _ _ h _ => h⟩

section
variable [AbsRep X]

/-- A chunk lies so in a world. 'own b': whose block b is. -/
def ChunkOK (E : Env) (own : Own) (w : World) (n : Nat) (nb : Nb) : Chunk X → Prop
  | .cells known opn t => own nb.block = some n ∧ ∃ (pre vs post : List Value) (cs : Array Value) (fz : Nat × Nat),
      w.heap[nb.block]? = some (.cells cs t fz) ∧ cs.toList = pre ++ (vs ++ post) ∧ pre.length = nb.base ∧ RL E known vs ∧ vs.length + post.length = nb.size ∧
      (opn = false → post = []) ∧ (fz.1 = fz.2 ∨ cs.size ≤ fz.1)
  | .map es clock => own nb.block = some n ∧ ∃ (entries : List MapEntry), w.heap[nb.block]? = some (.map entries.toArray clock) ∧ ME E es entries
  | .loop st pending fn tmps params assign body dn => own nb.block = some n ∧ ∃ (tmps' : Array Value) (db : Nb), E dn = some db ∧ RT E tmps tmps' ∧
      w.heap[nb.block]? = some (.loop { state := st, pending, fn, tmps := tmps', params, assign, body, defers := db.block })
  | .deferred there => own nb.block = some n ∧ w.heap[nb.block]? = some (.deferred (if there then some [] else none))
  | .iter none since seen stepped => own nb.block = some n ∧ nb.base = 0 ∧ w.heap[nb.block]? = some (.mapIter none since seen.toArray stepped)
  | .iter (some m) since seen stepped => own nb.block = some n ∧ nb.base = 0 ∧ ∃ mb : Nb, E m = some mb ∧ w.heap[nb.block]? = some (.mapIter (some mb.block) since seen.toArray stepped)
  | .abs x => AbsRep.rep x (fun b => own b = some n) nb w

theorem fz_all {fz : Nat × Nat} {n : Nat} (h : fz.1 = fz.2 ∨ n ≤ fz.1) : ∀ o, fz.1 ≤ o → o < fz.2 → n ≤ o := fun o a b => by omega

structure Emb (E : Env) (own : Own) (h : CHeap X) (w : World) : Prop where
  ch : ∀ n c, h.get n = some c → ∃ nb, E n = some nb ∧ ChunkOK E own w n nb c
  lt : ∀ n c, h.get n = some c → n < h.next
  fresh : ∀ n, h.next ≤ n → E n = none
  own_lt : ∀ b n, own b = some n → b < w.heap.size ∧ n < h.next

theorem Tran.trans {E1 E2 E3 : Env} {o1 o2 o3 : Own} {h1 h2 h3 : CHeap X} {w1 w2 w3 : World} (e : Emb E1 o1 h1 w1) (a : Tran E1 o1 h1 w1 E2 o2 h2 w2)
    (b : Tran E2 o2 h2 w2 E3 o3 h3 w3) : Tran E1 o1 h1 w1 E3 o3 h3 w3 where
  ext := a.ext.trans b.ext
  next := Nat.le_trans a.next b.next
  os := b.os.trans a.os
  tape := b.tape.trans a.tape
  output := b.output.trans a.output
  size := Nat.le_trans a.size b.size
  keep := fun k hk hn => by
    obtain ⟨p, q⟩ := a.keep k hk hn
    obtain ⟨p', q'⟩ := b.keep k (Nat.lt_of_lt_of_le hk a.size) (fun n hn2 => by
      rw [q] at hn2
      exact a.live n (e.own_lt _ _ hn2).2 (hn n hn2))
    exact ⟨p'.trans p, q'.trans q⟩
  live := fun n hn hd => b.live n (Nat.lt_of_lt_of_le hn a.next) (a.live n hn hd)
  names := fun n hn => (b.names n (Nat.lt_of_lt_of_le hn a.next)).trans (a.names n hn)
  owns := fun k n hk hn => a.owns k n (b.owns k n hk (Nat.lt_of_lt_of_le hn a.next)) hn

theorem ChunkOK.ext {E E' : Env} {own : Own} {w : World} {n : Nat} {nb : Nb} (hE : Ext E E') : ∀ {c : Chunk X}, ChunkOK E own w n nb c → ChunkOK E' own w n nb c
  | .cells _ _ _, ⟨h0, pre, vs, post, cs, fz, h1, h2, h3, h4, h5, h6⟩ => ⟨h0, pre, vs, post, cs, fz, h1, h2, h3, h4.mono hE, h5, h6⟩
  | .map _ _, ⟨h0, es, h1, h2⟩ => ⟨h0, es, h1, h2.mono hE⟩
  | .loop .., ⟨h0, ts, db, h1, h2, h3⟩ => ⟨h0, ts, db, hE _ _ h1, h2.mono hE, h3⟩
  | .deferred _, h => h
  | .iter none _ _ _, h => h
  | .iter (some _) _ _ _, ⟨h0, hb, mb, h2, h3⟩ => ⟨h0, hb, mb, hE _ _ h2, h3⟩
  | .abs _, h => h

/-- A chunk hangs on its own blocks alone. -/
theorem ChunkOK.world {E : Env} {own own' : Own} {w w' : World} {n : Nat} {nb : Nb} (h1 : ∀ b, own b = some n → own' b = some n)
    (h2 : ∀ b, own b = some n → w'.heap[b]? = w.heap[b]?) : ∀ {c : Chunk X}, ChunkOK E own w n nb c → ChunkOK E own' w' n nb c
  | .cells _ _ _, ⟨h0, pre, vs, post, cs, fz, k1, k⟩ => ⟨h1 _ h0, pre, vs, post, cs, fz, (h2 _ h0).trans k1, k⟩
  | .map _ _, ⟨h0, es, k1, k⟩ => ⟨h1 _ h0, es, (h2 _ h0).trans k1, k⟩
  | .loop .., ⟨h0, ts, db, k1, k2, k3⟩ => ⟨h1 _ h0, ts, db, k1, k2, (h2 _ h0).trans k3⟩
  | .deferred _, ⟨h0, k⟩ => ⟨h1 _ h0, (h2 _ h0).trans k⟩
  | .iter none _ _ _, ⟨h0, hb, k2⟩ => ⟨h1 _ h0, hb, (h2 _ h0).trans k2⟩
  | .iter (some _) _ _ _, ⟨h0, hb, mb, k2, k3⟩ => ⟨h1 _ h0, hb, mb, k2, (h2 _ h0).trans k3⟩
  | .abs _, h => AbsRep.inv h h1 h2

/-- Of a chunk that is no object: its block is its own. -/
def Chunk.raw : Chunk X → Bool
  | .abs _ => false
  | _ => true
theorem ChunkOK.owned {E : Env} {own : Own} {w : World} {n : Nat} {nb : Nb} : ∀ {c : Chunk X}, c.raw = true → ChunkOK E own w n nb c → own nb.block = some n
  | .cells .., _, h => h.1
  | .map _ _, _, h => h.1
  | .loop .., _, h => h.1
  | .deferred _, _, h => h.1
  | .iter none _ _ _, _, h => h.1
  | .iter (some _) _ _ _, _, h => h.1

/-- One block is turned, which is a raw chunk's own. -/
theorem Emb.turn {E : Env} {own : Own} {h : CHeap X} {w w' : World} (e : Emb E own h w) {n : Nat} {c c' : Chunk X} {nb : Nb} (hc : h.get n = some c) (hn : E n = some nb)
    (hraw : c.raw = true)
    (hs : w'.heap.size = w.heap.size) (hos : w'.os = w.os) (ht : w'.tape = w.tape) (ho : w'.output = w.output)
    (hoth : ∀ b, b ≠ nb.block → w'.heap[b]? = w.heap[b]?) (hok : ChunkOK E own w' n nb c') :
    Emb E own (h.set n c') w' ∧ Tran E own h w E own (h.set n c') w' := by
  obtain ⟨nb0, hnb0, hok0⟩ := e.ch n c hc
  rw [hn] at hnb0; cases hnb0
  have hown := hok0.owned hraw
  refine ⟨⟨?_, ?_, e.fresh, ?_⟩, ⟨Ext.refl E, Nat.le_refl _, hos, ht, ho, Nat.le_of_eq hs.symm, ?_, ?_, fun _ _ => rfl, fun _ _ h _ => h⟩⟩
  · intro m d hd
    rw [CHeap.get_set] at hd
    by_cases hm : m = n
    · subst hm; rw [if_pos rfl] at hd; cases hd; exact ⟨nb, hn, hok⟩
    · rw [if_neg hm] at hd
      obtain ⟨nb', h1, h2⟩ := e.ch m d hd
      exact ⟨nb', h1, h2.world (fun _ h => h) (fun b hb => hoth b (fun he => by rw [he, hown] at hb; cases hb; exact hm rfl))⟩
  · intro m d hd
    rw [CHeap.get_set] at hd
    by_cases hm : m = n
    · subst hm; exact e.lt _ _ hc
    · rw [if_neg hm] at hd; exact e.lt _ _ hd
  · intro b m hb; rw [hs]; exact e.own_lt b m hb
  · intro b hb hd
    refine ⟨hoth b (fun he => ?_), rfl⟩
    rw [he] at hd
    have := hd n hown
    rw [hc] at this; cases this
  · intro m hm hd
    rw [CHeap.get_set, if_neg (fun he => by rw [he, hc] at hd; cases hd)]; exact hd

def ownSet (own : Own) (b n : Nat) : Own := fun b' => if b' = b then some n else own b'
def envSet (E : Env) (n : Nat) (nb : Nb) : Env := fun n' => if n' = n then some nb else E n'
theorem envSet_ext {E : Env} {n : Nat} (h : E n = none) (nb : Nb) : Ext E (envSet E n nb) := fun m x hx => by
  unfold envSet
  rw [if_neg (fun he => by rw [he, h] at hx; cases hx)]; exact hx
@[simp] theorem envSet_same (E : Env) (n : Nat) (nb : Nb) : envSet E n nb n = some nb := by simp [envSet]
@[simp] theorem ownSet_same (own : Own) (b n : Nat) : ownSet own b n b = some n := by simp [ownSet]

/-- A new block, a new raw chunk. -/
theorem Emb.grow {E : Env} {own : Own} {h : CHeap X} {w : World} (e : Emb E own h w) (o : Obj) (c : Chunk X) (base size : Nat) (tp : World)
    (htp : tp.heap = w.heap) (h1 : tp.os = w.os) (h2 : tp.tape = w.tape) (h3 : tp.output = w.output)
    (hok : ∀ (E' : Env) (own' : Own) (w' : World), Ext E E' → own' w.heap.size = some h.next → w'.heap[w.heap.size]? = some o → ChunkOK E' own' w' h.next ⟨w.heap.size, base, size⟩ c) :
    ∃ E' own', Emb E' own' (h.push c) { tp with heap := tp.heap.push o } ∧ Tran E own h w E' own' (h.push c) { tp with heap := tp.heap.push o } ∧ E' h.next = some ⟨w.heap.size, base, size⟩ := by
  have hx : Ext E (envSet E h.next ⟨w.heap.size, base, size⟩) := envSet_ext (e.fresh _ (Nat.le_refl _)) _
  refine ⟨envSet E h.next ⟨w.heap.size, base, size⟩, ownSet own w.heap.size h.next, ⟨?_, ?_, ?_, ?_⟩, ⟨hx, by simp, h1, h2, h3, by simp [htp], ?_, ?_, fun n hn => by simp only [envSet]; rw [if_neg (by omega)], fun b n hb hn => by
    simp only [ownSet] at hb
    split at hb
    · cases hb; omega
    · exact hb⟩, by simp⟩
  · intro m d hd
    rw [CHeap.get_push] at hd
    by_cases hm : m = h.next
    · subst hm; rw [if_pos rfl] at hd; cases hd
      exact ⟨_, by simp, hok _ _ _ hx (by simp) (by simp [htp])⟩
    · rw [if_neg hm] at hd
      obtain ⟨nb', k1, k2⟩ := e.ch m d hd
      refine ⟨nb', hx _ _ k1, (k2.ext hx).world (fun b hb => ?_) (fun b hb => ?_)⟩
      · have := (e.own_lt b m hb).1
        simp only [ownSet]; rw [if_neg (by omega)]; exact hb
      · have := (e.own_lt b m hb).1
        simp only [htp]; rw [Array.getElem?_push, if_neg (by omega)]
  · intro m d hd
    rw [CHeap.get_push] at hd
    by_cases hm : m = h.next
    · simp [hm]
    · rw [if_neg hm] at hd; have := e.lt _ _ hd; simp; omega
  · intro m hm
    simp only [CHeap.next_push] at hm
    simp only [envSet]; rw [if_neg (by omega)]; exact e.fresh m (by omega)
  · intro b m hb
    simp only [ownSet] at hb
    split at hb
    · cases hb; simp [htp]; omega
    · have := e.own_lt b m hb; simp [htp]; omega
  · intro b hb hd
    have hne : b ≠ w.heap.size := by omega
    refine ⟨?_, ?_⟩
    · simp only [htp]; rw [Array.getElem?_push, if_neg hne]
    · simp only [ownSet]; rw [if_neg hne]
  · intro m hm hd
    rw [CHeap.get_push, if_neg (by omega)]; exact hd
end
end Cam

/- Cam: a call without arguments, run to its end, is the model's: whatever the world. -/
import Derived.Test.YtiagdfbhagiigaaGreatCamCfg
import Derived.Below
namespace Cam
open Go Go.Lib Go.RowKit
variable {P : Program}

def noSum : Orc Empty := fun _ _ _ => none

def endsTrue : Option (CEnd × CHeap Empty) → Bool
  | some (.ret (.sc (.bool true)), _) => true
  | _ => false

theorem emb_empty (w : World) : Emb (X := Empty) (fun _ => none) (fun _ => none) CHeap.empty w where
  ch := fun n c h => by simp at h
  lt := fun n c h => by simp at h
  fresh := fun _ _ => rfl
  own_lt := fun _ _ h => by cases h

theorem calls_closed (cfg : Cfg P) (steps d f : Nat) (h : endsTrue (ccallRun cfg noSum steps d f [] CHeap.empty) = true) (w : World) :
    Calls P f #[] w (fun e w' => e = .returned (.bool true) ∧ Below w.heap.size w w') := by
  have hok : OrcOK P (ccallRun cfg noSum steps d) := callsOK cfg (fun f args h r h' hs => by cases hs) steps d
  generalize hr : ccallRun cfg noSum steps d f [] CHeap.empty = out at h
  unfold endsTrue at h
  split at h
  · rename_i h'
    have hc := hok f [] CHeap.empty _ _ hr (fun _ => none) (fun _ => none) w [] (emb_empty w) .nil
    refine Calls.mono hc (fun e w' he => ?_)
    obtain ⟨E', own', _, t, hend⟩ := he
    refine ⟨?_, t.os, t.tape, t.output, t.size, fun k hk => (t.keep k hk (fun n hn => by cases hn)).1⟩
    cases e with
    | returned v =>
      have hv : R E' (.sc (.bool true)) v := hend
      cases hv; rfl
    | panicked c => exact hend.elim
    | outgrown => exact hend.elim
  · cases h
end Cam

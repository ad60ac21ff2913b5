import Derived.Test.YtiagdfbhagiigaaGreatRows
import Derived.KernelRfl
import Derived.ProofKit
namespace Go.Proofs.YtiagdfbhagiigaaGreat
open Go.ChangeShapes Go.WideShapes Go.ChangeAt Go.RowKit
set_option maxHeartbeats 40000000 in
set_option maxRecDepth 100000 in
theorem same_closed : joinedFacts Tryz.pinned.checked.prog 8 Tryz.f8 Rows.scriptSameSpec Rows.scriptSameRow = true := by
  unfold joinedFacts
  repeat' (with_reducible refine Bool.and_eq_true_iff.2 ⟨?_, ?_⟩)
  all_goals (as_aux_lemma => kernel_rfl)
end Go.Proofs.YtiagdfbhagiigaaGreat

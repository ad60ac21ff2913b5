/- works() returns true, in whatever world, and leaves what was there. -/
import Derived.Test.YtiagdfbhagiigaaGreatProg
import Derived.Test.YtiagdfbhagiigaaGreatEqF0
import Derived.Test.YtiagdfbhagiigaaGreatCamClosed
import Derived.KernelRfl
import Derived.Laws.Externs
namespace Go.Proofs.YtiagdfbhagiigaaGreat
open Go.RowKit Go.Lib
open Cam (calls_closed mkCfg)

theorem kept_clone : ∀ args w, (callFunc 124 args).run Tryz.prog w = ((fun v => Next.value v) <$> Extern.MapsClone.clone args).run Tryz.prog w := fun args w => by
  rw [run_callFunc_extern Tryz.func124 (by kernel_rfl) (by kernel_rfl) (by kernel_rfl) (e := Extern.MapsClone.clone) (by kernel_rfl)]
  simp only [map_eq_pure_bind, Sem.run_bind, Sem.run_pure]
theorem mixed_orders : Tryz.prog.follows .mixedOrders = true := by kernel_rfl
/-- works() returns true, in whatever world. -/
theorem works10 (w : World) : Calls Tryz.prog 10 #[] w (TellsB true w) :=
  calls_closed (mkCfg Tryz.prog mixed_orders 124 kept_clone) 100000 50 10 (by kernel_rfl) w

end Go.Proofs.YtiagdfbhagiigaaGreat

/- The closed facts of the row of recast/recastlaw7.ModuleNothing, joined. Conditions: none. -/
import Derived.Test.YtbdgmbaflfmooaaGreatDoorFactsNothingA
import Derived.Test.YtbdgmbaflfmooaaGreatDoorFactsNothingB
import Derived.Test.YtbdgmbaflfmooaaGreatDoorFactsNothingC
import Derived.Test.YtbdgmbaflfmooaaGreatDoorFactsNothingD
import Derived.Test.YtbdgmbaflfmooaaGreatDoorFactsNothingE
namespace Go.Proofs.YtbdgmbaflfmooaaGreatDoor.factsNothing
theorem both {a b : Bool} (h : a = true) (k : b = true) : (a && b) = true := by rw [h, k]; rfl
theorem closed : joinedFacts Tryz.prog 5 Tryz.f5 Rows.moduleNothingSpec Rows.moduleNothingRow = true := by
  unfold joinedFacts
  refine both ?_ (by kernel_rfl)
  refine both ?_ (by kernel_rfl)
  refine both ?_ (by kernel_rfl)
  refine both ?_ (by kernel_rfl)
  refine both ?_ k27
  refine both ?_ k26
  refine both ?_ k25
  refine both ?_ k24
  refine both ?_ (by kernel_rfl)
  refine both ?_ k22
  refine both ?_ (by kernel_rfl)
  refine both ?_ (by kernel_rfl)
  refine both ?_ (by kernel_rfl)
  refine both ?_ (by kernel_rfl)
  refine both ?_ (by kernel_rfl)
  refine both ?_ (by kernel_rfl)
  refine both ?_ (by kernel_rfl)
  refine both ?_ (by kernel_rfl)
  refine both ?_ (by kernel_rfl)
  refine both ?_ k12
  refine both ?_ k11
  refine both ?_ k10
  refine both ?_ k9
  refine both ?_ (by kernel_rfl)
  refine both ?_ (by kernel_rfl)
  refine both ?_ (by kernel_rfl)
  refine both ?_ (by kernel_rfl)
  refine both ?_ (by kernel_rfl)
  refine both ?_ (by kernel_rfl)
  refine both ?_ k2
  refine both ?_ k1
  kernel_rfl
end Go.Proofs.YtbdgmbaflfmooaaGreatDoor.factsNothing

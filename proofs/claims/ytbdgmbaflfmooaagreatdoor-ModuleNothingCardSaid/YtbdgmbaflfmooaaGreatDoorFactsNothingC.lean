/- Closed facts of the row of recast/recastlaw7.ModuleNothing, part 3 of 5. Conditions: none. -/
import Derived.Test.YtbdgmbaflfmooaaGreatDoorRows
import Derived.JoinedOf
namespace Go.Proofs.YtbdgmbaflfmooaaGreatDoor.factsNothing
theorem k10 : ((Rows.moduleNothingRow.unfollowed == Tryz.prog.unfollowed 5)) = true := by kernel_rfl
theorem k24 : (Tryz.prog.stopsHeard) = true := by kernel_rfl
end Go.Proofs.YtbdgmbaflfmooaaGreatDoor.factsNothing

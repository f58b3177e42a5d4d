/- Closed facts of the row of recast/recastlaw7.ModuleNothing, part 2 of 5. Conditions: none. -/
import Derived.Test.YtbdgmbaflfmooaaGreatDoorRows
import Derived.JoinedOf
namespace Go.Proofs.YtbdgmbaflfmooaaGreatDoor.factsNothing
theorem k9 : ((Rows.moduleNothingRow.inPlace == Tryz.prog.inPlace 5)) = true := by kernel_rfl
theorem k25 : (Tryz.prog.mayEnter) = true := by kernel_rfl
end Go.Proofs.YtbdgmbaflfmooaaGreatDoor.factsNothing

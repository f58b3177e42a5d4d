/- Closed facts of the row of recast/recastlaw7.ModuleNothing, part 1 of 5. Conditions: none. -/
import Derived.Test.YtbdgmbaflfmooaaGreatDoorRows
import Derived.JoinedOf
namespace Go.Proofs.YtbdgmbaflfmooaaGreatDoor.factsNothing
theorem k1 : (laidOutB Tryz.prog) = true := by kernel_rfl
theorem k2 : (mapsRowed Tryz.prog) = true := by kernel_rfl
theorem k22 : ((Rows.moduleNothingRow.plainKeys == Tryz.prog.plainKeys)) = true := by kernel_rfl
end Go.Proofs.YtbdgmbaflfmooaaGreatDoor.factsNothing

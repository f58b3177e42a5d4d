/- Closed facts of the row of recast/recastlaw7.ModuleNothing, part 4 of 5. Conditions: none. -/
import Derived.Test.YtbdgmbaflfmooaaGreatDoorRows
import Derived.JoinedOf
namespace Go.Proofs.YtbdgmbaflfmooaaGreatDoor.factsNothing
theorem k11 : ((Rows.moduleNothingRow.recurses == Tryz.prog.recurses 5)) = true := by kernel_rfl
theorem k26 : ((Rows.moduleNothingRow.lifted == Tryz.prog.liftsFinal)) = true := by kernel_rfl
theorem k27 : ((Tryz.prog.make == some Rows.moduleNothingRow.make)) = true := by kernel_rfl
end Go.Proofs.YtbdgmbaflfmooaaGreatDoor.factsNothing

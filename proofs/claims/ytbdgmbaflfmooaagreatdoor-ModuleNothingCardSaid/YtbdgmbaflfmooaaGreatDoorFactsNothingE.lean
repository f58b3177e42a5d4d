/- Closed facts of the row of recast/recastlaw7.ModuleNothing, part 5 of 5. Conditions: none. -/
import Derived.Test.YtbdgmbaflfmooaaGreatDoorRows
import Derived.JoinedOf
namespace Go.Proofs.YtbdgmbaflfmooaaGreatDoor.factsNothing
theorem k12 : ((Rows.moduleNothingRow.named == Tryz.prog.varsNamed 5)) = true := by kernel_rfl
end Go.Proofs.YtbdgmbaflfmooaaGreatDoor.factsNothing

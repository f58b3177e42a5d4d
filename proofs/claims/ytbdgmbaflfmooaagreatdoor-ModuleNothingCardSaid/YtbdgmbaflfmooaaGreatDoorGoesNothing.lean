/- A closed fact of the card of recastlaw7.ModuleNothing: its row names no function that goes by another's word. Conditions: none. -/
import Derived.Test.YtbdgmbaflfmooaaGreatDoorRows
import Derived.SevenTiedAt
namespace Go.Proofs.YtbdgmbaflfmooaaGreatDoor
theorem goesNothing : false = Rows.moduleNothingRow.goesBy Tryz.pinned.checked.prog := by kernel_rfl
end Go.Proofs.YtbdgmbaflfmooaaGreatDoor

/- A closed fact of the card of recastlaw12.ScopeNames: its row names no function that goes by another's word. Conditions: none. -/
import Derived.Test.YtpddpbcfkmnmaaaGreatDoorRows
import Derived.SevenTiedAt
namespace Go.Proofs.YtpddpbcfkmnmaaaGreatDoor
theorem goesNames : false = Rows.scopeNamesRow.goesBy Tryz.pinned.checked.prog := by kernel_rfl
end Go.Proofs.YtpddpbcfkmnmaaaGreatDoor

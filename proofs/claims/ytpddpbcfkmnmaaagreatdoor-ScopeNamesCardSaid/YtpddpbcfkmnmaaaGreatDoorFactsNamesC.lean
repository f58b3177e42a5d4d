/- Closed facts of the row of recastlaw12.ScopeNames, part 3 of 5. Conditions: none. -/
import Derived.Test.YtpddpbcfkmnmaaaGreatDoorRows
import Derived.JoinedOf
namespace Go.Proofs.YtpddpbcfkmnmaaaGreatDoor.factsNames
theorem k10 : ((Rows.scopeNamesRow.unfollowed == Tryz.prog.unfollowed 5)) = true := by kernel_rfl
theorem k24 : (Tryz.prog.stopsHeard) = true := by kernel_rfl
end Go.Proofs.YtpddpbcfkmnmaaaGreatDoor.factsNames

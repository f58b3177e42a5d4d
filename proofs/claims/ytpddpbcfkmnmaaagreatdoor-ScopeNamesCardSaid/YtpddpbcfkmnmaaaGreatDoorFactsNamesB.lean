/- Closed facts of the row of recastlaw12.ScopeNames, part 2 of 5. Conditions: none. -/
import Derived.Test.YtpddpbcfkmnmaaaGreatDoorRows
import Derived.JoinedOf
namespace Go.Proofs.YtpddpbcfkmnmaaaGreatDoor.factsNames
theorem k9 : ((Rows.scopeNamesRow.inPlace == Tryz.prog.inPlace 5)) = true := by kernel_rfl
theorem k25 : (Tryz.prog.mayEnter) = true := by kernel_rfl
end Go.Proofs.YtpddpbcfkmnmaaaGreatDoor.factsNames

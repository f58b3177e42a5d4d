/- Closed facts of the row of recastlaw12.ScopeNames, part 5 of 5. Conditions: none. -/
import Derived.Test.YtpddpbcfkmnmaaaGreatDoorRows
import Derived.JoinedOf
namespace Go.Proofs.YtpddpbcfkmnmaaaGreatDoor.factsNames
theorem k12 : ((Rows.scopeNamesRow.named == Tryz.prog.varsNamed 5)) = true := by kernel_rfl
end Go.Proofs.YtpddpbcfkmnmaaaGreatDoor.factsNames

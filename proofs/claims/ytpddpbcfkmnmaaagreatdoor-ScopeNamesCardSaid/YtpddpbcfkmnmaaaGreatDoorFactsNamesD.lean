/- Closed facts of the row of recastlaw12.ScopeNames, part 4 of 5. Conditions: none. -/
import Derived.Test.YtpddpbcfkmnmaaaGreatDoorRows
import Derived.JoinedOf
namespace Go.Proofs.YtpddpbcfkmnmaaaGreatDoor.factsNames
theorem k11 : ((Rows.scopeNamesRow.recurses == Tryz.prog.recurses 5)) = true := by kernel_rfl
theorem k26 : ((Rows.scopeNamesRow.lifted == Tryz.prog.liftsFinal)) = true := by kernel_rfl
theorem k27 : ((Tryz.prog.make == some Rows.scopeNamesRow.make)) = true := by kernel_rfl
end Go.Proofs.YtpddpbcfkmnmaaaGreatDoor.factsNames

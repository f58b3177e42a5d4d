/- Closed facts of the row of recastlaw12.ScopeNames, part 1 of 5. Conditions: none. -/
import Derived.Test.YtpddpbcfkmnmaaaGreatDoorRows
import Derived.JoinedOf
namespace Go.Proofs.YtpddpbcfkmnmaaaGreatDoor.factsNames
theorem k1 : (laidOutB Tryz.prog) = true := by kernel_rfl
theorem k2 : (mapsRowed Tryz.prog) = true := by kernel_rfl
theorem k22 : ((Rows.scopeNamesRow.plainKeys == Tryz.prog.plainKeys)) = true := by kernel_rfl
end Go.Proofs.YtpddpbcfkmnmaaaGreatDoor.factsNames

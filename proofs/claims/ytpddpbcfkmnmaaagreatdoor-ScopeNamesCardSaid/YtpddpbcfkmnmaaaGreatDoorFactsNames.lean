/- The closed facts of the row of recastlaw12.ScopeNames, joined. Conditions: none. -/
import Derived.Test.YtpddpbcfkmnmaaaGreatDoorFactsNamesA
import Derived.Test.YtpddpbcfkmnmaaaGreatDoorFactsNamesB
import Derived.Test.YtpddpbcfkmnmaaaGreatDoorFactsNamesC
import Derived.Test.YtpddpbcfkmnmaaaGreatDoorFactsNamesD
import Derived.Test.YtpddpbcfkmnmaaaGreatDoorFactsNamesE
namespace Go.Proofs.YtpddpbcfkmnmaaaGreatDoor.factsNames
theorem both {a b : Bool} (h : a = true) (k : b = true) : (a && b) = true := by rw [h, k]; rfl
theorem closed : joinedFacts Tryz.prog 5 Tryz.f5 Rows.scopeNamesSpec Rows.scopeNamesRow = true := by
  unfold joinedFacts
  refine both ?_ (by kernel_rfl)
  refine both ?_ (by kernel_rfl)
  refine both ?_ (by kernel_rfl)
  refine both ?_ (by kernel_rfl)
  refine both ?_ k27
  refine both ?_ k26
  refine both ?_ k25
  refine both ?_ k24
  refine both ?_ (by kernel_rfl)
  refine both ?_ k22
  refine both ?_ (by kernel_rfl)
  refine both ?_ (by kernel_rfl)
  refine both ?_ (by kernel_rfl)
  refine both ?_ (by kernel_rfl)
  refine both ?_ (by kernel_rfl)
  refine both ?_ (by kernel_rfl)
  refine both ?_ (by kernel_rfl)
  refine both ?_ (by kernel_rfl)
  refine both ?_ (by kernel_rfl)
  refine both ?_ k12
  refine both ?_ k11
  refine both ?_ k10
  refine both ?_ k9
  refine both ?_ (by kernel_rfl)
  refine both ?_ (by kernel_rfl)
  refine both ?_ (by kernel_rfl)
  refine both ?_ (by kernel_rfl)
  refine both ?_ (by kernel_rfl)
  refine both ?_ (by kernel_rfl)
  refine both ?_ k2
  refine both ?_ k1
  kernel_rfl
end Go.Proofs.YtpddpbcfkmnmaaaGreatDoor.factsNames

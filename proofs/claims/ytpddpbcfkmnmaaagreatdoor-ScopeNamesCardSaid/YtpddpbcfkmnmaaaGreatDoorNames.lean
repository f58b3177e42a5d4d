/- recastlaw12.ScopeNames answers true at every name, and leaves what was there as it was: the statement ScopeNamesCardSaid. Conditions: those of the given card. -/
import Derived.Test.YtpddpbcfkmnmaaaGreatDoorNamesRow
import Derived.Test.YtpddpbcfkmnmaaaGreatDoorGoesNames
import Derived.Test.YtpddpbcfkmnmaaaGreatDoorCards
import Derived.Test.YtpddpbcfkmnmaaaGreatDoorTie
import Derived.SevenTiedAt
namespace Go.Proofs.YtpddpbcfkmnmaaaGreatDoor
open Go

theorem names_card : Rows.ScopeNamesCardSaid :=
  Claim7.holds_tied_plain_at .later [] _ _ _ _ names_said (fun _ h => by cases h) (by kernel_rfl) (fun _ h => by cases h) scopeNames_row_tie rfl ⟨rfl, rfl⟩ (by kernel_rfl) rfl
    (fun f fn hf hfn => by
      obtain rfl : f = 5 := Option.some.inj ((show Tryz.prog.funcNamed "recast/recastlaw12.ScopeNames" = some 5 by kernel_rfl).symm.trans hf) |>.symm
      obtain rfl : fn = Tryz.f5 := (Option.some.inj (Tryz.func5.symm.trans hfn)).symm
      exact ⟨by kernel_rfl, fun j t ht => by
        rw [Tryz.params5] at ht
        obtain rfl : t = 9 := by simpa using Array.mem_of_getElem? ht
        exact (show Tryz.prog.wantsStandIn 9 = false by kernel_rfl)⟩)
    goesNames
#print axioms names_card
end Go.Proofs.YtpddpbcfkmnmaaaGreatDoor

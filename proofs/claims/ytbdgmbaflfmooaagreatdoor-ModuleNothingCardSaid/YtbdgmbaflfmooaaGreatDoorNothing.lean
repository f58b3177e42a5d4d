/- recastlaw7.ModuleNothing answers true at every name and set, and leaves what was there as it was: the statement ModuleNothingCardSaid. Conditions: those of the given card. -/
import Derived.Test.YtbdgmbaflfmooaaGreatDoorNothingRow
import Derived.Test.YtbdgmbaflfmooaaGreatDoorGoesNothing
import Derived.Test.YtbdgmbaflfmooaaGreatDoorCards
import Derived.Test.YtbdgmbaflfmooaaGreatDoorTie
import Derived.SevenTiedAt
namespace Go.Proofs.YtbdgmbaflfmooaaGreatDoor
open Go

theorem nothing_card : Rows.ModuleNothingCardSaid :=
  Claim7.holds_tied_plain_at .later [] _ _ _ _ nothing_said (fun _ h => by cases h) (by kernel_rfl) (fun _ h => by cases h) moduleNothing_row_tie rfl ⟨rfl, rfl⟩ (by kernel_rfl) rfl
    (fun f fn hf hfn => by
      obtain rfl : f = 5 := Option.some.inj ((show Tryz.prog.funcNamed "recast/recastlaw7.ModuleNothing" = some 5 by kernel_rfl).symm.trans hf) |>.symm
      obtain rfl : fn = Tryz.f5 := (Option.some.inj (Tryz.func5.symm.trans hfn)).symm
      exact ⟨by kernel_rfl, fun j t ht => by
        rw [Tryz.params5] at ht
        have : t = 9 ∨ t = 36 := by simpa using Array.mem_of_getElem? ht
        rcases this with rfl | rfl
        · exact (show Tryz.prog.wantsStandIn 9 = false by kernel_rfl)
        · exact (show Tryz.prog.wantsStandIn 36 = false by kernel_rfl)⟩)
    goesNothing
#print axioms nothing_card
end Go.Proofs.YtbdgmbaflfmooaaGreatDoor

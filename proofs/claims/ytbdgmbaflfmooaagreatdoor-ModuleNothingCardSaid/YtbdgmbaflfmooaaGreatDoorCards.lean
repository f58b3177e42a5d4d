/-
  DERIVED. GIVEN WITH THE SEED: THE CARDS: each row of YtbdgmbaflfmooaaGreatDoorRows.lean that lists a variable, with what it lists TIED to the program's text (the seventh form; the later family's looks); each row that meets fmt, with fmt's text TOLD by the authors' own Lean function (tested against real Go, not proved from fmt's source: count such statements apart). THE CARD IS WHAT COUNTS. Prove the row's statement (the work); the ties are given (YtbdgmbaflfmooaaGreatDoorTie.lean); close each card by the builder's one call (the guide's Derived/Test/ToyasCard.lean, 'card_holds'). Laid BY PROGRAM, IN A SANDBOX (cutbox-door.mjs). By AI agents, Wed Nov 11 2026. No macro, syntax, notation, axiom, sorry.
-/
import Derived.Test.YtbdgmbaflfmooaaGreatDoorRows
import GoSem.ClaimSeven
namespace Go.Proofs.YtbdgmbaflfmooaaGreatDoor
namespace Rows

/-- THE TIED CARD OF 'recastlaw7.ModuleLimits'. -/
def moduleLimitsCard : Claim7 := { stood := { row := moduleLimitsRow, standIns := [], harness := (true, "5f62997a22d6d96dbfb9a58115e7505a3ccdf8d99874977e7a5f6554d143ea4a"), looks := true }, kinds := [], alts := [], laidByText := true, laidKinds := [.data, .pinned], laidTests := true, laidLooks := .later }
def ModuleLimitsCardSaid : Prop := Claim7.holds Tryz.pinned (.plain (OpenSpec.ofChange moduleLimitsSpec)) moduleLimitsCard

/-- THE TIED CARD OF 'recastlaw7.ModuleImports'. -/
def moduleImportsCard : Claim7 := { stood := { row := moduleImportsRow, standIns := [], harness := (true, "5f62997a22d6d96dbfb9a58115e7505a3ccdf8d99874977e7a5f6554d143ea4a"), looks := true }, kinds := [], alts := [], laidByText := true, laidKinds := [.data, .pinned], laidTests := true, laidLooks := .later }
def ModuleImportsCardSaid : Prop := Claim7.holds Tryz.pinned (.plain (OpenSpec.ofChange moduleImportsSpec)) moduleImportsCard

/-- THE TIED CARD OF 'recastlaw7.ModuleNothing'. -/
def moduleNothingCard : Claim7 := { stood := { row := moduleNothingRow, standIns := [], harness := (true, "5f62997a22d6d96dbfb9a58115e7505a3ccdf8d99874977e7a5f6554d143ea4a"), looks := true }, kinds := [], alts := [], laidByText := true, laidKinds := [.data, .pinned], laidTests := true, laidLooks := .later }
def ModuleNothingCardSaid : Prop := Claim7.holds Tryz.pinned (.plain (OpenSpec.ofChange moduleNothingSpec)) moduleNothingCard

/-- THE SECOND FORM's CARD OF 'recastlaw7.ModuleLimits'. -/
def moduleLimitsUptoCard : Claim7 := { stood := { row := moduleLimitsUptoRow, standIns := [], harness := (true, "5f62997a22d6d96dbfb9a58115e7505a3ccdf8d99874977e7a5f6554d143ea4a"), looks := true }, kinds := [], alts := [], laidByText := true, laidKinds := [.data, .pinned], laidTests := true, laidLooks := .later }
def ModuleLimitsUptoCardSaid : Prop := Claim7.holds Tryz.pinned (.plain (OpenSpec.upto moduleLimitsSpec)) moduleLimitsUptoCard

/-- THE SECOND FORM's CARD OF 'recastlaw7.ModuleImports'. -/
def moduleImportsUptoCard : Claim7 := { stood := { row := moduleImportsUptoRow, standIns := [], harness := (true, "5f62997a22d6d96dbfb9a58115e7505a3ccdf8d99874977e7a5f6554d143ea4a"), looks := true }, kinds := [], alts := [], laidByText := true, laidKinds := [.data, .pinned], laidTests := true, laidLooks := .later }
def ModuleImportsUptoCardSaid : Prop := Claim7.holds Tryz.pinned (.plain (OpenSpec.upto moduleImportsSpec)) moduleImportsUptoCard

/-- THE SECOND FORM's CARD OF 'recastlaw7.ModuleNothing'. -/
def moduleNothingUptoCard : Claim7 := { stood := { row := moduleNothingUptoRow, standIns := [], harness := (true, "5f62997a22d6d96dbfb9a58115e7505a3ccdf8d99874977e7a5f6554d143ea4a"), looks := true }, kinds := [], alts := [], laidByText := true, laidKinds := [.data, .pinned], laidTests := true, laidLooks := .later }
def ModuleNothingUptoCardSaid : Prop := Claim7.holds Tryz.pinned (.plain (OpenSpec.upto moduleNothingSpec)) moduleNothingUptoCard
end Rows
end Go.Proofs.YtbdgmbaflfmooaaGreatDoor

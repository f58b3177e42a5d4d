/-
  DERIVED. GIVEN WITH THE SEED: THE CARDS: each row of YtpddpbcfkmnmaaaGreatDoorRows.lean that lists a variable, with what it lists TIED to the program's text (the seventh form; the later family's looks); each row that meets fmt, with fmt's text TOLD by the authors' own Lean function (tested against real Go, not proved from fmt's source: count such statements apart). THE CARD IS WHAT COUNTS. Prove the row's statement (the work); the ties are given (YtpddpbcfkmnmaaaGreatDoorTie.lean); close each card by the builder's one call (the guide's Derived/Test/ToyasCard.lean, 'card_holds'). Laid BY PROGRAM, IN A SANDBOX (cutbox-door.mjs). By AI agents, Wed Nov 11 2026. No macro, syntax, notation, axiom, sorry.
-/
import Derived.Test.YtpddpbcfkmnmaaaGreatDoorRows
import GoSem.ClaimSeven
namespace Go.Proofs.YtpddpbcfkmnmaaaGreatDoor
namespace Rows

/-- THE TIED CARD OF 'recastlaw12.ScopeOrder'. -/
def scopeOrderCard : Claim7 := { stood := { row := scopeOrderRow, standIns := [], harness := (true, "008be9382bd1c75dced3a0a9ef7d2992c6a0a146acde81ee90083a371d73bfaa"), looks := true }, kinds := [], alts := [], laidByText := true, laidKinds := [.data, .pinned], laidTests := true, laidLooks := .later }
def ScopeOrderCardSaid : Prop := Claim7.holds Tryz.pinned (.plain (OpenSpec.ofChange scopeOrderSpec)) scopeOrderCard

/-- THE TIED CARD OF 'recastlaw12.ScopeShadows'. -/
def scopeShadowsCard : Claim7 := { stood := { row := scopeShadowsRow, standIns := [], harness := (true, "008be9382bd1c75dced3a0a9ef7d2992c6a0a146acde81ee90083a371d73bfaa"), looks := true }, kinds := [], alts := [], laidByText := true, laidKinds := [.data, .pinned], laidTests := true, laidLooks := .later }
def ScopeShadowsCardSaid : Prop := Claim7.holds Tryz.pinned (.plain (OpenSpec.ofChange scopeShadowsSpec)) scopeShadowsCard

/-- THE TIED CARD OF 'recastlaw12.ScopeNames'. -/
def scopeNamesCard : Claim7 := { stood := { row := scopeNamesRow, standIns := [], harness := (true, "008be9382bd1c75dced3a0a9ef7d2992c6a0a146acde81ee90083a371d73bfaa"), looks := true }, kinds := [], alts := [], laidByText := true, laidKinds := [.data, .pinned], laidTests := true, laidLooks := .later }
def ScopeNamesCardSaid : Prop := Claim7.holds Tryz.pinned (.plain (OpenSpec.ofChange scopeNamesSpec)) scopeNamesCard

/-- THE TIED CARD OF 'recastlaw12.ScopeOnce'. -/
def scopeOnceCard : Claim7 := { stood := { row := scopeOnceRow, standIns := [], harness := (true, "008be9382bd1c75dced3a0a9ef7d2992c6a0a146acde81ee90083a371d73bfaa"), looks := true }, kinds := [], alts := [], laidByText := true, laidKinds := [.data, .pinned], laidTests := true, laidLooks := .later }
def ScopeOnceCardSaid : Prop := Claim7.holds Tryz.pinned (.plain (OpenSpec.ofChange scopeOnceSpec)) scopeOnceCard

/-- THE SECOND FORM's CARD OF 'recastlaw12.ScopeOrder'. -/
def scopeOrderUptoCard : Claim7 := { stood := { row := scopeOrderUptoRow, standIns := [], harness := (true, "008be9382bd1c75dced3a0a9ef7d2992c6a0a146acde81ee90083a371d73bfaa"), looks := true }, kinds := [], alts := [], laidByText := true, laidKinds := [.data, .pinned], laidTests := true, laidLooks := .later }
def ScopeOrderUptoCardSaid : Prop := Claim7.holds Tryz.pinned (.plain (OpenSpec.upto scopeOrderSpec)) scopeOrderUptoCard

/-- THE SECOND FORM's CARD OF 'recastlaw12.ScopeShadows'. -/
def scopeShadowsUptoCard : Claim7 := { stood := { row := scopeShadowsUptoRow, standIns := [], harness := (true, "008be9382bd1c75dced3a0a9ef7d2992c6a0a146acde81ee90083a371d73bfaa"), looks := true }, kinds := [], alts := [], laidByText := true, laidKinds := [.data, .pinned], laidTests := true, laidLooks := .later }
def ScopeShadowsUptoCardSaid : Prop := Claim7.holds Tryz.pinned (.plain (OpenSpec.upto scopeShadowsSpec)) scopeShadowsUptoCard

/-- THE SECOND FORM's CARD OF 'recastlaw12.ScopeNames'. -/
def scopeNamesUptoCard : Claim7 := { stood := { row := scopeNamesUptoRow, standIns := [], harness := (true, "008be9382bd1c75dced3a0a9ef7d2992c6a0a146acde81ee90083a371d73bfaa"), looks := true }, kinds := [], alts := [], laidByText := true, laidKinds := [.data, .pinned], laidTests := true, laidLooks := .later }
def ScopeNamesUptoCardSaid : Prop := Claim7.holds Tryz.pinned (.plain (OpenSpec.upto scopeNamesSpec)) scopeNamesUptoCard

/-- THE SECOND FORM's CARD OF 'recastlaw12.ScopeOnce'. -/
def scopeOnceUptoCard : Claim7 := { stood := { row := scopeOnceUptoRow, standIns := [], harness := (true, "008be9382bd1c75dced3a0a9ef7d2992c6a0a146acde81ee90083a371d73bfaa"), looks := true }, kinds := [], alts := [], laidByText := true, laidKinds := [.data, .pinned], laidTests := true, laidLooks := .later }
def ScopeOnceUptoCardSaid : Prop := Claim7.holds Tryz.pinned (.plain (OpenSpec.upto scopeOnceSpec)) scopeOnceUptoCard
end Rows
end Go.Proofs.YtpddpbcfkmnmaaaGreatDoor

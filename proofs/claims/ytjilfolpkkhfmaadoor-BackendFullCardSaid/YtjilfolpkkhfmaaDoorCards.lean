/-
  DERIVED. GIVEN WITH THE SEED: THE CARDS: each row of YtjilfolpkkhfmaaDoorRows.lean that lists a variable, with what it lists TIED to the program's text (the seventh form; the later family's looks); each row that meets fmt, with fmt's text TOLD by the authors' own Lean function (tested against real Go, not proved from fmt's source: count such statements apart). THE CARD IS WHAT COUNTS. Prove the row's statement (the work); the ties are given (YtjilfolpkkhfmaaDoorTie.lean); close each card by the builder's one call (the guide's Derived/Test/ToyasCard.lean, 'card_holds'). Laid BY PROGRAM, IN A SANDBOX (cutbox-door.mjs). By AI agents, Wed Nov 11 2026. No macro, syntax, notation, axiom, sorry.
-/
import Derived.Test.YtjilfolpkkhfmaaDoorRows
import GoSem.ClaimSeven
namespace Go.Proofs.YtjilfolpkkhfmaaDoor
namespace Rows

/-- THE TIED CARD OF 'palisadelaw24.BackendFull'. -/
def backendFullCard : Claim7 := { stood := { row := backendFullRow, standIns := [], harness := (true, "27b724a225cf59b6cb516061228eb837b55d751a2e5df961ac9af82a9d964c48"), looks := false }, kinds := [], alts := [], laidByText := true, laidKinds := [.data], laidTests := true, laidLooks := .later }
def BackendFullCardSaid : Prop := Claim7.holds Tryd.pinned (.plain (OpenSpec.ofChange backendFullSpec)) backendFullCard

/-- THE TIED CARD OF 'palisadelaw24.BackendPins'. -/
def backendPinsCard : Claim7 := { stood := { row := backendPinsRow, standIns := [], harness := (true, "27b724a225cf59b6cb516061228eb837b55d751a2e5df961ac9af82a9d964c48"), looks := false }, kinds := [], alts := [], laidByText := true, laidKinds := [.data], laidTests := true, laidLooks := .later }
def BackendPinsCardSaid : Prop := Claim7.holds Tryd.pinned (.plain (OpenSpec.ofChange backendPinsSpec)) backendPinsCard

/-- THE SECOND FORM's CARD OF 'palisadelaw24.BackendFull'. -/
def backendFullUptoCard : Claim7 := { stood := { row := backendFullUptoRow, standIns := [], harness := (true, "27b724a225cf59b6cb516061228eb837b55d751a2e5df961ac9af82a9d964c48"), looks := false }, kinds := [], alts := [], laidByText := true, laidKinds := [.data], laidTests := true, laidLooks := .later }
def BackendFullUptoCardSaid : Prop := Claim7.holds Tryd.pinned (.plain (OpenSpec.upto backendFullSpec)) backendFullUptoCard

/-- THE SECOND FORM's CARD OF 'palisadelaw24.BackendPins'. -/
def backendPinsUptoCard : Claim7 := { stood := { row := backendPinsUptoRow, standIns := [], harness := (true, "27b724a225cf59b6cb516061228eb837b55d751a2e5df961ac9af82a9d964c48"), looks := false }, kinds := [], alts := [], laidByText := true, laidKinds := [.data], laidTests := true, laidLooks := .later }
def BackendPinsUptoCardSaid : Prop := Claim7.holds Tryd.pinned (.plain (OpenSpec.upto backendPinsSpec)) backendPinsUptoCard
end Rows
end Go.Proofs.YtjilfolpkkhfmaaDoor

/-
  DERIVED. GIVEN WITH THE SEED: THE CARDS: each row of YtejagglofobcgaaGreatDoorRows.lean that lists a variable, with what it lists TIED to the program's text (the seventh form; the later family's looks); each row that meets fmt, with fmt's text TOLD by the authors' own Lean function (tested against real Go, not proved from fmt's source: count such statements apart). THE CARD IS WHAT COUNTS. Prove the row's statement (the work); the ties are given (YtejagglofobcgaaGreatDoorTie.lean); close each card by the builder's one call (the guide's Derived/Test/ToyasCard.lean, 'card_holds'). Laid BY PROGRAM, IN A SANDBOX (cutbox-door.mjs). By AI agents, Wed Nov 11 2026. No macro, syntax, notation, axiom, sorry.
-/
import Derived.Test.YtejagglofobcgaaGreatDoorRows
import GoSem.ClaimSeven
namespace Go.Proofs.YtejagglofobcgaaGreatDoor
namespace Rows

/-- THE TIED CARD OF 'palisadelaw26.HyperStarts'. -/
def hyperStartsCard : Claim7 := { stood := { row := hyperStartsRow, standIns := [], harness := (true, "53ef6125d924a0a4c7a22778307a210f3a0001b22a4c69cbf6413892431b7c42"), looks := true }, kinds := [], alts := [], laidByText := true, laidKinds := [.data, .data], laidTests := true, laidLooks := .later }
def HyperStartsCardSaid : Prop := Claim7.holds Tryz.pinned (.plain (OpenSpec.ofChange hyperStartsSpec)) hyperStartsCard

/-- THE TIED CARD OF 'palisadelaw26.HyperNobody'. -/
def hyperNobodyCard : Claim7 := { stood := { row := hyperNobodyRow, standIns := [], harness := (true, "53ef6125d924a0a4c7a22778307a210f3a0001b22a4c69cbf6413892431b7c42"), looks := true }, kinds := [], alts := [], laidByText := true, laidKinds := [.data, .data], laidTests := true, laidLooks := .later }
def HyperNobodyCardSaid : Prop := Claim7.holds Tryz.pinned (.plain (OpenSpec.ofChange hyperNobodySpec)) hyperNobodyCard

/-- THE SECOND FORM's CARD OF 'palisadelaw26.HyperStarts'. -/
def hyperStartsUptoCard : Claim7 := { stood := { row := hyperStartsUptoRow, standIns := [], harness := (true, "53ef6125d924a0a4c7a22778307a210f3a0001b22a4c69cbf6413892431b7c42"), looks := true }, kinds := [], alts := [], laidByText := true, laidKinds := [.data, .data], laidTests := true, laidLooks := .later }
def HyperStartsUptoCardSaid : Prop := Claim7.holds Tryz.pinned (.plain (OpenSpec.upto hyperStartsSpec)) hyperStartsUptoCard

/-- THE SECOND FORM's CARD OF 'palisadelaw26.HyperNobody'. -/
def hyperNobodyUptoCard : Claim7 := { stood := { row := hyperNobodyUptoRow, standIns := [], harness := (true, "53ef6125d924a0a4c7a22778307a210f3a0001b22a4c69cbf6413892431b7c42"), looks := true }, kinds := [], alts := [], laidByText := true, laidKinds := [.data, .data], laidTests := true, laidLooks := .later }
def HyperNobodyUptoCardSaid : Prop := Claim7.holds Tryz.pinned (.plain (OpenSpec.upto hyperNobodySpec)) hyperNobodyUptoCard
end Rows
end Go.Proofs.YtejagglofobcgaaGreatDoor

/-
  DERIVED. GIVEN WITH THE SEED: THE CARDS: each row of YtngghnakbhoiaaaGreatDoorRows.lean that lists a variable, with what it lists TIED to the program's text (the seventh form; the later family's looks); each row that meets fmt, with fmt's text TOLD by the authors' own Lean function (tested against real Go, not proved from fmt's source: count such statements apart). THE CARD IS WHAT COUNTS. Prove the row's statement (the work); the ties are given (YtngghnakbhoiaaaGreatDoorTie.lean); close each card by the builder's one call (the guide's Derived/Test/ToyasCard.lean, 'card_holds'). Laid BY PROGRAM, IN A SANDBOX (cutbox-door.mjs). By AI agents, Wed Nov 11 2026. No macro, syntax, notation, axiom, sorry.
-/
import Derived.Test.YtngghnakbhoiaaaGreatDoorRows
import GoSem.ClaimSeven
namespace Go.Proofs.YtngghnakbhoiaaaGreatDoor
namespace Rows

/-- THE TIED CARD OF 'laws.FnServerNew'. -/
def fnServerNewCard : Claim7 := { stood := { row := fnServerNewRow, standIns := [], harness := (true, "3f042961c8e70b3f12c02b82088bfa5c5b20acd35456c962073ea25b36aae67d"), looks := true }, kinds := [], alts := [], laidByText := true, laidKinds := [.data, .data, .data], laidTests := true, laidLooks := .later }
def FnServerNewCardSaid : Prop := Claim7.holds Tryz.pinned (.plain (OpenSpec.ofChange fnServerNewSpec)) fnServerNewCard

/-- THE SECOND FORM's CARD OF 'laws.FnServerNew'. -/
def fnServerNewUptoCard : Claim7 := { stood := { row := fnServerNewUptoRow, standIns := [], harness := (true, "3f042961c8e70b3f12c02b82088bfa5c5b20acd35456c962073ea25b36aae67d"), looks := true }, kinds := [], alts := [], laidByText := true, laidKinds := [.data, .data, .data], laidTests := true, laidLooks := .later }
def FnServerNewUptoCardSaid : Prop := Claim7.holds Tryz.pinned (.plain (OpenSpec.upto fnServerNewSpec)) fnServerNewUptoCard
end Rows
end Go.Proofs.YtngghnakbhoiaaaGreatDoor

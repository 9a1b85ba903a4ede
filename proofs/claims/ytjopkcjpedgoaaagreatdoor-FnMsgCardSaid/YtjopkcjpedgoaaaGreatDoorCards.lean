/-
  DERIVED. GIVEN WITH THE SEED: THE CARDS: each row of YtjopkcjpedgoaaaGreatDoorRows.lean that lists a variable, with what it lists TIED to the program's text (the seventh form; the later family's looks); each row that meets fmt, with fmt's text TOLD by the authors' own Lean function (tested against real Go, not proved from fmt's source: count such statements apart). THE CARD IS WHAT COUNTS. Prove the row's statement (the work); the ties are given (YtjopkcjpedgoaaaGreatDoorTie.lean); close each card by the builder's one call (the guide's Derived/Test/ToyasCard.lean, 'card_holds'). Laid BY PROGRAM, IN A SANDBOX (cutbox-door.mjs). By AI agents, Wed Nov 11 2026. No macro, syntax, notation, axiom, sorry.
-/
import Derived.Test.YtjopkcjpedgoaaaGreatDoorRows
import GoSem.ClaimSeven
namespace Go.Proofs.YtjopkcjpedgoaaaGreatDoor
namespace Rows

/-- THE TIED CARD OF 'laws.FnFrames'. -/
def fnFramesCard : Claim7 := { stood := { row := fnFramesRow, standIns := [], harness := (true, "9b9f15c0591df0e7b49d9d9da8d4d96156d98826352ba3c040b304873ba2c7ab"), looks := false }, kinds := [], alts := [], laidByText := true, laidKinds := [.data, .data, .data], laidTests := true, laidLooks := .later }
def FnFramesCardSaid : Prop := Claim7.holds Tryz.pinned (.plain (OpenSpec.ofChange fnFramesSpec)) fnFramesCard

/-- THE TIED CARD OF 'laws.FnFrame'. -/
def fnFrameCard : Claim7 := { stood := { row := fnFrameRow, standIns := [], harness := (true, "9b9f15c0591df0e7b49d9d9da8d4d96156d98826352ba3c040b304873ba2c7ab"), looks := false }, kinds := [], alts := [], laidByText := true, laidKinds := [.data, .data, .data], laidTests := true, laidLooks := .later }
def FnFrameCardSaid : Prop := Claim7.holds Tryz.pinned (.plain (OpenSpec.ofChange fnFrameSpec)) fnFrameCard

/-- THE TIED CARD OF 'laws.FnMsg'. -/
def fnMsgCard : Claim7 := { stood := { row := fnMsgRow, standIns := [], harness := (true, "9b9f15c0591df0e7b49d9d9da8d4d96156d98826352ba3c040b304873ba2c7ab"), looks := false }, kinds := [], alts := [], laidByText := true, laidKinds := [.data, .data, .data], laidTests := true, laidLooks := .later }
def FnMsgCardSaid : Prop := Claim7.holds Tryz.pinned (.plain (OpenSpec.ofChange fnMsgSpec)) fnMsgCard

/-- THE SECOND FORM's CARD OF 'laws.FnFrames'. -/
def fnFramesUptoCard : Claim7 := { stood := { row := fnFramesUptoRow, standIns := [], harness := (true, "9b9f15c0591df0e7b49d9d9da8d4d96156d98826352ba3c040b304873ba2c7ab"), looks := false }, kinds := [], alts := [], laidByText := true, laidKinds := [.data, .data, .data], laidTests := true, laidLooks := .later }
def FnFramesUptoCardSaid : Prop := Claim7.holds Tryz.pinned (.plain (OpenSpec.upto fnFramesSpec)) fnFramesUptoCard

/-- THE SECOND FORM's CARD OF 'laws.FnFrame'. -/
def fnFrameUptoCard : Claim7 := { stood := { row := fnFrameUptoRow, standIns := [], harness := (true, "9b9f15c0591df0e7b49d9d9da8d4d96156d98826352ba3c040b304873ba2c7ab"), looks := false }, kinds := [], alts := [], laidByText := true, laidKinds := [.data, .data, .data], laidTests := true, laidLooks := .later }
def FnFrameUptoCardSaid : Prop := Claim7.holds Tryz.pinned (.plain (OpenSpec.upto fnFrameSpec)) fnFrameUptoCard

/-- THE SECOND FORM's CARD OF 'laws.FnMsg'. -/
def fnMsgUptoCard : Claim7 := { stood := { row := fnMsgUptoRow, standIns := [], harness := (true, "9b9f15c0591df0e7b49d9d9da8d4d96156d98826352ba3c040b304873ba2c7ab"), looks := false }, kinds := [], alts := [], laidByText := true, laidKinds := [.data, .data, .data], laidTests := true, laidLooks := .later }
def FnMsgUptoCardSaid : Prop := Claim7.holds Tryz.pinned (.plain (OpenSpec.upto fnMsgSpec)) fnMsgUptoCard
end Rows
end Go.Proofs.YtjopkcjpedgoaaaGreatDoor

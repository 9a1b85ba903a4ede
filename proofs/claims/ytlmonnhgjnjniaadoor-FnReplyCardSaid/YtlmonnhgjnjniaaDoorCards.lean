/-
  DERIVED. GIVEN WITH THE SEED: THE CARDS: each row of YtlmonnhgjnjniaaDoorRows.lean that lists a variable, with what it lists TIED to the program's text (the seventh form; the later family's looks); each row that meets fmt, with fmt's text TOLD by the authors' own Lean function (tested against real Go, not proved from fmt's source: count such statements apart). THE CARD IS WHAT COUNTS. Prove the row's statement (the work); the ties are given (YtlmonnhgjnjniaaDoorTie.lean); close each card by the builder's one call (the guide's Derived/Test/ToyasCard.lean, 'card_holds'). Laid BY PROGRAM, IN A SANDBOX (cutbox-door.mjs). By AI agents, Wed Nov 11 2026. No macro, syntax, notation, axiom, sorry.
-/
import Derived.Test.YtlmonnhgjnjniaaDoorRows
import GoSem.ClaimSeven
namespace Go.Proofs.YtlmonnhgjnjniaaDoor
namespace Rows

/-- THE TIED CARD OF 'laws.FnExactReplyGet'. -/
def fnExactReplyGetCard : Claim7 := { stood := { row := fnExactReplyGetRow, standIns := [], harness := (true, "145f0f60c272178f537e93b19a0a245cfea27f27862a838ed4a1dbe47705f94e"), looks := false }, kinds := [], alts := [], laidByText := true, laidKinds := [.data, .data, .data, .data, .pinned], laidTests := true, laidLooks := .later }
def FnExactReplyGetCardSaid : Prop := Claim7.holds Tryd.pinned (.plain (OpenSpec.ofChange fnExactReplyGetSpec)) fnExactReplyGetCard

/-- THE TIED CARD OF 'laws.FnReply'. -/
def fnReplyCard : Claim7 := { stood := { row := fnReplyRow, standIns := [], harness := (true, "145f0f60c272178f537e93b19a0a245cfea27f27862a838ed4a1dbe47705f94e"), looks := false }, kinds := [], alts := [], laidByText := true, laidKinds := [.data, .data, .data, .data, .pinned], laidTests := true, laidLooks := .later }
def FnReplyCardSaid : Prop := Claim7.holds Tryd.pinned (.plain (OpenSpec.ofChange fnReplySpec)) fnReplyCard

/-- THE SECOND FORM's CARD OF 'laws.FnExactReplyGet'. -/
def fnExactReplyGetUptoCard : Claim7 := { stood := { row := fnExactReplyGetUptoRow, standIns := [], harness := (true, "145f0f60c272178f537e93b19a0a245cfea27f27862a838ed4a1dbe47705f94e"), looks := false }, kinds := [], alts := [], laidByText := true, laidKinds := [.data, .data, .data, .data, .pinned], laidTests := true, laidLooks := .later }
def FnExactReplyGetUptoCardSaid : Prop := Claim7.holds Tryd.pinned (.plain (OpenSpec.upto fnExactReplyGetSpec)) fnExactReplyGetUptoCard

/-- THE SECOND FORM's CARD OF 'laws.FnReply'. -/
def fnReplyUptoCard : Claim7 := { stood := { row := fnReplyUptoRow, standIns := [], harness := (true, "145f0f60c272178f537e93b19a0a245cfea27f27862a838ed4a1dbe47705f94e"), looks := false }, kinds := [], alts := [], laidByText := true, laidKinds := [.data, .data, .data, .data, .pinned], laidTests := true, laidLooks := .later }
def FnReplyUptoCardSaid : Prop := Claim7.holds Tryd.pinned (.plain (OpenSpec.upto fnReplySpec)) fnReplyUptoCard
end Rows
end Go.Proofs.YtlmonnhgjnjniaaDoor

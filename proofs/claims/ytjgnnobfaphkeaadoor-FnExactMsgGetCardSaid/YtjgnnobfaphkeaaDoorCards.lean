/-
  DERIVED. GIVEN WITH THE SEED: THE CARDS: each row of YtjgnnobfaphkeaaDoorRows.lean that lists a variable, with what it lists TIED to the program's text (the seventh form; the later family's looks); each row that meets fmt, with fmt's text TOLD by the authors' own Lean function (tested against real Go, not proved from fmt's source: count such statements apart). THE CARD IS WHAT COUNTS. Prove the row's statement (the work); the ties are given (YtjgnnobfaphkeaaDoorTie.lean); close each card by the builder's one call (the guide's Derived/Test/ToyasCard.lean, 'card_holds'). Laid BY PROGRAM, IN A SANDBOX (cutbox-door.mjs). By AI agents, Wed Nov 11 2026. No macro, syntax, notation, axiom, sorry.
-/
import Derived.Test.YtjgnnobfaphkeaaDoorRows
import GoSem.ClaimSeven
namespace Go.Proofs.YtjgnnobfaphkeaaDoor
namespace Rows

/-- THE TIED CARD OF 'laws.FnExactFramePut'. -/
def fnExactFramePutCard : Claim7 := { stood := { row := fnExactFramePutRow, standIns := [], harness := (true, "5bbe62713cf7930a27ecd7925098d63ed7738af54d6d68668098360efcd57187"), looks := false }, kinds := [], alts := [], laidByText := true, laidKinds := [.data, .data, .data], laidTests := true, laidLooks := .later }
def FnExactFramePutCardSaid : Prop := Claim7.holds Tryd.pinned (.plain (OpenSpec.ofChange fnExactFramePutSpec)) fnExactFramePutCard

/-- THE TIED CARD OF 'laws.FnExactReplyPut'. -/
def fnExactReplyPutCard : Claim7 := { stood := { row := fnExactReplyPutRow, standIns := [], harness := (true, "5bbe62713cf7930a27ecd7925098d63ed7738af54d6d68668098360efcd57187"), looks := false }, kinds := [], alts := [], laidByText := true, laidKinds := [.data, .data, .data], laidTests := true, laidLooks := .later }
def FnExactReplyPutCardSaid : Prop := Claim7.holds Tryd.pinned (.plain (OpenSpec.ofChange fnExactReplyPutSpec)) fnExactReplyPutCard

/-- THE TIED CARD OF 'laws.FnExactMsgPut'. -/
def fnExactMsgPutCard : Claim7 := { stood := { row := fnExactMsgPutRow, standIns := [], harness := (true, "5bbe62713cf7930a27ecd7925098d63ed7738af54d6d68668098360efcd57187"), looks := false }, kinds := [], alts := [], laidByText := true, laidKinds := [.data, .data, .data], laidTests := true, laidLooks := .later }
def FnExactMsgPutCardSaid : Prop := Claim7.holds Tryd.pinned (.plain (OpenSpec.ofChange fnExactMsgPutSpec)) fnExactMsgPutCard

/-- THE TIED CARD OF 'laws.FnExactMsgGet'. -/
def fnExactMsgGetCard : Claim7 := { stood := { row := fnExactMsgGetRow, standIns := [], harness := (true, "5bbe62713cf7930a27ecd7925098d63ed7738af54d6d68668098360efcd57187"), looks := false }, kinds := [], alts := [], laidByText := true, laidKinds := [.data, .data, .data], laidTests := true, laidLooks := .later }
def FnExactMsgGetCardSaid : Prop := Claim7.holds Tryd.pinned (.plain (OpenSpec.ofChange fnExactMsgGetSpec)) fnExactMsgGetCard

/-- THE SECOND FORM's CARD OF 'laws.FnExactFramePut'. -/
def fnExactFramePutUptoCard : Claim7 := { stood := { row := fnExactFramePutUptoRow, standIns := [], harness := (true, "5bbe62713cf7930a27ecd7925098d63ed7738af54d6d68668098360efcd57187"), looks := false }, kinds := [], alts := [], laidByText := true, laidKinds := [.data, .data, .data], laidTests := true, laidLooks := .later }
def FnExactFramePutUptoCardSaid : Prop := Claim7.holds Tryd.pinned (.plain (OpenSpec.upto fnExactFramePutSpec)) fnExactFramePutUptoCard

/-- THE SECOND FORM's CARD OF 'laws.FnExactReplyPut'. -/
def fnExactReplyPutUptoCard : Claim7 := { stood := { row := fnExactReplyPutUptoRow, standIns := [], harness := (true, "5bbe62713cf7930a27ecd7925098d63ed7738af54d6d68668098360efcd57187"), looks := false }, kinds := [], alts := [], laidByText := true, laidKinds := [.data, .data, .data], laidTests := true, laidLooks := .later }
def FnExactReplyPutUptoCardSaid : Prop := Claim7.holds Tryd.pinned (.plain (OpenSpec.upto fnExactReplyPutSpec)) fnExactReplyPutUptoCard

/-- THE SECOND FORM's CARD OF 'laws.FnExactMsgPut'. -/
def fnExactMsgPutUptoCard : Claim7 := { stood := { row := fnExactMsgPutUptoRow, standIns := [], harness := (true, "5bbe62713cf7930a27ecd7925098d63ed7738af54d6d68668098360efcd57187"), looks := false }, kinds := [], alts := [], laidByText := true, laidKinds := [.data, .data, .data], laidTests := true, laidLooks := .later }
def FnExactMsgPutUptoCardSaid : Prop := Claim7.holds Tryd.pinned (.plain (OpenSpec.upto fnExactMsgPutSpec)) fnExactMsgPutUptoCard

/-- THE SECOND FORM's CARD OF 'laws.FnExactMsgGet'. -/
def fnExactMsgGetUptoCard : Claim7 := { stood := { row := fnExactMsgGetUptoRow, standIns := [], harness := (true, "5bbe62713cf7930a27ecd7925098d63ed7738af54d6d68668098360efcd57187"), looks := false }, kinds := [], alts := [], laidByText := true, laidKinds := [.data, .data, .data], laidTests := true, laidLooks := .later }
def FnExactMsgGetUptoCardSaid : Prop := Claim7.holds Tryd.pinned (.plain (OpenSpec.upto fnExactMsgGetSpec)) fnExactMsgGetUptoCard
end Rows
end Go.Proofs.YtjgnnobfaphkeaaDoor

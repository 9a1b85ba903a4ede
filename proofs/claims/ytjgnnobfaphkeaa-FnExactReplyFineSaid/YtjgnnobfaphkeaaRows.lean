/-
  NARROWER THAN 'FOR EVERY INPUT', by the rows' own cells (each row's printed sentence says how): FnExactReplyFine: loops.
  DERIVED. THE GIVEN ROWS OF THIS SEAT. 2 by the template 'for every input the law returns true; each argument reads behind the call as it read before'; 0 by the template 'total and deterministic' (their statements: YtjgnnobfaphkeaaTotals.lean).
  GIVEN WITH THE SEED: the statements are not yours to turn. If you find one false, say at which input.
  Laid BY PROGRAM, IN A SANDBOX (cutbox-rows.mjs): the forced cells as the released guide's own fill.sh prints them over the translation d539febe25b68555… (all of the seat's roots in one cut). By AI agents, Wed Nov 11 2026. No macro, syntax, notation, axiom, sorry.
-/
import Derived.Test.YtjgnnobfaphkeaaChecked
import GoSem.Claim
import GoSem.ClaimJoined
import GoSem.ClaimMapViews
import Derived.JoinedTies
import Derived.KernelRfl
namespace Go.Proofs.Ytjgnnobfaphkeaa
/- THE CELL 'sum', in the pinned program and in every row, IS THE sha256 OF THE DUMP (.gsa) THAT YtjgnnobfaphkeaaProg.lean LOADS. Nothing in Lean hashes anything: it is a label: what it is worth is what the hold of that sum in a sandbox is worth. -/
noncomputable def Try.pinned : Pinned := { name := "ytjgnnobfaphkeaa", sum := "d539febe25b685556214e57bc8bf715b200539bda38bff52c04634e0aaf72545", checked := Try.checked }
namespace Rows
def none {H : Type} : Left H := { results := [], args := [] }

/-- 'laws.FnExactFrameGet': WHATEVER THE INPUT: true; the input reads as it did. -/
def fnExactFrameGetSpec : ChangeSpec := { name := "fnExactFrameGet", fn := fun _ => fun
  | [d] => { results := [.lit (.bool true)], args := [d] }
  | _ => none }
def fnExactFrameGetRow : OpenClaim := { program := "ytjgnnobfaphkeaa", sum := "d539febe25b685556214e57bc8bf715b200539bda38bff52c04634e0aaf72545", func := "loop.example/ashlar/laws.FnExactFrameGet", spec := "fnExactFrameGet", unfollowed := true, recurses := true, apart := false }
def FnExactFrameGetSaid : Prop := fnExactFrameGetRow.holds Try.pinned (OpenSpec.ofChange fnExactFrameGetSpec)

/-- ITS FALSE NEIGHBOUR: 'it returns false'. Refute it at one input. -/
def fnExactFrameGetWrong : ChangeSpec := { name := "fnExactFrameGet", fn := fun _ => fun
  | [d] => { results := [.lit (.bool false)], args := [d] }
  | _ => none }
def FnExactFrameGetWrongFalsely : Prop := fnExactFrameGetRow.holds Try.pinned (OpenSpec.ofChange fnExactFrameGetWrong)

/-- 'laws.FnExactReplyFine': WHATEVER THE INPUT: true; the input reads as it did. -/
def fnExactReplyFineSpec : ChangeSpec := { name := "fnExactReplyFine", fn := fun _ => fun
  | [d] => { results := [.lit (.bool true)], args := [d] }
  | _ => none }
def fnExactReplyFineRow : OpenClaim := { program := "ytjgnnobfaphkeaa", sum := "d539febe25b685556214e57bc8bf715b200539bda38bff52c04634e0aaf72545", func := "loop.example/ashlar/laws.FnExactReplyFine", spec := "fnExactReplyFine", recurses := true, loops := true, apart := false }
def FnExactReplyFineSaid : Prop := fnExactReplyFineRow.holds Try.pinned (OpenSpec.ofChange fnExactReplyFineSpec)

/-- ITS FALSE NEIGHBOUR: 'it returns false'. Refute it at one input. -/
def fnExactReplyFineWrong : ChangeSpec := { name := "fnExactReplyFine", fn := fun _ => fun
  | [d] => { results := [.lit (.bool false)], args := [d] }
  | _ => none }
def FnExactReplyFineWrongFalsely : Prop := fnExactReplyFineRow.holds Try.pinned (OpenSpec.ofChange fnExactReplyFineWrong)

/- THE SECOND FORM. 'bulk': how many values and letters a reading holds, each counted each time it is reached (what is shared counts as often as it is met; a slice's spare places count too). A statement '..UptoSaid' is the law's where the arguments, and the package variables that the reading takes, are together of bulk at most 1048576: NARROWER than '..Said'. Prove '..Said' where nothing that the law and all that it calls make is longer than what came in: it says more and counts as full. Else prove '..UptoSaid'. A law counts once. -/
mutual
def uptoBulk {H : Type} : DataW H → Nat
  | .lit (.string bytes) => bytes.length + 1
  | .lit _ => 1
  | .nil => 1
  | .ptr d => uptoBulk d + 1
  | .slice elems spare => uptoBulkAll elems + uptoBulkAll spare + 1
  | .agg parts => uptoBulkAll parts + 1
  | .iface _ d => uptoBulk d + 1
  | .map entries => uptoBulkEntries entries + 1
  | .held _ => 1
def uptoBulkAll {H : Type} : List (DataW H) → Nat
  | [] => 0
  | d :: r => uptoBulk d + uptoBulkAll r
def uptoBulkEntries {H : Type} : List (Lit × DataW H) → Nat
  | [] => 0
  | x :: r => uptoBulkEntry x + uptoBulkEntries r
def uptoBulkEntry {H : Type} : Lit × DataW H → Nat
  | (.string bytes, d) => bytes.length + uptoBulk d + 1
  | (_, d) => uptoBulk d + 1
 end
def uptoSmall : (H : Type) → List (DataW H) → Bool := fun _ ds => decide (uptoBulkAll ds ≤ 1048576)
def OpenSpec.upto (s : _root_.Go.ChangeSpec) : _root_.Go.OpenSpec := { _root_.Go.OpenSpec.ofChange s with cond := some uptoSmall }

/-- 'laws.FnExactFrameGet', WHERE WHAT IT READS IS OF BULK AT MOST 1048576: true; the input reads as it did. -/
def fnExactFrameGetUptoRow : OpenClaim := { program := "ytjgnnobfaphkeaa", sum := "d539febe25b685556214e57bc8bf715b200539bda38bff52c04634e0aaf72545", func := "loop.example/ashlar/laws.FnExactFrameGet", spec := "fnExactFrameGet", unfollowed := true, recurses := true, apart := false, narrowed := true }
def FnExactFrameGetUptoSaid : Prop := fnExactFrameGetUptoRow.holds Try.pinned (OpenSpec.upto fnExactFrameGetSpec)

/-- 'laws.FnExactReplyFine', WHERE WHAT IT READS IS OF BULK AT MOST 1048576: true; the input reads as it did. -/
def fnExactReplyFineUptoRow : OpenClaim := { program := "ytjgnnobfaphkeaa", sum := "d539febe25b685556214e57bc8bf715b200539bda38bff52c04634e0aaf72545", func := "loop.example/ashlar/laws.FnExactReplyFine", spec := "fnExactReplyFine", recurses := true, loops := true, apart := false, narrowed := true }
def FnExactReplyFineUptoSaid : Prop := fnExactReplyFineUptoRow.holds Try.pinned (OpenSpec.upto fnExactReplyFineSpec)

end Rows
end Go.Proofs.Ytjgnnobfaphkeaa

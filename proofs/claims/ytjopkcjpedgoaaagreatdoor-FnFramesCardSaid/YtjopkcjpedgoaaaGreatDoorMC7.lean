/- The program's reading of a value: valueAt, ValueGet. For every text of at most 2^61 bytes. -/
import Derived.Test.YtjopkcjpedgoaaaGreatDoorMC1
import Derived.Test.YtjopkcjpedgoaaaGreatDoorMC6
/- The program's reading of a value: valueAt,ValueGet. For every text of at most 2^61 bytes. -/
namespace Go.Proofs.YtjopkcjpedgoaaaGreatDoor
open Go.RowKit
set_option linter.unusedVariables false
set_option linter.unusedSimpArgs false

def IsYes (b : Bool) (w : World) (e : Ending) (w' : World) : Prop := e = .returned (.agg #[.int .i64 1,.int .i64 (if b then 1 else 0),.string ⟨#[]⟩,.slice none 0 0]) ∧ Keep Any w w'
theorem SV_flat (w : World) (ok : Nat → Prop) (k n : Int) (t : ByteArray) (h1 : I64 k) (h2 : I64 n) (h3 : Fits t) : SV w ok ⟨k,n,t,[]⟩ [.int .i64 k,.int .i64 n,.string t,.slice none 0 0] := SV.iff.2 ⟨_,rfl,h1,h2,h3,SSl.nil⟩
theorem fits_nil : Fits ⟨#[]⟩ := by unfold Fits;decide
end Go.Proofs.YtjopkcjpedgoaaaGreatDoor

/- Which values are ok, as a plain function. -/
import Derived.Test.YtjgnnobfaphkeaaDoorKind
import Derived.Test.YtjgnnobfaphkeaaDoorFramePure
namespace Go.Proofs.YtjgnnobfaphkeaaDoor
set_option linter.unusedVariables false

def textOk (s : ByteArray) : Bool := decide (s.size ≤ 16) && s.data.toList.all fun b => 32 ≤ b.toNat && b.toNat ≤ 126 && b.toNat != 39
def V.bare (v : V) : Bool := (v.text.toList == ([] : List UInt8)) && ((v.list.length : Int) == 0)
def okV : Nat → V → Bool
  | 0, _ => false
  | d + 1, v =>
    if v.kind = 0 then v.num == 0 && v.bare else if v.kind = 1 then (v.num == 0 || v.num == 1) && v.bare
    else if v.kind = 2 then decide (-1000000000 ≤ v.num) && decide (v.num ≤ 1000000000) && v.bare
    else if v.kind = 3 then v.num == 0 && textOk v.text && ((v.list.length : Int) == 0)
    else if v.kind = 4 then v.num == 0 && (v.text.toList == ([] : List UInt8)) && decide ((v.list.length : Int) ≤ 6) && v.list.all (okV d)
    else if v.kind = 5 ∨ v.kind = 6 then decide (0 ≤ v.num) && decide (v.num ≤ 1000000000) && v.bare
    else false
end Go.Proofs.YtjgnnobfaphkeaaDoor

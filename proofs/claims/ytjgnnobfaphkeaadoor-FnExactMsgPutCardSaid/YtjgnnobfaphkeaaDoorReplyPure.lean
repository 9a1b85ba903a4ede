/- Which replies have a form, as a plain function. -/
import Derived.Test.YtjgnnobfaphkeaaDoorValPure
import Derived.Test.YtjgnnobfaphkeaaDoorNamePure
namespace Go.Proofs.YtjgnnobfaphkeaaDoor
set_option linter.unusedVariables false
def fineR (r : Rp) : Bool :=
  if r.kind = 1 then decide ((r.names.length : Int) ≤ 5) && ((r.row.length : Int) == 0) && (r.code == 0) && r.names.all nameOk
  else if r.kind = 2 then ((r.names.length : Int) == 0) && (decide (1 ≤ (r.row.length : Int)) && decide ((r.row.length : Int) ≤ 5)) && (r.code == 0) && !r.more && r.row.all (okV 3)
  else if r.kind = 3 then ((r.names.length : Int) == 0) && ((r.row.length : Int) == 0) && (decide (1 ≤ r.code) && decide (r.code ≤ 9)) && !r.more
  else if r.kind = 4 then ((r.names.length : Int) == 0) && ((r.row.length : Int) == 0) && (r.code == 0) && !r.more
  else false
end Go.Proofs.YtjgnnobfaphkeaaDoor

/- What the walks share: the kit's tactics, and the shapes of what is told. No condition. -/
import Derived.Test.YtjgnnobfaphkeaaDoorProg
import Derived.Test.YtjgnnobfaphkeaaDoorKeep
import Derived.WalkKit
import Derived.KernelRfl
import Derived.Deep.QuietTactic
import Derived.BigQuiet
import Derived.BigRegion
import Derived.WideLaws
import Derived.Outline
import Derived.OwnWalk
import Derived.WalkSpells
import Derived.Lib.Hide
import Derived.Deep.LoopGhost
import Derived.Deep.DeepCutAuto
import Derived.Deep.CutBlock
import Derived.Deep.RegionWith
import Derived.Deep.Light
namespace Go.Proofs.YtjgnnobfaphkeaaDoor
open Go.RowKit
set_option linter.unusedVariables false

/-- a bool told; the world as it was, or no block of it touched -/
def Quiet (b : Bool) (w : World) (e : Ending) (w' : World) : Prop := e = .returned (.bool b) ∧ w = w'
def Tells (b : Bool) (w : World) (e : Ending) (w' : World) : Prop := e = .returned (.bool b) ∧ Keep Any w w'
/-- a text told -/
def Str (l : List UInt8) (w : World) (e : Ending) (w' : World) : Prop := e = .returned (.string ⟨l.toArray⟩) ∧ Keep Any w w'
/-- a number told -/
def Num (n : Int) (w : World) (e : Ending) (w' : World) : Prop := e = .returned (.int .i64 n) ∧ Keep Any w w'
theorem ret_bool {a b : Bool} (h : a = b) : Ending.returned (.bool a) = .returned (.bool b) := by rw [h]
theorem ret_int {k : IntKind} {a b : Int} (h : a = b) : Ending.returned (.int k a) = .returned (.int k b) := by rw [h]
theorem ret_str {a b : ByteArray} (h : a = b) : Ending.returned (.string a) = .returned (.string b) := by rw [h]
theorem Quiet.tells {b : Bool} {w : World} {e : Ending} {w' : World} (h : Quiet b w e w') : Tells b w e w' := ⟨h.1, h.2 ▸ Keep.refl _ _⟩
end Go.Proofs.YtjgnnobfaphkeaaDoor

/- From the official reading to our rows: what is said. No condition. -/
import Derived.Test.YtjgnnobfaphkeaaDoorOpen
import Derived.Test.YtjgnnobfaphkeaaDoorMsgKind
namespace Go.Proofs.YtjgnnobfaphkeaaDoor
open Go.RowKit
set_option linter.unusedVariables false
set_option maxRecDepth 20000
section
variable {H : Type} {enc : TypeId × Value → H} {W : World} {sp : Nat → Bool} {hd : Bool} {fuel : Nat} {cs : List Value} {x : DataW H × List MemPlace}
instance : Inhabited Ce := ⟨⟨.empty, default⟩⟩
theorem open_cell (h : DataW.trod enc Tryd.prog W 0 sp hd fuel 97 cs = some x) : ∃ c : Ce, CeR W Any c cs := by
  obtain ⟨hl, n, hn, hf⟩ := open_fields Tryd.underlying97 h
  replace hl : cs.length = 5 := hl
  match cs, hl with
  | [c0, c1, c2, c3, c4], _ =>
  obtain ⟨y0, q0⟩ := hf 0 _ rfl
  obtain ⟨y1, q1⟩ := hf 1 _ rfl
  obtain ⟨n0, r0, b0⟩ := open_str (cs := [c0]) (by kernel_rfl) q0
  obtain ⟨v, hv⟩ := open_valT (cs := [c1, c2, c3, c4]) q1
  simp only [List.cons.injEq, and_true] at r0
  subst r0
  exact ⟨⟨n0, v⟩, _, rfl, b0, hv⟩
theorem open_cells (h : DataW.trod enc Tryd.prog W 0 sp hd fuel 36 cs = some x) : ∃ v l, cs = [v] ∧ Ces W Any v l :=
  open_sl (e := 97) (by kernel_rfl) (by kernel_rfl) (fun n cs x _ h => open_cell h) h
theorem open_msg (h : DataW.trod enc Tryd.prog W 0 sp hd fuel 38 cs = some x) : ∃ m : Ms, MR W Any m cs := by
  obtain ⟨hl, n, hn, hf⟩ := open_fields Tryd.underlying38 h
  replace hl : cs.length = 4 := hl
  match cs, hl with
  | [c0, c1, c2, c3], _ =>
  obtain ⟨y0, q0⟩ := hf 0 _ rfl
  obtain ⟨y1, q1⟩ := hf 1 _ rfl
  obtain ⟨y2, q2⟩ := hf 2 _ rfl
  obtain ⟨y3, q3⟩ := hf 3 _ rfl
  obtain ⟨n0, r0, b0⟩ := open_int (cs := [c0]) (by kernel_rfl) q0
  obtain ⟨n1, r1, b1⟩ := open_str (cs := [c1]) (by kernel_rfl) q1
  obtain ⟨v2, l2, r2, b2⟩ := open_cells (cs := [c2]) q2
  obtain ⟨n3, r3, b3⟩ := open_int (cs := [c3]) (by kernel_rfl) q3
  simp only [List.cons.injEq, and_true] at r0 r1 r2 r3
  subst r0 r1 r2 r3
  exact ⟨⟨n0, n1, l2, n3⟩, _, rfl, b0, b3, b1, b2⟩
end
end Go.Proofs.YtjgnnobfaphkeaaDoor

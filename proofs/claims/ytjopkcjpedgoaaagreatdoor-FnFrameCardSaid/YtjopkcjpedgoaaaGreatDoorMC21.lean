/- The reference's reading of a value: l1List, l1Read. For every text of at most 2^61 bytes. -/
import Derived.Test.YtjopkcjpedgoaaaGreatDoorMC12
import Derived.Test.YtjopkcjpedgoaaaGreatDoorMC9
/- The reference's reading of a value: l1List,l1Read. For every text of at most 2^61 bytes. -/
namespace Go.Proofs.YtjopkcjpedgoaaaGreatDoor
open Go.RowKit
set_option linter.unusedVariables false
set_option linter.unusedSimpArgs false
theorem SRow.base_le {α : Type} {sz : Nat} {R : World → (Nat → Prop) → α → List Value → Prop} {w : World} {base top : Nat} {T : TypeId} {v : Value} {l : List α} {css : List (List Value)} (h : SRow sz R w base top T v l css) : base ≤ w.heap.size := by
  obtain ⟨g,h1,h2,h3,h4,h5,h6,h7,h8,h9⟩ := h;omega
theorem rowV_set {w : World} {base top b o : Nat} {T : TypeId} {v u : Value} {l : List V} {css : List (List Value)} (h : SRow 4 SV w base top T v l css) (hb : b < base) : SRow 4 SV (w.setCell ⟨b,o,none⟩ u) base top T v l css := by
  obtain ⟨g,h1,h2,h3,h4,h5,h6,h7,h8,h9⟩ := h
  refine ⟨g,h1,h2.kept (row := some b) ⟨rfl,rfl,rfl,by simp,fun k hk hn => Below.heap_setCell w ⟨b,o,none⟩ u k (fun e => hn (by rw [e]))⟩ ?_,h3,fun j x cs hx hc => (h4 j x cs hx hc).keep ((Keep.refl _ _).set _ _ fun _ hk => by have := (h5 j b hk).1;omega),h5,h6,h7,by simpa using h8,h9⟩
  cases hv : v.ownBlock with
  | none => exact .inl rfl
  | some k => exact .inr fun e => by cases e;have := (h2.lt _ hv).1;omega
end Go.Proofs.YtjopkcjpedgoaaaGreatDoor

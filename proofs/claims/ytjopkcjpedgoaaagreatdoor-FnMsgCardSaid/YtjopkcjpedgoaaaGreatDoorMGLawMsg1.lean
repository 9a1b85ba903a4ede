/- What the program's FrameGet computes. For every text of at most 2^62 bytes. -/
import Derived.Test.YtjopkcjpedgoaaaGreatDoorMG0
/- What the program's FrameGet computes. For every text of at most 2^62 bytes. -/
namespace Go.Proofs.YtjopkcjpedgoaaaGreatDoor
open Go.RowKit
set_option linter.unusedVariables false

def Fr (w : World) (b : Nat) (t : ByteArray) (a s : Int) (bd : ByteArray) (l : Int) : Prop :=
  w.heap[b]? = some (.cells #[.string t,.int .i64 a,.int .i64 s,.string bd,.int .i64 l] 45 (0,0))

def St (t : ByteArray) (b u m : Nat) (w : World) : Prop :=
  (u = 0 ∧ ∃ (a s : Int) (bd : ByteArray) (l : Int),Fr w b t a s bd l ∧ frameGet t = (bd,l)) ∨
  (∃ (a s : Nat),Fr w b t a s ⟨#[]⟩ 0 ∧ a ≤ t.size ∧ s ≤ 6000 ∧
    ((u = 1 ∧ a = 0 ∧ s = 0 ∧ t.size + 3 < m) ∨ (u = 2 ∧ frameGet t = frMore t a s ∧ t.size - a + 2 < m) ∨ (u = 3 ∧ frameGet t = frBody t a s ∧ 1 < m)))
theorem St.body {t : ByteArray} {b m : Nat} {w : World} (h : St t b 3 m w) : ∃ a s : Nat,Fr w b t a s ⟨#[]⟩ 0 ∧ a ≤ t.size ∧ s ≤ 6000 ∧ frameGet t = frBody t a s ∧ 1 < m := by
  rcases h with ⟨h,_⟩ | ⟨a,s,h,ha,hs,⟨h3,_⟩ | ⟨h3,_⟩ | ⟨_,h4,h5⟩⟩ <;> first | omega | exact ⟨a,s,h,ha,hs,h4,h5⟩
theorem St.more {t : ByteArray} {b m : Nat} {w : World} (h : St t b 2 m w) : ∃ a s : Nat,Fr w b t a s ⟨#[]⟩ 0 ∧ a ≤ t.size ∧ s ≤ 6000 ∧ frameGet t = frMore t a s ∧ t.size - a + 2 < m := by
  rcases h with ⟨h,_⟩ | ⟨a,s,h,ha,hs,⟨h3,_⟩ | ⟨_,h4,h5⟩ | ⟨h3,_⟩⟩ <;> first | omega | exact ⟨a,s,h,ha,hs,h4,h5⟩
theorem St.one {t : ByteArray} {b m : Nat} {w : World} (h : St t b 1 m w) : Fr w b t 0 0 ⟨#[]⟩ 0 ∧ t.size + 3 < m := by
  rcases h with ⟨h,_⟩ | ⟨a,s,h,ha,hs,⟨_,h4,h5,h6⟩ | ⟨h3,_⟩ | ⟨h3,_⟩⟩ <;> first | omega | (subst h4 h5;exact ⟨h,h6⟩)
theorem St.pos {t : ByteArray} {b u m : Nat} {w : World} (h : St t b u m w) (hu : u ≠ 0) : 1 < m := by
  rcases h with ⟨h,_⟩ | ⟨a,s,_,_,_,h | h | h⟩ <;> omega
end Go.Proofs.YtjopkcjpedgoaaaGreatDoor

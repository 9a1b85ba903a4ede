/- What a call leaves of memory: 'Keep ok w w'': every block of w that is ok is in w' as it was; and small laws on one's own blocks. No condition. -/
import Derived.Below
import Derived.Deep.Draws
import Derived.Laws.AppendOwn
import Derived.Laws.Rows
import Derived.Laws.IdiomRangeMap
namespace Go.Proofs.YtjgnnobfaphkeaaDoor
open Go.RowKit
set_option linter.unusedVariables false

structure Keep (ok : Nat → Prop) (w w' : World) : Prop where
  os : w'.os = w.os
  tape : w'.tape = w.tape
  output : w'.output = w.output
  size : w.heap.size ≤ w'.heap.size
  block : ∀ k, k < w.heap.size → ok k → w'.heap[k]? = w.heap[k]?

abbrev Any (_ : Nat) : Prop := True
abbrev But (b : Nat) (k : Nat) : Prop := k ≠ b

theorem Keep.refl (ok : Nat → Prop) (w : World) : Keep ok w w := ⟨rfl, rfl, rfl, Nat.le_refl _, fun _ _ _ => rfl⟩
theorem Keep.trans {ok : Nat → Prop} {a b c : World} (h : Keep ok a b) (k : Keep ok b c) : Keep ok a c :=
  ⟨k.os.trans h.os, k.tape.trans h.tape, k.output.trans h.output, Nat.le_trans h.size k.size, fun i hi ho => (k.block i (Nat.lt_of_lt_of_le hi h.size) ho).trans (h.block i hi ho)⟩
theorem Keep.mono {ok ok' : Nat → Prop} {w w' : World} (h : Keep ok w w') (hi : ∀ k, k < w.heap.size → ok' k → ok k) : Keep ok' w w' := ⟨h.os, h.tape, h.output, h.size, fun k hk ho => h.block k hk (hi k hk ho)⟩
theorem Keep.any {ok : Nat → Prop} {w w' : World} (h : Keep Any w w') : Keep ok w w' := h.mono fun _ _ _ => trivial
/-- What comes behind touches only what is not ok, or new. -/
theorem Keep.then {ok ok' : Nat → Prop} {a b c : World} (h : Keep ok a b) (k : Keep ok' b c) (hi : ∀ i, i < a.heap.size → ok i → ok' i) : Keep ok a c :=
  ⟨k.os.trans h.os, k.tape.trans h.tape, k.output.trans h.output, Nat.le_trans h.size k.size, fun i hl ho => (k.block i (Nat.lt_of_lt_of_le hl h.size) (hi i hl ho)).trans (h.block i hl ho)⟩
theorem Keep.drew {ok : Nat → Prop} {a w : World} (h : Keep ok a w) : Keep ok a w.drew := ⟨h.os, h.tape, h.output, h.size, h.block⟩
theorem Keep.drewN {ok : Nat → Prop} {a w : World} (h : Keep ok a w) (n : Nat) : Keep ok a (w.drewN n) := ⟨h.os, h.tape, h.output, h.size, h.block⟩
theorem Keep.alloc {ok : Nat → Prop} {a w : World} (h : Keep ok a w) (o : Obj) : Keep ok a (w.alloc o) :=
  ⟨h.os, h.tape, h.output, by have := h.size; simp only [World.size_alloc]; omega, fun k hk ho => (Below.heap_alloc w o k (Nat.lt_of_lt_of_le hk h.size)).trans (h.block k hk ho)⟩
theorem Keep.set {ok : Nat → Prop} {a w : World} (h : Keep ok a w) (p : Addr) (u : Value) (hp : p.block < a.heap.size → ¬ ok p.block) : Keep ok a (w.setCell p u) :=
  ⟨h.os, h.tape, h.output, by simpa using h.size, fun k hk ho => (Below.heap_setCell w p u k (fun e => hp (e ▸ hk) (e ▸ ho))).trans (h.block k hk ho)⟩
theorem Keep.grown {ok : Nat → Prop} {a w w' : World} {row : Option Nat} (h : Keep ok a w) (hg : w.grownBy w' row) (hr : ∀ k, row = some k → k < a.heap.size → ¬ ok k) : Keep ok a w' :=
  ⟨hg.os.trans h.os, hg.tape.trans h.tape, hg.output.trans h.output, Nat.le_trans h.size hg.size, fun k hk ho =>
    (hg.block k (Nat.lt_of_lt_of_le hk h.size) (fun e => hr k e.symm hk ho)).trans (h.block k hk ho)⟩
theorem Keep.below {w w' : World} (h : Keep Any w w') : Below w.heap.size w w' := ⟨h.os, h.tape, h.output, h.size, fun k hk => h.block k hk trivial⟩
theorem Keep.of_below {ok : Nat → Prop} {w w' : World} (h : Below w.heap.size w w') : Keep ok w w' := ⟨h.os, h.tape, h.output, h.size, fun k hk _ => h.block k hk⟩
theorem Keep.grownBy {b : Nat} {w w' : World} (h : Keep (But b) w w') : w.grownBy w' (some b) := ⟨h.os, h.tape, h.output, h.size, fun k hk hn => h.block k hk (fun e => hn (by rw [e]))⟩
theorem Keep.grownBy0 {w w' : World} (h : Keep Any w w') (row : Option Nat) : w.grownBy w' row := ⟨h.os, h.tape, h.output, h.size, fun k hk _ => h.block k hk trivial⟩
theorem Keep.cell {ok : Nat → Prop} {w w' : World} (h : Keep ok w w') {p : Addr} {v : Value} (hc : w.cell? p = some v) (ho : ok p.block) : w'.cell? p = some v :=
  (World.cell?_of_block (h.block _ (World.block_lt_of_cell? w p hc) ho)).trans hc

/-- For the walk: all old cells and marks read as before. -/
theorem Keep.cells {W w1 : World} (h : Keep Any W w1) : (∀ b o, b < W.heap.size → w1.cell? ⟨b, o, none⟩ = W.cell? ⟨b, o, none⟩) ∧ (∀ b o, b < W.heap.size → w1.frozen? ⟨b, o, none⟩ = W.frozen? ⟨b, o, none⟩) :=
  ⟨fun b o hb => World.cell?_of_block (h.block b hb trivial), fun b o hb => World.frozen?_of_block (h.block b hb trivial)⟩

/-! one's own block, known whole -/
theorem blk_lt {w : World} {g : Nat} {o : Obj} (h : w.heap[g]? = some o) : g < w.heap.size := (Array.getElem?_eq_some_iff.1 h).1
theorem blk_keep {ok : Nat → Prop} {w w' : World} {g : Nat} {o : Obj} (k : Keep ok w w') (h : w.heap[g]? = some o) (ho : ok g) : w'.heap[g]? = some o := (k.block g (blk_lt h) ho).trans h
theorem blk_cell {w : World} {g : Nat} {t : TypeId} {cs : Array Value} (h : w.heap[g]? = some (.cells cs t (0, 0))) (i : Nat) : w.cell? ⟨g, i, none⟩ = cs[i]? := by simp [World.cell?, h]
theorem blk_frozen {w : World} {g : Nat} {t : TypeId} {cs : Array Value} (h : w.heap[g]? = some (.cells cs t (0, 0))) (i : Nat) : w.frozen? ⟨g, i, none⟩ = false := by simp [World.frozen?, h]
theorem blk_set {w : World} {g : Nat} {t : TypeId} {cs : Array Value} (h : w.heap[g]? = some (.cells cs t (0, 0))) (i : Nat) (u : Value) : (w.setCell ⟨g, i, none⟩ u).heap[g]? = some (.cells (cs.setIfInBounds i u) t (0, 0)) := by
  simp [World.setCell, Array.getElem?_modify, h]
theorem blk_new (w : World) (o : Obj) : (w.alloc o).heap[w.heap.size]? = some o := heap_alloc_new w o
theorem blk_alloc {w : World} {g : Nat} {o : Obj} (h : w.heap[g]? = some o) (p : Obj) : (w.alloc p).heap[g]? = some o := (Below.heap_alloc w p g (blk_lt h)).trans h
theorem blk_far {w : World} {g : Nat} {o : Obj} (h : w.heap[g]? = some o) (p : Addr) (u : Value) (hp : g ≠ p.block) : (w.setCell p u).heap[g]? = some o := (Below.heap_setCell w p u g hp).trans h
end Go.Proofs.YtjgnnobfaphkeaaDoor

/- What a call leaves of memory: 'Keep ok w w'': every block of w that is ok is in w' as it was; and small laws on one's own blocks. No condition. What the walks share: the kit's tactics, and the shapes of what is told. No condition. How Go's data lie in memory: a kind says which cells hold a datum; rows of such; the tree of values. 'ok': in which blocks. No condition. A slice that a call makes and fills, place by place. No condition. How much texts and values weigh: the laws' own measures. Where one answers a number that is not below 0, all is at most what was left. -/
import Derived.Below
import Derived.Deep.Draws
import Derived.Laws.AppendOwn
import Derived.Laws.Rows
import Derived.Laws.IdiomRangeMap
import Derived.Test.YtjgnnobfaphkeaaDoorProg
import Derived.WalkKit
import Derived.KernelRfl
import Derived.Deep.QuietTactic
import Derived.BigQuiet
import Derived.BigRegion
import Derived.WideLaws
import Derived.Outline
import Derived.OwnWalk
import Derived.WalkSpells
import Derived.Lib.Hide
import Derived.Deep.LoopGhost
import Derived.Deep.DeepCutAuto
import Derived.Deep.CutBlock
import Derived.Deep.RegionWith
import Derived.Deep.Light
import Derived.Laws.OwnMore
/- What a call leaves of memory: 'Keep ok w w'': every block of w that is ok is in w' as it was; and small laws on one's own blocks. No condition. -/
namespace Go.Proofs.YtjgnnobfaphkeaaDoor
open Go.RowKit
set_option linter.unusedVariables false

structure Keep (ok : Nat → Prop) (w w' : World) : Prop where
  os : w'.os = w.os
  tape : w'.tape = w.tape
  output : w'.output = w.output
  size : w.heap.size ≤ w'.heap.size
  block : ∀ k, k < w.heap.size → ok k → w'.heap[k]? = w.heap[k]?

abbrev Any (_ : Nat) : Prop := True
abbrev But (b : Nat) (k : Nat) : Prop := k ≠ b

theorem Keep.refl (ok : Nat → Prop) (w : World) : Keep ok w w := ⟨rfl, rfl, rfl, Nat.le_refl _, fun _ _ _ => rfl⟩
theorem Keep.trans {ok : Nat → Prop} {a b c : World} (h : Keep ok a b) (k : Keep ok b c) : Keep ok a c :=
  ⟨k.os.trans h.os, k.tape.trans h.tape, k.output.trans h.output, Nat.le_trans h.size k.size, fun i hi ho => (k.block i (Nat.lt_of_lt_of_le hi h.size) ho).trans (h.block i hi ho)⟩
theorem Keep.mono {ok ok' : Nat → Prop} {w w' : World} (h : Keep ok w w') (hi : ∀ k, k < w.heap.size → ok' k → ok k) : Keep ok' w w' := ⟨h.os, h.tape, h.output, h.size, fun k hk ho => h.block k hk (hi k hk ho)⟩
theorem Keep.any {ok : Nat → Prop} {w w' : World} (h : Keep Any w w') : Keep ok w w' := h.mono fun _ _ _ => trivial
/-- What comes behind touches only what is not ok, or new. -/
theorem Keep.then {ok ok' : Nat → Prop} {a b c : World} (h : Keep ok a b) (k : Keep ok' b c) (hi : ∀ i, i < a.heap.size → ok i → ok' i) : Keep ok a c :=
  ⟨k.os.trans h.os, k.tape.trans h.tape, k.output.trans h.output, Nat.le_trans h.size k.size, fun i hl ho => (k.block i (Nat.lt_of_lt_of_le hl h.size) (hi i hl ho)).trans (h.block i hl ho)⟩
theorem Keep.drew {ok : Nat → Prop} {a w : World} (h : Keep ok a w) : Keep ok a w.drew := ⟨h.os, h.tape, h.output, h.size, h.block⟩
theorem Keep.drewN {ok : Nat → Prop} {a w : World} (h : Keep ok a w) (n : Nat) : Keep ok a (w.drewN n) := ⟨h.os, h.tape, h.output, h.size, h.block⟩
theorem Keep.alloc {ok : Nat → Prop} {a w : World} (h : Keep ok a w) (o : Obj) : Keep ok a (w.alloc o) :=
  ⟨h.os, h.tape, h.output, by have := h.size; simp only [World.size_alloc]; omega, fun k hk ho => (Below.heap_alloc w o k (Nat.lt_of_lt_of_le hk h.size)).trans (h.block k hk ho)⟩
theorem Keep.set {ok : Nat → Prop} {a w : World} (h : Keep ok a w) (p : Addr) (u : Value) (hp : p.block < a.heap.size → ¬ ok p.block) : Keep ok a (w.setCell p u) :=
  ⟨h.os, h.tape, h.output, by simpa using h.size, fun k hk ho => (Below.heap_setCell w p u k (fun e => hp (e ▸ hk) (e ▸ ho))).trans (h.block k hk ho)⟩
theorem Keep.grown {ok : Nat → Prop} {a w w' : World} {row : Option Nat} (h : Keep ok a w) (hg : w.grownBy w' row) (hr : ∀ k, row = some k → k < a.heap.size → ¬ ok k) : Keep ok a w' :=
  ⟨hg.os.trans h.os, hg.tape.trans h.tape, hg.output.trans h.output, Nat.le_trans h.size hg.size, fun k hk ho =>
    (hg.block k (Nat.lt_of_lt_of_le hk h.size) (fun e => hr k e.symm hk ho)).trans (h.block k hk ho)⟩
theorem Keep.below {w w' : World} (h : Keep Any w w') : Below w.heap.size w w' := ⟨h.os, h.tape, h.output, h.size, fun k hk => h.block k hk trivial⟩
theorem Keep.of_below {ok : Nat → Prop} {w w' : World} (h : Below w.heap.size w w') : Keep ok w w' := ⟨h.os, h.tape, h.output, h.size, fun k hk _ => h.block k hk⟩
theorem Keep.grownBy {b : Nat} {w w' : World} (h : Keep (But b) w w') : w.grownBy w' (some b) := ⟨h.os, h.tape, h.output, h.size, fun k hk hn => h.block k hk (fun e => hn (by rw [e]))⟩
theorem Keep.grownBy0 {w w' : World} (h : Keep Any w w') (row : Option Nat) : w.grownBy w' row := ⟨h.os, h.tape, h.output, h.size, fun k hk _ => h.block k hk trivial⟩
theorem Keep.cell {ok : Nat → Prop} {w w' : World} (h : Keep ok w w') {p : Addr} {v : Value} (hc : w.cell? p = some v) (ho : ok p.block) : w'.cell? p = some v :=
  (World.cell?_of_block (h.block _ (World.block_lt_of_cell? w p hc) ho)).trans hc

/-- For the walk: all old cells and marks read as before. -/
theorem Keep.cells {W w1 : World} (h : Keep Any W w1) : (∀ b o, b < W.heap.size → w1.cell? ⟨b, o, none⟩ = W.cell? ⟨b, o, none⟩) ∧ (∀ b o, b < W.heap.size → w1.frozen? ⟨b, o, none⟩ = W.frozen? ⟨b, o, none⟩) :=
  ⟨fun b o hb => World.cell?_of_block (h.block b hb trivial), fun b o hb => World.frozen?_of_block (h.block b hb trivial)⟩

/-! one's own block, known whole -/
theorem blk_lt {w : World} {g : Nat} {o : Obj} (h : w.heap[g]? = some o) : g < w.heap.size := (Array.getElem?_eq_some_iff.1 h).1
theorem blk_keep {ok : Nat → Prop} {w w' : World} {g : Nat} {o : Obj} (k : Keep ok w w') (h : w.heap[g]? = some o) (ho : ok g) : w'.heap[g]? = some o := (k.block g (blk_lt h) ho).trans h
theorem blk_cell {w : World} {g : Nat} {t : TypeId} {cs : Array Value} (h : w.heap[g]? = some (.cells cs t (0, 0))) (i : Nat) : w.cell? ⟨g, i, none⟩ = cs[i]? := by simp [World.cell?, h]
theorem blk_frozen {w : World} {g : Nat} {t : TypeId} {cs : Array Value} (h : w.heap[g]? = some (.cells cs t (0, 0))) (i : Nat) : w.frozen? ⟨g, i, none⟩ = false := by simp [World.frozen?, h]
theorem blk_set {w : World} {g : Nat} {t : TypeId} {cs : Array Value} (h : w.heap[g]? = some (.cells cs t (0, 0))) (i : Nat) (u : Value) : (w.setCell ⟨g, i, none⟩ u).heap[g]? = some (.cells (cs.setIfInBounds i u) t (0, 0)) := by
  simp [World.setCell, Array.getElem?_modify, h]
theorem blk_new (w : World) (o : Obj) : (w.alloc o).heap[w.heap.size]? = some o := heap_alloc_new w o
theorem blk_alloc {w : World} {g : Nat} {o : Obj} (h : w.heap[g]? = some o) (p : Obj) : (w.alloc p).heap[g]? = some o := (Below.heap_alloc w p g (blk_lt h)).trans h
theorem blk_far {w : World} {g : Nat} {o : Obj} (h : w.heap[g]? = some o) (p : Addr) (u : Value) (hp : g ≠ p.block) : (w.setCell p u).heap[g]? = some o := (Below.heap_setCell w p u g hp).trans h
end Go.Proofs.YtjgnnobfaphkeaaDoor

/- What the walks share: the kit's tactics, and the shapes of what is told. No condition. -/
namespace Go.Proofs.YtjgnnobfaphkeaaDoor
open Go.RowKit
set_option linter.unusedVariables false

/-- a bool told; the world as it was, or no block of it touched -/
def Quiet (b : Bool) (w : World) (e : Ending) (w' : World) : Prop := e = .returned (.bool b) ∧ w = w'
def Tells (b : Bool) (w : World) (e : Ending) (w' : World) : Prop := e = .returned (.bool b) ∧ Keep Any w w'
/-- a text told -/
def Str (l : List UInt8) (w : World) (e : Ending) (w' : World) : Prop := e = .returned (.string ⟨l.toArray⟩) ∧ Keep Any w w'
/-- a number told -/
def Num (n : Int) (w : World) (e : Ending) (w' : World) : Prop := e = .returned (.int .i64 n) ∧ Keep Any w w'
theorem ret_bool {a b : Bool} (h : a = b) : Ending.returned (.bool a) = .returned (.bool b) := by rw [h]
theorem ret_int {k : IntKind} {a b : Int} (h : a = b) : Ending.returned (.int k a) = .returned (.int k b) := by rw [h]
theorem ret_str {a b : ByteArray} (h : a = b) : Ending.returned (.string a) = .returned (.string b) := by rw [h]
theorem Quiet.tells {b : Bool} {w : World} {e : Ending} {w' : World} (h : Quiet b w e w') : Tells b w e w' := ⟨h.1, h.2 ▸ Keep.refl _ _⟩
end Go.Proofs.YtjgnnobfaphkeaaDoor

/- How Go's data lie in memory: a kind says which cells hold a datum; rows of such; the tree of values. 'ok': in which blocks. No condition. -/
namespace Go.Proofs.YtjgnnobfaphkeaaDoor
open Go.RowKit
set_option linter.unusedVariables false

def I64 (n : Int) : Prop := -9223372036854775808 ≤ n ∧ n ≤ 9223372036854775807
def Fits (s : ByteArray) : Prop := s.size ≤ 9223372036854775807

structure K (α : Type) where
  sz : Nat
  rep : World → (Nat → Prop) → α → List Value → Prop
  len : ∀ {w ok x cs}, rep w ok x cs → cs.length = sz
  keep : ∀ {w w' ok x cs}, rep w ok x cs → Keep ok w w' → rep w' ok x cs
  mono : ∀ {w ok ok' x cs}, rep w ok x cs → (∀ k, k < w.heap.size → ok k → ok' k) → rep w ok' x cs

/-- The cells behind an address. -/
def Cells (w : World) (ad : Addr) (o : Nat) (cs : List Value) : Prop := ∀ i u, cs[i]? = some u → w.cell? (ad.add (o + i)) = some u
theorem add_block (a : Addr) (n : Nat) : (a.add n).block = a.block := by unfold Addr.add; split <;> rfl
theorem Cells.keep {ok : Nat → Prop} {w w' : World} {ad : Addr} {o : Nat} {cs : List Value} (h : Cells w ad o cs) (k : Keep ok w w') (ho : ok ad.block) : Cells w' ad o cs :=
  fun i u hu => k.cell (h i u hu) (by rw [add_block]; exact ho)

/-- A slice's value: its elements by a relation. -/
def Sl {α : Type} (sz : Nat) (R : α → List Value → Prop) (w : World) (ok : Nat → Prop) (v : Value) (l : List α) : Prop :=
  ∃ (a : Option Addr) (c : Nat), v = .slice a l.length c ∧ l.length ≤ c ∧ c ≤ 9223372036854775807 ∧
    (l ≠ [] → ∃ ad, a = some ad ∧ ok ad.block ∧ ∀ j x, l[j]? = some x → ∃ cs, R x cs ∧ cs.length = sz ∧ Cells w ad (j * sz) cs)
theorem Sl.mono {α : Type} {sz : Nat} {R R' : α → List Value → Prop} {w : World} {ok ok' : Nat → Prop} {v : Value} {l : List α} (h : Sl sz R w ok v l)
    (hR : ∀ x cs, x ∈ l → R x cs → R' x cs) (ho : ∀ k, k < w.heap.size → ok k → ok' k) (hs : 0 < sz) : Sl sz R' w ok' v l := by
  obtain ⟨a, c, rfl, h1, h2, h3⟩ := h
  refine ⟨a, c, rfl, h1, h2, fun hn => ?_⟩
  obtain ⟨ad, rfl, hb, hc⟩ := h3 hn
  refine ⟨ad, rfl, ?_, fun j x hx => ?_⟩
  · obtain ⟨x, r, rfl⟩ := List.exists_cons_of_ne_nil hn
    obtain ⟨cs, _, hl, hcs⟩ := hc 0 x rfl
    have := World.block_lt_of_cell? w _ (hcs 0 _ (List.getElem?_eq_getElem (by omega)))
    rw [add_block] at this
    exact ho _ this hb
  · obtain ⟨cs, h, hl, hcs⟩ := hc j x hx
    exact ⟨cs, hR x cs (List.mem_of_getElem? hx) h, hl, hcs⟩
theorem Sl.keep {α : Type} {sz : Nat} {R R' : α → List Value → Prop} {w w' : World} {ok : Nat → Prop} {v : Value} {l : List α} (h : Sl sz R w ok v l)
    (hR : ∀ x cs, x ∈ l → R x cs → R' x cs) (k : Keep ok w w') : Sl sz R' w' ok v l := by
  obtain ⟨a, c, rfl, h1, h2, h3⟩ := h
  refine ⟨a, c, rfl, h1, h2, fun hn => ?_⟩
  obtain ⟨ad, rfl, hb, hc⟩ := h3 hn
  refine ⟨ad, rfl, hb, fun j x hx => ?_⟩
  obtain ⟨cs, h, hl, hcs⟩ := hc j x hx
  exact ⟨cs, hR x cs (List.mem_of_getElem? hx) h, hl, hcs.keep k hb⟩

namespace K
def int : K Int := ⟨1, fun _ _ n cs => cs = [.int .i64 n] ∧ I64 n, fun h => by rw [h.1]; rfl, fun h _ => h, fun h _ => h⟩
def bool : K Bool := ⟨1, fun _ _ b cs => cs = [.bool b], fun h => by rw [h]; rfl, fun h _ => h, fun h _ => h⟩
def str : K ByteArray := ⟨1, fun _ _ s cs => cs = [.string s] ∧ Fits s, fun h => by rw [h.1]; rfl, fun h _ => h, fun h _ => h⟩
/-- one behind the other -/
def pair {α β : Type} (a : K α) (b : K β) : K (α × β) where
  sz := a.sz + b.sz
  rep w ok x cs := ∃ c d, cs = c ++ d ∧ a.rep w ok x.1 c ∧ b.rep w ok x.2 d
  len := by rintro w ok x cs ⟨c, d, rfl, h1, h2⟩; rw [List.length_append, a.len h1, b.len h2]
  keep := by rintro w w' ok x cs ⟨c, d, rfl, h1, h2⟩ k; exact ⟨c, d, rfl, a.keep h1 k, b.keep h2 k⟩
  mono := by rintro w ok ok' x cs ⟨c, d, rfl, h1, h2⟩ k; exact ⟨c, d, rfl, a.mono h1 k, b.mono h2 k⟩
def slice {α : Type} (a : K α) (hs : 0 < a.sz) : K (List α) where
  sz := 1
  rep w ok l cs := ∃ v, cs = [v] ∧ Sl a.sz (a.rep w ok) w ok v l
  len := by rintro w ok x cs ⟨v, rfl, _⟩; rfl
  keep := by rintro w w' ok x cs ⟨v, rfl, h⟩ k; exact ⟨v, rfl, h.keep (fun _ _ _ h => a.keep h k) k⟩
  mono := by rintro w ok ok' x cs ⟨v, rfl, h⟩ k; exact ⟨v, rfl, h.mono (fun _ _ _ h => a.mono h k) k hs⟩
/-- the same cells for a datum of another make -/
def via {α β : Type} (a : K α) (f : β → α) : K β := ⟨a.sz, fun w ok x cs => a.rep w ok (f x) cs, a.len, a.keep, a.mono⟩
end K

/-! the tree of values: number of kind, number, text, list -/
structure V where
  kind : Int
  num : Int
  text : ByteArray
  list : List V
inductive VR (w : World) (ok : Nat → Prop) : V → List Value → Prop where
  | mk (v : V) (a : Option Addr) (c : Nat) (ad : Addr) (f : Nat → List Value) (h1 : I64 v.kind) (h2 : I64 v.num) (h3 : Fits v.text) (hc : v.list.length ≤ c) (hm : c ≤ 9223372036854775807)
      (ha : v.list ≠ [] → a = some ad) (ho : v.list ≠ [] → ok ad.block) (hr : ∀ j x, v.list[j]? = some x → VR w ok x (f j)) (hcell : ∀ j x, v.list[j]? = some x → Cells w ad (j * 4) (f j)) :
      VR w ok v [.int .i64 v.kind, .int .i64 v.num, .string v.text, .slice a v.list.length c]
theorem VR.len {w : World} {ok : Nat → Prop} {v : V} {cs : List Value} (h : VR w ok v cs) : cs.length = 4 := by cases h; rfl
theorem VR.keep {w w' : World} {ok : Nat → Prop} {v : V} {cs : List Value} (h : VR w ok v cs) (k : Keep ok w w') : VR w' ok v cs := by
  induction h with
  | mk v a c ad f h1 h2 h3 hc hm ha ho hr hcell ih =>
    exact .mk v a c ad f h1 h2 h3 hc hm ha ho ih fun j x hx => (hcell j x hx).keep k (ho (fun e => by rw [e] at hx; cases hx))
theorem VR.mono {w : World} {ok ok' : Nat → Prop} {v : V} {cs : List Value} (h : VR w ok v cs) (k : ∀ k, k < w.heap.size → ok k → ok' k) : VR w ok' v cs := by
  induction h with
  | mk v a c ad f h1 h2 h3 hc hm ha ho hr hcell ih =>
    refine .mk v a c ad f h1 h2 h3 hc hm ha (fun hn => k _ ?_ (ho hn)) ih hcell
    obtain ⟨x, r, e⟩ := List.exists_cons_of_ne_nil hn
    have hx : v.list[0]? = some x := by rw [e]; rfl
    have hl := (hr 0 x hx).len
    have := World.block_lt_of_cell? w _ (hcell 0 x hx 0 _ (List.getElem?_eq_getElem (by omega)))
    rwa [add_block] at this
def K.val : K V := ⟨4, VR, VR.len, VR.keep, VR.mono⟩
abbrev K.vals : K (List V) := K.slice K.val (by decide)
/-- A value's cells, told as those of any struct. -/
theorem VR.iff {w : World} {ok : Nat → Prop} {v : V} {cs : List Value} : VR w ok v cs ↔ ∃ s, cs = [.int .i64 v.kind, .int .i64 v.num, .string v.text, s] ∧ I64 v.kind ∧ I64 v.num ∧ Fits v.text ∧ Sl 4 (VR w ok) w ok s v.list := by
  constructor
  · rintro ⟨_, a, c, ad, f, h1, h2, h3, hc, hm, ha, ho, hr, hcell⟩
    exact ⟨_, rfl, h1, h2, h3, a, c, rfl, hc, hm, fun hn => ⟨ad, ha hn, ho hn, fun j x hx => ⟨f j, hr j x hx, (hr j x hx).len, hcell j x hx⟩⟩⟩
  · rintro ⟨s, rfl, h1, h2, h3, a, c, rfl, hc, hm, h⟩
    by_cases hn : v.list = []
    · exact .mk v a c ⟨0, 0, none⟩ (fun _ => []) h1 h2 h3 hc hm (fun h => absurd hn h) (fun h => absurd hn h) (fun j x hx => by rw [hn] at hx; cases hx) (fun j x hx => by rw [hn] at hx; cases hx)
    · obtain ⟨ad, rfl, ho, hf⟩ := h hn
      have hf' : ∀ j, ∃ cs, ∀ x, v.list[j]? = some x → VR w ok x cs ∧ Cells w ad (j * 4) cs := fun j => by
        cases hx : v.list[j]? with
        | none => exact ⟨[], fun x h => by cases h⟩
        | some x => obtain ⟨cs, h, _, h'⟩ := hf j x hx; exact ⟨cs, fun y hy => by cases hy; exact ⟨h, h'⟩⟩
      exact .mk v _ c ad (fun j => (hf' j).choose) h1 h2 h3 hc hm (fun _ => rfl) (fun _ => ho) (fun j x hx => ((hf' j).choose_spec x hx).1) (fun j x hx => ((hf' j).choose_spec x hx).2)
theorem add_field (a : Addr) (n m : Nat) (h : 0 < m) : a.add (n + m) = ⟨(a.add n).block, (a.add n).off + m, none⟩ := by
  unfold Addr.add
  by_cases h0 : n = 0
  · subst h0; rw [if_neg (by omega), if_pos rfl]; simp
  · rw [if_neg (by omega), if_neg h0]; simp [Nat.add_assoc]
/-- The i-th value of a slice: its cells, as a walk reads them. -/
theorem vals_at {w w' : World} {ok : Nat → Prop} {a : Option Addr} {n c : Nat} {l : List V} (h : Sl 4 (VR w ok) w ok (.slice a n c) l) (k : Keep ok w w') {j : Nat} {x : V} (hx : l[j]? = some x) :
    ∃ ad a' c', a = some ad ∧ VR w' ok x [.int .i64 x.kind, .int .i64 x.num, .string x.text, .slice a' x.list.length c'] ∧ w'.cell? (ad.add (j * 4)) = some (.int .i64 x.kind) ∧ w'.cell? ⟨(ad.add (j * 4)).block, (ad.add (j * 4)).off + 1, none⟩ = some (.int .i64 x.num) ∧
      w'.cell? ⟨(ad.add (j * 4)).block, (ad.add (j * 4)).off + 2, none⟩ = some (.string x.text) ∧ w'.cell? ⟨(ad.add (j * 4)).block, (ad.add (j * 4)).off + 3, none⟩ = some (.slice a' x.list.length c') := by
  obtain ⟨a', c', e, h1, h2, h3⟩ := h
  cases e
  obtain ⟨ad, rfl, hb, hf⟩ := h3 (fun e => by rw [e] at hx; cases hx)
  obtain ⟨cs, hv, hl, hc⟩ := hf j x hx
  obtain ⟨s, rfl, _, _, _, a2, c2, rfl, _⟩ := VR.iff.1 hv
  have hc' := hc.keep k hb
  refine ⟨ad, a2, c2, rfl, hv.keep k, hc' 0 _ rfl, ?_, ?_, ?_⟩
  · rw [← add_field _ _ 1 (by omega)]; exact hc' 1 _ rfl
  · rw [← add_field _ _ 2 (by omega)]; exact hc' 2 _ rfl
  · rw [← add_field _ _ 3 (by omega)]; exact hc' 3 _ rfl
abbrev StrR (s : ByteArray) (cs : List Value) : Prop := cs = [.string s] ∧ Fits s
abbrev Strs (w : World) (ok : Nat → Prop) (v : Value) (l : List ByteArray) : Prop := Sl 1 StrR w ok v l
abbrev Vals (w : World) (ok : Nat → Prop) (v : Value) (l : List V) : Prop := Sl 4 (VR w ok) w ok v l
theorem Vals.keep {w w' : World} {ok : Nat → Prop} {v : Value} {l : List V} (h : Vals w ok v l) (k : Keep ok w w') : Vals w' ok v l := Sl.keep h (fun _ _ _ h => h.keep k) k
theorem Vals.mono {w : World} {ok ok' : Nat → Prop} {v : Value} {l : List V} (h : Vals w ok v l) (k : ∀ k, k < w.heap.size → ok k → ok' k) : Vals w ok' v l := Sl.mono h (fun _ _ _ h => h.mono k) k (by decide)
theorem Strs.keep {w w' : World} {ok : Nat → Prop} {v : Value} {l : List ByteArray} (h : Strs w ok v l) (k : Keep ok w w') : Strs w' ok v l := Sl.keep h (fun _ _ _ h => h) k
theorem Strs.mono {w : World} {ok ok' : Nat → Prop} {v : Value} {l : List ByteArray} (h : Strs w ok v l) (k : ∀ k, k < w.heap.size → ok k → ok' k) : Strs w ok' v l := Sl.mono h (fun _ _ _ h => h) k (by decide)
/-- The i-th text of a slice. -/
theorem strs_at {w w' : World} {ok : Nat → Prop} {a : Option Addr} {n c : Nat} {l : List ByteArray} (h : Strs w ok (.slice a n c) l) (k : Keep ok w w') {j : Nat} {x : ByteArray} (hx : l[j]? = some x) :
    ∃ ad, a = some ad ∧ Fits x ∧ w'.cell? (ad.add j) = some (.string x) := by
  obtain ⟨a', c', e, h1, h2, h3⟩ := h
  cases e
  obtain ⟨ad, rfl, hb, hf⟩ := h3 (fun e => by rw [e] at hx; cases hx)
  obtain ⟨cs, ⟨rfl, hF⟩, _, hc⟩ := hf j x hx
  have := (hc.keep k hb) 0 _ rfl
  exact ⟨ad, rfl, hF, by simpa using this⟩
/-! what a value weighs -/
mutual
def V.w : V → Nat
  | ⟨_, _, _, l⟩ => V.ws l + 1
def V.ws : List V → Nat
  | [] => 0
  | x :: l => V.w x + V.ws l
end
theorem V.w_eq (v : V) : v.w = V.ws v.list + 1 := by cases v; rw [V.w]
theorem V.ws_get {l : List V} {j : Nat} {x : V} (h : l[j]? = some x) : x.w ≤ V.ws l := by
  induction l generalizing j with
  | nil => cases h
  | cons y l ih =>
    rw [V.ws]
    cases j with
    | zero => simp only [List.getElem?_cons_zero, Option.some.injEq] at h; subst h; omega
    | succ j => have := ih (by simpa using h); omega
theorem V.w_lt {v : V} {j : Nat} {x : V} (h : v.list[j]? = some x) : x.w < v.w := by rw [V.w_eq v]; have := V.ws_get h; omega

/-! a reply -/
structure Rp where
  kind : Int
  names : List ByteArray
  row : List V
  code : Int
  more : Bool
def RR (w : World) (ok : Nat → Prop) (r : Rp) (cs : List Value) : Prop :=
  ∃ s1 s2, cs = [.int .i64 r.kind, s1, s2, .int .i64 r.code, .bool r.more] ∧ I64 r.kind ∧ I64 r.code ∧ Strs w ok s1 r.names ∧ Vals w ok s2 r.row
theorem RR.keep {w w' : World} {ok : Nat → Prop} {r : Rp} {cs : List Value} (h : RR w ok r cs) (k : Keep ok w w') : RR w' ok r cs := by
  obtain ⟨s1, s2, rfl, h1, h2, h3, h4⟩ := h
  exact ⟨s1, s2, rfl, h1, h2, h3.keep k, h4.keep k⟩
theorem RR.mono {w : World} {ok ok' : Nat → Prop} {r : Rp} {cs : List Value} (h : RR w ok r cs) (k : ∀ k, k < w.heap.size → ok k → ok' k) : RR w ok' r cs := by
  obtain ⟨s1, s2, rfl, h1, h2, h3, h4⟩ := h
  exact ⟨s1, s2, rfl, h1, h2, h3.mono k, h4.mono k⟩
end Go.Proofs.YtjgnnobfaphkeaaDoor

/- A slice that a call makes and fills, place by place. No condition. -/
namespace Go.Proofs.YtjgnnobfaphkeaaDoor
open Go.RowKit
set_option linter.unusedVariables false

/-- make([]T, n) -/
theorem make_run {P : Program} (t e : TypeId) (z : Value) (size bytes : Nat) (ht : P.underlying t = some (.slice e)) (hinfo : (P.info? e).map (fun i => (i.zero, i.size, i.bytes)) = some (some z, size, bytes)) (n : Nat) (hb : bytes * n ≤ 281474976710656) (hn : n ≤ 9223372036854775807) :
    ∀ W : World, (Instr.makeSlice t (.int .i64 (n : Int)) (.int .i64 (n : Int))).run P W = .ok (.slice (some ⟨W.heap.size, 0, none⟩) n n) (W.alloc (.cells (madeCells z.cells (n * size)) e)) := by
  intro W
  obtain ⟨i, hi, hzz⟩ := Option.map_eq_some_iff.1 hinfo
  simp only [Prod.mk.injEq] at hzz
  obtain ⟨hz, hs, hb'⟩ := hzz
  subst hs
  have h1 : (i.bytes : Int) * (n : Int) ≤ 281474976710656 := by
    have h : ((i.bytes * n : Nat) : Int) ≤ 281474976710656 := by rw [hb']; omega
    rwa [Int.natCast_mul] at h
  have hr := run_make (P := P) W t e i z ht hi hz .i64 .i64 n n (by omega) (Int.le_refl _) h1 (by omega)
  simpa using hr
/-- The first k of l's elements lie in block g, which has room for n. -/
def Fill {α : Type} (sz : Nat) (R : α → List Value → Prop) (w : World) (g : Nat) (T : TypeId) (n : Nat) (l : List α) (k : Nat) : Prop :=
  ∃ cur, w.heap[g]? = some (.cells cur T (0, 0)) ∧ cur.size = n * sz ∧ ∀ j x, j < k → l[j]? = some x → ∃ cs, R x cs ∧ cs.length = sz ∧ ∀ i u, cs[i]? = some u → cur[j * sz + i]? = some u
theorem Fill.made {α : Type} {sz : Nat} {R : α → List Value → Prop} {T : TypeId} {n : Nat} {l : List α} (w : World) (z : Array Value) : Fill sz R (w.alloc (.cells (madeCells z (n * sz)) T)) w.heap.size T n l 0 :=
  ⟨_, blk_new _ _, size_madeCells _ _, fun j x hj => by omega⟩
theorem Fill.keep {α : Type} {sz : Nat} {R R' : α → List Value → Prop} {w w' : World} {g : Nat} {T : TypeId} {n k : Nat} {l : List α} {ok : Nat → Prop} (h : Fill sz R w g T n l k) (hk : Keep ok w w') (ho : ok g) (hR : ∀ x cs, R x cs → R' x cs) : Fill sz R' w' g T n l k := by
  obtain ⟨cur, hb, hs, hf⟩ := h
  exact ⟨cur, blk_keep hk hb ho, hs, fun j x hj hx => by obtain ⟨cs, h1, h2, h3⟩ := hf j x hj hx; exact ⟨cs, hR x cs h1, h2, h3⟩⟩
theorem Fill.lt {α : Type} {sz : Nat} {R : α → List Value → Prop} {w : World} {g : Nat} {T : TypeId} {n k : Nat} {l : List α} (h : Fill sz R w g T n l k) : g < w.heap.size := by obtain ⟨cur, hb, _⟩ := h; exact blk_lt hb
theorem Fill.cell {α : Type} {sz : Nat} {R : α → List Value → Prop} {w w' : World} {g : Nat} {T : TypeId} {n k : Nat} {l : List α} {ok : Nat → Prop} (h : Fill sz R w g T n l k) (hk : Keep ok w w') (ho : ok g) (o : Nat) (hl : o < n * sz) : ∃ v, w'.cell? ⟨g, o, none⟩ = some v := by
  obtain ⟨cur, hb, hs, _⟩ := h
  exact ⟨_, (blk_cell (blk_keep hk hb ho) o).trans (Array.getElem?_eq_getElem (by omega))⟩
theorem Fill.free {α : Type} {sz : Nat} {R : α → List Value → Prop} {w w' : World} {g : Nat} {T : TypeId} {n k : Nat} {l : List α} {ok : Nat → Prop} (h : Fill sz R w g T n l k) (hk : Keep ok w w') (ho : ok g) (o : Nat) : w'.frozen? ⟨g, o, none⟩ = false := by
  obtain ⟨cur, hb, _⟩ := h
  exact blk_frozen (blk_keep hk hb ho) o
/-- One more: what stands at its place; ahead of it nothing has turned. -/
theorem Fill.snoc {α : Type} {sz : Nat} {R R' : α → List Value → Prop} {w w' : World} {g : Nat} {T : TypeId} {n k : Nat} {l : List α} {x : α} {cs : List Value} (h : Fill sz R w g T n l k) (hR : ∀ x cs, R x cs → R' x cs) (hx : l[k]? = some x) (hc : R' x cs) (hl : cs.length = sz)
    (hw : ∀ cur, w.heap[g]? = some (.cells cur T (0, 0)) → cur.size = n * sz → ∃ cur', w'.heap[g]? = some (.cells cur' T (0, 0)) ∧ cur'.size = cur.size ∧ (∀ i, i < k * sz → cur'[i]? = cur[i]?) ∧ ∀ i u, cs[i]? = some u → cur'[k * sz + i]? = some u) : Fill sz R' w' g T n l (k + 1) := by
  obtain ⟨cur, hb, hs, hf⟩ := h
  obtain ⟨cur', hb', hs', h1, h2⟩ := hw cur hb hs
  refine ⟨cur', hb', hs'.trans hs, fun j y hj hy => ?_⟩
  rcases Nat.lt_succ_iff_lt_or_eq.1 hj with hj | rfl
  · obtain ⟨ds, g1, g2, g3⟩ := hf j y hj hy
    refine ⟨ds, hR y ds g1, g2, fun i u hu => ?_⟩
    have hi : i < sz := by rw [← g2]; exact (List.getElem?_eq_some_iff.1 hu).1
    rw [h1 _ (by calc j * sz + i < j * sz + sz := by omega
                      _ = (j + 1) * sz := by rw [Nat.add_mul, Nat.one_mul]
                      _ ≤ k * sz := Nat.mul_le_mul_right _ hj)]
    exact g3 i u hu
  · rw [hx] at hy; cases hy
    exact ⟨cs, hc, hl, h2⟩
theorem Fill.slice {α : Type} {sz : Nat} {R : α → List Value → Prop} {w : World} {g : Nat} {T : TypeId} {l : List α} (h : Fill sz R w g T l.length l l.length) (hn : l.length ≤ 9223372036854775807) {ok : Nat → Prop} (ho : ok g) : Sl sz R w ok (.slice (some ⟨g, 0, none⟩) l.length l.length) l := by
  obtain ⟨cur, hb, hs, hf⟩ := h
  refine ⟨_, _, rfl, Nat.le_refl _, hn, fun _ => ⟨_, rfl, ho, fun j x hx => ?_⟩⟩
  obtain ⟨cs, h1, h2, h3⟩ := hf j x (List.getElem?_eq_some_iff.1 hx).1 hx
  refine ⟨cs, h1, h2, fun i u hu => ?_⟩
  have e : (⟨g, 0, none⟩ : Addr).add (j * sz + i) = ⟨g, j * sz + i, none⟩ := by unfold Addr.add; split <;> simp_all
  rw [e, blk_cell hb]
  exact h3 i u hu
end Go.Proofs.YtjgnnobfaphkeaaDoor

/- How much texts and values weigh: the laws' own measures. Where one answers a number that is not below 0, all is at most what was left. -/
namespace Go.Proofs.YtjgnnobfaphkeaaDoor
open Go.RowKit
set_option linter.unusedVariables false
set_option linter.unusedSimpArgs false

def wStrs (l : List ByteArray) : Nat := (l.map (·.size)).sum + l.length
mutual
def V.sz : V → Nat
  | ⟨_, _, t, l⟩ => V.szs l + l.length + t.size
def V.szs : List V → Nat
  | [] => 0
  | x :: l => V.sz x + V.szs l
end
theorem V.sz_eq (v : V) : v.sz = V.szs v.list + v.list.length + v.text.size := by cases v; rw [V.sz]
/-- What is left behind n: the number, or -1 where it does not reach. -/
def left (a : Int) (n : Nat) : Int := if (n : Int) ≤ a then a - n else -1
def Left (a : Int) (n : Nat) (w : World) (e : Ending) (w' : World) : Prop := e = .returned (.int .i64 (left a n)) ∧ Keep Any w w'
theorem left_no {a : Int} {n : Nat} (h : a < n) : left a n = -1 := by unfold left; rw [if_neg (by omega)]
theorem left_yes {a : Int} {n : Nat} (h : (n : Int) ≤ a) : left a n = a - n := by unfold left; rw [if_pos h]
theorem left_bd {a : Int} {n : Nat} (h : a ≤ 1048576) : -1 ≤ left a n ∧ left a n ≤ 1048576 := by unfold left; split <;> omega
theorem sums_drop {α : Type} (f : α → Nat) (l : List α) (k : Nat) (x : α) (h : l[k]? = some x) : ((l.take (k + 1)).map f).sum = ((l.take k).map f).sum + f x ∧ ((l.take k).map f).sum + f x ≤ (l.map f).sum := by
  obtain ⟨hk, rfl⟩ := List.getElem?_eq_some_iff.1 h
  have e : l.take (k + 1) = l.take k ++ [l[k]] := by rw [List.take_succ_eq_append_getElem hk]
  have e1 : ((l.take (k + 1)).map f).sum = ((l.take k).map f).sum + f l[k] := by rw [e, List.map_append, List.sum_append]; simp
  refine ⟨e1, ?_⟩
  have h2 : (l.map f).sum = ((l.take (k + 1)).map f).sum + ((l.drop (k + 1)).map f).sum := by
    rw [← List.sum_append, ← List.map_append, List.take_append_drop]
  rw [h2, e1]; omega
theorem V.szs_sum (l : List V) : V.szs l = (l.map V.sz).sum := by
  induction l with
  | nil => rw [V.szs]; rfl
  | cons x l ih => rw [V.szs, ih]; simp

theorem szStrs_calls (l : List ByteArray) (s : Value) (a : Int) (w : World) (hs : Strs w Any s l) (h0 : 0 ≤ a) (h1 : a ≤ 1048576) :
    Calls Tryd.prog 25 #[s, .int .i64 a] w (Left a (wStrs l) w) := by
  have HS := Lib.hid hs
  obtain ⟨ad, c, rfl, hc, hm, _⟩ := hs
  by_cases hl : a < (l.length : Int)
  · have hr : left a (wStrs l) = -1 := left_no (by unfold wStrs; omega)
    have HR := Lib.hid hr
    clear hr
    go_enter Tryd.func25, Tryd.ntmps25
    go_wp2
    go_ret
    exact ⟨ret_int HR.out.symm, Keep.refl _ _⟩
  · go_enter Tryd.func25, Tryd.ntmps25
    go_wp2
    go_loopg [1, 5] (l.length + 1) (fun g v i wr => ∃ k m : Nat, k ≤ l.length ∧ i = .int .i64 k ∧ g = l.length + 1 - k ∧ m = ((l.take k).map (·.size)).sum ∧ v = .int .i64 (a - l.length - m) ∧ (m : Int) ≤ a - l.length ∧ w = wr)
    case atStart => exact ⟨0, 0, by omega, rfl, rfl, by simp, by simp, by omega, rfl⟩
    case round =>
      obtain ⟨k, m, hk, rfl, hg, hM, rfl, hb, rfl⟩ := hrel
      have HG := Lib.hid hg
      have HM := Lib.hid hM
      clear hg hM
      by_cases hlt : k < l.length
      · have hx : l[k]? = some l[k] := List.getElem?_eq_getElem hlt
        have hq := sums_drop (fun s : ByteArray => s.size) l k _ hx
        obtain ⟨ad, rfl, hF, c0⟩ := strs_at HS.out (Keep.refl _ _) hx
        generalize l[k] = x at *
        unfold Fits at hF
        have HQ := Lib.hid hq
        clear hx hq
        by_cases hz : a - l.length - m < (x.size : Int)
        · have hr : left a (wStrs l) = -1 := left_no (by unfold wStrs; have := HQ.out.2; have := HM.out; omega)
          have HR := Lib.hid hr
          clear hr
          go_wp2
          go_ret
          exact ⟨ret_int HR.out.symm, Keep.refl _ _⟩
        · go_wp2
          go_roundg (gk - 1)
          case rel => exact ⟨k + 1, m + x.size, by omega, by go_num, by have := HG.out; omega, by rw [HQ.out.1, HM.out], by congr 1; omega, by omega, rfl⟩
          case measure => have := HG.out; omega
      · have hr : left a (wStrs l) = a - l.length - m := by
          have e := HM.out
          rw [List.take_of_length_le (by omega)] at e
          rw [left_yes (by unfold wStrs; omega)]; unfold wStrs; omega
        have HR := Lib.hid hr
        clear hr
        go_wp2
        go_ret
        exact ⟨ret_int HR.out.symm, Keep.refl _ _⟩

/-- the values of one length of weight -/
def SzVals (l : List V) : Prop := ∀ (s : Value) (a : Int) (w : World), Vals w Any s l → 0 ≤ a → a ≤ 1048576 → Calls Tryd.prog 26 #[s, .int .i64 a] w (Left a (V.szs l + l.length) w)
def SzVal (v : V) : Prop := ∀ (cs : List Value) (a : Int) (w : World), VR w Any v cs → 0 ≤ a → a ≤ 1048576 → Calls Tryd.prog 54 #[.agg cs.toArray, .int .i64 a] w (Left a v.sz w)
theorem szVal_of (v : V) (ih : SzVals v.list) : SzVal v := by
  intro cs a w hv h0 h1
  obtain ⟨s, rfl, _, _, h3, hs⟩ := VR.iff.1 hv
  have hz := V.sz_eq v
  have HS := Lib.hid hs
  have IH := Lib.hid ih
  have HZ := Lib.hid hz
  unfold Fits at h3
  clear hs ih hv hz
  by_cases hl : a < (v.text.size : Int)
  · have hr : left a v.sz = -1 := left_no (by have := HZ.out; omega)
    have HR := Lib.hid hr
    clear hr
    go_enter Tryd.func54, Tryd.ntmps54
    go_wp2
    go_ret
    exact ⟨ret_int HR.out.symm, by repeat (first | exact Keep.refl _ _ | apply Keep.drewN | apply Keep.drew | apply Keep.alloc)⟩
  · by_cases hq : a - v.text.size < ((V.szs v.list + v.list.length : Nat) : Int)
    · have hr : left a v.sz = -1 := left_no (by have := HZ.out; omega)
      have HR := Lib.hid hr
      have hl2 : left (a - v.text.size) (V.szs v.list + v.list.length) = -1 := left_no hq
      have HL := Lib.hid hl2
      clear hr hl2
      go_enter Tryd.func54, Tryd.ntmps54
      go_wp2_with (go_at_call 26; refine (IH.out _ _ _ (Vals.keep HS.out ((Keep.refl _ _).alloc _)) (by omega) (by omega)).mono ?_; rintro e w2 ⟨rfl, hK⟩; rw [HL.out])
      go_ret
      exact ⟨ret_int HR.out.symm, ((Keep.refl _ _).alloc _).trans hK⟩
    · obtain ⟨n, hn⟩ : ∃ n, n = V.szs v.list + v.list.length := ⟨_, rfl⟩
      have hr : left a v.sz = a - v.text.size - (n : Int) := by rw [left_yes (by have := HZ.out; omega)]; have := HZ.out; omega
      have HR := Lib.hid hr
      have hl2 : left (a - v.text.size) (V.szs v.list + v.list.length) = a - v.text.size - (n : Int) := by rw [left_yes (by omega)]; omega
      have HL := Lib.hid hl2
      have hn' : (n : Int) ≤ a - v.text.size := by omega
      clear hr hl2 hn hq
      go_enter Tryd.func54, Tryd.ntmps54
      go_wp2_with (go_at_call 26; refine (IH.out _ _ _ (Vals.keep HS.out ((Keep.refl _ _).alloc _)) (by omega) (by omega)).mono ?_; rintro e w2 ⟨rfl, hK⟩; rw [HL.out])
      go_ret
      exact ⟨ret_int HR.out.symm, ((Keep.refl _ _).alloc _).trans hK⟩

theorem szVals_of (l : List V) (ih : ∀ x, x ∈ l → SzVal x) : SzVals l := by
  intro s a w hs h0 h1
  have HS := Lib.hid hs
  have IH := Lib.hid ih
  clear ih
  obtain ⟨ad, c, rfl, hc, hm, _⟩ := hs
  by_cases hl : a < (l.length : Int)
  · have hr : left a (V.szs l + l.length) = -1 := left_no (by omega)
    have HR := Lib.hid hr
    clear hr
    go_enter Tryd.func26, Tryd.ntmps26
    go_wp2
    go_ret
    exact ⟨ret_int HR.out.symm, Keep.refl _ _⟩
  · go_enter Tryd.func26, Tryd.ntmps26
    go_wp2
    go_loopg [1, 5] (l.length + 1) (fun g v i wr => ∃ k m : Nat, k ≤ l.length ∧ i = .int .i64 k ∧ g = l.length + 1 - k ∧ m = ((l.take k).map V.sz).sum ∧ v = .int .i64 (a - l.length - m) ∧ (m : Int) ≤ a - l.length ∧ Keep Any w wr)
    case atStart => exact ⟨0, 0, by omega, rfl, rfl, by simp, by simp, by omega, Keep.refl _ _⟩
    case round =>
      obtain ⟨k, m, hk, rfl, hg, hM, rfl, hb, hK⟩ := hrel
      have HG := Lib.hid hg
      have HM := Lib.hid hM
      clear hg hM
      by_cases hlt : k < l.length
      · have hx : l[k]? = some l[k] := List.getElem?_eq_getElem hlt
        have hq := sums_drop V.sz l k _ hx
        obtain ⟨ad, sa, sc, rfl, hvx, c0, c1, c2, c3⟩ := vals_at HS.out hK hx
        have IX := Lib.hid (IH.out _ (List.mem_of_getElem? hx))
        generalize l[k] = x at *
        have HQ := Lib.hid hq
        have HV := Lib.hid hvx
        clear hx hq hvx
        by_cases hz : a - l.length - m < (x.sz : Int)
        · have hr : left a (V.szs l + l.length) = -1 := left_no (by have := HQ.out.2; have := HM.out; rw [V.szs_sum]; omega)
          have HR := Lib.hid hr
          have hl2 : left (a - l.length - m) x.sz = -1 := left_no hz
          have HL := Lib.hid hl2
          clear hr hl2
          go_wp2_with (go_at_call 54; refine (IX.out _ _ _ HV.out (by omega) (by omega)).mono ?_; rintro e w2 ⟨rfl, hK2⟩; rw [HL.out])
          go_ret
          exact ⟨ret_int HR.out.symm, hK.trans hK2⟩
        · have hl2 : left (a - l.length - m) x.sz = a - l.length - m - x.sz := left_yes (by omega)
          have HL := Lib.hid hl2
          clear hl2
          go_wp2_with (go_at_call 54; refine (IX.out _ _ _ HV.out (by omega) (by omega)).mono ?_; rintro e w2 ⟨rfl, hK2⟩; rw [HL.out])
          go_roundg (gk - 1)
          case rel => exact ⟨k + 1, m + x.sz, by omega, by go_num, by have := HG.out; omega, by rw [HQ.out.1, HM.out], by congr 1; omega, by omega, hK.trans hK2⟩
          case measure => have := HG.out; omega
      · have hr : left a (V.szs l + l.length) = a - l.length - m := by
          have e := HM.out
          rw [List.take_of_length_le (by omega)] at e
          rw [V.szs_sum, left_yes (by omega)]; omega
        have HR := Lib.hid hr
        clear hr
        go_wp2
        go_ret
        exact ⟨ret_int HR.out.symm, hK⟩
theorem szVal_all (n : Nat) : ∀ v : V, v.w = n → SzVal v := by
  induction n using Nat.strongRecOn with
  | _ n ih => exact fun v hv => szVal_of v (szVals_of _ fun x hx => by
      obtain ⟨j, hj, rfl⟩ := List.getElem_of_mem hx
      exact ih _ (hv ▸ V.w_lt (List.getElem?_eq_getElem hj)) _ rfl)
theorem szVals_calls (l : List V) : SzVals l := szVals_of l fun x _ => szVal_all x.w x rfl
end Go.Proofs.YtjgnnobfaphkeaaDoor

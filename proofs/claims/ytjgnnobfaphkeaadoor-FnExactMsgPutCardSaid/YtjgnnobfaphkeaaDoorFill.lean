/- A slice that a call makes and fills, place by place. No condition. -/
import Derived.Test.YtjgnnobfaphkeaaDoorBase
import Derived.Test.YtjgnnobfaphkeaaDoorKind
import Derived.Laws.OwnMore
namespace Go.Proofs.YtjgnnobfaphkeaaDoor
open Go.RowKit
set_option linter.unusedVariables false

/-- make([]T, n) -/
theorem make_run {P : Program} (t e : TypeId) (z : Value) (size bytes : Nat) (ht : P.underlying t = some (.slice e)) (hinfo : (P.info? e).map (fun i => (i.zero, i.size, i.bytes)) = some (some z, size, bytes)) (n : Nat) (hb : bytes * n ≤ 281474976710656) (hn : n ≤ 9223372036854775807) :
    ∀ W : World, (Instr.makeSlice t (.int .i64 (n : Int)) (.int .i64 (n : Int))).run P W = .ok (.slice (some ⟨W.heap.size, 0, none⟩) n n) (W.alloc (.cells (madeCells z.cells (n * size)) e)) := by
  intro W
  obtain ⟨i, hi, hzz⟩ := Option.map_eq_some_iff.1 hinfo
  simp only [Prod.mk.injEq] at hzz
  obtain ⟨hz, hs, hb'⟩ := hzz
  subst hs
  have h1 : (i.bytes : Int) * (n : Int) ≤ 281474976710656 := by
    have h : ((i.bytes * n : Nat) : Int) ≤ 281474976710656 := by rw [hb']; omega
    rwa [Int.natCast_mul] at h
  have hr := run_make (P := P) W t e i z ht hi hz .i64 .i64 n n (by omega) (Int.le_refl _) h1 (by omega)
  simpa using hr
/-- The first k of l's elements lie in block g, which has room for n. -/
def Fill {α : Type} (sz : Nat) (R : α → List Value → Prop) (w : World) (g : Nat) (T : TypeId) (n : Nat) (l : List α) (k : Nat) : Prop :=
  ∃ cur, w.heap[g]? = some (.cells cur T (0, 0)) ∧ cur.size = n * sz ∧ ∀ j x, j < k → l[j]? = some x → ∃ cs, R x cs ∧ cs.length = sz ∧ ∀ i u, cs[i]? = some u → cur[j * sz + i]? = some u
theorem Fill.made {α : Type} {sz : Nat} {R : α → List Value → Prop} {T : TypeId} {n : Nat} {l : List α} (w : World) (z : Array Value) : Fill sz R (w.alloc (.cells (madeCells z (n * sz)) T)) w.heap.size T n l 0 :=
  ⟨_, blk_new _ _, size_madeCells _ _, fun j x hj => by omega⟩
theorem Fill.keep {α : Type} {sz : Nat} {R R' : α → List Value → Prop} {w w' : World} {g : Nat} {T : TypeId} {n k : Nat} {l : List α} {ok : Nat → Prop} (h : Fill sz R w g T n l k) (hk : Keep ok w w') (ho : ok g) (hR : ∀ x cs, R x cs → R' x cs) : Fill sz R' w' g T n l k := by
  obtain ⟨cur, hb, hs, hf⟩ := h
  exact ⟨cur, blk_keep hk hb ho, hs, fun j x hj hx => by obtain ⟨cs, h1, h2, h3⟩ := hf j x hj hx; exact ⟨cs, hR x cs h1, h2, h3⟩⟩
theorem Fill.lt {α : Type} {sz : Nat} {R : α → List Value → Prop} {w : World} {g : Nat} {T : TypeId} {n k : Nat} {l : List α} (h : Fill sz R w g T n l k) : g < w.heap.size := by obtain ⟨cur, hb, _⟩ := h; exact blk_lt hb
theorem Fill.cell {α : Type} {sz : Nat} {R : α → List Value → Prop} {w w' : World} {g : Nat} {T : TypeId} {n k : Nat} {l : List α} {ok : Nat → Prop} (h : Fill sz R w g T n l k) (hk : Keep ok w w') (ho : ok g) (o : Nat) (hl : o < n * sz) : ∃ v, w'.cell? ⟨g, o, none⟩ = some v := by
  obtain ⟨cur, hb, hs, _⟩ := h
  exact ⟨_, (blk_cell (blk_keep hk hb ho) o).trans (Array.getElem?_eq_getElem (by omega))⟩
theorem Fill.free {α : Type} {sz : Nat} {R : α → List Value → Prop} {w w' : World} {g : Nat} {T : TypeId} {n k : Nat} {l : List α} {ok : Nat → Prop} (h : Fill sz R w g T n l k) (hk : Keep ok w w') (ho : ok g) (o : Nat) : w'.frozen? ⟨g, o, none⟩ = false := by
  obtain ⟨cur, hb, _⟩ := h
  exact blk_frozen (blk_keep hk hb ho) o
/-- One more: what stands at its place; ahead of it nothing has turned. -/
theorem Fill.snoc {α : Type} {sz : Nat} {R R' : α → List Value → Prop} {w w' : World} {g : Nat} {T : TypeId} {n k : Nat} {l : List α} {x : α} {cs : List Value} (h : Fill sz R w g T n l k) (hR : ∀ x cs, R x cs → R' x cs) (hx : l[k]? = some x) (hc : R' x cs) (hl : cs.length = sz)
    (hw : ∀ cur, w.heap[g]? = some (.cells cur T (0, 0)) → cur.size = n * sz → ∃ cur', w'.heap[g]? = some (.cells cur' T (0, 0)) ∧ cur'.size = cur.size ∧ (∀ i, i < k * sz → cur'[i]? = cur[i]?) ∧ ∀ i u, cs[i]? = some u → cur'[k * sz + i]? = some u) : Fill sz R' w' g T n l (k + 1) := by
  obtain ⟨cur, hb, hs, hf⟩ := h
  obtain ⟨cur', hb', hs', h1, h2⟩ := hw cur hb hs
  refine ⟨cur', hb', hs'.trans hs, fun j y hj hy => ?_⟩
  rcases Nat.lt_succ_iff_lt_or_eq.1 hj with hj | rfl
  · obtain ⟨ds, g1, g2, g3⟩ := hf j y hj hy
    refine ⟨ds, hR y ds g1, g2, fun i u hu => ?_⟩
    have hi : i < sz := by rw [← g2]; exact (List.getElem?_eq_some_iff.1 hu).1
    rw [h1 _ (by calc j * sz + i < j * sz + sz := by omega
                      _ = (j + 1) * sz := by rw [Nat.add_mul, Nat.one_mul]
                      _ ≤ k * sz := Nat.mul_le_mul_right _ hj)]
    exact g3 i u hu
  · rw [hx] at hy; cases hy
    exact ⟨cs, hc, hl, h2⟩
theorem Fill.slice {α : Type} {sz : Nat} {R : α → List Value → Prop} {w : World} {g : Nat} {T : TypeId} {l : List α} (h : Fill sz R w g T l.length l l.length) (hn : l.length ≤ 9223372036854775807) {ok : Nat → Prop} (ho : ok g) : Sl sz R w ok (.slice (some ⟨g, 0, none⟩) l.length l.length) l := by
  obtain ⟨cur, hb, hs, hf⟩ := h
  refine ⟨_, _, rfl, Nat.le_refl _, hn, fun _ => ⟨_, rfl, ho, fun j x hx => ?_⟩⟩
  obtain ⟨cs, h1, h2, h3⟩ := hf j x (List.getElem?_eq_some_iff.1 hx).1 hx
  refine ⟨cs, h1, h2, fun i u hu => ?_⟩
  have e : (⟨g, 0, none⟩ : Addr).add (j * sz + i) = ⟨g, j * sz + i, none⟩ := by unfold Addr.add; split <;> simp_all
  rw [e, blk_cell hb]
  exact h3 i u hu
end Go.Proofs.YtjgnnobfaphkeaaDoor

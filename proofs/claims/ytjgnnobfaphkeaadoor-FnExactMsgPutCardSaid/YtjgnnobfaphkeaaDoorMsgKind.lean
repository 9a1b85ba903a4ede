/- How what is said lies in memory: cells (a name and a value), a list of them, what is said. And which has a form, as plain functions. No condition. -/
import Derived.Test.YtjgnnobfaphkeaaDoorKind
import Derived.Test.YtjgnnobfaphkeaaDoorValPure
import Derived.Test.YtjgnnobfaphkeaaDoorNamePure
namespace Go.Proofs.YtjgnnobfaphkeaaDoor
open Go.RowKit
set_option linter.unusedVariables false
structure Ce where
  name : ByteArray
  val : V
def CeR (w : World) (ok : Nat → Prop) (c : Ce) (cs : List Value) : Prop := ∃ d, cs = .string c.name :: d ∧ Fits c.name ∧ VR w ok c.val d
theorem CeR.keep {w w' : World} {ok : Nat → Prop} {c : Ce} {cs : List Value} (h : CeR w ok c cs) (k : Keep ok w w') : CeR w' ok c cs := by
  obtain ⟨d, rfl, h1, h2⟩ := h; exact ⟨d, rfl, h1, h2.keep k⟩
theorem CeR.mono {w : World} {ok ok' : Nat → Prop} {c : Ce} {cs : List Value} (h : CeR w ok c cs) (k : ∀ k, k < w.heap.size → ok k → ok' k) : CeR w ok' c cs := by
  obtain ⟨d, rfl, h1, h2⟩ := h; exact ⟨d, rfl, h1, h2.mono k⟩
theorem CeR.cells {w : World} {ok : Nat → Prop} {c : Ce} {cs : List Value} (h : CeR w ok c cs) : ∃ a n, cs = [.string c.name, .int .i64 c.val.kind, .int .i64 c.val.num, .string c.val.text, .slice a c.val.list.length n] ∧
    VR w ok c.val [.int .i64 c.val.kind, .int .i64 c.val.num, .string c.val.text, .slice a c.val.list.length n] := by
  obtain ⟨d, rfl, h1, h2⟩ := h
  obtain ⟨s, rfl, _, _, _, a, n, rfl, _⟩ := VR.iff.1 h2
  exact ⟨a, n, rfl, h2⟩
abbrev Ces (w : World) (ok : Nat → Prop) (v : Value) (l : List Ce) : Prop := Sl 5 (CeR w ok) w ok v l
theorem Ces.keep {w w' : World} {ok : Nat → Prop} {v : Value} {l : List Ce} (h : Ces w ok v l) (k : Keep ok w w') : Ces w' ok v l := Sl.keep h (fun _ _ _ h => h.keep k) k
theorem Ces.mono {w : World} {ok ok' : Nat → Prop} {v : Value} {l : List Ce} (h : Ces w ok v l) (k : ∀ k, k < w.heap.size → ok k → ok' k) : Ces w ok' v l := Sl.mono h (fun _ _ _ h => h.mono k) k (by decide)
/-- The i-th cell of a slice: its cells, as a walk reads them. -/
theorem ces_at {w w' : World} {ok : Nat → Prop} {a : Option Addr} {n c : Nat} {l : List Ce} (h : Ces w ok (.slice a n c) l) (k : Keep ok w w') {j : Nat} {x : Ce} (hx : l[j]? = some x) :
    ∃ ad a' c', a = some ad ∧ Fits x.name ∧ VR w' ok x.val [.int .i64 x.val.kind, .int .i64 x.val.num, .string x.val.text, .slice a' x.val.list.length c'] ∧ w'.cell? (ad.add (j * 5)) = some (.string x.name) ∧ w'.cell? ⟨(ad.add (j * 5)).block, (ad.add (j * 5)).off + 1, none⟩ = some (.int .i64 x.val.kind) ∧ w'.cell? ⟨(ad.add (j * 5)).block, (ad.add (j * 5)).off + 2, none⟩ = some (.int .i64 x.val.num) ∧
      w'.cell? ⟨(ad.add (j * 5)).block, (ad.add (j * 5)).off + 3, none⟩ = some (.string x.val.text) ∧ w'.cell? ⟨(ad.add (j * 5)).block, (ad.add (j * 5)).off + 4, none⟩ = some (.slice a' x.val.list.length c') := by
  obtain ⟨a', c', e, h1, h2, h3⟩ := h
  cases e
  obtain ⟨ad, rfl, hb, hf⟩ := h3 (fun e => by rw [e] at hx; cases hx)
  obtain ⟨cs, hv, hl, hc⟩ := hf j x hx
  have hF : Fits x.name := by obtain ⟨_, _, h, _⟩ := hv; exact h
  obtain ⟨a2, c2, rfl, hv2⟩ := hv.cells
  have hc' := hc.keep k hb
  refine ⟨ad, a2, c2, rfl, hF, hv2.keep k, hc' 0 _ rfl, ?_, ?_, ?_, ?_⟩
  · rw [← add_field _ _ 1 (by omega)]; exact hc' 1 _ rfl
  · rw [← add_field _ _ 2 (by omega)]; exact hc' 2 _ rfl
  · rw [← add_field _ _ 3 (by omega)]; exact hc' 3 _ rfl
  · rw [← add_field _ _ 4 (by omega)]; exact hc' 4 _ rfl
structure Ms where
  kind : Int
  text : ByteArray
  given : List Ce
  num : Int
def MR (w : World) (ok : Nat → Prop) (m : Ms) (cs : List Value) : Prop :=
  ∃ s, cs = [.int .i64 m.kind, .string m.text, s, .int .i64 m.num] ∧ I64 m.kind ∧ I64 m.num ∧ Fits m.text ∧ Ces w ok s m.given
theorem MR.keep {w w' : World} {ok : Nat → Prop} {m : Ms} {cs : List Value} (h : MR w ok m cs) (k : Keep ok w w') : MR w' ok m cs := by
  obtain ⟨s, rfl, h1, h2, h3, h4⟩ := h
  exact ⟨s, rfl, h1, h2, h3, Ces.keep h4 k⟩
theorem MR.mono {w : World} {ok ok' : Nat → Prop} {m : Ms} {cs : List Value} (h : MR w ok m cs) (k : ∀ k, k < w.heap.size → ok k → ok' k) : MR w ok' m cs := by
  obtain ⟨s, rfl, h1, h2, h3, h4⟩ := h
  exact ⟨s, rfl, h1, h2, h3, Ces.mono h4 k⟩
/-! which has a form -/
/-- the k-th cell: a name that no earlier one has, and a value that is ok -/
def cellGood (l : List Ce) (k : Nat) : Bool := match l[k]? with
  | none => false
  | some c => nameOk c.name && okV 3 c.val && !((l.take k).any fun d => decide (d.name = c.name))
def okCells (l : List Ce) : Bool := (List.range l.length).all (cellGood l)
def okM (m : Ms) : Bool :=
  if m.kind = 1 then nameOk m.text && ((m.given.length : Int) == 0) && m.num == 0
  else if m.kind = 2 then decide ((m.text.size : Int) ≤ 1000) && decide ((m.given.length : Int) ≤ 5) && okCells m.given && m.num == 0
  else if m.kind = 3 then (m.text.toList == ([] : List UInt8)) && ((m.given.length : Int) == 0) && decide (1 ≤ m.num) && decide (m.num ≤ 60)
  else if 4 ≤ m.kind ∧ m.kind ≤ 9 then (m.text.toList == ([] : List UInt8)) && ((m.given.length : Int) == 0) && m.num == 0
  else false
end Go.Proofs.YtjgnnobfaphkeaaDoor

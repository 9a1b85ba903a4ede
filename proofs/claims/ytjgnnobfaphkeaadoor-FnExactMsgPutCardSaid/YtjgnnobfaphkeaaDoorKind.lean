/- How Go's data lie in memory: a kind says which cells hold a datum; rows of such; the tree of values. 'ok': in which blocks. No condition. -/
import Derived.Test.YtjgnnobfaphkeaaDoorKeep
namespace Go.Proofs.YtjgnnobfaphkeaaDoor
open Go.RowKit
set_option linter.unusedVariables false

def I64 (n : Int) : Prop := -9223372036854775808 ≤ n ∧ n ≤ 9223372036854775807
def Fits (s : ByteArray) : Prop := s.size ≤ 9223372036854775807

structure K (α : Type) where
  sz : Nat
  rep : World → (Nat → Prop) → α → List Value → Prop
  len : ∀ {w ok x cs}, rep w ok x cs → cs.length = sz
  keep : ∀ {w w' ok x cs}, rep w ok x cs → Keep ok w w' → rep w' ok x cs
  mono : ∀ {w ok ok' x cs}, rep w ok x cs → (∀ k, k < w.heap.size → ok k → ok' k) → rep w ok' x cs

/-- The cells behind an address. -/
def Cells (w : World) (ad : Addr) (o : Nat) (cs : List Value) : Prop := ∀ i u, cs[i]? = some u → w.cell? (ad.add (o + i)) = some u
theorem add_block (a : Addr) (n : Nat) : (a.add n).block = a.block := by unfold Addr.add; split <;> rfl
theorem Cells.keep {ok : Nat → Prop} {w w' : World} {ad : Addr} {o : Nat} {cs : List Value} (h : Cells w ad o cs) (k : Keep ok w w') (ho : ok ad.block) : Cells w' ad o cs :=
  fun i u hu => k.cell (h i u hu) (by rw [add_block]; exact ho)

/-- A slice's value: its elements by a relation. -/
def Sl {α : Type} (sz : Nat) (R : α → List Value → Prop) (w : World) (ok : Nat → Prop) (v : Value) (l : List α) : Prop :=
  ∃ (a : Option Addr) (c : Nat), v = .slice a l.length c ∧ l.length ≤ c ∧ c ≤ 9223372036854775807 ∧
    (l ≠ [] → ∃ ad, a = some ad ∧ ok ad.block ∧ ∀ j x, l[j]? = some x → ∃ cs, R x cs ∧ cs.length = sz ∧ Cells w ad (j * sz) cs)
theorem Sl.mono {α : Type} {sz : Nat} {R R' : α → List Value → Prop} {w : World} {ok ok' : Nat → Prop} {v : Value} {l : List α} (h : Sl sz R w ok v l)
    (hR : ∀ x cs, x ∈ l → R x cs → R' x cs) (ho : ∀ k, k < w.heap.size → ok k → ok' k) (hs : 0 < sz) : Sl sz R' w ok' v l := by
  obtain ⟨a, c, rfl, h1, h2, h3⟩ := h
  refine ⟨a, c, rfl, h1, h2, fun hn => ?_⟩
  obtain ⟨ad, rfl, hb, hc⟩ := h3 hn
  refine ⟨ad, rfl, ?_, fun j x hx => ?_⟩
  · obtain ⟨x, r, rfl⟩ := List.exists_cons_of_ne_nil hn
    obtain ⟨cs, _, hl, hcs⟩ := hc 0 x rfl
    have := World.block_lt_of_cell? w _ (hcs 0 _ (List.getElem?_eq_getElem (by omega)))
    rw [add_block] at this
    exact ho _ this hb
  · obtain ⟨cs, h, hl, hcs⟩ := hc j x hx
    exact ⟨cs, hR x cs (List.mem_of_getElem? hx) h, hl, hcs⟩
theorem Sl.keep {α : Type} {sz : Nat} {R R' : α → List Value → Prop} {w w' : World} {ok : Nat → Prop} {v : Value} {l : List α} (h : Sl sz R w ok v l)
    (hR : ∀ x cs, x ∈ l → R x cs → R' x cs) (k : Keep ok w w') : Sl sz R' w' ok v l := by
  obtain ⟨a, c, rfl, h1, h2, h3⟩ := h
  refine ⟨a, c, rfl, h1, h2, fun hn => ?_⟩
  obtain ⟨ad, rfl, hb, hc⟩ := h3 hn
  refine ⟨ad, rfl, hb, fun j x hx => ?_⟩
  obtain ⟨cs, h, hl, hcs⟩ := hc j x hx
  exact ⟨cs, hR x cs (List.mem_of_getElem? hx) h, hl, hcs.keep k hb⟩

namespace K
def int : K Int := ⟨1, fun _ _ n cs => cs = [.int .i64 n] ∧ I64 n, fun h => by rw [h.1]; rfl, fun h _ => h, fun h _ => h⟩
def bool : K Bool := ⟨1, fun _ _ b cs => cs = [.bool b], fun h => by rw [h]; rfl, fun h _ => h, fun h _ => h⟩
def str : K ByteArray := ⟨1, fun _ _ s cs => cs = [.string s] ∧ Fits s, fun h => by rw [h.1]; rfl, fun h _ => h, fun h _ => h⟩
/-- one behind the other -/
def pair {α β : Type} (a : K α) (b : K β) : K (α × β) where
  sz := a.sz + b.sz
  rep w ok x cs := ∃ c d, cs = c ++ d ∧ a.rep w ok x.1 c ∧ b.rep w ok x.2 d
  len := by rintro w ok x cs ⟨c, d, rfl, h1, h2⟩; rw [List.length_append, a.len h1, b.len h2]
  keep := by rintro w w' ok x cs ⟨c, d, rfl, h1, h2⟩ k; exact ⟨c, d, rfl, a.keep h1 k, b.keep h2 k⟩
  mono := by rintro w ok ok' x cs ⟨c, d, rfl, h1, h2⟩ k; exact ⟨c, d, rfl, a.mono h1 k, b.mono h2 k⟩
def slice {α : Type} (a : K α) (hs : 0 < a.sz) : K (List α) where
  sz := 1
  rep w ok l cs := ∃ v, cs = [v] ∧ Sl a.sz (a.rep w ok) w ok v l
  len := by rintro w ok x cs ⟨v, rfl, _⟩; rfl
  keep := by rintro w w' ok x cs ⟨v, rfl, h⟩ k; exact ⟨v, rfl, h.keep (fun _ _ _ h => a.keep h k) k⟩
  mono := by rintro w ok ok' x cs ⟨v, rfl, h⟩ k; exact ⟨v, rfl, h.mono (fun _ _ _ h => a.mono h k) k hs⟩
/-- the same cells for a datum of another make -/
def via {α β : Type} (a : K α) (f : β → α) : K β := ⟨a.sz, fun w ok x cs => a.rep w ok (f x) cs, a.len, a.keep, a.mono⟩
end K

/-! the tree of values: number of kind, number, text, list -/
structure V where
  kind : Int
  num : Int
  text : ByteArray
  list : List V
inductive VR (w : World) (ok : Nat → Prop) : V → List Value → Prop where
  | mk (v : V) (a : Option Addr) (c : Nat) (ad : Addr) (f : Nat → List Value) (h1 : I64 v.kind) (h2 : I64 v.num) (h3 : Fits v.text) (hc : v.list.length ≤ c) (hm : c ≤ 9223372036854775807)
      (ha : v.list ≠ [] → a = some ad) (ho : v.list ≠ [] → ok ad.block) (hr : ∀ j x, v.list[j]? = some x → VR w ok x (f j)) (hcell : ∀ j x, v.list[j]? = some x → Cells w ad (j * 4) (f j)) :
      VR w ok v [.int .i64 v.kind, .int .i64 v.num, .string v.text, .slice a v.list.length c]
theorem VR.len {w : World} {ok : Nat → Prop} {v : V} {cs : List Value} (h : VR w ok v cs) : cs.length = 4 := by cases h; rfl
theorem VR.keep {w w' : World} {ok : Nat → Prop} {v : V} {cs : List Value} (h : VR w ok v cs) (k : Keep ok w w') : VR w' ok v cs := by
  induction h with
  | mk v a c ad f h1 h2 h3 hc hm ha ho hr hcell ih =>
    exact .mk v a c ad f h1 h2 h3 hc hm ha ho ih fun j x hx => (hcell j x hx).keep k (ho (fun e => by rw [e] at hx; cases hx))
theorem VR.mono {w : World} {ok ok' : Nat → Prop} {v : V} {cs : List Value} (h : VR w ok v cs) (k : ∀ k, k < w.heap.size → ok k → ok' k) : VR w ok' v cs := by
  induction h with
  | mk v a c ad f h1 h2 h3 hc hm ha ho hr hcell ih =>
    refine .mk v a c ad f h1 h2 h3 hc hm ha (fun hn => k _ ?_ (ho hn)) ih hcell
    obtain ⟨x, r, e⟩ := List.exists_cons_of_ne_nil hn
    have hx : v.list[0]? = some x := by rw [e]; rfl
    have hl := (hr 0 x hx).len
    have := World.block_lt_of_cell? w _ (hcell 0 x hx 0 _ (List.getElem?_eq_getElem (by omega)))
    rwa [add_block] at this
def K.val : K V := ⟨4, VR, VR.len, VR.keep, VR.mono⟩
abbrev K.vals : K (List V) := K.slice K.val (by decide)
/-- A value's cells, told as those of any struct. -/
theorem VR.iff {w : World} {ok : Nat → Prop} {v : V} {cs : List Value} : VR w ok v cs ↔ ∃ s, cs = [.int .i64 v.kind, .int .i64 v.num, .string v.text, s] ∧ I64 v.kind ∧ I64 v.num ∧ Fits v.text ∧ Sl 4 (VR w ok) w ok s v.list := by
  constructor
  · rintro ⟨_, a, c, ad, f, h1, h2, h3, hc, hm, ha, ho, hr, hcell⟩
    exact ⟨_, rfl, h1, h2, h3, a, c, rfl, hc, hm, fun hn => ⟨ad, ha hn, ho hn, fun j x hx => ⟨f j, hr j x hx, (hr j x hx).len, hcell j x hx⟩⟩⟩
  · rintro ⟨s, rfl, h1, h2, h3, a, c, rfl, hc, hm, h⟩
    by_cases hn : v.list = []
    · exact .mk v a c ⟨0, 0, none⟩ (fun _ => []) h1 h2 h3 hc hm (fun h => absurd hn h) (fun h => absurd hn h) (fun j x hx => by rw [hn] at hx; cases hx) (fun j x hx => by rw [hn] at hx; cases hx)
    · obtain ⟨ad, rfl, ho, hf⟩ := h hn
      have hf' : ∀ j, ∃ cs, ∀ x, v.list[j]? = some x → VR w ok x cs ∧ Cells w ad (j * 4) cs := fun j => by
        cases hx : v.list[j]? with
        | none => exact ⟨[], fun x h => by cases h⟩
        | some x => obtain ⟨cs, h, _, h'⟩ := hf j x hx; exact ⟨cs, fun y hy => by cases hy; exact ⟨h, h'⟩⟩
      exact .mk v _ c ad (fun j => (hf' j).choose) h1 h2 h3 hc hm (fun _ => rfl) (fun _ => ho) (fun j x hx => ((hf' j).choose_spec x hx).1) (fun j x hx => ((hf' j).choose_spec x hx).2)
theorem add_field (a : Addr) (n m : Nat) (h : 0 < m) : a.add (n + m) = ⟨(a.add n).block, (a.add n).off + m, none⟩ := by
  unfold Addr.add
  by_cases h0 : n = 0
  · subst h0; rw [if_neg (by omega), if_pos rfl]; simp
  · rw [if_neg (by omega), if_neg h0]; simp [Nat.add_assoc]
/-- The i-th value of a slice: its cells, as a walk reads them. -/
theorem vals_at {w w' : World} {ok : Nat → Prop} {a : Option Addr} {n c : Nat} {l : List V} (h : Sl 4 (VR w ok) w ok (.slice a n c) l) (k : Keep ok w w') {j : Nat} {x : V} (hx : l[j]? = some x) :
    ∃ ad a' c', a = some ad ∧ VR w' ok x [.int .i64 x.kind, .int .i64 x.num, .string x.text, .slice a' x.list.length c'] ∧ w'.cell? (ad.add (j * 4)) = some (.int .i64 x.kind) ∧ w'.cell? ⟨(ad.add (j * 4)).block, (ad.add (j * 4)).off + 1, none⟩ = some (.int .i64 x.num) ∧
      w'.cell? ⟨(ad.add (j * 4)).block, (ad.add (j * 4)).off + 2, none⟩ = some (.string x.text) ∧ w'.cell? ⟨(ad.add (j * 4)).block, (ad.add (j * 4)).off + 3, none⟩ = some (.slice a' x.list.length c') := by
  obtain ⟨a', c', e, h1, h2, h3⟩ := h
  cases e
  obtain ⟨ad, rfl, hb, hf⟩ := h3 (fun e => by rw [e] at hx; cases hx)
  obtain ⟨cs, hv, hl, hc⟩ := hf j x hx
  obtain ⟨s, rfl, _, _, _, a2, c2, rfl, _⟩ := VR.iff.1 hv
  have hc' := hc.keep k hb
  refine ⟨ad, a2, c2, rfl, hv.keep k, hc' 0 _ rfl, ?_, ?_, ?_⟩
  · rw [← add_field _ _ 1 (by omega)]; exact hc' 1 _ rfl
  · rw [← add_field _ _ 2 (by omega)]; exact hc' 2 _ rfl
  · rw [← add_field _ _ 3 (by omega)]; exact hc' 3 _ rfl
abbrev StrR (s : ByteArray) (cs : List Value) : Prop := cs = [.string s] ∧ Fits s
abbrev Strs (w : World) (ok : Nat → Prop) (v : Value) (l : List ByteArray) : Prop := Sl 1 StrR w ok v l
abbrev Vals (w : World) (ok : Nat → Prop) (v : Value) (l : List V) : Prop := Sl 4 (VR w ok) w ok v l
theorem Vals.keep {w w' : World} {ok : Nat → Prop} {v : Value} {l : List V} (h : Vals w ok v l) (k : Keep ok w w') : Vals w' ok v l := Sl.keep h (fun _ _ _ h => h.keep k) k
theorem Vals.mono {w : World} {ok ok' : Nat → Prop} {v : Value} {l : List V} (h : Vals w ok v l) (k : ∀ k, k < w.heap.size → ok k → ok' k) : Vals w ok' v l := Sl.mono h (fun _ _ _ h => h.mono k) k (by decide)
theorem Strs.keep {w w' : World} {ok : Nat → Prop} {v : Value} {l : List ByteArray} (h : Strs w ok v l) (k : Keep ok w w') : Strs w' ok v l := Sl.keep h (fun _ _ _ h => h) k
theorem Strs.mono {w : World} {ok ok' : Nat → Prop} {v : Value} {l : List ByteArray} (h : Strs w ok v l) (k : ∀ k, k < w.heap.size → ok k → ok' k) : Strs w ok' v l := Sl.mono h (fun _ _ _ h => h) k (by decide)
/-- The i-th text of a slice. -/
theorem strs_at {w w' : World} {ok : Nat → Prop} {a : Option Addr} {n c : Nat} {l : List ByteArray} (h : Strs w ok (.slice a n c) l) (k : Keep ok w w') {j : Nat} {x : ByteArray} (hx : l[j]? = some x) :
    ∃ ad, a = some ad ∧ Fits x ∧ w'.cell? (ad.add j) = some (.string x) := by
  obtain ⟨a', c', e, h1, h2, h3⟩ := h
  cases e
  obtain ⟨ad, rfl, hb, hf⟩ := h3 (fun e => by rw [e] at hx; cases hx)
  obtain ⟨cs, ⟨rfl, hF⟩, _, hc⟩ := hf j x hx
  have := (hc.keep k hb) 0 _ rfl
  exact ⟨ad, rfl, hF, by simpa using this⟩
/-! what a value weighs -/
mutual
def V.w : V → Nat
  | ⟨_, _, _, l⟩ => V.ws l + 1
def V.ws : List V → Nat
  | [] => 0
  | x :: l => V.w x + V.ws l
end
theorem V.w_eq (v : V) : v.w = V.ws v.list + 1 := by cases v; rw [V.w]
theorem V.ws_get {l : List V} {j : Nat} {x : V} (h : l[j]? = some x) : x.w ≤ V.ws l := by
  induction l generalizing j with
  | nil => cases h
  | cons y l ih =>
    rw [V.ws]
    cases j with
    | zero => simp only [List.getElem?_cons_zero, Option.some.injEq] at h; subst h; omega
    | succ j => have := ih (by simpa using h); omega
theorem V.w_lt {v : V} {j : Nat} {x : V} (h : v.list[j]? = some x) : x.w < v.w := by rw [V.w_eq v]; have := V.ws_get h; omega

/-! a reply -/
structure Rp where
  kind : Int
  names : List ByteArray
  row : List V
  code : Int
  more : Bool
def RR (w : World) (ok : Nat → Prop) (r : Rp) (cs : List Value) : Prop :=
  ∃ s1 s2, cs = [.int .i64 r.kind, s1, s2, .int .i64 r.code, .bool r.more] ∧ I64 r.kind ∧ I64 r.code ∧ Strs w ok s1 r.names ∧ Vals w ok s2 r.row
theorem RR.keep {w w' : World} {ok : Nat → Prop} {r : Rp} {cs : List Value} (h : RR w ok r cs) (k : Keep ok w w') : RR w' ok r cs := by
  obtain ⟨s1, s2, rfl, h1, h2, h3, h4⟩ := h
  exact ⟨s1, s2, rfl, h1, h2, h3.keep k, h4.keep k⟩
theorem RR.mono {w : World} {ok ok' : Nat → Prop} {r : Rp} {cs : List Value} (h : RR w ok r cs) (k : ∀ k, k < w.heap.size → ok k → ok' k) : RR w ok' r cs := by
  obtain ⟨s1, s2, rfl, h1, h2, h3, h4⟩ := h
  exact ⟨s1, s2, rfl, h1, h2, h3.mono k, h4.mono k⟩
end Go.Proofs.YtjgnnobfaphkeaaDoor

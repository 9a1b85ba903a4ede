/- From the official reading to our rows: every datum that the harness lays reads as a row of ours. No condition. -/
import Derived.Test.YtlmonnhgjnjniaaMLawServerNew0
import Derived.Deep.Slices
/- From the official reading to our rows: every datum that the harness lays reads as a row of ours. No condition. -/
namespace Go.Proofs.Ytlmonnhgjnjniaa
open Go.RowKit
set_option linter.unusedVariables false
set_option maxRecDepth 20000
section
variable {H : Type} {enc : TypeId × Value → H} {W : World} {sp : Nat → Bool} {hd : Bool} {fuel : Nat} {t : TypeId} {cs : List Value} {x : DataW H × List MemPlace}

theorem open_int (ht : Try.prog.underlying t = some (.int .i64)) (h : DataW.trod enc Try.prog W 0 sp hd fuel t cs = some x) : ∃ n, cs = [.int .i64 n] ∧ I64 n := by
  obtain ⟨n, rfl, rfl, hw⟩ := DataW.trod_int ht h
  refine ⟨n, rfl, ?_⟩
  have hh : (-9223372036854775808 : Int) ≤ n ∧ n ≤ 9223372036854775807 := by
    have := hw
    simp only [Lit.wf, Bool.and_eq_true, decide_eq_true_eq] at this
    exact this
  exact hh
theorem open_bool (ht : Try.prog.underlying t = some .bool) (h : DataW.trod enc Try.prog W 0 sp hd fuel t cs = some x) : ∃ b, cs = [.bool b] := by
  obtain ⟨n, rfl, _⟩ := DataW.trod_bool ht h
  exact ⟨n, rfl⟩
theorem open_str (ht : Try.prog.underlying t = some .string) (h : DataW.trod enc Try.prog W 0 sp hd fuel t cs = some x) : ∃ s, StrR s cs := by
  obtain ⟨n, rfl, _, hw⟩ := DataW.trod_string ht h
  exact ⟨n, rfl, by simpa [maxLen, Fits] using hw⟩
/-- A slice, its elements by a rule that asks for less fuel. -/
theorem open_sl {α : Type} [Inhabited α] {sz : Nat} {R : α → List Value → Prop} {e : TypeId} (ht : Try.prog.underlying t = some (.slice e)) (hs : Try.prog.cellsOf e = sz)
    (hR : ∀ n cs x, n < fuel → DataW.trod enc Try.prog W 0 sp hd n e cs = some x → ∃ y, R y cs) (h : DataW.trod enc Try.prog W 0 sp hd fuel t cs = some x) : ∃ v l, cs = [v] ∧ Sl sz R W Any v l := by
  rcases DataW.trod_slice ht h with ⟨rfl, _⟩ | ⟨a, len, cap, elems, rest, n, rfl, rfl, rfl, hb, hl, hm, hlen, hel, _, _⟩
  · exact ⟨_, [], rfl, none, 0, rfl, by simp, by decide, fun h => absurd rfl h⟩
  have key : ∀ i, i < len → ∃ y cs', R y cs' ∧ cs'.length = sz ∧ Cells W a (i * sz) cs' := by
    intro i hi
    have hk := hel i hi
    rw [List.getElem?_eq_getElem (by omega)] at hk
    obtain ⟨cs', h1, h2⟩ := Option.bind_eq_some_iff.1 hk
    obtain ⟨y, hy⟩ := hR n cs' _ (by omega) h2
    obtain ⟨_, hl', hc⟩ := World.cells?_some h1
    rw [hs] at hl' hc
    refine ⟨y, cs', hy, hl', fun j u hu => ?_⟩
    have hj : j < cs'.length := by
      rcases Nat.lt_or_ge j cs'.length with h | h
      · exact h
      · rw [List.getElem?_eq_none h] at hu; cases hu
    have := hc j (by omega)
    rw [Go.Deep.add_add] at this
    rw [this]; exact hu
  obtain ⟨f, hf⟩ := Go.Deep.choose_lt (α := α) (p := fun i y => ∃ cs', R y cs' ∧ cs'.length = sz ∧ Cells W a (i * sz) cs') key
  refine ⟨_, (List.range len).map f, rfl, some a, cap, by simp, by simpa using hl, by simpa [maxLen] using hm, fun _ => ⟨a, rfl, trivial, fun j x hx => ?_⟩⟩
  have hj : j < len := by
    rcases Nat.lt_or_ge j len with h | h
    · exact h
    · rw [List.getElem?_eq_none (by simpa using h)] at hx; cases hx
  have : x = f j := by
    rw [List.getElem?_map, List.getElem?_range hj] at hx
    simpa using hx.symm
  subst this
  exact hf j hj
/-- A struct's fields: the i-th at its cells. -/
theorem open_fields {fs : Array Field} (ht : Try.prog.underlying t = some (.struct fs)) (h : DataW.trod enc Try.prog W 0 sp hd fuel t cs = some x) :
    cs.length = Try.prog.cellsOf t ∧ ∃ n, n < fuel ∧ ∀ (i : Nat) (f : Field), fs[i]? = some f → ∃ y, DataW.trod enc Try.prog W 0 sp hd n f.type ((cs.drop f.offset).take (Try.prog.cellsOf f.type)) = some y := by
  obtain ⟨xs, n, rfl, _, hl, hx, hf⟩ := DataW.trod_struct ht h
  refine ⟨hl, n, by omega, fun i f hi => ?_⟩
  have hi' : i < fs.size := by
    rcases Nat.lt_or_ge i fs.size with h | h
    · exact h
    · rw [Array.getElem?_eq_none h] at hi; cases hi
  refine ⟨xs[i]'(by omega), ?_⟩
  rw [hf i f hi, List.getElem?_eq_getElem (by omega)]
end
section
variable {H : Type} {enc : TypeId × Value → H} {W : World} {sp : Nat → Bool} {hd : Bool} {fuel : Nat} {cs : List Value} {x : DataW H × List MemPlace}
theorem open_strs (h : DataW.trod enc Try.prog W 0 sp hd fuel 22 cs = some x) : ∃ v l, cs = [v] ∧ Strs W Any v l :=
  haveI : Inhabited ByteArray := ⟨.empty⟩
  open_sl (e := 9) (by kernel_rfl) (by kernel_rfl) (fun n cs x _ h => open_str (t := 9) (by kernel_rfl) h) h
theorem field_at {fs : Array Field} {l : List (TypeId × Nat)} (h : fs.toList.map (fun f => (f.type, f.offset)) = l) {i : Nat} {t o : Nat} (hi : l[i]? = some (t, o)) : ∃ f, fs[i]? = some f ∧ f.type = t ∧ f.offset = o := by
  subst h
  rw [List.getElem?_map] at hi
  obtain ⟨f, hf, e⟩ := Option.map_eq_some_iff.1 hi
  exact ⟨f, by simpa using hf, congrArg Prod.fst e, congrArg Prod.snd e⟩
instance : Inhabited Ru := ⟨⟨.empty, .empty⟩⟩
theorem open_rule (h : DataW.trod enc Try.prog W 0 sp hd fuel 43 cs = some x) : ∃ r, RuR r cs := by
  obtain ⟨fs, ht, hfs⟩ : ∃ fs, Try.prog.underlying 43 = some (.struct fs) ∧ fs.toList.map (fun f => (f.type, f.offset)) = [(9, 0), (9, 1)] := ⟨_, Try.underlying43, by kernel_rfl⟩
  obtain ⟨hl, n, hn, hf⟩ := open_fields ht h
  have hc : Try.prog.cellsOf 43 = 2 := by kernel_rfl
  have hs : Try.prog.cellsOf 9 = 1 := by kernel_rfl
  rw [hc] at hl
  obtain ⟨a, b, rfl⟩ : ∃ a b, cs = [a, b] := by
    match cs, hl with
    | [a, b], _ => exact ⟨a, b, rfl⟩
  obtain ⟨f0, h0, e0, o0⟩ := field_at hfs (i := 0) rfl
  obtain ⟨f1, h1, e1, o1⟩ := field_at hfs (i := 1) rfl
  obtain ⟨y0, k0⟩ := hf 0 f0 h0
  obtain ⟨y1, k1⟩ := hf 1 f1 h1
  rw [e0, o0, hs] at k0
  rw [e1, o1, hs] at k1
  obtain ⟨s0, g0, q0⟩ := open_str (t := 9) (by kernel_rfl) k0
  obtain ⟨s1, g1, q1⟩ := open_str (t := 9) (by kernel_rfl) k1
  simp at g0 g1
  exact ⟨⟨s0, s1⟩, by rw [g0, g1], q0, q1⟩
theorem open_rules (h : DataW.trod enc Try.prog W 0 sp hd fuel 23 cs = some x) : ∃ v l, cs = [v] ∧ Rus W Any v l :=
  open_sl (e := 43) (by kernel_rfl) (by kernel_rfl) (fun n cs x _ h => open_rule h) h
end
end Go.Proofs.Ytlmonnhgjnjniaa

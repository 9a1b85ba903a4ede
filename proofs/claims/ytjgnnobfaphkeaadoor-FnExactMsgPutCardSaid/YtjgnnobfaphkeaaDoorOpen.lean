/- From the official reading to our rows: every datum that the harness lays reads as a row of ours. No condition. -/
import Derived.Test.YtjgnnobfaphkeaaDoorKind
import Derived.Test.YtjgnnobfaphkeaaDoorBase
import Derived.Deep.Slices
namespace Go.Proofs.YtjgnnobfaphkeaaDoor
open Go.RowKit
set_option linter.unusedVariables false
set_option maxRecDepth 20000
section
variable {H : Type} {enc : TypeId × Value → H} {W : World} {sp : Nat → Bool} {hd : Bool} {fuel : Nat} {t : TypeId} {cs : List Value} {x : DataW H × List MemPlace}

theorem open_int (ht : Tryd.prog.underlying t = some (.int .i64)) (h : DataW.trod enc Tryd.prog W 0 sp hd fuel t cs = some x) : ∃ n, cs = [.int .i64 n] ∧ I64 n := by
  obtain ⟨n, rfl, rfl, hw⟩ := DataW.trod_int ht h
  refine ⟨n, rfl, ?_⟩
  have hh : (-9223372036854775808 : Int) ≤ n ∧ n ≤ 9223372036854775807 := by
    have := hw
    simp only [Lit.wf, Bool.and_eq_true, decide_eq_true_eq] at this
    exact this
  exact hh
theorem open_bool (ht : Tryd.prog.underlying t = some .bool) (h : DataW.trod enc Tryd.prog W 0 sp hd fuel t cs = some x) : ∃ b, cs = [.bool b] := by
  obtain ⟨n, rfl, _⟩ := DataW.trod_bool ht h
  exact ⟨n, rfl⟩
theorem open_str (ht : Tryd.prog.underlying t = some .string) (h : DataW.trod enc Tryd.prog W 0 sp hd fuel t cs = some x) : ∃ s, StrR s cs := by
  obtain ⟨n, rfl, _, hw⟩ := DataW.trod_string ht h
  exact ⟨n, rfl, by simpa [maxLen, Fits] using hw⟩
/-- A slice, its elements by a rule that asks for less fuel. -/
theorem open_sl {α : Type} [Inhabited α] {sz : Nat} {R : α → List Value → Prop} {e : TypeId} (ht : Tryd.prog.underlying t = some (.slice e)) (hs : Tryd.prog.cellsOf e = sz)
    (hR : ∀ n cs x, n < fuel → DataW.trod enc Tryd.prog W 0 sp hd n e cs = some x → ∃ y, R y cs) (h : DataW.trod enc Tryd.prog W 0 sp hd fuel t cs = some x) : ∃ v l, cs = [v] ∧ Sl sz R W Any v l := by
  rcases DataW.trod_slice ht h with ⟨rfl, _⟩ | ⟨a, len, cap, elems, rest, n, rfl, rfl, rfl, hb, hl, hm, hlen, hel, _, _⟩
  · exact ⟨_, [], rfl, none, 0, rfl, by simp, by decide, fun h => absurd rfl h⟩
  have key : ∀ i, i < len → ∃ y cs', R y cs' ∧ cs'.length = sz ∧ Cells W a (i * sz) cs' := by
    intro i hi
    have hk := hel i hi
    rw [List.getElem?_eq_getElem (by omega)] at hk
    obtain ⟨cs', h1, h2⟩ := Option.bind_eq_some_iff.1 hk
    obtain ⟨y, hy⟩ := hR n cs' _ (by omega) h2
    obtain ⟨_, hl', hc⟩ := World.cells?_some h1
    rw [hs] at hl' hc
    refine ⟨y, cs', hy, hl', fun j u hu => ?_⟩
    have hj : j < cs'.length := by
      rcases Nat.lt_or_ge j cs'.length with h | h
      · exact h
      · rw [List.getElem?_eq_none h] at hu; cases hu
    have := hc j (by omega)
    rw [Go.Deep.add_add] at this
    rw [this]; exact hu
  obtain ⟨f, hf⟩ := Go.Deep.choose_lt (α := α) (p := fun i y => ∃ cs', R y cs' ∧ cs'.length = sz ∧ Cells W a (i * sz) cs') key
  refine ⟨_, (List.range len).map f, rfl, some a, cap, by simp, by simpa using hl, by simpa [maxLen] using hm, fun _ => ⟨a, rfl, trivial, fun j x hx => ?_⟩⟩
  have hj : j < len := by
    rcases Nat.lt_or_ge j len with h | h
    · exact h
    · rw [List.getElem?_eq_none (by simpa using h)] at hx; cases hx
  have : x = f j := by
    rw [List.getElem?_map, List.getElem?_range hj] at hx
    simpa using hx.symm
  subst this
  exact hf j hj
/-- A struct's fields: the i-th at its cells. -/
theorem open_fields {fs : Array Field} (ht : Tryd.prog.underlying t = some (.struct fs)) (h : DataW.trod enc Tryd.prog W 0 sp hd fuel t cs = some x) :
    cs.length = Tryd.prog.cellsOf t ∧ ∃ n, n < fuel ∧ ∀ (i : Nat) (f : Field), fs[i]? = some f → ∃ y, DataW.trod enc Tryd.prog W 0 sp hd n f.type ((cs.drop f.offset).take (Tryd.prog.cellsOf f.type)) = some y := by
  obtain ⟨xs, n, rfl, _, hl, hx, hf⟩ := DataW.trod_struct ht h
  refine ⟨hl, n, by omega, fun i f hi => ?_⟩
  have hi' : i < fs.size := by
    rcases Nat.lt_or_ge i fs.size with h | h
    · exact h
    · rw [Array.getElem?_eq_none h] at hi; cases hi
  refine ⟨xs[i]'(by omega), ?_⟩
  rw [hf i f hi, List.getElem?_eq_getElem (by omega)]
end
section
variable {H : Type} {enc : TypeId × Value → H} {W : World} {sp : Nat → Bool} {hd : Bool} {fuel : Nat} {cs : List Value} {x : DataW H × List MemPlace}
theorem open_strs (h : DataW.trod enc Tryd.prog W 0 sp hd fuel 24 cs = some x) : ∃ v l, cs = [v] ∧ Strs W Any v l :=
  haveI : Inhabited ByteArray := ⟨.empty⟩
  open_sl (e := 9) (by kernel_rfl) (by kernel_rfl) (fun n cs x _ h => open_str (t := 9) (by kernel_rfl) h) h
theorem field_at {fs : Array Field} {l : List (TypeId × Nat)} (h : fs.toList.map (fun f => (f.type, f.offset)) = l) {i : Nat} {t o : Nat} (hi : l[i]? = some (t, o)) : ∃ f, fs[i]? = some f ∧ f.type = t ∧ f.offset = o := by
  subst h
  rw [List.getElem?_map] at hi
  obtain ⟨f, hf, e⟩ := Option.map_eq_some_iff.1 hi
  exact ⟨f, by simpa using hf, congrArg Prod.fst e, congrArg Prod.snd e⟩
instance : Inhabited V := ⟨⟨0, 0, .empty, []⟩⟩
/-- A tree of values. -/
theorem open_val {t ts : TypeId} {fs : Array Field} (ht : Tryd.prog.underlying t = some (.struct fs)) (hc : Tryd.prog.cellsOf t = 4) (hs : Tryd.prog.underlying ts = some (.slice t)) {t0 t1 t2 : TypeId}
    (h0 : Tryd.prog.underlying t0 = some (.int .i64)) (h1 : Tryd.prog.underlying t1 = some (.int .i64)) (h2 : Tryd.prog.underlying t2 = some .string)
    (hcs : Tryd.prog.cellsOf t0 = 1 ∧ Tryd.prog.cellsOf t1 = 1 ∧ Tryd.prog.cellsOf t2 = 1 ∧ Tryd.prog.cellsOf ts = 1)
    (he : fs.toList.map (fun f => (f.type, f.offset)) = [(t0, 0), (t1, 1), (t2, 2), (ts, 3)]) :
    ∀ (fuel : Nat) (cs : List Value) (x : DataW H × List MemPlace), DataW.trod enc Tryd.prog W 0 sp hd fuel t cs = some x → ∃ v : V, VR W Any v cs := by
  intro fuel
  induction fuel using Nat.strongRecOn with
  | ind fuel ih =>
  intro cs x h
  obtain ⟨hl, n, hn, hf⟩ := open_fields ht h
  rw [hc] at hl
  match cs, hl with
  | [c0, c1, c2, c3], _ =>
  obtain ⟨f0, g0, rfl, o0⟩ := field_at (i := 0) he rfl
  obtain ⟨f1, g1, rfl, o1⟩ := field_at (i := 1) he rfl
  obtain ⟨f2, g2, rfl, o2⟩ := field_at (i := 2) he rfl
  obtain ⟨f3, g3, rfl, o3⟩ := field_at (i := 3) he rfl
  obtain ⟨k0, k1, k2, k3⟩ := hcs
  obtain ⟨y0, q0⟩ := hf 0 f0 g0
  obtain ⟨y1, q1⟩ := hf 1 f1 g1
  obtain ⟨y2, q2⟩ := hf 2 f2 g2
  obtain ⟨y3, q3⟩ := hf 3 f3 g3
  rw [o0, k0] at q0; rw [o1, k1] at q1; rw [o2, k2] at q2; rw [o3, k3] at q3
  obtain ⟨n0, r0, b0⟩ := open_int h0 q0
  obtain ⟨n1, r1, b1⟩ := open_int h1 q1
  obtain ⟨n2, r2, b2⟩ := open_str h2 q2
  obtain ⟨v3, l, r3, b3⟩ := open_sl (α := V) (R := VR W Any) hs hc (fun m cs x hm h => ih m (by omega) cs x h) q3
  refine ⟨⟨n0, n1, n2, l⟩, VR.iff.2 ⟨v3, ?_, b0, b1, b2, b3⟩⟩
  simp only [List.drop, List.take, List.cons.injEq, and_true] at r0 r1 r2 r3
  subst r0 r1 r2 r3
  rfl
theorem open_valT (h : DataW.trod enc Tryd.prog W 0 sp hd fuel 90 cs = some x) : ∃ v : V, VR W Any v cs :=
  open_val (ts := 25) (t0 := 3) (t1 := 3) (t2 := 9) Tryd.underlying90 (by kernel_rfl) (by kernel_rfl) (by kernel_rfl) (by kernel_rfl) (by kernel_rfl) ⟨by kernel_rfl, by kernel_rfl, by kernel_rfl, by kernel_rfl⟩
    (by kernel_rfl) fuel cs x h
theorem open_valsT (h : DataW.trod enc Tryd.prog W 0 sp hd fuel 25 cs = some x) : ∃ v l, cs = [v] ∧ Vals W Any v l :=
  open_sl (e := 90) (by kernel_rfl) (by kernel_rfl) (fun n cs x _ h => open_valT h) h
theorem open_reply (h : DataW.trod enc Tryd.prog W 0 sp hd fuel 27 cs = some x) : ∃ r : Rp, RR W Any r cs := by
  obtain ⟨hl, n, hn, hf⟩ := open_fields Tryd.underlying27 h
  replace hl : cs.length = 5 := hl
  match cs, hl with
  | [c0, c1, c2, c3, c4], _ =>
  obtain ⟨y0, q0⟩ := hf 0 _ rfl
  obtain ⟨y1, q1⟩ := hf 1 _ rfl
  obtain ⟨y2, q2⟩ := hf 2 _ rfl
  obtain ⟨y3, q3⟩ := hf 3 _ rfl
  obtain ⟨y4, q4⟩ := hf 4 _ rfl
  obtain ⟨n0, r0, b0⟩ := open_int (cs := [c0]) (by kernel_rfl) q0
  obtain ⟨v1, l1, r1, b1⟩ := open_strs (cs := [c1]) q1
  obtain ⟨v2, l2, r2, b2⟩ := open_valsT (cs := [c2]) q2
  obtain ⟨n3, r3, b3⟩ := open_int (cs := [c3]) (by kernel_rfl) q3
  obtain ⟨n4, r4⟩ := open_bool (cs := [c4]) (by kernel_rfl) q4
  simp only [List.cons.injEq, and_true] at r0 r1 r2 r3 r4
  subst r0 r1 r2 r3 r4
  exact ⟨⟨n0, l1, l2, n3, n4⟩, _, _, rfl, b0, b3, b1, b2⟩
theorem open_agg {r : Reach} {b0 : Nat} {t : TypeId} {fs : Array Field} {v : Value} (ht : Tryd.prog.underlying t = some (.struct fs)) (hv : Value.okWide Tryd.prog W r b0 t v) : ∃ cs : List Value, v = .agg cs.toArray := by
  obtain ⟨cs, rfl, _⟩ := Go.WideShapes.okWide_struct ht hv
  exact ⟨cs.toList, by simp⟩
end
end Go.Proofs.YtjgnnobfaphkeaaDoor

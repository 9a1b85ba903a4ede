/- Texts and values in new memory: the laws' own copies. At most 2^20 of each. -/
import Derived.Test.YtjgnnobfaphkeaaDoorFill
import Derived.Test.YtjgnnobfaphkeaaDoorSz
namespace Go.Proofs.YtjgnnobfaphkeaaDoor
open Go.RowKit
set_option linter.unusedVariables false
set_option linter.unusedSimpArgs false

abbrev From (n : Nat) (k : Nat) : Prop := n ≤ k
def GotStrs (l : List ByteArray) (w : World) (e : Ending) (w' : World) : Prop := ∃ a c, e = .returned (.slice a l.length c) ∧ Strs w' (From w.heap.size) (.slice a l.length c) l ∧ Keep Any w w'
theorem infoStr : (Tryd.prog.info? 9).map (fun i => (i.zero, i.size, i.bytes)) = some (some (.string ⟨#[]⟩), 1, 16) := by kernel_rfl
theorem toStrs_calls (l : List ByteArray) (s : Value) (w : World) (hs : Strs w Any s l) (hl : l.length ≤ 1048576) :
    Calls Tryd.prog 29 #[s] w (GotStrs l w) := by
  have HS := Lib.hid hs
  obtain ⟨ad, c, rfl, hc, hm, _⟩ := hs
  have hmk := make_run (P := Tryd.prog) 24 9 _ 1 16 Tryd.underlying24 infoStr l.length (by omega) (by omega)
  go_enter Tryd.func29, Tryd.ntmps29
  go_wp2
  go_loopg [4] (l.length + 1) (fun g i wr => ∃ k : Nat, k ≤ l.length ∧ i = .int .i64 k ∧ g = l.length + 1 - k ∧ Fill 1 StrR wr w.heap.size 9 l.length l k ∧ Keep Any w wr)
  case atStart => exact ⟨0, by omega, rfl, rfl, by simpa using Fill.made (sz := 1) w _, (Keep.refl _ _).alloc _⟩
  case round =>
    obtain ⟨k, hk, rfl, hg, hF, hK⟩ := hrel
    have HG := Lib.hid hg
    clear hg
    by_cases hlt : k < l.length
    · have hx : l[k]? = some l[k] := List.getElem?_eq_getElem hlt
      have HX := Lib.hid hx
      obtain ⟨ad, rfl, hB, c0⟩ := strs_at HS.out hK hx
      generalize l[k] = x at *
      have hF' := hF
      have HF := Lib.hid hF
      obtain ⟨cur, hb, hsz, _⟩ := hF'
      obtain ⟨v0, c1⟩ : ∃ v, wr.cell? ⟨w.heap.size, k, none⟩ = some v := ⟨_, (blk_cell hb k).trans (Array.getElem?_eq_getElem (show k < cur.size by omega))⟩
      have f1 := blk_frozen hb k
      clear hx hb hF hsz
      go_wp2
      go_roundg (gk - 1)
      case rel => exact ⟨k + 1, by omega, by go_num, by have := HG.out; omega, HF.out.snoc (fun _ _ h => h) HX.out ⟨rfl, hB⟩ rfl fun cur hb hs => ⟨_, blk_set hb k _, by simp, fun i hi => by rw [Array.getElem?_setIfInBounds_ne (by omega)], fun i u hu => by
        obtain ⟨rfl, rfl⟩ : i = 0 ∧ .string x = u := by cases i with | zero => exact ⟨rfl, by simpa using hu⟩ | succ i => simp at hu
        rw [show k * 1 + 0 = k by omega, Array.getElem?_setIfInBounds_self_of_lt (by omega)]⟩, hK.set _ _ (fun h => by have : w.heap.size < w.heap.size := h; omega)⟩
      case measure => have := HG.out; omega
    · obtain rfl : k = l.length := by omega
      have HF := Lib.hid hF
      clear hF
      go_wp2
      go_ret
      exact ⟨_, _, rfl, HF.out.slice (by omega) (Nat.le_refl _), hK⟩

theorem keep_sets' (w : World) (g o : Nat) (a b c d : Value) : Keep (But g) w ((((w.setCell ⟨g, o, none⟩ a).setCell ⟨g, o + 1, none⟩ b).setCell ⟨g, o + 2, none⟩ c).setCell ⟨g, o + 3, none⟩ d) :=
  ((((Keep.refl _ _).set _ _ fun _ h => h rfl).set _ _ fun _ h => h rfl).set _ _ fun _ h => h rfl).set _ _ fun _ h => h rfl
theorem keep_sets (w : World) (g o : Nat) (a b c d : Value) : Keep (From (g + 1)) w ((((w.setCell ⟨g, o, none⟩ a).setCell ⟨g, o + 1, none⟩ b).setCell ⟨g, o + 2, none⟩ c).setCell ⟨g, o + 3, none⟩ d) :=
  (keep_sets' w g o a b c d).mono fun k _ h => by have h : g + 1 ≤ k := h; show k ≠ g; omega
theorem sets4 {w : World} {g k : Nat} {T : TypeId} {cur : Array Value} {a b c d : Value} (hb : w.heap[g]? = some (.cells cur T (0, 0))) (hn : k * 4 + 3 < cur.size) :
    ∃ cur', ((((w.setCell ⟨g, k * 4, none⟩ a).setCell ⟨g, k * 4 + 1, none⟩ b).setCell ⟨g, k * 4 + 2, none⟩ c).setCell ⟨g, k * 4 + 3, none⟩ d).heap[g]? = some (.cells cur' T (0, 0)) ∧ cur'.size = cur.size ∧ (∀ i, i < k * 4 → cur'[i]? = cur[i]?) ∧ ∀ i u, [a, b, c, d][i]? = some u → cur'[k * 4 + i]? = some u := by
  refine ⟨_, blk_set (blk_set (blk_set (blk_set hb _ _) _ _) _ _) _ _, by simp, fun i hi => ?_, fun i u hu => ?_⟩
  · rw [Array.getElem?_setIfInBounds_ne (by omega), Array.getElem?_setIfInBounds_ne (by omega), Array.getElem?_setIfInBounds_ne (by omega), Array.getElem?_setIfInBounds_ne (by omega)]
  · rcases i with _ | _ | _ | _ | i
    · simp at hu; subst hu
      rw [Array.getElem?_setIfInBounds_ne (by omega), Array.getElem?_setIfInBounds_ne (by omega), Array.getElem?_setIfInBounds_ne (by omega)]
      exact Array.getElem?_setIfInBounds_self_of_lt (by omega)
    · simp at hu; subst hu
      rw [Array.getElem?_setIfInBounds_ne (by omega), Array.getElem?_setIfInBounds_ne (by omega)]
      exact Array.getElem?_setIfInBounds_self_of_lt (by simp; omega)
    · simp at hu; subst hu
      rw [Array.getElem?_setIfInBounds_ne (by omega)]
      exact Array.getElem?_setIfInBounds_self_of_lt (by simp; omega)
    · simp at hu; subst hu
      exact Array.getElem?_setIfInBounds_self_of_lt (by simp; omega)
    · simp at hu
theorem Vals.of_sl {R : V → List Value → Prop} {w : World} {ok : Nat → Prop} {v : Value} {l : List V} (h : Sl 4 R w ok v l) (hR : ∀ x cs, R x cs → VR w ok x cs) : Vals w ok v l := Sl.mono h (fun x cs _ h => hR x cs h) (fun _ _ h => h) (by decide)
def GotVal (v : V) (w : World) (e : Ending) (w' : World) : Prop := ∃ a c, e = .returned (.agg #[.int .i64 v.kind, .int .i64 v.num, .string v.text, .slice a v.list.length c]) ∧ VR w' (From w.heap.size) v [.int .i64 v.kind, .int .i64 v.num, .string v.text, .slice a v.list.length c] ∧ Keep Any w w'
def GotVals (l : List V) (w : World) (e : Ending) (w' : World) : Prop := ∃ a c, e = .returned (.slice a l.length c) ∧ Vals w' (From w.heap.size) (.slice a l.length c) l ∧ Keep Any w w'
def ToVals (l : List V) : Prop := ∀ (s : Value) (w : World), Vals w Any s l → V.szs l + l.length ≤ 1048576 → Calls Tryd.prog 30 #[s] w (GotVals l w)
def ToVal (v : V) : Prop := ∀ (cs : List Value) (w : World), VR w Any v cs → v.sz ≤ 1048576 → Calls Tryd.prog 58 #[.agg cs.toArray] w (GotVal v w)
theorem infoVal : (Tryd.prog.info? 72).map (fun i => (i.zero, i.size, i.bytes)) = some (some (.agg #[.int .i64 0, .int .i64 0, .string ⟨#[]⟩, .slice none 0 0]), 4, 56) := by kernel_rfl
theorem toVal_of (v : V) (ih : ToVals v.list) : ToVal v := by
  intro cs w hv hz
  have hsz := V.sz_eq v
  obtain ⟨s, rfl, h1, h2, h3, hs⟩ := VR.iff.1 hv
  have HS := Lib.hid hs
  have IH := Lib.hid ih
  have hb : V.szs v.list + v.list.length ≤ 1048576 := by omega
  clear hs ih hv hsz
  go_enter Tryd.func58, Tryd.ntmps58
  go_wp2_with (go_at_call 30; refine (IH.out _ _ (Vals.keep HS.out ((((Keep.refl _ _).alloc _).alloc _).alloc _)) hb).mono ?_; rintro e w2 ⟨a2, c2, rfl, hs2, hK⟩; obtain ⟨hc, hf⟩ := hK.cells)
  refine bodyPost_ret (v := .agg #[.int .i64 v.kind, .int .i64 v.num, .string v.text, .slice a2 v.list.length c2]) (by simp [results, Tryd.results58, go_sem, hc, hf]) rfl ⟨a2, c2, rfl, ?_, ?_⟩
  · refine VR.iff.2 ⟨_, rfl, h1, h2, h3, Vals.mono (Vals.keep hs2 (w' := _) ?_) fun j _ hj => ?_⟩
    · repeat (first | (with_reducible exact Keep.refl _ _) | (refine Keep.set ?_ _ _ (fun _ h => by simp [From] at h; omega)))
    · simp only [From, World.size_alloc] at hj ⊢; omega
  · have hK1 := Keep.trans ((((Keep.refl Any w).alloc _).alloc _).alloc _) hK
    repeat (first | (with_reducible exact hK1) | (refine Keep.set ?_ _ _ (fun h _ => by simp at h; omega)))
theorem toVals_of (l : List V) (ih : ∀ x, x ∈ l → ToVal x) : ToVals l := by
  intro s w hs hz
  have HS := Lib.hid hs
  have IH := Lib.hid ih
  clear ih
  obtain ⟨ad, c, rfl, hc, hm, _⟩ := hs
  have hmk := make_run (P := Tryd.prog) 30 72 _ 4 56 Tryd.underlying30 infoVal l.length (by omega) (by omega)
  go_enter Tryd.func30, Tryd.ntmps30
  go_wp2
  go_loopg [4] (l.length + 1) (fun g i wr => ∃ k : Nat, k ≤ l.length ∧ i = .int .i64 k ∧ g = l.length + 1 - k ∧ Fill 4 (VR wr (From (w.heap.size + 1))) wr w.heap.size 72 l.length l k ∧ Keep Any w wr)
  case atStart => exact ⟨0, by omega, rfl, rfl, Fill.made (sz := 4) w _, (Keep.refl _ _).alloc _⟩
  case round =>
    obtain ⟨k, hk, rfl, hg, hF, hK⟩ := hrel
    have HG := Lib.hid hg
    clear hg
    by_cases hlt : k < l.length
    · have hx : l[k]? = some l[k] := List.getElem?_eq_getElem hlt
      have hq := (sums_drop V.sz l k _ hx).2
      have hz2 := hz
      rw [V.szs_sum] at hz2
      obtain ⟨ad, sa, sc, rfl, hvx, c0, c1, c2, c3⟩ := vals_at HS.out hK hx
      have IX := Lib.hid (IH.out _ (List.mem_of_getElem? hx))
      generalize l[k] = x at *
      have HX := Lib.hid hx
      have HV := Lib.hid hvx
      have HF := Lib.hid hF
      have hxz : x.sz ≤ 1048576 := by omega
      clear hx hF hvx hq hz2
      go_wp2_with (go_at_call 58; refine (IX.out _ _ HV.out hxz).mono ?_; rintro e w2 ⟨a2, c2', rfl, hcs, hK2⟩; obtain ⟨y0, d0⟩ := HF.out.cell hK2 trivial (k * 4) (by omega); obtain ⟨y1, d1⟩ := HF.out.cell hK2 trivial (k * 4 + 1) (by omega); obtain ⟨y2, d2⟩ := HF.out.cell hK2 trivial (k * 4 + 2) (by omega); obtain ⟨y3, d3⟩ := HF.out.cell hK2 trivial (k * 4 + 3) (by omega); have f0 := HF.out.free hK2 trivial (k * 4); have f1 := HF.out.free hK2 trivial (k * 4 + 1); have f2 := HF.out.free hK2 trivial (k * 4 + 2); have f3 := HF.out.free hK2 trivial (k * 4 + 3))
      go_roundg (gk - 1)
      case rel => exact ⟨k + 1, by omega, by go_num, by have := HG.out; omega, by
        have hsz := hK.size
        refine Fill.snoc (cs := [.int .i64 x.kind, .int .i64 x.num, .string x.text, .slice a2 x.list.length c2']) HF.out (fun y cs h => ?_) HX.out ?_ rfl fun cur hb hs => ?_
        · exact (h.keep (hK2.any)).keep (keep_sets _ _ _ _ _ _ _)
        · refine (hcs.mono fun j _ hj => ?_).keep (keep_sets _ _ _ _ _ _ _)
          have hj : wr.heap.size ≤ j := hj
          have := HF.out.lt
          show w.heap.size + 1 ≤ j
          omega
        · exact sets4 (blk_keep hK2 hb trivial) (by omega), by
        have hsz := hK.size
        exact ((hK.trans hK2).then (keep_sets' _ _ _ _ _ _ _) fun i hi _ => by show i ≠ w.heap.size; omega)⟩
      case measure => have := HG.out; omega
    · obtain rfl : k = l.length := by omega
      have HF := Lib.hid hF
      clear hF
      go_wp2
      go_ret
      exact ⟨_, _, rfl, Vals.of_sl (HF.out.slice (by omega) (Nat.le_refl _)) fun _ _ h => h.mono fun j _ hj => by have hj : w.heap.size + 1 ≤ j := hj; show w.heap.size ≤ j; omega, hK⟩
theorem toVal_all (n : Nat) : ∀ v : V, v.w = n → ToVal v := by
  induction n using Nat.strongRecOn with
  | _ n ih => exact fun v hv => toVal_of v (toVals_of _ fun x hx => by
      obtain ⟨j, hj, rfl⟩ := List.getElem_of_mem hx
      exact ih _ (hv ▸ V.w_lt (List.getElem?_eq_getElem hj)) _ rfl)
theorem toVals_calls (l : List V) : ToVals l := toVals_of l fun x _ => toVal_all x.w x rfl
end Go.Proofs.YtjgnnobfaphkeaaDoor

/- The laws' own measure, copy and comparison of what is said. A number in decimals: the reference's l1Dec writes what strconv.Itoa writes. For every int. A value's text, as a plain function; how long it is. For every value. -/
import Derived.Test.YtjgnnobfaphkeaaDoorMLawMsgGet1
import Derived.Test.YtjgnnobfaphkeaaDoorMLawMsgGet0
import Derived.Lib.ItoaNum
import Derived.Lib.ItoaLen
import Derived.Lib.ConvBytes
import Derived.Lib.Join
/- The laws' own measure, copy and comparison of what is said. -/
namespace Go.Proofs.YtjgnnobfaphkeaaDoor
open Go.RowKit
set_option linter.unusedVariables false
set_option linter.unusedSimpArgs false

def Ce.sz (c : Ce) : Nat := c.name.size + c.val.sz
def szCes (l : List Ce) : Nat := (l.map Ce.sz).sum + l.length
def Ms.sz (m : Ms) : Nat := m.text.size + szCes m.given
theorem szCell_calls (x : Ce) (cs : List Value) (a : Int) (w : World) (hx : CeR w Any x cs) (h0 : 0 ≤ a) (h1 : a ≤ 1048576) :
    Calls Tryd.prog 63 #[.agg cs.toArray, .int .i64 a] w (Left a x.sz w) := by
  obtain ⟨sa, sc, rfl, hv⟩ := hx.cells
  have hF : Fits x.name := by obtain ⟨_, _, h, _⟩ := hx; exact h
  have IV := Lib.hid (szVal_all x.val.w x.val rfl)
  have HV := Lib.hid hv
  obtain ⟨n, hn⟩ : ∃ n, n = x.name.size := ⟨_, rfl⟩
  obtain ⟨m, hm⟩ : ∃ m, m = x.val.sz := ⟨_, rfl⟩
  have HZ := Lib.hid (show x.sz = n + m by rw [hn, hm]; rfl)
  have HM := Lib.hid hm
  unfold Fits at hF
  clear hx hv hm
  by_cases hl : a < (n : Int)
  · have hl' : a < (x.name.size : Int) := by rw [← hn]; exact hl
    have HR := Lib.hid (show left a x.sz = -1 from left_no (by rw [HZ.out]; omega))
    clear hn
    go_enter Tryd.func63, Tryd.ntmps63
    go_wp2
    go_ret
    exact ⟨ret_int HR.out.symm, by repeat (first | exact Keep.refl _ _ | apply Keep.drewN | apply Keep.drew | apply Keep.alloc)⟩
  · subst hn
    by_cases hq : a - x.name.size < (m : Int)
    · have HR := Lib.hid (show left a x.sz = -1 from left_no (by rw [HZ.out]; omega))
      have HL := Lib.hid (show left (a - x.name.size) m = -1 from left_no hq)
      go_enter Tryd.func63, Tryd.ntmps63
      go_wp2_with (go_at_call 54; refine (IV.out _ _ _ (HV.out.keep ((Keep.refl _ _).alloc _)) (by omega) (by omega)).mono ?_; rintro e w2 ⟨rfl, hK⟩; rw [← HM.out, HL.out])
      go_ret
      exact ⟨ret_int HR.out.symm, ((Keep.refl _ _).alloc _).trans hK⟩
    · have HR := Lib.hid (show left a x.sz = a - x.name.size - (m : Int) by rw [left_yes (by rw [HZ.out]; omega), HZ.out]; omega)
      have HL := Lib.hid (show left (a - x.name.size) m = a - x.name.size - (m : Int) from left_yes (by omega))
      have hn' : (m : Int) ≤ a - x.name.size := by omega
      go_enter Tryd.func63, Tryd.ntmps63
      go_wp2_with (go_at_call 54; refine (IV.out _ _ _ (HV.out.keep ((Keep.refl _ _).alloc _)) (by omega) (by omega)).mono ?_; rintro e w2 ⟨rfl, hK⟩; rw [← HM.out, HL.out])
      go_ret
      exact ⟨ret_int HR.out.symm, ((Keep.refl _ _).alloc _).trans hK⟩
theorem szCells_calls (l : List Ce) (s : Value) (a : Int) (w : World) (hs : Ces w Any s l) (h0 : 0 ≤ a) (h1 : a ≤ 1048576) :
    Calls Tryd.prog 35 #[s, .int .i64 a] w (Left a (szCes l) w) := by
  have HS := Lib.hid hs
  have IH := Lib.hid szCell_calls
  obtain ⟨ad, c, rfl, hc, hm, _⟩ := hs
  by_cases hl : a < (l.length : Int)
  · have hr : left a (szCes l) = -1 := left_no (by unfold szCes; omega)
    have HR := Lib.hid hr
    clear hr
    go_enter Tryd.func35, Tryd.ntmps35
    go_wp2
    go_ret
    exact ⟨ret_int HR.out.symm, Keep.refl _ _⟩
  · go_enter Tryd.func35, Tryd.ntmps35
    go_wp2
    go_loopg [1, 5] (l.length + 1) (fun g v i wr => ∃ k m : Nat, k ≤ l.length ∧ i = .int .i64 k ∧ g = l.length + 1 - k ∧ m = ((l.take k).map Ce.sz).sum ∧ v = .int .i64 (a - l.length - m) ∧ (m : Int) ≤ a - l.length ∧ Keep Any w wr)
    case atStart => exact ⟨0, 0, by omega, rfl, rfl, by simp, by simp, by omega, Keep.refl _ _⟩
    case round =>
      obtain ⟨k, m, hk, rfl, hg, hM, rfl, hb, hK⟩ := hrel
      have HG := Lib.hid hg
      have HM := Lib.hid hM
      clear hg hM
      by_cases hlt : k < l.length
      · have hx : l[k]? = some l[k] := List.getElem?_eq_getElem hlt
        have hq := sums_drop Ce.sz l k _ hx
        obtain ⟨ad, sa, sc, rfl, hF, hvx, c0, c1, c2, c3, c4⟩ := ces_at HS.out hK hx
        generalize l[k] = x at *
        have HQ := Lib.hid hq
        have HV := Lib.hid (show CeR wr Any x _ from ⟨_, rfl, hF, hvx⟩)
        clear hx hq hvx
        by_cases hz : a - l.length - m < (x.sz : Int)
        · have hr : left a (szCes l) = -1 := left_no (by have := HQ.out.2; have := HM.out; unfold szCes; omega)
          have HR := Lib.hid hr
          have hl2 : left (a - l.length - m) x.sz = -1 := left_no hz
          have HL := Lib.hid hl2
          clear hr hl2
          go_wp2_with (go_at_call 63; refine (IH.out _ _ _ _ HV.out (by omega) (by omega)).mono ?_; rintro e w2 ⟨rfl, hK2⟩; rw [HL.out])
          go_ret
          exact ⟨ret_int HR.out.symm, hK.trans hK2⟩
        · have hl2 : left (a - l.length - m) x.sz = a - l.length - m - x.sz := left_yes (by omega)
          have HL := Lib.hid hl2
          clear hl2
          go_wp2_with (go_at_call 63; refine (IH.out _ _ _ _ HV.out (by omega) (by omega)).mono ?_; rintro e w2 ⟨rfl, hK2⟩; rw [HL.out])
          go_roundg (gk - 1)
          case rel => exact ⟨k + 1, m + x.sz, by omega, by go_num, by have := HG.out; omega, by rw [HQ.out.1, HM.out], by congr 1; omega, by omega, hK.trans hK2⟩
          case measure => have := HG.out; omega
      · have hr : left a (szCes l) = a - l.length - m := by
          have e := HM.out
          rw [List.take_of_length_le (by omega)] at e
          rw [left_yes (by unfold szCes; omega)]; unfold szCes; omega
        have HR := Lib.hid hr
        clear hr
        go_wp2
        go_ret
        exact ⟨ret_int HR.out.symm, hK⟩
theorem szMsg_calls (x : Ms) (cs : List Value) (w : World) (hx : MR w Any x cs) :
    Calls Tryd.prog 14 #[.agg cs.toArray, .int .i64 1048576] w (Left 1048576 x.sz w) := by
  obtain ⟨s, rfl, h1, h2, h3, h4⟩ := hx
  have IV := Lib.hid (szCells_calls x.given)
  have HV := Lib.hid h4
  obtain ⟨n, hn⟩ : ∃ n, n = x.text.size := ⟨_, rfl⟩
  obtain ⟨m, hm⟩ : ∃ m, m = szCes x.given := ⟨_, rfl⟩
  have HZ := Lib.hid (show x.sz = n + m by rw [hn, hm]; rfl)
  have HM := Lib.hid hm
  unfold Fits at h3
  clear h4 hm
  by_cases hl : (1048576 : Int) < (n : Int)
  · have hl' : (1048576 : Int) < (x.text.size : Int) := by rw [← hn]; exact hl
    have HR := Lib.hid (show left 1048576 x.sz = -1 from left_no (by rw [HZ.out]; omega))
    clear hn
    go_enter Tryd.func14, Tryd.ntmps14
    go_wp2
    go_ret
    exact ⟨ret_int HR.out.symm, by repeat (first | exact Keep.refl _ _ | apply Keep.drewN | apply Keep.drew | apply Keep.alloc)⟩
  · subst hn
    by_cases hq : (1048576 : Int) - x.text.size < (m : Int)
    · have HR := Lib.hid (show left 1048576 x.sz = -1 from left_no (by rw [HZ.out]; omega))
      have HL := Lib.hid (show left (1048576 - x.text.size) m = -1 from left_no hq)
      go_enter Tryd.func14, Tryd.ntmps14
      go_wp2_with (go_at_call 35; refine (IV.out _ _ _ (Ces.keep HV.out ((Keep.refl _ _).alloc _)) (by omega) (by omega)).mono ?_; rintro e w2 ⟨rfl, hK⟩; rw [← HM.out, HL.out])
      go_ret
      exact ⟨ret_int HR.out.symm, ((Keep.refl _ _).alloc _).trans hK⟩
    · have HR := Lib.hid (show left 1048576 x.sz = 1048576 - x.text.size - (m : Int) by rw [left_yes (by rw [HZ.out]; omega), HZ.out]; omega)
      have HL := Lib.hid (show left (1048576 - x.text.size) m = 1048576 - x.text.size - (m : Int) from left_yes (by omega))
      have hn' : (m : Int) ≤ 1048576 - x.text.size := by omega
      go_enter Tryd.func14, Tryd.ntmps14
      go_wp2_with (go_at_call 35; refine (IV.out _ _ _ (Ces.keep HV.out ((Keep.refl _ _).alloc _)) (by omega) (by omega)).mono ?_; rintro e w2 ⟨rfl, hK⟩; rw [← HM.out, HL.out])
      go_ret
      exact ⟨ret_int HR.out.symm, ((Keep.refl _ _).alloc _).trans hK⟩

/-! copies -/
abbrev ceCells (x : Ce) (a : Option Addr) (c : Nat) : List Value := [.string x.name, .int .i64 x.val.kind, .int .i64 x.val.num, .string x.val.text, .slice a x.val.list.length c]
def GotCe (x : Ce) (w : World) (e : Ending) (w' : World) : Prop := ∃ a c, e = .returned (.agg #[.string x.name, .int .i64 x.val.kind, .int .i64 x.val.num, .string x.val.text, .slice a x.val.list.length c]) ∧ CeR w' (From w.heap.size) x (ceCells x a c) ∧ Keep Any w w'
def GotCes (l : List Ce) (w : World) (e : Ending) (w' : World) : Prop := ∃ a c, e = .returned (.slice a l.length c) ∧ Ces w' (From w.heap.size) (.slice a l.length c) l ∧ Keep Any w w'
theorem toCell_calls (x : Ce) (cs : List Value) (w : World) (hx : CeR w Any x cs) (hz : x.sz ≤ 1048576) :
    Calls Tryd.prog 66 #[.agg cs.toArray] w (GotCe x w) := by
  obtain ⟨sa, sc, rfl, hv⟩ := hx.cells
  have hF : Fits x.name := by obtain ⟨_, _, h, _⟩ := hx; exact h
  have IV := Lib.hid (toVal_all x.val.w x.val rfl)
  have HV := Lib.hid hv
  have hb : x.val.sz ≤ 1048576 := by unfold Ce.sz at hz; omega
  clear hx hv hz
  go_enter Tryd.func66, Tryd.ntmps66
  go_wp2_with (go_at_call 58; refine (IV.out _ _ (HV.out.keep ((((Keep.refl _ _).alloc _).alloc _).alloc _)) hb).mono ?_; rintro e w2 ⟨a2, c2, rfl, hs2, hK⟩; obtain ⟨hc, hf⟩ := hK.cells; have z0 : w.heap.size < w2.heap.size := (by have := hK.size; simp at this; omega); have z4 : w.heap.size + 1 < w2.heap.size := (by have := hK.size; simp at this; omega); have z5 : w.heap.size + 1 + 1 < w2.heap.size := (by have := hK.size; simp at this; omega))
  refine bodyPost_ret (v := .agg #[.string x.name, .int .i64 x.val.kind, .int .i64 x.val.num, .string x.val.text, .slice a2 x.val.list.length c2]) (by simp [results, Tryd.results66, go_sem, hc, hf, z0, z4, z5]) rfl ⟨a2, c2, rfl, ⟨_, rfl, hF, ?_⟩, ?_⟩
  all_goals go_light
  · refine (hs2.keep (w' := _) ?_).mono fun j _ hj => ?_
    · repeat (first | (with_reducible exact Keep.refl _ _) | (refine Keep.set ?_ _ _ (fun _ h => by simp [From] at h; omega)))
    · simp only [From, World.size_alloc, World.size_setCell] at hj ⊢; omega
  · have hK1 := Keep.trans ((((Keep.refl Any w).alloc _).alloc _).alloc _) hK
    repeat (first | (with_reducible exact hK1) | (refine Keep.set ?_ _ _ (fun h _ => by simp at h; omega)))
theorem sets5 {w : World} {g k : Nat} {T : TypeId} {cur : Array Value} {a b c d f : Value} (hb : w.heap[g]? = some (.cells cur T (0, 0))) (hn : k * 5 + 4 < cur.size) :
    ∃ cur', (((((w.setCell ⟨g, k * 5, none⟩ a).setCell ⟨g, k * 5 + 1, none⟩ b).setCell ⟨g, k * 5 + 2, none⟩ c).setCell ⟨g, k * 5 + 3, none⟩ d).setCell ⟨g, k * 5 + 4, none⟩ f).heap[g]? = some (.cells cur' T (0, 0)) ∧ cur'.size = cur.size ∧ (∀ i, i < k * 5 → cur'[i]? = cur[i]?) ∧ ∀ i u, [a, b, c, d, f][i]? = some u → cur'[k * 5 + i]? = some u := by
  refine ⟨_, blk_set (blk_set (blk_set (blk_set (blk_set hb _ _) _ _) _ _) _ _) _ _, by simp, fun i hi => ?_, fun i u hu => ?_⟩
  · rw [Array.getElem?_setIfInBounds_ne (by omega), Array.getElem?_setIfInBounds_ne (by omega), Array.getElem?_setIfInBounds_ne (by omega), Array.getElem?_setIfInBounds_ne (by omega), Array.getElem?_setIfInBounds_ne (by omega)]
  · rcases i with _ | _ | _ | _ | _ | i
    · simp at hu; subst hu
      rw [Array.getElem?_setIfInBounds_ne (by omega), Array.getElem?_setIfInBounds_ne (by omega), Array.getElem?_setIfInBounds_ne (by omega), Array.getElem?_setIfInBounds_ne (by omega)]
      exact Array.getElem?_setIfInBounds_self_of_lt (by omega)
    · simp at hu; subst hu
      rw [Array.getElem?_setIfInBounds_ne (by omega), Array.getElem?_setIfInBounds_ne (by omega), Array.getElem?_setIfInBounds_ne (by omega)]
      exact Array.getElem?_setIfInBounds_self_of_lt (by simp; omega)
    · simp at hu; subst hu
      rw [Array.getElem?_setIfInBounds_ne (by omega), Array.getElem?_setIfInBounds_ne (by omega)]
      exact Array.getElem?_setIfInBounds_self_of_lt (by simp; omega)
    · simp at hu; subst hu
      rw [Array.getElem?_setIfInBounds_ne (by omega)]
      exact Array.getElem?_setIfInBounds_self_of_lt (by simp; omega)
    · simp at hu; subst hu
      exact Array.getElem?_setIfInBounds_self_of_lt (by simp; omega)
    · simp at hu
theorem keep_sets5' (w : World) (g o : Nat) (a b c d f : Value) : Keep (But g) w (((((w.setCell ⟨g, o, none⟩ a).setCell ⟨g, o + 1, none⟩ b).setCell ⟨g, o + 2, none⟩ c).setCell ⟨g, o + 3, none⟩ d).setCell ⟨g, o + 4, none⟩ f) :=
  (((((Keep.refl _ _).set _ _ fun _ h => h rfl).set _ _ fun _ h => h rfl).set _ _ fun _ h => h rfl).set _ _ fun _ h => h rfl).set _ _ fun _ h => h rfl
theorem keep_sets5 (w : World) (g o : Nat) (a b c d f : Value) : Keep (From (g + 1)) w (((((w.setCell ⟨g, o, none⟩ a).setCell ⟨g, o + 1, none⟩ b).setCell ⟨g, o + 2, none⟩ c).setCell ⟨g, o + 3, none⟩ d).setCell ⟨g, o + 4, none⟩ f) :=
  (keep_sets5' w g o a b c d f).mono fun k _ h => by have h : g + 1 ≤ k := h; show k ≠ g; omega
theorem infoCe : (Tryd.prog.info? 74).map (fun i => (i.zero, i.size, i.bytes)) = some (some (.agg #[.string ⟨#[]⟩, .int .i64 0, .int .i64 0, .string ⟨#[]⟩, .slice none 0 0]), 5, 72) := by kernel_rfl
theorem toCells_calls (l : List Ce) (s : Value) (w : World) (hs : Ces w Any s l) (hz : szCes l ≤ 1048576) :
    Calls Tryd.prog 38 #[s] w (GotCes l w) := by
  have HS := Lib.hid hs
  have IX := Lib.hid toCell_calls
  obtain ⟨ad, c, rfl, hc, hm, _⟩ := hs
  have hlen : l.length ≤ 1048576 := by unfold szCes at hz; omega
  have hmk := make_run (P := Tryd.prog) 41 74 _ 5 72 Tryd.underlying41 infoCe l.length (by omega) (by omega)
  go_enter Tryd.func38, Tryd.ntmps38
  go_wp2
  go_loopg [4] (l.length + 1) (fun g i wr => ∃ k : Nat, k ≤ l.length ∧ i = .int .i64 k ∧ g = l.length + 1 - k ∧ Fill 5 (CeR wr (From (w.heap.size + 1))) wr w.heap.size 74 l.length l k ∧ Keep Any w wr)
  case atStart => exact ⟨0, by omega, rfl, rfl, Fill.made (sz := 5) w _, (Keep.refl _ _).alloc _⟩
  case round =>
    obtain ⟨k, hk, rfl, hg, hF, hK⟩ := hrel
    have HG := Lib.hid hg
    clear hg
    by_cases hlt : k < l.length
    · have hx : l[k]? = some l[k] := List.getElem?_eq_getElem hlt
      have hq := (sums_drop Ce.sz l k _ hx).2
      have hz2 := hz
      unfold szCes at hz2
      obtain ⟨ad, sa, sc, rfl, hN, hvx, c0, c1, c2, c3, c4⟩ := ces_at HS.out hK hx
      generalize l[k] = x at *
      have HX := Lib.hid hx
      have HV := Lib.hid (show CeR wr Any x _ from ⟨_, rfl, hN, hvx⟩)
      have HF := Lib.hid hF
      have hxz : x.sz ≤ 1048576 := by omega
      clear hx hF hvx hq hz2
      go_wp2_with (go_at_call 66; refine (IX.out _ _ _ HV.out hxz).mono ?_; rintro e w2 ⟨a2, c2', rfl, hcs, hK2⟩; obtain ⟨y0, d0⟩ := HF.out.cell hK2 trivial (k * 5) (by omega); obtain ⟨y1, d1⟩ := HF.out.cell hK2 trivial (k * 5 + 1) (by omega); obtain ⟨y2, d2⟩ := HF.out.cell hK2 trivial (k * 5 + 2) (by omega); obtain ⟨y3, d3⟩ := HF.out.cell hK2 trivial (k * 5 + 3) (by omega); obtain ⟨y4, d4⟩ := HF.out.cell hK2 trivial (k * 5 + 4) (by omega); have f0 := HF.out.free hK2 trivial (k * 5); have f1 := HF.out.free hK2 trivial (k * 5 + 1); have f2 := HF.out.free hK2 trivial (k * 5 + 2); have f3 := HF.out.free hK2 trivial (k * 5 + 3); have f4 := HF.out.free hK2 trivial (k * 5 + 4))
      go_roundg (gk - 1)
      case rel => exact ⟨k + 1, by omega, by go_num, by have := HG.out; omega, by
        have hsz := hK.size
        refine Fill.snoc (cs := ceCells x a2 c2') HF.out (fun y cs h => ?_) HX.out ?_ rfl fun cur hb hs => ?_
        · exact (h.keep (hK2.any)).keep (keep_sets5 _ _ _ _ _ _ _ _)
        · refine (hcs.mono fun j _ hj => ?_).keep (keep_sets5 _ _ _ _ _ _ _ _)
          have hj : wr.heap.size ≤ j := hj
          have := HF.out.lt
          show w.heap.size + 1 ≤ j
          omega
        · exact sets5 (blk_keep hK2 hb trivial) (by omega), by
        have hsz := hK.size
        exact ((hK.trans hK2).then (keep_sets5' _ _ _ _ _ _ _ _) fun i hi _ => by show i ≠ w.heap.size; omega)⟩
      case measure => have := HG.out; omega
    · obtain rfl : k = l.length := by omega
      have HF := Lib.hid hF
      clear hF
      go_wp2
      go_ret
      exact ⟨_, _, rfl, Sl.mono (HF.out.slice (by omega) (Nat.le_refl _)) (fun _ _ _ h => h.mono fun j _ hj => by have hj : w.heap.size + 1 ≤ j := hj; show w.heap.size ≤ j; omega) (fun _ _ h => h) (by decide), hK⟩
def GotMsg (m : Ms) (w : World) (e : Ending) (w' : World) : Prop := ∃ a c, e = .returned (.agg #[.int .i64 m.kind, .string m.text, .slice a m.given.length c, .int .i64 m.num]) ∧
  MR w' (From w.heap.size) m [.int .i64 m.kind, .string m.text, .slice a m.given.length c, .int .i64 m.num] ∧ Keep Any w w'
theorem toMsg_calls (m : Ms) (cs : List Value) (w : World) (hm : MR w Any m cs) (hz : m.sz ≤ 1048576) :
    Calls Tryd.prog 16 #[.agg cs.toArray] w (GotMsg m w) := by
  obtain ⟨s, rfl, h1, h2, h3, h4⟩ := hm
  have H4 := Lib.hid h4
  have I2 := Lib.hid (toCells_calls m.given)
  have z2 : szCes m.given ≤ 1048576 := by unfold Ms.sz at hz; omega
  clear h4 hz
  go_enter Tryd.func16, Tryd.ntmps16
  go_wp2_with (go_at_call 38; refine (I2.out _ _ (Ces.keep H4.out ((((Keep.refl _ _).alloc _).alloc _).alloc _)) z2).mono ?_; rintro e w2 ⟨a2, c2, rfl, hs2, hK⟩; obtain ⟨hc, hf⟩ := hK.cells; have z0 : w.heap.size < w2.heap.size := (by have := hK.size; simp at this; omega); have z4 : w.heap.size + 1 < w2.heap.size := (by have := hK.size; simp at this; omega); have z5 : w.heap.size + 1 + 1 < w2.heap.size := (by have := hK.size; simp at this; omega))
  refine bodyPost_ret (v := .agg #[.int .i64 m.kind, .string m.text, .slice a2 m.given.length c2, .int .i64 m.num]) (by simp [results, Tryd.results16, go_sem, hc, hf, z0, z4, z5]) rfl ⟨a2, c2, rfl, ⟨_, rfl, h1, h2, h3, ?_⟩, ?_⟩
  all_goals go_light
  · refine Ces.mono (Ces.keep hs2 (w' := _) ?_) fun j _ hj => ?_
    · repeat (first | (with_reducible exact Keep.refl _ _) | (refine Keep.set ?_ _ _ (fun _ h => by simp [From] at h; omega)))
    · simp only [From, World.size_alloc, World.size_setCell] at hj ⊢; omega
  · have hK1 := Keep.trans ((((Keep.refl Any w).alloc _).alloc _).alloc _) hK
    repeat (first | (with_reducible exact hK1) | (refine Keep.set ?_ _ _ (fun h _ => by simp at h; omega)))

/-! comparisons -/
theorem eqCell_calls (x : Ce) (cs ds : List Value) (w : World) (hx : CeR w Any x cs) (hy : CeR w Any x ds) :
    Calls Tryd.prog 69 #[.agg cs.toArray, .agg ds.toArray] w (Tells true w) := by
  obtain ⟨sa, sc, rfl, hv⟩ := hx.cells
  obtain ⟨ta, tc, rfl, hu⟩ := hy.cells
  have IV := Lib.hid (eqVal_all x.val.w x.val rfl)
  have HV := Lib.hid hv
  have HU := Lib.hid hu
  have b1 : (x.name.toList != x.name.toList) = false := by simp
  clear hx hy hv hu
  go_enter Tryd.func69, Tryd.ntmps69
  go_wp2_with (go_at_call 62; refine (IV.out _ _ _ _ _ (HV.out.keep (((Keep.refl _ _).alloc _).alloc _)) (HU.out.keep (((Keep.refl _ _).alloc _).alloc _))).mono ?_; rintro e w2 ⟨rfl, hK⟩)
  go_ret
  exact ⟨rfl, (((Keep.refl _ _).alloc _).alloc _).trans hK⟩
theorem eqCells_calls (l : List Ce) (s t : Value) (w : World) (hs : Ces w Any s l) (ht : Ces w Any t l) :
    Calls Tryd.prog 43 #[s, t] w (Tells true w) := by
  have HS := Lib.hid hs
  have HT := Lib.hid ht
  have IX := Lib.hid eqCell_calls
  obtain ⟨ad, c, rfl, hc, hm, _⟩ := hs
  obtain ⟨ad', c', rfl, hc', hm', _⟩ := ht
  have hl : (((l.length : Nat) : Int) != ((l.length : Nat) : Int)) = false := by simp
  go_enter Tryd.func43, Tryd.ntmps43
  go_wp2
  go_loopg [5] (l.length + 1) (fun g i wr => ∃ k : Nat, k ≤ l.length ∧ i = .int .i64 k ∧ g = l.length + 1 - k ∧ Keep Any w wr)
  case atStart => exact ⟨0, by omega, rfl, rfl, Keep.refl _ _⟩
  case round =>
    obtain ⟨k, hk, rfl, hg, hK⟩ := hrel
    have HG := Lib.hid hg
    clear hg
    by_cases hlt : k < l.length
    · have hx : l[k]? = some l[k] := List.getElem?_eq_getElem hlt
      obtain ⟨ad, sa, sc, rfl, hN, hvx, c0, c1, c2, c3, c4⟩ := ces_at HS.out hK hx
      obtain ⟨ad', sa', sc', rfl, _, hux, d0, d1, d2, d3, d4⟩ := ces_at HT.out hK hx
      generalize l[k] = x at *
      have HV := Lib.hid (show CeR wr Any x _ from ⟨_, rfl, hN, hvx⟩)
      have HU := Lib.hid (show CeR wr Any x _ from ⟨_, rfl, hN, hux⟩)
      have k0 : (0 : Int) ≤ (k : Int) := by omega
      have k1 : (k : Int) < (l.length : Int) := by omega
      clear hx hvx hux
      go_wp2
      go_region_with (go_at_call 69; refine (IX.out _ _ _ _ (HV.out.keep ((Keep.refl _ _).drew)) (HU.out.keep ((Keep.refl _ _).drew))).mono ?_; rintro e w2 ⟨rfl, hK2⟩)
      all_goals
        go_wp2
        go_roundg (gk - 1)
        case rel => exact ⟨k + 1, by omega, by go_num, by have := HG.out; omega, hK.drew.trans hK2⟩
        case measure => have := HG.out; omega
    · go_wp2
      go_ret
      exact ⟨rfl, hK⟩
theorem eqMsg_calls (m : Ms) (cs ds : List Value) (w : World) (hm : MR w Any m cs) (hq : MR w Any m ds) :
    Calls Tryd.prog 18 #[.agg cs.toArray, .agg ds.toArray] w (Tells true w) := by
  obtain ⟨s, rfl, h1, h2, h3, h4⟩ := hm
  obtain ⟨t, rfl, _, _, _, g4⟩ := hq
  have H4 := Lib.hid h4
  have G4 := Lib.hid g4
  clear h4 g4
  have I2 := Lib.hid (eqCells_calls m.given)
  have b1 : (m.kind != m.kind) = false := by simp
  have b2 : (m.num != m.num) = false := by simp
  have b3 : (m.text.toList != m.text.toList) = false := by simp
  go_enter Tryd.func18, Tryd.ntmps18
  go_wp2_with (go_at_call 43; refine (I2.out _ _ _ (Ces.keep H4.out (((Keep.refl _ _).alloc _).alloc _)) (Ces.keep G4.out (((Keep.refl _ _).alloc _).alloc _))).mono ?_; rintro e w2 ⟨rfl, hK⟩; obtain ⟨hc, hf⟩ := hK.cells; have z0 : w.heap.size < w2.heap.size := (by have := hK.size; simp at this; omega); have z1 : w.heap.size + 1 < w2.heap.size := (by have := hK.size; simp at this; omega))
  go_ret
  exact ⟨rfl, (((Keep.refl _ _).alloc _).alloc _).trans hK⟩
end Go.Proofs.YtjgnnobfaphkeaaDoor

/- A number in decimals: the reference's l1Dec writes what strconv.Itoa writes. For every int. -/
namespace Go.Proofs.YtjgnnobfaphkeaaDoor
open Go.RowKit
set_option linter.unusedVariables false

/-- string([]byte{x}) -/
theorem one_byte (W : World) (g : Nat) (x : Int) (h : W.cell? ⟨g, 0, none⟩ = some (.int .u8 x)) :
    (convert 63 9 (.slice (some ⟨g, 0, none⟩) 1 1)).run Tryd.prog W = .ok (.string ⟨#[UInt8.ofNat x.toNat]⟩) W := by
  refine (run_convert_bytes_arg W 63 5 Tryd.underlying63 Tryd.underlying5 g 0 1 1 [x] rfl (fun i hi => ?_) 9 Tryd.underlying9).trans rfl
  obtain rfl : i = 0 := by simpa using hi
  exact h
theorem dec_big {n : Nat} (h : ¬ n < 10) : Lib.decDigits n = Lib.decDigits (n / 10) ++ [UInt8.ofNat (48 + n % 10)] := by rw [Lib.decDigits, dif_neg h]
theorem dec_small {n : Nat} (h : n < 10) : Lib.decDigits n = [UInt8.ofNat (48 + n)] := by rw [Lib.decDigits, dif_pos h]
theorem dec_len (n : Nat) (h : n < 18446744073709551616) : (Lib.decDigits n).length ≤ 20 := by rw [Lib.decDigits_length]; exact Lib.nDigits_le20 n h
theorem bytes_app (l m : List UInt8) : (⟨l.toArray⟩ : ByteArray) ++ ⟨m.toArray⟩ = ⟨(l ++ m).toArray⟩ := by
  apply ByteArray.ext
  simp [ByteArray.data_append]
theorem dec_join {n : Nat} (h : ¬ n < 10) : (⟨(Lib.decDigits (n / 10)).toArray⟩ : ByteArray) ++ ⟨#[48 + UInt8.ofNat (n % 10)]⟩ = ⟨(Lib.decDigits n).toArray⟩ := by
  rw [dec_big h, ← bytes_app]
  simp [UInt8.ofNat_add]
set_option maxRecDepth 20000 in
theorem l1Dec_nat (n : Nat) : ∀ (w : World), n ≤ 9223372036854775807 →
    Calls Tryd.prog 23 #[.int .i64 n] w (Str (Lib.decDigits n) w) := by
  induction n using Nat.strongRecOn with
  | _ n ih =>
  intro w hn
  have HN := Lib.hid hn
  clear hn
  have b0 : decide ((n : Int) < -9223372036854775807) = false := by rw [decide_eq_false_iff_not]; omega
  have b1 : decide ((n : Int) < 0) = false := by rw [decide_eq_false_iff_not]; omega
  have kc := one_byte
  by_cases h : n < 10
  · go_enter Tryd.func23, Tryd.ntmps23
    go_wp2
    go_ret
    exact ⟨by rw [dec_small h]; rfl, (Keep.refl _ _).alloc _⟩
  · have IH := Lib.hid fun w => ih (n / 10) (by omega) w (by have := HN.out; omega)
    clear ih
    go_enter Tryd.func23, Tryd.ntmps23
    go_wp2
    have q1 : IntKind.i64.wrap ((n : Int) / 10) = ((n / 10 : Nat) : Int) := by have := HN.out; rw [IntWalk.i64_in _ ⟨by omega, by omega⟩]; omega
    have q2 : IntKind.u8.wrap (IntKind.i64.wrap (48 + (n : Int).tmod 10)) = ((48 + n % 10 : Nat) : Int) := by
      rw [Int.tmod_eq_emod_of_nonneg (by omega), IntWalk.i64_in _ ⟨by omega, by omega⟩, IntWalk.u8_in _ ⟨by omega, by omega⟩]; omega
    have hl := dec_len (n / 10) (by have := HN.out; omega)
    go_region_with (go_at_call 23; refine (IH.out _).mono ?_; rintro e w' ⟨rfl, hK⟩; obtain ⟨hc, hf⟩ := hK.cells)
    all_goals clear q1 q2
    all_goals go_wp2
    all_goals
      go_ret
      exact ⟨congrArg (fun s => Ending.returned (.string s)) (dec_join h), by first | exact ((Keep.refl _ _).drew.trans hK).alloc _ | exact ((Keep.refl _ _).alloc _).drew.trans hK⟩

theorem min_dec : Lib.itoa (-9223372036854775808) = [45, 57, 50, 50, 51, 51, 55, 50, 48, 51, 54, 56, 53, 52, 55, 55, 53, 56, 48, 56] := by
  simp [Lib.itoa, Lib.decDigits]
set_option maxRecDepth 20000 in
/-- For every int. -/
theorem l1Dec_calls (n : Int) (w : World) (h0 : -9223372036854775808 ≤ n) (h1 : n ≤ 9223372036854775807) :
    Calls Tryd.prog 23 #[.int .i64 n] w (Str (Lib.itoa n) w) := by
  by_cases h : 0 ≤ n
  · obtain ⟨m, rfl⟩ := Int.eq_ofNat_of_zero_le h
    have := l1Dec_nat m w (by omega)
    rwa [show Lib.itoa (m : Int) = Lib.decDigits m by simp only [Lib.itoa]; rw [if_neg (by omega)]; simp]
  · by_cases hm : n < -9223372036854775807
    · obtain rfl : n = -9223372036854775808 := by omega
      rw [min_dec]
      go_enter Tryd.func23, Tryd.ntmps23
      go_wp2
      go_ret
      exact ⟨rfl, Keep.refl _ _⟩
    · obtain ⟨m, rfl⟩ : ∃ m : Nat, n = -(m : Int) := ⟨n.natAbs, by omega⟩
      have IH := Lib.hid fun w => l1Dec_nat m w (by omega)
      have hl := dec_len m (by omega)
      have he : Lib.itoa (-(m : Int)) = 45 :: Lib.decDigits m := by simp only [Lib.itoa]; rw [if_pos (by omega), show (-(m : Int)).natAbs = m by omega]
      have HE := Lib.hid he
      have b0 : decide (-(m : Int) < -9223372036854775807) = false := by rw [decide_eq_false_iff_not]; omega
      have b1 : decide (-(m : Int) < 0) = true := by rw [decide_eq_true_iff]; omega
      have b2 : decide (9223372036854775807 < (m : Int)) = false := by rw [decide_eq_false_iff_not]; omega
      have b3 : decide (0 < (m : Int)) = true := by rw [decide_eq_true_iff]; omega
      have q1 : IntKind.i64.wrap (m : Int) = (m : Int) := IntWalk.i64_in _ ⟨by omega, by omega⟩
      have q2 : IntKind.i64.wrap (- -(m : Int)) = (m : Int) := by rw [Int.neg_neg]; exact q1
      have b4 : 0 < m := by omega
      clear he h0 h1 h hm
      go_enter Tryd.func23, Tryd.ntmps23
      go_wp2_with (go_at_call 23; refine (IH.out _).mono ?_; rintro e w' ⟨rfl, hK⟩)
      all_goals
        go_ret
        exact ⟨congrArg (fun s => Ending.returned (.string s)) (by rw [HE.out]; exact bytes_app [45] _), hK⟩
end Go.Proofs.YtjgnnobfaphkeaaDoor

/- A value's text, as a plain function; how long it is. For every value. -/
namespace Go.Proofs.YtjgnnobfaphkeaaDoor
set_option linter.unusedVariables false
mutual
def V.put : V → List UInt8
  | ⟨k, n, t, l⟩ => if k = 1 then (if n = 1 then [116, 114, 117, 101] else [102, 97, 108, 115, 101]) else if k = 2 then Lib.itoa n else if k = 3 then 39 :: (t.data.toList ++ [39])
    else if k = 4 then 91 :: (Lib.join (V.putL l) [44, 32] ++ [93]) else if k = 5 then 35 :: Lib.itoa n else if k = 6 then 64 :: Lib.itoa n else [110, 117, 108, 108]
def V.putL : List V → List (List UInt8)
  | [] => []
  | x :: l => V.put x :: V.putL l
end
theorem V.putL_map : ∀ l : List V, V.putL l = l.map V.put
  | [] => by rw [V.putL]; rfl
  | x :: l => by rw [V.putL, V.putL_map l]; rfl
def rowTxt (l : List V) : List UInt8 := 91 :: (Lib.join (l.map V.put) [44, 32] ++ [93])
theorem put_list (n : Int) (t : ByteArray) (l : List V) : V.put ⟨4, n, t, l⟩ = rowTxt l := by rw [V.put, V.putL_map]; rfl
theorem join_snoc (xs : List (List UInt8)) (x sep : List UInt8) : Lib.join (xs ++ [x]) sep = if xs = [] then x else Lib.join xs sep ++ sep ++ x := by
  cases xs with
  | nil => simp [Lib.join_one]
  | cons y r => simp [Lib.join_cons, Lib.joinTail]
theorem joinTail_len (b : Nat) : ∀ (xs : List (List UInt8)), (∀ x, x ∈ xs → x.length ≤ b) → (Lib.joinTail [44, 32] xs).length ≤ xs.length * (b + 2)
  | [], _ => by simp [Lib.joinTail]
  | x :: r, h => by
    have := joinTail_len b r fun y hy => h y (List.mem_cons_of_mem _ hy)
    have h0 := h x (List.mem_cons_self ..)
    have e : Lib.joinTail [44, 32] (x :: r) = [44, 32] ++ x ++ Lib.joinTail [44, 32] r := by simp [Lib.joinTail]
    rw [e]
    simp only [List.length_append, List.length_cons, List.length_nil, Nat.add_mul] at *
    omega
theorem join_len (b : Nat) (xs : List (List UInt8)) (h : ∀ x, x ∈ xs → x.length ≤ b) : (Lib.join xs [44, 32]).length ≤ xs.length * (b + 2) := by
  cases xs with
  | nil => simp [Lib.join_nil]
  | cons x r =>
    rw [Lib.join_cons]
    have := joinTail_len b r fun y hy => h y (List.mem_cons_of_mem _ hy)
    have h0 := h x (List.mem_cons_self ..)
    simp only [List.length_append, List.length_cons, Nat.add_mul] at *
    omega
theorem itoa_len2 (n : Int) (h0 : -1000000000 ≤ n) (h1 : n ≤ 1000000000) : (Lib.itoa n).length ≤ 21 := by
  simp only [Lib.itoa]
  have := dec_len n.natAbs (by omega)
  have := dec_len n.toNat (by omega)
  split <;> simp <;> omega
theorem okV_list {d : Nat} {n : Int} {t : ByteArray} {l : List V} (h : okV (d + 1) ⟨4, n, t, l⟩ = true) : l.length ≤ 6 ∧ ∀ x, x ∈ l → okV d x = true := by
  simp [okV] at h
  exact ⟨by omega, h.2⟩
theorem okV_num {d : Nat} {v : V} (h : okV d v = true) : -1000000000 ≤ v.num ∧ v.num ≤ 1000000000 := by
  cases d with
  | zero => simp [okV] at h
  | succ d =>
    obtain ⟨k, n, t, l⟩ := v
    simp only [okV] at h
    (repeat' split at h) <;> simp at h <;> simp only <;> omega
theorem okV_text {d : Nat} {v : V} (h : okV d v = true) (hk : v.kind = 3) : v.text.size ≤ 16 := by
  cases d with
  | zero => simp [okV] at h
  | succ d =>
    obtain ⟨k, n, t, l⟩ := v
    simp only at hk
    subst hk
    simp [okV, textOk] at h
    exact h.1.2.1
theorem rowTxt_len {b : Nat} {l : List V} (h : ∀ x, x ∈ l → x.put.length ≤ b) : (rowTxt l).length ≤ l.length * (b + 2) + 2 := by
  have := join_len b (l.map V.put) fun x hx => by obtain ⟨y, hy, rfl⟩ := List.mem_map.1 hx; exact h y hy
  simp only [rowTxt, List.length_cons, List.length_append, List.length_map, List.length_nil] at *
  omega
theorem put_len : ∀ (d : Nat) (v : V), okV d v = true → v.put.length ≤ 100 ^ d
  | 0, v, h => by simp [okV] at h
  | d + 1, v, h => by
    have hn := okV_num h
    have ht := okV_text h
    have hp : 1 ≤ 100 ^ d := Nat.one_le_pow _ _ (by omega)
    rw [Nat.pow_succ]
    obtain ⟨k, n, t, l⟩ := v
    by_cases h4 : k = 4
    · subst h4
      obtain ⟨hl, ha⟩ := okV_list h
      rw [put_list]
      have := rowTxt_len fun x hx => put_len d x (ha x hx)
      have : l.length * (100 ^ d + 2) ≤ 6 * (100 ^ d + 2) := Nat.mul_le_mul_right _ hl
      omega
    · have hi := itoa_len2 n hn.1 hn.2
      have ht : k = 3 → t.size ≤ 16 := ht
      simp only [Lib.size_eq] at ht
      rw [V.put]
      rw [if_neg h4]
      (repeat' split) <;> (try simp only [List.length_cons, List.length_append, List.length_nil]) <;> (try have := ht ‹_›) <;> omega
theorem put_len3 {d : Nat} {v : V} (h : okV d v = true) (hd : d ≤ 3) : v.put.length ≤ 1000000 :=
  Nat.le_trans (put_len d v h) (by calc 100 ^ d ≤ 100 ^ 3 := Nat.pow_le_pow_right (by omega) hd
                                       _ = 1000000 := rfl)
/-- The list's text up to the k-th value. -/
def outV (l : List V) (k : Nat) : List UInt8 := 91 :: Lib.join ((l.take k).map V.put) [44, 32]
theorem outV_succ {l : List V} {k : Nat} {x : V} (h : l[k]? = some x) : outV l (k + 1) = if k = 0 then 91 :: x.put else outV l k ++ [44, 32] ++ x.put := by
  have hk : k < l.length := (List.getElem?_eq_some_iff.1 h).1
  have e : l.take (k + 1) = l.take k ++ [x] := by rw [List.take_add_one, h]; rfl
  rw [outV, outV, e, List.map_append, List.map_cons, List.map_nil, join_snoc]
  by_cases h0 : k = 0
  · subst h0; simp
  · rw [if_neg (by intro hn; have := congrArg List.length hn; rw [List.length_map, List.length_take, List.length_nil] at this; omega), if_neg h0]
    simp
theorem outV_all (l : List V) : outV l l.length ++ [93] = rowTxt l := by rw [outV, List.take_length]; rfl
theorem outV_len {b : Nat} {l : List V} {k : Nat} (h : ∀ x, x ∈ l → x.put.length ≤ b) (hl : l.length ≤ 6) : (outV l k).length ≤ 6 * (b + 2) + 1 := by
  have := join_len b ((l.take k).map V.put) fun x hx => by obtain ⟨y, hy, rfl⟩ := List.mem_map.1 hx; exact h y (List.mem_of_mem_take hy)
  have hk : ((l.take k).map V.put).length ≤ 6 := by simp; omega
  have : ((l.take k).map V.put).length * (b + 2) ≤ 6 * (b + 2) := Nat.mul_le_mul_right _ hk
  simp only [outV, List.length_cons]
  omega
end Go.Proofs.YtjgnnobfaphkeaaDoor

/- Which lists of cells are ok: the reference's l4Cells. For every list. -/
import Derived.Test.YtjgnnobfaphkeaaDoorCells
import Derived.Test.YtjgnnobfaphkeaaDoorName2
import Derived.Test.YtjgnnobfaphkeaaDoorSpecReplyFine
namespace Go.Proofs.YtjgnnobfaphkeaaDoor
open Go.RowKit
set_option linter.unusedVariables false
set_option linter.unusedSimpArgs false
/-- the first cell of a name -/
def placeOf (l : List Ce) (s : ByteArray) : Int := match l.findIdx? (fun d => decide (d.name = s)) with
  | some i => (i : Int)
  | none => -1
theorem bytes_eq {a b : ByteArray} : (a.toList == b.toList) = decide (a = b) := by
  rw [ByteArray.toList_eq, ByteArray.toList_eq, Bool.eq_iff_iff, beq_iff_eq, decide_eq_true_iff]
  constructor
  · intro h; exact ByteArray.ext (Array.toList_inj.1 h)
  · intro h; rw [h]
theorem place_hit {l : List Ce} {s : ByteArray} {k : Nat} {x : Ce} (hx : l[k]? = some x) (he : x.name = s) (hn : ∀ (j : Nat) (y : Ce), j < k → l[j]? = some y → y.name ≠ s) : placeOf l s = k := by
  have hk : k < l.length := (List.getElem?_eq_some_iff.1 hx).1
  have hv : l[k] = x := (List.getElem?_eq_some_iff.1 hx).2
  have : l.findIdx? (fun d => decide (d.name = s)) = some k := by
    rw [List.findIdx?_eq_some_iff_getElem]
    exact ⟨hk, by rw [hv]; simpa using he, fun j hj => by simpa using hn j _ hj (List.getElem?_eq_getElem (by omega))⟩
  rw [placeOf, this]
theorem place_none {l : List Ce} {s : ByteArray} (hn : ∀ (j : Nat) (y : Ce), l[j]? = some y → y.name ≠ s) : placeOf l s = -1 := by
  have : l.findIdx? (fun d => decide (d.name = s)) = none := by
    rw [List.findIdx?_eq_none_iff]
    intro x hx
    obtain ⟨j, hj, rfl⟩ := List.getElem_of_mem hx
    simpa using hn j _ (List.getElem?_eq_getElem hj)
  rw [placeOf, this]
theorem place_own {l : List Ce} {k : Nat} {x : Ce} (hx : l[k]? = some x) : (placeOf l x.name != (k : Int)) = ((l.take k).any fun d => decide (d.name = x.name)) := by
  have hk : k < l.length := (List.getElem?_eq_some_iff.1 hx).1
  have hv : l[k] = x := (List.getElem?_eq_some_iff.1 hx).2
  cases hh : (l.take k).any fun d => decide (d.name = x.name) with
  | false =>
    rw [place_hit hx rfl fun j y hj hy e => ?_]
    · simp
    · rw [List.any_eq_false] at hh
      exact hh y (List.mem_of_getElem? (by rw [List.getElem?_take_of_lt hj]; exact hy)) (by simpa using e)
  | true =>
    obtain ⟨y, hy, he⟩ := List.any_eq_true.1 hh
    obtain ⟨j, hj, rfl⟩ := List.getElem_of_mem hy
    have hjk : j < k := by rw [List.length_take] at hj; omega
    rw [List.getElem_take] at he
    cases hf : l.findIdx? (fun d => decide (d.name = x.name)) with
    | none =>
      rw [List.findIdx?_eq_none_iff] at hf
      have := hf l[j] (List.getElem_mem _)
      rw [this] at he; cases he
    | some i =>
      rw [List.findIdx?_eq_some_iff_getElem] at hf
      obtain ⟨hi, _, hlt⟩ := hf
      have hij : i ≤ j := by
        rcases Nat.lt_or_ge j i with h | h
        · have := hlt j h
          rw [he] at this; exact absurd rfl this
        · exact h
      have hf : l.findIdx? (fun d => decide (d.name = x.name)) = some i := by
        rw [List.findIdx?_eq_some_iff_getElem]; exact ⟨hi, by assumption, hlt⟩
      rw [placeOf, hf]
      simp
      omega
set_option maxRecDepth 20000 in
set_option maxHeartbeats 1000000 in
theorem l4Cell_calls (l : List Ce) (s : Value) (t : ByteArray) (w : World) (hs : Ces w Any s l) : Calls Tryd.prog 85 #[s, .string t] w (Num (placeOf l t) w) := by
  have HS := Lib.hid hs
  obtain ⟨ad, c, rfl, hc, hm, _⟩ := hs
  go_enter Tryd.func85, Tryd.ntmps85
  go_wp2
  go_loopg [5] (l.length + 1) (fun g i wr => ∃ k : Nat, k ≤ l.length ∧ i = .int .i64 k ∧ g = l.length + 1 - k ∧ (∀ (j : Nat) (y : Ce), j < k → l[j]? = some y → y.name ≠ t) ∧ Keep Any w wr)
  case atStart => exact ⟨0, by omega, rfl, rfl, fun j y hj => by omega, Keep.refl _ _⟩
  case round =>
    obtain ⟨k, hk, rfl, hg, hall, hK⟩ := hrel
    have HG := Lib.hid hg
    have HA := Lib.hid hall
    clear hg hall
    by_cases hlt : k < l.length
    · have hx : l[k]? = some l[k] := List.getElem?_eq_getElem hlt
      have HX := Lib.hid hx
      obtain ⟨ad, sa, sc, rfl, hF, hvx, c0, c1, c2, c3, c4⟩ := ces_at HS.out hK hx
      generalize l[k] = x at *
      clear hx hvx
      by_cases he : x.name = t
      · have bq : (x.name.toList == t.toList) = true := by rw [bytes_eq]; simpa using he
        have HE := Lib.hid he
        clear he
        go_wp2
        go_ret
        exact ⟨ret_int (place_hit HX.out HE.out HA.out).symm, hK⟩
      · have bq : (x.name.toList == t.toList) = false := by rw [bytes_eq]; simpa using he
        have HE := Lib.hid he
        clear he
        go_wp2
        go_roundg (gk - 1)
        case rel => exact ⟨k + 1, by omega, by go_num, by have := HG.out; omega, fun j y hj hy => by rcases Nat.lt_succ_iff_lt_or_eq.1 hj with hj | rfl; exact HA.out j y hj hy; rw [HX.out] at hy; cases hy; exact HE.out, hK⟩
        case measure => have := HG.out; omega
    · go_wp2
      go_ret
      exact ⟨ret_int (place_none fun j y hy => HA.out j y (by have := (List.getElem?_eq_some_iff.1 hy).1; omega) hy).symm, hK⟩
set_option maxRecDepth 20000 in
set_option maxHeartbeats 1000000 in
theorem l4Cells_calls (l : List Ce) (s : Value) (w : World) (hs : Ces w Any s l) : Calls Tryd.prog 64 #[s] w (Tells (okCells l) w) := by
  have HS := Lib.hid hs
  have IN := Lib.hid l2Name_calls
  have IV := Lib.hid specValueOk_calls
  have IP := Lib.hid (fun t w' (h : Keep Any w w') => l4Cell_calls l s t w' (Ces.keep hs h))
  obtain ⟨ad, c, rfl, hc, hm, _⟩ := hs
  go_enter Tryd.func64, Tryd.ntmps64
  go_wp2
  go_loopg [3] (l.length + 1) (fun g i wr => ∃ k : Nat, k ≤ l.length ∧ i = .int .i64 k ∧ g = l.length + 1 - k ∧ (∀ j, j < k → cellGood l j = true) ∧ Keep Any w wr)
  case atStart => exact ⟨0, by omega, rfl, rfl, fun j hj => by omega, Keep.refl _ _⟩
  case round =>
    obtain ⟨k, hk, rfl, hg, hall, hK⟩ := hrel
    have HG := Lib.hid hg
    have HA := Lib.hid hall
    have HK := Lib.hid hK
    clear hg hall
    by_cases hlt : k < l.length
    · have hx : l[k]? = some l[k] := List.getElem?_eq_getElem hlt
      have HX := Lib.hid hx
      obtain ⟨ad, sa, sc, rfl, hF, hvx, c0, c1, c2, c3, c4⟩ := ces_at HS.out hK hx
      generalize l[k] = x at *
      have HV := Lib.hid hvx
      have CG := Lib.hid (cellGood_at hx)
      have PO := Lib.hid (place_own hx)
      have AT := Lib.hid (fun w' (h : Keep Any w w') => ces_at HS.out h hx)
      clear hx hvx hK
      rcases hq : nameOk x.name with _ | _
      · have HQ := Lib.hid hq
        clear hq
        go_wp2_with (go_at_call 55; refine (IN.out _ _ hF).mono ?_; rintro e w2 ⟨rfl, hK1⟩; rw [HQ.out])
        go_ret
        exact ⟨ret_bool (by rw [okCells_bad hlt (by rw [CG.out, HQ.out]; rfl)]), HK.out.trans hK1⟩
      · have HQ := Lib.hid hq
        clear hq
        rcases hq2 : okV 3 x.val with _ | _
        · have HQ2 := Lib.hid hq2
          clear hq2
          go_wp2_with (first | (go_at_call 55; refine (IN.out _ _ hF).mono ?_; rintro e w2 ⟨rfl, hK1⟩; rw [HQ.out]; clear c0 c1 c2 c3 c4; have HK1 := Lib.hid (HK.out.trans hK1); obtain ⟨ad1, sa1, sc1, e1, hF1, hvx1, c0, c1, c2, c3, c4⟩ := AT.out _ HK1.out; cases e1; have HV1 := Lib.hid hvx1; clear hvx1 hK1) | (go_at_call 56; refine (IV.out _ _ _ HV1.out).mono ?_; rintro e w3 ⟨rfl, hK2⟩; rw [HQ2.out]))
          go_ret
          exact ⟨ret_bool (by rw [okCells_bad hlt (by rw [CG.out, HQ.out, HQ2.out]; rfl)]), HK1.out.trans hK2⟩
        · have HQ2 := Lib.hid hq2
          clear hq2
          rcases hq3 : (l.take k).any fun d => decide (d.name = x.name) with _ | _
          · have HQ3 := Lib.hid hq3
            have bq : (placeOf l x.name != (k : Int)) = false := PO.out.trans hq3
            have GD := Lib.hid (show cellGood l k = true by rw [CG.out, HQ.out, HQ2.out, hq3]; rfl)
            clear hq3
            go_wp2_with (first | (go_at_call 55; refine (IN.out _ _ hF).mono ?_; rintro e w2 ⟨rfl, hK1⟩; rw [HQ.out]; clear c0 c1 c2 c3 c4; have HK1 := Lib.hid (HK.out.trans hK1); obtain ⟨ad1, sa1, sc1, e1, hF1, hvx1, c0, c1, c2, c3, c4⟩ := AT.out _ HK1.out; cases e1; have HV1 := Lib.hid hvx1; clear hvx1 hK1) | (go_at_call 56; refine (IV.out _ _ _ HV1.out).mono ?_; rintro e w3 ⟨rfl, hK2⟩; rw [HQ2.out]; clear c0 c1 c2 c3 c4; have HK2 := Lib.hid (HK1.out.trans hK2); obtain ⟨ad2, sa2, sc2, e2, hF2, hvx2, c0, c1, c2, c3, c4⟩ := AT.out _ HK2.out; cases e2; clear hvx2 hK2) | (go_at_call 85; refine (IP.out _ _ HK2.out).mono ?_; rintro e w4 ⟨rfl, hK3⟩))
            go_roundg (gk - 1)
            case rel => exact ⟨k + 1, by omega, by go_num, by have := HG.out; omega, fun j hj => by rcases Nat.lt_succ_iff_lt_or_eq.1 hj with hj | rfl; exact HA.out j hj; exact GD.out, HK2.out.trans hK3⟩
            case measure => have := HG.out; omega
          · have HQ3 := Lib.hid hq3
            have bq : (placeOf l x.name != (k : Int)) = true := PO.out.trans hq3
            clear hq3
            go_wp2_with (first | (go_at_call 55; refine (IN.out _ _ hF).mono ?_; rintro e w2 ⟨rfl, hK1⟩; rw [HQ.out]; clear c0 c1 c2 c3 c4; have HK1 := Lib.hid (HK.out.trans hK1); obtain ⟨ad1, sa1, sc1, e1, hF1, hvx1, c0, c1, c2, c3, c4⟩ := AT.out _ HK1.out; cases e1; have HV1 := Lib.hid hvx1; clear hvx1 hK1) | (go_at_call 56; refine (IV.out _ _ _ HV1.out).mono ?_; rintro e w3 ⟨rfl, hK2⟩; rw [HQ2.out]; clear c0 c1 c2 c3 c4; have HK2 := Lib.hid (HK1.out.trans hK2); obtain ⟨ad2, sa2, sc2, e2, hF2, hvx2, c0, c1, c2, c3, c4⟩ := AT.out _ HK2.out; cases e2; clear hvx2 hK2) | (go_at_call 85; refine (IP.out _ _ HK2.out).mono ?_; rintro e w4 ⟨rfl, hK3⟩))
            go_ret
            exact ⟨ret_bool (by rw [okCells_bad hlt (by rw [CG.out, HQ.out, HQ2.out, HQ3.out]; rfl)]), HK2.out.trans hK3⟩
    · obtain rfl : k = l.length := by omega
      have E1 := Lib.hid (okCells_good HA.out)
      go_wp2
      go_ret
      exact ⟨ret_bool (by rw [E1.out]), HK.out⟩
end Go.Proofs.YtjgnnobfaphkeaaDoor

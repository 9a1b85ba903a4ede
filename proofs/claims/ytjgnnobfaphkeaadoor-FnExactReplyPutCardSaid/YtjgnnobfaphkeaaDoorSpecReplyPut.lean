/- A reply's text: what the reference's ReplyPut writes. For every reply. -/
import Derived.Test.YtjgnnobfaphkeaaDoorSpecPut
import Derived.Test.YtjgnnobfaphkeaaDoorSpecReplyFine
import Derived.Test.YtjgnnobfaphkeaaDoorReplyPutPure
namespace Go.Proofs.YtjgnnobfaphkeaaDoor
open Go.RowKit
set_option linter.unusedVariables false
set_option linter.unusedSimpArgs false
set_option maxRecDepth 20000 in
set_option maxHeartbeats 1000000 in
theorem l9Reply_calls (r : Rp) (cs : List Value) (w : World) (hr : RR w Any r cs) (hf : fineR r = true) : Calls Tryd.prog 28 #[.agg cs.toArray] w (Str (bodyTxt r) w) := by
  obtain ⟨s1, s2, rfl, h1, h2, h3, h4⟩ := hr
  rcases fine_kind hf with hk | hk | hk | hk
  · obtain ⟨hl, ha⟩ := fine_ok hf hk
    have HA := Lib.hid ha
    have H3 := Lib.hid h3
    obtain ⟨kind, names, row, code, more⟩ := r
    simp only at hk hl HA H3
    subst hk
    obtain ⟨a1, c1, rfl, hc1, hm1, _⟩ := h3
    obtain ⟨a2, c2, rfl, hc2, hm2, _⟩ := h4
    clear hf ha
    have z0 : (⟨#[109, 111, 114, 101]⟩ : ByteArray) = ⟨(namesTxt true names 0).toArray⟩ := by simp [namesTxt]
    have z1 : (⟨#[111, 107]⟩ : ByteArray) = ⟨(namesTxt false names 0).toArray⟩ := by simp [namesTxt]
    have Z0 := Lib.hid z0
    have Z1 := Lib.hid z1
    clear z0 z1
    cases more
    all_goals
      go_enter Tryd.func28, Tryd.ntmps28
      go_wp2
    · go_loopg [3, 4] (names.length + 1) (fun g o i wr => ∃ k : Nat, k ≤ names.length ∧ o = .string ⟨(namesTxt false names k).toArray⟩ ∧ i = .int .i64 k ∧ g = names.length + 1 - k ∧ wr.heap[w.heap.size]? = some (.cells #[.int .i64 1, .slice a1 names.length c1, .slice a2 row.length c2, .int .i64 code, .bool false] 32 (0, 0)) ∧ Keep Any w wr)
      case atStart => exact ⟨0, by omega, congrArg Value.string Z1.out, rfl, rfl, blk_new _ _, (Keep.refl _ _).alloc _⟩
      case round =>
        obtain ⟨k, hk, rfl, rfl, hg, hB, hK⟩ := hrel
        have x1 := blk_cell hB 1
        simp only [List.getElem?_toArray, List.getElem?_cons_succ, List.getElem?_cons_zero] at x1
        have HB := Lib.hid hB
        clear hB
        have HG := Lib.hid hg
        have hlen := namesTxt_len (more := false) (k := k) HA.out hl
        clear hg
        by_cases hlt : k < names.length
        · have hx : names[k]? = some names[k] := List.getElem?_eq_getElem hlt
          have HX := Lib.hid hx
          obtain ⟨ad, rfl, hFx, c0⟩ := strs_at H3.out hK hx
          have hsz := name_size (HA.out _ (List.mem_of_getElem? hx))
          generalize names[k] = x at *
          clear hx
          go_wp2
          go_roundg (gk - 1)
          case rel => exact ⟨k + 1, by omega, congrArg Value.string (namesTxt_step' HX.out), by go_num, by have := HG.out; omega, HB.out, hK⟩
          case measure => have := HG.out; omega
        · obtain rfl : k = names.length := by omega
          go_wp2
          go_ret
          exact ⟨by simp [bodyTxt], hK⟩
    · go_loopg [3, 4] (names.length + 1) (fun g o i wr => ∃ k : Nat, k ≤ names.length ∧ o = .string ⟨(namesTxt true names k).toArray⟩ ∧ i = .int .i64 k ∧ g = names.length + 1 - k ∧ wr.heap[w.heap.size]? = some (.cells #[.int .i64 1, .slice a1 names.length c1, .slice a2 row.length c2, .int .i64 code, .bool true] 32 (0, 0)) ∧ Keep Any w wr)
      case atStart => exact ⟨0, by omega, congrArg Value.string Z0.out, rfl, rfl, blk_new _ _, (Keep.refl _ _).alloc _⟩
      case round =>
        obtain ⟨k, hk, rfl, rfl, hg, hB, hK⟩ := hrel
        have x1 := blk_cell hB 1
        simp only [List.getElem?_toArray, List.getElem?_cons_succ, List.getElem?_cons_zero] at x1
        have HB := Lib.hid hB
        clear hB
        have HG := Lib.hid hg
        have hlen := namesTxt_len (more := true) (k := k) HA.out hl
        clear hg
        by_cases hlt : k < names.length
        · have hx : names[k]? = some names[k] := List.getElem?_eq_getElem hlt
          have HX := Lib.hid hx
          obtain ⟨ad, rfl, hFx, c0⟩ := strs_at H3.out hK hx
          have hsz := name_size (HA.out _ (List.mem_of_getElem? hx))
          generalize names[k] = x at *
          clear hx
          go_wp2
          go_roundg (gk - 1)
          case rel => exact ⟨k + 1, by omega, congrArg Value.string (namesTxt_step' HX.out), by go_num, by have := HG.out; omega, HB.out, hK⟩
          case measure => have := HG.out; omega
        · obtain rfl : k = names.length := by omega
          go_wp2
          go_ret
          exact ⟨by simp [bodyTxt], hK⟩
  · obtain ⟨hl, ha⟩ := fine_row hf hk
    have R := Lib.hid fun w2 (h : Keep Any w w2) => l1Put_list 3 (by omega) l1Put_calls 0 ⟨#[]⟩ r.row s2 w2 (Vals.keep h4 h) (by omega) ha
    obtain ⟨a2, c2, rfl, _⟩ := h4
    have hlen := rowTxt_len fun x hx => put_len3 (ha x hx) (by omega)
    have hlen : (rowTxt r.row).length ≤ 10000000 := by
      have : r.row.length * (1000000 + 2) ≤ 5 * (1000000 + 2) := Nat.mul_le_mul_right _ hl
      omega
    obtain ⟨kind, names, row, code, more⟩ := r
    simp only at hk hlen R
    subst hk
    clear hf ha h3
    go_enter Tryd.func28, Tryd.ntmps28
    go_wp2_with (go_at_call 57; refine (R.out _ ((Keep.refl _ _).alloc _)).mono ?_; rintro e w3 ⟨rfl, hK⟩)
    go_ret
    exact ⟨congrArg (fun s => Ending.returned (.string s)) (by simp only [bodyTxt, ↓reduceIte]; exact bytes_app [114, 111, 119, 32] _), ((Keep.refl _ _).alloc _).trans hK⟩
  · obtain ⟨g1, g9⟩ := fine_fail hf hk
    have R := Lib.hid fun w2 => l1Dec_calls r.code w2 (by omega) (by omega)
    have hlen := itoa_len2 r.code (by omega) (by omega)
    obtain ⟨kind, names, row, code, more⟩ := r
    simp only at hk hlen R g1 g9
    subst hk
    clear hf h3 h4
    go_enter Tryd.func28, Tryd.ntmps28
    go_wp2_with (go_at_call 23; refine (R.out _).mono ?_; rintro e w3 ⟨rfl, hK⟩)
    go_ret
    exact ⟨congrArg (fun s => Ending.returned (.string s)) (by simp only [bodyTxt]; rw [if_neg (by omega), if_pos trivial]; exact bytes_app [102, 97, 105, 108, 32] _), ((Keep.refl _ _).alloc _).trans hK⟩
  · obtain ⟨kind, names, row, code, more⟩ := r
    simp only at hk
    subst hk
    clear hf h3 h4
    go_enter Tryd.func28, Tryd.ntmps28
    go_wp2
    go_ret
    exact ⟨by simp [bodyTxt], (Keep.refl _ _).alloc _⟩
set_option maxRecDepth 20000 in
set_option maxHeartbeats 1000000 in
theorem specReplyPut_calls (r : Rp) (cs : List Value) (w : World) (hr : RR w Any r cs) : Calls Tryd.prog 10 #[.agg cs.toArray] w (Str (replyTxt r) w) := by
  have F := Lib.hid fun w' (hk : Keep Any w w') => specReplyFine_calls r cs w' (hr.keep hk)
  have L := Lib.hid fun w' (hf : fineR r = true) (hk : Keep Any w w') => l9Reply_calls r cs w' (hr.keep hk) hf
  obtain ⟨s1, s2, rfl, h1, h2, h3, h4⟩ := hr
  rcases hf : fineR r with _ | _
  · have HF := Lib.hid hf
    clear hf h3 h4
    rw [replyTxt, HF.out]
    go_enter Tryd.func10, Tryd.ntmps10
    go_wp2_with (go_at_call 27; refine (F.out _ ((Keep.refl _ _).alloc _)).mono ?_; rintro e w2 ⟨he, hK⟩; rw [HF.out] at he; subst he)
    go_ret
    exact ⟨rfl, ((Keep.refl _ _).alloc _).trans hK⟩
  · have HF := Lib.hid hf
    clear hf h3 h4
    rw [replyTxt, HF.out]
    go_enter Tryd.func10, Tryd.ntmps10
    go_wp2_with (first | (go_at_call 27; refine (F.out _ ((Keep.refl _ _).alloc _)).mono ?_; rintro e w2 ⟨he, hK⟩; rw [HF.out] at he; subst he; have HB := Lib.hid (blk_keep hK (blk_new _ _) trivial); have x0 := blk_cell HB.out 0; have x1 := blk_cell HB.out 1; have x2 := blk_cell HB.out 2; have x3 := blk_cell HB.out 3; have x4 := blk_cell HB.out 4; simp only [List.getElem?_toArray, List.getElem?_cons_succ, List.getElem?_cons_zero] at x0 x1 x2 x3 x4; have K2 := Lib.hid (((Keep.refl Any w).alloc _).trans hK); clear hK) | (go_at_call 28; refine (L.out _ HF.out K2.out).mono ?_; rintro e w3 ⟨rfl, hK⟩))
    go_ret
    exact ⟨rfl, K2.out.trans hK⟩
end Go.Proofs.YtjgnnobfaphkeaaDoor

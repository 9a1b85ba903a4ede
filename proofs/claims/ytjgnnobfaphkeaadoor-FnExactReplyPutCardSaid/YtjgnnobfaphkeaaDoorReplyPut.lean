/- A reply's text: what the program's ReplyPut writes. For every reply. -/
import Derived.Test.YtjgnnobfaphkeaaDoorPut
import Derived.Test.YtjgnnobfaphkeaaDoorReplyFine
import Derived.Test.YtjgnnobfaphkeaaDoorReplyPutPure
namespace Go.Proofs.YtjgnnobfaphkeaaDoor
open Go.RowKit
set_option linter.unusedVariables false
set_option linter.unusedSimpArgs false
set_option maxRecDepth 20000 in
set_option maxHeartbeats 1000000 in
theorem implReplyPut_calls (r : Rp) (cs : List Value) (w : World) (hr : RR w Any r cs) (ht : Tab w) : Calls Tryd.prog 12 #[.agg cs.toArray] w (Str (replyTxt r) w) := by
  have F := Lib.hid fun w' (hk : Keep Any w w') => replyFine_calls r cs w' (hr.keep hk)
  have HT := Lib.hid ht
  clear ht
  have hr' := hr
  obtain ⟨s1, s2, rfl, h1, h2, h3, h4⟩ := hr
  rcases hf : fineR r with _ | _
  · have HF := Lib.hid hf
    clear hf h3 h4 hr'
    rw [replyTxt, HF.out]
    go_enter Tryd.func12, Tryd.ntmps12
    go_wp2_with (go_at_call 31; refine (F.out _ ((Keep.refl _ _).alloc _)).mono ?_; rintro e w2 ⟨he, hK⟩; rw [HF.out] at he; subst he; have x1 := blk_keep hK (blk_new _ _) trivial)
    go_ret
    exact ⟨rfl, ((Keep.refl _ _).alloc _).trans hK⟩
  · rcases fine_kind hf with hk | hk | hk | hk
    · obtain ⟨hl, ha⟩ := fine_ok hf hk
      have HF := Lib.hid hf
      have HA := Lib.hid ha
      have H3 := Lib.hid h3
      obtain ⟨kind, names, row, code, more⟩ := r
      simp only at hk hl HA H3
      subst hk
      rw [replyTxt, HF.out]
      obtain ⟨a1, c1, rfl, hc1, hm1, _⟩ := h3
      obtain ⟨a2, c2, rfl, hc2, hm2, _⟩ := h4
      clear hf ha hr'
      have z0 : (⟨#[109, 111, 114, 101]⟩ : ByteArray) = ⟨(namesTxt true names 0).toArray⟩ := by simp [namesTxt]
      have z1 : (⟨#[111, 107]⟩ : ByteArray) = ⟨(namesTxt false names 0).toArray⟩ := by simp [namesTxt]
      have Z0 := Lib.hid z0
      have Z1 := Lib.hid z1
      clear z0 z1
      have Q : ∀ w2 : World, Keep Any w w2 → True := fun _ _ => trivial
      cases more
      all_goals
        go_enter Tryd.func12, Tryd.ntmps12
        go_wp2_with (go_at_call 31; refine (F.out _ ((Keep.refl _ _).alloc _)).mono ?_; rintro e w2 ⟨he, hK⟩; rw [HF.out] at he; subst he; have HB := Lib.hid (blk_keep hK (blk_new _ _) trivial); have x0 := blk_cell HB.out 0; have x1 := blk_cell HB.out 1; have x3 := blk_cell HB.out 3; have x4 := blk_cell HB.out 4; simp only [List.getElem?_toArray, List.getElem?_cons_succ, List.getElem?_cons_zero] at x0 x1 x3 x4; have K2 := ((Keep.refl Any w).alloc _).trans hK; clear hK)
      · go_loopg [3, 30] (names.length + 1) (fun g o i wr => ∃ k : Nat, k ≤ names.length ∧ o = .string ⟨(namesTxt false names k).toArray⟩ ∧ i = .int .i64 k ∧ g = names.length + 1 - k ∧ wr = w2)
        case atStart => exact ⟨0, by omega, congrArg Value.string Z1.out, rfl, rfl, rfl⟩
        case round =>
          obtain ⟨k, hk, rfl, rfl, hg, rfl⟩ := hrel
          have HG := Lib.hid hg
          have hlen := namesTxt_len (more := false) (k := k) HA.out hl
          clear hg
          by_cases hlt : k < names.length
          · have hx : names[k]? = some names[k] := List.getElem?_eq_getElem hlt
            have HX := Lib.hid hx
            obtain ⟨ad, rfl, hFx, c0⟩ := strs_at H3.out K2 hx
            have hsz := name_size (HA.out _ (List.mem_of_getElem? hx))
            generalize names[k] = x at *
            clear hx
            go_wp2
            go_roundg (gk - 1)
            case rel => exact ⟨k + 1, by omega, congrArg Value.string (namesTxt_step HX.out), by go_num, by have := HG.out; omega, rfl⟩
            case measure => have := HG.out; omega
          · obtain rfl : k = names.length := by omega
            go_wp2
            go_ret
            exact ⟨by simp [bodyTxt], K2⟩
      · go_loopg [3, 30] (names.length + 1) (fun g o i wr => ∃ k : Nat, k ≤ names.length ∧ o = .string ⟨(namesTxt true names k).toArray⟩ ∧ i = .int .i64 k ∧ g = names.length + 1 - k ∧ wr = w2)
        case atStart => exact ⟨0, by omega, congrArg Value.string Z0.out, rfl, rfl, rfl⟩
        case round =>
          obtain ⟨k, hk, rfl, rfl, hg, rfl⟩ := hrel
          have HG := Lib.hid hg
          have hlen := namesTxt_len (more := true) (k := k) HA.out hl
          clear hg
          by_cases hlt : k < names.length
          · have hx : names[k]? = some names[k] := List.getElem?_eq_getElem hlt
            have HX := Lib.hid hx
            obtain ⟨ad, rfl, hFx, c0⟩ := strs_at H3.out K2 hx
            have hsz := name_size (HA.out _ (List.mem_of_getElem? hx))
            generalize names[k] = x at *
            clear hx
            go_wp2
            go_roundg (gk - 1)
            case rel => exact ⟨k + 1, by omega, congrArg Value.string (namesTxt_step HX.out), by go_num, by have := HG.out; omega, rfl⟩
            case measure => have := HG.out; omega
          · obtain rfl : k = names.length := by omega
            go_wp2
            go_ret
            exact ⟨by simp [bodyTxt], K2⟩
    · obtain ⟨hl, ha⟩ := fine_row hf hk
      have HF := Lib.hid hf
      have R := Lib.hid fun w2 (h : Keep Any w w2) => rowPut_calls r.row s2 w2 (Vals.keep h4 h) (by omega) ha (HT.out.keep h trivial)
      have hlen := rowTxt_len fun x hx => put_len3 (ha x hx) (by omega)
      have hlen : (rowTxt r.row).length ≤ 10000000 := by
        have : r.row.length * (1000000 + 2) ≤ 5 * (1000000 + 2) := Nat.mul_le_mul_right _ hl
        omega
      obtain ⟨kind, names, row, code, more⟩ := r
      simp only at hk hlen R
      subst hk
      rw [replyTxt, HF.out]
      clear hf ha hr' h3 h4
      go_enter Tryd.func12, Tryd.ntmps12
      go_wp2_with (first | (go_at_call 31; refine (F.out _ ((Keep.refl _ _).alloc _)).mono ?_; rintro e w2 ⟨he, hK⟩; rw [HF.out] at he; subst he; have HB := Lib.hid (blk_keep hK (blk_new _ _) trivial); have x0 := blk_cell HB.out 0; have x2 := blk_cell HB.out 2; simp only [List.getElem?_toArray, List.getElem?_cons_succ, List.getElem?_cons_zero] at x0 x2; have K2 := Lib.hid (((Keep.refl Any w).alloc _).trans hK); clear hK) | (go_at_call 32; refine (R.out _ K2.out).mono ?_; rintro e w3 ⟨rfl, hK⟩))
      go_ret
      exact ⟨congrArg (fun s => Ending.returned (.string s)) (by simp only [bodyTxt, ↓reduceIte]; exact bytes_app [114, 111, 119, 32] _), K2.out.trans hK⟩
    · obtain ⟨g1, g9⟩ := fine_fail hf hk
      have HF := Lib.hid hf
      have R := Lib.hid fun w2 (h : Keep Any w w2) => itoa_calls r.code w2 (by omega) (by omega) (HT.out.keep h trivial)
      have hlen := itoa_len2 r.code (by omega) (by omega)
      obtain ⟨kind, names, row, code, more⟩ := r
      simp only at hk hlen R g1 g9
      subst hk
      rw [replyTxt, HF.out]
      clear hf hr' h3 h4
      go_enter Tryd.func12, Tryd.ntmps12
      go_wp2_with (first | (go_at_call 31; refine (F.out _ ((Keep.refl _ _).alloc _)).mono ?_; rintro e w2 ⟨he, hK⟩; rw [HF.out] at he; subst he; have HB := Lib.hid (blk_keep hK (blk_new _ _) trivial); have x0 := blk_cell HB.out 0; have x3 := blk_cell HB.out 3; simp only [List.getElem?_toArray, List.getElem?_cons_succ, List.getElem?_cons_zero] at x0 x3; have K2 := Lib.hid (((Keep.refl Any w).alloc _).trans hK); clear hK) | (go_at_call 24; refine (R.out _ K2.out).mono ?_; rintro e w3 ⟨rfl, hK⟩))
      go_ret
      exact ⟨congrArg (fun s => Ending.returned (.string s)) (by simp only [bodyTxt]; rw [if_neg (by omega), if_pos trivial]; exact bytes_app [102, 97, 105, 108, 32] _), K2.out.trans hK⟩
    · have HF := Lib.hid hf
      obtain ⟨kind, names, row, code, more⟩ := r
      simp only at hk
      subst hk
      rw [replyTxt, HF.out]
      clear hf hr' h3 h4
      go_enter Tryd.func12, Tryd.ntmps12
      go_wp2_with (go_at_call 31; refine (F.out _ ((Keep.refl _ _).alloc _)).mono ?_; rintro e w2 ⟨he, hK⟩; rw [HF.out] at he; subst he; have HB := Lib.hid (blk_keep hK (blk_new _ _) trivial); have x0 := blk_cell HB.out 0; simp only [List.getElem?_toArray, List.getElem?_cons_succ, List.getElem?_cons_zero] at x0; have K2 := Lib.hid (((Keep.refl Any w).alloc _).trans hK); clear hK)
      go_ret
      exact ⟨by simp [bodyTxt], K2.out⟩
end Go.Proofs.YtjgnnobfaphkeaaDoor

/- Which replies have a form: the reference's test. For every reply. -/
import Derived.Test.YtjgnnobfaphkeaaDoorL1Ok
import Derived.Test.YtjgnnobfaphkeaaDoorName2
import Derived.Test.YtjgnnobfaphkeaaDoorReplyPure
namespace Go.Proofs.YtjgnnobfaphkeaaDoor
open Go.RowKit
set_option linter.unusedVariables false
set_option linter.unusedSimpArgs false

theorem specValueOk_calls (v : V) (cs : List Value) (w : World) (hv : VR w Any v cs) : Calls Tryd.prog 56 #[.agg cs.toArray] w (Tells (okV 3 v) w) := by
  have IH := Lib.hid fun w => l1Ok_calls 3 v cs w
  have HV := Lib.hid hv
  obtain ⟨s, rfl, _⟩ := VR.iff.1 hv
  clear hv
  go_enter Tryd.func56, Tryd.ntmps56
  go_wp2_with (go_at_call 81; refine (IH.out _ (HV.out.keep ((Keep.refl _ _).alloc _)) (by omega) (by omega)).mono ?_; rintro e w' ⟨rfl, hK⟩)
  go_ret
  exact ⟨rfl, ((Keep.refl _ _).alloc _).trans hK⟩
theorem fineR_badname {r : Rp} {x : ByteArray} (hx : x ∈ r.names) (h : nameOk x = false) : fineR r = false := by
  have h1 : r.names.all nameOk = false := List.all_eq_false.2 ⟨x, hx, by rw [h]; decide⟩
  have h2 : ¬ r.names = [] := fun e => by rw [e] at hx; cases hx
  unfold fineR
  split
  · rw [h1]; simp
  · split
    · simp [h2]
    · split
      · simp [h2]
      · split
        · simp [h2]
        · rfl
theorem fineR_badrow {r : Rp} {x : V} (hx : x ∈ r.row) (h : okV 3 x = false) : fineR r = false := by
  have h1 : r.row.all (okV 3) = false := List.all_eq_false.2 ⟨x, hx, by rw [h]; decide⟩
  have h2 : ¬ r.row = [] := fun e => by rw [e] at hx; cases hx
  unfold fineR
  split
  · simp [h2]
  · split
    · rw [h1]; simp
    · split
      · simp [h2]
      · split
        · simp [h2]
        · rfl
set_option maxHeartbeats 4000000 in
theorem specReplyFine_calls (r : Rp) (cs : List Value) (w : World) (hr : RR w Any r cs) : Calls Tryd.prog 27 #[.agg cs.toArray] w (Tells (fineR r) w) := by
  obtain ⟨s1, s2, rfl, h1, h2, h3, h4⟩ := hr
  obtain ⟨kind, names, row, code, more⟩ := r
  have H3 := Lib.hid h3
  have H4 := Lib.hid h4
  obtain ⟨a, c, rfl, hc, hm, _⟩ := h3
  obtain ⟨a2, c2, rfl, hc2, hm2, _⟩ := h4
  simp only at *
  have IN := Lib.hid l2Name_calls
  have II := Lib.hid l1In_calls
  have IV := Lib.hid specValueOk_calls
  go_enter Tryd.func27, Tryd.ntmps27
  go_wp2
  go_loopg [3] (names.length + 1) (fun g i wr => ∃ k : Nat, k ≤ names.length ∧ i = .int .i64 k ∧ g = names.length + 1 - k ∧ (∀ j x, j < k → names[j]? = some x → nameOk x = true) ∧ wr.heap[w.heap.size]? = some (.cells #[.int .i64 kind, .slice a names.length c, .slice a2 row.length c2, .int .i64 code, .bool more] 32 (0, 0)) ∧ Keep Any w wr)
  case atStart => exact ⟨0, by omega, rfl, rfl, fun j x hj => by omega, blk_new _ _, by repeat (first | exact Keep.refl _ _ | apply Keep.drewN | apply Keep.drew | apply Keep.alloc)⟩
  case round =>
    obtain ⟨k, hk, rfl, hg, hall, hb, hK⟩ := hrel
    have b1 : wr.cell? ⟨w.heap.size, 1, none⟩ = some (.slice a names.length c) := (blk_cell hb 1).trans rfl
    have HB := Lib.hid hb
    have HG := Lib.hid hg
    have HA := Lib.hid hall
    clear hg hall hb
    by_cases hlt : k < names.length
    · have hx : names[k]? = some names[k] := List.getElem?_eq_getElem hlt
      have HX := Lib.hid hx
      obtain ⟨ad, rfl, hF, c0⟩ := strs_at H3.out hK hx
      generalize names[k] = x at *
      clear hx
      rcases hq : nameOk x with _ | _
      all_goals
        have HQ := Lib.hid hq
        clear hq
        go_wp2_with (go_at_call 55; refine (IN.out _ _ hF).mono ?_; rintro e w2 ⟨rfl, hK2⟩; rw [HQ.out])
      · go_ret
        exact ⟨ret_bool (fineR_badname (List.mem_of_getElem? HX.out) HQ.out).symm, hK.trans hK2⟩
      · go_roundg (gk - 1)
        case rel => exact ⟨k + 1, by omega, by go_num, by have := HG.out; omega, fun j y hj hy => by rcases Nat.lt_succ_iff_lt_or_eq.1 hj with hj | rfl; exact HA.out j y hj hy; rw [HX.out] at hy; cases hy; exact HQ.out, blk_keep hK2 HB.out trivial, hK.trans hK2⟩
        case measure => have := HG.out; omega
    · have e1 : names.all nameOk = true := List.all_eq_true.2 fun x hx => by
        obtain ⟨j, hj, rfl⟩ := List.getElem_of_mem hx
        exact HA.out j _ (by omega) (List.getElem?_eq_getElem hj)
      have E1 := Lib.hid e1
      obtain ⟨wo, rfl⟩ : ∃ wo : World, wo = wr := ⟨_, rfl⟩
      clear e1 HA HG
      go_wp2
      go_loopg [4] (row.length + 1) (fun g i wr => ∃ k : Nat, k ≤ row.length ∧ i = .int .i64 k ∧ g = row.length + 1 - k ∧ (∀ j x, j < k → row[j]? = some x → okV 3 x = true) ∧ wr.heap[w.heap.size]? = some (.cells #[.int .i64 kind, .slice a names.length c, .slice a2 row.length c2, .int .i64 code, .bool more] 32 (0, 0)) ∧ Keep Any w wr)
      case atStart => exact ⟨0, by omega, rfl, rfl, fun j x hj => by omega, HB.out, hK⟩
      case round =>
        clear HB b1
        obtain ⟨k2, hk2, rfl, hg, hall, hb, hK⟩ := hrel
        have b0 : wr.cell? ⟨w.heap.size, 0, none⟩ = some (.int .i64 kind) := (blk_cell hb 0).trans rfl
        have b1 : wr.cell? ⟨w.heap.size, 1, none⟩ = some (.slice a names.length c) := (blk_cell hb 1).trans rfl
        have b2 : wr.cell? ⟨w.heap.size, 2, none⟩ = some (.slice a2 row.length c2) := (blk_cell hb 2).trans rfl
        have b3 : wr.cell? ⟨w.heap.size, 3, none⟩ = some (.int .i64 code) := (blk_cell hb 3).trans rfl
        have b4 : wr.cell? ⟨w.heap.size, 4, none⟩ = some (.bool more) := (blk_cell hb 4).trans rfl
        have HB := Lib.hid hb
        have HG := Lib.hid hg
        have HA := Lib.hid hall
        clear hg hall hb
        by_cases hlt : k2 < row.length
        · have hx : row[k2]? = some row[k2] := List.getElem?_eq_getElem hlt
          have HX := Lib.hid hx
          obtain ⟨ad, sa, sc, rfl, hvx, c0, c1, c2', c3⟩ := vals_at H4.out hK hx
          generalize row[k2] = x at *
          have HV := Lib.hid hvx
          clear hx hvx
          rcases hq : okV 3 x with _ | _
          all_goals
            have HQ := Lib.hid hq
            clear hq
            go_wp2_with (go_at_call 56; refine (IV.out _ _ _ HV.out).mono ?_; rintro e w2 ⟨rfl, hK2⟩; rw [HQ.out])
          · go_ret
            exact ⟨ret_bool (fineR_badrow (List.mem_of_getElem? HX.out) HQ.out).symm, hK.trans hK2⟩
          · go_roundg (gk - 1)
            case rel => exact ⟨k2 + 1, by omega, by go_num, by have := HG.out; omega, fun j y hj hy => by rcases Nat.lt_succ_iff_lt_or_eq.1 hj with hj | rfl; exact HA.out j y hj hy; rw [HX.out] at hy; cases hy; exact HQ.out, blk_keep hK2 HB.out trivial, hK.trans hK2⟩
            case measure => have := HG.out; omega
        · have e2 : row.all (okV 3) = true := List.all_eq_true.2 fun x hx => by
            obtain ⟨j, hj, rfl⟩ := List.getElem_of_mem hx
            exact HA.out j _ (by omega) (List.getElem?_eq_getElem hj)
          have E2 := Lib.hid e2
          clear e2 HA HG
          by_cases k1 : kind = 1
          · subst k1
            go_wp2
            all_goals (go_ret; go_light; have e1 := E1.out; have e2 := E2.out; exact ⟨ret_bool (by simp [fineR, *] <;> (intros; omega)), hK⟩)
          by_cases k2 : kind = 2
          · subst k2
            go_wp2
            all_goals (go_ret; go_light; have e1 := E1.out; have e2 := E2.out; exact ⟨ret_bool (by simp [fineR, *] <;> (intros; omega)), hK⟩)
          by_cases k3 : kind = 3
          · subst k3
            go_wp2
            all_goals (go_ret; go_light; have e1 := E1.out; have e2 := E2.out; exact ⟨ret_bool (by simp [fineR, *] <;> (intros; omega)), hK⟩)
          by_cases k4 : kind = 4
          · subst k4
            go_wp2
            all_goals (go_ret; go_light; have e1 := E1.out; have e2 := E2.out; exact ⟨ret_bool (by simp [fineR, *] <;> (intros; omega)), hK⟩)
          · have d1 : (kind == 1) = false := by simpa using k1
            have d2 : (kind == 2) = false := by simpa using k2
            have d3 : (kind == 3) = false := by simpa using k3
            have d4 : (kind == 4) = false := by simpa using k4
            go_wp2
            all_goals (go_ret; go_light; have e1 := E1.out; have e2 := E2.out; exact ⟨ret_bool (by simp [fineR, *] <;> (intros; omega)), hK⟩)
end Go.Proofs.YtjgnnobfaphkeaaDoor

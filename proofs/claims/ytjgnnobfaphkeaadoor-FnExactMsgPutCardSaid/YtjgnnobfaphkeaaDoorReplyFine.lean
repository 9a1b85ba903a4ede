/- Which replies have a form: the program's test. For every reply. -/
import Derived.Test.YtjgnnobfaphkeaaDoorFits
import Derived.Test.YtjgnnobfaphkeaaDoorNameWalk
import Derived.Test.YtjgnnobfaphkeaaDoorReplyPure
namespace Go.Proofs.YtjgnnobfaphkeaaDoor
open Go.RowKit
set_option linter.unusedVariables false
set_option linter.unusedSimpArgs false

theorem valueOk_calls (v : V) (cs : List Value) (w : World) (hv : VR w Any v cs) : Calls Tryd.prog 60 #[.agg cs.toArray] w (Tells (okV 3 v) w) := by
  have IH := Lib.hid fun w => valueFits_calls 3 v cs w
  have HV := Lib.hid hv
  obtain ⟨s, rfl, _⟩ := VR.iff.1 hv
  clear hv
  go_enter Tryd.func60, Tryd.ntmps60
  go_wp2_with (go_at_call 83; refine (IH.out _ (HV.out.keep ((Keep.refl _ _).alloc _)) (by omega)).mono ?_; rintro e w' ⟨rfl, hK⟩)
  go_ret
  exact ⟨rfl, ((Keep.refl _ _).alloc _).trans hK⟩

theorem fineR_one {names : List ByteArray} {code : Int} {more : Bool} : fineR ⟨1, names, [], code, more⟩ = (decide ((names.length : Int) ≤ 5) && (code == 0) && names.all nameOk) := by simp [fineR]
theorem fineR_two {row : List V} {code : Int} {more : Bool} : fineR ⟨2, [], row, code, more⟩ = ((decide (1 ≤ (row.length : Int)) && decide ((row.length : Int) ≤ 5)) && (code == 0) && !more && row.all (okV 3)) := by simp [fineR]
set_option maxHeartbeats 2000000 in
theorem replyFine_calls (r : Rp) (cs : List Value) (w : World) (hr : RR w Any r cs) : Calls Tryd.prog 31 #[.agg cs.toArray] w (Tells (fineR r) w) := by
  obtain ⟨s1, s2, rfl, h1, h2, h3, h4⟩ := hr
  obtain ⟨kind, names, row, code, more⟩ := r
  have H3 := Lib.hid h3
  have H4 := Lib.hid h4
  obtain ⟨a, c, rfl, hc, hm, _⟩ := h3
  obtain ⟨a2, c2, rfl, hc2, hm2, _⟩ := h4
  simp only at *
  have IN := Lib.hid nameOk_calls
  have IV := Lib.hid valueOk_calls
  have zn : names = [] ∨ (names ≠ [] ∧ 0 < names.length) := by cases names with | nil => exact .inl rfl | cons x l => exact .inr ⟨by simp, by simp⟩
  have zr : row = [] ∨ (row ≠ [] ∧ 0 < row.length) := by cases row with | nil => exact .inl rfl | cons x l => exact .inr ⟨by simp, by simp⟩
  by_cases k1 : kind = 1
  · subst k1
    rcases zr with rfl | ⟨zr', zr⟩
    · clear zn
      by_cases hg : (names.length : Int) ≤ 5 ∧ code = 0
      · obtain ⟨g1, rfl⟩ := hg
        have E0 := Lib.hid (fineR_one (names := names) (code := 0) (more := more))
        go_enter Tryd.func31, Tryd.ntmps31
        go_wp2
        go_loopg [29] (names.length + 1) (fun g i wr => ∃ k : Nat, k ≤ names.length ∧ i = .int .i64 k ∧ g = names.length + 1 - k ∧ (∀ j x, j < k → names[j]? = some x → nameOk x = true) ∧ Keep Any w wr)
        case atStart => exact ⟨0, by omega, rfl, rfl, fun j x hj => by omega, by repeat (first | exact Keep.refl _ _ | apply Keep.drewN | apply Keep.drew | apply Keep.alloc)⟩
        case round =>
          obtain ⟨k, hk, rfl, hg, hall, hK⟩ := hrel
          have HG := Lib.hid hg
          have HA := Lib.hid hall
          clear hg hall
          by_cases hlt : k < names.length
          · have hx : names[k]? = some names[k] := List.getElem?_eq_getElem hlt
            have HX := Lib.hid hx
            obtain ⟨ad, rfl, hF, c0⟩ := strs_at H3.out hK hx
            generalize names[k] = x at *
            clear hx
            rcases hq : nameOk x with _ | _
            all_goals
              have HQ := Lib.hid hq
              clear hq
              go_wp2_with (go_at_call 59; refine (IN.out _ _ hF).mono ?_; rintro e w2 ⟨rfl, rfl⟩; rw [HQ.out])
            · go_ret
              exact ⟨ret_bool (by rw [E0.out, List.all_eq_false.2 ⟨x, List.mem_of_getElem? HX.out, by rw [HQ.out]; decide⟩]; simp), hK⟩
            · go_roundg (gk - 1)
              case rel => exact ⟨k + 1, by omega, by go_num, by have := HG.out; omega, fun j y hj hy => by rcases Nat.lt_succ_iff_lt_or_eq.1 hj with hj | rfl; exact HA.out j y hj hy; rw [HX.out] at hy; cases hy; exact HQ.out, hK⟩
              case measure => have := HG.out; omega
          · have e1 : names.all nameOk = true := List.all_eq_true.2 fun x hx => by
              obtain ⟨j, hj, rfl⟩ := List.getElem_of_mem hx
              exact HA.out j _ (by omega) (List.getElem?_eq_getElem hj)
            have E1 := Lib.hid e1
            clear e1
            go_wp2
            go_ret
            exact ⟨ret_bool (by rw [E0.out, E1.out]; simp [*]), hK⟩
      · have e0 : fineR ⟨1, names, [], code, more⟩ = false := by
          rw [fineR_one]; simp; intro a b; exact absurd ⟨by omega, b⟩ hg
        have E0 := Lib.hid e0
        have hg' : 5 < (names.length : Int) ∨ ((names.length : Int) ≤ 5 ∧ (code != 0) = true) := by
          by_cases a : (names.length : Int) ≤ 5
          · exact .inr ⟨a, by simpa using fun b => hg ⟨a, b⟩⟩
          · exact .inl (by omega)
        clear e0 hg
        rcases hg' with g | ⟨g, g2⟩
        all_goals
          go_enter Tryd.func31, Tryd.ntmps31
          go_wp2
          go_ret
          exact ⟨ret_bool E0.out.symm, by repeat (first | exact Keep.refl _ _ | apply Keep.drewN | apply Keep.drew | apply Keep.alloc)⟩
    · go_enter Tryd.func31, Tryd.ntmps31
      go_wp2
      all_goals (go_ret; exact ⟨ret_bool (by simp [fineR, *] <;> (intros; omega)), by repeat (first | exact Keep.refl _ _ | apply Keep.drewN | apply Keep.drew | apply Keep.alloc)⟩)
  by_cases k2 : kind = 2
  · subst k2
    rcases zn with rfl | ⟨zn', zn⟩
    · clear zr
      by_cases hg : (1 ≤ (row.length : Int) ∧ (row.length : Int) ≤ 5) ∧ code = 0 ∧ more = false
      · obtain ⟨⟨g1, g2⟩, rfl, rfl⟩ := hg
        have E0 := Lib.hid (fineR_two (row := row) (code := 0) (more := false))
        go_enter Tryd.func31, Tryd.ntmps31
        go_wp2
        go_loopg [67] (row.length + 1) (fun g i wr => ∃ k : Nat, k ≤ row.length ∧ i = .int .i64 k ∧ g = row.length + 1 - k ∧ (∀ j x, j < k → row[j]? = some x → okV 3 x = true) ∧ Keep Any w wr)
        case atStart => exact ⟨0, by omega, rfl, rfl, fun j x hj => by omega, by repeat (first | exact Keep.refl _ _ | apply Keep.drewN | apply Keep.drew | apply Keep.alloc)⟩
        case round =>
          obtain ⟨k, hk, rfl, hg, hall, hK⟩ := hrel
          have HG := Lib.hid hg
          have HA := Lib.hid hall
          clear hg hall
          by_cases hlt : k < row.length
          · have hx : row[k]? = some row[k] := List.getElem?_eq_getElem hlt
            have HX := Lib.hid hx
            obtain ⟨ad, sa, sc, rfl, hvx, c0, c1, c2', c3⟩ := vals_at H4.out hK hx
            generalize row[k] = x at *
            have HV := Lib.hid hvx
            clear hx hvx
            rcases hq : okV 3 x with _ | _
            all_goals
              have HQ := Lib.hid hq
              clear hq
              go_wp2_with (go_at_call 60; refine (IV.out _ _ _ (HV.out.keep ((Keep.refl _ _).alloc _))).mono ?_; rintro e w2 ⟨rfl, hK2⟩; rw [HQ.out])
            · go_ret
              exact ⟨ret_bool (by rw [E0.out, List.all_eq_false.2 ⟨x, List.mem_of_getElem? HX.out, by rw [HQ.out]; decide⟩]; simp), (hK.alloc _).trans hK2⟩
            · go_roundg (gk - 1)
              case rel => exact ⟨k + 1, by omega, by go_num, by have := HG.out; omega, fun j y hj hy => by rcases Nat.lt_succ_iff_lt_or_eq.1 hj with hj | rfl; exact HA.out j y hj hy; rw [HX.out] at hy; cases hy; exact HQ.out, (hK.alloc _).trans hK2⟩
              case measure => have := HG.out; omega
          · have e1 : row.all (okV 3) = true := List.all_eq_true.2 fun x hx => by
              obtain ⟨j, hj, rfl⟩ := List.getElem_of_mem hx
              exact HA.out j _ (by omega) (List.getElem?_eq_getElem hj)
            have E1 := Lib.hid e1
            clear e1
            go_wp2
            go_ret
            exact ⟨ret_bool (by rw [E0.out, E1.out]; simp [*]), hK⟩
      · have e0 : fineR ⟨2, [], row, code, more⟩ = false := by
          rw [fineR_two]; rcases hm : more with _ | _
          · simp; intro a b c; exact absurd ⟨⟨by omega, by omega⟩, c, hm⟩ hg
          · simp
        have E0 := Lib.hid e0
        have hg' : (row.length : Int) < 1 ∨ 5 < (row.length : Int) ∨ ((1 ≤ (row.length : Int) ∧ (row.length : Int) ≤ 5) ∧ (code != 0) = true) ∨ ((1 ≤ (row.length : Int) ∧ (row.length : Int) ≤ 5) ∧ (code != 0) = false ∧ more = true) := by
          by_cases a : (1 ≤ (row.length : Int) ∧ (row.length : Int) ≤ 5)
          · by_cases b : code = 0
            · refine .inr (.inr (.inr ⟨a, by simpa using b, ?_⟩))
              rcases hm : more with _ | _
              · exact absurd ⟨a, b, hm⟩ hg
              · rfl
            · exact .inr (.inr (.inl ⟨a, by simpa using b⟩))
          · omega
        clear e0 hg
        rcases hg' with g | g | ⟨⟨g, g2⟩, g3⟩ | ⟨⟨g, g2⟩, g3, rfl⟩
        all_goals
          go_enter Tryd.func31, Tryd.ntmps31
          go_wp2
          all_goals
            go_ret
            exact ⟨ret_bool E0.out.symm, by repeat (first | exact Keep.refl _ _ | apply Keep.drewN | apply Keep.drew | apply Keep.alloc)⟩
    · rcases zr with rfl | ⟨zr', zr⟩
      all_goals
        go_enter Tryd.func31, Tryd.ntmps31
        go_wp2
        all_goals (go_ret; exact ⟨ret_bool (by simp [fineR, *] <;> (intros; omega)), by repeat (first | exact Keep.refl _ _ | apply Keep.drewN | apply Keep.drew | apply Keep.alloc)⟩)
  by_cases k3 : kind = 3
  · subst k3
    rcases zn with rfl | ⟨zn', zn⟩ <;> rcases zr with rfl | ⟨zr', zr⟩
    all_goals
      go_enter Tryd.func31, Tryd.ntmps31
      go_wp2
      all_goals (go_ret; exact ⟨ret_bool (by simp [fineR, *] <;> (intros; omega)), by repeat (first | exact Keep.refl _ _ | apply Keep.drewN | apply Keep.drew | apply Keep.alloc)⟩)
  by_cases k4 : kind = 4
  · subst k4
    rcases zn with rfl | ⟨zn', zn⟩ <;> rcases zr with rfl | ⟨zr', zr⟩
    all_goals
      go_enter Tryd.func31, Tryd.ntmps31
      go_wp2
      all_goals (go_ret; exact ⟨ret_bool (by simp [fineR, *] <;> (intros; omega)), by repeat (first | exact Keep.refl _ _ | apply Keep.drewN | apply Keep.drew | apply Keep.alloc)⟩)
  · have b1 : (kind == 1) = false := by simpa using k1
    have b2 : (kind == 2) = false := by simpa using k2
    have b3 : (kind == 3) = false := by simpa using k3
    have b4 : (kind == 4) = false := by simpa using k4
    go_enter Tryd.func31, Tryd.ntmps31
    go_wp2
    all_goals (go_ret; exact ⟨ret_bool (by simp [fineR, *] <;> (intros; omega)), by repeat (first | exact Keep.refl _ _ | apply Keep.drewN | apply Keep.drew | apply Keep.alloc)⟩)
end Go.Proofs.YtjgnnobfaphkeaaDoor

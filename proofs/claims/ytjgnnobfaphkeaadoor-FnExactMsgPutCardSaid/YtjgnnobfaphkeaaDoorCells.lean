/- Which lists of cells are ok: the program's cellsOk. For every list. -/
import Derived.Test.YtjgnnobfaphkeaaDoorMsgKind
import Derived.Test.YtjgnnobfaphkeaaDoorSeen
import Derived.Test.YtjgnnobfaphkeaaDoorNameWalk
import Derived.Test.YtjgnnobfaphkeaaDoorReplyFine
import Derived.WideMake
namespace Go.Proofs.YtjgnnobfaphkeaaDoor
open Go.RowKit
set_option linter.unusedVariables false
set_option linter.unusedSimpArgs false
theorem okCells_bad {l : List Ce} {k : Nat} (hk : k < l.length) (h : cellGood l k = false) : okCells l = false :=
  List.all_eq_false.2 ⟨k, List.mem_range.2 hk, by rw [h]; decide⟩
theorem okCells_good {l : List Ce} (h : ∀ k, k < l.length → cellGood l k = true) : okCells l = true := List.all_eq_true.2 fun k hk => h k (List.mem_range.1 hk)
theorem cellGood_at {l : List Ce} {k : Nat} {x : Ce} (h : l[k]? = some x) : cellGood l k = (nameOk x.name && okV 3 x.val && !((l.take k).any fun d => decide (d.name = x.name))) := by rw [cellGood, h]
theorem any_name {l : List Ce} {s : ByteArray} : (l.any fun d => decide (d.name = s)) = true ↔ s ∈ l.map Ce.name := by
  rw [List.any_eq_true, List.mem_map]
  constructor
  · rintro ⟨x, hx, h⟩; exact ⟨x, hx, by simpa using h⟩
  · rintro ⟨x, hx, h⟩; exact ⟨x, hx, by simpa using h⟩
theorem name_fits {t : ByteArray} (h : nameOk t = true) : Fits t := by
  simp only [nameOk, nameShape, Bool.and_eq_true, decide_eq_true_eq] at h
  unfold Fits; omega
theorem good_name {l : List Ce} {j : Nat} {y : Ce} (h : cellGood l j = true) (hy : l[j]? = some y) : nameOk y.name = true := by
  rw [cellGood_at hy] at h
  simp only [Bool.and_eq_true] at h
  exact h.1.1
set_option maxRecDepth 20000 in
set_option maxHeartbeats 1000000 in
theorem cellsOk_calls (l : List Ce) (s : Value) (w : World) (hs : Ces w Any s l) : Calls Tryd.prog 67 #[s] w (Tells (okCells l) w) := by
  have HS := Lib.hid hs
  have IN := Lib.hid nameOk_calls
  have IV := Lib.hid valueOk_calls
  obtain ⟨ad, c, rfl, hc, hm, _⟩ := hs
  have mk := run_makeMap_plain (P := Tryd.prog) (w := w) 112
  go_enter Tryd.func67, Tryd.ntmps67
  go_wp2
  go_loopg [9] (l.length + 1) (fun g i wr => ∃ k : Nat, k ≤ l.length ∧ i = .int .i64 k ∧ g = l.length + 1 - k ∧ (∀ j, j < k → cellGood l j = true) ∧ Seen wr w.heap.size ((l.take k).map Ce.name) ∧ Keep Any w wr)
  case atStart => exact ⟨0, by omega, rfl, rfl, fun j hj => by omega, Seen.made w, (Keep.refl _ _).alloc _⟩
  case round =>
    obtain ⟨k, hk, rfl, hg, hall, hS, hK⟩ := hrel
    have HG := Lib.hid hg
    have HA := Lib.hid hall
    have SE := Lib.hid hS
    clear hg hall hS
    by_cases hlt : k < l.length
    · have hx : l[k]? = some l[k] := List.getElem?_eq_getElem hlt
      have HX := Lib.hid hx
      obtain ⟨ad, sa, sc, rfl, hF, hvx, c0, c1, c2, c3, c4⟩ := ces_at HS.out hK hx
      generalize l[k] = x at *
      have HV := Lib.hid hvx
      have hcg := cellGood_at hx
      have CG := Lib.hid hcg
      clear hx hvx hcg
      rcases hq : nameOk x.name with _ | _
      · have HQ := Lib.hid hq
        clear hq
        go_wp2_with (go_at_call 59; refine (IN.out _ _ hF).mono ?_; rintro e w2 ⟨rfl, rfl⟩; rw [HQ.out])
        go_ret
        exact ⟨ret_bool (by rw [okCells_bad hlt (by rw [CG.out, HQ.out]; rfl)]), hK.alloc _⟩
      · have HQ := Lib.hid hq
        clear hq
        rcases hq2 : okV 3 x.val with _ | _
        · have HQ2 := Lib.hid hq2
          clear hq2
          go_wp2_with (first | (go_at_call 59; refine (IN.out _ _ hF).mono ?_; rintro e w2 ⟨rfl, rfl⟩; rw [HQ.out]) | (go_at_call 60; refine (IV.out _ _ _ (HV.out.keep ((Keep.refl _ _).alloc _))).mono ?_; rintro e w2 ⟨rfl, hK2⟩; rw [HQ2.out]))
          go_ret
          exact ⟨ret_bool (by rw [okCells_bad hlt (by rw [CG.out, HQ.out, HQ2.out]; rfl)]), (hK.alloc _).trans hK2⟩
        · have HQ2 := Lib.hid hq2
          clear hq2
          have HL := Lib.hid (fun (y : ByteArray) (hy : y ∈ (l.take k).map Ce.name) => by
            obtain ⟨z, hz, rfl⟩ := List.mem_map.1 hy
            obtain ⟨j, hj, rfl⟩ := List.getElem_of_mem hz
            have hj' : j < k := by have := hj; rw [List.length_take] at this; omega
            rw [List.getElem_take]
            exact name_fits (good_name (HA.out j hj') (List.getElem?_eq_getElem (by omega))) : ∀ y, y ∈ (l.take k).map Ce.name → Fits y)
          by_cases hin : x.name ∈ (l.take k).map Ce.name
          · have HI := Lib.hid hin
            clear hin
            go_wp2_with (first | (go_at_call 59; refine (IN.out _ _ hF).mono ?_; rintro e w2 ⟨rfl, rfl⟩; rw [HQ.out]) | (go_at_call 60; refine (IV.out _ _ _ (HV.out.keep ((Keep.refl _ _).alloc _))).mono ?_; rintro e w2 ⟨rfl, hK2⟩; rw [HQ2.out]; have lk := (seen_lookup Tryd.underlying9 Tryd.underlying112 Tryd.zeroValue3 (SE.out.keep (((Keep.refl Any _).alloc _).trans hK2) trivial) HL.out hF).1 HI.out; have x0 := blk_cell (blk_keep hK2 (blk_new _ _) trivial) 0; simp only [List.getElem?_toArray, List.getElem?_cons_succ, List.getElem?_cons_zero] at x0))
            go_ret
            exact ⟨ret_bool (by rw [okCells_bad hlt (by rw [CG.out, HQ.out, HQ2.out, any_name.2 HI.out]; rfl)]), (hK.alloc _).trans hK2⟩
          · have HI := Lib.hid hin
            clear hin
            have gd : cellGood l k = true := by
              rw [CG.out, HQ.out, HQ2.out]
              cases hh : (l.take k).any fun d => decide (d.name = x.name) with
              | false => rfl
              | true => exact absurd (any_name.1 hh) HI.out
            have GD := Lib.hid gd
            clear gd
            go_wp2_with (first | (go_at_call 59; refine (IN.out _ _ hF).mono ?_; rintro e w2 ⟨rfl, rfl⟩; rw [HQ.out]) | (go_at_call 60; refine (IV.out _ _ _ (HV.out.keep ((Keep.refl _ _).alloc _))).mono ?_; rintro e w2 ⟨rfl, hK2⟩; rw [HQ2.out]; have SE2 := Lib.hid (SE.out.keep (((Keep.refl Any _).alloc _).trans hK2) trivial); have lk := (seen_lookup Tryd.underlying9 Tryd.underlying112 Tryd.zeroValue3 SE2.out HL.out hF).2 HI.out; obtain ⟨w3, up, hS3, hK3⟩ := seen_update Tryd.underlying9 Tryd.underlying112 SE2.out HL.out hF HI.out; have SE3 := Lib.hid hS3; clear hS3; have x0 := blk_cell (blk_keep hK2 (blk_new _ _) trivial) 0; simp only [List.getElem?_toArray, List.getElem?_cons_succ, List.getElem?_cons_zero] at x0))
            go_roundg (gk - 1)
            case rel => exact ⟨k + 1, by omega, by go_num, by have := HG.out; omega, fun j hj => by rcases Nat.lt_succ_iff_lt_or_eq.1 hj with hj | rfl; exact HA.out j hj; exact GD.out, by have := SE3.out; rw [List.take_add_one, HX.out]; simpa using this, ((hK.alloc _).trans hK2).then hK3 (fun i hi _ => by show i ≠ w.heap.size; omega)⟩
            case measure => have := HG.out; omega
    · obtain rfl : k = l.length := by omega
      have E1 := Lib.hid (okCells_good HA.out)
      go_wp2
      go_ret
      exact ⟨ret_bool (by rw [E1.out]), hK⟩
end Go.Proofs.YtjgnnobfaphkeaaDoor

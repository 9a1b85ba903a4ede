/- The laws' own measure, copy and comparison of a reply. -/
import Derived.Test.YtjgnnobfaphkeaaDoorTo
import Derived.Test.YtjgnnobfaphkeaaDoorEq
namespace Go.Proofs.YtjgnnobfaphkeaaDoor
open Go.RowKit
set_option linter.unusedVariables false
set_option linter.unusedSimpArgs false

def Rp.sz (r : Rp) : Nat := wStrs r.names + (V.szs r.row + r.row.length)
theorem szReply_calls (r : Rp) (cs : List Value) (w : World) (hr : RR w Any r cs) :
    Calls Tryd.prog 9 #[.agg cs.toArray, .int .i64 1048576] w (Left 1048576 r.sz w) := by
  obtain ⟨s1, s2, rfl, h1, h2, h3, h4⟩ := hr
  have H3 := Lib.hid h3
  have H4 := Lib.hid h4
  have I1 := Lib.hid fun s a w => szStrs_calls r.names s a w
  have I2 := Lib.hid (szVals_calls r.row)
  have hz : r.sz = wStrs r.names + (V.szs r.row + r.row.length) := rfl
  obtain ⟨m, hm⟩ : ∃ m, m = wStrs r.names := ⟨_, rfl⟩
  obtain ⟨n, hn⟩ : ∃ n, n = V.szs r.row + r.row.length := ⟨_, rfl⟩
  rw [← hm, ← hn] at hz
  have HM := Lib.hid hm
  have HN := Lib.hid hn
  have HZ := Lib.hid hz
  clear h3 h4 hm hn hz
  by_cases c1 : (1048576 : Int) < (m : Int)
  · have e1 := left_no c1
    have e2 : left 1048576 r.sz = -1 := left_no (by rw [HZ.out]; omega)
    have E1 := Lib.hid e1
    have E2 := Lib.hid e2
    clear e1 e2
    go_enter Tryd.func9, Tryd.ntmps9
    go_wp2_with (go_at_call 25; refine (I1.out _ _ _ (Strs.keep H3.out ((Keep.refl _ _).alloc _)) (by omega) (by omega)).mono ?_; rintro e w2 ⟨rfl, hK⟩; rw [← HM.out, E1.out])
    go_ret
    exact ⟨ret_int E2.out.symm, ((Keep.refl _ _).alloc _).trans hK⟩
  · have e1 := left_yes (a := 1048576) (n := m) (by omega)
    have E1 := Lib.hid e1
    have c3 : 0 ≤ (1048576 : Int) - m := by omega
    clear e1
    by_cases c2 : (1048576 : Int) - m < (n : Int)
    · have e2 := left_no c2
      have e3 : left 1048576 r.sz = -1 := left_no (by rw [HZ.out]; omega)
      have E2 := Lib.hid e2
      have E3 := Lib.hid e3
      clear e2 e3
      go_enter Tryd.func9, Tryd.ntmps9
      go_wp2_with (first | (go_at_call 25; refine (I1.out _ _ _ (Strs.keep H3.out ((Keep.refl _ _).alloc _)) (by omega) (by omega)).mono ?_; rintro e w2 ⟨rfl, hK⟩; rw [← HM.out, E1.out]; obtain ⟨hc, hf⟩ := hK.cells) | (go_at_call 26; refine (I2.out _ _ _ (Vals.keep H4.out (((Keep.refl _ _).alloc _).trans hK)) (by omega) (by omega)).mono ?_; rintro e w3 ⟨rfl, hK2⟩; rw [← HN.out, E2.out]))
      go_ret
      exact ⟨ret_int E3.out.symm, (((Keep.refl _ _).alloc _).trans hK).trans hK2⟩
    · have e2 := left_yes (a := 1048576 - m) (n := n) (by omega)
      have e3 : left 1048576 r.sz = 1048576 - m - n := by rw [left_yes (by rw [HZ.out]; omega), HZ.out]; omega
      have E2 := Lib.hid e2
      have E3 := Lib.hid e3
      clear e2 e3
      go_enter Tryd.func9, Tryd.ntmps9
      go_wp2_with (first | (go_at_call 25; refine (I1.out _ _ _ (Strs.keep H3.out ((Keep.refl _ _).alloc _)) (by omega) (by omega)).mono ?_; rintro e w2 ⟨rfl, hK⟩; rw [← HM.out, E1.out]; obtain ⟨hc, hf⟩ := hK.cells) | (go_at_call 26; refine (I2.out _ _ _ (Vals.keep H4.out (((Keep.refl _ _).alloc _).trans hK)) (by omega) (by omega)).mono ?_; rintro e w3 ⟨rfl, hK2⟩; rw [← HN.out, E2.out]))
      go_ret
      exact ⟨ret_int E3.out.symm, (((Keep.refl _ _).alloc _).trans hK).trans hK2⟩

def GotReply (r : Rp) (w : World) (e : Ending) (w' : World) : Prop := ∃ a c a2 c2, e = .returned (.agg #[.int .i64 r.kind, .slice a r.names.length c, .slice a2 r.row.length c2, .int .i64 r.code, .bool r.more]) ∧
  RR w' (From w.heap.size) r [.int .i64 r.kind, .slice a r.names.length c, .slice a2 r.row.length c2, .int .i64 r.code, .bool r.more] ∧ Keep Any w w'
theorem toReply_calls (r : Rp) (cs : List Value) (w : World) (hr : RR w Any r cs) (hz : r.sz ≤ 1048576) :
    Calls Tryd.prog 11 #[.agg cs.toArray] w (GotReply r w) := by
  obtain ⟨s1, s2, rfl, h1, h2, h3, h4⟩ := hr
  have H3 := Lib.hid h3
  have H4 := Lib.hid h4
  have I1 := Lib.hid fun s w => toStrs_calls r.names s w
  have I2 := Lib.hid (toVals_calls r.row)
  have z1 : r.names.length ≤ 1048576 := by unfold Rp.sz wStrs at hz; omega
  have z2 : V.szs r.row + r.row.length ≤ 1048576 := by unfold Rp.sz at hz; omega
  clear h3 h4 hz
  go_enter Tryd.func11, Tryd.ntmps11
  go_wp2_with (first | (go_at_call 29; refine (I1.out _ _ (Strs.keep H3.out ((((Keep.refl _ _).alloc _).alloc _).alloc _)) z1).mono ?_; rintro e w2 ⟨a1, c1, rfl, hs1, hK⟩; obtain ⟨hc, hf⟩ := hK.cells; have z0 : w.heap.size < w2.heap.size := (by have := hK.size; simp at this; omega); have z4 : w.heap.size + 1 < w2.heap.size := (by have := hK.size; simp at this; omega); have z5 : w.heap.size + 1 + 1 < w2.heap.size := (by have := hK.size; simp at this; omega)) | (go_at_call 30; refine (I2.out _ _ (Vals.keep H4.out (Keep.set (Keep.trans ((((Keep.refl _ _).alloc _).alloc _).alloc _) hK) _ _ (fun h _ => by simp at h; omega))) z2).mono ?_; rintro e w3 ⟨a2, c2, rfl, hs2, hK2⟩; obtain ⟨hc2, hf2⟩ := hK2.cells))
  refine bodyPost_ret (v := .agg #[.int .i64 r.kind, .slice a1 r.names.length c1, .slice a2 r.row.length c2, .int .i64 r.code, .bool r.more]) (by simp [results, Tryd.results11, go_sem, hc, hf, hc2, hf2, z0, z4, z5]) rfl ⟨a1, c1, a2, c2, rfl, ⟨_, _, rfl, h1, h2, ?_, ?_⟩, ?_⟩
  all_goals go_light
  · have hs1' := Strs.keep hs1 (w' := w2.setCell ⟨w.heap.size + 1 + 1, 1, none⟩ (.slice a1 r.names.length c1)) ((Keep.refl _ _).set _ _ (fun _ h => by simp [From] at h; omega))
    have hs1'' := Strs.keep hs1' hK2.any
    refine Strs.mono (Strs.keep hs1'' (w' := _) ?_) fun j _ hj => ?_
    · repeat (first | (with_reducible exact Keep.refl _ _) | (refine Keep.set ?_ _ _ (fun _ h => by simp [From] at h; omega)))
    · simp only [From, World.size_alloc] at hj ⊢; omega
  · refine Vals.mono (Vals.keep hs2 (w' := _) ?_) fun j _ hj => ?_
    · repeat (first | (with_reducible exact Keep.refl _ _) | (refine Keep.set ?_ _ _ (fun _ h => by simp [From] at h; omega)))
    · simp only [From, World.size_setCell] at hj ⊢; omega
  · have hK1 := Keep.trans (Keep.set (Keep.trans ((((Keep.refl Any w).alloc _).alloc _).alloc _) hK) ⟨w.heap.size + 1 + 1, 1, none⟩ (.slice a1 r.names.length c1) (fun h _ => by simp at h; omega)) hK2
    repeat (first | (with_reducible exact hK1) | (refine Keep.set ?_ _ _ (fun h _ => by simp at h; omega)))
theorem eqReply_calls (r : Rp) (cs ds : List Value) (w : World) (hr : RR w Any r cs) (hq : RR w Any r ds) :
    Calls Tryd.prog 13 #[.agg cs.toArray, .agg ds.toArray] w (Tells true w) := by
  obtain ⟨s1, s2, rfl, h1, h2, h3, h4⟩ := hr
  obtain ⟨t1, t2, rfl, _, _, g3, g4⟩ := hq
  have H3 := Lib.hid h3
  have H4 := Lib.hid h4
  have G3 := Lib.hid g3
  have G4 := Lib.hid g4
  clear h3 h4 g3 g4
  have I1 := Lib.hid fun s t w => eqStrs_calls r.names s t w
  have I2 := Lib.hid (eqVals_calls r.row)
  have b1 : (r.kind != r.kind) = false := by simp
  have b2 : (r.code != r.code) = false := by simp
  have b3 : (r.more != r.more) = false := by simp
  go_enter Tryd.func13, Tryd.ntmps13
  go_wp2_with (first | (go_at_call 33; refine (I1.out _ _ _ (Strs.keep H3.out (((Keep.refl _ _).alloc _).alloc _)) (Strs.keep G3.out (((Keep.refl _ _).alloc _).alloc _))).mono ?_; rintro e w2 ⟨rfl, hK⟩; obtain ⟨hc, hf⟩ := hK.cells; have z0 : w.heap.size < w2.heap.size := (by have := hK.size; simp at this; omega); have z1 : w.heap.size + 1 < w2.heap.size := (by have := hK.size; simp at this; omega)) | (go_at_call 34; refine (I2.out _ _ _ (Vals.keep H4.out ((((Keep.refl _ _).alloc _).alloc _).trans hK)) (Vals.keep G4.out ((((Keep.refl _ _).alloc _).alloc _).trans hK))).mono ?_; rintro e w3 ⟨rfl, hK2⟩; obtain ⟨hc2, hf2⟩ := hK2.cells))
  go_ret
  exact ⟨rfl, ((((Keep.refl _ _).alloc _).alloc _).trans hK).trans hK2⟩
end Go.Proofs.YtjgnnobfaphkeaaDoor

/- Which values are ok: the reference's test, for every value. Which values are ok: the reference's ValueOk. For every value. The program's ValueGet: the value whose text it is. For every text of at most 2^61 bytes. The reference's ValueGet: the value whose text it is. For every text of at most 2^61 bytes. strings.Cut at one byte: the text ahead of it and behind. For every text. Which replies have a form, as a plain function. A reply's text, as a plain function. For every reply. -/
import Derived.Test.YtjgnnobfaphkeaaDoorMLawMsgGet5
import Derived.Test.YtjgnnobfaphkeaaDoorMLawMsgGet7
import Derived.Test.YtjgnnobfaphkeaaDoorMLawMsgGet8
import Derived.Test.YtjgnnobfaphkeaaDoorMLawMsgGet6
import Derived.Test.YtjgnnobfaphkeaaDoorMLawMsgGet1
import Derived.Test.YtjgnnobfaphkeaaDoorMLawMsgGet2
/- Which values are ok: the reference's test, for every value. -/
namespace Go.Proofs.YtjgnnobfaphkeaaDoor
open Go.RowKit
set_option linter.unusedVariables false
set_option linter.unusedSimpArgs false

theorem l1Text_calls (t : ByteArray) (w : World) (hs : Fits t) :
    Calls Tryd.prog 94 #[.string t] w (Quiet (textOk t) w) := by
  go_enter Tryd.func94, Tryd.ntmps94
  go_wp2
  unfold Fits at hs
  go_loop [3] (fun i => ∃ k : Nat, k ≤ t.size ∧ i = .int .i64 k ∧ ∀ j, j < k → ¬ badB t j) (fun i => t.size - (intOf i).toNat)
  case atStart => exact ⟨0, by omega, rfl, fun j hj => by omega⟩
  case round =>
    obtain ⟨k, hk, rfl, hg⟩ := hrel
    have HG := Lib.hid hg
    clear hg
    by_cases hlt : k < t.size
    · have e1 := at_eq t k hlt
      have e2 := at_lt t k
      go_wp2
      · go_ret
        exact ⟨by rw [textOk_bad hlt (by unfold badB; have := ‹_ ∨ (((at_ t k : Nat) : Int) == 39) = true›; simp at this; omega)]; rfl, rfl⟩
      · have g := ‹_ ∧ (((at_ t k : Nat) : Int) == 39) = false›
        go_round
        case rel => exact ⟨k + 1, by omega, by go_num, fun j hj => by rcases Nat.lt_succ_iff_lt_or_eq.1 hj with hj | rfl; exact HG.out j hj; unfold badB; simp at g; omega⟩
        case measure => simp [intOf]; omega
      all_goals
        go_ret
        exact ⟨by rw [textOk_bad hlt (by unfold badB; omega)]; rfl, rfl⟩
    · by_cases h16 : t.size ≤ 16
      · have hr := textOk_all h16 (fun j hj => HG.out j (by omega))
        have HR := Lib.hid hr
        clear hr
        go_wp2
        go_ret
        exact ⟨by rw [HR.out]; simp; omega, rfl⟩
      · go_wp2
        go_ret
        exact ⟨by rw [textOk_long (by omega)]; simp; omega, rfl⟩

set_option maxRecDepth 20000 in
set_option maxHeartbeats 400000 in
theorem l1Ok_list (d : Nat) (ih : ∀ (v : V) (cs : List Value) (w : World), VR w Any v cs → 1 ≤ d → d ≤ 3 → Calls Tryd.prog 81 #[.agg cs.toArray, .int .i64 d] w (Tells (okV d v) w))
    (num : Int) (text : ByteArray) (list : List V) (w : World) (a : Option Addr) (c : Nat) (h2 : I64 num) (h3 : Fits text) (hd : d + 1 ≤ 3) (hs : Sl 4 (VR w Any) w Any (.slice a list.length c) list) (hc : list.length ≤ 9223372036854775807) :
    Calls Tryd.prog 81 #[.agg #[.int .i64 4, .int .i64 num, .string text, .slice a list.length c], .int .i64 (d + 1 : Nat)] w (Tells (okV (d + 1) ⟨4, num, text, list⟩) w) := by
  have HS := Lib.hid hs
  have IH := Lib.hid ih
  clear hs ih
  have e0 : okV (d + 1) ⟨4, num, text, list⟩ = (num == 0 && (text.toList == ([] : List UInt8)) && decide ((list.length : Int) ≤ 6) && list.all (okV d)) := rfl
  have E0 := Lib.hid e0
  clear e0
  by_cases hd1 : d = 0 ∧ list ≠ []
  · obtain ⟨rfl, hne⟩ := hd1
    obtain ⟨x, r, rfl⟩ := List.exists_cons_of_ne_nil hne
    have e1 : (x :: r).all (okV 0) = false := rfl
    have E1 := Lib.hid e1
    have hl : (0 : Int) < (((x :: r).length : Nat) : Int) := by simp only [List.length_cons]; omega
    generalize (x :: r) = list at *
    clear e1 hne IH HS
    by_cases ht : text.toList = []
    all_goals
      go_enter Tryd.func81, Tryd.ntmps81
      go_wp2
      go_loopg [6] 2 (fun g i wr => i = .int .i64 0 ∧ wr.heap[w.heap.size]? = some (.cells #[.int .i64 4, .int .i64 num, .string text, .slice a list.length c] 72 (0, 0)) ∧ Keep Any w wr)
      case atStart => exact ⟨rfl, blk_new _ _, by repeat (first | exact Keep.refl _ _ | apply Keep.drewN | apply Keep.drew | apply Keep.alloc)⟩
      case round =>
        obtain ⟨rfl, hb, hK⟩ := hrel
        have b3 : wr.cell? ⟨w.heap.size, 3, none⟩ = some (.slice a list.length c) := (blk_cell hb 3).trans rfl
        clear hb
        go_wp2
        go_ret
        exact ⟨congrArg (fun b => Ending.returned (.bool b)) (by rw [E0.out, E1.out]; simp), hK⟩
  · have hd2 : 1 ≤ d ∨ list = [] := by
      by_cases h : list = []
      · exact .inr h
      · exact .inl (by have : ¬ d = 0 := fun e => hd1 ⟨e, h⟩; omega)
    clear hd1
    by_cases ht : text.toList = []
    all_goals
      go_enter Tryd.func81, Tryd.ntmps81
      go_wp2
      go_loopg [6] (list.length + 1) (fun g i wr => ∃ k : Nat, k ≤ list.length ∧ i = .int .i64 k ∧ g = list.length + 1 - k ∧ (∀ j x, j < k → list[j]? = some x → okV d x = true) ∧ wr.heap[w.heap.size]? = some (.cells #[.int .i64 4, .int .i64 num, .string text, .slice a list.length c] 72 (0, 0)) ∧ Keep Any w wr)
      case atStart => exact ⟨0, by omega, rfl, rfl, fun j x hj => by omega, blk_new _ _, by repeat (first | exact Keep.refl _ _ | apply Keep.drewN | apply Keep.drew | apply Keep.alloc)⟩
      case round =>
        obtain ⟨k, hk, rfl, hg, hall, hb, hK⟩ := hrel
        have b1 : wr.cell? ⟨w.heap.size, 1, none⟩ = some (.int .i64 num) := (blk_cell hb 1).trans rfl
        have b2 : wr.cell? ⟨w.heap.size, 2, none⟩ = some (.string text) := (blk_cell hb 2).trans rfl
        have b3 : wr.cell? ⟨w.heap.size, 3, none⟩ = some (.slice a list.length c) := (blk_cell hb 3).trans rfl
        have HB := Lib.hid hb
        have HG := Lib.hid hg
        have HA := Lib.hid hall
        clear hg hall hb
        by_cases hlt : k < list.length
        · have hx : list[k]? = some list[k] := List.getElem?_eq_getElem hlt
          have hd3 : 1 ≤ d := by rcases hd2 with h | h; exact h; subst h; simp at hlt
          have HX := Lib.hid hx
          obtain ⟨ad, sa, sc, rfl, hvx, c0, c1, c2, c3⟩ := vals_at HS.out hK hx
          generalize list[k] = x at *
          have HV := Lib.hid hvx
          have D2 := Lib.hid hd2
          clear hx hvx hd2
          go_wp2_with (go_at_call 81; refine (IH.out _ _ _ HV.out hd3 (by omega)).mono ?_; rintro e w2 ⟨rfl, hK2⟩; rcases hq : okV d x with _ | _ <;> (have HQ := Lib.hid hq; clear hq))
          · have g : okV d x = false := HQ.out
            go_ret
            exact ⟨congrArg (fun b => Ending.returned (.bool b)) (by rw [E0.out, List.all_eq_false.2 ⟨x, List.mem_of_getElem? HX.out, by rw [g]; decide⟩]; simp), hK.trans hK2⟩
          · have g : okV d x = true := HQ.out
            go_roundg (gk - 1)
            case rel => exact ⟨k + 1, by omega, by go_num, by have := HG.out; omega, fun j y hj hy => by rcases Nat.lt_succ_iff_lt_or_eq.1 hj with hj | rfl; exact HA.out j y hj hy; rw [HX.out] at hy; cases hy; exact g, blk_keep hK2 HB.out trivial, hK.trans hK2⟩
            case measure => have := HG.out; omega
        · have e1 : list.all (okV d) = true := List.all_eq_true.2 fun x hx => by
            obtain ⟨j, hj, rfl⟩ := List.getElem_of_mem hx
            exact HA.out j _ (by omega) (List.getElem?_eq_getElem hj)
          have E1 := Lib.hid e1
          have D2 := Lib.hid hd2
          clear e1 hd2
          go_wp2
          all_goals
            go_ret
            exact ⟨congrArg (fun b => Ending.returned (.bool b)) (by rw [E0.out, E1.out]; simp [*]), hK⟩

theorem okV_one (d : Nat) (num : Int) (text : ByteArray) (list : List V) : okV (d + 1) ⟨1, num, text, list⟩ = (decide (0 ≤ num) && decide (num ≤ 1) && V.bare ⟨1, num, text, list⟩) := by
  have : (num == 0 || num == 1) = (decide (0 ≤ num) && decide (num ≤ 1)) := by
    rw [Bool.eq_iff_iff]; simp; omega
  simp only [okV, this]; rfl
set_option maxRecDepth 20000 in
set_option maxHeartbeats 400000 in
theorem l1Ok_calls (d : Nat) : ∀ (v : V) (cs : List Value) (w : World), VR w Any v cs → 1 ≤ d → d ≤ 3 →
    Calls Tryd.prog 81 #[.agg cs.toArray, .int .i64 d] w (Tells (okV d v) w) := by
  induction d with
  | zero => intro v cs w hv h1 hd; omega
  | succ d ih =>
  intro v cs w hv hd0 hd
  obtain ⟨s, rfl, h1, h2, h3, hs0⟩ := VR.iff.1 hv
  obtain ⟨kind, num, text, list⟩ := v
  have hs := hs0
  obtain ⟨a, c, rfl, hc, hm, _⟩ := hs
  simp only at *
  by_cases k0 : kind = 0
  · subst k0
    go_enter Tryd.func81, Tryd.ntmps81
    go_wp2
    all_goals
      go_ret
      exact ⟨congrArg (fun b => Ending.returned (.bool b)) (by simp [okV, V.bare, *] <;> (intros; omega)), by repeat (first | exact Keep.refl _ _ | apply Keep.drewN | apply Keep.drew | apply Keep.alloc)⟩
  by_cases k1 : kind = 1
  · subst k1
    go_enter Tryd.func81, Tryd.ntmps81
    go_wp2
    all_goals
      go_ret
      exact ⟨congrArg (fun b => Ending.returned (.bool b)) (by rw [okV_one]; simp [V.bare, *] <;> (intros; omega)), by repeat (first | exact Keep.refl _ _ | apply Keep.drewN | apply Keep.drew | apply Keep.alloc)⟩
  by_cases k2 : kind = 2
  · subst k2
    go_enter Tryd.func81, Tryd.ntmps81
    go_wp2
    all_goals
      go_ret
      exact ⟨congrArg (fun b => Ending.returned (.bool b)) (by simp [okV, V.bare, *] <;> (intros; omega)), by repeat (first | exact Keep.refl _ _ | apply Keep.drewN | apply Keep.drew | apply Keep.alloc)⟩
  by_cases k5 : kind = 5
  · subst k5
    go_enter Tryd.func81, Tryd.ntmps81
    go_wp2
    all_goals
      go_ret
      exact ⟨congrArg (fun b => Ending.returned (.bool b)) (by simp [okV, V.bare, *] <;> (intros; omega)), by repeat (first | exact Keep.refl _ _ | apply Keep.drewN | apply Keep.drew | apply Keep.alloc)⟩
  by_cases k6 : kind = 6
  · subst k6
    go_enter Tryd.func81, Tryd.ntmps81
    go_wp2
    all_goals
      go_ret
      exact ⟨congrArg (fun b => Ending.returned (.bool b)) (by simp [okV, V.bare, *] <;> (intros; omega)), by repeat (first | exact Keep.refl _ _ | apply Keep.drewN | apply Keep.drew | apply Keep.alloc)⟩
  by_cases k3 : kind = 3
  · subst k3
    have TF := Lib.hid (l1Text_calls text)
    go_enter Tryd.func81, Tryd.ntmps81
    go_wp2_with (go_at_call 94; refine (TF.out _ h3).mono ?_; rintro e w' ⟨rfl, rfl⟩)
    all_goals
      go_ret
      exact ⟨congrArg (fun b => Ending.returned (.bool b)) (by simp [okV, V.bare, *] <;> (intros; omega)), by repeat (first | exact Keep.refl _ _ | apply Keep.drewN | apply Keep.drew | apply Keep.alloc)⟩
  by_cases k4 : kind = 4
  · subst k4
    exact l1Ok_list d ih num text list w a c h2 h3 hd hs0 (by omega)
  · have b0 : (kind == 0) = false := by simpa using k0
    have b1 : (kind == 1) = false := by simpa using k1
    have b2 : (kind == 2) = false := by simpa using k2
    have b3 : (kind == 3) = false := by simpa using k3
    have b4 : (kind == 4) = false := by simpa using k4
    have b5 : (kind == 5) = false := by simpa using k5
    have b6 : (kind == 6) = false := by simpa using k6
    go_enter Tryd.func81, Tryd.ntmps81
    go_wp2
    all_goals
      go_ret
      exact ⟨congrArg (fun b => Ending.returned (.bool b)) (by simp [okV, *]), (Keep.refl _ _).alloc _⟩
end Go.Proofs.YtjgnnobfaphkeaaDoor

/- Which values are ok: the reference's ValueOk. For every value. -/
namespace Go.Proofs.YtjgnnobfaphkeaaDoor
open Go.RowKit
set_option linter.unusedVariables false
set_option linter.unusedSimpArgs false

theorem specValueOk_calls (v : V) (cs : List Value) (w : World) (hv : VR w Any v cs) : Calls Tryd.prog 56 #[.agg cs.toArray] w (Tells (okV 3 v) w) := by
  have IH := Lib.hid fun w => l1Ok_calls 3 v cs w
  have HV := Lib.hid hv
  obtain ⟨s, rfl, _⟩ := VR.iff.1 hv
  clear hv
  go_enter Tryd.func56, Tryd.ntmps56
  go_wp2_with (go_at_call 81; refine (IH.out _ (HV.out.keep ((Keep.refl _ _).alloc _)) (by omega) (by omega)).mono ?_; rintro e w' ⟨rfl, hK⟩)
  go_ret
  exact ⟨rfl, ((Keep.refl _ _).alloc _).trans hK⟩
end Go.Proofs.YtjgnnobfaphkeaaDoor

/- The program's ValueGet: the value whose text it is. For every text of at most 2^61 bytes. -/
namespace Go.Proofs.YtjgnnobfaphkeaaDoor
open Go.RowKit
set_option linter.unusedVariables false
set_option linter.unusedSimpArgs false
theorem valGet_none1 {l : List UInt8} (h : rdV 3 l = none) : valGet l = none := by unfold valGet; rw [h]
theorem valGet_none2 {l r : List UInt8} {v : V} (h : rdV 3 l = some (v, r)) (hr : r ≠ []) : valGet l = none := by
  unfold valGet; rw [h]
  cases r with
  | nil => exact absurd rfl hr
  | cons b r => rfl
theorem valGet_some1 {l : List UInt8} {v : V} (h : rdV 3 l = some (v, [])) : valGet l = if okV 3 v = true ∧ v.put = l then some v else none := by unfold valGet; rw [h]
theorem put_str (v : V) (t : ByteArray) : v.put = t.data.toList ↔ (⟨v.put.toArray⟩ : ByteArray) = t := by
  constructor
  · intro h; rw [h, bytes_eta]
  · rintro rfl; simp
set_option maxHeartbeats 2000000 in
set_option maxRecDepth 20000 in
theorem valueGet_calls (t : ByteArray) (w : World) (ht : t.size ≤ 2305843009213693952) (hT : Tab w) : Calls Tryd.prog 74 #[.string t] w (GotVG (valGet t.data.toList) w) := by
  have HT := Lib.hid hT
  clear hT
  obtain ⟨o, ho⟩ : ∃ o, o = valGet t.data.toList := ⟨_, rfl⟩
  rw [← ho]
  rcases hr : rdV 3 t.data.toList with _ | ⟨v1, r1⟩
  · rw [valGet_none1 hr] at ho
    have HO := Lib.hid ho
    have RN := Lib.hid (valueAt3.none' (t := t) (b := 0) (by omega) ht (by rw [List.drop_zero]; exact hr))
    clear ho hr
    have q1 : ((-1 : Int) != (t.size : Int)) = true := by rw [bne_iff_ne]; omega
    go_enter Tryd.func74, Tryd.ntmps74
    go_wp2_with (go_at_call 89; refine (RN.out _).mono ?_; rintro e w2 ⟨v, a2, c2, rfl, hK⟩; obtain ⟨hc, hf⟩ := hK.cells; have z0 : w.heap.size < w2.heap.size := (by have := hK.size; simp at this; omega))
    refine bodyPost_ret (v := .tuple #[.agg #[.int .i64 0, .int .i64 0, .string ⟨#[]⟩, .slice none 0 0], .bool false]) (by simp [results, Tryd.results74, go_sem, hc, hf, z0]) rfl ?_
    exact ⟨(by have hK1 := keep_a hK; repeat (first | (with_reducible exact hK1) | (refine Keep.set ?_ _ _ (fun h _ => Nat.lt_irrefl _ h)) | (refine Keep.alloc ?_ _))), .inl ⟨HO.out, rfl⟩⟩
  · by_cases hne : r1 = []
    · subst hne
      rw [valGet_some1 hr] at ho
      have RS := Lib.hid (valueAt3.some' (t := t) (b := 0) (by omega) ht (by rw [List.drop_zero]; exact hr))
      have VO := Lib.hid (valueOk_calls v1)
      have PO := Lib.hid (putOf_calls v1)
      clear hr
      rcases hok : okV 3 v1 with _ | _
      · rw [hok, if_neg (by simp)] at ho
        have HO := Lib.hid ho
        have HOK := Lib.hid hok
        clear ho hok
        go_enter Tryd.func74, Tryd.ntmps74
        go_wp2_with (first | (go_at_call 89; refine (RS.out _).mono ?_; rintro e w2 ⟨a2, c2, k, rfl, hK, hS2, hk, hkr⟩; have HS2 := Lib.hid hS2; have HK2 := Lib.hid (keep_a hK); have HZ := Lib.hid (blk_keep hK (blk_new _ _) trivial); obtain ⟨hc, hf⟩ := hK.cells; have z0 : w.heap.size < w2.heap.size := (by have := hK.size; simp at this; omega); clear hS2; obtain rfl : k = t.size := (by have := drop_len t k; rw [hkr] at this; simp only [List.length_nil] at this; omega); clear hkr) | (go_at_call 60; refine (VO.out _ _ (HS2.out.vr.any.keep ((Keep.refl _ _).alloc _))).mono ?_; rintro e w4 ⟨rfl, hK4⟩; rw [HOK.out]; have HK4 := Lib.hid ((HK2.out.alloc _).trans hK4); have HA4 := Lib.hid (((Keep.refl Any w2).alloc _).trans hK4); have HB4 := Lib.hid (blk_keep hK4 (blk_new _ _) trivial); obtain ⟨x0, x1, x2, x3⟩ := at4 HB4.out; have HZ4 := Lib.hid (blk_keep hK4 (blk_alloc HZ.out _) trivial); clear hc hf z0; obtain ⟨hc0, hc1, hc2, hc3⟩ := at4 HZ4.out; have hf0 := blk_frozen HZ4.out 0; have hf1 := blk_frozen HZ4.out 1; have hf2 := blk_frozen HZ4.out 2; have hf3 := blk_frozen HZ4.out 3; have z4 : w.heap.size < w4.heap.size := blk_lt HZ4.out; have z5 : w2.heap.size < w4.heap.size := blk_lt HB4.out))
        refine bodyPost_ret (v := .tuple #[.agg #[.int .i64 0, .int .i64 0, .string ⟨#[]⟩, .slice none 0 0], .bool false]) (by simp [results, Tryd.results74, go_sem, hc0, hc1, hc2, hc3, hf0, hf1, hf2, hf3, z4]) rfl ?_
        exact ⟨(by have hK1 := HK4.out; repeat (first | (with_reducible exact hK1) | (refine Keep.set ?_ _ _ (fun h _ => Nat.lt_irrefl _ h)) | (refine Keep.alloc ?_ _))), .inl ⟨HO.out, rfl⟩⟩
      · obtain ⟨p, hp⟩ : ∃ p, (⟨v1.put.toArray⟩ : ByteArray) = p := ⟨_, rfl⟩
        have HP := Lib.hid (show Ending.returned (.string ⟨v1.put.toArray⟩) = .returned (.string p) by rw [hp])
        by_cases hpt : p = t
        · rw [hok, if_pos ⟨rfl, (put_str v1 t).2 (hp.trans hpt)⟩] at ho
          subst hpt
          have HO := Lib.hid ho
          have HOK := Lib.hid hok
          have b1 : (p.toList != p.toList) = false := by simp
          clear ho hok hp
          go_enter Tryd.func74, Tryd.ntmps74
          go_wp2_with (first | (go_at_call 89; refine (RS.out _).mono ?_; rintro e w2 ⟨a2, c2, k, rfl, hK, hS2, hk, hkr⟩; have HS2 := Lib.hid hS2; have HK2 := Lib.hid (keep_a hK); have HZ := Lib.hid (blk_keep hK (blk_new _ _) trivial); obtain ⟨hc, hf⟩ := hK.cells; have z0 : w.heap.size < w2.heap.size := (by have := hK.size; simp at this; omega); clear hS2; obtain rfl : k = p.size := (by have := drop_len p k; rw [hkr] at this; simp only [List.length_nil] at this; omega); clear hkr) | (go_at_call 60; refine (VO.out _ _ (HS2.out.vr.any.keep ((Keep.refl _ _).alloc _))).mono ?_; rintro e w4 ⟨rfl, hK4⟩; rw [HOK.out]; have HK4 := Lib.hid ((HK2.out.alloc _).trans hK4); have HA4 := Lib.hid (((Keep.refl Any w2).alloc _).trans hK4); have HB4 := Lib.hid (blk_keep hK4 (blk_new _ _) trivial); obtain ⟨x0, x1, x2, x3⟩ := at4 HB4.out; have HZ4 := Lib.hid (blk_keep hK4 (blk_alloc HZ.out _) trivial); clear hc hf z0; obtain ⟨hc0, hc1, hc2, hc3⟩ := at4 HZ4.out; have hf0 := blk_frozen HZ4.out 0; have hf1 := blk_frozen HZ4.out 1; have hf2 := blk_frozen HZ4.out 2; have hf3 := blk_frozen HZ4.out 3; have z4 : w.heap.size < w4.heap.size := blk_lt HZ4.out; have z5 : w2.heap.size < w4.heap.size := blk_lt HB4.out) | (go_at_call 41; refine (PO.out _ _ (HS2.out.vr.any.keep HA4.out) HOK.out (HT.out.keep HK4.out trivial)).mono ?_; rintro e w5 ⟨rfl, hK5⟩; rw [HP.out]; have HK5 := Lib.hid (HK4.out.trans hK5); have HA5 := Lib.hid (HA4.out.trans hK5); have HB5 := Lib.hid (blk_keep hK5 HB4.out trivial); obtain ⟨y0, y1, y2, y3⟩ := at4 HB5.out; have HZ5 := Lib.hid (blk_keep hK5 HZ4.out trivial); clear hc0 hc1 hc2 hc3 hf0 hf1 hf2 hf3 x0 x1 x2 x3 z4 z5; obtain ⟨hc0, hc1, hc2, hc3⟩ := at4 HZ5.out; have hf0 := blk_frozen HZ5.out 0; have hf1 := blk_frozen HZ5.out 1; have hf2 := blk_frozen HZ5.out 2; have hf3 := blk_frozen HZ5.out 3; have z6 : w.heap.size < w5.heap.size := blk_lt HZ5.out; have z7 : w2.heap.size < w5.heap.size := blk_lt HB5.out))
          refine bodyPost_ret (v := .tuple #[.agg #[.int .i64 v1.kind, .int .i64 v1.num, .string v1.text, .slice a2 v1.list.length c2], .bool true]) (by simp [results, Tryd.results74, go_sem, hc0, hc1, hc2, hc3, hf0, hf1, hf2, hf3, z6]) rfl ?_
          refine ⟨(by have hK1 := HK5.out; repeat (first | (with_reducible exact hK1) | (refine Keep.set ?_ _ _ (fun h _ => Nat.lt_irrefl _ h)))), .inr ⟨v1, a2, c2, HO.out, rfl, ?_⟩⟩
          refine SV.mono (SV.keep (HS2.out.keep HA5.out.any) (w' := _) ?_) fun j hj => ⟨by have h1 := hj.1; rw [World.size_alloc] at h1; omega, by have h2 := hj.2; have := HA5.out.size; simp; omega⟩
          repeat (first | (with_reducible exact Keep.refl _ _) | (refine Keep.set ?_ _ _ (fun _ h => by have h1 := h.1; rw [World.size_alloc] at h1; exact Nat.not_succ_le_self _ h1)))
        · rw [hok, if_neg (fun h => hpt (hp.symm.trans ((put_str v1 t).1 h.2)))] at ho
          have HO := Lib.hid ho
          have HOK := Lib.hid hok
          have b1 : (p.toList != t.toList) = true := by rw [bne_iff_ne, ByteArray.toList_eq, ByteArray.toList_eq]; exact fun e => hpt (ByteArray.ext (Array.ext' e))
          have b2 : (p.toList == t.toList) = false := by rw [bne] at b1; simpa using b1
          have b3 : ¬ p.toList = t.toList := by simpa using b2
          clear ho hok hp
          go_enter Tryd.func74, Tryd.ntmps74
          go_wp2_with (first | (go_at_call 89; refine (RS.out _).mono ?_; rintro e w2 ⟨a2, c2, k, rfl, hK, hS2, hk, hkr⟩; have HS2 := Lib.hid hS2; have HK2 := Lib.hid (keep_a hK); have HZ := Lib.hid (blk_keep hK (blk_new _ _) trivial); obtain ⟨hc, hf⟩ := hK.cells; have z0 : w.heap.size < w2.heap.size := (by have := hK.size; simp at this; omega); clear hS2; obtain rfl : k = t.size := (by have := drop_len t k; rw [hkr] at this; simp only [List.length_nil] at this; omega); clear hkr) | (go_at_call 60; refine (VO.out _ _ (HS2.out.vr.any.keep ((Keep.refl _ _).alloc _))).mono ?_; rintro e w4 ⟨rfl, hK4⟩; rw [HOK.out]; have HK4 := Lib.hid ((HK2.out.alloc _).trans hK4); have HA4 := Lib.hid (((Keep.refl Any w2).alloc _).trans hK4); have HB4 := Lib.hid (blk_keep hK4 (blk_new _ _) trivial); obtain ⟨x0, x1, x2, x3⟩ := at4 HB4.out; have HZ4 := Lib.hid (blk_keep hK4 (blk_alloc HZ.out _) trivial); clear hc hf z0; obtain ⟨hc0, hc1, hc2, hc3⟩ := at4 HZ4.out; have hf0 := blk_frozen HZ4.out 0; have hf1 := blk_frozen HZ4.out 1; have hf2 := blk_frozen HZ4.out 2; have hf3 := blk_frozen HZ4.out 3; have z4 : w.heap.size < w4.heap.size := blk_lt HZ4.out; have z5 : w2.heap.size < w4.heap.size := blk_lt HB4.out) | (go_at_call 41; refine (PO.out _ _ (HS2.out.vr.any.keep HA4.out) HOK.out (HT.out.keep HK4.out trivial)).mono ?_; rintro e w5 ⟨rfl, hK5⟩; rw [HP.out]; have HK5 := Lib.hid (HK4.out.trans hK5); have HA5 := Lib.hid (HA4.out.trans hK5); have HB5 := Lib.hid (blk_keep hK5 HB4.out trivial); obtain ⟨y0, y1, y2, y3⟩ := at4 HB5.out; have HZ5 := Lib.hid (blk_keep hK5 HZ4.out trivial); clear hc0 hc1 hc2 hc3 hf0 hf1 hf2 hf3 x0 x1 x2 x3 z4 z5; obtain ⟨hc0, hc1, hc2, hc3⟩ := at4 HZ5.out; have hf0 := blk_frozen HZ5.out 0; have hf1 := blk_frozen HZ5.out 1; have hf2 := blk_frozen HZ5.out 2; have hf3 := blk_frozen HZ5.out 3; have z6 : w.heap.size < w5.heap.size := blk_lt HZ5.out; have z7 : w2.heap.size < w5.heap.size := blk_lt HB5.out))
          refine bodyPost_ret (v := .tuple #[.agg #[.int .i64 0, .int .i64 0, .string ⟨#[]⟩, .slice none 0 0], .bool false]) (by simp [results, Tryd.results74, go_sem, hc0, hc1, hc2, hc3, hf0, hf1, hf2, hf3, z6]) rfl ?_
          exact ⟨(by have hK1 := HK5.out; repeat (first | (with_reducible exact hK1) | (refine Keep.set ?_ _ _ (fun h _ => Nat.lt_irrefl _ h)) | (refine Keep.alloc ?_ _))), .inl ⟨HO.out, rfl⟩⟩
    · rw [valGet_none2 hr hne] at ho
      have HO := Lib.hid ho
      have RS := Lib.hid (valueAt3.some' (t := t) (b := 0) (by omega) ht (by rw [List.drop_zero]; exact hr))
      clear ho hr
      go_enter Tryd.func74, Tryd.ntmps74
      go_wp2_with ((go_at_call 89; refine (RS.out _).mono ?_; rintro e w2 ⟨a2, c2, k, rfl, hK, hS2, hk, hkr⟩; have HS2 := Lib.hid hS2; have HK2 := Lib.hid (keep_a hK); have HZ := Lib.hid (blk_keep hK (blk_new _ _) trivial); obtain ⟨hc, hf⟩ := hK.cells; have z0 : w.heap.size < w2.heap.size := (by have := hK.size; simp at this; omega); clear hS2; have q1 : ((k : Int) != (t.size : Int)) = true := (by rw [bne_iff_ne]; intro h; exact hne (List.eq_nil_of_length_eq_zero (by rw [← hkr, drop_len]; omega))); clear hkr))
      refine bodyPost_ret (v := .tuple #[.agg #[.int .i64 0, .int .i64 0, .string ⟨#[]⟩, .slice none 0 0], .bool false]) (by simp [results, Tryd.results74, go_sem, hc, hf, z0]) rfl ?_
      exact ⟨(by have hK1 := keep_a hK; repeat (first | (with_reducible exact hK1) | (refine Keep.set ?_ _ _ (fun h _ => Nat.lt_irrefl _ h)) | (refine Keep.alloc ?_ _))), .inl ⟨HO.out, rfl⟩⟩
end Go.Proofs.YtjgnnobfaphkeaaDoor

/- The reference's ValueGet: the value whose text it is. For every text of at most 2^61 bytes. -/
namespace Go.Proofs.YtjgnnobfaphkeaaDoor
open Go.RowKit
set_option linter.unusedVariables false
set_option linter.unusedSimpArgs false
theorem svalGet_none1 {l : List UInt8} (h : sV 3 l = none) : svalGet l = none := by unfold svalGet; rw [h]
theorem svalGet_none2 {l r : List UInt8} {v : V} (h : sV 3 l = some (v, r)) (hr : r ≠ []) : svalGet l = none := by
  unfold svalGet; rw [h]
  cases r with
  | nil => exact absurd rfl hr
  | cons b r => rfl
theorem svalGet_some1 {l : List UInt8} {v : V} (h : sV 3 l = some (v, [])) : svalGet l = if okV 3 v = true ∧ v.put = l then some v else none := by unfold svalGet; rw [h]
set_option maxHeartbeats 2000000 in
set_option maxRecDepth 20000 in
theorem specValueGet_calls (t : ByteArray) (w : World) (ht : t.size ≤ 2305843009213693952) : Calls Tryd.prog 70 #[.string t] w (GotVG (svalGet t.data.toList) w) := by
  obtain ⟨o, ho⟩ : ∃ o, o = svalGet t.data.toList := ⟨_, rfl⟩
  rw [← ho]
  rcases hr : sV 3 t.data.toList with _ | ⟨v1, r1⟩
  · rw [svalGet_none1 hr] at ho
    have HO := Lib.hid ho
    have RN := Lib.hid (read3.none' (s := t) ht hr)
    clear ho hr
    
    by_cases hz : t.size = 0
    · have q1 : ((0 : Int) != (t.size : Int)) = false := by rw [hz]; rfl
      clear hz
      go_enter Tryd.func70, Tryd.ntmps70
      go_wp2_with (go_at_call 87; refine (RN.out _).mono ?_; rintro e w2 ⟨v, a2, c2, rfl, hK⟩; obtain ⟨hc, hf⟩ := hK.cells; have z0 : w.heap.size < w2.heap.size := (by have := hK.size; simp at this; omega))
      refine bodyPost_ret (v := .tuple #[.agg #[.int .i64 0, .int .i64 0, .string ⟨#[]⟩, .slice none 0 0], .bool false]) (by simp [results, Tryd.results70, go_sem, hc, hf, z0]) rfl ?_
      exact ⟨(by have hK1 := keep_a hK; repeat (first | (with_reducible exact hK1) | (refine Keep.set ?_ _ _ (fun h _ => Nat.lt_irrefl _ h)) | (refine Keep.alloc ?_ _))), .inl ⟨HO.out, rfl⟩⟩
    · have q1 : ((0 : Int) != (t.size : Int)) = true := by rw [bne_iff_ne]; omega
      clear hz
      go_enter Tryd.func70, Tryd.ntmps70
      go_wp2_with (go_at_call 87; refine (RN.out _).mono ?_; rintro e w2 ⟨v, a2, c2, rfl, hK⟩; obtain ⟨hc, hf⟩ := hK.cells; have z0 : w.heap.size < w2.heap.size := (by have := hK.size; simp at this; omega))
      refine bodyPost_ret (v := .tuple #[.agg #[.int .i64 0, .int .i64 0, .string ⟨#[]⟩, .slice none 0 0], .bool false]) (by simp [results, Tryd.results70, go_sem, hc, hf, z0]) rfl ?_
      exact ⟨(by have hK1 := keep_a hK; repeat (first | (with_reducible exact hK1) | (refine Keep.set ?_ _ _ (fun h _ => Nat.lt_irrefl _ h)) | (refine Keep.alloc ?_ _))), .inl ⟨HO.out, rfl⟩⟩
  · by_cases hne : r1 = []
    · subst hne
      rw [svalGet_some1 hr] at ho
      have RS := Lib.hid (read3.some' (s := t) ht hr)
      have VO := Lib.hid (specValueOk_calls v1)
      have PO := Lib.hid (l1Put_calls v1)
      clear hr
      rcases hok : okV 3 v1 with _ | _
      · rw [hok, if_neg (by simp)] at ho
        have HO := Lib.hid ho
        have HOK := Lib.hid hok
        clear ho hok
        go_enter Tryd.func70, Tryd.ntmps70
        go_wp2_with (first | (go_at_call 87; refine (RS.out _).mono ?_; rintro e w2 ⟨a2, c2, k, rfl, hK, hS2, hk0, hk, hkr⟩; have HS2 := Lib.hid hS2; have HK2 := Lib.hid (keep_a hK); have HZ := Lib.hid (blk_keep hK (blk_new _ _) trivial); obtain ⟨hc, hf⟩ := hK.cells; have z0 : w.heap.size < w2.heap.size := (by have := hK.size; simp at this; omega); clear hS2; obtain rfl : k = t.size := (by have := drop_len t k; rw [hkr] at this; simp only [List.length_nil] at this; omega); have q0 : ((t.size : Int) == 0) = false := (by rw [beq_eq_false_iff_ne]; omega); clear hkr) | (go_at_call 56; refine (VO.out _ _ (HS2.out.vr.any.keep ((Keep.refl _ _).alloc _))).mono ?_; rintro e w4 ⟨rfl, hK4⟩; rw [HOK.out]; have HK4 := Lib.hid ((HK2.out.alloc _).trans hK4); have HA4 := Lib.hid (((Keep.refl Any w2).alloc _).trans hK4); have HB4 := Lib.hid (blk_keep hK4 (blk_new _ _) trivial); obtain ⟨x0, x1, x2, x3⟩ := at4 HB4.out; have HZ4 := Lib.hid (blk_keep hK4 (blk_alloc HZ.out _) trivial); clear hc hf z0; obtain ⟨hc0, hc1, hc2, hc3⟩ := at4 HZ4.out; have hf0 := blk_frozen HZ4.out 0; have hf1 := blk_frozen HZ4.out 1; have hf2 := blk_frozen HZ4.out 2; have hf3 := blk_frozen HZ4.out 3; have z4 : w.heap.size < w4.heap.size := blk_lt HZ4.out; have z5 : w2.heap.size < w4.heap.size := blk_lt HB4.out))
        refine bodyPost_ret (v := .tuple #[.agg #[.int .i64 0, .int .i64 0, .string ⟨#[]⟩, .slice none 0 0], .bool false]) (by simp [results, Tryd.results70, go_sem, hc0, hc1, hc2, hc3, hf0, hf1, hf2, hf3, z4]) rfl ?_
        exact ⟨(by have hK1 := HK4.out; repeat (first | (with_reducible exact hK1) | (refine Keep.set ?_ _ _ (fun h _ => Nat.lt_irrefl _ h)) | (refine Keep.alloc ?_ _))), .inl ⟨HO.out, rfl⟩⟩
      · obtain ⟨p, hp⟩ : ∃ p, (⟨v1.put.toArray⟩ : ByteArray) = p := ⟨_, rfl⟩
        have HP := Lib.hid (show Ending.returned (.string ⟨v1.put.toArray⟩) = .returned (.string p) by rw [hp])
        by_cases hpt : p = t
        · rw [hok, if_pos ⟨rfl, (put_str v1 t).2 (hp.trans hpt)⟩] at ho
          subst hpt
          have HO := Lib.hid ho
          have HOK := Lib.hid hok
          have b1 : (p.toList != p.toList) = false := by simp
          clear ho hok hp
          go_enter Tryd.func70, Tryd.ntmps70
          go_wp2_with (first | (go_at_call 87; refine (RS.out _).mono ?_; rintro e w2 ⟨a2, c2, k, rfl, hK, hS2, hk0, hk, hkr⟩; have HS2 := Lib.hid hS2; have HK2 := Lib.hid (keep_a hK); have HZ := Lib.hid (blk_keep hK (blk_new _ _) trivial); obtain ⟨hc, hf⟩ := hK.cells; have z0 : w.heap.size < w2.heap.size := (by have := hK.size; simp at this; omega); clear hS2; obtain rfl : k = p.size := (by have := drop_len p k; rw [hkr] at this; simp only [List.length_nil] at this; omega); have q0 : ((p.size : Int) == 0) = false := (by rw [beq_eq_false_iff_ne]; omega); clear hkr) | (go_at_call 56; refine (VO.out _ _ (HS2.out.vr.any.keep ((Keep.refl _ _).alloc _))).mono ?_; rintro e w4 ⟨rfl, hK4⟩; rw [HOK.out]; have HK4 := Lib.hid ((HK2.out.alloc _).trans hK4); have HA4 := Lib.hid (((Keep.refl Any w2).alloc _).trans hK4); have HB4 := Lib.hid (blk_keep hK4 (blk_new _ _) trivial); obtain ⟨x0, x1, x2, x3⟩ := at4 HB4.out; have HZ4 := Lib.hid (blk_keep hK4 (blk_alloc HZ.out _) trivial); clear hc hf z0; obtain ⟨hc0, hc1, hc2, hc3⟩ := at4 HZ4.out; have hf0 := blk_frozen HZ4.out 0; have hf1 := blk_frozen HZ4.out 1; have hf2 := blk_frozen HZ4.out 2; have hf3 := blk_frozen HZ4.out 3; have z4 : w.heap.size < w4.heap.size := blk_lt HZ4.out; have z5 : w2.heap.size < w4.heap.size := blk_lt HB4.out) | (go_at_call 57; refine (PO.out _ _ (HS2.out.vr.any.keep HA4.out) HOK.out).mono ?_; rintro e w5 ⟨rfl, hK5⟩; rw [HP.out]; have HK5 := Lib.hid (HK4.out.trans hK5); have HA5 := Lib.hid (HA4.out.trans hK5); have HB5 := Lib.hid (blk_keep hK5 HB4.out trivial); obtain ⟨y0, y1, y2, y3⟩ := at4 HB5.out; have HZ5 := Lib.hid (blk_keep hK5 HZ4.out trivial); clear hc0 hc1 hc2 hc3 hf0 hf1 hf2 hf3 x0 x1 x2 x3 z4 z5; obtain ⟨hc0, hc1, hc2, hc3⟩ := at4 HZ5.out; have hf0 := blk_frozen HZ5.out 0; have hf1 := blk_frozen HZ5.out 1; have hf2 := blk_frozen HZ5.out 2; have hf3 := blk_frozen HZ5.out 3; have z6 : w.heap.size < w5.heap.size := blk_lt HZ5.out; have z7 : w2.heap.size < w5.heap.size := blk_lt HB5.out))
          refine bodyPost_ret (v := .tuple #[.agg #[.int .i64 v1.kind, .int .i64 v1.num, .string v1.text, .slice a2 v1.list.length c2], .bool true]) (by simp [results, Tryd.results70, go_sem, hc0, hc1, hc2, hc3, hf0, hf1, hf2, hf3, z6]) rfl ?_
          refine ⟨(by have hK1 := HK5.out; repeat (first | (with_reducible exact hK1) | (refine Keep.set ?_ _ _ (fun h _ => Nat.lt_irrefl _ h)))), .inr ⟨v1, a2, c2, HO.out, rfl, ?_⟩⟩
          refine SV.mono (SV.keep (HS2.out.keep HA5.out.any) (w' := _) ?_) fun j hj => ⟨by have h1 := hj.1; rw [World.size_alloc] at h1; omega, by have h2 := hj.2; have := HA5.out.size; simp; omega⟩
          repeat (first | (with_reducible exact Keep.refl _ _) | (refine Keep.set ?_ _ _ (fun _ h => by have h1 := h.1; rw [World.size_alloc] at h1; exact Nat.not_succ_le_self _ h1)))
        · rw [hok, if_neg (fun h => hpt (hp.symm.trans ((put_str v1 t).1 h.2)))] at ho
          have HO := Lib.hid ho
          have HOK := Lib.hid hok
          have b1 : (p.toList != t.toList) = true := by rw [bne_iff_ne, ByteArray.toList_eq, ByteArray.toList_eq]; exact fun e => hpt (ByteArray.ext (Array.ext' e))
          have b2 : (p.toList == t.toList) = false := by rw [bne] at b1; simpa using b1
          have b3 : ¬ p.toList = t.toList := by simpa using b2
          clear ho hok hp
          go_enter Tryd.func70, Tryd.ntmps70
          go_wp2_with (first | (go_at_call 87; refine (RS.out _).mono ?_; rintro e w2 ⟨a2, c2, k, rfl, hK, hS2, hk0, hk, hkr⟩; have HS2 := Lib.hid hS2; have HK2 := Lib.hid (keep_a hK); have HZ := Lib.hid (blk_keep hK (blk_new _ _) trivial); obtain ⟨hc, hf⟩ := hK.cells; have z0 : w.heap.size < w2.heap.size := (by have := hK.size; simp at this; omega); clear hS2; obtain rfl : k = t.size := (by have := drop_len t k; rw [hkr] at this; simp only [List.length_nil] at this; omega); have q0 : ((t.size : Int) == 0) = false := (by rw [beq_eq_false_iff_ne]; omega); clear hkr) | (go_at_call 56; refine (VO.out _ _ (HS2.out.vr.any.keep ((Keep.refl _ _).alloc _))).mono ?_; rintro e w4 ⟨rfl, hK4⟩; rw [HOK.out]; have HK4 := Lib.hid ((HK2.out.alloc _).trans hK4); have HA4 := Lib.hid (((Keep.refl Any w2).alloc _).trans hK4); have HB4 := Lib.hid (blk_keep hK4 (blk_new _ _) trivial); obtain ⟨x0, x1, x2, x3⟩ := at4 HB4.out; have HZ4 := Lib.hid (blk_keep hK4 (blk_alloc HZ.out _) trivial); clear hc hf z0; obtain ⟨hc0, hc1, hc2, hc3⟩ := at4 HZ4.out; have hf0 := blk_frozen HZ4.out 0; have hf1 := blk_frozen HZ4.out 1; have hf2 := blk_frozen HZ4.out 2; have hf3 := blk_frozen HZ4.out 3; have z4 : w.heap.size < w4.heap.size := blk_lt HZ4.out; have z5 : w2.heap.size < w4.heap.size := blk_lt HB4.out) | (go_at_call 57; refine (PO.out _ _ (HS2.out.vr.any.keep HA4.out) HOK.out).mono ?_; rintro e w5 ⟨rfl, hK5⟩; rw [HP.out]; have HK5 := Lib.hid (HK4.out.trans hK5); have HA5 := Lib.hid (HA4.out.trans hK5); have HB5 := Lib.hid (blk_keep hK5 HB4.out trivial); obtain ⟨y0, y1, y2, y3⟩ := at4 HB5.out; have HZ5 := Lib.hid (blk_keep hK5 HZ4.out trivial); clear hc0 hc1 hc2 hc3 hf0 hf1 hf2 hf3 x0 x1 x2 x3 z4 z5; obtain ⟨hc0, hc1, hc2, hc3⟩ := at4 HZ5.out; have hf0 := blk_frozen HZ5.out 0; have hf1 := blk_frozen HZ5.out 1; have hf2 := blk_frozen HZ5.out 2; have hf3 := blk_frozen HZ5.out 3; have z6 : w.heap.size < w5.heap.size := blk_lt HZ5.out; have z7 : w2.heap.size < w5.heap.size := blk_lt HB5.out))
          refine bodyPost_ret (v := .tuple #[.agg #[.int .i64 0, .int .i64 0, .string ⟨#[]⟩, .slice none 0 0], .bool false]) (by simp [results, Tryd.results70, go_sem, hc0, hc1, hc2, hc3, hf0, hf1, hf2, hf3, z6]) rfl ?_
          exact ⟨(by have hK1 := HK5.out; repeat (first | (with_reducible exact hK1) | (refine Keep.set ?_ _ _ (fun h _ => Nat.lt_irrefl _ h)) | (refine Keep.alloc ?_ _))), .inl ⟨HO.out, rfl⟩⟩
    · rw [svalGet_none2 hr hne] at ho
      have HO := Lib.hid ho
      have RS := Lib.hid (read3.some' (s := t) ht hr)
      clear ho hr
      go_enter Tryd.func70, Tryd.ntmps70
      go_wp2_with ((go_at_call 87; refine (RS.out _).mono ?_; rintro e w2 ⟨a2, c2, k, rfl, hK, hS2, hk0, hk, hkr⟩; have HS2 := Lib.hid hS2; have HK2 := Lib.hid (keep_a hK); have HZ := Lib.hid (blk_keep hK (blk_new _ _) trivial); obtain ⟨hc, hf⟩ := hK.cells; have z0 : w.heap.size < w2.heap.size := (by have := hK.size; simp at this; omega); clear hS2; have q1 : ((k : Int) != (t.size : Int)) = true := (by rw [bne_iff_ne]; intro h; exact hne (List.eq_nil_of_length_eq_zero (by rw [← hkr, drop_len]; omega))); clear hkr))
      refine bodyPost_ret (v := .tuple #[.agg #[.int .i64 0, .int .i64 0, .string ⟨#[]⟩, .slice none 0 0], .bool false]) (by simp [results, Tryd.results70, go_sem, hc, hf, z0]) rfl ?_
      exact ⟨(by have hK1 := keep_a hK; repeat (first | (with_reducible exact hK1) | (refine Keep.set ?_ _ _ (fun h _ => Nat.lt_irrefl _ h)) | (refine Keep.alloc ?_ _))), .inl ⟨HO.out, rfl⟩⟩
end Go.Proofs.YtjgnnobfaphkeaaDoor

/- strings.Cut at one byte: the text ahead of it and behind. For every text. -/
namespace Go.Proofs.YtjgnnobfaphkeaaDoor
open Go.RowKit
set_option linter.unusedVariables false
set_option linter.unusedSimpArgs false
theorem slIndexByte_calls (s : ByteArray) (c : Int) (w : World) : Calls Tryd.prog 111 #[.string s, .int .u8 c] w fun e w' => e = .returned (.int .i64 (Lib.indexByte s.data.toList c.toNat.toUInt8)) ∧ w = w' :=
  (Any.stringslite_IndexByte { Tryd.lays137 with } s c w).mono fun e w' ⟨h1, h2⟩ => ⟨h1, h2.symm⟩
/-- the bytes that texts are cut at here -/
def CutB (c : UInt8) : Prop := c = 10 ∨ c = 61 ∨ c = 32
theorem slIndex1_calls (s : ByteArray) (c : UInt8) (w : World) : Calls Tryd.prog 100 #[.string s, .string ⟨#[c]⟩] w fun e w' => e = .returned (.int .i64 (Lib.indexByte s.data.toList c)) ∧ w = w' := by
  have IX := Lib.hid slIndexByte_calls
  by_cases h : s = ⟨#[c]⟩
  · subst h
    have e : Lib.indexByte (⟨#[c]⟩ : ByteArray).data.toList c = 0 := by simp [Lib.indexByte]
    rw [e]
    go_enter Tryd.func100, Tryd.ntmps100
    go_wp2
    go_ret
    exact ⟨rfl, rfl⟩
  · have hd : ((⟨#[c]⟩ : ByteArray).toList == s.toList) = false := by
      rw [beq_eq_false_iff_ne, ByteArray.toList_eq, ByteArray.toList_eq]
      exact fun e => h (ByteArray.ext (Array.ext' e.symm))
    have hd2 : (([c] : List UInt8) == s.toList) = false := by
      have e : (⟨#[c]⟩ : ByteArray).toList = [c] := by rw [ByteArray.toList_eq]
      rw [← e]; exact hd
    go_enter Tryd.func100, Tryd.ntmps100
    go_wp2_with (go_at_call 111; refine (IX.out _ _ _).mono ?_; rintro e w' ⟨rfl, rfl⟩)
    go_ret
    exact ⟨rfl, rfl⟩
theorem cutAt_len {c : UInt8} {l x y : List UInt8} (h : cutAt c l = some (x, y)) : x.length + 1 + y.length = l.length := by
  rw [(cutAt_some h).1, List.length_append, List.length_cons]; omega
theorem ahead_eq {s : ByteArray} {c : UInt8} {x y : List UInt8} (h : cutAt c s.data.toList = some (x, y)) : s.extract 0 x.length = ⟨x.toArray⟩ := by
  apply ByteArray.ext; apply Array.ext'
  rw [Lib.extract_data, (cutAt_some h).1, List.drop_zero, Nat.sub_zero, List.take_left]
theorem behind_eq {s : ByteArray} {c : UInt8} {x y : List UInt8} (h : cutAt c s.data.toList = some (x, y)) : s.extract (x.length + 1) s.size = ⟨y.toArray⟩ := by
  apply ByteArray.ext; apply Array.ext'
  rw [rest_data, (cutAt_some h).1, ← List.drop_drop, List.drop_left]; rfl
theorem slCut_some {s : ByteArray} {c : UInt8} {x y : List UInt8} (hs : s.size ≤ 2305843009213693952) (h : cutAt c s.data.toList = some (x, y)) (w : World) :
    Calls Tryd.prog 88 #[.string s, .string ⟨#[c]⟩] w fun e w' => e = .returned (.tuple #[.string ⟨x.toArray⟩, .string ⟨y.toArray⟩, .bool true]) ∧ Keep Any w w' := by
  have hi : Lib.indexByte s.data.toList c = (x.length : Int) := by rw [indexByte_cut, h]
  have IX := Lib.hid (fun w => by have := slIndex1_calls s c w; rw [hi] at this; exact this)
  have hn : x.length + 1 ≤ s.size := by have := cutAt_len h; rw [← Lib.size_eq] at this; omega
  have HA := Lib.hid (ahead_eq h)
  have HB := Lib.hid (behind_eq h)
  clear hi h
  go_enter Tryd.func88, Tryd.ntmps88
  go_wp2_with (go_at_call 100; refine (IX.out _).mono ?_; rintro e w' ⟨rfl, rfl⟩)
  go_quiet (fail)
  go_wp2
  go_ret3
  exact ⟨by rw [← HA.out, ← HB.out]; rfl, (Keep.refl _ _).drewN _⟩
theorem slCut_none {s : ByteArray} {c : UInt8} (hs : s.size ≤ 2305843009213693952) (h : cutAt c s.data.toList = none) (w : World) :
    Calls Tryd.prog 88 #[.string s, .string ⟨#[c]⟩] w fun e w' => e = .returned (.tuple #[.string s, .string ⟨#[]⟩, .bool false]) ∧ Keep Any w w' := by
  have hi : Lib.indexByte s.data.toList c = -1 := by rw [indexByte_cut, h]
  have IX := Lib.hid (fun w => by have := slIndex1_calls s c w; rw [hi] at this; exact this)
  clear hi h
  go_enter Tryd.func88, Tryd.ntmps88
  go_wp2_with (go_at_call 100; refine (IX.out _).mono ?_; rintro e w' ⟨rfl, rfl⟩)
  go_ret3
  exact ⟨rfl, Keep.refl _ _⟩
theorem cut_some {s : ByteArray} {c : UInt8} {x y : List UInt8} (hs : s.size ≤ 2305843009213693952) (h : cutAt c s.data.toList = some (x, y)) (w : World) :
    Calls Tryd.prog 73 #[.string s, .string ⟨#[c]⟩] w fun e w' => e = .returned (.tuple #[.string ⟨x.toArray⟩, .string ⟨y.toArray⟩, .bool true]) ∧ Keep Any w w' := by
  have IX := Lib.hid (slCut_some hs h)
  clear h
  go_enter Tryd.func73, Tryd.ntmps73
  go_wp2_with (go_at_call 88; refine (IX.out _).mono ?_; rintro e w' ⟨rfl, hK⟩)
  go_ret3
  exact ⟨rfl, hK⟩
theorem cut_none {s : ByteArray} {c : UInt8} (hs : s.size ≤ 2305843009213693952) (h : cutAt c s.data.toList = none) (w : World) :
    Calls Tryd.prog 73 #[.string s, .string ⟨#[c]⟩] w fun e w' => e = .returned (.tuple #[.string s, .string ⟨#[]⟩, .bool false]) ∧ Keep Any w w' := by
  have IX := Lib.hid (slCut_none hs h)
  clear h
  go_enter Tryd.func73, Tryd.ntmps73
  go_wp2_with (go_at_call 88; refine (IX.out _).mono ?_; rintro e w' ⟨rfl, hK⟩)
  go_ret3
  exact ⟨rfl, hK⟩
end Go.Proofs.YtjgnnobfaphkeaaDoor

/- Which replies have a form, as a plain function. -/
namespace Go.Proofs.YtjgnnobfaphkeaaDoor
set_option linter.unusedVariables false
def fineR (r : Rp) : Bool :=
  if r.kind = 1 then decide ((r.names.length : Int) ≤ 5) && ((r.row.length : Int) == 0) && (r.code == 0) && r.names.all nameOk
  else if r.kind = 2 then ((r.names.length : Int) == 0) && (decide (1 ≤ (r.row.length : Int)) && decide ((r.row.length : Int) ≤ 5)) && (r.code == 0) && !r.more && r.row.all (okV 3)
  else if r.kind = 3 then ((r.names.length : Int) == 0) && ((r.row.length : Int) == 0) && (decide (1 ≤ r.code) && decide (r.code ≤ 9)) && !r.more
  else if r.kind = 4 then ((r.names.length : Int) == 0) && ((r.row.length : Int) == 0) && (r.code == 0) && !r.more
  else false
end Go.Proofs.YtjgnnobfaphkeaaDoor

/- A reply's text, as a plain function. For every reply. -/
namespace Go.Proofs.YtjgnnobfaphkeaaDoor
open Go.RowKit
set_option linter.unusedVariables false
set_option linter.unusedSimpArgs false
/-- the word ahead, and the first k names -/
def namesTxt (more : Bool) (l : List ByteArray) (k : Nat) : List UInt8 := (if more then [109, 111, 114, 101] else [111, 107]) ++ ((l.take k).map fun s : ByteArray => 32 :: s.data.toList).flatten
def bodyTxt (r : Rp) : List UInt8 :=
  if r.kind = 2 then [114, 111, 119, 32] ++ rowTxt r.row else if r.kind = 3 then [102, 97, 105, 108, 32] ++ Lib.itoa r.code else if r.kind = 4 then [112, 97, 115, 116] else namesTxt r.more r.names r.names.length
def replyTxt (r : Rp) : List UInt8 := if fineR r then bodyTxt r else []
theorem namesTxt_succ {more : Bool} {l : List ByteArray} {k : Nat} {x : ByteArray} (h : l[k]? = some x) : namesTxt more l (k + 1) = namesTxt more l k ++ (32 :: x.data.toList) := by
  rw [namesTxt, namesTxt, List.take_add_one, h]; simp
theorem namesTxt_step {more : Bool} {l : List ByteArray} {k : Nat} {x : ByteArray} (h : l[k]? = some x) : (⟨(namesTxt more l k).toArray⟩ : ByteArray) ++ (⟨#[32]⟩ ++ x) = ⟨(namesTxt more l (k + 1)).toArray⟩ := by
  rw [namesTxt_succ h]; apply ByteArray.ext; simp [ByteArray.data_append]
theorem namesTxt_step' {more : Bool} {l : List ByteArray} {k : Nat} {x : ByteArray} (h : l[k]? = some x) : (⟨(namesTxt more l k).toArray⟩ : ByteArray) ++ ⟨#[32]⟩ ++ x = ⟨(namesTxt more l (k + 1)).toArray⟩ := by
  rw [namesTxt_succ h]; apply ByteArray.ext; simp [ByteArray.data_append]
theorem name_size {t : ByteArray} (h : nameOk t = true) : t.size ≤ 8 := by
  simp only [nameOk, nameShape, Bool.and_eq_true, decide_eq_true_eq] at h
  omega
theorem flat_len {b : Nat} : ∀ (l : List (List UInt8)), (∀ x, x ∈ l → x.length ≤ b) → l.flatten.length ≤ l.length * b
  | [], _ => by simp
  | x :: r, h => by
    have := flat_len r fun y hy => h y (List.mem_cons_of_mem _ hy)
    have h0 := h x (List.mem_cons_self ..)
    rw [List.flatten_cons, List.length_append, List.length_cons, Nat.add_mul]
    omega
theorem namesTxt_len {more : Bool} {l : List ByteArray} {k : Nat} (h : ∀ x, x ∈ l → nameOk x = true) (hl : l.length ≤ 5) : (namesTxt more l k).length ≤ 100 := by
  have := flat_len (b := 9) ((l.take k).map fun s : ByteArray => 32 :: s.data.toList) fun x hx => by
    obtain ⟨y, hy, rfl⟩ := List.mem_map.1 hx
    have := name_size (h y (List.mem_of_mem_take hy))
    simp; omega
  have h2 : ((l.take k).map fun s : ByteArray => 32 :: s.data.toList).length ≤ 5 := by simp; omega
  have h3 : ((l.take k).map fun s : ByteArray => 32 :: s.data.toList).length * 9 ≤ 5 * 9 := Nat.mul_le_mul_right _ h2
  rw [namesTxt, List.length_append]
  cases more <;> simp at * <;> omega
theorem fine_ok {r : Rp} (h : fineR r = true) (hk : r.kind = 1) : r.names.length ≤ 5 ∧ ∀ x, x ∈ r.names → nameOk x = true := by
  simp [fineR, hk] at h
  exact ⟨by omega, h.2⟩
theorem fine_row {r : Rp} (h : fineR r = true) (hk : r.kind = 2) : r.row.length ≤ 5 ∧ ∀ x, x ∈ r.row → okV 3 x = true := by
  simp [fineR, hk] at h
  exact ⟨by omega, h.2⟩
theorem fine_fail {r : Rp} (h : fineR r = true) (hk : r.kind = 3) : 1 ≤ r.code ∧ r.code ≤ 9 := by
  simp [fineR, hk] at h
  omega
theorem fine_kind {r : Rp} (h : fineR r = true) : r.kind = 1 ∨ r.kind = 2 ∨ r.kind = 3 ∨ r.kind = 4 := by
  unfold fineR at h
  (repeat' split at h) <;> simp_all
end Go.Proofs.YtjgnnobfaphkeaaDoor

/- The reference's reading of a value: l1Read, ValueGet. For every text of at most 2^61 bytes. Which replies have a form: the program's test. For every reply. A reply's text: what the program's ReplyPut writes. For every reply. -/
import Derived.Test.YtlmonnhgjnjniaaDoorMLawReply7
import Derived.Test.YtlmonnhgjnjniaaDoorMLawReply3
import Derived.Test.YtlmonnhgjnjniaaDoorMLawReply2
import Derived.Test.YtlmonnhgjnjniaaDoorMLawReply5
/- The reference's reading of a value: l1Read, ValueGet. For every text of at most 2^61 bytes. -/
namespace Go.Proofs.YtlmonnhgjnjniaaDoor
open Go.RowKit
set_option linter.unusedVariables false
set_option linter.unusedSimpArgs false
theorem cutTail_hit {s : ByteArray} {c : UInt8} {k : Nat} (h1 : 1 ≤ k) (hk : k < s.size) (h0 : at_ s k = c.toNat) (h : ∀ j, 1 ≤ j → j < k → at_ s j ≠ c.toNat) : cutAt c (s.data.toList.drop 1) = some ((s.data.toList.drop 1).take (k - 1), s.data.toList.drop (k + 1)) := by
  have hz : (s.extract 1 s.size).size = s.size - 1 := by rw [ByteArray.size_extract]; omega
  have := cutAt_hit (s := s.extract 1 s.size) (c := c) (k := k - 1) (by omega) (by rw [at_tail (by omega), show k - 1 + 1 = k by omega]; exact h0) (fun j hj => by rw [at_tail (by omega)]; exact h (j + 1) (by omega) (by omega))
  rw [tail_data, List.drop_drop, show 1 + (k - 1 + 1) = k + 1 by omega] at this
  exact this
theorem cutTail_miss {s : ByteArray} {c : UInt8} (h : ∀ j, 1 ≤ j → j < s.size → at_ s j ≠ c.toNat) : cutAt c (s.data.toList.drop 1) = none := by
  rw [← tail_data]
  exact cutAt_miss fun j hj => by rw [ByteArray.size_extract] at hj; rw [at_tail (by omega)]; exact h (j + 1) (by omega) (by omega)
theorem mid_eq (s : ByteArray) (k : Nat) (h : 1 ≤ k) : s.extract 1 k = ⟨((s.data.toList.drop 1).take (k - 1)).toArray⟩ := by
  apply ByteArray.ext; apply Array.ext'
  rw [Lib.extract_data]
theorem plainAt_le : ∀ l : List UInt8, plainAt l ≤ l.length
  | [] => Nat.le_refl _
  | b :: l => by
    have := plainAt_le l
    rw [plainAt]
    split
    · simp
    · simp only [List.length_cons]; omega
set_option maxHeartbeats 4000000 in
set_option maxRecDepth 20000 in
theorem l1Read_of (d : Nat) (hd4 : d ≤ 4) (ih : RdS d) : RdS (d + 1) := by
  intro s w hs
  obtain ⟨o, ho⟩ : ∃ o, o = sV (d + 1) s.data.toList := ⟨_, rfl⟩
  rw [← ho]
  by_cases h0 : s.size = 0
  · have hd := empty_true s h0
    have e0 : s.data.toList = [] := List.eq_nil_of_length_eq_zero (by rw [← Lib.size_eq]; exact h0)
    rw [sV, if_pos e0] at ho
    have HO := Lib.hid ho
    clear ho e0 h0
    go_enter Tryd.func18, Tryd.ntmps18
    go_wp2
    refine bodyPost_ret (v := .tuple #[.agg #[.int .i64 0, .int .i64 0, .string ⟨#[]⟩, .slice none 0 0], .int .i64 0]) (by simp [results, Tryd.results18, go_sem]) rfl ?_
    exact ⟨⟨0, 0, ⟨#[]⟩, []⟩, none, 0, 0, rfl, (Keep.refl _ _).alloc _, SV_flat _ _ _ _ _ (show I64 0 from ⟨by decide, by decide⟩) (show I64 0 from ⟨by decide, by decide⟩) fits_nil, .inl ⟨HO.out, rfl⟩⟩
  have hd := empty_false s h0
  have q1 : 0 < s.size := by omega
  have e1 := at_eq s 0 q1
  have e0 : ¬ s.data.toList = [] := fun h => h0 (by rw [Lib.size_eq, h]; rfl)
  rw [sV, if_neg e0] at ho
  clear e0
  by_cases c4 : s.data.toList.headD 0 = 39
  · rw [if_pos c4] at ho
    have b4 := head_yes q1 (n := 39) rfl c4
    have HO := Lib.hid ho
    clear ho c4
    go_enter Tryd.func18, Tryd.ntmps18
    go_wp2
    go_loop [6] (fun i => ∃ k : Nat, 1 ≤ k ∧ k ≤ s.size ∧ i = .int .i64 k ∧ ∀ j, 1 ≤ j → j < k → at_ s j ≠ (39 : UInt8).toNat) (fun i => s.size - (intOf i).toNat)
    case atStart => exact ⟨1, by omega, by omega, rfl, fun j hj => by omega⟩
    case round =>
      obtain ⟨k, hk1, hk, rfl, hg⟩ := hrel
      have HG := Lib.hid hg
      clear hg
      by_cases hlt : k < s.size
      · have e2 := at_eq s k hlt
        by_cases hc : at_ s k = 39
        · have q2 : (((at_ s k : Nat) : Int) == 39) = true := by rw [hc]; rfl
          have HC := Lib.hid (cutTail_hit (c := 39) hk1 hlt hc HG.out)
          have HM := Lib.hid (mid_eq s k hk1)
          clear hc
          go_wp2
          refine bodyPost_ret (v := .tuple #[.agg #[.int .i64 3, .int .i64 0, .string (s.extract 1 k), .slice none 0 0], .int .i64 ((k : Int) + 1)]) (by simp [results, Tryd.results18, go_sem]) rfl ?_
          exact ⟨⟨3, 0, s.extract 1 k, []⟩, none, 0, k + 1, rfl, (Keep.refl _ _).alloc _, SV_flat _ _ _ _ _ (show I64 3 from ⟨by decide, by decide⟩) (show I64 0 from ⟨by decide, by decide⟩) (by unfold Fits; rw [ByteArray.size_extract]; omega), .inr ⟨by omega, by omega, by rw [HO.out, HC.out, HM.out]; rfl⟩⟩
        · have q2 : (((at_ s k : Nat) : Int) == 39) = false := by rw [beq_eq_false_iff_ne]; omega
          have HC := Lib.hid hc
          clear hc
          go_wp2
          go_round
          case rel => exact ⟨k + 1, by omega, by omega, by go_num, fun j h1 hj => by rcases Nat.lt_succ_iff_lt_or_eq.1 hj with hj | rfl; exact HG.out j h1 hj; exact HC.out⟩
          case measure => simp [intOf]; omega
      · have HC := Lib.hid (cutTail_miss (s := s) (c := 39) fun j h1 hj => HG.out j h1 (by omega))
        go_wp2
        refine bodyPost_ret (v := .tuple #[.agg #[.int .i64 0, .int .i64 0, .string ⟨#[]⟩, .slice none 0 0], .int .i64 0]) (by simp [results, Tryd.results18, go_sem]) rfl ?_
        exact ⟨⟨0, 0, ⟨#[]⟩, []⟩, none, 0, 0, rfl, (Keep.refl _ _).alloc _, SV_flat _ _ _ _ _ (show I64 0 from ⟨by decide, by decide⟩) (show I64 0 from ⟨by decide, by decide⟩) fits_nil, .inl ⟨by rw [HO.out, HC.out]; rfl, rfl⟩⟩
  rw [if_neg c4] at ho
  have b4 := head_not q1 (n := 39) rfl c4
  clear c4
  by_cases c5 : s.data.toList.headD 0 = 91
  · rw [if_pos c5] at ho
    have b5 := head_yes q1 (n := 91) rfl c5
    have LL := Lib.hid (fun w => l1List_of d hd4 ih s w (by omega) hs)
    have HO := Lib.hid ho
    clear ho c5
    go_enter Tryd.func18, Tryd.ntmps18
    go_wp2_with (go_at_call 43; refine (LL.out _).mono ?_; rintro e w2 ⟨v2, a2, c2, z2, rfl, hK, hS2, hz2⟩; have HS2 := Lib.hid hS2; have HZ2 := Lib.hid hz2; clear hS2 hz2; obtain ⟨hc, hf⟩ := hK.cells; have z0 : w.heap.size < w2.heap.size := (by have := hK.size; simp at this; omega))
    refine bodyPost_ret (v := .tuple #[.agg #[.int .i64 v2.kind, .int .i64 v2.num, .string v2.text, (.slice a2 v2.list.length c2)], .int .i64 z2]) (by simp [results, Tryd.results18, go_sem, hc, hf, z0]) rfl ?_
    refine ⟨v2, a2, c2, z2, rfl, (by have hK1 := keep_a hK; repeat (first | (with_reducible exact hK1) | (refine Keep.set ?_ _ _ (fun h _ => Nat.lt_irrefl _ h)))), ?_, by rw [HO.out]; exact HZ2.out⟩
    refine SV.mono (SV.keep HS2.out (w' := _) ?_) fun k hk => ⟨by have h1 := hk.1; rw [World.size_alloc] at h1; omega, by simpa using hk.2⟩
    repeat (first | (with_reducible exact Keep.refl _ _) | (refine Keep.set ?_ _ _ (fun _ h => by have h1 := h.1; rw [World.size_alloc] at h1; exact Nat.not_succ_le_self _ h1)))
  rw [if_neg c5] at ho
  have b5 := head_not q1 (n := 91) rfl c5
  clear c5
  obtain ⟨n, hn⟩ : ∃ n, n = plainAt s.data.toList := ⟨_, rfl⟩
  have PL := Lib.hid (fun w => l1Plain_calls s w hs)
  rw [← hn] at ho
  have hns : n ≤ s.size := by rw [hn, Lib.size_eq]; exact plainAt_le _
  have HN := Lib.hid hn
  clear hn
  have AT := Lib.hid (fun w => l1Atom_calls (s.extract 0 n) w (by rw [ByteArray.size_extract]; omega))
  have HT := Lib.hid (show (s.extract 0 n).data.toList = s.data.toList.take n by rw [take_eq])
  have HO := Lib.hid ho
  clear ho
  go_enter Tryd.func18, Tryd.ntmps18
  go_wp2_with (first | (go_at_call 44; refine (PL.out _).mono ?_; rintro e w' ⟨rfl, rfl⟩; rw [← HN.out]) | (go_at_call 45; refine (AT.out _).mono ?_; rintro e w2 ⟨kk, nn, hv, hi1, hi2, rfl, hK⟩; have HV := Lib.hid hv; obtain ⟨hc, hf⟩ := hK.cells; have z0 : w.heap.size < w2.heap.size := (by have := hK.size; simp at this; omega); have HI1 := Lib.hid hi1; have HI2 := Lib.hid hi2; clear hv hi1 hi2))
  refine bodyPost_ret (v := .tuple #[.agg #[.int .i64 kk, .int .i64 nn, .string ⟨#[]⟩, .slice none 0 0], .int .i64 n]) (by simp [results, Tryd.results18, go_sem, hc, hf, z0]) rfl ?_
  refine ⟨⟨kk, nn, ⟨#[]⟩, []⟩, none, 0, n, rfl, (by have hK1 := keep_a hK; repeat (first | (with_reducible exact hK1) | (refine Keep.set ?_ _ _ (fun h _ => Nat.lt_irrefl _ h)) | (refine Keep.alloc ?_ _))), SV_flat _ _ _ _ _ HI1.out HI2.out fits_nil, ?_⟩
  have hh := HO.out
  by_cases hn0 : n = 0
  · rw [if_pos hn0] at hh; exact .inl ⟨hh, hn0⟩
  · rw [if_neg hn0] at hh; exact .inr ⟨by omega, hns, by rw [hh, ← HT.out, HV.out]⟩
theorem rdS_zero : RdS 0 := by
  intro s w hs
  go_enter Tryd.func18, Tryd.ntmps18
  go_wp2
  refine bodyPost_ret (v := .tuple #[.agg #[.int .i64 0, .int .i64 0, .string ⟨#[]⟩, .slice none 0 0], .int .i64 0]) (by simp [results, Tryd.results18, go_sem]) rfl ?_
  exact ⟨⟨0, 0, ⟨#[]⟩, []⟩, none, 0, 0, rfl, (Keep.refl _ _).alloc _, SV_flat _ _ _ _ _ (show I64 0 from ⟨by decide, by decide⟩) (show I64 0 from ⟨by decide, by decide⟩) fits_nil, .inl ⟨rfl, rfl⟩⟩
theorem rdS_all (d : Nat) : d ≤ 5 → RdS d := by
  induction d with
  | zero => intro _; exact rdS_zero
  | succ d ih => intro h; exact l1Read_of d (by omega) (ih (by omega))
theorem read3 : RdS 3 := rdS_all 3 (by omega)
end Go.Proofs.YtlmonnhgjnjniaaDoor

/- Which replies have a form: the program's test. For every reply. -/
namespace Go.Proofs.YtlmonnhgjnjniaaDoor
open Go.RowKit
set_option linter.unusedVariables false
set_option linter.unusedSimpArgs false

theorem fineR_one {names : List ByteArray} {code : Int} {more : Bool} : fineR ⟨1, names, [], code, more⟩ = (decide ((names.length : Int) ≤ 5) && (code == 0) && names.all nameOk) := by simp [fineR]
theorem fineR_two {row : List V} {code : Int} {more : Bool} : fineR ⟨2, [], row, code, more⟩ = ((decide (1 ≤ (row.length : Int)) && decide ((row.length : Int) ≤ 5)) && (code == 0) && !more && row.all (okV 3)) := by simp [fineR]
set_option maxHeartbeats 2000000 in
theorem replyFine_calls (r : Rp) (cs : List Value) (w : World) (hr : RR w Any r cs) : Calls Tryd.prog 13 #[.agg cs.toArray] w (Tells (fineR r) w) := by
  obtain ⟨s1, s2, rfl, h1, h2, h3, h4⟩ := hr
  obtain ⟨kind, names, row, code, more⟩ := r
  have H3 := Lib.hid h3
  have H4 := Lib.hid h4
  obtain ⟨a, c, rfl, hc, hm, _⟩ := h3
  obtain ⟨a2, c2, rfl, hc2, hm2, _⟩ := h4
  simp only at *
  have IN := Lib.hid nameOk_calls
  have IV := Lib.hid valueOk_calls
  have zn : names = [] ∨ (names ≠ [] ∧ 0 < names.length) := by cases names with | nil => exact .inl rfl | cons x l => exact .inr ⟨by simp, by simp⟩
  have zr : row = [] ∨ (row ≠ [] ∧ 0 < row.length) := by cases row with | nil => exact .inl rfl | cons x l => exact .inr ⟨by simp, by simp⟩
  by_cases k1 : kind = 1
  · subst k1
    rcases zr with rfl | ⟨zr', zr⟩
    · clear zn
      by_cases hg : (names.length : Int) ≤ 5 ∧ code = 0
      · obtain ⟨g1, rfl⟩ := hg
        have E0 := Lib.hid (fineR_one (names := names) (code := 0) (more := more))
        go_enter Tryd.func13, Tryd.ntmps13
        go_wp2
        go_loopg [29] (names.length + 1) (fun g i wr => ∃ k : Nat, k ≤ names.length ∧ i = .int .i64 k ∧ g = names.length + 1 - k ∧ (∀ j x, j < k → names[j]? = some x → nameOk x = true) ∧ Keep Any w wr)
        case atStart => exact ⟨0, by omega, rfl, rfl, fun j x hj => by omega, by repeat (first | exact Keep.refl _ _ | apply Keep.drewN | apply Keep.drew | apply Keep.alloc)⟩
        case round =>
          obtain ⟨k, hk, rfl, hg, hall, hK⟩ := hrel
          have HG := Lib.hid hg
          have HA := Lib.hid hall
          clear hg hall
          by_cases hlt : k < names.length
          · have hx : names[k]? = some names[k] := List.getElem?_eq_getElem hlt
            have HX := Lib.hid hx
            obtain ⟨ad, rfl, hF, c0⟩ := strs_at H3.out hK hx
            generalize names[k] = x at *
            clear hx
            rcases hq : nameOk x with _ | _
            all_goals
              have HQ := Lib.hid hq
              clear hq
              go_wp2_with (go_at_call 35; refine (IN.out _ _ hF).mono ?_; rintro e w2 ⟨rfl, rfl⟩; rw [HQ.out])
            · go_ret
              exact ⟨ret_bool (by rw [E0.out, List.all_eq_false.2 ⟨x, List.mem_of_getElem? HX.out, by rw [HQ.out]; decide⟩]; simp), hK⟩
            · go_roundg (gk - 1)
              case rel => exact ⟨k + 1, by omega, by go_num, by have := HG.out; omega, fun j y hj hy => by rcases Nat.lt_succ_iff_lt_or_eq.1 hj with hj | rfl; exact HA.out j y hj hy; rw [HX.out] at hy; cases hy; exact HQ.out, hK⟩
              case measure => have := HG.out; omega
          · have e1 : names.all nameOk = true := List.all_eq_true.2 fun x hx => by
              obtain ⟨j, hj, rfl⟩ := List.getElem_of_mem hx
              exact HA.out j _ (by omega) (List.getElem?_eq_getElem hj)
            have E1 := Lib.hid e1
            clear e1
            go_wp2
            go_ret
            exact ⟨ret_bool (by rw [E0.out, E1.out]; simp [*]), hK⟩
      · have e0 : fineR ⟨1, names, [], code, more⟩ = false := by
          rw [fineR_one]; simp; intro a b; exact absurd ⟨by omega, b⟩ hg
        have E0 := Lib.hid e0
        have hg' : 5 < (names.length : Int) ∨ ((names.length : Int) ≤ 5 ∧ (code != 0) = true) := by
          by_cases a : (names.length : Int) ≤ 5
          · exact .inr ⟨a, by simpa using fun b => hg ⟨a, b⟩⟩
          · exact .inl (by omega)
        clear e0 hg
        rcases hg' with g | ⟨g, g2⟩
        all_goals
          go_enter Tryd.func13, Tryd.ntmps13
          go_wp2
          go_ret
          exact ⟨ret_bool E0.out.symm, by repeat (first | exact Keep.refl _ _ | apply Keep.drewN | apply Keep.drew | apply Keep.alloc)⟩
    · go_enter Tryd.func13, Tryd.ntmps13
      go_wp2
      all_goals (go_ret; exact ⟨ret_bool (by simp [fineR, *] <;> (intros; omega)), by repeat (first | exact Keep.refl _ _ | apply Keep.drewN | apply Keep.drew | apply Keep.alloc)⟩)
  by_cases k2 : kind = 2
  · subst k2
    rcases zn with rfl | ⟨zn', zn⟩
    · clear zr
      by_cases hg : (1 ≤ (row.length : Int) ∧ (row.length : Int) ≤ 5) ∧ code = 0 ∧ more = false
      · obtain ⟨⟨g1, g2⟩, rfl, rfl⟩ := hg
        have E0 := Lib.hid (fineR_two (row := row) (code := 0) (more := false))
        go_enter Tryd.func13, Tryd.ntmps13
        go_wp2
        go_loopg [67] (row.length + 1) (fun g i wr => ∃ k : Nat, k ≤ row.length ∧ i = .int .i64 k ∧ g = row.length + 1 - k ∧ (∀ j x, j < k → row[j]? = some x → okV 3 x = true) ∧ Keep Any w wr)
        case atStart => exact ⟨0, by omega, rfl, rfl, fun j x hj => by omega, by repeat (first | exact Keep.refl _ _ | apply Keep.drewN | apply Keep.drew | apply Keep.alloc)⟩
        case round =>
          obtain ⟨k, hk, rfl, hg, hall, hK⟩ := hrel
          have HG := Lib.hid hg
          have HA := Lib.hid hall
          clear hg hall
          by_cases hlt : k < row.length
          · have hx : row[k]? = some row[k] := List.getElem?_eq_getElem hlt
            have HX := Lib.hid hx
            obtain ⟨ad, sa, sc, rfl, hvx, c0, c1, c2', c3⟩ := vals_at H4.out hK hx
            generalize row[k] = x at *
            have HV := Lib.hid hvx
            clear hx hvx
            rcases hq : okV 3 x with _ | _
            all_goals
              have HQ := Lib.hid hq
              clear hq
              go_wp2_with (go_at_call 36; refine (IV.out _ _ _ (HV.out.keep ((Keep.refl _ _).alloc _))).mono ?_; rintro e w2 ⟨rfl, hK2⟩; rw [HQ.out])
            · go_ret
              exact ⟨ret_bool (by rw [E0.out, List.all_eq_false.2 ⟨x, List.mem_of_getElem? HX.out, by rw [HQ.out]; decide⟩]; simp), (hK.alloc _).trans hK2⟩
            · go_roundg (gk - 1)
              case rel => exact ⟨k + 1, by omega, by go_num, by have := HG.out; omega, fun j y hj hy => by rcases Nat.lt_succ_iff_lt_or_eq.1 hj with hj | rfl; exact HA.out j y hj hy; rw [HX.out] at hy; cases hy; exact HQ.out, (hK.alloc _).trans hK2⟩
              case measure => have := HG.out; omega
          · have e1 : row.all (okV 3) = true := List.all_eq_true.2 fun x hx => by
              obtain ⟨j, hj, rfl⟩ := List.getElem_of_mem hx
              exact HA.out j _ (by omega) (List.getElem?_eq_getElem hj)
            have E1 := Lib.hid e1
            clear e1
            go_wp2
            go_ret
            exact ⟨ret_bool (by rw [E0.out, E1.out]; simp [*]), hK⟩
      · have e0 : fineR ⟨2, [], row, code, more⟩ = false := by
          rw [fineR_two]; rcases hm : more with _ | _
          · simp; intro a b c; exact absurd ⟨⟨by omega, by omega⟩, c, hm⟩ hg
          · simp
        have E0 := Lib.hid e0
        have hg' : (row.length : Int) < 1 ∨ 5 < (row.length : Int) ∨ ((1 ≤ (row.length : Int) ∧ (row.length : Int) ≤ 5) ∧ (code != 0) = true) ∨ ((1 ≤ (row.length : Int) ∧ (row.length : Int) ≤ 5) ∧ (code != 0) = false ∧ more = true) := by
          by_cases a : (1 ≤ (row.length : Int) ∧ (row.length : Int) ≤ 5)
          · by_cases b : code = 0
            · refine .inr (.inr (.inr ⟨a, by simpa using b, ?_⟩))
              rcases hm : more with _ | _
              · exact absurd ⟨a, b, hm⟩ hg
              · rfl
            · exact .inr (.inr (.inl ⟨a, by simpa using b⟩))
          · omega
        clear e0 hg
        rcases hg' with g | g | ⟨⟨g, g2⟩, g3⟩ | ⟨⟨g, g2⟩, g3, rfl⟩
        all_goals
          go_enter Tryd.func13, Tryd.ntmps13
          go_wp2
          all_goals
            go_ret
            exact ⟨ret_bool E0.out.symm, by repeat (first | exact Keep.refl _ _ | apply Keep.drewN | apply Keep.drew | apply Keep.alloc)⟩
    · rcases zr with rfl | ⟨zr', zr⟩
      all_goals
        go_enter Tryd.func13, Tryd.ntmps13
        go_wp2
        all_goals (go_ret; exact ⟨ret_bool (by simp [fineR, *] <;> (intros; omega)), by repeat (first | exact Keep.refl _ _ | apply Keep.drewN | apply Keep.drew | apply Keep.alloc)⟩)
  by_cases k3 : kind = 3
  · subst k3
    rcases zn with rfl | ⟨zn', zn⟩ <;> rcases zr with rfl | ⟨zr', zr⟩
    all_goals
      go_enter Tryd.func13, Tryd.ntmps13
      go_wp2
      all_goals (go_ret; exact ⟨ret_bool (by simp [fineR, *] <;> (intros; omega)), by repeat (first | exact Keep.refl _ _ | apply Keep.drewN | apply Keep.drew | apply Keep.alloc)⟩)
  by_cases k4 : kind = 4
  · subst k4
    rcases zn with rfl | ⟨zn', zn⟩ <;> rcases zr with rfl | ⟨zr', zr⟩
    all_goals
      go_enter Tryd.func13, Tryd.ntmps13
      go_wp2
      all_goals (go_ret; exact ⟨ret_bool (by simp [fineR, *] <;> (intros; omega)), by repeat (first | exact Keep.refl _ _ | apply Keep.drewN | apply Keep.drew | apply Keep.alloc)⟩)
  · have b1 : (kind == 1) = false := by simpa using k1
    have b2 : (kind == 2) = false := by simpa using k2
    have b3 : (kind == 3) = false := by simpa using k3
    have b4 : (kind == 4) = false := by simpa using k4
    go_enter Tryd.func13, Tryd.ntmps13
    go_wp2
    all_goals (go_ret; exact ⟨ret_bool (by simp [fineR, *] <;> (intros; omega)), by repeat (first | exact Keep.refl _ _ | apply Keep.drewN | apply Keep.drew | apply Keep.alloc)⟩)
end Go.Proofs.YtlmonnhgjnjniaaDoor

/- A reply's text: what the program's ReplyPut writes. For every reply. -/
namespace Go.Proofs.YtlmonnhgjnjniaaDoor
open Go.RowKit
set_option linter.unusedVariables false
set_option linter.unusedSimpArgs false
set_option maxRecDepth 20000 in
set_option maxHeartbeats 1000000 in
theorem implReplyPut_calls (r : Rp) (cs : List Value) (w : World) (hr : RR w Any r cs) (ht : Tab w) : Calls Tryd.prog 11 #[.agg cs.toArray] w (Str (replyTxt r) w) := by
  have F := Lib.hid fun w' (hk : Keep Any w w') => replyFine_calls r cs w' (hr.keep hk)
  have HT := Lib.hid ht
  clear ht
  have hr' := hr
  obtain ⟨s1, s2, rfl, h1, h2, h3, h4⟩ := hr
  rcases hf : fineR r with _ | _
  · have HF := Lib.hid hf
    clear hf h3 h4 hr'
    rw [replyTxt, HF.out]
    go_enter Tryd.func11, Tryd.ntmps11
    go_wp2_with (go_at_call 13; refine (F.out _ ((Keep.refl _ _).alloc _)).mono ?_; rintro e w2 ⟨he, hK⟩; rw [HF.out] at he; subst he; have x1 := blk_keep hK (blk_new _ _) trivial)
    go_ret
    exact ⟨rfl, ((Keep.refl _ _).alloc _).trans hK⟩
  · rcases fine_kind hf with hk | hk | hk | hk
    · obtain ⟨hl, ha⟩ := fine_ok hf hk
      have HF := Lib.hid hf
      have HA := Lib.hid ha
      have H3 := Lib.hid h3
      obtain ⟨kind, names, row, code, more⟩ := r
      simp only at hk hl HA H3
      subst hk
      rw [replyTxt, HF.out]
      obtain ⟨a1, c1, rfl, hc1, hm1, _⟩ := h3
      obtain ⟨a2, c2, rfl, hc2, hm2, _⟩ := h4
      clear hf ha hr'
      have z0 : (⟨#[109, 111, 114, 101]⟩ : ByteArray) = ⟨(namesTxt true names 0).toArray⟩ := by simp [namesTxt]
      have z1 : (⟨#[111, 107]⟩ : ByteArray) = ⟨(namesTxt false names 0).toArray⟩ := by simp [namesTxt]
      have Z0 := Lib.hid z0
      have Z1 := Lib.hid z1
      clear z0 z1
      have Q : ∀ w2 : World, Keep Any w w2 → True := fun _ _ => trivial
      cases more
      all_goals
        go_enter Tryd.func11, Tryd.ntmps11
        go_wp2_with (go_at_call 13; refine (F.out _ ((Keep.refl _ _).alloc _)).mono ?_; rintro e w2 ⟨he, hK⟩; rw [HF.out] at he; subst he; have HB := Lib.hid (blk_keep hK (blk_new _ _) trivial); have x0 := blk_cell HB.out 0; have x1 := blk_cell HB.out 1; have x3 := blk_cell HB.out 3; have x4 := blk_cell HB.out 4; simp only [List.getElem?_toArray, List.getElem?_cons_succ, List.getElem?_cons_zero] at x0 x1 x3 x4; have K2 := ((Keep.refl Any w).alloc _).trans hK; clear hK)
      · go_loopg [3, 30] (names.length + 1) (fun g o i wr => ∃ k : Nat, k ≤ names.length ∧ o = .string ⟨(namesTxt false names k).toArray⟩ ∧ i = .int .i64 k ∧ g = names.length + 1 - k ∧ wr = w2)
        case atStart => exact ⟨0, by omega, congrArg Value.string Z1.out, rfl, rfl, rfl⟩
        case round =>
          obtain ⟨k, hk, rfl, rfl, hg, rfl⟩ := hrel
          have HG := Lib.hid hg
          have hlen := namesTxt_len (more := false) (k := k) HA.out hl
          clear hg
          by_cases hlt : k < names.length
          · have hx : names[k]? = some names[k] := List.getElem?_eq_getElem hlt
            have HX := Lib.hid hx
            obtain ⟨ad, rfl, hFx, c0⟩ := strs_at H3.out K2 hx
            have hsz := name_size (HA.out _ (List.mem_of_getElem? hx))
            generalize names[k] = x at *
            clear hx
            go_wp2
            go_roundg (gk - 1)
            case rel => exact ⟨k + 1, by omega, congrArg Value.string (namesTxt_step HX.out), by go_num, by have := HG.out; omega, rfl⟩
            case measure => have := HG.out; omega
          · obtain rfl : k = names.length := by omega
            go_wp2
            go_ret
            exact ⟨by simp [bodyTxt], K2⟩
      · go_loopg [3, 30] (names.length + 1) (fun g o i wr => ∃ k : Nat, k ≤ names.length ∧ o = .string ⟨(namesTxt true names k).toArray⟩ ∧ i = .int .i64 k ∧ g = names.length + 1 - k ∧ wr = w2)
        case atStart => exact ⟨0, by omega, congrArg Value.string Z0.out, rfl, rfl, rfl⟩
        case round =>
          obtain ⟨k, hk, rfl, rfl, hg, rfl⟩ := hrel
          have HG := Lib.hid hg
          have hlen := namesTxt_len (more := true) (k := k) HA.out hl
          clear hg
          by_cases hlt : k < names.length
          · have hx : names[k]? = some names[k] := List.getElem?_eq_getElem hlt
            have HX := Lib.hid hx
            obtain ⟨ad, rfl, hFx, c0⟩ := strs_at H3.out K2 hx
            have hsz := name_size (HA.out _ (List.mem_of_getElem? hx))
            generalize names[k] = x at *
            clear hx
            go_wp2
            go_roundg (gk - 1)
            case rel => exact ⟨k + 1, by omega, congrArg Value.string (namesTxt_step HX.out), by go_num, by have := HG.out; omega, rfl⟩
            case measure => have := HG.out; omega
          · obtain rfl : k = names.length := by omega
            go_wp2
            go_ret
            exact ⟨by simp [bodyTxt], K2⟩
    · obtain ⟨hl, ha⟩ := fine_row hf hk
      have HF := Lib.hid hf
      have R := Lib.hid fun w2 (h : Keep Any w w2) => rowPut_calls r.row s2 w2 (Vals.keep h4 h) (by omega) ha (HT.out.keep h trivial)
      have hlen := rowTxt_len fun x hx => put_len3 (ha x hx) (by omega)
      have hlen : (rowTxt r.row).length ≤ 10000000 := by
        have : r.row.length * (1000000 + 2) ≤ 5 * (1000000 + 2) := Nat.mul_le_mul_right _ hl
        omega
      obtain ⟨kind, names, row, code, more⟩ := r
      simp only at hk hlen R
      subst hk
      rw [replyTxt, HF.out]
      clear hf ha hr' h3 h4
      go_enter Tryd.func11, Tryd.ntmps11
      go_wp2_with (first | (go_at_call 13; refine (F.out _ ((Keep.refl _ _).alloc _)).mono ?_; rintro e w2 ⟨he, hK⟩; rw [HF.out] at he; subst he; have HB := Lib.hid (blk_keep hK (blk_new _ _) trivial); have x0 := blk_cell HB.out 0; have x2 := blk_cell HB.out 2; simp only [List.getElem?_toArray, List.getElem?_cons_succ, List.getElem?_cons_zero] at x0 x2; have K2 := Lib.hid (((Keep.refl Any w).alloc _).trans hK); clear hK) | (go_at_call 33; refine (R.out _ K2.out).mono ?_; rintro e w3 ⟨rfl, hK⟩))
      go_ret
      exact ⟨congrArg (fun s => Ending.returned (.string s)) (by simp only [bodyTxt, ↓reduceIte]; exact bytes_app [114, 111, 119, 32] _), K2.out.trans hK⟩
    · obtain ⟨g1, g9⟩ := fine_fail hf hk
      have HF := Lib.hid hf
      have R := Lib.hid fun w2 (h : Keep Any w w2) => itoa_calls r.code w2 (by omega) (by omega) (HT.out.keep h trivial)
      have hlen := itoa_len2 r.code (by omega) (by omega)
      obtain ⟨kind, names, row, code, more⟩ := r
      simp only at hk hlen R g1 g9
      subst hk
      rw [replyTxt, HF.out]
      clear hf hr' h3 h4
      go_enter Tryd.func11, Tryd.ntmps11
      go_wp2_with (first | (go_at_call 13; refine (F.out _ ((Keep.refl _ _).alloc _)).mono ?_; rintro e w2 ⟨he, hK⟩; rw [HF.out] at he; subst he; have HB := Lib.hid (blk_keep hK (blk_new _ _) trivial); have x0 := blk_cell HB.out 0; have x3 := blk_cell HB.out 3; simp only [List.getElem?_toArray, List.getElem?_cons_succ, List.getElem?_cons_zero] at x0 x3; have K2 := Lib.hid (((Keep.refl Any w).alloc _).trans hK); clear hK) | (go_at_call 34; refine (R.out _ K2.out).mono ?_; rintro e w3 ⟨rfl, hK⟩))
      go_ret
      exact ⟨congrArg (fun s => Ending.returned (.string s)) (by simp only [bodyTxt]; rw [if_neg (by omega), if_pos trivial]; exact bytes_app [102, 97, 105, 108, 32] _), K2.out.trans hK⟩
    · have HF := Lib.hid hf
      obtain ⟨kind, names, row, code, more⟩ := r
      simp only at hk
      subst hk
      rw [replyTxt, HF.out]
      clear hf hr' h3 h4
      go_enter Tryd.func11, Tryd.ntmps11
      go_wp2_with (go_at_call 13; refine (F.out _ ((Keep.refl _ _).alloc _)).mono ?_; rintro e w2 ⟨he, hK⟩; rw [HF.out] at he; subst he; have HB := Lib.hid (blk_keep hK (blk_new _ _) trivial); have x0 := blk_cell HB.out 0; simp only [List.getElem?_toArray, List.getElem?_cons_succ, List.getElem?_cons_zero] at x0; have K2 := Lib.hid (((Keep.refl Any w).alloc _).trans hK); clear hK)
      go_ret
      exact ⟨by simp [bodyTxt], K2.out⟩
end Go.Proofs.YtlmonnhgjnjniaaDoor

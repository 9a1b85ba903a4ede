/- The reference's reading of a reply. For every text of at most 2^20 bytes. -/
import Derived.Test.YtlmonnhgjnjniaaDoorMLawReply6
import Derived.Test.YtlmonnhgjnjniaaDoorMLawReply7
import Derived.Test.YtlmonnhgjnjniaaDoorMLawReply8
import Derived.Test.YtlmonnhgjnjniaaDoorMLawReply9
/- The reference's reading of a reply. For every text of at most 2^20 bytes. -/
namespace Go.Proofs.YtlmonnhgjnjniaaDoor
open Go.RowKit
set_option linter.unusedVariables false
set_option linter.unusedSimpArgs false
theorem first_data (t : ByteArray) (k : Nat) : (t.extract 0 k).data.toList = t.data.toList.take k := by rw [Lib.extract_data, List.drop_zero, Nat.sub_zero]
theorem sRow_some (v : V) (r : List UInt8) : sRow (some (v, r)) = if r = [] ∧ v.kind = 4 then some ⟨2, [], v.list, 0, false⟩ else none := rfl
theorem read4 : RdS 4 := rdS_all 4 (by omega)
set_option maxHeartbeats 8000000 in
set_option maxRecDepth 20000 in
theorem specReplyGet_calls (t : ByteArray) (w : World) (ht : t.size ≤ 1048576) : Calls Tryd.prog 5 #[.string t] w (GotRp (sreplyGet t.data.toList) w) := by
  obtain ⟨q, hq⟩ : ∃ q, q = sReply t.data.toList := ⟨_, rfl⟩
  obtain ⟨o, ho⟩ : ∃ o, o = q.bind (replyOf t.data.toList) := ⟨_, rfl⟩
  rw [show sreplyGet t.data.toList = o by rw [ho, hq]; rfl]
  have HQ := Lib.hid hq
  have HO := Lib.hid ho
  have hL : t.data.toList.length = t.size := (Lib.size_eq t).symm
  have HLN := Lib.hid hL
  clear hq ho hL
  have il : I64 0 ∧ I64 1 ∧ I64 2 ∧ I64 3 ∧ I64 4 := ⟨⟨by decide, by decide⟩, ⟨by decide, by decide⟩, ⟨by decide, by decide⟩, ⟨by decide, by decide⟩, ⟨by decide, by decide⟩⟩
  obtain ⟨i0, i1, i2, i3, i4⟩ := il
  go_enter Tryd.func5, Tryd.ntmps5
  go_upto_block 0 with (fail)
  go_cut [5] from 6 to 77 (fun v wc => ∃ (r : Rp) (a : Option Addr) (c : Nat) (a2 : Option Addr) (c2 : Nat), v = .int .i64 t.size ∧ q = some r ∧ wc.heap[w.heap.size + 1]? = some (.cells #[.int .i64 r.kind, .slice a r.names.length c, .slice a2 r.row.length c2, .int .i64 r.code, .bool r.more] 25 (0, 0)) ∧
    SRp wc (fun k => w.heap.size + 1 < k ∧ k < wc.heap.size) r [.int .i64 r.kind, .slice a r.names.length c, .slice a2 r.row.length c2, .int .i64 r.code, .bool r.more] ∧ wc.heap[w.heap.size]? = some (.cells #[.int .i64 0, .slice none 0 0, .slice none 0 0, .int .i64 0, .bool false] 25 (0, 0)) ∧ Keep Any w wc)
  case first =>
    by_cases hP : t.data.toList = [112, 97, 115, 116]
    · have qP : (t.toList == [112, 97, 115, 116]) = true := by rw [ByteArray.toList_eq, hP]; rfl
      have HW := Lib.hid (show q = some ⟨4, [], [], 0, false⟩ by rw [HQ.out, sReply, if_pos hP])
      clear hP
      go_wp2
      go_meet
      exact ⟨⟨4, [], [], 0, false⟩, none, 0, none, 0, rfl, HW.out, blk_at2 (World.size_alloc _ _) (blk_new _ _), SRp.names i4 i0 rfl SSl.nil, blk_alloc (blk_new _ _) _, ((Keep.refl _ _).alloc _).alloc _⟩
    have qP : (t.toList == [112, 97, 115, 116]) = false := by rw [ByteArray.toList_eq]; simpa using hP
    by_cases sF : 5 < t.size
    · have uF : (5 : Int) < (t.size : Int) := by omega
      by_cases hF : t.data.toList.take 5 = [102, 97, 105, 108, 32]
      · have qF : ((t.extract 0 5).toList == [102, 97, 105, 108, 32]) = true := by rw [ByteArray.toList_eq, first_data, hF]; rfl
        obtain ⟨n, hn, n0, n1, hN⟩ := numS_calls (t.extract 5 t.size) (by rw [ByteArray.size_extract]; omega)
        rw [rest_data] at hn
        have HW := Lib.hid (show q = some ⟨3, [], [], n, false⟩ by rw [HQ.out, sReply, if_neg hP, if_pos ⟨by rw [HLN.out]; omega, hF⟩, ← hn])
        have NUM := Lib.hid hN
        clear hP hF hn hN
        go_wp2_with (go_at_call 17; refine (NUM.out _).mono ?_; rintro e w2 ⟨rfl, rfl⟩)
        go_meet
        exact ⟨⟨3, [], [], n, false⟩, none, 0, none, 0, rfl, HW.out, blk_at2 (World.size_alloc _ _) (blk_new _ _), SRp.names i3 (show I64 n from ⟨by omega, by omega⟩) rfl SSl.nil, blk_alloc (blk_new _ _) _, ((Keep.refl _ _).alloc _).alloc _⟩
      have qF : ((t.extract 0 5).toList == [102, 97, 105, 108, 32]) = false := by rw [ByteArray.toList_eq, first_data]; simpa using hF
      by_cases hR : t.data.toList.take 4 = [114, 111, 119, 32]
      · have qR : ((t.extract 0 4).toList == [114, 111, 119, 32]) = true := by rw [ByteArray.toList_eq, first_data, hR]; rfl
        have RD := Lib.hid (read4 (t.extract 4 t.size) · (by rw [ByteArray.size_extract]; omega))
        have HW := Lib.hid (show q = sRow (sV 4 (t.extract 4 t.size).data.toList) by rw [HQ.out, sReply, if_neg hP, if_neg (fun h => hF h.2), if_pos ⟨by rw [HLN.out]; omega, hR⟩, rest_data])
        clear hP hF hR
        rcases hs : sV 4 (t.extract 4 t.size).data.toList with _ | ⟨v, r⟩
        · have RN := Lib.hid (read4.none' (s := t.extract 4 t.size) (by rw [ByteArray.size_extract]; omega) hs)
          have HN := Lib.hid (show o = none by rw [HO.out, HW.out, hs]; rfl)
          have k0 : ((0 : Int) != (t.size : Int) - 4) = true := by rw [bne_iff_ne]; omega
          clear hs
          go_wp2_with (go_at_call 18; refine (RN.out _).mono ?_; rintro e w2 ⟨v, a, c, rfl, hK2⟩; have K2 := Lib.hid ((((Keep.refl Any w).alloc _).alloc _).trans hK2); have Z2 := Lib.hid hK2.size; have B4 := Lib.hid (blk_keep hK2 (blk_at2 (World.size_alloc _ _) (blk_new _ _)) trivial); have B2 := Lib.hid (blk_keep hK2 (blk_alloc (blk_new _ _) _) trivial); obtain ⟨y0, y1, y2, y3, y4⟩ := at5 B4.out; have f0 := blk_frozen B4.out 0; have f1 := blk_frozen B4.out 1; have f2 := blk_frozen B4.out 2; have f3 := blk_frozen B4.out 3; have f4 := blk_frozen B4.out 4; have x0 := blk_lt B4.out; obtain ⟨v0, v1, v2, v3, v4⟩ := at5 B2.out; have g0 := blk_frozen B2.out 0; have g1 := blk_frozen B2.out 1; have g2 := blk_frozen B2.out 2; have g3 := blk_frozen B2.out 3; have g4 := blk_frozen B2.out 4; have x1 := blk_lt B2.out; clear hK2)
          refine bodyPost_ret (v := .tuple #[.agg #[.int .i64 0, .slice none 0 0, .slice none 0 0, .int .i64 0, .bool false], .bool false]) (by simp [results, Tryd.results5, go_sem, v0, v1, v2, v3, v4, g0, g1, g2, g3, g4, x1]) rfl ?_
          exact ⟨(by repeat (first | (with_reducible exact K2.out) | (with_reducible refine Keep.alloc ?_ _) | (refine Keep.set ?_ _ _ (fun h _ => Nat.lt_irrefl _ h)))), .inl ⟨HN.out, rfl⟩⟩
        · have RS := Lib.hid (read4.some' (s := t.extract 4 t.size) (by rw [ByteArray.size_extract]; omega) hs)
          have hz : (t.extract 4 t.size).size = t.size - 4 := by rw [ByteArray.size_extract]; omega
          by_cases hr : r = []
          · by_cases hk4 : v.kind = 4
            · have HW2 := Lib.hid (show q = some ⟨2, [], v.list, 0, false⟩ by rw [HW.out, hs, sRow_some, if_pos ⟨hr, hk4⟩])
              have k4 : (v.kind != 4) = false := by rw [hk4]; rfl
              have HR := Lib.hid hr
              have HZ := Lib.hid hz
              clear hs hr hk4 hz
              go_wp2_with (go_at_call 18; refine (RS.out _).mono ?_; rintro e w2 ⟨a, c, k, rfl, hK2, hS2, hk0, hk, hkr⟩; have K2 := Lib.hid ((((Keep.refl Any w).alloc _).alloc _).trans hK2); have Z2 := Lib.hid hK2.size; have B4 := Lib.hid (blk_keep hK2 (blk_at2 (World.size_alloc _ _) (blk_new _ _)) trivial); have B2 := Lib.hid (blk_keep hK2 (blk_alloc (blk_new _ _) _) trivial); obtain ⟨y0, y1, y2, y3, y4⟩ := at5 B4.out; have f0 := blk_frozen B4.out 0; have f1 := blk_frozen B4.out 1; have f2 := blk_frozen B4.out 2; have f3 := blk_frozen B4.out 3; have f4 := blk_frozen B4.out 4; have x0 := blk_lt B4.out; have k0 : ((k : Int) != (t.size : Int) - 4) = false := (by have h1 := drop_len (t.extract 4 t.size) k; rw [hkr, HR.out, HZ.out] at h1; simp only [List.length_nil] at h1; rw [HZ.out] at hk; rw [bne_eq_false_iff_eq]; omega); have S2 := Lib.hid (show SVs w2 _ (.slice a v.list.length c) v.list from (by obtain ⟨s, hc, _, _, _, hs⟩ := SV.iff.1 hS2; simp only [List.cons.injEq, and_true, true_and] at hc; rw [hc]; exact hs)); clear hS2 hK2 hkr hk hk0)
              go_meet
              refine ⟨⟨2, [], v.list, 0, false⟩, none, 0, a, c, rfl, HW2.out, (blk_alloc (blk_set (blk_set (blk_set (blk_set (blk_set B4.out 0 _) 1 _) 2 _) 3 _) 4 _) _).trans rfl, SRp.vals i2 i0 rfl ?_, ?_, ?_⟩
              · refine SSl.mono (SVs.keep S2.out ?_) fun k hk => ?_
                · repeat (first | (with_reducible exact Keep.refl _ _) | (with_reducible refine Keep.alloc ?_ _) | (refine Keep.set ?_ _ _ (fun _ h => Nat.not_succ_le_self (w.heap.size + 1) (by have h2 := h.1; rw [World.size_alloc, World.size_alloc] at h2; exact h2))))
                · have h1 := hk.1; have h2 := hk.2; rw [World.size_alloc, World.size_alloc] at h1; exact ⟨h1, by simp; omega⟩
              · repeat (first | (with_reducible exact B2.out) | (with_reducible refine blk_alloc ?_ _) | (refine blk_far ?_ _ _ (Nat.ne_of_lt (Nat.lt_succ_self _))))
              · repeat (first | (with_reducible exact K2.out) | (with_reducible refine Keep.alloc ?_ _) | (refine Keep.set ?_ _ _ (fun h _ => Nat.not_succ_lt_self h)))
            · have HN := Lib.hid (show o = none by rw [HO.out, HW.out, hs, sRow_some, if_neg (fun h => hk4 h.2)]; rfl)
              have k4 : (v.kind != 4) = true := by rw [bne_iff_ne]; exact hk4
              have HR := Lib.hid hr
              have HZ := Lib.hid hz
              clear hs hr hk4 hz
              go_wp2_with (go_at_call 18; refine (RS.out _).mono ?_; rintro e w2 ⟨a, c, k, rfl, hK2, hS2, hk0, hk, hkr⟩; have K2 := Lib.hid ((((Keep.refl Any w).alloc _).alloc _).trans hK2); have Z2 := Lib.hid hK2.size; have B4 := Lib.hid (blk_keep hK2 (blk_at2 (World.size_alloc _ _) (blk_new _ _)) trivial); have B2 := Lib.hid (blk_keep hK2 (blk_alloc (blk_new _ _) _) trivial); obtain ⟨y0, y1, y2, y3, y4⟩ := at5 B4.out; have f0 := blk_frozen B4.out 0; have f1 := blk_frozen B4.out 1; have f2 := blk_frozen B4.out 2; have f3 := blk_frozen B4.out 3; have f4 := blk_frozen B4.out 4; have x0 := blk_lt B4.out; have k0 : ((k : Int) != (t.size : Int) - 4) = false := (by have h1 := drop_len (t.extract 4 t.size) k; rw [hkr, HR.out, HZ.out] at h1; simp only [List.length_nil] at h1; rw [HZ.out] at hk; rw [bne_eq_false_iff_eq]; omega); obtain ⟨v0, v1, v2, v3, v4⟩ := at5 B2.out; have g0 := blk_frozen B2.out 0; have g1 := blk_frozen B2.out 1; have g2 := blk_frozen B2.out 2; have g3 := blk_frozen B2.out 3; have g4 := blk_frozen B2.out 4; have x1 := blk_lt B2.out; clear hS2 hK2 hkr hk hk0)
              refine bodyPost_ret (v := .tuple #[.agg #[.int .i64 0, .slice none 0 0, .slice none 0 0, .int .i64 0, .bool false], .bool false]) (by simp [results, Tryd.results5, go_sem, v0, v1, v2, v3, v4, g0, g1, g2, g3, g4, x1]) rfl ?_
              exact ⟨(by repeat (first | (with_reducible exact K2.out) | (with_reducible refine Keep.alloc ?_ _) | (refine Keep.set ?_ _ _ (fun h _ => Nat.lt_irrefl _ h)))), .inl ⟨HN.out, rfl⟩⟩
          · have HN := Lib.hid (show o = none by rw [HO.out, HW.out, hs, sRow_some, if_neg (fun h => hr h.1)]; rfl)
            have HR := Lib.hid hr
            have HZ := Lib.hid hz
            clear hs hr hz
            go_wp2_with (go_at_call 18; refine (RS.out _).mono ?_; rintro e w2 ⟨a, c, k, rfl, hK2, hS2, hk0, hk, hkr⟩; have K2 := Lib.hid ((((Keep.refl Any w).alloc _).alloc _).trans hK2); have Z2 := Lib.hid hK2.size; have B4 := Lib.hid (blk_keep hK2 (blk_at2 (World.size_alloc _ _) (blk_new _ _)) trivial); have B2 := Lib.hid (blk_keep hK2 (blk_alloc (blk_new _ _) _) trivial); obtain ⟨y0, y1, y2, y3, y4⟩ := at5 B4.out; have f0 := blk_frozen B4.out 0; have f1 := blk_frozen B4.out 1; have f2 := blk_frozen B4.out 2; have f3 := blk_frozen B4.out 3; have f4 := blk_frozen B4.out 4; have x0 := blk_lt B4.out; have k0 : ((k : Int) != (t.size : Int) - 4) = true := (by rw [bne_iff_ne]; intro e; have h1 := drop_len (t.extract 4 t.size) k; rw [hkr, HZ.out] at h1; exact HR.out (List.eq_nil_of_length_eq_zero (by omega))); obtain ⟨v0, v1, v2, v3, v4⟩ := at5 B2.out; have g0 := blk_frozen B2.out 0; have g1 := blk_frozen B2.out 1; have g2 := blk_frozen B2.out 2; have g3 := blk_frozen B2.out 3; have g4 := blk_frozen B2.out 4; have x1 := blk_lt B2.out; clear hS2 hK2 hkr hk hk0)
            refine bodyPost_ret (v := .tuple #[.agg #[.int .i64 0, .slice none 0 0, .slice none 0 0, .int .i64 0, .bool false], .bool false]) (by simp [results, Tryd.results5, go_sem, v0, v1, v2, v3, v4, g0, g1, g2, g3, g4, x1]) rfl ?_
            exact ⟨(by repeat (first | (with_reducible exact K2.out) | (with_reducible refine Keep.alloc ?_ _) | (refine Keep.set ?_ _ _ (fun h _ => Nat.lt_irrefl _ h)))), .inl ⟨HN.out, rfl⟩⟩
      have qR : ((t.extract 0 4).toList == [114, 111, 119, 32]) = false := by rw [ByteArray.toList_eq, first_data]; simpa using hR
      by_cases hM : t.data.toList.take 4 = [109, 111, 114, 101]
      · have qM : ((t.extract 0 4).toList == [109, 111, 114, 101]) = true := by rw [ByteArray.toList_eq, first_data, hM]; rfl
        obtain ⟨l, hl⟩ : ∃ l, l = sWords (t.extract 4 t.size).data.toList := ⟨_, rfl⟩
        have WD := Lib.hid (fun w => by have := l9Words_calls (t.extract 4 t.size) w (by rw [ByteArray.size_extract]; omega); rw [← hl] at this; exact this)
        have HW := Lib.hid (show q = some ⟨1, l, [], 0, true⟩ by rw [HQ.out, sReply, if_neg hP, if_neg (fun h => hF h.2), if_neg (fun h => hR h.2), if_pos ⟨by rw [HLN.out]; omega, hM⟩, hl, rest_data])
        clear hP hF hR hM hl
        go_wp2_with (go_at_call 19; refine (WD.out _).mono ?_; rintro e w2 ⟨a, c, rfl, hK2, hS2⟩; have K2 := Lib.hid ((((Keep.refl Any w).alloc _).alloc _).trans hK2); have Z2 := Lib.hid hK2.size; have B4 := Lib.hid (blk_keep hK2 (blk_at2 (World.size_alloc _ _) (blk_new _ _)) trivial); have B2 := Lib.hid (blk_keep hK2 (blk_alloc (blk_new _ _) _) trivial); obtain ⟨y0, y1, y2, y3, y4⟩ := at5 B4.out; have f0 := blk_frozen B4.out 0; have f1 := blk_frozen B4.out 1; have f2 := blk_frozen B4.out 2; have f3 := blk_frozen B4.out 3; have f4 := blk_frozen B4.out 4; have x0 := blk_lt B4.out; have S2 := Lib.hid hS2; clear hS2 hK2)
        go_meet
        refine ⟨⟨1, l, [], 0, true⟩, a, c, none, 0, rfl, HW.out, (blk_set (blk_set (blk_set (blk_set (blk_set B4.out 0 _) 1 _) 2 _) 3 _) 4 _).trans rfl, SRp.names i1 i0 rfl ?_, ?_, ?_⟩
        · refine SSl.mono (SStrs.keep S2.out ?_) fun k hk => ?_
          · repeat (first | (with_reducible exact Keep.refl _ _) | (with_reducible refine Keep.alloc ?_ _) | (refine Keep.set ?_ _ _ (fun _ h => Nat.not_succ_le_self (w.heap.size + 1) (by have h2 := h.1; rw [World.size_alloc, World.size_alloc] at h2; exact h2))))
          · have h1 := hk.1; have h2 := hk.2; rw [World.size_alloc, World.size_alloc] at h1; exact ⟨h1, by simp; omega⟩
        · repeat (first | (with_reducible exact B2.out) | (with_reducible refine blk_alloc ?_ _) | (refine blk_far ?_ _ _ (Nat.ne_of_lt (Nat.lt_succ_self _))))
        · repeat (first | (with_reducible exact K2.out) | (with_reducible refine Keep.alloc ?_ _) | (refine Keep.set ?_ _ _ (fun h _ => Nat.not_succ_lt_self h)))
      have qM : ((t.extract 0 4).toList == [109, 111, 114, 101]) = false := by rw [ByteArray.toList_eq, first_data]; simpa using hM
      by_cases hO : t.data.toList.take 2 = [111, 107]
      · have qO : ((t.extract 0 2).toList == [111, 107]) = true := by rw [ByteArray.toList_eq, first_data, hO]; rfl
        obtain ⟨l, hl⟩ : ∃ l, l = sWords (t.extract 2 t.size).data.toList := ⟨_, rfl⟩
        have WD := Lib.hid (fun w => by have := l9Words_calls (t.extract 2 t.size) w (by rw [ByteArray.size_extract]; omega); rw [← hl] at this; exact this)
        have HW := Lib.hid (show q = some ⟨1, l, [], 0, false⟩ by rw [HQ.out, sReply, if_neg hP, if_neg (fun h => hF h.2), if_neg (fun h => hR h.2), if_neg (fun h => hM h.2), if_pos ⟨by rw [HLN.out]; omega, hO⟩, hl, rest_data])
        clear hP hF hR hM hO hl
        go_wp2_with (go_at_call 19; refine (WD.out _).mono ?_; rintro e w2 ⟨a, c, rfl, hK2, hS2⟩; have K2 := Lib.hid ((((Keep.refl Any w).alloc _).alloc _).trans hK2); have Z2 := Lib.hid hK2.size; have B4 := Lib.hid (blk_keep hK2 (blk_at2 (World.size_alloc _ _) (blk_new _ _)) trivial); have B2 := Lib.hid (blk_keep hK2 (blk_alloc (blk_new _ _) _) trivial); obtain ⟨y0, y1, y2, y3, y4⟩ := at5 B4.out; have f0 := blk_frozen B4.out 0; have f1 := blk_frozen B4.out 1; have f2 := blk_frozen B4.out 2; have f3 := blk_frozen B4.out 3; have f4 := blk_frozen B4.out 4; have x0 := blk_lt B4.out; have S2 := Lib.hid hS2; clear hS2 hK2)
        go_meet
        refine ⟨⟨1, l, [], 0, false⟩, a, c, none, 0, rfl, HW.out, (blk_set (blk_set (blk_set (blk_set (blk_set B4.out 0 _) 1 _) 2 _) 3 _) 4 _).trans rfl, SRp.names i1 i0 rfl ?_, ?_, ?_⟩
        · refine SSl.mono (SStrs.keep S2.out ?_) fun k hk => ?_
          · repeat (first | (with_reducible exact Keep.refl _ _) | (with_reducible refine Keep.alloc ?_ _) | (refine Keep.set ?_ _ _ (fun _ h => Nat.not_succ_le_self (w.heap.size + 1) (by have h2 := h.1; rw [World.size_alloc, World.size_alloc] at h2; exact h2))))
          · have h1 := hk.1; have h2 := hk.2; rw [World.size_alloc, World.size_alloc] at h1; exact ⟨h1, by simp; omega⟩
        · repeat (first | (with_reducible exact B2.out) | (with_reducible refine blk_alloc ?_ _) | (refine blk_far ?_ _ _ (Nat.ne_of_lt (Nat.lt_succ_self _))))
        · repeat (first | (with_reducible exact K2.out) | (with_reducible refine Keep.alloc ?_ _) | (refine Keep.set ?_ _ _ (fun h _ => Nat.not_succ_lt_self h)))
      have qO : ((t.extract 0 2).toList == [111, 107]) = false := by rw [ByteArray.toList_eq, first_data]; simpa using hO
      have HW := Lib.hid (show q = some ⟨0, [], [], 0, false⟩ by rw [HQ.out, sReply, if_neg hP, if_neg (fun h => hF h.2), if_neg (fun h => hR h.2), if_neg (fun h => hM h.2), if_neg (fun h => hO h.2)])
      clear hP hF hR hM hO
      go_wp2
      go_meet
      exact ⟨⟨0, [], [], 0, false⟩, none, 0, none, 0, rfl, HW.out, blk_at2 (World.size_alloc _ _) (blk_new _ _), SRp.names i0 i0 rfl SSl.nil, blk_alloc (blk_new _ _) _, ((Keep.refl _ _).alloc _).alloc _⟩
    have uF : ¬ (5 : Int) < (t.size : Int) := by omega
    by_cases sR : 4 < t.size
    · have uR : (4 : Int) < (t.size : Int) := by omega
      by_cases hR : t.data.toList.take 4 = [114, 111, 119, 32]
      · have qR : ((t.extract 0 4).toList == [114, 111, 119, 32]) = true := by rw [ByteArray.toList_eq, first_data, hR]; rfl
        have RD := Lib.hid (read4 (t.extract 4 t.size) · (by rw [ByteArray.size_extract]; omega))
        have HW := Lib.hid (show q = sRow (sV 4 (t.extract 4 t.size).data.toList) by rw [HQ.out, sReply, if_neg hP, if_neg (fun h => sF (by have := h.1; rw [HLN.out] at this; exact this)), if_pos ⟨by rw [HLN.out]; omega, hR⟩, rest_data])
        clear hP hR
        rcases hs : sV 4 (t.extract 4 t.size).data.toList with _ | ⟨v, r⟩
        · have RN := Lib.hid (read4.none' (s := t.extract 4 t.size) (by rw [ByteArray.size_extract]; omega) hs)
          have HN := Lib.hid (show o = none by rw [HO.out, HW.out, hs]; rfl)
          have k0 : ((0 : Int) != (t.size : Int) - 4) = true := by rw [bne_iff_ne]; omega
          clear hs
          go_wp2_with (go_at_call 18; refine (RN.out _).mono ?_; rintro e w2 ⟨v, a, c, rfl, hK2⟩; have K2 := Lib.hid ((((Keep.refl Any w).alloc _).alloc _).trans hK2); have Z2 := Lib.hid hK2.size; have B4 := Lib.hid (blk_keep hK2 (blk_at2 (World.size_alloc _ _) (blk_new _ _)) trivial); have B2 := Lib.hid (blk_keep hK2 (blk_alloc (blk_new _ _) _) trivial); obtain ⟨y0, y1, y2, y3, y4⟩ := at5 B4.out; have f0 := blk_frozen B4.out 0; have f1 := blk_frozen B4.out 1; have f2 := blk_frozen B4.out 2; have f3 := blk_frozen B4.out 3; have f4 := blk_frozen B4.out 4; have x0 := blk_lt B4.out; obtain ⟨v0, v1, v2, v3, v4⟩ := at5 B2.out; have g0 := blk_frozen B2.out 0; have g1 := blk_frozen B2.out 1; have g2 := blk_frozen B2.out 2; have g3 := blk_frozen B2.out 3; have g4 := blk_frozen B2.out 4; have x1 := blk_lt B2.out; clear hK2)
          refine bodyPost_ret (v := .tuple #[.agg #[.int .i64 0, .slice none 0 0, .slice none 0 0, .int .i64 0, .bool false], .bool false]) (by simp [results, Tryd.results5, go_sem, v0, v1, v2, v3, v4, g0, g1, g2, g3, g4, x1]) rfl ?_
          exact ⟨(by repeat (first | (with_reducible exact K2.out) | (with_reducible refine Keep.alloc ?_ _) | (refine Keep.set ?_ _ _ (fun h _ => Nat.lt_irrefl _ h)))), .inl ⟨HN.out, rfl⟩⟩
        · have RS := Lib.hid (read4.some' (s := t.extract 4 t.size) (by rw [ByteArray.size_extract]; omega) hs)
          have hz : (t.extract 4 t.size).size = t.size - 4 := by rw [ByteArray.size_extract]; omega
          by_cases hr : r = []
          · by_cases hk4 : v.kind = 4
            · have HW2 := Lib.hid (show q = some ⟨2, [], v.list, 0, false⟩ by rw [HW.out, hs, sRow_some, if_pos ⟨hr, hk4⟩])
              have k4 : (v.kind != 4) = false := by rw [hk4]; rfl
              have HR := Lib.hid hr
              have HZ := Lib.hid hz
              clear hs hr hk4 hz
              go_wp2_with (go_at_call 18; refine (RS.out _).mono ?_; rintro e w2 ⟨a, c, k, rfl, hK2, hS2, hk0, hk, hkr⟩; have K2 := Lib.hid ((((Keep.refl Any w).alloc _).alloc _).trans hK2); have Z2 := Lib.hid hK2.size; have B4 := Lib.hid (blk_keep hK2 (blk_at2 (World.size_alloc _ _) (blk_new _ _)) trivial); have B2 := Lib.hid (blk_keep hK2 (blk_alloc (blk_new _ _) _) trivial); obtain ⟨y0, y1, y2, y3, y4⟩ := at5 B4.out; have f0 := blk_frozen B4.out 0; have f1 := blk_frozen B4.out 1; have f2 := blk_frozen B4.out 2; have f3 := blk_frozen B4.out 3; have f4 := blk_frozen B4.out 4; have x0 := blk_lt B4.out; have k0 : ((k : Int) != (t.size : Int) - 4) = false := (by have h1 := drop_len (t.extract 4 t.size) k; rw [hkr, HR.out, HZ.out] at h1; simp only [List.length_nil] at h1; rw [HZ.out] at hk; rw [bne_eq_false_iff_eq]; omega); have S2 := Lib.hid (show SVs w2 _ (.slice a v.list.length c) v.list from (by obtain ⟨s, hc, _, _, _, hs⟩ := SV.iff.1 hS2; simp only [List.cons.injEq, and_true, true_and] at hc; rw [hc]; exact hs)); clear hS2 hK2 hkr hk hk0)
              go_meet
              refine ⟨⟨2, [], v.list, 0, false⟩, none, 0, a, c, rfl, HW2.out, (blk_alloc (blk_set (blk_set (blk_set (blk_set (blk_set B4.out 0 _) 1 _) 2 _) 3 _) 4 _) _).trans rfl, SRp.vals i2 i0 rfl ?_, ?_, ?_⟩
              · refine SSl.mono (SVs.keep S2.out ?_) fun k hk => ?_
                · repeat (first | (with_reducible exact Keep.refl _ _) | (with_reducible refine Keep.alloc ?_ _) | (refine Keep.set ?_ _ _ (fun _ h => Nat.not_succ_le_self (w.heap.size + 1) (by have h2 := h.1; rw [World.size_alloc, World.size_alloc] at h2; exact h2))))
                · have h1 := hk.1; have h2 := hk.2; rw [World.size_alloc, World.size_alloc] at h1; exact ⟨h1, by simp; omega⟩
              · repeat (first | (with_reducible exact B2.out) | (with_reducible refine blk_alloc ?_ _) | (refine blk_far ?_ _ _ (Nat.ne_of_lt (Nat.lt_succ_self _))))
              · repeat (first | (with_reducible exact K2.out) | (with_reducible refine Keep.alloc ?_ _) | (refine Keep.set ?_ _ _ (fun h _ => Nat.not_succ_lt_self h)))
            · have HN := Lib.hid (show o = none by rw [HO.out, HW.out, hs, sRow_some, if_neg (fun h => hk4 h.2)]; rfl)
              have k4 : (v.kind != 4) = true := by rw [bne_iff_ne]; exact hk4
              have HR := Lib.hid hr
              have HZ := Lib.hid hz
              clear hs hr hk4 hz
              go_wp2_with (go_at_call 18; refine (RS.out _).mono ?_; rintro e w2 ⟨a, c, k, rfl, hK2, hS2, hk0, hk, hkr⟩; have K2 := Lib.hid ((((Keep.refl Any w).alloc _).alloc _).trans hK2); have Z2 := Lib.hid hK2.size; have B4 := Lib.hid (blk_keep hK2 (blk_at2 (World.size_alloc _ _) (blk_new _ _)) trivial); have B2 := Lib.hid (blk_keep hK2 (blk_alloc (blk_new _ _) _) trivial); obtain ⟨y0, y1, y2, y3, y4⟩ := at5 B4.out; have f0 := blk_frozen B4.out 0; have f1 := blk_frozen B4.out 1; have f2 := blk_frozen B4.out 2; have f3 := blk_frozen B4.out 3; have f4 := blk_frozen B4.out 4; have x0 := blk_lt B4.out; have k0 : ((k : Int) != (t.size : Int) - 4) = false := (by have h1 := drop_len (t.extract 4 t.size) k; rw [hkr, HR.out, HZ.out] at h1; simp only [List.length_nil] at h1; rw [HZ.out] at hk; rw [bne_eq_false_iff_eq]; omega); obtain ⟨v0, v1, v2, v3, v4⟩ := at5 B2.out; have g0 := blk_frozen B2.out 0; have g1 := blk_frozen B2.out 1; have g2 := blk_frozen B2.out 2; have g3 := blk_frozen B2.out 3; have g4 := blk_frozen B2.out 4; have x1 := blk_lt B2.out; clear hS2 hK2 hkr hk hk0)
              refine bodyPost_ret (v := .tuple #[.agg #[.int .i64 0, .slice none 0 0, .slice none 0 0, .int .i64 0, .bool false], .bool false]) (by simp [results, Tryd.results5, go_sem, v0, v1, v2, v3, v4, g0, g1, g2, g3, g4, x1]) rfl ?_
              exact ⟨(by repeat (first | (with_reducible exact K2.out) | (with_reducible refine Keep.alloc ?_ _) | (refine Keep.set ?_ _ _ (fun h _ => Nat.lt_irrefl _ h)))), .inl ⟨HN.out, rfl⟩⟩
          · have HN := Lib.hid (show o = none by rw [HO.out, HW.out, hs, sRow_some, if_neg (fun h => hr h.1)]; rfl)
            have HR := Lib.hid hr
            have HZ := Lib.hid hz
            clear hs hr hz
            go_wp2_with (go_at_call 18; refine (RS.out _).mono ?_; rintro e w2 ⟨a, c, k, rfl, hK2, hS2, hk0, hk, hkr⟩; have K2 := Lib.hid ((((Keep.refl Any w).alloc _).alloc _).trans hK2); have Z2 := Lib.hid hK2.size; have B4 := Lib.hid (blk_keep hK2 (blk_at2 (World.size_alloc _ _) (blk_new _ _)) trivial); have B2 := Lib.hid (blk_keep hK2 (blk_alloc (blk_new _ _) _) trivial); obtain ⟨y0, y1, y2, y3, y4⟩ := at5 B4.out; have f0 := blk_frozen B4.out 0; have f1 := blk_frozen B4.out 1; have f2 := blk_frozen B4.out 2; have f3 := blk_frozen B4.out 3; have f4 := blk_frozen B4.out 4; have x0 := blk_lt B4.out; have k0 : ((k : Int) != (t.size : Int) - 4) = true := (by rw [bne_iff_ne]; intro e; have h1 := drop_len (t.extract 4 t.size) k; rw [hkr, HZ.out] at h1; exact HR.out (List.eq_nil_of_length_eq_zero (by omega))); obtain ⟨v0, v1, v2, v3, v4⟩ := at5 B2.out; have g0 := blk_frozen B2.out 0; have g1 := blk_frozen B2.out 1; have g2 := blk_frozen B2.out 2; have g3 := blk_frozen B2.out 3; have g4 := blk_frozen B2.out 4; have x1 := blk_lt B2.out; clear hS2 hK2 hkr hk hk0)
            refine bodyPost_ret (v := .tuple #[.agg #[.int .i64 0, .slice none 0 0, .slice none 0 0, .int .i64 0, .bool false], .bool false]) (by simp [results, Tryd.results5, go_sem, v0, v1, v2, v3, v4, g0, g1, g2, g3, g4, x1]) rfl ?_
            exact ⟨(by repeat (first | (with_reducible exact K2.out) | (with_reducible refine Keep.alloc ?_ _) | (refine Keep.set ?_ _ _ (fun h _ => Nat.lt_irrefl _ h)))), .inl ⟨HN.out, rfl⟩⟩
      have qR : ((t.extract 0 4).toList == [114, 111, 119, 32]) = false := by rw [ByteArray.toList_eq, first_data]; simpa using hR
      by_cases hM : t.data.toList.take 4 = [109, 111, 114, 101]
      · have qM : ((t.extract 0 4).toList == [109, 111, 114, 101]) = true := by rw [ByteArray.toList_eq, first_data, hM]; rfl
        obtain ⟨l, hl⟩ : ∃ l, l = sWords (t.extract 4 t.size).data.toList := ⟨_, rfl⟩
        have WD := Lib.hid (fun w => by have := l9Words_calls (t.extract 4 t.size) w (by rw [ByteArray.size_extract]; omega); rw [← hl] at this; exact this)
        have HW := Lib.hid (show q = some ⟨1, l, [], 0, true⟩ by rw [HQ.out, sReply, if_neg hP, if_neg (fun h => sF (by have := h.1; rw [HLN.out] at this; exact this)), if_neg (fun h => hR h.2), if_pos ⟨by rw [HLN.out]; omega, hM⟩, hl, rest_data])
        clear hP hR hM hl
        go_wp2_with (go_at_call 19; refine (WD.out _).mono ?_; rintro e w2 ⟨a, c, rfl, hK2, hS2⟩; have K2 := Lib.hid ((((Keep.refl Any w).alloc _).alloc _).trans hK2); have Z2 := Lib.hid hK2.size; have B4 := Lib.hid (blk_keep hK2 (blk_at2 (World.size_alloc _ _) (blk_new _ _)) trivial); have B2 := Lib.hid (blk_keep hK2 (blk_alloc (blk_new _ _) _) trivial); obtain ⟨y0, y1, y2, y3, y4⟩ := at5 B4.out; have f0 := blk_frozen B4.out 0; have f1 := blk_frozen B4.out 1; have f2 := blk_frozen B4.out 2; have f3 := blk_frozen B4.out 3; have f4 := blk_frozen B4.out 4; have x0 := blk_lt B4.out; have S2 := Lib.hid hS2; clear hS2 hK2)
        go_meet
        refine ⟨⟨1, l, [], 0, true⟩, a, c, none, 0, rfl, HW.out, (blk_set (blk_set (blk_set (blk_set (blk_set B4.out 0 _) 1 _) 2 _) 3 _) 4 _).trans rfl, SRp.names i1 i0 rfl ?_, ?_, ?_⟩
        · refine SSl.mono (SStrs.keep S2.out ?_) fun k hk => ?_
          · repeat (first | (with_reducible exact Keep.refl _ _) | (with_reducible refine Keep.alloc ?_ _) | (refine Keep.set ?_ _ _ (fun _ h => Nat.not_succ_le_self (w.heap.size + 1) (by have h2 := h.1; rw [World.size_alloc, World.size_alloc] at h2; exact h2))))
          · have h1 := hk.1; have h2 := hk.2; rw [World.size_alloc, World.size_alloc] at h1; exact ⟨h1, by simp; omega⟩
        · repeat (first | (with_reducible exact B2.out) | (with_reducible refine blk_alloc ?_ _) | (refine blk_far ?_ _ _ (Nat.ne_of_lt (Nat.lt_succ_self _))))
        · repeat (first | (with_reducible exact K2.out) | (with_reducible refine Keep.alloc ?_ _) | (refine Keep.set ?_ _ _ (fun h _ => Nat.not_succ_lt_self h)))
      have qM : ((t.extract 0 4).toList == [109, 111, 114, 101]) = false := by rw [ByteArray.toList_eq, first_data]; simpa using hM
      by_cases hO : t.data.toList.take 2 = [111, 107]
      · have qO : ((t.extract 0 2).toList == [111, 107]) = true := by rw [ByteArray.toList_eq, first_data, hO]; rfl
        obtain ⟨l, hl⟩ : ∃ l, l = sWords (t.extract 2 t.size).data.toList := ⟨_, rfl⟩
        have WD := Lib.hid (fun w => by have := l9Words_calls (t.extract 2 t.size) w (by rw [ByteArray.size_extract]; omega); rw [← hl] at this; exact this)
        have HW := Lib.hid (show q = some ⟨1, l, [], 0, false⟩ by rw [HQ.out, sReply, if_neg hP, if_neg (fun h => sF (by have := h.1; rw [HLN.out] at this; exact this)), if_neg (fun h => hR h.2), if_neg (fun h => hM h.2), if_pos ⟨by rw [HLN.out]; omega, hO⟩, hl, rest_data])
        clear hP hR hM hO hl
        go_wp2_with (go_at_call 19; refine (WD.out _).mono ?_; rintro e w2 ⟨a, c, rfl, hK2, hS2⟩; have K2 := Lib.hid ((((Keep.refl Any w).alloc _).alloc _).trans hK2); have Z2 := Lib.hid hK2.size; have B4 := Lib.hid (blk_keep hK2 (blk_at2 (World.size_alloc _ _) (blk_new _ _)) trivial); have B2 := Lib.hid (blk_keep hK2 (blk_alloc (blk_new _ _) _) trivial); obtain ⟨y0, y1, y2, y3, y4⟩ := at5 B4.out; have f0 := blk_frozen B4.out 0; have f1 := blk_frozen B4.out 1; have f2 := blk_frozen B4.out 2; have f3 := blk_frozen B4.out 3; have f4 := blk_frozen B4.out 4; have x0 := blk_lt B4.out; have S2 := Lib.hid hS2; clear hS2 hK2)
        go_meet
        refine ⟨⟨1, l, [], 0, false⟩, a, c, none, 0, rfl, HW.out, (blk_set (blk_set (blk_set (blk_set (blk_set B4.out 0 _) 1 _) 2 _) 3 _) 4 _).trans rfl, SRp.names i1 i0 rfl ?_, ?_, ?_⟩
        · refine SSl.mono (SStrs.keep S2.out ?_) fun k hk => ?_
          · repeat (first | (with_reducible exact Keep.refl _ _) | (with_reducible refine Keep.alloc ?_ _) | (refine Keep.set ?_ _ _ (fun _ h => Nat.not_succ_le_self (w.heap.size + 1) (by have h2 := h.1; rw [World.size_alloc, World.size_alloc] at h2; exact h2))))
          · have h1 := hk.1; have h2 := hk.2; rw [World.size_alloc, World.size_alloc] at h1; exact ⟨h1, by simp; omega⟩
        · repeat (first | (with_reducible exact B2.out) | (with_reducible refine blk_alloc ?_ _) | (refine blk_far ?_ _ _ (Nat.ne_of_lt (Nat.lt_succ_self _))))
        · repeat (first | (with_reducible exact K2.out) | (with_reducible refine Keep.alloc ?_ _) | (refine Keep.set ?_ _ _ (fun h _ => Nat.not_succ_lt_self h)))
      have qO : ((t.extract 0 2).toList == [111, 107]) = false := by rw [ByteArray.toList_eq, first_data]; simpa using hO
      have HW := Lib.hid (show q = some ⟨0, [], [], 0, false⟩ by rw [HQ.out, sReply, if_neg hP, if_neg (fun h => sF (by have := h.1; rw [HLN.out] at this; exact this)), if_neg (fun h => hR h.2), if_neg (fun h => hM h.2), if_neg (fun h => hO h.2)])
      clear hP hR hM hO
      go_wp2
      go_meet
      exact ⟨⟨0, [], [], 0, false⟩, none, 0, none, 0, rfl, HW.out, blk_at2 (World.size_alloc _ _) (blk_new _ _), SRp.names i0 i0 rfl SSl.nil, blk_alloc (blk_new _ _) _, ((Keep.refl _ _).alloc _).alloc _⟩
    have uR : ¬ (4 : Int) < (t.size : Int) := by omega
    by_cases sM : 4 ≤ t.size
    · have uM : (4 : Int) ≤ (t.size : Int) := by omega
      by_cases hM : t.data.toList.take 4 = [109, 111, 114, 101]
      · have qM : ((t.extract 0 4).toList == [109, 111, 114, 101]) = true := by rw [ByteArray.toList_eq, first_data, hM]; rfl
        obtain ⟨l, hl⟩ : ∃ l, l = sWords (t.extract 4 t.size).data.toList := ⟨_, rfl⟩
        have WD := Lib.hid (fun w => by have := l9Words_calls (t.extract 4 t.size) w (by rw [ByteArray.size_extract]; omega); rw [← hl] at this; exact this)
        have HW := Lib.hid (show q = some ⟨1, l, [], 0, true⟩ by rw [HQ.out, sReply, if_neg hP, if_neg (fun h => sF (by have := h.1; rw [HLN.out] at this; exact this)), if_neg (fun h => sR (by have := h.1; rw [HLN.out] at this; exact this)), if_pos ⟨by rw [HLN.out]; omega, hM⟩, hl, rest_data])
        clear hP hM hl
        go_wp2_with (go_at_call 19; refine (WD.out _).mono ?_; rintro e w2 ⟨a, c, rfl, hK2, hS2⟩; have K2 := Lib.hid ((((Keep.refl Any w).alloc _).alloc _).trans hK2); have Z2 := Lib.hid hK2.size; have B4 := Lib.hid (blk_keep hK2 (blk_at2 (World.size_alloc _ _) (blk_new _ _)) trivial); have B2 := Lib.hid (blk_keep hK2 (blk_alloc (blk_new _ _) _) trivial); obtain ⟨y0, y1, y2, y3, y4⟩ := at5 B4.out; have f0 := blk_frozen B4.out 0; have f1 := blk_frozen B4.out 1; have f2 := blk_frozen B4.out 2; have f3 := blk_frozen B4.out 3; have f4 := blk_frozen B4.out 4; have x0 := blk_lt B4.out; have S2 := Lib.hid hS2; clear hS2 hK2)
        go_meet
        refine ⟨⟨1, l, [], 0, true⟩, a, c, none, 0, rfl, HW.out, (blk_set (blk_set (blk_set (blk_set (blk_set B4.out 0 _) 1 _) 2 _) 3 _) 4 _).trans rfl, SRp.names i1 i0 rfl ?_, ?_, ?_⟩
        · refine SSl.mono (SStrs.keep S2.out ?_) fun k hk => ?_
          · repeat (first | (with_reducible exact Keep.refl _ _) | (with_reducible refine Keep.alloc ?_ _) | (refine Keep.set ?_ _ _ (fun _ h => Nat.not_succ_le_self (w.heap.size + 1) (by have h2 := h.1; rw [World.size_alloc, World.size_alloc] at h2; exact h2))))
          · have h1 := hk.1; have h2 := hk.2; rw [World.size_alloc, World.size_alloc] at h1; exact ⟨h1, by simp; omega⟩
        · repeat (first | (with_reducible exact B2.out) | (with_reducible refine blk_alloc ?_ _) | (refine blk_far ?_ _ _ (Nat.ne_of_lt (Nat.lt_succ_self _))))
        · repeat (first | (with_reducible exact K2.out) | (with_reducible refine Keep.alloc ?_ _) | (refine Keep.set ?_ _ _ (fun h _ => Nat.not_succ_lt_self h)))
      have qM : ((t.extract 0 4).toList == [109, 111, 114, 101]) = false := by rw [ByteArray.toList_eq, first_data]; simpa using hM
      by_cases hO : t.data.toList.take 2 = [111, 107]
      · have qO : ((t.extract 0 2).toList == [111, 107]) = true := by rw [ByteArray.toList_eq, first_data, hO]; rfl
        obtain ⟨l, hl⟩ : ∃ l, l = sWords (t.extract 2 t.size).data.toList := ⟨_, rfl⟩
        have WD := Lib.hid (fun w => by have := l9Words_calls (t.extract 2 t.size) w (by rw [ByteArray.size_extract]; omega); rw [← hl] at this; exact this)
        have HW := Lib.hid (show q = some ⟨1, l, [], 0, false⟩ by rw [HQ.out, sReply, if_neg hP, if_neg (fun h => sF (by have := h.1; rw [HLN.out] at this; exact this)), if_neg (fun h => sR (by have := h.1; rw [HLN.out] at this; exact this)), if_neg (fun h => hM h.2), if_pos ⟨by rw [HLN.out]; omega, hO⟩, hl, rest_data])
        clear hP hM hO hl
        go_wp2_with (go_at_call 19; refine (WD.out _).mono ?_; rintro e w2 ⟨a, c, rfl, hK2, hS2⟩; have K2 := Lib.hid ((((Keep.refl Any w).alloc _).alloc _).trans hK2); have Z2 := Lib.hid hK2.size; have B4 := Lib.hid (blk_keep hK2 (blk_at2 (World.size_alloc _ _) (blk_new _ _)) trivial); have B2 := Lib.hid (blk_keep hK2 (blk_alloc (blk_new _ _) _) trivial); obtain ⟨y0, y1, y2, y3, y4⟩ := at5 B4.out; have f0 := blk_frozen B4.out 0; have f1 := blk_frozen B4.out 1; have f2 := blk_frozen B4.out 2; have f3 := blk_frozen B4.out 3; have f4 := blk_frozen B4.out 4; have x0 := blk_lt B4.out; have S2 := Lib.hid hS2; clear hS2 hK2)
        go_meet
        refine ⟨⟨1, l, [], 0, false⟩, a, c, none, 0, rfl, HW.out, (blk_set (blk_set (blk_set (blk_set (blk_set B4.out 0 _) 1 _) 2 _) 3 _) 4 _).trans rfl, SRp.names i1 i0 rfl ?_, ?_, ?_⟩
        · refine SSl.mono (SStrs.keep S2.out ?_) fun k hk => ?_
          · repeat (first | (with_reducible exact Keep.refl _ _) | (with_reducible refine Keep.alloc ?_ _) | (refine Keep.set ?_ _ _ (fun _ h => Nat.not_succ_le_self (w.heap.size + 1) (by have h2 := h.1; rw [World.size_alloc, World.size_alloc] at h2; exact h2))))
          · have h1 := hk.1; have h2 := hk.2; rw [World.size_alloc, World.size_alloc] at h1; exact ⟨h1, by simp; omega⟩
        · repeat (first | (with_reducible exact B2.out) | (with_reducible refine blk_alloc ?_ _) | (refine blk_far ?_ _ _ (Nat.ne_of_lt (Nat.lt_succ_self _))))
        · repeat (first | (with_reducible exact K2.out) | (with_reducible refine Keep.alloc ?_ _) | (refine Keep.set ?_ _ _ (fun h _ => Nat.not_succ_lt_self h)))
      have qO : ((t.extract 0 2).toList == [111, 107]) = false := by rw [ByteArray.toList_eq, first_data]; simpa using hO
      have HW := Lib.hid (show q = some ⟨0, [], [], 0, false⟩ by rw [HQ.out, sReply, if_neg hP, if_neg (fun h => sF (by have := h.1; rw [HLN.out] at this; exact this)), if_neg (fun h => sR (by have := h.1; rw [HLN.out] at this; exact this)), if_neg (fun h => hM h.2), if_neg (fun h => hO h.2)])
      clear hP hM hO
      go_wp2
      go_meet
      exact ⟨⟨0, [], [], 0, false⟩, none, 0, none, 0, rfl, HW.out, blk_at2 (World.size_alloc _ _) (blk_new _ _), SRp.names i0 i0 rfl SSl.nil, blk_alloc (blk_new _ _) _, ((Keep.refl _ _).alloc _).alloc _⟩
    have uM : ¬ (4 : Int) ≤ (t.size : Int) := by omega
    by_cases sO : 2 ≤ t.size
    · have uO : (2 : Int) ≤ (t.size : Int) := by omega
      by_cases hO : t.data.toList.take 2 = [111, 107]
      · have qO : ((t.extract 0 2).toList == [111, 107]) = true := by rw [ByteArray.toList_eq, first_data, hO]; rfl
        obtain ⟨l, hl⟩ : ∃ l, l = sWords (t.extract 2 t.size).data.toList := ⟨_, rfl⟩
        have WD := Lib.hid (fun w => by have := l9Words_calls (t.extract 2 t.size) w (by rw [ByteArray.size_extract]; omega); rw [← hl] at this; exact this)
        have HW := Lib.hid (show q = some ⟨1, l, [], 0, false⟩ by rw [HQ.out, sReply, if_neg hP, if_neg (fun h => sF (by have := h.1; rw [HLN.out] at this; exact this)), if_neg (fun h => sR (by have := h.1; rw [HLN.out] at this; exact this)), if_neg (fun h => sM (by have := h.1; rw [HLN.out] at this; exact this)), if_pos ⟨by rw [HLN.out]; omega, hO⟩, hl, rest_data])
        clear hP hO hl
        go_wp2_with (go_at_call 19; refine (WD.out _).mono ?_; rintro e w2 ⟨a, c, rfl, hK2, hS2⟩; have K2 := Lib.hid ((((Keep.refl Any w).alloc _).alloc _).trans hK2); have Z2 := Lib.hid hK2.size; have B4 := Lib.hid (blk_keep hK2 (blk_at2 (World.size_alloc _ _) (blk_new _ _)) trivial); have B2 := Lib.hid (blk_keep hK2 (blk_alloc (blk_new _ _) _) trivial); obtain ⟨y0, y1, y2, y3, y4⟩ := at5 B4.out; have f0 := blk_frozen B4.out 0; have f1 := blk_frozen B4.out 1; have f2 := blk_frozen B4.out 2; have f3 := blk_frozen B4.out 3; have f4 := blk_frozen B4.out 4; have x0 := blk_lt B4.out; have S2 := Lib.hid hS2; clear hS2 hK2)
        go_meet
        refine ⟨⟨1, l, [], 0, false⟩, a, c, none, 0, rfl, HW.out, (blk_set (blk_set (blk_set (blk_set (blk_set B4.out 0 _) 1 _) 2 _) 3 _) 4 _).trans rfl, SRp.names i1 i0 rfl ?_, ?_, ?_⟩
        · refine SSl.mono (SStrs.keep S2.out ?_) fun k hk => ?_
          · repeat (first | (with_reducible exact Keep.refl _ _) | (with_reducible refine Keep.alloc ?_ _) | (refine Keep.set ?_ _ _ (fun _ h => Nat.not_succ_le_self (w.heap.size + 1) (by have h2 := h.1; rw [World.size_alloc, World.size_alloc] at h2; exact h2))))
          · have h1 := hk.1; have h2 := hk.2; rw [World.size_alloc, World.size_alloc] at h1; exact ⟨h1, by simp; omega⟩
        · repeat (first | (with_reducible exact B2.out) | (with_reducible refine blk_alloc ?_ _) | (refine blk_far ?_ _ _ (Nat.ne_of_lt (Nat.lt_succ_self _))))
        · repeat (first | (with_reducible exact K2.out) | (with_reducible refine Keep.alloc ?_ _) | (refine Keep.set ?_ _ _ (fun h _ => Nat.not_succ_lt_self h)))
      have qO : ((t.extract 0 2).toList == [111, 107]) = false := by rw [ByteArray.toList_eq, first_data]; simpa using hO
      have HW := Lib.hid (show q = some ⟨0, [], [], 0, false⟩ by rw [HQ.out, sReply, if_neg hP, if_neg (fun h => sF (by have := h.1; rw [HLN.out] at this; exact this)), if_neg (fun h => sR (by have := h.1; rw [HLN.out] at this; exact this)), if_neg (fun h => sM (by have := h.1; rw [HLN.out] at this; exact this)), if_neg (fun h => hO h.2)])
      clear hP hO
      go_wp2
      go_meet
      exact ⟨⟨0, [], [], 0, false⟩, none, 0, none, 0, rfl, HW.out, blk_at2 (World.size_alloc _ _) (blk_new _ _), SRp.names i0 i0 rfl SSl.nil, blk_alloc (blk_new _ _) _, ((Keep.refl _ _).alloc _).alloc _⟩
    have uO : ¬ (2 : Int) ≤ (t.size : Int) := by omega
    have HW := Lib.hid (show q = some ⟨0, [], [], 0, false⟩ by rw [HQ.out, sReply, if_neg hP, if_neg (fun h => sF (by have := h.1; rw [HLN.out] at this; exact this)), if_neg (fun h => sR (by have := h.1; rw [HLN.out] at this; exact this)), if_neg (fun h => sM (by have := h.1; rw [HLN.out] at this; exact this)), if_neg (fun h => sO (by have := h.1; rw [HLN.out] at this; exact this))])
    clear hP
    go_wp2
    go_meet
    exact ⟨⟨0, [], [], 0, false⟩, none, 0, none, 0, rfl, HW.out, blk_at2 (World.size_alloc _ _) (blk_new _ _), SRp.names i0 i0 rfl SSl.nil, blk_alloc (blk_new _ _) _, ((Keep.refl _ _).alloc _).alloc _⟩
  case rest =>
    obtain ⟨r, a, c, a2, c2, rfl, hq, hB7, hS, hB2, hK⟩ := hcut
    have HO2 := Lib.hid (show o = replyOf t.data.toList r by rw [HO.out, hq]; rfl)
    have K0 := Lib.hid hK
    have B2 := Lib.hid hB2
    have B7 := Lib.hid hB7
    have S7 := Lib.hid hS
    have Z7 := Lib.hid (blk_lt hB7)
    clear hB7 hS hK hB2 hq
    have RF := Lib.hid (specReplyFine_calls r)
    have RP := Lib.hid (l9Reply_calls r)
    obtain ⟨y0, y1, y2, y3, y4⟩ := at5 B7.out
    have f0 := blk_frozen B7.out 0
    have f1 := blk_frozen B7.out 1
    have f2 := blk_frozen B7.out 2
    have f3 := blk_frozen B7.out 3
    have f4 := blk_frozen B7.out 4
    have x0 := blk_lt B7.out
    rcases hok : fineR r with _ | _
    · have HN := Lib.hid (show o = none by rw [HO2.out, replyOf, hok, if_neg (by simp)])
      have HOK := Lib.hid hok
      clear hok
      go_wp2_with (go_at_call 14; refine (RF.out _ _ S7.out.rr).mono ?_; rintro e w4 ⟨rfl, hK4⟩; rw [HOK.out]; have K4 := Lib.hid (K0.out.trans hK4); have KS4 := Lib.hid hK4; have B74 := Lib.hid (blk_keep hK4 B7.out trivial); have B24 := Lib.hid (blk_keep hK4 B2.out trivial); clear hK4; clear y0 y1 y2 y3 y4 f0 f1 f2 f3 f4 x0; obtain ⟨y0, y1, y2, y3, y4⟩ := at5 B74.out; have f0 := blk_frozen B74.out 0; have f1 := blk_frozen B74.out 1; have f2 := blk_frozen B74.out 2; have f3 := blk_frozen B74.out 3; have f4 := blk_frozen B74.out 4; have x0 := blk_lt B74.out; obtain ⟨v0, v1, v2, v3, v4⟩ := at5 B24.out; have g0 := blk_frozen B24.out 0; have g1 := blk_frozen B24.out 1; have g2 := blk_frozen B24.out 2; have g3 := blk_frozen B24.out 3; have g4 := blk_frozen B24.out 4; have x1 := blk_lt B24.out)
      refine bodyPost_ret (v := .tuple #[.agg #[.int .i64 0, .slice none 0 0, .slice none 0 0, .int .i64 0, .bool false], .bool false]) (by simp [results, Tryd.results5, go_sem, v0, v1, v2, v3, v4, g0, g1, g2, g3, g4, x1]) rfl ?_
      exact ⟨(by repeat (first | (with_reducible exact K4.out) | (with_reducible refine Keep.alloc ?_ _) | (refine Keep.set ?_ _ _ (fun h _ => Nat.lt_irrefl _ h)))), .inl ⟨HN.out, rfl⟩⟩
    · obtain ⟨p, hp⟩ : ∃ p, (⟨(bodyTxt r).toArray⟩ : ByteArray) = p := ⟨_, rfl⟩
      have HP := Lib.hid (show Ending.returned (.string ⟨(bodyTxt r).toArray⟩) = .returned (.string p) by rw [hp])
      have HOK := Lib.hid hok
      by_cases hpt : p = t
      · have HO4 := Lib.hid (show o = some r by rw [HO2.out, replyOf, if_pos ⟨hok, by rw [← hpt, ← hp]⟩])
        subst hpt
        have b1 : (p.toList != p.toList) = false := by simp
        clear hok hp
        go_wp2_with (first | (go_at_call 14; refine (RF.out _ _ S7.out.rr).mono ?_; rintro e w4 ⟨rfl, hK4⟩; rw [HOK.out]; have K4 := Lib.hid (K0.out.trans hK4); have KS4 := Lib.hid hK4; have B74 := Lib.hid (blk_keep hK4 B7.out trivial); have B24 := Lib.hid (blk_keep hK4 B2.out trivial); clear hK4; clear y0 y1 y2 y3 y4 f0 f1 f2 f3 f4 x0; obtain ⟨y0, y1, y2, y3, y4⟩ := at5 B74.out; have f0 := blk_frozen B74.out 0; have f1 := blk_frozen B74.out 1; have f2 := blk_frozen B74.out 2; have f3 := blk_frozen B74.out 3; have f4 := blk_frozen B74.out 4; have x0 := blk_lt B74.out; obtain ⟨v0, v1, v2, v3, v4⟩ := at5 B24.out; have g0 := blk_frozen B24.out 0; have g1 := blk_frozen B24.out 1; have g2 := blk_frozen B24.out 2; have g3 := blk_frozen B24.out 3; have g4 := blk_frozen B24.out 4; have x1 := blk_lt B24.out) | (go_at_call 20; refine (RP.out _ _ (S7.out.keep KS4.out.any).rr HOK.out).mono ?_; rintro e w5 ⟨rfl, hK5⟩; rw [HP.out]; have K5 := Lib.hid (K4.out.trans hK5); have KS5 := Lib.hid (KS4.out.trans hK5); have B75 := Lib.hid (blk_keep hK5 B74.out trivial); have B25 := Lib.hid (blk_keep hK5 B24.out trivial); clear hK5; clear y0 y1 y2 y3 y4 f0 f1 f2 f3 f4 x0 v0 v1 v2 v3 v4 g0 g1 g2 g3 g4 x1; obtain ⟨y0, y1, y2, y3, y4⟩ := at5 B75.out; have f0 := blk_frozen B75.out 0; have f1 := blk_frozen B75.out 1; have f2 := blk_frozen B75.out 2; have f3 := blk_frozen B75.out 3; have f4 := blk_frozen B75.out 4; have x0 := blk_lt B75.out; obtain ⟨v0, v1, v2, v3, v4⟩ := at5 B25.out; have g0 := blk_frozen B25.out 0; have g1 := blk_frozen B25.out 1; have g2 := blk_frozen B25.out 2; have g3 := blk_frozen B25.out 3; have g4 := blk_frozen B25.out 4; have x1 := blk_lt B25.out))
        refine bodyPost_ret (v := .tuple #[.agg #[.int .i64 r.kind, .slice a r.names.length c, .slice a2 r.row.length c2, .int .i64 r.code, .bool r.more], .bool true]) (by simp [results, Tryd.results5, go_sem, v0, v1, v2, v3, v4, g0, g1, g2, g3, g4, x1]) rfl ?_
        refine ⟨(by repeat (first | (with_reducible exact K5.out) | (refine Keep.set ?_ _ _ (fun h _ => Nat.lt_irrefl _ h)))), .inr ⟨r, a, c, a2, c2, HO4.out, rfl, ?_⟩⟩
        refine SRp.mono (SRp.keep (S7.out.keep KS5.out.any) (w' := _) ?_) fun j hj => ⟨Nat.le_of_lt (Nat.lt_trans (Nat.lt_succ_self _) hj.1), by simpa using Nat.lt_of_lt_of_le hj.2 KS5.out.size⟩
        repeat (first | (with_reducible exact Keep.refl _ _) | (refine Keep.set ?_ _ _ (fun _ h => Nat.lt_irrefl _ (Nat.lt_trans (Nat.lt_succ_self _) h.1))))
      · have HN := Lib.hid (show o = none by rw [HO2.out, replyOf, if_neg (fun h => hpt (by rw [← hp, h.2, bytes_eta]))])
        have b1 : (p.toList != t.toList) = true := by rw [bne_iff_ne, ByteArray.toList_eq, ByteArray.toList_eq]; exact fun e => hpt (ByteArray.ext (Array.ext' e))
        have b2 : (p.toList == t.toList) = false := by rw [bne] at b1; simpa using b1
        have b3 : ¬ p.toList = t.toList := by simpa using b2
        clear hok hp
        go_wp2_with (first | (go_at_call 14; refine (RF.out _ _ S7.out.rr).mono ?_; rintro e w4 ⟨rfl, hK4⟩; rw [HOK.out]; have K4 := Lib.hid (K0.out.trans hK4); have KS4 := Lib.hid hK4; have B74 := Lib.hid (blk_keep hK4 B7.out trivial); have B24 := Lib.hid (blk_keep hK4 B2.out trivial); clear hK4; clear y0 y1 y2 y3 y4 f0 f1 f2 f3 f4 x0; obtain ⟨y0, y1, y2, y3, y4⟩ := at5 B74.out; have f0 := blk_frozen B74.out 0; have f1 := blk_frozen B74.out 1; have f2 := blk_frozen B74.out 2; have f3 := blk_frozen B74.out 3; have f4 := blk_frozen B74.out 4; have x0 := blk_lt B74.out; obtain ⟨v0, v1, v2, v3, v4⟩ := at5 B24.out; have g0 := blk_frozen B24.out 0; have g1 := blk_frozen B24.out 1; have g2 := blk_frozen B24.out 2; have g3 := blk_frozen B24.out 3; have g4 := blk_frozen B24.out 4; have x1 := blk_lt B24.out) | (go_at_call 20; refine (RP.out _ _ (S7.out.keep KS4.out.any).rr HOK.out).mono ?_; rintro e w5 ⟨rfl, hK5⟩; rw [HP.out]; have K5 := Lib.hid (K4.out.trans hK5); have KS5 := Lib.hid (KS4.out.trans hK5); have B75 := Lib.hid (blk_keep hK5 B74.out trivial); have B25 := Lib.hid (blk_keep hK5 B24.out trivial); clear hK5; clear y0 y1 y2 y3 y4 f0 f1 f2 f3 f4 x0 v0 v1 v2 v3 v4 g0 g1 g2 g3 g4 x1; obtain ⟨y0, y1, y2, y3, y4⟩ := at5 B75.out; have f0 := blk_frozen B75.out 0; have f1 := blk_frozen B75.out 1; have f2 := blk_frozen B75.out 2; have f3 := blk_frozen B75.out 3; have f4 := blk_frozen B75.out 4; have x0 := blk_lt B75.out; obtain ⟨v0, v1, v2, v3, v4⟩ := at5 B25.out; have g0 := blk_frozen B25.out 0; have g1 := blk_frozen B25.out 1; have g2 := blk_frozen B25.out 2; have g3 := blk_frozen B25.out 3; have g4 := blk_frozen B25.out 4; have x1 := blk_lt B25.out))
        refine bodyPost_ret (v := .tuple #[.agg #[.int .i64 0, .slice none 0 0, .slice none 0 0, .int .i64 0, .bool false], .bool false]) (by simp [results, Tryd.results5, go_sem, v0, v1, v2, v3, v4, g0, g1, g2, g3, g4, x1]) rfl ?_
        exact ⟨(by repeat (first | (with_reducible exact K5.out) | (with_reducible refine Keep.alloc ?_ _) | (refine Keep.set ?_ _ _ (fun h _ => Nat.lt_irrefl _ h)))), .inl ⟨HN.out, rfl⟩⟩
end Go.Proofs.YtlmonnhgjnjniaaDoor

/- The program's reading of a reply. For every text of at most 2^20 bytes, where Go's table of powers is laid and its own variable on the processor holds some number. -/
import Derived.Test.YtlmonnhgjnjniaaDoorMLawReply5
import Derived.Test.YtlmonnhgjnjniaaDoorMLawReply8
import Derived.Test.YtlmonnhgjnjniaaDoorMLawReply7
import Derived.Test.YtlmonnhgjnjniaaDoorMLawReply2
/- The program's reading of a reply. For every text of at most 2^20 bytes, where Go's table of powers is laid and its own variable on the processor holds some number. -/
namespace Go.Proofs.YtlmonnhgjnjniaaDoor
open Go.RowKit
set_option linter.unusedVariables false
set_option linter.unusedSimpArgs false
/-- a reply of one's own: names and row apart -/
def SRp (w : World) (ok : Nat → Prop) (r : Rp) (cs : List Value) : Prop :=
  ∃ (ok1 ok2 : Nat → Prop) (s1 s2 : Value), cs = [.int .i64 r.kind, s1, s2, .int .i64 r.code, .bool r.more] ∧ I64 r.kind ∧ I64 r.code ∧ SStrs w ok1 s1 r.names ∧ SVs w ok2 s2 r.row ∧ (∀ k, ok1 k → ok k) ∧ (∀ k, ok2 k → ok k) ∧ (∀ k, ok1 k → ¬ ok2 k)
theorem SRp.keep {w w' : World} {ok : Nat → Prop} {r : Rp} {cs : List Value} (h : SRp w ok r cs) (k : Keep ok w w') : SRp w' ok r cs := by
  obtain ⟨ok1, ok2, s1, s2, rfl, h1, h2, h3, h4, h5, h6, h7⟩ := h
  exact ⟨ok1, ok2, s1, s2, rfl, h1, h2, h3.keep (k.mono fun i _ hi => h5 i hi), h4.keep (k.mono fun i _ hi => h6 i hi), h5, h6, h7⟩
theorem SRp.mono {w : World} {ok ok' : Nat → Prop} {r : Rp} {cs : List Value} (h : SRp w ok r cs) (k : ∀ k, ok k → ok' k) : SRp w ok' r cs := by
  obtain ⟨ok1, ok2, s1, s2, rfl, h1, h2, h3, h4, h5, h6, h7⟩ := h
  exact ⟨ok1, ok2, s1, s2, rfl, h1, h2, h3, h4, fun i hi => k i (h5 i hi), fun i hi => k i (h6 i hi), h7⟩
theorem SRp.rr {w : World} {ok : Nat → Prop} {r : Rp} {cs : List Value} (h : SRp w ok r cs) : RR w Any r cs := by
  obtain ⟨ok1, ok2, s1, s2, rfl, h1, h2, h3, h4, h5, h6, h7⟩ := h
  exact ⟨s1, s2, rfl, h1, h2, Strs.mono h3.strs fun _ _ _ => trivial, Vals.mono h4.vals fun _ _ _ => trivial⟩
theorem SRp.names {w : World} {ok : Nat → Prop} {r : Rp} {s : Value} (hk : I64 r.kind) (hc : I64 r.code) (hr : r.row = []) (h : SStrs w ok s r.names) : SRp w ok r [.int .i64 r.kind, s, .slice none 0 0, .int .i64 r.code, .bool r.more] :=
  ⟨ok, fun _ => False, s, _, rfl, hk, hc, h, by rw [hr]; exact SSl.nil, fun _ h => h, fun _ h => h.elim, fun _ _ h => h⟩
theorem SRp.vals {w : World} {ok : Nat → Prop} {r : Rp} {s : Value} (hk : I64 r.kind) (hc : I64 r.code) (hr : r.names = []) (h : SVs w ok s r.row) : SRp w ok r [.int .i64 r.kind, .slice none 0 0, s, .int .i64 r.code, .bool r.more] :=
  ⟨fun _ => False, ok, _, s, rfl, hk, hc, by rw [hr]; exact SSl.nil, h, fun _ h => h.elim, fun _ h => h, fun _ h => h.elim⟩
theorem at5 {w : World} {g : Nat} {T : TypeId} {a b c d e : Value} (h : w.heap[g]? = some (.cells #[a, b, c, d, e] T (0, 0))) : w.cell? ⟨g, 0, none⟩ = some a ∧ w.cell? ⟨g, 1, none⟩ = some b ∧ w.cell? ⟨g, 2, none⟩ = some c ∧ w.cell? ⟨g, 3, none⟩ = some d ∧ w.cell? ⟨g, 4, none⟩ = some e :=
  ⟨(blk_cell h 0).trans rfl, (blk_cell h 1).trans rfl, (blk_cell h 2).trans rfl, (blk_cell h 3).trans rfl, (blk_cell h 4).trans rfl⟩
/-- a reply, and whether there is one -/
def GotRp (o : Option Rp) (w : World) (e : Ending) (w' : World) : Prop :=
  Keep Any w w' ∧ ((o = none ∧ e = .returned (.tuple #[.agg #[.int .i64 0, .slice none 0 0, .slice none 0 0, .int .i64 0, .bool false], .bool false])) ∨
    ∃ (r : Rp) (a : Option Addr) (c : Nat) (a2 : Option Addr) (c2 : Nat), o = some r ∧ e = .returned (.tuple #[.agg #[.int .i64 r.kind, .slice a r.names.length c, .slice a2 r.row.length c2, .int .i64 r.code, .bool r.more], .bool true]) ∧
      SRp w' (Mid w.heap.size w'.heap.size) r [.int .i64 r.kind, .slice a r.names.length c, .slice a2 r.row.length c2, .int .i64 r.code, .bool r.more])
theorem cutWord_calls (t : ByteArray) (ht : t.size ≤ 1048576) (w : World) : Calls Tryd.prog 21 #[.string t, .string ⟨#[32]⟩] w fun e w' =>
    ∃ (x y : ByteArray) (m : Bool), e = .returned (.tuple #[.string x, .string y, .bool m]) ∧ iReply t.data.toList = iWord x.data.toList y.data.toList m ∧ y.size ≤ 1048576 ∧ Keep Any w w' := by
  rcases hc : cutAt 32 t.data.toList with _ | ⟨x, y⟩
  · exact (cut_none (by omega) hc w).mono fun e w' ⟨he, hk⟩ => ⟨t, ⟨#[]⟩, false, he, by rw [iReply, hc], by decide, hk⟩
  · have hl := cutAt_len hc
    exact (cut_some (by omega) hc w).mono fun e w' ⟨he, hk⟩ => ⟨⟨x.toArray⟩, ⟨y.toArray⟩, true, he, by rw [iReply, hc], (by rw [← Lib.size_eq] at hl; have e : (⟨y.toArray⟩ : ByteArray).size = y.length := rfl; omega), hk⟩
theorem code_calls (y : ByteArray) (hy : y.size ≤ 1048576) (w : World) : Calls Tryd.prog 24 #[.string y, .int .i64 0] w fun e w' =>
    ∃ (k : Nat) (z : Int), e = .returned (.tuple #[.int .i64 k, .int .i64 z]) ∧ codeOf (figs y.data.toList) = k ∧ k ≤ 10000000000 ∧ w = w' :=
  (figuresAt_calls y 0 w (by omega) (by omega)).mono fun e w' h => by
    rw [List.drop_zero] at h
    rcases h with ⟨h1, h2, h3⟩ | ⟨k, z, h1, h2, h3, h4, h5⟩
    · exact ⟨0, -1, h2, by rw [h1]; rfl, by omega, h3⟩
    · exact ⟨k, z, h4, by rw [h1]; rfl, h2, h5⟩
theorem row_calls (y : ByteArray) (hy : y.size ≤ 1048576) (w : World) : Calls Tryd.prog 23 #[.string y, .int .i64 0, .int .i64 5, .int .i64 3] w fun e w' =>
    ∃ (l : List V) (a : Option Addr) (c : Nat) (z : Int), e = .returned (.tuple #[.slice a l.length c, .int .i64 z]) ∧ rowOf (rdL (rdV 3) 5 y.data.toList) = l ∧ Keep Any w w' ∧ SVs w' (Mid w.heap.size w'.heap.size) (.slice a l.length c) l :=
  (valuesAt_of 3 (by omega) valueAt3 y 0 5 w (by omega) (by omega) (by omega)).mono fun e w' h => by
    rw [List.drop_zero] at h
    obtain ⟨l, a, c, z, h1, h2, h3, ⟨h4, h5, h6⟩ | ⟨k, h4, h5, h6⟩⟩ := h
    · exact ⟨l, a, c, z, h1, by rw [h4, h6]; rfl, h2, h3⟩
    · exact ⟨l, a, c, z, h1, by rw [h6]; rfl, h2, h3⟩
set_option maxHeartbeats 4000000 in
set_option maxRecDepth 20000 in
theorem implReplyGet_calls (t : ByteArray) (w : World) (ht : t.size ≤ 1048576) (hT : Tab w) (hM : ML w) : Calls Tryd.prog 6 #[.string t] w (GotRp (replyGet t.data.toList) w) := by
  have HT := Lib.hid hT
  have HM := Lib.hid hM
  clear hT hM
  obtain ⟨r, hr⟩ : ∃ r, r = iReply t.data.toList := ⟨_, rfl⟩
  obtain ⟨o, ho⟩ : ∃ o, o = replyOf t.data.toList r := ⟨_, rfl⟩
  rw [show replyGet t.data.toList = o by rw [ho, hr]; rfl]
  have HR := Lib.hid hr
  have HO := Lib.hid ho
  have CW := Lib.hid (cutWord_calls t ht)
  clear hr ho
  go_enter Tryd.func6, Tryd.ntmps6
  go_upto_block 0 with (go_at_call 21; refine (CW.out _).mono ?_; rintro e w1 ⟨x, y, m, rfl, hI, hy, hK1⟩; have K1 := Lib.hid (((Keep.refl Any w).alloc _).trans hK1); have B2 := Lib.hid (blk_keep hK1 (blk_new _ _) trivial); have HI := Lib.hid (HR.out.trans hI); have Z1 := Lib.hid (show w.heap.size < w1.heap.size by have := hK1.size; rw [World.size_alloc] at this; omega); clear hK1 hI)
  go_cut [4] from 8 to 49 (fun v wc => ∃ (a : Option Addr) (c : Nat) (a2 : Option Addr) (c2 : Nat), v = .string x ∧ wc.heap[w1.heap.size]? = some (.cells #[.int .i64 r.kind, .slice a r.names.length c, .slice a2 r.row.length c2, .int .i64 r.code, .bool r.more] 25 (0, 0)) ∧
    SRp wc (fun k => w1.heap.size < k ∧ k < wc.heap.size) r [.int .i64 r.kind, .slice a r.names.length c, .slice a2 r.row.length c2, .int .i64 r.code, .bool r.more] ∧ Keep Any w1 wc)
  case first =>
    have SP := Lib.hid (split_calls y)
    have VA := Lib.hid (row_calls y hy)
    have FG := Lib.hid (code_calls y hy)
    have il : I64 0 ∧ I64 1 ∧ I64 2 ∧ I64 3 ∧ I64 4 := ⟨⟨by decide, by decide⟩, ⟨by decide, by decide⟩, ⟨by decide, by decide⟩, ⟨by decide, by decide⟩, ⟨by decide, by decide⟩⟩
    obtain ⟨i0, i1, i2, i3, i4⟩ := il
    have xe : x.toList = x.data.toList := ByteArray.toList_eq x
    by_cases h1 : x.data.toList = [111, 107]
    · have q1 : (x.toList == [111, 107]) = true := by rw [xe, h1]; rfl
      have q2 : (x.toList == [109, 111, 114, 101]) = false := by rw [xe, h1]; rfl
      have q3 : (x.toList == [114, 111, 119]) = false := by rw [xe, h1]; rfl
      have q4 : (x.toList == [102, 97, 105, 108]) = false := by rw [xe, h1]; rfl
      have q5 : (x.toList == [112, 97, 115, 116]) = false := by rw [xe, h1]; rfl
      have HW := Lib.hid (show r = ⟨1, if m then namesL y.data.toList else [], [], 0, false⟩ by rw [HI.out, h1]; rfl)
      clear h1 xe
      cases m
      · go_wp2
        go_meet
        refine ⟨none, 0, none, 0, rfl, ?_⟩
        rw [HW.out]
        exact ⟨blk_new _ _, SRp.names i1 i0 rfl SSl.nil, (Keep.refl _ _).alloc _⟩
      · go_wp2_with (go_at_call 22; refine (SP.out _ hy (HM.out.keep (K1.out.alloc _) trivial)).mono ?_; rintro e w2 ⟨a, c, rfl, hK2, hS2⟩; have K2 := Lib.hid (((Keep.refl Any w1).alloc _).trans hK2); have B7 := Lib.hid (blk_keep hK2 (blk_new _ _) trivial); obtain ⟨y0, y1, y2, y3, y4⟩ := at5 B7.out; have f0 := blk_frozen B7.out 0; have f1 := blk_frozen B7.out 1; have f2 := blk_frozen B7.out 2; have f3 := blk_frozen B7.out 3; have f4 := blk_frozen B7.out 4; have x0 := blk_lt B7.out; have S2 := Lib.hid hS2; clear hS2 hK2)
        go_meet
        refine ⟨a, c, none, 0, rfl, ?_⟩
        rw [HW.out]
        refine ⟨(blk_set B7.out 1 _).trans rfl, SRp.names i1 i0 rfl (SSl.mono (SStrs.keep S2.out ((Keep.refl _ _).set _ _ (fun _ h => Nat.not_succ_le_self w1.heap.size (by have h2 := h.1; rw [World.size_alloc] at h2; exact h2)))) fun k hk => ?_), K2.out.set _ _ (fun h _ => Nat.lt_irrefl _ h)⟩
        · have h1 := hk.1; have h2 := hk.2; rw [World.size_alloc] at h1; exact ⟨h1, by simpa using h2⟩
    have q1 : (x.toList == [111, 107]) = false := by rw [xe]; simpa using h1
    by_cases h2 : x.data.toList = [109, 111, 114, 101]
    · have q2 : (x.toList == [109, 111, 114, 101]) = true := by rw [xe, h2]; rfl
      have q3 : (x.toList == [114, 111, 119]) = false := by rw [xe, h2]; rfl
      have q4 : (x.toList == [102, 97, 105, 108]) = false := by rw [xe, h2]; rfl
      have q5 : (x.toList == [112, 97, 115, 116]) = false := by rw [xe, h2]; rfl
      have HW := Lib.hid (show r = ⟨1, if m then namesL y.data.toList else [], [], 0, true⟩ by rw [HI.out, h2]; rfl)
      clear h2 xe
      cases m
      · go_wp2
        go_meet
        refine ⟨none, 0, none, 0, rfl, ?_⟩
        rw [HW.out]
        exact ⟨blk_new _ _, SRp.names i1 i0 rfl SSl.nil, (Keep.refl _ _).alloc _⟩
      · go_wp2_with (go_at_call 22; refine (SP.out _ hy (HM.out.keep (K1.out.alloc _) trivial)).mono ?_; rintro e w2 ⟨a, c, rfl, hK2, hS2⟩; have K2 := Lib.hid (((Keep.refl Any w1).alloc _).trans hK2); have B7 := Lib.hid (blk_keep hK2 (blk_new _ _) trivial); obtain ⟨y0, y1, y2, y3, y4⟩ := at5 B7.out; have f0 := blk_frozen B7.out 0; have f1 := blk_frozen B7.out 1; have f2 := blk_frozen B7.out 2; have f3 := blk_frozen B7.out 3; have f4 := blk_frozen B7.out 4; have x0 := blk_lt B7.out; have S2 := Lib.hid hS2; clear hS2 hK2)
        go_meet
        refine ⟨a, c, none, 0, rfl, ?_⟩
        rw [HW.out]
        refine ⟨(blk_set B7.out 1 _).trans rfl, SRp.names i1 i0 rfl (SSl.mono (SStrs.keep S2.out ((Keep.refl _ _).set _ _ (fun _ h => Nat.not_succ_le_self w1.heap.size (by have h2 := h.1; rw [World.size_alloc] at h2; exact h2)))) fun k hk => ?_), K2.out.set _ _ (fun h _ => Nat.lt_irrefl _ h)⟩
        · have h1 := hk.1; have h2 := hk.2; rw [World.size_alloc] at h1; exact ⟨h1, by simpa using h2⟩
    have q2 : (x.toList == [109, 111, 114, 101]) = false := by rw [xe]; simpa using h2
    by_cases h3 : x.data.toList = [114, 111, 119]
    · have q3 : (x.toList == [114, 111, 119]) = true := by rw [xe, h3]; rfl
      have q4 : (x.toList == [102, 97, 105, 108]) = false := by rw [xe, h3]; rfl
      have q5 : (x.toList == [112, 97, 115, 116]) = false := by rw [xe, h3]; rfl
      have HW := Lib.hid (show r = ⟨2, [], rowOf (rdL (rdV 3) 5 y.data.toList), 0, false⟩ by rw [HI.out, h3]; rfl)
      clear h3 xe
      go_wp2_with (go_at_call 23; refine (VA.out _).mono ?_; rintro e w2 ⟨l, a, c, z, rfl, hl, hK2, hS2⟩; have K2 := Lib.hid (((Keep.refl Any w1).alloc _).trans hK2); have B7 := Lib.hid (blk_keep hK2 (blk_new _ _) trivial); obtain ⟨y0, y1, y2, y3, y4⟩ := at5 B7.out; have f0 := blk_frozen B7.out 0; have f1 := blk_frozen B7.out 1; have f2 := blk_frozen B7.out 2; have f3 := blk_frozen B7.out 3; have f4 := blk_frozen B7.out 4; have x0 := blk_lt B7.out; have S2 := Lib.hid hS2; have HL := Lib.hid hl; clear hS2 hK2 hl)
      go_meet
      refine ⟨none, 0, a, c, rfl, ?_⟩
      rw [HW.out, HL.out]
      refine ⟨(blk_set (blk_set (blk_set (blk_set (blk_set B7.out 0 _) 1 _) 2 _) 3 _) 4 _).trans rfl, SRp.vals i2 i0 rfl (SSl.mono (SVs.keep S2.out ?_) fun k hk => ?_), ?_⟩
      · repeat (first | (with_reducible exact Keep.refl _ _) | (refine Keep.set ?_ _ _ (fun _ h => Nat.not_succ_le_self w1.heap.size (by have h2 := h.1; rw [World.size_alloc] at h2; exact h2))))
      · have h1 := hk.1; have h2 := hk.2; rw [World.size_alloc] at h1; exact ⟨h1, by simpa using h2⟩
      · repeat (first | (with_reducible exact K2.out) | (refine Keep.set ?_ _ _ (fun h _ => Nat.lt_irrefl _ h)))
    have q3 : (x.toList == [114, 111, 119]) = false := by rw [xe]; simpa using h3
    by_cases h4 : x.data.toList = [102, 97, 105, 108]
    · have q4 : (x.toList == [102, 97, 105, 108]) = true := by rw [xe, h4]; rfl
      have q5 : (x.toList == [112, 97, 115, 116]) = false := by rw [xe, h4]; rfl
      have HW := Lib.hid (show r = ⟨3, [], [], codeOf (figs y.data.toList), false⟩ by rw [HI.out, h4]; rfl)
      clear h4 xe
      go_wp2_with (go_at_call 24; refine (FG.out _).mono ?_; rintro e w2 ⟨k, z, rfl, hk, hk2, rfl⟩; have HL := Lib.hid hk; clear hk)
      go_meet
      refine ⟨none, 0, none, 0, rfl, ?_⟩
      rw [HW.out, HL.out]
      exact ⟨blk_new _ _, SRp.names i3 (show I64 (k : Int) from ⟨by omega, by omega⟩) rfl SSl.nil, (Keep.refl _ _).alloc _⟩
    have q4 : (x.toList == [102, 97, 105, 108]) = false := by rw [xe]; simpa using h4
    by_cases h5 : x.data.toList = [112, 97, 115, 116]
    · have q5 : (x.toList == [112, 97, 115, 116]) = true := by rw [xe, h5]; rfl
      have HW := Lib.hid (show r = ⟨4, [], [], 0, false⟩ by rw [HI.out, h5]; rfl)
      clear h5 xe
      go_wp2
      go_meet
      refine ⟨none, 0, none, 0, rfl, ?_⟩
      rw [HW.out]
      exact ⟨blk_new _ _, SRp.names i4 i0 rfl SSl.nil, (Keep.refl _ _).alloc _⟩
    have q5 : (x.toList == [112, 97, 115, 116]) = false := by rw [xe]; simpa using h5
    have HW := Lib.hid (show r = ⟨0, [], [], 0, false⟩ by rw [HI.out, iWord, if_neg h1, if_neg h2, if_neg h3, if_neg h4, if_neg h5])
    clear h1 h2 h3 h4 h5 xe
    go_wp2
    go_meet
    refine ⟨none, 0, none, 0, rfl, ?_⟩
    rw [HW.out]
    exact ⟨blk_new _ _, SRp.names i0 i0 rfl SSl.nil, (Keep.refl _ _).alloc _⟩
  case rest =>
    obtain ⟨a, c, a2, c2, rfl, hB7, hS, hK⟩ := hcut
    have K0 := Lib.hid (K1.out.trans hK)
    have B2 := Lib.hid (blk_keep hK B2.out trivial)
    have B7 := Lib.hid hB7
    have S7 := Lib.hid hS
    have Z7 := Lib.hid (blk_lt hB7)
    clear hB7 hS hK
    have RF := Lib.hid (replyFine_calls r)
    have RP := Lib.hid (implReplyPut_calls r)
    obtain ⟨y0, y1, y2, y3, y4⟩ := at5 B7.out
    have f0 := blk_frozen B7.out 0
    have f1 := blk_frozen B7.out 1
    have f2 := blk_frozen B7.out 2
    have f3 := blk_frozen B7.out 3
    have f4 := blk_frozen B7.out 4
    have x0 := blk_lt B7.out
    rcases hok : fineR r with _ | _
    · have HN := Lib.hid (show o = none by rw [HO.out, replyOf, hok, if_neg (by simp)])
      have HOK := Lib.hid hok
      clear hok
      go_wp2_with (go_at_call 13; refine (RF.out _ _ S7.out.rr).mono ?_; rintro e w4 ⟨rfl, hK4⟩; rw [HOK.out]; have K4 := Lib.hid (K0.out.trans hK4); have KS4 := Lib.hid hK4; have B74 := Lib.hid (blk_keep hK4 B7.out trivial); have B24 := Lib.hid (blk_keep hK4 B2.out trivial); clear hK4; clear y0 y1 y2 y3 y4 f0 f1 f2 f3 f4 x0; obtain ⟨y0, y1, y2, y3, y4⟩ := at5 B74.out; have f0 := blk_frozen B74.out 0; have f1 := blk_frozen B74.out 1; have f2 := blk_frozen B74.out 2; have f3 := blk_frozen B74.out 3; have f4 := blk_frozen B74.out 4; have x0 := blk_lt B74.out; obtain ⟨v0, v1, v2, v3, v4⟩ := at5 B24.out; have g0 := blk_frozen B24.out 0; have g1 := blk_frozen B24.out 1; have g2 := blk_frozen B24.out 2; have g3 := blk_frozen B24.out 3; have g4 := blk_frozen B24.out 4; have x1 := blk_lt B24.out)
      refine bodyPost_ret (v := .tuple #[.agg #[.int .i64 0, .slice none 0 0, .slice none 0 0, .int .i64 0, .bool false], .bool false]) (by simp [results, Tryd.results6, go_sem, v0, v1, v2, v3, v4, g0, g1, g2, g3, g4, x1]) rfl ?_
      exact ⟨(by repeat (first | (with_reducible exact K4.out) | (refine Keep.set ?_ _ _ (fun h _ => Nat.lt_irrefl _ h)))), .inl ⟨HN.out, rfl⟩⟩
    · obtain ⟨p, hp⟩ : ∃ p, (⟨(replyTxt r).toArray⟩ : ByteArray) = p := ⟨_, rfl⟩
      have HP := Lib.hid (show Ending.returned (.string ⟨(replyTxt r).toArray⟩) = .returned (.string p) by rw [hp])
      have hm : replyTxt r = bodyTxt r := by rw [replyTxt, hok, if_pos rfl]
      have HOK := Lib.hid hok
      by_cases hpt : p = t
      · have HO4 := Lib.hid (show o = some r by rw [HO.out, replyOf, if_pos ⟨hok, by rw [← hm, ← hpt, ← hp]⟩])
        subst hpt
        have b1 : (p.toList != p.toList) = false := by simp
        clear hok hp hm
        go_wp2_with (first | (go_at_call 13; refine (RF.out _ _ S7.out.rr).mono ?_; rintro e w4 ⟨rfl, hK4⟩; rw [HOK.out]; have K4 := Lib.hid (K0.out.trans hK4); have KS4 := Lib.hid hK4; have B74 := Lib.hid (blk_keep hK4 B7.out trivial); have B24 := Lib.hid (blk_keep hK4 B2.out trivial); clear hK4; clear y0 y1 y2 y3 y4 f0 f1 f2 f3 f4 x0; obtain ⟨y0, y1, y2, y3, y4⟩ := at5 B74.out; have f0 := blk_frozen B74.out 0; have f1 := blk_frozen B74.out 1; have f2 := blk_frozen B74.out 2; have f3 := blk_frozen B74.out 3; have f4 := blk_frozen B74.out 4; have x0 := blk_lt B74.out; obtain ⟨v0, v1, v2, v3, v4⟩ := at5 B24.out; have g0 := blk_frozen B24.out 0; have g1 := blk_frozen B24.out 1; have g2 := blk_frozen B24.out 2; have g3 := blk_frozen B24.out 3; have g4 := blk_frozen B24.out 4; have x1 := blk_lt B24.out) | (go_at_call 11; refine (RP.out _ _ (S7.out.keep KS4.out.any).rr (HT.out.keep K4.out trivial)).mono ?_; rintro e w5 ⟨rfl, hK5⟩; rw [HP.out]; have K5 := Lib.hid (K4.out.trans hK5); have KS5 := Lib.hid (KS4.out.trans hK5); have B75 := Lib.hid (blk_keep hK5 B74.out trivial); have B25 := Lib.hid (blk_keep hK5 B24.out trivial); clear hK5; clear y0 y1 y2 y3 y4 f0 f1 f2 f3 f4 x0 v0 v1 v2 v3 v4 g0 g1 g2 g3 g4 x1; obtain ⟨y0, y1, y2, y3, y4⟩ := at5 B75.out; have f0 := blk_frozen B75.out 0; have f1 := blk_frozen B75.out 1; have f2 := blk_frozen B75.out 2; have f3 := blk_frozen B75.out 3; have f4 := blk_frozen B75.out 4; have x0 := blk_lt B75.out; obtain ⟨v0, v1, v2, v3, v4⟩ := at5 B25.out; have g0 := blk_frozen B25.out 0; have g1 := blk_frozen B25.out 1; have g2 := blk_frozen B25.out 2; have g3 := blk_frozen B25.out 3; have g4 := blk_frozen B25.out 4; have x1 := blk_lt B25.out))
        refine bodyPost_ret (v := .tuple #[.agg #[.int .i64 r.kind, .slice a r.names.length c, .slice a2 r.row.length c2, .int .i64 r.code, .bool r.more], .bool true]) (by simp [results, Tryd.results6, go_sem, v0, v1, v2, v3, v4, g0, g1, g2, g3, g4, x1]) rfl ?_
        refine ⟨(by repeat (first | (with_reducible exact K5.out) | (refine Keep.set ?_ _ _ (fun h _ => Nat.lt_irrefl _ h)))), .inr ⟨r, a, c, a2, c2, HO4.out, rfl, ?_⟩⟩
        refine SRp.mono (SRp.keep (S7.out.keep KS5.out.any) (w' := _) ?_) fun j hj => ⟨Nat.le_of_lt (Nat.lt_trans Z1.out hj.1), by simpa using Nat.lt_of_lt_of_le hj.2 KS5.out.size⟩
        repeat (first | (with_reducible exact Keep.refl _ _) | (refine Keep.set ?_ _ _ (fun _ h => Nat.lt_irrefl _ (Nat.lt_trans Z1.out h.1))))
      · have HN := Lib.hid (show o = none by rw [HO.out, replyOf, if_neg (fun h => hpt (by rw [← hp, hm, h.2, bytes_eta]))])
        have b1 : (p.toList != t.toList) = true := by rw [bne_iff_ne, ByteArray.toList_eq, ByteArray.toList_eq]; exact fun e => hpt (ByteArray.ext (Array.ext' e))
        have b2 : (p.toList == t.toList) = false := by rw [bne] at b1; simpa using b1
        have b3 : ¬ p.toList = t.toList := by simpa using b2
        clear hok hp hm
        go_wp2_with (first | (go_at_call 13; refine (RF.out _ _ S7.out.rr).mono ?_; rintro e w4 ⟨rfl, hK4⟩; rw [HOK.out]; have K4 := Lib.hid (K0.out.trans hK4); have KS4 := Lib.hid hK4; have B74 := Lib.hid (blk_keep hK4 B7.out trivial); have B24 := Lib.hid (blk_keep hK4 B2.out trivial); clear hK4; clear y0 y1 y2 y3 y4 f0 f1 f2 f3 f4 x0; obtain ⟨y0, y1, y2, y3, y4⟩ := at5 B74.out; have f0 := blk_frozen B74.out 0; have f1 := blk_frozen B74.out 1; have f2 := blk_frozen B74.out 2; have f3 := blk_frozen B74.out 3; have f4 := blk_frozen B74.out 4; have x0 := blk_lt B74.out; obtain ⟨v0, v1, v2, v3, v4⟩ := at5 B24.out; have g0 := blk_frozen B24.out 0; have g1 := blk_frozen B24.out 1; have g2 := blk_frozen B24.out 2; have g3 := blk_frozen B24.out 3; have g4 := blk_frozen B24.out 4; have x1 := blk_lt B24.out) | (go_at_call 11; refine (RP.out _ _ (S7.out.keep KS4.out.any).rr (HT.out.keep K4.out trivial)).mono ?_; rintro e w5 ⟨rfl, hK5⟩; rw [HP.out]; have K5 := Lib.hid (K4.out.trans hK5); have KS5 := Lib.hid (KS4.out.trans hK5); have B75 := Lib.hid (blk_keep hK5 B74.out trivial); have B25 := Lib.hid (blk_keep hK5 B24.out trivial); clear hK5; clear y0 y1 y2 y3 y4 f0 f1 f2 f3 f4 x0 v0 v1 v2 v3 v4 g0 g1 g2 g3 g4 x1; obtain ⟨y0, y1, y2, y3, y4⟩ := at5 B75.out; have f0 := blk_frozen B75.out 0; have f1 := blk_frozen B75.out 1; have f2 := blk_frozen B75.out 2; have f3 := blk_frozen B75.out 3; have f4 := blk_frozen B75.out 4; have x0 := blk_lt B75.out; obtain ⟨v0, v1, v2, v3, v4⟩ := at5 B25.out; have g0 := blk_frozen B25.out 0; have g1 := blk_frozen B25.out 1; have g2 := blk_frozen B25.out 2; have g3 := blk_frozen B25.out 3; have g4 := blk_frozen B25.out 4; have x1 := blk_lt B25.out))
        refine bodyPost_ret (v := .tuple #[.agg #[.int .i64 0, .slice none 0 0, .slice none 0 0, .int .i64 0, .bool false], .bool false]) (by simp [results, Tryd.results6, go_sem, v0, v1, v2, v3, v4, g0, g1, g2, g3, g4, x1]) rfl ?_
        exact ⟨(by repeat (first | (with_reducible exact K5.out) | (refine Keep.set ?_ _ _ (fun h _ => Nat.lt_irrefl _ h)))), .inl ⟨HN.out, rfl⟩⟩
end Go.Proofs.YtlmonnhgjnjniaaDoor

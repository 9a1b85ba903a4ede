/- The program's MsgGet: the message whose text it is. For every text of at most 2^60 bytes. Which texts are names: the reference's test, for every text. Which lists of cells are ok: the reference's l4Cells. For every list. -/
import Derived.Test.YtjgnnobfaphkeaaDoorMLawMsgGet10
import Derived.Test.YtjgnnobfaphkeaaDoorMLawMsgGet11
import Derived.Test.YtjgnnobfaphkeaaDoorMLawMsgGet3
import Derived.Test.YtjgnnobfaphkeaaDoorMLawMsgGet9
/- The program's MsgGet: the message whose text it is. For every text of at most 2^60 bytes. -/
namespace Go.Proofs.YtjgnnobfaphkeaaDoor
open Go.RowKit
set_option linter.unusedVariables false
set_option linter.unusedSimpArgs false
/-- a message of one's own -/
def SM (w : World) (ok : Nat → Prop) (m : Ms) (cs : List Value) : Prop := ∃ s, cs = [.int .i64 m.kind, .string m.text, s, .int .i64 m.num] ∧ I64 m.kind ∧ I64 m.num ∧ Fits m.text ∧ SCes w ok s m.given
theorem SM.mr {w : World} {ok : Nat → Prop} {m : Ms} {cs : List Value} (h : SM w ok m cs) : MR w Any m cs := by
  obtain ⟨s, rfl, h1, h2, h3, h4⟩ := h
  exact ⟨s, rfl, h1, h2, h3, Ces.mono h4.ces fun _ _ _ => trivial⟩
theorem SM.keep {w w' : World} {ok : Nat → Prop} {m : Ms} {cs : List Value} (h : SM w ok m cs) (k : Keep ok w w') : SM w' ok m cs := by
  obtain ⟨s, rfl, h1, h2, h3, h4⟩ := h
  exact ⟨s, rfl, h1, h2, h3, SCes.keep h4 k⟩
theorem SM.mono {w : World} {ok ok' : Nat → Prop} {m : Ms} {cs : List Value} (h : SM w ok m cs) (k : ∀ k, ok k → ok' k) : SM w ok' m cs := by
  obtain ⟨s, rfl, h1, h2, h3, h4⟩ := h
  exact ⟨s, rfl, h1, h2, h3, SSl.mono h4 k⟩
def GotM (o : Option Ms) (w : World) (e : Ending) (w' : World) : Prop :=
  Keep Any w w' ∧ ((o = none ∧ e = .returned (.tuple #[.agg #[.int .i64 0, .string ⟨#[]⟩, .slice none 0 0, .int .i64 0], .bool false])) ∨
    ∃ (m : Ms) (a : Option Addr) (c : Nat), o = some m ∧ e = .returned (.tuple #[.agg #[.int .i64 m.kind, .string m.text, .slice a m.given.length c, .int .i64 m.num], .bool true]) ∧ SM w' (Mid w.heap.size w'.heap.size) m [.int .i64 m.kind, .string m.text, .slice a m.given.length c, .int .i64 m.num])
def mg2 (l : List UInt8) (A B : Nat) (r : List UInt8) : Option Ms := match fig1 r with
  | none => none
  | some (c, r3) => msgGet3 l A B c r3
def mg1 (l : List UInt8) (A : Nat) (r : List UInt8) : Option Ms := match fig1 r with
  | none => none
  | some (b, r2) => mg2 l A b r2
def mg0 (l r : List UInt8) : Option Ms := match fig1 r with
  | none => none
  | some (a, r1) => mg1 l a r1
def mgAt (l : List UInt8) (k A B C : Nat) (r : List UInt8) : Option Ms := if k = 0 then mg0 l r else if k = 1 then mg1 l A r else if k = 2 then mg2 l A B r else msgGet3 l A B C r
theorem msgGet_mg (l : List UInt8) : msgGet l = mg0 l l := rfl
theorem mgAt_none {l r : List UInt8} {k A B C : Nat} (hk : k ≠ 3 ∧ k ≤ 3) (h : fig1 r = none) : mgAt l k A B C r = none := by
  obtain rfl | rfl | rfl : k = 0 ∨ k = 1 ∨ k = 2 := by omega
  · simp [mgAt, mg0, h]
  · simp [mgAt, mg1, h]
  · simp [mgAt, mg2, h]
theorem mgAt_step0 {l r r1 : List UInt8} {A B C m : Nat} (h : fig1 r = some (m, r1)) : mgAt l 0 A B C r = mgAt l 1 m B C r1 := by simp [mgAt, mg0, h]
theorem mgAt_step1 {l r r1 : List UInt8} {A B C m : Nat} (h : fig1 r = some (m, r1)) : mgAt l 1 A B C r = mgAt l 2 A m C r1 := by simp [mgAt, mg1, h]
theorem mgAt_step2 {l r r1 : List UInt8} {A B C m : Nat} (h : fig1 r = some (m, r1)) : mgAt l 2 A B C r = mgAt l 3 A B m r1 := by simp [mgAt, mg2, h]
theorem blk_at {w : World} {a b : Nat} {o : Obj} (e : a = b) (h : w.heap[a]? = some o) : w.heap[b]? = some o := e ▸ h
/-- what the round finds: nothing, or a number and where it goes on -/
theorem fig1_cases (t : ByteArray) (a : Nat) (ha : a ≤ t.size) (ht : t.size ≤ 2305843009213693952) :
    (fig1 (t.data.toList.drop a) = none ∧ ((∀ w, Calls Tryd.prog 48 #[.string t, .int .i64 a] w fun e w' => e = .returned (.tuple #[.int .i64 0, .int .i64 (-1)]) ∧ w = w') ∨
      ∃ k z : Nat, z ≤ t.size ∧ hasP [32] (t.data.toList.drop z) = false ∧ ∀ w, Calls Tryd.prog 48 #[.string t, .int .i64 a] w fun e w' => e = .returned (.tuple #[.int .i64 k, .int .i64 z]) ∧ w = w')) ∨
    ∃ k z : Nat, z < t.size ∧ k ≤ 10000000000 ∧ hasP [32] (t.data.toList.drop z) = true ∧ fig1 (t.data.toList.drop a) = some (k, t.data.toList.drop (z + 1)) ∧ ∀ w, Calls Tryd.prog 48 #[.string t, .int .i64 a] w fun e w' => e = .returned (.tuple #[.int .i64 k, .int .i64 z]) ∧ w = w' := by
  rcases c : figs (t.data.toList.drop a) with _ | ⟨k, r⟩
  · exact .inl ⟨by unfold fig1; rw [c], .inl (figs_none ha ht c)⟩
  · obtain ⟨z, hz, hk, rfl, hf⟩ := figs_some ha ht c
    rcases h : hasP [32] (t.data.toList.drop z) with _ | _
    · exact .inl ⟨by unfold fig1; rw [c]; simp only; rw [h]; rfl, .inr ⟨k, z, hz, h, hf⟩⟩
    · exact .inr ⟨k, z, hasP_pos h hz, hk, h, by unfold fig1; rw [c]; simp only; rw [if_pos h, List.drop_drop], hf⟩
theorem givenGet_none {t : ByteArray} (ht : t.size ≤ 1152921504606846976) (h : gvs 5 t.data.toList = none) (w : World) (hT : Tab w) : Calls Tryd.prog 50 #[.string t] w fun e w' =>
    e = .returned (.tuple #[.slice none 0 0, .bool false]) ∧ Keep Any w w' := (givenGet_calls t w ht hT).mono fun e w' ⟨hK, hz⟩ => by
  rcases hz with ⟨_, he⟩ | ⟨v, a, c, hn, _⟩
  · exact ⟨he, hK⟩
  · rw [h] at hn; cases hn
theorem givenGet_some {t : ByteArray} (ht : t.size ≤ 1152921504606846976) {l : List Ce} (h : gvs 5 t.data.toList = some l) (w : World) (hT : Tab w) : Calls Tryd.prog 50 #[.string t] w fun e w' =>
    ∃ (a : Option Addr) (c : Nat), e = .returned (.tuple #[.slice a l.length c, .bool true]) ∧ Keep Any w w' ∧ SCes w' (Mid w.heap.size w'.heap.size) (.slice a l.length c) l := (givenGet_calls t w ht hT).mono fun e w' ⟨hK, hz⟩ => by
  rcases hz with ⟨hn, _⟩ | ⟨v', a, c, hn, he, hS⟩
  · rw [h] at hn; cases hn
  · rw [h] at hn; cases hn; exact ⟨a, c, he, hK, hS⟩
set_option maxHeartbeats 4000000 in
set_option maxRecDepth 20000 in
theorem implMsgGet_calls (t : ByteArray) (w : World) (ht : t.size ≤ 1152921504606846976) (hT : Tab w) : Calls Tryd.prog 20 #[.string t] w (GotM (msgGet t.data.toList) w) := by
  have HT := Lib.hid hT
  clear hT
  obtain ⟨o, ho⟩ : ∃ o, o = msgGet t.data.toList := ⟨_, rfl⟩
  rw [← ho]
  have HO := Lib.hid ho
  clear ho
  go_enter Tryd.func20, Tryd.ntmps20
  go_wp2
  go_loopg [5, 12] 4 (fun g x y wr => ∃ k a A B C : Nat, k ≤ 3 ∧ x = .int .i64 a ∧ y = .int .i64 k ∧ g = 4 - k ∧ a ≤ t.size ∧ A ≤ 10000000000 ∧ B ≤ 10000000000 ∧ C ≤ 10000000000 ∧ wr.heap[w.heap.size]? = some (.cells #[.int .i64 0, .string ⟨#[]⟩, .slice none 0 0, .int .i64 0] 43 (0, 0)) ∧
    wr.heap[w.heap.size + 1]? = some (.cells #[.int .i64 A, .int .i64 B, .int .i64 C] 66 (0, 0)) ∧ Keep Any w wr ∧ o = mgAt t.data.toList k A B C (t.data.toList.drop a))
  case atStart => exact ⟨0, 0, 0, 0, 0, by omega, rfl, rfl, rfl, by omega, by omega, by omega, by omega, blk_alloc (blk_new _ _) _, blk_at (by simp) (blk_new _ _), ((Keep.refl _ _).alloc _).alloc _, HO.out⟩
  case round =>
    obtain ⟨k, a, A, B, C, hk, rfl, rfl, hg, ha, hA, hB, hC, hz, hn, hK, hs⟩ := hrel
    have HG := Lib.hid hg
    have HZ := Lib.hid hz
    have HNB := Lib.hid hn
    have HS := Lib.hid hs
    have HK := Lib.hid hK
    obtain ⟨r0, r1, r2, r3⟩ := at4 hz
    have f0 := blk_frozen hz 0
    have f1 := blk_frozen hz 1
    have f2 := blk_frozen hz 2
    have f3 := blk_frozen hz 3
    have n0 : wr.cell? ⟨w.heap.size + 1, 0, none⟩ = some (.int .i64 A) := (blk_cell hn 0).trans rfl
    have n1 : wr.cell? ⟨w.heap.size + 1, 1, none⟩ = some (.int .i64 B) := (blk_cell hn 1).trans rfl
    have n2 : wr.cell? ⟨w.heap.size + 1, 2, none⟩ = some (.int .i64 C) := (blk_cell hn 2).trans rfl
    have g0 := blk_frozen hn 0
    have g1 := blk_frozen hn 1
    have g2 := blk_frozen hn 2
    have z0 := blk_lt hz
    have z1 := blk_lt hn
    clear hg hz hn hs hK
    by_cases h3 : k = 3
    · obtain rfl : k = 3 := h3
      have hS3 : o = msgGet3 t.data.toList A B C (t.data.toList.drop a) := by rw [HS.out]; simp [mgAt]
      by_cases hC3 : t.size - a < C
      · have HN := Lib.hid (show o = none by rw [hS3, msgGet3, if_pos (by rw [drop_len]; exact hC3)])
        have hq : (t.size : Int) - (a : Int) < (C : Int) := by omega
        clear hS3
        go_wp2
        refine bodyPost_ret (v := .tuple #[.agg #[.int .i64 0, .string ⟨#[]⟩, .slice none 0 0, .int .i64 0], .bool false]) (by simp [results, Tryd.results20, go_sem, r0, r1, r2, r3, f0, f1, f2, f3, z0]) rfl ?_
        exact ⟨(by have hK1 := HK.out; repeat (first | (with_reducible exact hK1) | (refine Keep.set ?_ _ _ (fun h _ => Nat.lt_irrefl _ h)) | (refine Keep.alloc ?_ _))), .inl ⟨by first | exact HN.out | (rw [HN.out]), rfl⟩⟩
      · rw [msgGet3, if_neg (by rw [drop_len]; exact hC3), List.drop_drop] at hS3
        have hq : (C : Int) ≤ (t.size : Int) - (a : Int) := by omega
        obtain ⟨tb, he⟩ : ∃ tb, t.extract a (a + C) = tb := ⟨_, rfl⟩
        have htb : (⟨((t.data.toList.drop a).take C).toArray⟩ : ByteArray) = tb := by rw [← he]; apply ByteArray.ext; apply Array.ext'; rw [Lib.extract_data, Nat.add_sub_cancel_left]
        rw [htb] at hS3
        have hts : tb.size ≤ t.size := by rw [← he, ByteArray.size_extract]; omega
        have HS3 := Lib.hid hS3
        have Q1 := Lib.hid hq
        clear hS3 htb
        have q0 : (0 : Int) ≤ (a : Int) := by omega
        have q1 : (a : Int) ≤ (a : Int) + (C : Int) := by omega
        have q2 : (a : Int) + (C : Int) ≤ (t.size : Int) := by omega
        rcases hgv : gvs 5 (t.data.toList.drop (a + C)) with _ | g
        · have GG := Lib.hid (givenGet_none (t := t.extract (a + C) t.size) (by rw [ByteArray.size_extract]; omega) (by rw [rest_data]; exact hgv))
          have HN := Lib.hid (show o = none by rw [HS3.out, hgv])
          clear hgv
          go_wp2
          go_region
          go_wp2_with ((go_at_call 50; refine (GG.out _ (HT.out.keep ((HK.out.alloc _).drew) trivial)).mono ?_; rintro e w2 ⟨rfl, hK2⟩; have HK2 := Lib.hid (((HK.out.alloc _).drew).trans hK2); have HZ2 := Lib.hid (blk_keep hK2 (show (wr.alloc _).drew.heap[w.heap.size]? = _ from blk_alloc HZ.out _) trivial); obtain ⟨y0, y1, y2, y3⟩ := at4 HZ2.out; have h0 := blk_frozen HZ2.out 0; have h1 := blk_frozen HZ2.out 1; have h2 := blk_frozen HZ2.out 2; have h3 := blk_frozen HZ2.out 3; have x0 := blk_lt HZ2.out))
          refine bodyPost_ret (v := .tuple #[.agg #[.int .i64 0, .string ⟨#[]⟩, .slice none 0 0, .int .i64 0], .bool false]) (by simp [results, Tryd.results20, go_sem, y0, y1, y2, y3, h0, h1, h2, h3, x0]) rfl ?_
          exact ⟨(by have hK1 := HK2.out; repeat (first | (with_reducible exact hK1) | (refine Keep.set ?_ _ _ (fun h _ => Nat.lt_irrefl _ h)) | (refine Keep.alloc ?_ _))), .inl ⟨by first | exact HN.out | (rw [HN.out]), rfl⟩⟩
        · have GG := Lib.hid (givenGet_some (t := t.extract (a + C) t.size) (by rw [ByteArray.size_extract]; omega) (by rw [rest_data]; exact hgv))
          have HO3 := Lib.hid (show o = msgOf t.data.toList ⟨A, tb, g, B⟩ by rw [HS3.out, hgv])
          have MO := Lib.hid (msgOk_calls ⟨A, tb, g, B⟩)
          have MP := Lib.hid (implMsgPut_calls ⟨A, tb, g, B⟩)
          clear hgv
          rcases hok : okM ⟨A, tb, g, B⟩ with _ | _
          · have HN := Lib.hid (show o = none by rw [HO3.out, msgOf, hok, if_neg (by simp)])
            have HOK := Lib.hid hok
            clear hok
            go_wp2
            go_region
            go_wp2_with (first | (go_at_call 50; refine (GG.out _ (HT.out.keep ((HK.out.alloc _).drew) trivial)).mono ?_; rintro e w2 ⟨ga, gc, rfl, hK2, hS2⟩; have HK2 := Lib.hid (((HK.out.alloc _).drew).trans hK2); have HZ2 := Lib.hid (blk_keep hK2 (show (wr.alloc _).drew.heap[w.heap.size]? = _ from blk_alloc HZ.out _) trivial); have HM2 := Lib.hid (blk_keep hK2 (show (wr.alloc _).drew.heap[wr.heap.size]? = _ from blk_new _ _) trivial); have HL2 := Lib.hid (show w.heap.size ≤ (wr.alloc (.cells #[.int .i64 A, .string tb, .slice none 0 0, .int .i64 B] 43)).drew.heap.size from ((HK.out.alloc _).drew).size); have HL3 := Lib.hid (show w.heap.size + 1 ≤ (wr.alloc (.cells #[.int .i64 A, .string tb, .slice none 0 0, .int .i64 B] 43)).drew.heap.size by simp; omega); have HSM := Lib.hid (show SM w2 (Mid (wr.alloc (.cells #[.int .i64 A, .string tb, .slice none 0 0, .int .i64 B] 43)).drew.heap.size w2.heap.size) ⟨A, tb, g, B⟩ [.int .i64 A, .string tb, .slice ga g.length gc, .int .i64 B] from ⟨_, rfl, ⟨by show (-9223372036854775808 : Int) ≤ A; omega, by show (A : Int) ≤ 9223372036854775807; omega⟩, ⟨by show (-9223372036854775808 : Int) ≤ B; omega, by show (B : Int) ≤ 9223372036854775807; omega⟩, (show Fits tb by unfold Fits; omega), hS2⟩); obtain ⟨y0, y1, y2, y3⟩ := at4 HZ2.out; have h0 := blk_frozen HZ2.out 0; have h1 := blk_frozen HZ2.out 1; have h2 := blk_frozen HZ2.out 2; have h3 := blk_frozen HZ2.out 3; have x0 := blk_lt HZ2.out; obtain ⟨m0, m1, m2, m3⟩ := at4 HM2.out; have k0 := blk_frozen HM2.out 0; have k1 := blk_frozen HM2.out 1; have k2 := blk_frozen HM2.out 2; have k3 := blk_frozen HM2.out 3; have x1 := blk_lt HM2.out; clear hS2) | (go_at_call 39; refine (MO.out _ _ ((HSM.out.keep ((Keep.refl _ _).set _ _ (fun _ h => by have h1 := h.1; simp at h1; omega))).mr)).mono ?_; rintro e w4 ⟨rfl, hK4⟩; rw [HOK.out]; have HK4 := Lib.hid ((HK2.out.set _ _ (fun h _ => by have h : wr.heap.size < w.heap.size := h; omega)).trans hK4); have HA4 := Lib.hid (show Keep (Mid (wr.alloc (.cells #[.int .i64 A, .string tb, .slice none 0 0, .int .i64 B] 43)).drew.heap.size w2.heap.size) w2 w4 from ((Keep.refl _ _).set _ _ (fun _ h => by have h1 := h.1; simp at h1; omega)).trans hK4.any); have HZ4 := Lib.hid (blk_keep hK4 (blk_far HZ2.out ⟨wr.heap.size, 2, none⟩ _ (by show w.heap.size ≠ wr.heap.size; omega)) trivial); have HM4 := Lib.hid (blk_keep hK4 ((blk_set HM2.out 2 _).trans rfl) trivial); clear y0 y1 y2 y3 h0 h1 h2 h3 x0 ; clear m0 m1 m2 m3 k0 k1 k2 k3 x1; obtain ⟨y0, y1, y2, y3⟩ := at4 HZ4.out; have h0 := blk_frozen HZ4.out 0; have h1 := blk_frozen HZ4.out 1; have h2 := blk_frozen HZ4.out 2; have h3 := blk_frozen HZ4.out 3; have x0 := blk_lt HZ4.out; obtain ⟨m0, m1, m2, m3⟩ := at4 HM4.out; have k0 := blk_frozen HM4.out 0; have k1 := blk_frozen HM4.out 1; have k2 := blk_frozen HM4.out 2; have k3 := blk_frozen HM4.out 3; have x1 := blk_lt HM4.out))
            refine bodyPost_ret (v := .tuple #[.agg #[.int .i64 0, .string ⟨#[]⟩, .slice none 0 0, .int .i64 0], .bool false]) (by simp [results, Tryd.results20, go_sem, y0, y1, y2, y3, h0, h1, h2, h3, x0]) rfl ?_
            exact ⟨(by have hK1 := HK4.out; repeat (first | (with_reducible exact hK1) | (refine Keep.set ?_ _ _ (fun h _ => Nat.lt_irrefl _ h)) | (refine Keep.alloc ?_ _))), .inl ⟨by first | exact HN.out | (rw [HN.out]), rfl⟩⟩
          · obtain ⟨p, hp⟩ : ∃ p, (⟨(msgTxt ⟨A, tb, g, B⟩).toArray⟩ : ByteArray) = p := ⟨_, rfl⟩
            have HP := Lib.hid (show Ending.returned (.string ⟨(msgTxt ⟨A, tb, g, B⟩).toArray⟩) = .returned (.string p) by rw [hp])
            have hm : msgTxt ⟨A, tb, g, B⟩ = sayTxt ⟨A, tb, g, B⟩ := by rw [msgTxt, hok, if_pos rfl]
            have HOK := Lib.hid hok
            by_cases hpt : p = t
            · have HO4 := Lib.hid (show o = some ⟨A, tb, g, B⟩ by rw [HO3.out, msgOf, if_pos ⟨hok, by rw [← hm, ← hpt, ← hp]⟩])
              subst hpt
              have b1 : (p.toList != p.toList) = false := by simp
              clear hok hp hm
              go_wp2
              go_region
              go_wp2_with (first | (go_at_call 50; refine (GG.out _ (HT.out.keep ((HK.out.alloc _).drew) trivial)).mono ?_; rintro e w2 ⟨ga, gc, rfl, hK2, hS2⟩; have HK2 := Lib.hid (((HK.out.alloc _).drew).trans hK2); have HZ2 := Lib.hid (blk_keep hK2 (show (wr.alloc _).drew.heap[w.heap.size]? = _ from blk_alloc HZ.out _) trivial); have HM2 := Lib.hid (blk_keep hK2 (show (wr.alloc _).drew.heap[wr.heap.size]? = _ from blk_new _ _) trivial); have HL2 := Lib.hid (show w.heap.size ≤ (wr.alloc (.cells #[.int .i64 A, .string tb, .slice none 0 0, .int .i64 B] 43)).drew.heap.size from ((HK.out.alloc _).drew).size); have HL3 := Lib.hid (show w.heap.size + 1 ≤ (wr.alloc (.cells #[.int .i64 A, .string tb, .slice none 0 0, .int .i64 B] 43)).drew.heap.size by simp; omega); have HSM := Lib.hid (show SM w2 (Mid (wr.alloc (.cells #[.int .i64 A, .string tb, .slice none 0 0, .int .i64 B] 43)).drew.heap.size w2.heap.size) ⟨A, tb, g, B⟩ [.int .i64 A, .string tb, .slice ga g.length gc, .int .i64 B] from ⟨_, rfl, ⟨by show (-9223372036854775808 : Int) ≤ A; omega, by show (A : Int) ≤ 9223372036854775807; omega⟩, ⟨by show (-9223372036854775808 : Int) ≤ B; omega, by show (B : Int) ≤ 9223372036854775807; omega⟩, (show Fits tb by unfold Fits; omega), hS2⟩); obtain ⟨y0, y1, y2, y3⟩ := at4 HZ2.out; have h0 := blk_frozen HZ2.out 0; have h1 := blk_frozen HZ2.out 1; have h2 := blk_frozen HZ2.out 2; have h3 := blk_frozen HZ2.out 3; have x0 := blk_lt HZ2.out; obtain ⟨m0, m1, m2, m3⟩ := at4 HM2.out; have k0 := blk_frozen HM2.out 0; have k1 := blk_frozen HM2.out 1; have k2 := blk_frozen HM2.out 2; have k3 := blk_frozen HM2.out 3; have x1 := blk_lt HM2.out; clear hS2) | (go_at_call 39; refine (MO.out _ _ ((HSM.out.keep ((Keep.refl _ _).set _ _ (fun _ h => by have h1 := h.1; simp at h1; omega))).mr)).mono ?_; rintro e w4 ⟨rfl, hK4⟩; rw [HOK.out]; have HK4 := Lib.hid ((HK2.out.set _ _ (fun h _ => by have h : wr.heap.size < w.heap.size := h; omega)).trans hK4); have HA4 := Lib.hid (show Keep (Mid (wr.alloc (.cells #[.int .i64 A, .string tb, .slice none 0 0, .int .i64 B] 43)).drew.heap.size w2.heap.size) w2 w4 from ((Keep.refl _ _).set _ _ (fun _ h => by have h1 := h.1; simp at h1; omega)).trans hK4.any); have HZ4 := Lib.hid (blk_keep hK4 (blk_far HZ2.out ⟨wr.heap.size, 2, none⟩ _ (by show w.heap.size ≠ wr.heap.size; omega)) trivial); have HM4 := Lib.hid (blk_keep hK4 ((blk_set HM2.out 2 _).trans rfl) trivial); clear y0 y1 y2 y3 h0 h1 h2 h3 x0 ; clear m0 m1 m2 m3 k0 k1 k2 k3 x1; obtain ⟨y0, y1, y2, y3⟩ := at4 HZ4.out; have h0 := blk_frozen HZ4.out 0; have h1 := blk_frozen HZ4.out 1; have h2 := blk_frozen HZ4.out 2; have h3 := blk_frozen HZ4.out 3; have x0 := blk_lt HZ4.out; obtain ⟨m0, m1, m2, m3⟩ := at4 HM4.out; have k0 := blk_frozen HM4.out 0; have k1 := blk_frozen HM4.out 1; have k2 := blk_frozen HM4.out 2; have k3 := blk_frozen HM4.out 3; have x1 := blk_lt HM4.out) | (go_at_call 17; refine (MP.out _ _ ((HSM.out.keep HA4.out).mr) (HT.out.keep HK4.out trivial)).mono ?_; rintro e w5 ⟨rfl, hK5⟩; rw [HP.out]; have HK5 := Lib.hid (HK4.out.trans hK5); have HA5 := Lib.hid (HA4.out.trans hK5.any); have HZ5 := Lib.hid (show w2.heap.size ≤ w5.heap.size from HA5.out.size); have HZ6 := Lib.hid (blk_keep hK5 HZ4.out trivial); have HM5 := Lib.hid (blk_keep hK5 HM4.out trivial); clear y0 y1 y2 y3 h0 h1 h2 h3 x0 ; clear m0 m1 m2 m3 k0 k1 k2 k3 x1; obtain ⟨y0, y1, y2, y3⟩ := at4 HZ6.out; have h0 := blk_frozen HZ6.out 0; have h1 := blk_frozen HZ6.out 1; have h2 := blk_frozen HZ6.out 2; have h3 := blk_frozen HZ6.out 3; have x0 := blk_lt HZ6.out; obtain ⟨m0, m1, m2, m3⟩ := at4 HM5.out; have k0 := blk_frozen HM5.out 0; have k1 := blk_frozen HM5.out 1; have k2 := blk_frozen HM5.out 2; have k3 := blk_frozen HM5.out 3; have x1 := blk_lt HM5.out))
              refine bodyPost_ret (v := .tuple #[.agg #[.int .i64 A, .string tb, .slice ga g.length gc, .int .i64 B], .bool true]) (by simp [results, Tryd.results20, go_sem, y0, y1, y2, y3, h0, h1, h2, h3, x0]) rfl ?_
              refine ⟨(by have hK1 := HK5.out; repeat (first | (with_reducible exact hK1) | (refine Keep.set ?_ _ _ (fun h _ => Nat.lt_irrefl _ h)))), .inr ⟨_, ga, gc, HO4.out, rfl, ?_⟩⟩
              refine SM.mono (SM.keep (HSM.out.keep HA5.out) (w' := _) ?_) fun j hj => ⟨Nat.le_trans HL2.out hj.1, by have h2 := hj.2; have := HZ5.out; simp; omega⟩
              repeat (first | (with_reducible exact Keep.refl _ _) | (refine Keep.set ?_ _ _ (fun _ h => by have h1 := Nat.le_trans HL3.out h.1; exact Nat.not_succ_le_self _ h1)))
            · have HN := Lib.hid (show o = none by rw [HO3.out, msgOf, if_neg (fun h => hpt (by rw [← hp, hm, h.2, bytes_eta]))])
              have b1 : (p.toList != t.toList) = true := by rw [bne_iff_ne, ByteArray.toList_eq, ByteArray.toList_eq]; exact fun e => hpt (ByteArray.ext (Array.ext' e))
              have b2 : (p.toList == t.toList) = false := by rw [bne] at b1; simpa using b1
              have b3 : ¬ p.toList = t.toList := by simpa using b2
              clear hok hp hm
              go_wp2
              go_region
              go_wp2_with (first | (go_at_call 50; refine (GG.out _ (HT.out.keep ((HK.out.alloc _).drew) trivial)).mono ?_; rintro e w2 ⟨ga, gc, rfl, hK2, hS2⟩; have HK2 := Lib.hid (((HK.out.alloc _).drew).trans hK2); have HZ2 := Lib.hid (blk_keep hK2 (show (wr.alloc _).drew.heap[w.heap.size]? = _ from blk_alloc HZ.out _) trivial); have HM2 := Lib.hid (blk_keep hK2 (show (wr.alloc _).drew.heap[wr.heap.size]? = _ from blk_new _ _) trivial); have HL2 := Lib.hid (show w.heap.size ≤ (wr.alloc (.cells #[.int .i64 A, .string tb, .slice none 0 0, .int .i64 B] 43)).drew.heap.size from ((HK.out.alloc _).drew).size); have HL3 := Lib.hid (show w.heap.size + 1 ≤ (wr.alloc (.cells #[.int .i64 A, .string tb, .slice none 0 0, .int .i64 B] 43)).drew.heap.size by simp; omega); have HSM := Lib.hid (show SM w2 (Mid (wr.alloc (.cells #[.int .i64 A, .string tb, .slice none 0 0, .int .i64 B] 43)).drew.heap.size w2.heap.size) ⟨A, tb, g, B⟩ [.int .i64 A, .string tb, .slice ga g.length gc, .int .i64 B] from ⟨_, rfl, ⟨by show (-9223372036854775808 : Int) ≤ A; omega, by show (A : Int) ≤ 9223372036854775807; omega⟩, ⟨by show (-9223372036854775808 : Int) ≤ B; omega, by show (B : Int) ≤ 9223372036854775807; omega⟩, (show Fits tb by unfold Fits; omega), hS2⟩); obtain ⟨y0, y1, y2, y3⟩ := at4 HZ2.out; have h0 := blk_frozen HZ2.out 0; have h1 := blk_frozen HZ2.out 1; have h2 := blk_frozen HZ2.out 2; have h3 := blk_frozen HZ2.out 3; have x0 := blk_lt HZ2.out; obtain ⟨m0, m1, m2, m3⟩ := at4 HM2.out; have k0 := blk_frozen HM2.out 0; have k1 := blk_frozen HM2.out 1; have k2 := blk_frozen HM2.out 2; have k3 := blk_frozen HM2.out 3; have x1 := blk_lt HM2.out; clear hS2) | (go_at_call 39; refine (MO.out _ _ ((HSM.out.keep ((Keep.refl _ _).set _ _ (fun _ h => by have h1 := h.1; simp at h1; omega))).mr)).mono ?_; rintro e w4 ⟨rfl, hK4⟩; rw [HOK.out]; have HK4 := Lib.hid ((HK2.out.set _ _ (fun h _ => by have h : wr.heap.size < w.heap.size := h; omega)).trans hK4); have HA4 := Lib.hid (show Keep (Mid (wr.alloc (.cells #[.int .i64 A, .string tb, .slice none 0 0, .int .i64 B] 43)).drew.heap.size w2.heap.size) w2 w4 from ((Keep.refl _ _).set _ _ (fun _ h => by have h1 := h.1; simp at h1; omega)).trans hK4.any); have HZ4 := Lib.hid (blk_keep hK4 (blk_far HZ2.out ⟨wr.heap.size, 2, none⟩ _ (by show w.heap.size ≠ wr.heap.size; omega)) trivial); have HM4 := Lib.hid (blk_keep hK4 ((blk_set HM2.out 2 _).trans rfl) trivial); clear y0 y1 y2 y3 h0 h1 h2 h3 x0 ; clear m0 m1 m2 m3 k0 k1 k2 k3 x1; obtain ⟨y0, y1, y2, y3⟩ := at4 HZ4.out; have h0 := blk_frozen HZ4.out 0; have h1 := blk_frozen HZ4.out 1; have h2 := blk_frozen HZ4.out 2; have h3 := blk_frozen HZ4.out 3; have x0 := blk_lt HZ4.out; obtain ⟨m0, m1, m2, m3⟩ := at4 HM4.out; have k0 := blk_frozen HM4.out 0; have k1 := blk_frozen HM4.out 1; have k2 := blk_frozen HM4.out 2; have k3 := blk_frozen HM4.out 3; have x1 := blk_lt HM4.out) | (go_at_call 17; refine (MP.out _ _ ((HSM.out.keep HA4.out).mr) (HT.out.keep HK4.out trivial)).mono ?_; rintro e w5 ⟨rfl, hK5⟩; rw [HP.out]; have HK5 := Lib.hid (HK4.out.trans hK5); have HA5 := Lib.hid (HA4.out.trans hK5.any); have HZ5 := Lib.hid (show w2.heap.size ≤ w5.heap.size from HA5.out.size); have HZ6 := Lib.hid (blk_keep hK5 HZ4.out trivial); have HM5 := Lib.hid (blk_keep hK5 HM4.out trivial); clear y0 y1 y2 y3 h0 h1 h2 h3 x0 ; clear m0 m1 m2 m3 k0 k1 k2 k3 x1; obtain ⟨y0, y1, y2, y3⟩ := at4 HZ6.out; have h0 := blk_frozen HZ6.out 0; have h1 := blk_frozen HZ6.out 1; have h2 := blk_frozen HZ6.out 2; have h3 := blk_frozen HZ6.out 3; have x0 := blk_lt HZ6.out; obtain ⟨m0, m1, m2, m3⟩ := at4 HM5.out; have k0 := blk_frozen HM5.out 0; have k1 := blk_frozen HM5.out 1; have k2 := blk_frozen HM5.out 2; have k3 := blk_frozen HM5.out 3; have x1 := blk_lt HM5.out))
              refine bodyPost_ret (v := .tuple #[.agg #[.int .i64 0, .string ⟨#[]⟩, .slice none 0 0, .int .i64 0], .bool false]) (by simp [results, Tryd.results20, go_sem, y0, y1, y2, y3, h0, h1, h2, h3, x0]) rfl ?_
              exact ⟨(by have hK1 := HK5.out; repeat (first | (with_reducible exact hK1) | (refine Keep.set ?_ _ _ (fun h _ => Nat.lt_irrefl _ h)) | (refine Keep.alloc ?_ _))), .inl ⟨by first | exact HN.out | (rw [HN.out]), rfl⟩⟩
    have hf := fig1_cases t a ha (by omega)
    rcases hf with ⟨hn, hf⟩ | ⟨m, z, hzt, hm, hp, hf1, hf⟩
    · have HN := Lib.hid (show o = none by rw [HS.out]; exact mgAt_none (by omega) hn)
      clear hn
      rcases hf with hf | ⟨m, z, hzt, hp, hf⟩
      · have FG := Lib.hid hf
        clear hf
        go_wp2_with (go_at_call 48; refine (FG.out _).mono ?_; rintro e w' ⟨rfl, rfl⟩)
        refine bodyPost_ret (v := .tuple #[.agg #[.int .i64 0, .string ⟨#[]⟩, .slice none 0 0, .int .i64 0], .bool false]) (by simp [results, Tryd.results20, go_sem, r0, r1, r2, r3, f0, f1, f2, f3, z0]) rfl ?_
        exact ⟨(by have hK1 := HK.out; repeat (first | (with_reducible exact hK1) | (refine Keep.set ?_ _ _ (fun h _ => Nat.lt_irrefl _ h)) | (refine Keep.alloc ?_ _))), .inl ⟨by first | exact HN.out | (rw [HN.out]), rfl⟩⟩
      · have FG := Lib.hid hf
        have HP := Lib.hid (hpK hp)
        clear hf hp
        go_wp2_with (first | (go_at_call 48; refine (FG.out _).mono ?_; rintro e w' ⟨rfl, rfl⟩) | (go_at_call 49; refine (HP.out _).mono ?_; rintro e w' ⟨rfl, rfl⟩))
        refine bodyPost_ret (v := .tuple #[.agg #[.int .i64 0, .string ⟨#[]⟩, .slice none 0 0, .int .i64 0], .bool false]) (by simp [results, Tryd.results20, go_sem, r0, r1, r2, r3, f0, f1, f2, f3, z0]) rfl ?_
        exact ⟨(by have hK1 := HK.out; repeat (first | (with_reducible exact hK1) | (refine Keep.set ?_ _ _ (fun h _ => Nat.lt_irrefl _ h)) | (refine Keep.alloc ?_ _))), .inl ⟨by first | exact HN.out | (rw [HN.out]), rfl⟩⟩
    · have FG := Lib.hid hf
      have HP := Lib.hid (hpK hp)
      have HF := Lib.hid hf1
      clear hf hp hf1
      obtain rfl | rfl | rfl : k = 0 ∨ k = 1 ∨ k = 2 := by omega
      · go_wp2_with (first | (go_at_call 48; refine (FG.out _).mono ?_; rintro e w' ⟨rfl, rfl⟩) | (go_at_call 49; refine (HP.out _).mono ?_; rintro e w' ⟨rfl, rfl⟩))
        go_roundg (gk - 1)
        case rel => exact ⟨1, z + 1, m, B, C, by omega, by go_num, by first | rfl | go_num, by have := HG.out; omega, by omega, by omega, by omega, by omega, blk_far HZ.out _ _ (by show w.heap.size ≠ w.heap.size + 1; omega), blk_set HNB.out 0 _, HK.out.set _ _ (fun h _ => by have h : w.heap.size + 1 < w.heap.size := h; omega), by rw [HS.out]; exact mgAt_step0 HF.out⟩
        case measure => have := HG.out; omega
      · go_wp2_with (first | (go_at_call 48; refine (FG.out _).mono ?_; rintro e w' ⟨rfl, rfl⟩) | (go_at_call 49; refine (HP.out _).mono ?_; rintro e w' ⟨rfl, rfl⟩))
        go_roundg (gk - 1)
        case rel => exact ⟨2, z + 1, A, m, C, by omega, by go_num, by first | rfl | go_num, by have := HG.out; omega, by omega, by omega, by omega, by omega, blk_far HZ.out _ _ (by show w.heap.size ≠ w.heap.size + 1; omega), blk_set HNB.out 1 _, HK.out.set _ _ (fun h _ => by have h : w.heap.size + 1 < w.heap.size := h; omega), by rw [HS.out]; exact mgAt_step1 HF.out⟩
        case measure => have := HG.out; omega
      · go_wp2_with (first | (go_at_call 48; refine (FG.out _).mono ?_; rintro e w' ⟨rfl, rfl⟩) | (go_at_call 49; refine (HP.out _).mono ?_; rintro e w' ⟨rfl, rfl⟩))
        go_roundg (gk - 1)
        case rel => exact ⟨3, z + 1, A, B, m, by omega, by go_num, by first | rfl | go_num, by have := HG.out; omega, by omega, by omega, by omega, by omega, blk_far HZ.out _ _ (by show w.heap.size ≠ w.heap.size + 1; omega), blk_set HNB.out 2 _, HK.out.set _ _ (fun h _ => by have h : w.heap.size + 1 < w.heap.size := h; omega), by rw [HS.out]; exact mgAt_step2 HF.out⟩
        case measure => have := HG.out; omega
end Go.Proofs.YtjgnnobfaphkeaaDoor

/- Which texts are names: the reference's test, for every text. -/
namespace Go.Proofs.YtjgnnobfaphkeaaDoor
open Go.RowKit
set_option linter.unusedVariables false
set_option linter.unusedSimpArgs false

def inR (n a b : Int) : Bool := decide (a ≤ n) && decide (n ≤ b)
theorem l1In_calls (n a b : Int) (w : World) : Calls Tryd.prog 46 #[.int .i64 n, .int .i64 a, .int .i64 b] w (Quiet (inR n a b) w) := by
  go_enter Tryd.func46, Tryd.ntmps46
  go_wp2 <;> (go_ret; exact ⟨ret_bool (by rw [inR, Bool.eq_iff_iff]; simp [*] <;> omega), rfl⟩)
theorem l2Letter_calls (c : Nat) (w : World) : Calls Tryd.prog 79 #[.int .u8 c] w (Quiet (letter c) w) := by
  go_enter Tryd.func79, Tryd.ntmps79
  go_wp2 <;> (go_ret; exact ⟨ret_bool (by rw [letter, Bool.eq_iff_iff]; simp [*] <;> omega), rfl⟩)

theorem l2Kept_calls (t : ByteArray) (w : World) : Calls Tryd.prog 80 #[.string t] w (Tells (kept t) w) := by
  go_enter Tryd.func80, Tryd.ntmps80
  go_wp2
  go_loopg [4] 30 (fun g i wr => ∃ k : Nat, k ≤ 29 ∧ i = .int .i64 k ∧ g = 30 - k ∧ (∀ j x, j < k → words[j]? = some x → t.toList ≠ x) ∧ wr.heap[w.heap.size]? = some (.cells (words.map fun l => Value.string ⟨l.toArray⟩).toArray 9 (0, 0)) ∧ Keep Any w wr)
  case atStart => exact ⟨0, by omega, rfl, rfl, fun j x hj => by omega, blk_new _ _, (Keep.refl _ _).alloc _⟩
  case round =>
    obtain ⟨k, hk, rfl, hg, hall, hb, hK⟩ := hrel
    have HG := Lib.hid hg
    have HA := Lib.hid hall
    have HB := Lib.hid hb
    by_cases hlt : k < 29
    · have hx : words[k]? = some (words[k]'hlt) := List.getElem?_eq_getElem hlt
      have hc : wr.cell? ⟨w.heap.size, k, none⟩ = some (.string ⟨(words[k]'hlt).toArray⟩) := by
        rw [blk_cell hb, List.getElem?_toArray, List.getElem?_map, hx]; rfl
      generalize words[k]'hlt = x at *
      have HX := Lib.hid hx
      clear hg hall hb hx
      rcases hq : x == t.toList with _ | _
      · have hq2 : t.toList ≠ x := fun h => by rw [h] at hq; simp at hq
        have HQ := Lib.hid hq2
        clear hq2
        go_wp2
        go_roundg (gk - 1)
        case rel => exact ⟨k + 1, by omega, by go_num, by have := HG.out; omega, fun j y hj hy => by rcases Nat.lt_succ_iff_lt_or_eq.1 hj with hj | rfl; exact HA.out j y hj hy; rw [HX.out] at hy; cases hy; exact HQ.out, HB.out, hK⟩
        case measure => have := HG.out; omega
      · have hr : kept t = true := List.any_eq_true.2 ⟨x, List.mem_of_getElem? HX.out, by rw [beq_iff_eq] at hq ⊢; exact hq.symm⟩
        have HR := Lib.hid hr
        clear hr
        go_wp2
        go_ret
        exact ⟨ret_bool HR.out.symm, hK⟩
    · have hr : kept t = false := List.any_eq_false.2 fun x hx => by
        obtain ⟨j, hj, rfl⟩ := List.getElem_of_mem hx
        simpa using hall j _ (by have : words.length = 29 := rfl; omega) (List.getElem?_eq_getElem hj)
      have HR := Lib.hid hr
      clear hr hall hb hg
      go_wp2
      go_ret
      exact ⟨ret_bool HR.out.symm, hK⟩

set_option maxHeartbeats 1000000 in
theorem l2Name_calls (t : ByteArray) (w : World) (hs : t.size ≤ 9223372036854775807) : Calls Tryd.prog 55 #[.string t] w (Tells (nameOk t) w) := by
  have IL := Lib.hid l2Letter_calls
  have IK := Lib.hid l2Kept_calls
  have II := Lib.hid l1In_calls
  go_enter Tryd.func55, Tryd.ntmps55
  go_wp2
  go_outline
  go_loop [3] (fun i => ∃ k : Nat, k ≤ t.size ∧ i = .int .i64 k ∧ ∀ j, j < k → letter (at_ t j) = true ∨ (0 < j ∧ fig (at_ t j) = true)) (fun i => t.size - (intOf i).toNat)
  case atStart => exact ⟨0, by omega, rfl, fun j hj => by omega⟩
  case round =>
    obtain ⟨k, hk, rfl, hg⟩ := hrel
    have HG := Lib.hid hg
    clear hg
    by_cases hlt : k < t.size
    · have e2 := at_eq t k hlt
      rcases hl : letter (at_ t k) with _ | _
      · have HL := Lib.hid hl
        by_cases hf : k = 0 ∨ fig (at_ t k) = false
        · have hr : nameOk t = false := by rw [nameOk, shape_bad hlt hl hf.symm]; rfl
          have HR := Lib.hid hr
          have hf' : (((k : Nat) : Int) == 0) = true ∨ ((((k : Nat) : Int) == 0) = false ∧ (at_ t k < 48 ∨ 57 < at_ t k)) := by
            rcases hf with h | h
            · left; simp [h]
            · by_cases h0 : k = 0
              · left; simp [h0]
              · right; refine ⟨by simp; omega, ?_⟩; simp only [fig, Bool.and_eq_false_iff, decide_eq_false_iff_not] at h; omega
          clear hr hl hf
          rcases hf' with b | ⟨b, b1 | b1⟩
          all_goals
            go_wp2_with (go_at_call 79; refine (IL.out _ _).mono ?_; rintro e w' ⟨rfl, rfl⟩; rw [HL.out])
            all_goals
              go_ret
              exact ⟨ret_bool HR.out.symm, Keep.refl _ _⟩
        · have b : (((k : Nat) : Int) == 0) = false := by simp; omega
          have hfig : fig (at_ t k) = true := by rcases h : fig (at_ t k) with _ | _; exact absurd (.inr h) hf; rfl
          obtain ⟨b1, b2⟩ : 48 ≤ at_ t k ∧ at_ t k ≤ 57 := by simpa [fig] using hfig
          have HF := Lib.hid hfig
          have k0 : 0 < k := by omega
          clear hl hf hfig
          go_wp2_with (go_at_call 79; refine (IL.out _ _).mono ?_; rintro e w' ⟨rfl, rfl⟩; rw [HL.out])
          go_round
          case rel => exact ⟨k + 1, by omega, by go_num, fun j hj => by rcases Nat.lt_succ_iff_lt_or_eq.1 hj with hj | rfl; exact HG.out j hj; exact .inr ⟨k0, HF.out⟩⟩
          case measure => simp [intOf]; omega
      · have HL := Lib.hid hl
        clear hl
        go_wp2_with (go_at_call 79; refine (IL.out _ _).mono ?_; rintro e w' ⟨rfl, rfl⟩; rw [HL.out])
        go_round
        case rel => exact ⟨k + 1, by omega, by go_num, fun j hj => by rcases Nat.lt_succ_iff_lt_or_eq.1 hj with hj | rfl; exact HG.out j hj; exact .inl HL.out⟩
        case measure => simp [intOf]; omega
    · by_cases hz : 1 ≤ t.size ∧ t.size ≤ 8
      · obtain ⟨z1, z2⟩ := hz
        have hsh := shape_good z1 z2 (by rcases HG.out 0 (by omega) with h | h; exact h; omega) (fun j hj => by rcases HG.out j (by omega) with h | h; exact .inl h; exact .inr h.2)
        have hr : nameOk t = !kept t := by rw [nameOk, hsh]; rfl
        have HR := Lib.hid hr
        clear hr hsh
        rcases hq : kept t with _ | _
        all_goals
          have HQ := Lib.hid hq
          clear hq
          go_wp2_with (first | (go_at_call 46; refine (II.out _ _ _ _).mono ?_; rintro e w' ⟨rfl, rfl⟩; rw [show inR t.size 1 8 = true by simp [inR]; omega]) | (go_at_call 80; refine (IK.out _ _).mono ?_; rintro e w' ⟨rfl, hK⟩; rw [HQ.out]))
          go_ret
          exact ⟨ret_bool (by rw [HR.out, HQ.out]; rfl), hK⟩
      · have hz' : t.size = 0 ∨ 8 < t.size := by omega
        have hr : nameOk t = false := by rw [nameOk, shape_long hz']; rfl
        have HR := Lib.hid hr
        clear hr hz
        have hz2 : t.size ≤ 0 ∨ 8 < t.size := by omega
        clear hz'
        rcases hz2 with h | h
        all_goals
          go_wp2
          go_ret
          exact ⟨ret_bool HR.out.symm, Keep.refl _ _⟩
end Go.Proofs.YtjgnnobfaphkeaaDoor

/- Which lists of cells are ok: the reference's l4Cells. For every list. -/
namespace Go.Proofs.YtjgnnobfaphkeaaDoor
open Go.RowKit
set_option linter.unusedVariables false
set_option linter.unusedSimpArgs false
/-- the first cell of a name -/
def placeOf (l : List Ce) (s : ByteArray) : Int := match l.findIdx? (fun d => decide (d.name = s)) with
  | some i => (i : Int)
  | none => -1
theorem bytes_eq {a b : ByteArray} : (a.toList == b.toList) = decide (a = b) := by
  rw [ByteArray.toList_eq, ByteArray.toList_eq, Bool.eq_iff_iff, beq_iff_eq, decide_eq_true_iff]
  constructor
  · intro h; exact ByteArray.ext (Array.toList_inj.1 h)
  · intro h; rw [h]
theorem place_hit {l : List Ce} {s : ByteArray} {k : Nat} {x : Ce} (hx : l[k]? = some x) (he : x.name = s) (hn : ∀ (j : Nat) (y : Ce), j < k → l[j]? = some y → y.name ≠ s) : placeOf l s = k := by
  have hk : k < l.length := (List.getElem?_eq_some_iff.1 hx).1
  have hv : l[k] = x := (List.getElem?_eq_some_iff.1 hx).2
  have : l.findIdx? (fun d => decide (d.name = s)) = some k := by
    rw [List.findIdx?_eq_some_iff_getElem]
    exact ⟨hk, by rw [hv]; simpa using he, fun j hj => by simpa using hn j _ hj (List.getElem?_eq_getElem (by omega))⟩
  rw [placeOf, this]
theorem place_none {l : List Ce} {s : ByteArray} (hn : ∀ (j : Nat) (y : Ce), l[j]? = some y → y.name ≠ s) : placeOf l s = -1 := by
  have : l.findIdx? (fun d => decide (d.name = s)) = none := by
    rw [List.findIdx?_eq_none_iff]
    intro x hx
    obtain ⟨j, hj, rfl⟩ := List.getElem_of_mem hx
    simpa using hn j _ (List.getElem?_eq_getElem hj)
  rw [placeOf, this]
theorem place_own {l : List Ce} {k : Nat} {x : Ce} (hx : l[k]? = some x) : (placeOf l x.name != (k : Int)) = ((l.take k).any fun d => decide (d.name = x.name)) := by
  have hk : k < l.length := (List.getElem?_eq_some_iff.1 hx).1
  have hv : l[k] = x := (List.getElem?_eq_some_iff.1 hx).2
  cases hh : (l.take k).any fun d => decide (d.name = x.name) with
  | false =>
    rw [place_hit hx rfl fun j y hj hy e => ?_]
    · simp
    · rw [List.any_eq_false] at hh
      exact hh y (List.mem_of_getElem? (by rw [List.getElem?_take_of_lt hj]; exact hy)) (by simpa using e)
  | true =>
    obtain ⟨y, hy, he⟩ := List.any_eq_true.1 hh
    obtain ⟨j, hj, rfl⟩ := List.getElem_of_mem hy
    have hjk : j < k := by rw [List.length_take] at hj; omega
    rw [List.getElem_take] at he
    cases hf : l.findIdx? (fun d => decide (d.name = x.name)) with
    | none =>
      rw [List.findIdx?_eq_none_iff] at hf
      have := hf l[j] (List.getElem_mem _)
      rw [this] at he; cases he
    | some i =>
      rw [List.findIdx?_eq_some_iff_getElem] at hf
      obtain ⟨hi, _, hlt⟩ := hf
      have hij : i ≤ j := by
        rcases Nat.lt_or_ge j i with h | h
        · have := hlt j h
          rw [he] at this; exact absurd rfl this
        · exact h
      have hf : l.findIdx? (fun d => decide (d.name = x.name)) = some i := by
        rw [List.findIdx?_eq_some_iff_getElem]; exact ⟨hi, by assumption, hlt⟩
      rw [placeOf, hf]
      simp
      omega
set_option maxRecDepth 20000 in
set_option maxHeartbeats 1000000 in
theorem l4Cell_calls (l : List Ce) (s : Value) (t : ByteArray) (w : World) (hs : Ces w Any s l) : Calls Tryd.prog 85 #[s, .string t] w (Num (placeOf l t) w) := by
  have HS := Lib.hid hs
  obtain ⟨ad, c, rfl, hc, hm, _⟩ := hs
  go_enter Tryd.func85, Tryd.ntmps85
  go_wp2
  go_loopg [5] (l.length + 1) (fun g i wr => ∃ k : Nat, k ≤ l.length ∧ i = .int .i64 k ∧ g = l.length + 1 - k ∧ (∀ (j : Nat) (y : Ce), j < k → l[j]? = some y → y.name ≠ t) ∧ Keep Any w wr)
  case atStart => exact ⟨0, by omega, rfl, rfl, fun j y hj => by omega, Keep.refl _ _⟩
  case round =>
    obtain ⟨k, hk, rfl, hg, hall, hK⟩ := hrel
    have HG := Lib.hid hg
    have HA := Lib.hid hall
    clear hg hall
    by_cases hlt : k < l.length
    · have hx : l[k]? = some l[k] := List.getElem?_eq_getElem hlt
      have HX := Lib.hid hx
      obtain ⟨ad, sa, sc, rfl, hF, hvx, c0, c1, c2, c3, c4⟩ := ces_at HS.out hK hx
      generalize l[k] = x at *
      clear hx hvx
      by_cases he : x.name = t
      · have bq : (x.name.toList == t.toList) = true := by rw [bytes_eq]; simpa using he
        have HE := Lib.hid he
        clear he
        go_wp2
        go_ret
        exact ⟨ret_int (place_hit HX.out HE.out HA.out).symm, hK⟩
      · have bq : (x.name.toList == t.toList) = false := by rw [bytes_eq]; simpa using he
        have HE := Lib.hid he
        clear he
        go_wp2
        go_roundg (gk - 1)
        case rel => exact ⟨k + 1, by omega, by go_num, by have := HG.out; omega, fun j y hj hy => by rcases Nat.lt_succ_iff_lt_or_eq.1 hj with hj | rfl; exact HA.out j y hj hy; rw [HX.out] at hy; cases hy; exact HE.out, hK⟩
        case measure => have := HG.out; omega
    · go_wp2
      go_ret
      exact ⟨ret_int (place_none fun j y hy => HA.out j y (by have := (List.getElem?_eq_some_iff.1 hy).1; omega) hy).symm, hK⟩
set_option maxRecDepth 20000 in
set_option maxHeartbeats 1000000 in
theorem l4Cells_calls (l : List Ce) (s : Value) (w : World) (hs : Ces w Any s l) : Calls Tryd.prog 64 #[s] w (Tells (okCells l) w) := by
  have HS := Lib.hid hs
  have IN := Lib.hid l2Name_calls
  have IV := Lib.hid specValueOk_calls
  have IP := Lib.hid (fun t w' (h : Keep Any w w') => l4Cell_calls l s t w' (Ces.keep hs h))
  obtain ⟨ad, c, rfl, hc, hm, _⟩ := hs
  go_enter Tryd.func64, Tryd.ntmps64
  go_wp2
  go_loopg [3] (l.length + 1) (fun g i wr => ∃ k : Nat, k ≤ l.length ∧ i = .int .i64 k ∧ g = l.length + 1 - k ∧ (∀ j, j < k → cellGood l j = true) ∧ Keep Any w wr)
  case atStart => exact ⟨0, by omega, rfl, rfl, fun j hj => by omega, Keep.refl _ _⟩
  case round =>
    obtain ⟨k, hk, rfl, hg, hall, hK⟩ := hrel
    have HG := Lib.hid hg
    have HA := Lib.hid hall
    have HK := Lib.hid hK
    clear hg hall
    by_cases hlt : k < l.length
    · have hx : l[k]? = some l[k] := List.getElem?_eq_getElem hlt
      have HX := Lib.hid hx
      obtain ⟨ad, sa, sc, rfl, hF, hvx, c0, c1, c2, c3, c4⟩ := ces_at HS.out hK hx
      generalize l[k] = x at *
      have HV := Lib.hid hvx
      have CG := Lib.hid (cellGood_at hx)
      have PO := Lib.hid (place_own hx)
      have AT := Lib.hid (fun w' (h : Keep Any w w') => ces_at HS.out h hx)
      clear hx hvx hK
      rcases hq : nameOk x.name with _ | _
      · have HQ := Lib.hid hq
        clear hq
        go_wp2_with (go_at_call 55; refine (IN.out _ _ hF).mono ?_; rintro e w2 ⟨rfl, hK1⟩; rw [HQ.out])
        go_ret
        exact ⟨ret_bool (by rw [okCells_bad hlt (by rw [CG.out, HQ.out]; rfl)]), HK.out.trans hK1⟩
      · have HQ := Lib.hid hq
        clear hq
        rcases hq2 : okV 3 x.val with _ | _
        · have HQ2 := Lib.hid hq2
          clear hq2
          go_wp2_with (first | (go_at_call 55; refine (IN.out _ _ hF).mono ?_; rintro e w2 ⟨rfl, hK1⟩; rw [HQ.out]; clear c0 c1 c2 c3 c4; have HK1 := Lib.hid (HK.out.trans hK1); obtain ⟨ad1, sa1, sc1, e1, hF1, hvx1, c0, c1, c2, c3, c4⟩ := AT.out _ HK1.out; cases e1; have HV1 := Lib.hid hvx1; clear hvx1 hK1) | (go_at_call 56; refine (IV.out _ _ _ HV1.out).mono ?_; rintro e w3 ⟨rfl, hK2⟩; rw [HQ2.out]))
          go_ret
          exact ⟨ret_bool (by rw [okCells_bad hlt (by rw [CG.out, HQ.out, HQ2.out]; rfl)]), HK1.out.trans hK2⟩
        · have HQ2 := Lib.hid hq2
          clear hq2
          rcases hq3 : (l.take k).any fun d => decide (d.name = x.name) with _ | _
          · have HQ3 := Lib.hid hq3
            have bq : (placeOf l x.name != (k : Int)) = false := PO.out.trans hq3
            have GD := Lib.hid (show cellGood l k = true by rw [CG.out, HQ.out, HQ2.out, hq3]; rfl)
            clear hq3
            go_wp2_with (first | (go_at_call 55; refine (IN.out _ _ hF).mono ?_; rintro e w2 ⟨rfl, hK1⟩; rw [HQ.out]; clear c0 c1 c2 c3 c4; have HK1 := Lib.hid (HK.out.trans hK1); obtain ⟨ad1, sa1, sc1, e1, hF1, hvx1, c0, c1, c2, c3, c4⟩ := AT.out _ HK1.out; cases e1; have HV1 := Lib.hid hvx1; clear hvx1 hK1) | (go_at_call 56; refine (IV.out _ _ _ HV1.out).mono ?_; rintro e w3 ⟨rfl, hK2⟩; rw [HQ2.out]; clear c0 c1 c2 c3 c4; have HK2 := Lib.hid (HK1.out.trans hK2); obtain ⟨ad2, sa2, sc2, e2, hF2, hvx2, c0, c1, c2, c3, c4⟩ := AT.out _ HK2.out; cases e2; clear hvx2 hK2) | (go_at_call 85; refine (IP.out _ _ HK2.out).mono ?_; rintro e w4 ⟨rfl, hK3⟩))
            go_roundg (gk - 1)
            case rel => exact ⟨k + 1, by omega, by go_num, by have := HG.out; omega, fun j hj => by rcases Nat.lt_succ_iff_lt_or_eq.1 hj with hj | rfl; exact HA.out j hj; exact GD.out, HK2.out.trans hK3⟩
            case measure => have := HG.out; omega
          · have HQ3 := Lib.hid hq3
            have bq : (placeOf l x.name != (k : Int)) = true := PO.out.trans hq3
            clear hq3
            go_wp2_with (first | (go_at_call 55; refine (IN.out _ _ hF).mono ?_; rintro e w2 ⟨rfl, hK1⟩; rw [HQ.out]; clear c0 c1 c2 c3 c4; have HK1 := Lib.hid (HK.out.trans hK1); obtain ⟨ad1, sa1, sc1, e1, hF1, hvx1, c0, c1, c2, c3, c4⟩ := AT.out _ HK1.out; cases e1; have HV1 := Lib.hid hvx1; clear hvx1 hK1) | (go_at_call 56; refine (IV.out _ _ _ HV1.out).mono ?_; rintro e w3 ⟨rfl, hK2⟩; rw [HQ2.out]; clear c0 c1 c2 c3 c4; have HK2 := Lib.hid (HK1.out.trans hK2); obtain ⟨ad2, sa2, sc2, e2, hF2, hvx2, c0, c1, c2, c3, c4⟩ := AT.out _ HK2.out; cases e2; clear hvx2 hK2) | (go_at_call 85; refine (IP.out _ _ HK2.out).mono ?_; rintro e w4 ⟨rfl, hK3⟩))
            go_ret
            exact ⟨ret_bool (by rw [okCells_bad hlt (by rw [CG.out, HQ.out, HQ2.out, HQ3.out]; rfl)]), HK2.out.trans hK3⟩
    · obtain rfl : k = l.length := by omega
      have E1 := Lib.hid (okCells_good HA.out)
      go_wp2
      go_ret
      exact ⟨ret_bool (by rw [E1.out]), HK.out⟩
end Go.Proofs.YtjgnnobfaphkeaaDoor

/- A reply drawn. A text with a cut, or one sign more: some text at most one byte longer. How long a reply's text is; it is read back. For every reply. A reply drawn out of bytes; the text of one. For all bytes. -/
import Derived.Test.YtlmonnhgjnjniaaDoorMLawReply12
import Derived.Test.YtlmonnhgjnjniaaDoorMLawReply9
import Derived.Test.YtlmonnhgjnjniaaDoorMLawReply11
import Derived.Deep.RegionLaw
import Derived.Test.YtlmonnhgjnjniaaDoorMLawReply5
import Derived.Test.YtlmonnhgjnjniaaDoorMLawReply7
/- A reply drawn. -/
namespace Go.Proofs.YtlmonnhgjnjniaaDoor
open Go.RowKit
set_option linter.unusedVariables false
set_option linter.unusedSimpArgs false
abbrev Over (n : Nat) (k : Nat) : Prop := n ≤ k
/-- a reply was drawn -/
def DrawnR (c : Nat) (w : World) (b : Nat) (s : Value) (n p : Nat) (e : Ending) (w' : World) : Prop :=
  ∃ (r : Rp) (a : Option Addr) (c1 : Nat) (a2 : Option Addr) (c2 p' : Nat), e = .returned (.agg #[.int .i64 r.kind, .slice a r.names.length c1, .slice a2 r.row.length c2, .int .i64 r.code, .bool r.more]) ∧
    RR w' (Over w.heap.size) r [.int .i64 r.kind, .slice a r.names.length c1, .slice a2 r.row.length c2, .int .i64 r.code, .bool r.more] ∧ p ≤ p' ∧ p' ≤ p + c ∧ Rdr w' b s n p' ∧ Keep (But b) w w'
theorem Rdr.blk {w : World} {b : Nat} {s : Value} {n p : Nat} (h : Rdr w b s n p) : w.heap[b]? = some (.cells #[s, .int .i64 p] 74 (0, 0)) := h.1
/-- a store into another block -/
theorem far_b {w : World} {b X o : Nat} {u : Value} {ob : Obj} (hne : b ≠ X) (h : w.heap[b]? = some ob) : (w.setCell ⟨X, o, none⟩ u).heap[b]? = some ob := blk_far h _ _ hne
/-- a store into a block that is new since -/
theorem kset_b {ok : Nat → Prop} {a w : World} {X o : Nat} {u : Value} (hX : a.heap.size ≤ X) (h : Keep ok a w) : Keep ok a (w.setCell ⟨X, o, none⟩ u) := h.set _ _ fun hl _ => by have hl : X < a.heap.size := hl; omega
/-- a store below those that are looked at -/
theorem kset_o {a w : World} {n X o : Nat} {u : Value} (hX : X < n) (h : Keep (Over n) a w) : Keep (Over n) a (w.setCell ⟨X, o, none⟩ u) := h.set _ _ fun _ hl => by have hl : n ≤ X := hl; omega
theorem cost3 : cost 3 = 340 := rfl
/-- where the ways through the switch meet: x in its block -/
def MetR (w wx : World) (b : Nat) (s : Value) (n p : Nat) (X : Nat) (wc : World) : Prop :=
  ∃ (r : Rp) (a : Option Addr) (c1 : Nat) (a2 : Option Addr) (c2 p' : Nat), wc.heap[w.heap.size]? = some (.cells #[.int .i64 0, .slice none 0 0, .slice none 0 0, .int .i64 0, .bool false] 25 (0, 0)) ∧
    wc.heap[X]? = some (.cells #[.int .i64 r.kind, .slice a r.names.length c1, .slice a2 r.row.length c2, .int .i64 r.code, .bool r.more] 25 (0, 0)) ∧
    I64 r.kind ∧ I64 r.code ∧ SStrs wc (Over (X + 1)) (.slice a r.names.length c1) r.names ∧ SVs wc (Over (X + 1)) (.slice a2 r.row.length c2) r.row ∧ Rdr wc b s n p' ∧ p ≤ p' ∧ p' ≤ p + 2050 ∧ Keep (But b) w wc
theorem one_a {w : World} {ok : Nat → Prop} {B : Nat} {T : TypeId} (h : w.heap[B]? = some (.cells #[.string ⟨#[97]⟩, .string ⟨#[98]⟩] T (0, 0))) (ho : ok B) : SStrs w ok (.slice (some ⟨B, 0, none⟩) 1 2) [⟨#[97]⟩] :=
  ⟨_, _, rfl, by decide, by decide, fun _ => ⟨B, T, _, fun _ _ => False, rfl, ho, h, fun _ _ h => h.elim, fun _ _ _ _ h => h.elim, fun j x hx => by
    cases j with
    | zero => cases hx; exact ⟨[.string ⟨#[97]⟩], ⟨rfl, by unfold Fits; decide⟩, rfl, fun i u hu => by cases i with | zero => cases hu; rfl | succ i => cases hu⟩
    | succ j => cases hx⟩⟩
theorem two_ab {w : World} {ok : Nat → Prop} {B : Nat} {T : TypeId} (h : w.heap[B]? = some (.cells #[.string ⟨#[97]⟩, .string ⟨#[98]⟩] T (0, 0))) (ho : ok B) : SStrs w ok (.slice (some ⟨B, 0, none⟩) 2 2) [⟨#[97]⟩, ⟨#[98]⟩] :=
  strs_blkD (l := [⟨#[97]⟩, ⟨#[98]⟩]) h ho (by decide) (fun x hx => by simp only [List.mem_cons, List.not_mem_nil, or_false] at hx; unfold Fits; rcases hx with rfl | rfl <;> decide)
set_option maxHeartbeats 4000000 in
set_option maxRecDepth 20000 in
theorem l11Reply_calls (w : World) (b : Nat) (s : Value) (n p : Nat) (hr : Rdr w b s n p) (hn : n ≤ 2000) (hp : p ≤ 900000) : Calls Tryd.prog 31 #[.pointer (some ⟨b, 0, none⟩)] w (DrawnR 2100 w b s n p) := by
  have HR := Lib.hid hr
  have hb := hr.lt
  have PK := Lib.hid (fun (k : Int) (w : World) (p : Nat) h hp hk => pick_calls k w b s n p h hn hp hk)
  have VL := Lib.hid (value_all 3 (by omega))
  clear hr
  go_enter Tryd.func31, Tryd.ntmps31
  go_upto_block 0 with (go_at_call 56; refine (PK.out 4 _ p (HR.out.keep ((Keep.refl _ _).alloc _)) (by omega) (by omega)).mono ?_; rintro e w2 ⟨j, rfl, j0, j1, hR2, hK2⟩; have j2 := j1 (by omega); have R2 := Lib.hid hR2; have K2 := Lib.hid (((Keep.refl (But b) w).alloc _).trans hK2); have Z2 := Lib.hid (show w.heap.size + 1 ≤ w2.heap.size by have := hK2.size; rwa [World.size_alloc] at this); have B2 := Lib.hid (blk_keep hK2 (blk_new _ _) (show w.heap.size ≠ b by omega)); clear hR2 hK2 j1; have hbX := Lib.hid (show b ≠ w2.heap.size by have := Z2.out; omega); have hbW := Lib.hid (show b ≠ w.heap.size by omega); have hwX := Lib.hid (show w.heap.size ≤ w2.heap.size by have := Z2.out; omega); have hwW := Lib.hid (Nat.le_refl w.heap.size); have hoX := Lib.hid (show w2.heap.size < w2.heap.size + 1 by omega); have hoW := Lib.hid (show w.heap.size < w2.heap.size + 1 by have := Z2.out; omega))
  go_cut [4] from 11 to 47 (fun v wc => MetR w w2 b s n p w2.heap.size wc)
  case first =>
    have il : I64 0 ∧ I64 1 ∧ I64 2 ∧ I64 3 ∧ I64 4 := ⟨⟨by decide, by decide⟩, ⟨by decide, by decide⟩, ⟨by decide, by decide⟩, ⟨by decide, by decide⟩, ⟨by decide, by decide⟩⟩
    obtain ⟨i0, i1, i2, i3, i4⟩ := il
    obtain rfl | rfl | rfl | rfl : j = 0 ∨ j = 1 ∨ j = 2 ∨ j = 3 := by omega
    · go_wp2_with fail
      refine (PK.out 2 _ (p + 1) (show Rdr _ b s n (p + 1) from ⟨(Below.heap_alloc _ _ _ (by have := Z2.out; omega)).trans R2.out.1, HR.out.2.keep (K2.out.alloc _)⟩) (by omega) (by omega)).mono ?_
      rintro e w3 ⟨j3, rfl, j30, j31, hR, hK⟩
      have j32 := j31 (by omega)
      have R3 := Lib.hid hR
      have K3 := Lib.hid ((K2.out.alloc _).trans hK)
      have Z3 := Lib.hid (show w2.heap.size + 1 ≤ w3.heap.size by have h1 := hK.size; rwa [World.size_alloc] at h1)
      have B3 := Lib.hid (blk_keep hK (blk_alloc B2.out _) (show w.heap.size ≠ b by omega))
      have N3 := Lib.hid (blk_keep hK (blk_new _ _) (show w2.heap.size ≠ b by have := Z2.out; omega))
      obtain ⟨x0, x1, x2, x3, x4⟩ := at5 N3.out
      have g0 := blk_frozen N3.out 0
      have g1 := blk_frozen N3.out 1
      have g2 := blk_frozen N3.out 2
      have g3 := blk_frozen N3.out 3
      have g4 := blk_frozen N3.out 4
      have z2 := blk_lt N3.out
      clear hR hK
      obtain ⟨m3, hm3⟩ : ∃ m3, (j3 == 0) = m3 := ⟨_, rfl⟩
      go_wp2_with fail
      refine (PK.out 2 _ (p + 1 + 1) ⟨by repeat (first | (with_reducible exact Rdr.blk R3.out) | (with_reducible refine far_b hbX.out ?_) | (with_reducible refine far_b hbW.out ?_) | (with_reducible refine blk_alloc ?_ _)), HR.out.2.keep (by repeat (first | (with_reducible exact K3.out) | (with_reducible refine Keep.alloc ?_ _) | (with_reducible refine kset_b hwX.out ?_) | (with_reducible refine kset_b hwW.out ?_)))⟩ (by omega) (by omega)).mono ?_
      rintro e w4 ⟨j4, rfl, j40, j41, hR, hK⟩
      have j42 := j41 (by omega)
      have R4 := Lib.hid hR
      have K4 := Lib.hid ((show Keep (But b) w _ from by repeat (first | (with_reducible exact K3.out) | (with_reducible refine Keep.alloc ?_ _) | (with_reducible refine kset_b hwX.out ?_) | (with_reducible refine kset_b hwW.out ?_))).trans hK)
      have Z4 := Lib.hid (show w2.heap.size + 1 ≤ w4.heap.size by have h1 := hK.size; have := Z3.out; simp at h1; omega)
      have B4 := Lib.hid (blk_keep hK (blk_far B3.out _ _ (show w.heap.size ≠ w2.heap.size by have := Z2.out; omega)) (show w.heap.size ≠ b by omega))
      clear x0 x1 x2 x3 x4 g0 g1 g2 g3 g4 z2
      have N4 := Lib.hid ((show w4.heap[w2.heap.size]? = some (.cells #[.int .i64 1, .slice none 0 0, .slice none 0 0, .int .i64 0, .bool m3] 25 (0, 0)) from blk_keep hK ((blk_set N3.out 4 _).trans rfl) (show w2.heap.size ≠ b by have := Z2.out; omega)))
      obtain ⟨x0, x1, x2, x3, x4⟩ := at5 N4.out
      have g0 := blk_frozen N4.out 0
      have g1 := blk_frozen N4.out 1
      have g2 := blk_frozen N4.out 2
      have g3 := blk_frozen N4.out 3
      have g4 := blk_frozen N4.out 4
      have z2 := blk_lt N4.out
      clear hR hK
      obtain rfl | rfl : j4 = 0 ∨ j4 = 1 := by omega
      · go_wp2_with fail
        refine (PK.out 2 _ (p + 1 + 1 + 1) ⟨by repeat (first | (with_reducible exact Rdr.blk R4.out) | (with_reducible refine far_b hbX.out ?_) | (with_reducible refine far_b hbW.out ?_) | (with_reducible refine blk_alloc ?_ _)), HR.out.2.keep (by repeat (first | (with_reducible exact K4.out) | (with_reducible refine Keep.alloc ?_ _) | (with_reducible refine kset_b hwX.out ?_) | (with_reducible refine kset_b hwW.out ?_)))⟩ (by omega) (by omega)).mono ?_
        rintro e w5 ⟨j5, rfl, j50, j51, hR, hK⟩
        have j52 := j51 (by omega)
        have R5 := Lib.hid hR
        have K5 := Lib.hid ((K4.out.alloc _).trans hK)
        have Z5 := Lib.hid (show w4.heap.size + 1 ≤ w5.heap.size by have h1 := hK.size; rwa [World.size_alloc] at h1)
        have B5 := Lib.hid (blk_keep hK (blk_alloc B4.out _) (show w.heap.size ≠ b by omega))
        have A5 := Lib.hid (blk_keep hK (blk_new _ _) (show w4.heap.size ≠ b by have := Z4.out; have := Z2.out; omega))
        clear x0 x1 x2 x3 x4 g0 g1 g2 g3 g4 z2
        have N5 := Lib.hid ((blk_keep hK (blk_alloc N4.out _) (show w2.heap.size ≠ b by have := Z2.out; omega)))
        obtain ⟨x0, x1, x2, x3, x4⟩ := at5 N5.out
        have g0 := blk_frozen N5.out 0
        have g1 := blk_frozen N5.out 1
        have g2 := blk_frozen N5.out 2
        have g3 := blk_frozen N5.out 3
        have g4 := blk_frozen N5.out 4
        have z2 := blk_lt N5.out
        clear hR hK
        obtain rfl | rfl : j5 = 0 ∨ j5 = 1 := by omega
        · go_wp2
          go_meet
          exact ⟨⟨1, [⟨#[97]⟩], [], 0, m3⟩, some ⟨w4.heap.size, 0, none⟩, 2, none, 0, p + 1 + 1 + 1 + 1, blk_far B5.out _ _ (show w.heap.size ≠ w2.heap.size by have := Z2.out; omega), (blk_set N5.out 1 _).trans rfl, i1, i0, SStrs.keep (one_a A5.out (show w2.heap.size + 1 ≤ w4.heap.size from Z4.out)) ((Keep.refl _ _).set _ _ fun _ h => Nat.not_succ_le_self _ h), SSl.nil, ⟨by repeat (first | (with_reducible exact Rdr.blk R5.out) | (with_reducible refine far_b hbX.out ?_) | (with_reducible refine far_b hbW.out ?_) | (with_reducible refine blk_alloc ?_ _)), HR.out.2.keep (by repeat (first | (with_reducible exact K5.out) | (with_reducible refine Keep.alloc ?_ _) | (with_reducible refine kset_b hwX.out ?_) | (with_reducible refine kset_b hwW.out ?_)))⟩, by omega, by omega, by repeat (first | (with_reducible exact K5.out) | (with_reducible refine Keep.alloc ?_ _) | (with_reducible refine kset_b hwX.out ?_) | (with_reducible refine kset_b hwW.out ?_))⟩
        · go_wp2
          go_meet
          exact ⟨⟨1, [⟨#[97]⟩, ⟨#[98]⟩], [], 0, m3⟩, some ⟨w4.heap.size, 0, none⟩, 2, none, 0, p + 1 + 1 + 1 + 1, blk_far B5.out _ _ (show w.heap.size ≠ w2.heap.size by have := Z2.out; omega), (blk_set N5.out 1 _).trans rfl, i1, i0, SStrs.keep (two_ab A5.out (show w2.heap.size + 1 ≤ w4.heap.size from Z4.out)) ((Keep.refl _ _).set _ _ fun _ h => Nat.not_succ_le_self _ h), SSl.nil, ⟨by repeat (first | (with_reducible exact Rdr.blk R5.out) | (with_reducible refine far_b hbX.out ?_) | (with_reducible refine far_b hbW.out ?_) | (with_reducible refine blk_alloc ?_ _)), HR.out.2.keep (by repeat (first | (with_reducible exact K5.out) | (with_reducible refine Keep.alloc ?_ _) | (with_reducible refine kset_b hwX.out ?_) | (with_reducible refine kset_b hwW.out ?_)))⟩, by omega, by omega, by repeat (first | (with_reducible exact K5.out) | (with_reducible refine Keep.alloc ?_ _) | (with_reducible refine kset_b hwX.out ?_) | (with_reducible refine kset_b hwW.out ?_))⟩
      · go_wp2
        go_meet
        exact ⟨⟨1, [], [], 0, m3⟩, none, 0, none, 0, p + 1 + 1 + 1, B4.out, N4.out, i1, i0, SSl.nil, SSl.nil, R4.out, by omega, by omega, K4.out⟩
    · go_wp2_with fail
      refine (PK.out 3 _ (p + 1) (show Rdr _ b s n (p + 1) from ⟨(Below.heap_alloc _ _ _ (by have := Z2.out; omega)).trans R2.out.1, HR.out.2.keep (K2.out.alloc _)⟩) (by omega) (by omega)).mono ?_
      rintro e w3 ⟨j3, rfl, j30, j31, hR, hK⟩
      have j32 := j31 (by omega)
      have R3 := Lib.hid hR
      have K3 := Lib.hid ((K2.out.alloc _).trans hK)
      have Z3 := Lib.hid (show w2.heap.size + 1 ≤ w3.heap.size by have h1 := hK.size; rwa [World.size_alloc] at h1)
      have B3 := Lib.hid (blk_keep hK (blk_alloc B2.out _) (show w.heap.size ≠ b by omega))
      have N3 := Lib.hid (blk_keep hK (blk_new _ _) (show w2.heap.size ≠ b by have := Z2.out; omega))
      obtain ⟨x0, x1, x2, x3, x4⟩ := at5 N3.out
      have g0 := blk_frozen N3.out 0
      have g1 := blk_frozen N3.out 1
      have g2 := blk_frozen N3.out 2
      have g3 := blk_frozen N3.out 3
      have g4 := blk_frozen N3.out 4
      have z2 := blk_lt N3.out
      clear hR hK
      obtain ⟨m, rfl⟩ := Int.eq_ofNat_of_zero_le j30
      obtain ⟨i00, hi, hzz⟩ := Option.map_eq_some_iff.1 infoValR
      simp only [Prod.mk.injEq] at hzz
      obtain ⟨hz0, hz1, hz2⟩ := hzz
      clear x0 x1 x2 x3 x4 g0 g1 g2 g3 g4 z2
      go_wp2
      go_loopg [4] (m + 2) (fun g x wr => ∃ (k : Nat) (acc : List V) (css : List (List Value)) (top p' : Nat) (v : Value), k + acc.length ≤ 3 ∧ x = .int .i64 k ∧ g = k + 1 ∧ wr.heap[w.heap.size]? = some (.cells #[.int .i64 0, .slice none 0 0, .slice none 0 0, .int .i64 0, .bool false] 25 (0, 0)) ∧ wr.heap[w2.heap.size]? = some (.cells #[.int .i64 2, .slice none 0 0, v, .int .i64 0, .bool false] 25 (0, 0)) ∧
        SRow 4 SV wr (w2.heap.size + 1) top 39 v acc css ∧ Rdr wr b s n p' ∧ p ≤ p' ∧ p' ≤ p + 2 + acc.length * (2 * cost 3) ∧ Keep (But b) w wr)
      case atStart => exact ⟨m + 1, [], [], w2.heap.size + 1, p + 1 + 1, .slice none 0 0, by simp; omega, by go_num, by omega, B3.out, N3.out, SRow.nil _ _ _ _ (Nat.le_refl _) Z3.out, R3.out, by omega, by omega, K3.out⟩
      case round =>
        obtain ⟨k, acc, css, top, p', v, hka, rfl, hg, hz, hn1, hS, hRr, hp1, hp2, hK⟩ := hrel
        have HG := Lib.hid hg
        have HZ := Lib.hid hz
        have HN := Lib.hid hn1
        have HS := Lib.hid hS
        have HK := Lib.hid hK
        have HRr := Lib.hid hRr
        obtain ⟨av, cv, rfl, hnil⟩ := hS.form
        obtain ⟨x0, x1, x2, x3, x4⟩ := at5 hn1
        have g2 := blk_frozen hn1 2
        have z2 := blk_lt hn1
        have C3 := cost3
        have HC3 : acc.length * (2 * cost 3) ≤ 3 * (2 * cost 3) := Nat.mul_le_mul_right _ (by omega)
        rw [C3] at HC3 hp2
        clear C3
        clear hg hz hn1 hS hK hRr hnil
        by_cases h0 : 0 < k
        · have c0 : (0 : Int) < (k : Int) := by omega
          have hpc : p' + 2 * 340 ≤ 1000000 := by omega
          have HKD := Lib.hid ((Keep.refl (But b) wr).drew)
          have HRD := Lib.hid (show Rdr wr.drew b s n p' from ⟨HRr.out.1, HRr.out.2.keep ((Keep.refl (But b) wr).drew)⟩)
          go_wp2
          go_region_law (first | (go_simp; go_at_call 57; refine (VL.out _ _ _ _ _ HRD.out hn hpc).mono ?_; rintro e w5 ⟨v1, a1, m1, p1, rfl, hSv, hq1, hq2, hR5, hK5⟩; have HS5 := Lib.hid (rowV_keepB HS.out (HKD.out.trans hK5) (show b < w2.heap.size + 1 by have := Z2.out; omega)); have HV5 := Lib.hid hSv; have R5 := Lib.hid hR5; have K5 := Lib.hid (HKD.out.trans hK5); have N5 := Lib.hid (blk_keep K5.out HN.out (show w2.heap.size ≠ b by have := Z2.out; omega)); have n5 := (blk_cell N5.out 2).trans rfl; have g5 := blk_frozen N5.out 2; have z5 := blk_lt N5.out; have HQ2 := Lib.hid (show p1 ≤ p' + 680 from hq2); clear hSv hR5 hK5 hq2) | (refine step_append_lies _ rfl (.tmp 36) (.tmp 39) 23 rfl (w2.heap.size + 1) 39 i00 _ 4 56 Tryd.underlying23 hi hz0 hz1 hz2 rfl (by decide) (.slice av acc.length cv) acc.length css.flatten (by simp [Act.eval, Act.put]) (rowV_keep HS5.out ((Keep.refl _ _).alloc _)).own ⟨w5.heap.size, 0, none⟩ 1 1 [.int .i64 v1.kind, .int .i64 v1.num, .string v1.text, .slice a1 v1.list.length m1] (by simp [Act.eval, Act.put]) rfl (new_cells _ _ _ rfl) (by simp [Value.oneCell']) (by omega) (by unfold maxLen; omega) (by omega) (by have := HS5.out.base_le; simp; omega) _ rfl ?_; intro gB cap w6 hown hgrow hblk hlt; have HS6 := Lib.hid (rowV_snoc (rowV_keep HS5.out ((Keep.refl _ _).alloc _)) hown hgrow (hblk.elim (fun h => .inl h.symm) fun h => .inr (congrArg some h)) (HV5.out.keep ((Keep.refl _ _).alloc _)) (fun i hi => ⟨Nat.le_trans HS.out.top_le hi.1, by have := hi.2; simp; omega⟩)); have HB5 := Lib.hid (show ∀ k, (Value.slice av acc.length cv).ownBlock = some k → w2.heap.size + 1 ≤ k from fun k hk => (HS.out.own.lt k hk).1); have K6 := Lib.hid (((HK.out.trans K5.out).alloc _).grown hgrow (fun i hi hlt => by have := HB5.out i hi; have := Z2.out; omega)); have ZZ := K5.out.size; have N6 := Lib.hid ((hgrow.block _ (by have := blk_lt HN.out; simp; omega) (fun e => by have := HB5.out _ e.symm; omega)).trans (blk_alloc N5.out _)); have Z6 := Lib.hid ((hgrow.block _ (by have := blk_lt HZ.out; simp; omega) (fun e => by have := HB5.out _ e.symm; have := Z2.out; omega)).trans (blk_alloc (blk_keep K5.out HZ.out (show w.heap.size ≠ b by omega)) _)); have R6 := Lib.hid ((hgrow.block b (by have := blk_lt HZ.out; simp; omega) (fun e => by have := HB5.out _ e.symm; have := Z2.out; omega)).trans (blk_alloc R5.out.1 _)); have n6 := (blk_cell N6.out 2).trans rfl; have g6 := blk_frozen N6.out 2; have z6 := blk_lt N6.out; clear hown hgrow hblk ZZ))
          all_goals
            go_wp2
            go_roundg (gk - 1)
            case rel => exact ⟨k - 1, acc ++ [v1], _, w6.heap.size, p1, .slice (some ⟨gB, 0, none⟩) (acc.length + 1) cap, by rw [List.length_append, List.length_singleton]; omega, by go_num, by have := HG.out; omega, blk_far Z6.out _ _ (show w.heap.size ≠ w2.heap.size by have := Z2.out; omega), (blk_set N6.out 2 _).trans rfl, rowV_set HS6.out (by omega), ⟨(Below.heap_setCell _ _ _ _ (show b ≠ w2.heap.size by have := Z2.out; omega)).trans R6.out, HR.out.2.keep (K6.out.set _ _ (fun h _ => by have h : w2.heap.size < w.heap.size := h; have := Z2.out; omega))⟩, by omega, by rw [List.length_append, List.length_singleton, Nat.add_mul, Nat.one_mul, cost3]; have := HQ2.out; omega, K6.out.set _ _ (fun h _ => by have h : w2.heap.size < w.heap.size := h; have := Z2.out; omega)⟩
            case measure => have := HG.out; omega
        · have h0' : ¬ (0 : Int) < (k : Int) := by omega
          go_wp2
          go_meet
          exact ⟨⟨2, [], acc, 0, false⟩, none, 0, av, cv, p', HZ.out, HN.out, i2, i0, SSl.nil, HS.out.slice (fun i h1 _ => h1), HRr.out, hp1, by omega, HK.out⟩
    · go_wp2_with fail
      refine (PK.out 9 _ (p + 1) (show Rdr _ b s n (p + 1) from ⟨(Below.heap_alloc _ _ _ (by have := Z2.out; omega)).trans R2.out.1, HR.out.2.keep (K2.out.alloc _)⟩) (by omega) (by omega)).mono ?_
      rintro e w3 ⟨j3, rfl, j30, j31, hR, hK⟩
      have j32 := j31 (by omega)
      have R3 := Lib.hid hR
      have K3 := Lib.hid ((K2.out.alloc _).trans hK)
      have Z3 := Lib.hid (show w2.heap.size + 1 ≤ w3.heap.size by have h1 := hK.size; rwa [World.size_alloc] at h1)
      have B3 := Lib.hid (blk_keep hK (blk_alloc B2.out _) (show w.heap.size ≠ b by omega))
      have N3 := Lib.hid (blk_keep hK (blk_new _ _) (show w2.heap.size ≠ b by have := Z2.out; omega))
      obtain ⟨x0, x1, x2, x3, x4⟩ := at5 N3.out
      have g0 := blk_frozen N3.out 0
      have g1 := blk_frozen N3.out 1
      have g2 := blk_frozen N3.out 2
      have g3 := blk_frozen N3.out 3
      have g4 := blk_frozen N3.out 4
      have z2 := blk_lt N3.out
      clear hR hK
      go_wp2
      go_meet
      exact ⟨⟨3, [], [], 1 + j3, false⟩, none, 0, none, 0, p + 1 + 1, blk_far B3.out _ _ (show w.heap.size ≠ w2.heap.size by have := Z2.out; omega), (blk_set N3.out 3 _).trans rfl, i3, ⟨by show (-9223372036854775808 : Int) ≤ 1 + j3; omega, by show 1 + j3 ≤ (9223372036854775807 : Int); omega⟩, SSl.nil, SSl.nil, ⟨by repeat (first | (with_reducible exact Rdr.blk R3.out) | (with_reducible refine far_b hbX.out ?_) | (with_reducible refine far_b hbW.out ?_) | (with_reducible refine blk_alloc ?_ _)), HR.out.2.keep (by repeat (first | (with_reducible exact K3.out) | (with_reducible refine Keep.alloc ?_ _) | (with_reducible refine kset_b hwX.out ?_) | (with_reducible refine kset_b hwW.out ?_)))⟩, by omega, by omega, by repeat (first | (with_reducible exact K3.out) | (with_reducible refine Keep.alloc ?_ _) | (with_reducible refine kset_b hwX.out ?_) | (with_reducible refine kset_b hwW.out ?_))⟩
    · go_wp2
      go_meet
      exact ⟨⟨4, [], [], 0, false⟩, none, 0, none, 0, p + 1, blk_alloc B2.out _, (blk_new _ _).trans rfl, i4, i0, SSl.nil, SSl.nil, (show Rdr _ b s n (p + 1) from ⟨(Below.heap_alloc _ _ _ (by have := Z2.out; omega)).trans R2.out.1, HR.out.2.keep (K2.out.alloc _)⟩), by omega, by omega, K2.out.alloc _⟩
  case rest =>
    obtain ⟨r, a, c1, a2, c2, p3, hB, hX, hk, hc, hs, hv, hRc, hp1, hp2, hKc⟩ := hcut
    have R3 := Lib.hid hRc
    have K3 := Lib.hid hKc
    have B3 := Lib.hid hB
    have S3 := Lib.hid hs
    have V3 := Lib.hid hv
    have Z3 := Lib.hid (show w2.heap.size + 1 ≤ wc.heap.size from blk_lt hX)
    have HKK := Lib.hid hk
    have HCC := Lib.hid hc
    have N3 := Lib.hid hX
    clear hRc hKc hB hs hv hk hc hX
    go_wp2_with fail
    refine (PK.out 14 _ p3 R3.out (by omega) (by omega)).mono ?_
    rintro e w4 ⟨j4, rfl, j40, j41, hR, hK⟩
    have R4 := Lib.hid hR
    have K34 := Lib.hid hK
    have K4 := Lib.hid (K3.out.trans hK)
    have Z4 := Lib.hid (Nat.le_trans Z3.out hK.size)
    have B4 := Lib.hid (blk_keep hK B3.out (show w.heap.size ≠ b by omega))
    have S4 := Lib.hid (SStrs.keep S3.out (hK.mono fun i _ hi => show i ≠ b by have h : w2.heap.size + 1 ≤ i := hi; have := Z2.out; omega))
    have V4 := Lib.hid (SVs.keep V3.out (hK.mono fun i _ hi => show i ≠ b by have h : w2.heap.size + 1 ≤ i := hi; have := Z2.out; omega))
    have N4 := Lib.hid ((blk_keep hK N3.out (show w2.heap.size ≠ b by have := Z2.out; omega)))
    obtain ⟨x0, x1, x2, x3, x4⟩ := at5 N4.out
    have g0 := blk_frozen N4.out 0
    have g1 := blk_frozen N4.out 1
    have g2 := blk_frozen N4.out 2
    have g3 := blk_frozen N4.out 3
    have g4 := blk_frozen N4.out 4
    have z2 := blk_lt N4.out
    clear hR hK j41
    by_cases h14 : j4 = 0
    · have q14 : (j4 == 0) = true := by rw [h14]; rfl
      clear h14
      go_wp2_with fail
      refine (PK.out 11 _ (p3 + 1) R4.out (by omega) (by omega)).mono ?_
      rintro e w5 ⟨j5, rfl, j50, j51, hR, hK⟩
      have j52 := j51 (by omega)
      have R5 := Lib.hid hR
      have K5 := Lib.hid (K4.out.trans hK)
      have Z5 := Lib.hid (Nat.le_trans Z4.out hK.size)
      have B5 := Lib.hid (blk_keep hK B4.out (show w.heap.size ≠ b by omega))
      have S5 := Lib.hid (SStrs.keep S4.out (hK.mono fun i _ hi => show i ≠ b by have h : w2.heap.size + 1 ≤ i := hi; have := Z2.out; omega))
      have V5 := Lib.hid (SVs.keep V4.out (hK.mono fun i _ hi => show i ≠ b by have h : w2.heap.size + 1 ≤ i := hi; have := Z2.out; omega))
      clear x0 x1 x2 x3 x4 g0 g1 g2 g3 g4 z2
      have N5 := Lib.hid ((blk_keep hK N4.out (show w2.heap.size ≠ b by have := Z2.out; omega)))
      obtain ⟨x0, x1, x2, x3, x4⟩ := at5 N5.out
      have g0 := blk_frozen N5.out 0
      have g1 := blk_frozen N5.out 1
      have g2 := blk_frozen N5.out 2
      have g3 := blk_frozen N5.out 3
      have g4 := blk_frozen N5.out 4
      have z2 := blk_lt N5.out
      clear hR hK j51
      go_wp2_with fail
      refine (PK.out 6 _ (p3 + 1 + 1) ⟨by repeat (first | (with_reducible exact Rdr.blk R5.out) | (with_reducible refine far_b hbX.out ?_) | (with_reducible refine far_b hbW.out ?_) | (with_reducible refine blk_alloc ?_ _)), HR.out.2.keep (by repeat (first | (with_reducible exact K5.out) | (with_reducible refine Keep.alloc ?_ _) | (with_reducible refine kset_b hwX.out ?_) | (with_reducible refine kset_b hwW.out ?_)))⟩ (by omega) (by omega)).mono ?_
      rintro e w6 ⟨j6, rfl, j60, j61, hR, hK⟩
      have j62 := j61 (by omega)
      have R6 := Lib.hid hR
      have K6 := Lib.hid ((show Keep (But b) w _ from by repeat (first | (with_reducible exact K5.out) | (with_reducible refine Keep.alloc ?_ _) | (with_reducible refine kset_b hwX.out ?_) | (with_reducible refine kset_b hwW.out ?_))).trans hK)
      have Z6 := Lib.hid (show w2.heap.size + 1 ≤ w6.heap.size by have h1 := hK.size; have := Z5.out; simp at h1; omega)
      have B6 := Lib.hid (blk_keep hK (blk_far B5.out _ _ (show w.heap.size ≠ w2.heap.size by have := Z2.out; omega)) (show w.heap.size ≠ b by omega))
      have S6 := Lib.hid (SStrs.keep (SStrs.keep S5.out ((Keep.refl _ _).set ⟨w2.heap.size, 3, none⟩ (.int .i64 j5) fun _ h => Nat.not_succ_le_self _ h)) (hK.mono fun i _ hi => show i ≠ b by have h : w2.heap.size + 1 ≤ i := hi; have := Z2.out; omega))
      have V6 := Lib.hid (SVs.keep (SVs.keep V5.out ((Keep.refl _ _).set ⟨w2.heap.size, 3, none⟩ (.int .i64 j5) fun _ h => Nat.not_succ_le_self _ h)) (hK.mono fun i _ hi => show i ≠ b by have h : w2.heap.size + 1 ≤ i := hi; have := Z2.out; omega))
      clear x0 x1 x2 x3 x4 g0 g1 g2 g3 g4 z2
      have N6 := Lib.hid ((show w6.heap[w2.heap.size]? = some (.cells #[.int .i64 r.kind, .slice a r.names.length c1, .slice a2 r.row.length c2, .int .i64 j5, .bool r.more] 25 (0, 0)) from blk_keep hK ((blk_set N5.out 3 _).trans rfl) (show w2.heap.size ≠ b by have := Z2.out; omega)))
      obtain ⟨x0, x1, x2, x3, x4⟩ := at5 N6.out
      have g0 := blk_frozen N6.out 0
      have g1 := blk_frozen N6.out 1
      have g2 := blk_frozen N6.out 2
      have g3 := blk_frozen N6.out 3
      have g4 := blk_frozen N6.out 4
      have z2 := blk_lt N6.out
      clear hR hK j61
      obtain ⟨y0, y1, y2, y3, y4⟩ := at5 B6.out
      have f0 := blk_frozen B6.out 0
      have f1 := blk_frozen B6.out 1
      have f2 := blk_frozen B6.out 2
      have f3 := blk_frozen B6.out 3
      have f4 := blk_frozen B6.out 4
      have zb := blk_lt B6.out
      have hne : ¬ w.heap.size = w2.heap.size := by have := Z2.out; omega
      have hne' : ¬ w2.heap.size = w.heap.size := by have := Z2.out; omega
      go_wp2
      refine bodyPost_ret (v := .agg #[.int .i64 j6, .slice a r.names.length c1, .slice a2 r.row.length c2, .int .i64 j5, .bool r.more]) (by simp [results, Tryd.results31, go_sem, y0, y1, y2, y3, y4, f0, f1, f2, f3, f4, zb, hne, hne']) rfl ?_
      refine ⟨⟨j6, r.names, r.row, j5, r.more⟩, a, c1, a2, c2, p3 + 1 + 1 + 1, rfl, ⟨_, _, rfl, ⟨by show (-9223372036854775808 : Int) ≤ j6; omega, by show j6 ≤ (9223372036854775807 : Int); omega⟩, ⟨by show (-9223372036854775808 : Int) ≤ j5; omega, by show j5 ≤ (9223372036854775807 : Int); omega⟩, Strs.mono (SStrs.strs (SStrs.keep S6.out ?_)) fun i _ hi => Nat.le_trans hwX.out (Nat.le_trans (Nat.le_succ _) hi), Vals.mono (SVs.vals (SVs.keep V6.out ?_)) fun i _ hi => Nat.le_trans hwX.out (Nat.le_trans (Nat.le_succ _) hi)⟩, by omega, by omega, ⟨by repeat (first | (with_reducible exact Rdr.blk R6.out) | (with_reducible refine far_b hbX.out ?_) | (with_reducible refine far_b hbW.out ?_) | (with_reducible refine blk_alloc ?_ _)), HR.out.2.keep (by repeat (first | (with_reducible exact K6.out) | (with_reducible refine Keep.alloc ?_ _) | (with_reducible refine kset_b hwX.out ?_) | (with_reducible refine kset_b hwW.out ?_)))⟩, by repeat (first | (with_reducible exact K6.out) | (with_reducible refine Keep.alloc ?_ _) | (with_reducible refine kset_b hwX.out ?_) | (with_reducible refine kset_b hwW.out ?_))⟩
      · repeat (first | (with_reducible exact Keep.refl _ _) | (with_reducible refine kset_o hoX.out ?_) | (with_reducible refine kset_o hoW.out ?_))
      · repeat (first | (with_reducible exact Keep.refl _ _) | (with_reducible refine kset_o hoX.out ?_) | (with_reducible refine kset_o hoW.out ?_))
    · have q14 : (j4 == 0) = false := by rw [beq_eq_false_iff_ne]; exact h14
      clear h14
      obtain ⟨y0, y1, y2, y3, y4⟩ := at5 B4.out
      have f0 := blk_frozen B4.out 0
      have f1 := blk_frozen B4.out 1
      have f2 := blk_frozen B4.out 2
      have f3 := blk_frozen B4.out 3
      have f4 := blk_frozen B4.out 4
      have zb := blk_lt B4.out
      go_wp2
      refine bodyPost_ret (v := .agg #[.int .i64 r.kind, .slice a r.names.length c1, .slice a2 r.row.length c2, .int .i64 r.code, .bool r.more]) (by simp [results, Tryd.results31, go_sem, y0, y1, y2, y3, y4, f0, f1, f2, f3, f4, zb]) rfl ?_
      refine ⟨r, a, c1, a2, c2, p3 + 1, rfl, ⟨_, _, rfl, HKK.out, HCC.out, Strs.mono (SStrs.strs (SStrs.keep S4.out ?_)) fun i _ hi => Nat.le_trans hwX.out (Nat.le_trans (Nat.le_succ _) hi), Vals.mono (SVs.vals (SVs.keep V4.out ?_)) fun i _ hi => Nat.le_trans hwX.out (Nat.le_trans (Nat.le_succ _) hi)⟩, by omega, by omega, ⟨by repeat (first | (with_reducible exact Rdr.blk R4.out) | (with_reducible refine far_b hbX.out ?_) | (with_reducible refine far_b hbW.out ?_) | (with_reducible refine blk_alloc ?_ _)), HR.out.2.keep (by repeat (first | (with_reducible exact K4.out) | (with_reducible refine Keep.alloc ?_ _) | (with_reducible refine kset_b hwX.out ?_) | (with_reducible refine kset_b hwW.out ?_)))⟩, by repeat (first | (with_reducible exact K4.out) | (with_reducible refine Keep.alloc ?_ _) | (with_reducible refine kset_b hwX.out ?_) | (with_reducible refine kset_b hwW.out ?_))⟩
      · repeat (first | (with_reducible exact Keep.refl _ _) | (with_reducible refine kset_o hoX.out ?_) | (with_reducible refine kset_o hoW.out ?_))
      · repeat (first | (with_reducible exact Keep.refl _ _) | (with_reducible refine kset_o hoX.out ?_) | (with_reducible refine kset_o hoW.out ?_))
end Go.Proofs.YtlmonnhgjnjniaaDoor

/- A text with a cut, or one sign more: some text at most one byte longer. -/
namespace Go.Proofs.YtlmonnhgjnjniaaDoor
open Go.RowKit
set_option linter.unusedVariables false
set_option linter.unusedSimpArgs false
set_option maxHeartbeats 1000000 in
set_option maxRecDepth 20000 in
theorem l11Cut_calls (t : ByteArray) (ht : t.size ≤ 900000) (w : World) (b : Nat) (s : Value) (n p : Nat) (hr : Rdr w b s n p) (hn : n ≤ 2000) (hp : p ≤ 900000) :
    Calls Tryd.prog 42 #[.pointer (some ⟨b, 0, none⟩), .string t] w fun e w' => ∃ (x : ByteArray) (p' : Nat), x.size ≤ t.size + 1 ∧ e = .returned (.string x) ∧ Rdr w' b s n p' ∧ p ≤ p' ∧ p' ≤ p + 3 ∧ Keep (But b) w w' := by
  have HR := Lib.hid hr
  have hb := blk_lt hr.1
  have PK := Lib.hid (fun (k : Int) (w : World) (p : Nat) h hp hk => pick_calls k w b s n p h hn hp hk)
  have OF := Lib.hid (fun (w : World) (p : Nat) (l : List ByteArray) v h hp hl hl2 hv => of_calls l v w b s n p h hn hp hl hl2 hv)
  clear hr
  go_enter Tryd.func42, Tryd.ntmps42
  go_wp2_with fail
  refine (PK.out ((t.size : Int) + 1) _ p HR.out (by omega) (by omega)).mono ?_
  rintro e w2 ⟨j, rfl, j0, j1, hR2, hK2⟩
  have j2 := j1 (by omega)
  obtain ⟨k, rfl⟩ := Int.eq_ofNat_of_zero_le j0
  have hk : k ≤ t.size := by omega
  have R2 := Lib.hid hR2
  have K2 := Lib.hid hK2
  clear hR2 hK2 j1 j2 j0
  go_wp2_with fail
  refine (PK.out 5 _ (p + 1) R2.out (by omega) (by omega)).mono ?_
  rintro e w3 ⟨j, rfl, j0, j1, hR3, hK3⟩
  have R3 := Lib.hid hR3
  have K3 := Lib.hid (K2.out.trans hK3)
  have Z3 := Lib.hid (Nat.le_trans K2.out.size hK3.size)
  clear hR3 hK3 j1
  by_cases h0 : j = 0
  · have q0 : (j == 0) = true := by rw [h0]; rfl
    clear h0
    obtain ⟨ob, hob⟩ : ∃ ob, (Obj.cells (([⟨#[32]⟩, ⟨#[40]⟩, ⟨#[93]⟩, ⟨#[44]⟩, ⟨#[48]⟩, ⟨#[120]⟩, ⟨#[10]⟩, ⟨#[39]⟩] : List ByteArray).map Value.string).toArray 9 (0, 0)) = ob := ⟨_, rfl⟩
    have hsz : ∀ y, y ∈ ([⟨#[32]⟩, ⟨#[40]⟩, ⟨#[93]⟩, ⟨#[44]⟩, ⟨#[48]⟩, ⟨#[120]⟩, ⟨#[10]⟩, ⟨#[39]⟩] : List ByteArray) → y.size = 1 := fun y hy => by
      simp only [List.mem_cons, List.not_mem_nil, or_false] at hy
      rcases hy with rfl | rfl | rfl | rfl | rfl | rfl | rfl | rfl <;> rfl
    have HSZ := Lib.hid hsz
    have HS := Lib.hid (show Strs (w3.alloc ob).drew (But b) (.slice (some ⟨w3.heap.size, 0, none⟩) 8 8) [⟨#[32]⟩, ⟨#[40]⟩, ⟨#[93]⟩, ⟨#[44]⟩, ⟨#[48]⟩, ⟨#[120]⟩, ⟨#[10]⟩, ⟨#[39]⟩] from SStrs.strs (SStrs.keep (strs_blkD (l := [⟨#[32]⟩, ⟨#[40]⟩, ⟨#[93]⟩, ⟨#[44]⟩, ⟨#[48]⟩, ⟨#[120]⟩, ⟨#[10]⟩, ⟨#[39]⟩]) (ok := But b) (by rw [← hob]; exact blk_new w3 _) (show w3.heap.size ≠ b by have := Z3.out; omega) (by decide) (fun x hx => by rw [Fits, hsz x hx]; decide)) ((Keep.refl _ _).drew)))
    have HRD := Lib.hid (show Rdr (w3.alloc ob).drew b s n (p + 1 + 1) from ⟨blk_alloc R3.out.1 ob, R3.out.2.keep (((Keep.refl (But b) w3).alloc ob).drew)⟩)
    have HKD := Lib.hid (show Keep (But b) w (w3.alloc ob).drew from (K3.out.alloc ob).drew)
    have s1 : (t.extract 0 k).size = k := by rw [ByteArray.size_extract]; omega
    have s2 : (t.extract k t.size).size = t.size - k := by rw [ByteArray.size_extract]; omega
    obtain ⟨x1, he1⟩ : ∃ x1, t.extract 0 k = x1 := ⟨_, rfl⟩
    obtain ⟨x2, he2⟩ : ∃ x2, t.extract k t.size = x2 := ⟨_, rfl⟩
    rw [he1] at s1
    rw [he2] at s2
    have S1 := Lib.hid s1
    have S2 := Lib.hid s2
    clear hsz s1 s2
    subst hob
    have OFD := Lib.hid (OF.out _ (p + 1 + 1) [⟨#[32]⟩, ⟨#[40]⟩, ⟨#[93]⟩, ⟨#[44]⟩, ⟨#[48]⟩, ⟨#[120]⟩, ⟨#[10]⟩, ⟨#[39]⟩] _ HRD.out (by omega) (by simp) (by simp) HS.out)
    go_wp2
    go_region_law (go_simp; go_at_call 67; refine OFD.out.mono ?_; rintro e w4 ⟨x, hx, rfl, hR4, hK4⟩; have HX := Lib.hid (HSZ.out x hx); have R4 := Lib.hid hR4; have K4 := Lib.hid (HKD.out.trans hK4); have n1 : ¬ 9223372036854775807 < x1.size + x.size := (by rw [S1.out, HX.out]; omega); have n2 : ¬ 9223372036854775807 < x1.size + x.size + x2.size := (by rw [S1.out, HX.out, S2.out]; omega); clear hx hR4 hK4)
    all_goals
      go_wp2
      go_ret
      exact ⟨_, p + 1 + 1 + 1, by rw [ByteArray.size_append, ByteArray.size_append, S1.out, HX.out, S2.out]; omega, rfl, R4.out, by omega, by omega, K4.out⟩
  · have q0 : (j == 0) = false := by rw [beq_eq_false_iff_ne]; exact h0
    clear h0
    by_cases h1 : j = 1
    · have q1 : (j == 1) = true := by rw [h1]; rfl
      clear h1
      go_wp2
      go_ret
      exact ⟨_, p + 1 + 1, by rw [ByteArray.size_extract]; omega, rfl, R3.out, by omega, by omega, K3.out⟩
    · have q1 : (j == 1) = false := by rw [beq_eq_false_iff_ne]; exact h1
      clear h1
      go_wp2
      go_ret
      exact ⟨_, p + 1 + 1, by omega, rfl, R3.out, by omega, by omega, K3.out⟩
end Go.Proofs.YtlmonnhgjnjniaaDoor

/- How long a reply's text is; it is read back. For every reply. -/
namespace Go.Proofs.YtlmonnhgjnjniaaDoor
open Go.RowKit
set_option linter.unusedVariables false
set_option linter.unusedSimpArgs false
def pb : Nat → Nat
  | 0 => 21
  | d + 1 => 6 * (pb d + 2) + 2
theorem put_pb : ∀ (d : Nat) (v : V), okV d v = true → v.put.length ≤ pb d
  | 0, v, h => by simp [okV] at h
  | d + 1, v, h => by
    have hn := okV_num h
    have ht := okV_text h
    have hp : ∀ d, 21 ≤ pb d := fun d => by
      induction d with
      | zero => exact Nat.le_refl _
      | succ d ih => rw [pb]; omega
    have hp := hp d
    rw [pb]
    obtain ⟨k, n, t, l⟩ := v
    by_cases h4 : k = 4
    · subst h4
      obtain ⟨hl, ha⟩ := okV_list h
      rw [put_list]
      have := rowTxt_len fun x hx => put_pb d x (ha x hx)
      have : l.length * (pb d + 2) ≤ 6 * (pb d + 2) := Nat.mul_le_mul_right _ hl
      omega
    · have hi := itoa_len2 n hn.1 hn.2
      have ht : k = 3 → t.size ≤ 16 := ht
      simp only [Lib.size_eq] at ht
      rw [V.put]
      rw [if_neg h4]
      (repeat' split) <;> (try simp only [List.length_cons, List.length_append, List.length_nil]) <;> (try have := ht ‹_›) <;> omega
theorem put_pb3 {v : V} (h : okV 3 v = true) : v.put.length ≤ 6000 := Nat.le_trans (put_pb 3 v h) (by decide)
theorem body_size {r : Rp} (h : fineR r = true) : 0 < (bodyTxt r).length ∧ (bodyTxt r).length ≤ 40000 := by
  cases fineS h with
  | ok l m hl hx =>
    rw [body_ok]
    have h1 := namesTxt_len (more := m) (l := l) (k := l.length) hx hl
    rw [namesTxt, List.take_length] at h1
    refine ⟨?_, by omega⟩
    cases m <;> simp
  | row l hl hx =>
    rw [body_row]
    have h1 := rowTxt_len fun x h => put_pb3 (hx x h)
    have h2 : l.length * (6000 + 2) ≤ 5 * (6000 + 2) := Nat.mul_le_mul_right _ hl
    simp only [List.length_append, List.length_cons, List.length_nil]
    omega
  | fail n h0 h1 =>
    have h2 := dec_len10 (n := n) (by omega)
    rw [body_fail]
    simp only [List.length_append, List.length_cons, List.length_nil]
    omega
  | past => exact ⟨by decide, by decide⟩
theorem replyTxt_size (r : Rp) : (replyTxt r).length ≤ 40000 := by
  rw [replyTxt]
  split
  · exact (body_size ‹_›).2
  · simp
/-- what was put is read back, and the empty text is none -/
theorem replyGet_put (r : Rp) : (fineR r = true ∧ replyTxt r ≠ [] ∧ replyGet (replyTxt r) = some r) ∨ (fineR r = false ∧ replyTxt r = [] ∧ replyGet (replyTxt r) = none) := by
  rcases h : fineR r with _ | _
  · have e : replyTxt r = [] := by rw [replyTxt, h]; rfl
    refine .inr ⟨rfl, e, ?_⟩
    rw [e]
    rcases hg : replyGet [] with _ | x
    · rfl
    · obtain ⟨h1, h2⟩ := replyGet_iff.1 hg
      have := (body_size h1).1
      rw [h2] at this
      simp at this
  · have e : replyTxt r = bodyTxt r := by rw [replyTxt, h]; rfl
    have h1 := (body_size h).1
    exact .inl ⟨rfl, fun hn => by rw [e] at hn; rw [hn] at h1; simp at h1, by rw [e]; exact replyGet_iff.2 ⟨h, rfl⟩⟩
theorem replyGet_back {l : List UInt8} {r : Rp} (h : replyGet l = some r) : replyTxt r = l := by
  obtain ⟨h1, h2⟩ := replyGet_iff.1 h
  rw [replyTxt, h1]
  exact h2
end Go.Proofs.YtlmonnhgjnjniaaDoor

/- A reply drawn out of bytes; the text of one. For all bytes. -/
namespace Go.Proofs.YtlmonnhgjnjniaaDoor
open Go.RowKit
set_option linter.unusedVariables false
set_option linter.unusedSimpArgs false
/-- n bytes that can be read -/
def BytIn (w : World) (s : Value) (n : Nat) : Prop :=
  ∃ (a : Option Addr) (c : Nat), s = .slice a n c ∧ n ≤ c ∧ c ≤ 9223372036854775807 ∧ (0 < n → ∃ ad : Addr, a = some ad ∧ ∀ i, i < n → ∃ x : Nat, x < 256 ∧ w.cell? (ad.add i) = some (.int .u8 x))
theorem BytIn.keep {w w' : World} {s : Value} {n : Nat} (h : BytIn w s n) (k : Keep Any w w') : BytIn w' s n := by
  obtain ⟨a, c, rfl, h1, h2, h3⟩ := h
  refine ⟨a, c, rfl, h1, h2, fun hn => ?_⟩
  obtain ⟨ad, rfl, hf⟩ := h3 hn
  exact ⟨ad, rfl, fun i hi => by obtain ⟨x, hx, hc⟩ := hf i hi; exact ⟨x, hx, k.cell hc trivial⟩⟩
theorem BytIn.byt {w : World} {s : Value} {n b : Nat} (h : BytIn w s n) (hb : w.heap.size ≤ b) : Byt w b s n := by
  obtain ⟨a, c, rfl, h1, h2, h3⟩ := h
  refine ⟨a, c, rfl, h1, h2, fun hn => ?_⟩
  obtain ⟨ad, rfl, hf⟩ := h3 hn
  refine ⟨ad, rfl, fun e => ?_, hf⟩
  obtain ⟨x, hx, hc⟩ := hf 0 hn
  have := World.block_lt_of_cell? w _ hc
  rw [add_block] at this
  omega
def GotRr (w : World) (e : Ending) (w' : World) : Prop :=
  ∃ (r : Rp) (a : Option Addr) (c1 : Nat) (a2 : Option Addr) (c2 : Nat), e = .returned (.agg #[.int .i64 r.kind, .slice a r.names.length c1, .slice a2 r.row.length c2, .int .i64 r.code, .bool r.more]) ∧
    RR w' Any r [.int .i64 r.kind, .slice a r.names.length c1, .slice a2 r.row.length c2, .int .i64 r.code, .bool r.more] ∧ Keep Any w w'
set_option maxRecDepth 20000 in
theorem drawReplyPut_calls (v : Value) (n : Nat) (w : World) (hv : BytIn w v n) : Calls Tryd.prog 10 #[v] w (GotRr w) := by
  have OP := Lib.hid (fun w0 (hk : Keep Any w w0) => l1Open_calls v n w0 ((hv.keep hk).byt (Nat.le_refl _)))
  have DR := Lib.hid (fun w b s n p h hn => l11Reply_calls w b s n p h hn)
  clear hv
  go_enter Tryd.func10, Tryd.ntmps10
  go_wp2_with fail
  refine (OP.out _ ((Keep.refl _ _).alloc _)).mono ?_
  rintro e w2 ⟨s, m, hm, rfl, hR2, hK2⟩
  have K2 := Lib.hid (((Keep.refl Any w).alloc _).trans hK2)
  have B2 := Lib.hid (blk_keep hK2 (blk_new _ _) trivial)
  obtain ⟨b, hbb⟩ : ∃ b, (w.alloc (.cells #[.int .i64 0, .slice none 0 0, .slice none 0 0, .int .i64 0, .bool false] 25 (0, 0))).heap.size = b := ⟨_, rfl⟩
  have Z2 := Lib.hid (show w.heap.size < b by rw [← hbb]; simp)
  rw [hbb] at hR2
  have R2 := Lib.hid hR2
  try rw [hbb]
  clear hbb
  clear hR2 hK2
  go_wp2_with fail
  refine (DR.out _ _ _ _ _ R2.out hm (by omega)).mono ?_
  rintro e w3 ⟨r, a, c1, a2, c2, p', rfl, hr, hp1, hp2, hR3, hK3⟩
  have R3 := Lib.hid hr
  have K3 := Lib.hid (show Keep Any w w3 from ((Keep.refl Any w).trans K2.out).then hK3 fun i hi _ => by have h := Z2.out; show i ≠ _; omega)
  have B3 := Lib.hid (blk_keep hK3 B2.out (by have h := Z2.out; show w.heap.size ≠ _; omega))
  clear hr hK3 hR3
  obtain ⟨y0, y1, y2, y3, y4⟩ := at5 B3.out
  have f0 := blk_frozen B3.out 0
  have f1 := blk_frozen B3.out 1
  have f2 := blk_frozen B3.out 2
  have f3 := blk_frozen B3.out 3
  have f4 := blk_frozen B3.out 4
  have zb := blk_lt B3.out
  go_wp2
  refine bodyPost_ret (v := .agg #[.int .i64 r.kind, .slice a r.names.length c1, .slice a2 r.row.length c2, .int .i64 r.code, .bool r.more]) (by simp [results, Tryd.results10, go_sem, y0, y1, y2, y3, y4, f0, f1, f2, f3, f4, zb]) rfl ?_
  refine ⟨r, a, c1, a2, c2, rfl, RR.mono (RR.keep R3.out ?_) (fun _ _ _ => trivial), ?_⟩
  · have hb := blk_lt B2.out
    repeat (first | (with_reducible exact Keep.refl _ _) | (with_reducible refine kset_o hb ?_))
  · have hb := Nat.le_refl w.heap.size
    repeat (first | (with_reducible exact K3.out) | (with_reducible refine kset_b hb ?_))
set_option maxRecDepth 20000 in
theorem drawReplyGet_calls (v : Value) (n : Nat) (w : World) (hv : BytIn w v n) : Calls Tryd.prog 16 #[v] w fun e w' => ∃ x : ByteArray, x.size ≤ 40001 ∧ e = .returned (.string x) ∧ Keep Any w w' := by
  have OP := Lib.hid (fun w0 (hk : Keep Any w w0) => l1Open_calls v n w0 ((hv.keep hk).byt (Nat.le_refl _)))
  have DR := Lib.hid (fun w b s n p h hn => l11Reply_calls w b s n p h hn)
  have CU := Lib.hid (fun t ht w b s n p h hn hp => l11Cut_calls t ht w b s n p h hn hp)
  have SP := Lib.hid (fun r cs w h => specReplyPut_calls r cs w h)
  clear hv
  go_enter Tryd.func16, Tryd.ntmps16
  go_wp2_with fail
  refine (OP.out _ (Keep.refl _ _)).mono ?_
  rintro e w2 ⟨s, m, hm, rfl, hR2, hK2⟩
  have R2 := Lib.hid hR2
  have K2 := Lib.hid hK2
  clear hR2 hK2
  go_wp2_with fail
  refine (DR.out _ _ _ _ _ R2.out hm (by omega)).mono ?_
  rintro e w3 ⟨r, a, c1, a2, c2, p', rfl, hr, hp1, hp2, hR3, hK3⟩
  have R3 := Lib.hid hr
  have D3 := Lib.hid hR3
  have K3 := Lib.hid (show Keep Any w w3 from K2.out.then hK3 fun i hi _ => by show i ≠ _; omega)
  clear hr hK3 hR3
  obtain ⟨T, hT⟩ : ∃ T : ByteArray, (⟨(replyTxt r).toArray⟩ : ByteArray) = T := ⟨_, rfl⟩
  have hTs : T.size ≤ 40000 := by have := replyTxt_size r; rw [← hT]; simpa [ByteArray.size] using this
  have SPR := Lib.hid ((SP.out r [.int .i64 r.kind, .slice a r.names.length c1, .slice a2 r.row.length c2, .int .i64 r.code, .bool r.more] w3 (R3.out.mono fun _ _ _ => trivial)).mono fun e w' h => (show e = .returned (.string T) ∧ Keep Any w3 w' from ⟨h.1.trans (by rw [hT]), h.2⟩))
  clear hT
  go_wp2_with fail
  refine SPR.out.mono ?_
  rintro e w4 ⟨rfl, hK4⟩
  have D4 := Lib.hid (show Rdr w4 w.heap.size s m p' from ⟨blk_keep hK4 D3.out.1 trivial, D3.out.2.keep hK4.any⟩)
  have K4 := Lib.hid (K3.out.trans hK4)
  clear hK4
  go_wp2_with fail
  refine (CU.out T (by omega) _ _ _ _ _ D4.out hm (by omega)).mono ?_
  rintro e w5 ⟨x, p5, hx, rfl, hR5, h1, h2, hK5⟩
  have K5 := Lib.hid (show Keep Any w w5 from K4.out.then hK5 fun i hi _ => by show i ≠ _; omega)
  clear hK5
  go_wp2
  go_ret
  exact ⟨x, by omega, rfl, K5.out⟩
end Go.Proofs.YtlmonnhgjnjniaaDoor

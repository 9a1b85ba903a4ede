/- The reference's l9Cells: the cells that a text tells. For every text of at most 2^60 bytes. Which messages have a form: the program's MsgOk. For every message. strings.Builder's WriteString over this dump (the shelf's own contract could not be laid): a builder of one's own gains the text. Under Go's own limit of length. The text of what is said: what the program's MsgPut writes. For every message. -/
import Derived.Test.YtjgnnobfaphkeaaDoorMLawMsgGet9
import Derived.Test.YtjgnnobfaphkeaaDoorMLawMsgGet10
import Derived.Test.YtjgnnobfaphkeaaDoorMLawMsgGet0
import Derived.Lib.Strings
import Derived.Lib.Slices
import Derived.Lib.Walk
import Derived.Lib.Builder
import Derived.Lib.AppendStr
import Derived.Lib.UnsafeStr
import Derived.Laws.Externs
import Derived.Laws.IdiomCopy
import Derived.Test.YtjgnnobfaphkeaaDoorMLawMsgGet5
/- The reference's l9Cells: the cells that a text tells. For every text of at most 2^60 bytes. -/
namespace Go.Proofs.YtjgnnobfaphkeaaDoor
open Go.RowKit
set_option linter.unusedVariables false
set_option linter.unusedSimpArgs false
theorem lineOf_at {s : ByteArray} {k : Nat} (hk : k ≤ s.size) (h : ∀ j, j < k → at_ s j ≠ (10 : UInt8).toNat) (he : k = s.size ∨ at_ s k = 10) : lineOf s.data.toList = s.data.toList.take k := by
  have e : s.data.toList = s.data.toList.take k ++ s.data.toList.drop k := (List.take_append_drop _ _).symm
  have h4 := take_no (s := s) (c := 10) hk h
  conv => lhs; rw [e]
  refine lineOf_app (fun b r hb => ?_) fun b hb e => h4 (e ▸ hb)
  rcases Nat.lt_or_ge k s.size with hl | hl
  · rw [drop_at hl] at hb
    cases hb
    have e1 := at_eq s k hl
    rcases he with he | he
    · omega
    · rw [he] at e1; exact UInt8.toNat_inj.1 e1
  · rw [List.drop_of_length_le (by rw [← Lib.size_eq]; exact hl)] at hb; cases hb
theorem specValueGet_none {t : ByteArray} (ht : t.size ≤ 2305843009213693952) (h : valGet t.data.toList = none) (w : World) : Calls Tryd.prog 70 #[.string t] w fun e w' =>
    e = .returned (.tuple #[.agg #[.int .i64 0, .int .i64 0, .string ⟨#[]⟩, .slice none 0 0], .bool false]) ∧ Keep Any w w' := (specValueGet_calls t w ht).mono fun e w' ⟨hK, hz⟩ => by
  rw [svalGet_eq] at hz
  rcases hz with ⟨_, he⟩ | ⟨v, a, c, hn, _⟩
  · exact ⟨he, hK⟩
  · rw [h] at hn; cases hn
theorem specValueGet_some {t : ByteArray} (ht : t.size ≤ 2305843009213693952) {v : V} (h : valGet t.data.toList = some v) (w : World) : Calls Tryd.prog 70 #[.string t] w fun e w' =>
    ∃ (a : Option Addr) (c : Nat), e = .returned (.tuple #[.agg #[.int .i64 v.kind, .int .i64 v.num, .string v.text, .slice a v.list.length c], .bool true]) ∧ Keep Any w w' ∧ SV w' (Mid w.heap.size w'.heap.size) v [.int .i64 v.kind, .int .i64 v.num, .string v.text, .slice a v.list.length c] := (specValueGet_calls t w ht).mono fun e w' ⟨hK, hz⟩ => by
  rw [svalGet_eq] at hz
  rcases hz with ⟨hn, _⟩ | ⟨v', a, c, hn, he, hS⟩
  · rw [h] at hn; cases hn
  · rw [h] at hn; cases hn; exact ⟨a, c, he, hK, hS⟩
theorem upto_none {s : ByteArray} {c : UInt8} {b : Int} (hb : b = c.toNat) (hs : s.size ≤ 2305843009213693952) (h : cutAt c s.data.toList = none) (w : World) : Calls Tryd.prog 44 #[.string s, .int .u8 b] w fun e w' => e = .returned (.tuple #[.string ⟨#[]⟩, .string ⟨#[]⟩, .bool false]) ∧ Keep Any w w' :=
  (l9Upto_calls s c b hb w hs).mono fun e w' hz => by
    rcases hz with ⟨_, he, hw⟩ | ⟨x, y, hn, _⟩
    · exact ⟨he, hw ▸ Keep.refl _ _⟩
    · rw [h] at hn; cases hn
theorem upto_some {s : ByteArray} {c : UInt8} {b : Int} (hb : b = c.toNat) (hs : s.size ≤ 2305843009213693952) {x y : List UInt8} (h : cutAt c s.data.toList = some (x, y)) (w : World) : Calls Tryd.prog 44 #[.string s, .int .u8 b] w fun e w' => e = .returned (.tuple #[.string ⟨x.toArray⟩, .string ⟨y.toArray⟩, .bool true]) ∧ Keep Any w w' :=
  (l9Upto_calls s c b hb w hs).mono fun e w' hz => by
    rcases hz with ⟨hn, _⟩ | ⟨x', y', hn, he, hw⟩
    · rw [h] at hn; cases hn
    · rw [h] at hn; cases hn; exact ⟨he, hw⟩
/-- the cells, and whether it is so -/
def GotSC (o : Option (List Ce)) (w : World) (e : Ending) (w' : World) : Prop :=
  Keep Any w w' ∧ ((o = none ∧ ∃ (a : Option Addr) (n c : Nat), e = .returned (.tuple #[.slice a n c, .bool false])) ∨
    ∃ (l : List Ce) (a : Option Addr) (c : Nat), o = some l ∧ e = .returned (.tuple #[.slice a l.length c, .bool true]) ∧ SCes w' (Mid w.heap.size w'.heap.size) (.slice a l.length c) l)
theorem scells_end (f : Nat) : scells f [] = some [] := by unfold scells; simp
theorem scells_full {l : List UInt8} (h : l ≠ []) : scells 0 l = none := by unfold scells; simp [h]
theorem scells_head {f : Nat} {l : List UInt8} (h : l ≠ []) (h1 : ¬ l.headD 0 = 10) : scells f l = none := by
  unfold scells
  rw [if_neg h]
  cases f with
  | zero => rfl
  | succ f => exact if_neg h1
theorem scells_cut {f : Nat} {l : List UInt8} (h : l ≠ []) (h1 : cutAt 61 (l.drop 1) = none) : scells f l = none := by
  unfold scells
  rw [if_neg h]
  cases f with
  | zero => rfl
  | succ f =>
    by_cases h0 : l.headD 0 = 10
    · simp only [h0, if_true, h1]
    · exact if_neg h0
theorem scells_val {f : Nat} {l nm x : List UInt8} (h : l ≠ []) (h1 : cutAt 61 (l.drop 1) = some (nm, x)) (h2 : valGet (lineOf x) = none) : scells f l = none := by
  unfold scells
  rw [if_neg h]
  cases f with
  | zero => rfl
  | succ f =>
    by_cases h0 : l.headD 0 = 10
    · simp only [h0, if_true, h1, h2]
    · exact if_neg h0
theorem scells_more {f : Nat} {l nm x : List UInt8} {v : V} (h : l ≠ []) (h0 : l.headD 0 = 10) (h1 : cutAt 61 (l.drop 1) = some (nm, x)) (h2 : valGet (lineOf x) = some v) :
    scells (f + 1) l = (scells f (x.drop (lineOf x).length)).map fun g => ⟨⟨nm.toArray⟩, v⟩ :: g := by
  conv => lhs; unfold scells
  rw [if_neg h]
  simp only [h0, if_true, h1, h2]
theorem SRow.made {α : Type} {sz : Nat} {R : World → (Nat → Prop) → α → List Value → Prop} (w : World) (T : TypeId) : SRow sz R (w.alloc (.cells #[] T)) w.heap.size (w.heap.size + 1) T (.slice (some ⟨w.heap.size, 0, none⟩) 0 0) ([] : List α) [] :=
  ⟨fun _ _ => False, rfl, World.ownsRow_made w #[] 0 (Nat.le_refl _) (by simp [maxLen]) (by simp), (fun _ h => by cases h), (fun j x cs h => by cases h), fun _ _ h => h.elim, fun _ _ _ _ h => h.elim, by omega, by simp, (fun k h => by cases h; exact Nat.lt_succ_self _)⟩
set_option maxHeartbeats 4000000 in
set_option maxRecDepth 20000 in
theorem l9Cells_calls (t : ByteArray) (w : World) (ht : t.size ≤ 1152921504606846976) : Calls Tryd.prog 47 #[.string t] w (GotSC (scells 6 t.data.toList) w) := by
  obtain ⟨o, ho⟩ : ∃ o, o = scells 6 t.data.toList := ⟨_, rfl⟩
  rw [← ho]
  have HO := Lib.hid ho
  clear ho
  obtain ⟨i0, hi, hzz⟩ := Option.map_eq_some_iff.1 infoCell
  simp only [Prod.mk.injEq] at hzz
  obtain ⟨hz0, hz1, hz2⟩ := hzz
  go_enter Tryd.func47, Tryd.ntmps47
  go_wp2
  go_loopg [0, 4] 7 (fun g x v wr => ∃ (s : ByteArray) (acc : List Ce) (css : List (List Value)) (top : Nat), x = .string s ∧ s.size ≤ t.size ∧ acc.length ≤ 6 ∧ g = 7 - acc.length ∧ SRow 5 SCe wr w.heap.size top 74 v acc css ∧ Keep Any w wr ∧ o = (scells (6 - acc.length) s.data.toList).map (fun p => acc ++ p))
  case atStart => exact ⟨t, [], [], w.heap.size + 1, rfl, Nat.le_refl _, by simp, rfl, SRow.made _ _, (Keep.refl _ _).alloc _, by rw [HO.out]; simp⟩
  case round =>
    obtain ⟨s, acc, css, top, rfl, hs, hl, hg, hS, hK, hr⟩ := hrel
    have HG := Lib.hid hg
    have HR := Lib.hid hr
    have HK := Lib.hid hK
    obtain ⟨av, cv, rfl, hnil⟩ := hS.form
    have HS := Lib.hid hS
    clear hg hr hS hnil hK
    by_cases h0 : s.size = 0
    · have hd : s.toList.isEmpty = true := by have := empty_true s h0; simpa using this
      have e0 : s.data.toList = [] := List.eq_nil_of_length_eq_zero (by rw [← Lib.size_eq]; exact h0)
      have E0 := Lib.hid e0
      clear e0 h0
      go_wp2
      go_ret2
      exact ⟨HK.out, .inr ⟨acc, av, cv, by rw [HR.out, E0.out, scells_end]; simp, rfl, HS.out.slice fun i h1 h2 => ⟨h1, h2⟩⟩⟩
    have hd : s.toList.isEmpty = false := by have := empty_false s h0; simpa using this
    have q1 : 0 < s.size := by omega
    have e1 := at_eq s 0 q1
    have E0 := Lib.hid (show s.data.toList ≠ [] from fun h => h0 (by rw [Lib.size_eq, h]; rfl))
    clear h0
    by_cases h10 : s.data.toList.headD 0 = 10
    · have b10 : (((at_ s 0 : Nat) : Int) != 10) = false := by have := head_yes q1 (n := 10) rfl h10; rw [bne, this]; rfl
      have H10 := Lib.hid h10
      clear h10
      by_cases h6 : acc.length = 6
      · have hl6 : (5 : Int) < (acc.length : Int) := by omega
        have H6 := Lib.hid h6
        clear h6
        go_wp2
        go_ret2
        exact ⟨HK.out, .inl ⟨by rw [HR.out, H6.out, Nat.sub_self, scells_full E0.out]; rfl, av, acc.length, cv, rfl⟩⟩
      have hl5 : (acc.length : Int) ≤ 5 := by omega
      rcases hc : cutAt 61 (s.data.toList.drop 1) with _ | ⟨nm, x⟩
      · have CN := Lib.hid (upto_none (s := s.extract 1 s.size) (c := 61) (b := 61) rfl (by rw [ByteArray.size_extract]; omega) (by rw [tail_data]; exact hc))
        have HC := Lib.hid hc
        clear hc
        go_wp2_with (go_at_call 44; refine (CN.out _).mono ?_; rintro e wA ⟨rfl, hKA⟩)
        go_ret2
        exact ⟨HK.out.trans hKA, .inl ⟨by rw [HR.out, scells_cut E0.out HC.out]; rfl, av, acc.length, cv, rfl⟩⟩
      · obtain ⟨xb, hxb⟩ : ∃ xb : ByteArray, (⟨x.toArray⟩ : ByteArray) = xb := ⟨_, rfl⟩
        obtain ⟨nb, hnb⟩ : ∃ nb : ByteArray, (⟨nm.toArray⟩ : ByteArray) = nb := ⟨_, rfl⟩
        have hxd : xb.data.toList = x := by rw [← hxb]
        have hcl := cutAt_len hc
        rw [List.length_drop, ← Lib.size_eq] at hcl
        have hxs : xb.size ≤ s.size := by rw [Lib.size_eq xb, hxd]; omega
        have hns : nb.size ≤ s.size := by rw [← hnb, Lib.size_eq]; simp; omega
        have CN := Lib.hid (fun w => by have := upto_some (s := s.extract 1 s.size) (c := 61) (b := 61) rfl (by rw [ByteArray.size_extract]; omega) (by rw [tail_data]; exact hc) w; rw [hxb, hnb] at this; exact this)
        have HC := Lib.hid hc
        have HXD := Lib.hid hxd
        have HNB := Lib.hid hnb
        clear hc hcl hxb hnb hxd
        go_upto_block 2 with (go_at_call 44; refine (CN.out _).mono ?_; rintro e wA ⟨rfl, hKA⟩; have HKA := Lib.hid hKA; clear hKA)
        go_cut [8] from 33 to 44 (fun i wc => ∃ k : Nat, k ≤ xb.size ∧ i = .int .i64 k ∧ lineOf xb.data.toList = xb.data.toList.take k ∧ wA = wc)
        case first =>
          go_wp2
          go_loop [8] (fun i => ∃ k : Nat, k ≤ xb.size ∧ i = .int .i64 k ∧ ∀ j, j < k → at_ xb j ≠ (10 : UInt8).toNat) (fun i => xb.size - (intOf i).toNat)
          case atStart => exact ⟨0, by omega, rfl, fun j hj => by omega⟩
          case round =>
            obtain ⟨k, hk, rfl, hg⟩ := hrel
            have HI := Lib.hid hg
            clear hg
            by_cases hlt : k < xb.size
            · have e2 := at_eq xb k hlt
              by_cases hc : at_ xb k = 10
              · have q2 : (((at_ xb k : Nat) : Int) != 10) = false := by rw [hc]; rfl
                have HL := Lib.hid (lineOf_at hk HI.out (.inr hc))
                clear hc
                go_wp2
                go_meet
                case rel => exact ⟨k, hk, rfl, HL.out, rfl⟩
              · have q2 : (((at_ xb k : Nat) : Int) != 10) = true := by rw [bne_iff_ne]; omega
                have HC2 := Lib.hid hc
                clear hc
                go_wp2
                go_round
                case rel => exact ⟨k + 1, by omega, by go_num, fun j hj => by rcases Nat.lt_succ_iff_lt_or_eq.1 hj with hj | rfl; exact HI.out j hj; exact HC2.out⟩
                case measure => simp [intOf]; omega
            · have HL := Lib.hid (lineOf_at hk HI.out (.inl (by omega)))
              go_wp2
              go_meet
              case rel => exact ⟨k, hk, rfl, HL.out, rfl⟩
        case rest =>
          obtain ⟨k, hk, rfl, hline, rfl⟩ := hcut
          have hd0 : (xb.extract 0 k).data.toList = lineOf xb.data.toList := by rw [hline, take_eq]
          have hlen : (lineOf xb.data.toList).length = k := by rw [hline, List.length_take, ← Lib.size_eq]; omega
          have HD0 := Lib.hid hd0
          have HLEN := Lib.hid hlen
          clear hline hd0 hlen
          rcases hv : valGet (lineOf xb.data.toList) with _ | v1
          · have VN := Lib.hid (specValueGet_none (t := xb.extract 0 k) (by rw [ByteArray.size_extract]; omega) (by rw [HD0.out]; exact hv))
            have HV := Lib.hid hv
            clear hv
            go_wp2_with (go_at_call 70; refine (VN.out _).mono ?_; rintro e w2 ⟨rfl, hK2⟩)
            go_ret2
            exact ⟨(HK.out.trans (HKA.out.trans hK2)).alloc _, .inl ⟨by rw [HR.out, scells_val E0.out HC.out (by rw [← HXD.out]; exact HV.out)]; rfl, av, acc.length, cv, rfl⟩⟩
          · have VN := Lib.hid (specValueGet_some (t := xb.extract 0 k) (by rw [ByteArray.size_extract]; omega) (by rw [HD0.out]; exact hv))
            have HV := Lib.hid hv
            clear hv
            go_wp2_with (first | (go_at_call 70; refine (VN.out _).mono ?_; rintro e w2 ⟨a2, c2, rfl, hK2, hS2⟩; have HS2 := Lib.hid hS2; have HK2 := Lib.hid (HKA.out.trans hK2); clear hS2 hK2) | (at_builtin; refine wpList_append_sep _ rfl _ _ 41 rfl w.heap.size 74 i0 _ 5 72 Tryd.underlying41 hi hz0 hz1 hz2 rfl (by decide) (.slice av acc.length cv) acc.length css.flatten rfl (rowC_keep HS.out ((HK2.out.alloc _).alloc _)).own ⟨w2.heap.size + 1, 0, none⟩ 1 1 [.string nb, .int .i64 v1.kind, .int .i64 v1.num, .string v1.text, .slice a2 v1.list.length c2] rfl rfl (new_cells _ _ _ (by simp)) (by simp [Value.oneCell']) (by unfold maxLen; omega) (by omega) (by have := HK.out.size; have := HK2.out.size; simp; omega) (by omega) ?_; intro v' w5 hown' hgrow hblk; have HS5 := Lib.hid (rowC_snoc (x := ⟨nb, v1⟩) (rowC_keep HS.out ((HK2.out.alloc _).alloc _)) hown' hgrow hblk ⟨_, rfl, (show Fits nb by unfold Fits; omega), HS2.out.keep (((Keep.refl _ _).alloc _).alloc _)⟩ (fun i hi => ⟨Nat.le_trans (Nat.le_trans HS.out.top_le HKA.out.size) hi.1, by have := hi.2; simp; omega⟩)); have HK5 := Lib.hid ((((HK.out.trans HK2.out).alloc _).alloc _).grown hgrow (fun i hi hlt => by have := (HS.out.own.lt i hi).1; omega)); clear hown' hgrow hblk))
            go_roundg (gk - 1)
            case rel => exact ⟨xb.extract k xb.size, acc ++ [⟨nb, v1⟩], _, w5.heap.size, rfl, by rw [ByteArray.size_extract]; omega, by rw [List.length_append, List.length_singleton]; omega, by have := HG.out; rw [List.length_append, List.length_singleton]; omega, HS5.out, HK5.out, by
              rw [HR.out, show 6 - acc.length = (6 - (acc ++ [(⟨nb, v1⟩ : Ce)]).length) + 1 by rw [List.length_append, List.length_singleton]; omega, scells_more E0.out H10.out HC.out (by rw [← HXD.out]; exact HV.out), Option.map_map, rest_data, HNB.out, ← HXD.out, HLEN.out]
              congr 1
              funext p
              simp⟩
            case measure => have := HG.out; omega
    · have b10 : (((at_ s 0 : Nat) : Int) != 10) = true := by have := head_not q1 (n := 10) rfl h10; rw [bne, this]; rfl
      have H10 := Lib.hid h10
      clear h10
      go_wp2
      go_ret2
      exact ⟨HK.out, .inl ⟨by rw [HR.out, scells_head E0.out H10.out]; rfl, av, acc.length, cv, rfl⟩⟩
end Go.Proofs.YtjgnnobfaphkeaaDoor

/- Which messages have a form: the program's MsgOk. For every message. -/
namespace Go.Proofs.YtjgnnobfaphkeaaDoor
open Go.RowKit
set_option linter.unusedVariables false
set_option linter.unusedSimpArgs false
set_option maxRecDepth 20000 in
set_option maxHeartbeats 1000000 in
theorem msgOk_calls (m : Ms) (cs : List Value) (w : World) (hm : MR w Any m cs) : Calls Tryd.prog 39 #[.agg cs.toArray] w (Tells (okM m) w) := by
  obtain ⟨s, rfl, h1, h2, h3, h4⟩ := hm
  obtain ⟨kind, text, given, num⟩ := m
  simp only at *
  have IN := Lib.hid nameOk_calls
  have IC := Lib.hid (fun w' (h : Keep Any w w') => cellsOk_calls given s w' (Ces.keep h4 h))
  obtain ⟨ad, c, rfl, hc, hm, _⟩ := h4
  have zg : given = [] ∨ (given ≠ [] ∧ 0 < given.length) := by cases given with | nil => exact .inl rfl | cons x l => exact .inr ⟨by simp, by simp⟩
  by_cases k1 : kind = 1
  · subst k1
    rcases hq : nameOk text with _ | _
    all_goals
      have HQ := Lib.hid hq
      clear hq
      rcases zg with rfl | ⟨zg', zg⟩
      all_goals
        go_enter Tryd.func39, Tryd.ntmps39
        go_wp2_with (go_at_call 59; refine (IN.out _ _ h3).mono ?_; rintro e w2 ⟨rfl, rfl⟩; rw [HQ.out])
        all_goals
          go_ret
          exact ⟨ret_bool (by simp [okM, HQ.out, *]), (Keep.refl _ _).alloc _⟩
  · by_cases k2 : kind = 2
    · subst k2
      rcases hq : okCells given with _ | _
      all_goals
        have HQ := Lib.hid hq
        clear hq zg
        go_enter Tryd.func39, Tryd.ntmps39
        go_wp2_with (go_at_call 67; refine (IC.out _ ((Keep.refl _ _).alloc _)).mono ?_; rintro e w2 ⟨rfl, hK⟩; rw [HQ.out]; have x3 := blk_cell (blk_keep hK (blk_new _ _) trivial) 3; simp only [List.getElem?_toArray, List.getElem?_cons_succ, List.getElem?_cons_zero] at x3)
        all_goals
          go_ret
          exact ⟨ret_bool (by simp [okM, HQ.out, *] <;> (intros; omega)), by first | exact (Keep.refl _ _).alloc _ | exact ((Keep.refl _ _).alloc _).trans hK⟩
    · by_cases k3 : kind = 3 ∨ (4 ≤ kind ∧ kind ≤ 9)
      · obtain rfl | rfl | rfl | rfl | rfl | rfl | rfl : kind = 3 ∨ kind = 4 ∨ kind = 5 ∨ kind = 6 ∨ kind = 7 ∨ kind = 8 ∨ kind = 9 := by omega
        all_goals
          clear k1 k2 k3 IN IC h1
          rcases zg with rfl | ⟨zg', zg⟩
        all_goals
          go_enter Tryd.func39, Tryd.ntmps39
          go_wp2
          all_goals
            go_ret
            exact ⟨ret_bool (by simp [okM, *] <;> (intros; omega)), (Keep.refl _ _).alloc _⟩
      · have e0 : okM ⟨kind, text, given, num⟩ = false := by simp only [okM]; rw [if_neg k1, if_neg k2, if_neg (by omega), if_neg (by omega)]
        have E0 := Lib.hid e0
        have z3 : kind ≠ 3 := by omega
        have z4 : kind ≠ 4 := by omega
        have z5 : kind ≠ 5 := by omega
        have z6 : kind ≠ 6 := by omega
        have z7 : kind ≠ 7 := by omega
        have z8 : kind ≠ 8 := by omega
        have z9 : kind ≠ 9 := by omega
        clear e0 k3 IN IC
        go_enter Tryd.func39, Tryd.ntmps39
        go_wp2
        go_ret
        exact ⟨ret_bool (by rw [E0.out]), (Keep.refl _ _).alloc _⟩
end Go.Proofs.YtjgnnobfaphkeaaDoor

/- strings.Builder's WriteString over this dump (the shelf's own contract could not be laid): a builder of one's own gains the text. Under Go's own limit of length. -/
namespace Go.Proofs.YtjgnnobfaphkeaaDoor
open Go.RowKit
set_option linter.unusedVariables false
set_option linter.unusedSimpArgs false
abbrev tB : TypeId := 65
theorem sizeBuilder : (Tryd.prog.info? 65).map (·.size) = some 2 := by kernel_rfl
theorem liesBuilder : liesAt Tryd.prog Tryd.prog.depth 65 (2 / Tryd.prog.cellsOf 65) 0 65 1 = true := by kernel_rfl
theorem infoByte : (Tryd.prog.info? 5).map (fun i => (i.zero, i.size, i.bytes)) = some (some (.int .u8 0), 1, 1) := by kernel_rfl
set_option maxHeartbeats 1000000 in
set_option maxRecDepth 100000 in
theorem copyCheck_used (b : Nat) (w : World) (h0 : w.cell? ⟨b, 0, none⟩ = some (.pointer (some ⟨b, 0, none⟩))) :
    Calls Tryd.prog 68 #[.pointer (some ⟨b, 0, none⟩)] w fun e w' => e = .returned (.tuple #[]) ∧ w' = w := by
  obtain ⟨j, hj, _⟩ := Option.map_eq_some_iff.1 sizeBuilder
  go_enter Tryd.func68, Tryd.ntmps68
  go_wp2
  rw [Lib.run_neq_ptr_same w _ Tryd.underlying62 hj]
  go_wp2
  go_end0
  exact ⟨rfl, rfl⟩
set_option maxHeartbeats 1000000 in
set_option maxRecDepth 100000 in
theorem copyCheck_fresh (b : Nat) (w : World) (h0 : w.cell? ⟨b, 0, none⟩ = some (.pointer none)) (hsh : w.shape? b = some (65, 2)) (hfz : w.frozen? ⟨b, 0, none⟩ = false) :
    Calls Tryd.prog 68 #[.pointer (some ⟨b, 0, none⟩)] w fun e w' => e = .returned (.tuple #[]) ∧ w' = w.setCell ⟨b, 0, none⟩ (.pointer (some ⟨b, 0, none⟩)) := by
  obtain ⟨j, hj, hjs⟩ := Option.map_eq_some_iff.1 sizeBuilder
  go_enter Tryd.func68, Tryd.ntmps68
  go_wp2
  rw [Lib.run_to_unsafe w ⟨b, 0, none⟩ Tryd.underlying62 Tryd.underlying113 hj (by rw [hjs]; decide) hsh (Nat.zero_lt_succ 1)]
  simp only [Result.andThen]
  rw [Oper.upon_value]
  go_wp2
  rw [run_callFunc_extern Tryd.func86 (by kernel_rfl) (by kernel_rfl) (by kernel_rfl) (e := Extern.AbiNoEscape.same) (by kernel_rfl)]
  rw [Lib.run_noEscape]
  simp only [Result.andThen]
  rw [Oper.upon_value]
  go_wp2
  rw [Lib.run_from_unsafe w ⟨b, 0, none⟩ Tryd.underlying113 Tryd.underlying62 hj hsh liesBuilder]
  simp only [Result.andThen]
  rw [Oper.upon_value]
  go_wp2
  go_end0
  exact ⟨rfl, rfl⟩
abbrev IsB (b : Nat) (l : List UInt8) (w : World) : Prop := Lib.IsBuilder 65 5 b b (Lib.byteCells l) w
theorem copyCheck_calls (B b : Nat) (bs : List Value) (w : World) (h : Lib.IsBuilder 65 5 B b bs w) :
    Calls Tryd.prog 68 #[.pointer (some ⟨b, 0, none⟩)] w fun e w' => e = .returned (.tuple #[]) ∧ (Lib.BuilderAt 65 5 B b (.pointer (some ⟨b, 0, none⟩)) bs w' ∧ Below B w w') := by
  rcases h with h | h
  · refine (copyCheck_fresh b w h.cell0 h.shape h.frozen0).mono ?_
    rintro e w' ⟨rfl, rfl⟩
    exact ⟨rfl, h.used _, (Below.refl B w).setCell (p := ⟨b, 0, none⟩) h.1 _⟩
  · refine (copyCheck_used b w h.cell0).mono ?_
    rintro e w' ⟨rfl, rfl⟩
    exact ⟨rfl, h, Below.refl B _⟩
set_option maxHeartbeats 2000000 in
set_option maxRecDepth 100000 in
theorem writeString_calls (B b : Nat) (bs : List Value) (s : ByteArray) (w : World) (h : Lib.IsBuilder 65 5 B b bs w) (hlen : bs.length + s.size ≤ 140737488355328) (hBw : B ≤ w.heap.size) :
    Calls Tryd.prog 40 #[.pointer (some ⟨b, 0, none⟩), .string s] w fun e w' => e = .returned (.tuple #[.int .i64 s.size, .nilIface]) ∧ (Lib.BuilderAt 65 5 B b (.pointer (some ⟨b, 0, none⟩)) (bs ++ Lib.strCells s) w' ∧ Below B w w') := by
  obtain ⟨i0, hi, hzz⟩ := Option.map_eq_some_iff.1 infoByte
  simp only [Prod.mk.injEq] at hzz
  obtain ⟨hz0, hz1, hz2⟩ := hzz
  go_enter Tryd.func40, Tryd.ntmps40
  go_wp2_with (go_at_call 68; refine (copyCheck_calls B b bs _ h).mono ?_)
  rintro e w1 ⟨rfl, h1, hb1⟩
  obtain ⟨hB, v, hbk, hown, hne⟩ := h1
  have c0 : w1.cell? ⟨b, 0, none⟩ = some (.pointer (some ⟨b, 0, none⟩)) := by rw [Lib.cell_of_heap hbk]; rfl
  have c1 : w1.cell? ⟨b, 1, none⟩ = some v := by rw [Lib.cell_of_heap hbk]; rfl
  go_wp2_with (at_builtin; refine Lib.wpList_append_own_string _ rfl _ _ 63 9 rfl B 5 i0 Tryd.underlying63 Tryd.underlying9 hi hz0 hz1 hz2 _ _ _ rfl hown s rfl ?c3 ?c4 ?c5 ?_)
  case c3 => unfold maxLen; omega
  case c4 => omega
  case c5 => have := hb1.size; omega
  intro v' w2 hown' hgrow _
  have hlt : b < w1.heap.size := by
    rcases Nat.lt_or_ge b w1.heap.size with h' | h'
    · exact h'
    · simp [Array.getElem?_eq_none h'] at hbk
  have hb2 : w2.heap[b]? = some (.cells #[.pointer (some ⟨b, 0, none⟩), v] 65 (0, 0)) := by
    rw [hgrow.block b hlt (fun e => hne e.symm)]
    exact hbk
  have d0 : w2.cell? ⟨b, 0, none⟩ = some (.pointer (some ⟨b, 0, none⟩)) := by rw [Lib.cell_of_heap hb2]; rfl
  have d1 : w2.cell? ⟨b, 1, none⟩ = some v := by rw [Lib.cell_of_heap hb2]; rfl
  have f1 : w2.frozen? ⟨b, 1, none⟩ = false := Lib.frozen_of_heap hb2 1
  obtain ⟨ao, n', cap, rfl⟩ : ∃ ao n' cap, v' = .slice ao n' cap := by
    rcases hown'.2 with ⟨hv, _⟩ | ⟨g, cap, cur, hv, _⟩
    · exact ⟨_, _, _, hv⟩
    · exact ⟨_, _, _, hv⟩
  go_wp2
  go_ret2
  refine ⟨rfl, ?_, ?_⟩
  · exact Lib.BuilderAt.put (T := 65) (e := 5) hB hb2 (bs' := bs ++ Lib.strCells s) (by simpa [Lib.strCells_length] using hown') (by decide)
  · exact (hb1.grown hgrow (by have := hb1.size; omega) (fun k hk => (hown.lt k hk).1)).setCell (p := ⟨b, 1, none⟩) hB _
theorem IsB.keep {b : Nat} {l : List UInt8} {w w' : World} (h : IsB b l w) (k : Keep Any w w') : IsB b l w' := by
  have key : ∀ p, Lib.BuilderAt 65 5 b b p (Lib.byteCells l) w → Lib.BuilderAt 65 5 b b p (Lib.byteCells l) w' := by
    rintro p ⟨hB, v, hb, hown, hne⟩
    exact ⟨hB, v, blk_keep k hb trivial, hown.kept (row := none) (k.grownBy0 none) (by cases hv : v.ownBlock with | none => exact .inl rfl | some g => exact .inr (by simp)), hne⟩
  rcases h with h | h
  · exact .inl (key _ h)
  · exact .inr (key _ h)
theorem IsB.made (w : World) : IsB w.heap.size [] (w.alloc (.cells #[.pointer none, .slice none 0 0] 65 (0, 0))) :=
  .inl ⟨Nat.le_refl _, _, blk_new _ _, ⟨by simp, .inl ⟨rfl, rfl⟩⟩, by simp [Value.ownBlock]⟩
theorem IsB.lt {b : Nat} {l : List UInt8} {w : World} (h : IsB b l w) : b < w.heap.size := by
  rcases h with h | h
  · exact h.lt
  · exact h.lt
theorem write_calls (b : Nat) (l : List UInt8) (s : ByteArray) (w : World) (h : IsB b l w) (hlen : l.length + s.size ≤ 140737488355328) :
    Calls Tryd.prog 40 #[.pointer (some ⟨b, 0, none⟩), .string s] w fun e w' => e = .returned (.tuple #[.int .i64 s.size, .nilIface]) ∧ IsB b (l ++ s.data.toList) w' ∧ Keep (fun k => k < b) w w' := by
  refine (writeString_calls b b _ s w h (by simpa [Lib.byteCells_length] using hlen) (by have := h.lt; omega)).mono ?_
  rintro e w' ⟨rfl, h1, hb⟩
  refine ⟨rfl, .inr ?_, ⟨hb.os, hb.tape, hb.output, hb.size, fun k _ hk => hb.block k hk⟩⟩
  have e1 : Lib.byteCells (l ++ s.data.toList) = Lib.byteCells l ++ Lib.strCells s := by simp [Lib.byteCells, Lib.strCells]
  rw [e1]
  exact h1
end Go.Proofs.YtjgnnobfaphkeaaDoor

/- The text of what is said: what the program's MsgPut writes. For every message. -/
namespace Go.Proofs.YtjgnnobfaphkeaaDoor
open Go.RowKit
set_option linter.unusedVariables false
set_option linter.unusedSimpArgs false
def nums3 (m : Ms) (k : Nat) : List UInt8 := if k = 0 then [] else if k = 1 then numTxt m.kind else if k = 2 then numTxt m.kind ++ numTxt m.num else headTxt m
theorem isb_string (b : Nat) (l : List UInt8) (w : World) (h : IsB b l w) : Calls Tryd.prog 42 #[.pointer (some ⟨b, 0, none⟩)] w fun e w' => e = .returned (.string ⟨l.toArray⟩) ∧ Keep (fun k => k < b) w w' :=
  (Tryd.Builder_String_any b b l w h (by have := h.lt; omega)).mono fun e w' ⟨he, hb⟩ => ⟨he, ⟨hb.os, hb.tape, hb.output, hb.size, fun k _ hk => hb.block k hk⟩⟩
theorem num_app (l : List UInt8) : ((⟨l.toArray⟩ : ByteArray) ++ ⟨#[32]⟩).data.toList = l ++ [32] := by simp [ByteArray.data_append]
theorem ce_app (n : ByteArray) (l : List UInt8) : ((⟨#[10]⟩ : ByteArray) ++ n ++ ⟨#[61]⟩ ++ ⟨l.toArray⟩).data.toList = 10 :: (n.data.toList ++ 61 :: l) := by simp [ByteArray.data_append]
theorem ce_size (n : ByteArray) (l : List UInt8) : ((⟨#[10]⟩ : ByteArray) ++ n ++ ⟨#[61]⟩ ++ ⟨l.toArray⟩).size = n.size + l.length + 2 := by
  rw [Lib.size_eq, ce_app, Lib.size_eq]; simp; omega
theorem num_size (l : List UInt8) : ((⟨l.toArray⟩ : ByteArray) ++ ⟨#[32]⟩).size = l.length + 1 := by rw [Lib.size_eq, num_app]; simp
theorem nums3_len (m : Ms) : (nums3 m 0).length = 0 ∧ (nums3 m 1).length = (Lib.itoa m.kind).length + 1 ∧ (nums3 m 2).length = (Lib.itoa m.kind).length + 1 + (Lib.itoa m.num).length + 1 := by
  refine ⟨rfl, by simp [nums3, numTxt], by simp [nums3, numTxt]; omega⟩
theorem idx3 (a b c : Value) (k : Nat) (hk : k < 3) (w : World) : (Instr.index 66 (.agg #[a, b, c]) (.int .i64 k)).run Tryd.prog w = .ok (if k = 0 then a else if k = 1 then b else c) w := by
  have u := run_underlying (w := w) Tryd.underlying66
  obtain rfl | rfl | rfl : k = 0 ∨ k = 1 ∨ k = 2 := by omega
  all_goals simp [Instr.index, go_sem, u]
set_option maxRecDepth 20000 in
set_option maxHeartbeats 2000000 in
theorem implMsgPut_calls (m : Ms) (cs : List Value) (w : World) (hm : MR w Any m cs) (ht : Tab w) : Calls Tryd.prog 17 #[.agg cs.toArray] w (Str (msgTxt m) w) := by
  have F := Lib.hid fun w' (hk : Keep Any w w') => msgOk_calls m cs w' (hm.keep hk)
  have HT := Lib.hid ht
  have W := Lib.hid write_calls
  have ST := Lib.hid isb_string
  clear ht
  obtain ⟨s, rfl, h1, h2, h3, h4⟩ := hm
  rcases hf : okM m with _ | _
  · have HF := Lib.hid hf
    clear hf h4
    rw [msgTxt, HF.out]
    go_enter Tryd.func17, Tryd.ntmps17
    go_wp2_with (go_at_call 39; refine (F.out _ ((Keep.refl _ _).alloc _)).mono ?_; rintro e w2 ⟨he, hK⟩; rw [HF.out] at he; subst he)
    go_ret
    exact ⟨rfl, ((Keep.refl _ _).alloc _).trans hK⟩
  · obtain ⟨g1, g2, g3, g4, g5, g6, g7⟩ := okM_facts hf
    have HF := Lib.hid hf
    have G7 := Lib.hid g7
    have H4 := Lib.hid h4
    have l0 := itoa_len2 m.kind (by omega) (by omega)
    have l1 := itoa_len2 m.num (by omega) (by omega)
    have l2 := itoa_len2 m.text.size (by omega) (by omega)
    have IT := Lib.hid itoa_calls
    have hh := headTxt_len hf
    have SL := Lib.hid (fun k => sayUpto_len (k := k) hf)
    obtain ⟨ad, c, rfl, hc, hm, _⟩ := h4
    rw [msgTxt, HF.out]
    clear hf g7
    go_enter Tryd.func17, Tryd.ntmps17
    go_wp2_with (go_at_call 39; refine (F.out _ ((Keep.refl _ _).alloc _)).mono ?_; rintro e w2 ⟨he, hK⟩; rw [HF.out] at he; subst he; have HB := Lib.hid (blk_keep hK (blk_new _ _) trivial); have x0 := blk_cell HB.out 0; have x1 := blk_cell HB.out 1; have x3 := blk_cell HB.out 3; simp only [List.getElem?_toArray, List.getElem?_cons_succ, List.getElem?_cons_zero] at x0 x1 x3; have K2 := Lib.hid (((Keep.refl Any w).alloc _).trans hK); clear hK; have zb : w.heap.size < w2.heap.size := blk_lt HB.out)
    go_loopg [19] 4 (fun g i wr => ∃ k : Nat, k ≤ 3 ∧ i = .int .i64 k ∧ g = 4 - k ∧ IsB w2.heap.size (nums3 m k) wr ∧ Keep Any w2 wr)
    case atStart => exact ⟨0, by omega, rfl, rfl, IsB.made _, (Keep.refl _ _).alloc _⟩
    case round =>
      obtain ⟨k, hk, rfl, hg, hB, hK⟩ := hrel
      have HG := Lib.hid hg
      have HI := Lib.hid hB
      clear hg hB
      obtain rfl | rfl | rfl | rfl : k = 0 ∨ k = 1 ∨ k = 2 ∨ k = 3 := by omega
      · have ix : (Instr.index 66 (.agg #[.int .i64 m.kind, .int .i64 m.num, .int .i64 m.text.size]) (.int .i64 0)).run Tryd.prog wr = .ok (.int .i64 m.kind) wr := idx3 _ _ _ 0 (by omega) wr
        go_wp2_with (first | (go_at_call 24; refine (IT.out _ _ (by omega) (by omega) ((HT.out.keep K2.out trivial).keep hK trivial)).mono ?_; rintro e w3 ⟨rfl, hK3⟩) | (go_at_call 40; refine (W.out _ _ _ _ (HI.out.keep hK3) (by rw [num_size]; have := nums3_len m; omega)).mono ?_; rintro e w4 ⟨rfl, hB4, hK4⟩; have HB4 := Lib.hid hB4; clear hB4))
        go_roundg (gk - 1)
        case rel => exact ⟨1, by omega, rfl, by have := HG.out; omega, by have := HB4.out; rw [num_app] at this; exact this, (hK.trans hK3).then hK4 (fun i hi _ => hi)⟩
        case measure => have := HG.out; omega
      · have ix : (Instr.index 66 (.agg #[.int .i64 m.kind, .int .i64 m.num, .int .i64 m.text.size]) (.int .i64 1)).run Tryd.prog wr = .ok (.int .i64 m.num) wr := idx3 _ _ _ 1 (by omega) wr
        go_wp2_with (first | (go_at_call 24; refine (IT.out _ _ (by omega) (by omega) ((HT.out.keep K2.out trivial).keep hK trivial)).mono ?_; rintro e w3 ⟨rfl, hK3⟩) | (go_at_call 40; refine (W.out _ _ _ _ (HI.out.keep hK3) (by rw [num_size]; have := nums3_len m; omega)).mono ?_; rintro e w4 ⟨rfl, hB4, hK4⟩; have HB4 := Lib.hid hB4; clear hB4))
        go_roundg (gk - 1)
        case rel => exact ⟨2, by omega, rfl, by have := HG.out; omega, by have := HB4.out; rw [num_app] at this; exact this, (hK.trans hK3).then hK4 (fun i hi _ => hi)⟩
        case measure => have := HG.out; omega
      · have ix : (Instr.index 66 (.agg #[.int .i64 m.kind, .int .i64 m.num, .int .i64 m.text.size]) (.int .i64 2)).run Tryd.prog wr = .ok (.int .i64 m.text.size) wr := idx3 _ _ _ 2 (by omega) wr
        go_wp2_with (first | (go_at_call 24; refine (IT.out _ _ (by omega) (by omega) ((HT.out.keep K2.out trivial).keep hK trivial)).mono ?_; rintro e w3 ⟨rfl, hK3⟩) | (go_at_call 40; refine (W.out _ _ _ _ (HI.out.keep hK3) (by rw [num_size]; have := nums3_len m; omega)).mono ?_; rintro e w4 ⟨rfl, hB4, hK4⟩; have HB4 := Lib.hid hB4; clear hB4))
        go_roundg (gk - 1)
        case rel => exact ⟨3, by omega, rfl, by have := HG.out; omega, by have := HB4.out; rw [num_app] at this; have e2 : nums3 m 3 = nums3 m 2 ++ (Lib.itoa m.text.size ++ [32]) := (by simp [nums3, headTxt, numTxt]); rw [e2]; exact this, (hK.trans hK3).then hK4 (fun i hi _ => hi)⟩
        case measure => have := HG.out; omega
      · have HBr := Lib.hid (blk_keep hK HB.out trivial)
        have y1 := blk_cell HBr.out 1
        simp only [List.getElem?_toArray, List.getElem?_cons_succ, List.getElem?_cons_zero] at y1
        clear x0 x1 x3
        have e3 : nums3 m 3 ++ m.text.data.toList = sayUpto m 0 := by simp [nums3, sayUpto, givenTxt]
        have E3 := Lib.hid e3
        clear e3
        go_wp2_with (go_at_call 40; refine (W.out _ _ _ _ HI.out (by have e : nums3 m 3 = headTxt m := rfl; rw [e]; omega)).mono ?_; rintro e w4 ⟨rfl, hB4, hK4⟩; rw [E3.out] at hB4; have HB4 := Lib.hid hB4; clear hB4; have K4 := Lib.hid (hK.then hK4 (fun i hi _ => hi)); have z2 := blk_cell (blk_keep K4.out HB.out trivial) 2; simp only [List.getElem?_toArray, List.getElem?_cons_succ, List.getElem?_cons_zero] at z2)
        go_loopg [33] (m.given.length + 1) (fun g i wr => ∃ k : Nat, k ≤ m.given.length ∧ i = .int .i64 k ∧ g = m.given.length + 1 - k ∧ IsB w2.heap.size (sayUpto m k) wr ∧ Keep Any w2 wr)
        case atStart => exact ⟨0, by omega, rfl, rfl, HB4.out, K4.out⟩
        case round =>
          clear hK4 HBr y1 z2 hK HI HB4 K4 HG
          obtain ⟨k, hk, rfl, hg, hB, hK⟩ := hrel
          have HG := Lib.hid hg
          have HI := Lib.hid hB
          clear hg hB
          by_cases hlt : k < m.given.length
          · have hx : m.given[k]? = some m.given[k] := List.getElem?_eq_getElem hlt
            have HX := Lib.hid hx
            obtain ⟨ad, sa, sc, rfl, hN, hvx, c0, c1, c2, c3, c4⟩ := ces_at H4.out (K2.out.trans hK) hx
            obtain ⟨gn, gv⟩ := G7.out _ (List.mem_of_getElem? hx)
            have nl := name_size gn
            have pl := put_len3 gv (by omega)
            have GV := Lib.hid gv
            have sl := SL.out k
            have hs1 := sayUpto_succ hx
            have HS1 := Lib.hid hs1
            generalize m.given[k] = x at *
            have HV := Lib.hid hvx
            have HK := Lib.hid hK
            clear hx hvx gn gv hs1
            have wsz := hK.size
            clear hK
            go_wp2_with (fail)
            go_region_with (first | (go_at_call 41; refine (putOf_calls _ _ _ (HV.out.keep (((Keep.refl _ _).alloc _).drew)) GV.out ((((HT.out.keep K2.out trivial).keep HK.out trivial).keep (((Keep.refl Any _).alloc _).drew) trivial))).mono ?_; rintro e w5 ⟨rfl, hK5⟩; have HK5 := Lib.hid (((Keep.refl Any _).alloc _).drew.trans hK5); have v0 := blk_cell (blk_keep hK5 (blk_new _ _) trivial) 0; simp only [List.getElem?_toArray, List.getElem?_cons_succ, List.getElem?_cons_zero] at v0; clear hK5) | (go_at_call 40; refine (W.out _ _ _ _ (HI.out.keep HK5.out) (by rw [ce_size]; omega)).mono ?_; rintro e w6 ⟨rfl, hB6, hK6⟩; have HB6 := Lib.hid hB6; clear hB6))
            all_goals
              go_wp2
              go_roundg (gk - 1)
              case rel => exact ⟨k + 1, by omega, by go_num, by have := HG.out; omega, by have := HB6.out; rw [ce_app] at this; rw [HS1.out]; exact this, (HK.out.trans HK5.out).then hK6 (fun i hi _ => hi)⟩
              case measure => have := HG.out; omega
          · obtain rfl : k = m.given.length := by omega
            go_wp2_with (go_at_call 42; refine (ST.out _ _ _ HI.out).mono ?_; rintro e w5 ⟨rfl, hK5⟩)
            go_ret
            exact ⟨rfl, (K2.out.trans hK).then hK5 (fun i hi _ => by omega)⟩
end Go.Proofs.YtjgnnobfaphkeaaDoor

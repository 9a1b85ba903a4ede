/- The reference's reading of a value: l1Read, ValueGet. For every text of at most 2^61 bytes. The reference's ValueGet: the value whose text it is. For every text of at most 2^61 bytes. The reference's l9Cells: the cells that a text tells. For every text of at most 2^60 bytes. -/
import Derived.Test.YtjopkcjpedgoaaaGreatDoorMG19
import Derived.Test.YtjopkcjpedgoaaaGreatDoorMG2
import Derived.Test.YtjopkcjpedgoaaaGreatDoorMG8
import Derived.Test.YtjopkcjpedgoaaaGreatDoorMGLawMsg4
import Derived.Test.YtjopkcjpedgoaaaGreatDoorMGAt
import Derived.Test.YtjopkcjpedgoaaaGreatDoorMGLawMsg7
/- The reference's reading of a value: l1Read,ValueGet. For every text of at most 2^61 bytes. -/
namespace Go.Proofs.YtjopkcjpedgoaaaGreatDoor
open Go.RowKit
set_option linter.unusedVariables false
set_option linter.unusedSimpArgs false
set_option maxRecDepth 20000
set_option maxHeartbeats 4000000
theorem cutTail_hit {s : ByteArray} {c : UInt8} {k : Nat} (h1 : 1 ≤ k) (hk : k < s.size) (h0 : at_ s k = c.toNat) (h : ∀ j,1 ≤ j → j < k → at_ s j ≠ c.toNat) : cutAt c (s.data.toList.drop 1) = some ((s.data.toList.drop 1).take (k - 1),s.data.toList.drop (k + 1)) := by
  have hz : (s.extract 1 s.size).size = s.size - 1 := by rw [ByteArray.size_extract];omega
  have := cutAt_hit (s := s.extract 1 s.size) (c := c) (k := k - 1) (by omega) (by rw [at_tail (by omega),show k - 1 + 1 = k by omega];exact h0) (fun j hj => by rw [at_tail (by omega)];exact h (j + 1) (by omega) (by omega))
  rw [tail_data,List.drop_drop,show 1 + (k - 1 + 1) = k + 1 by omega] at this
  exact this
theorem cutTail_miss {s : ByteArray} {c : UInt8} (h : ∀ j,1 ≤ j → j < s.size → at_ s j ≠ c.toNat) : cutAt c (s.data.toList.drop 1) = none := by
  rw [← tail_data]
  exact cutAt_miss fun j hj => by rw [ByteArray.size_extract] at hj;rw [at_tail (by omega)];exact h (j + 1) (by omega) (by omega)
theorem mid_eq (s : ByteArray) (k : Nat) (h : 1 ≤ k) : s.extract 1 k = ⟨((s.data.toList.drop 1).take (k - 1)).toArray⟩ := by
  apply ByteArray.ext;apply Array.ext'
  rw [Lib.extract_data]
theorem plainAt_le : ∀ l : List UInt8,plainAt l ≤ l.length
  | [] => Nat.le_refl _
  | b :: l => by
    have := plainAt_le l
    rw [plainAt]
    split
    · simp
    · simp only [List.length_cons];omega
theorem l1Read_of (d : Nat) (hd4 : d ≤ 4) (ih : RdS d) : RdS (d + 1) := by
  intro s w hs
  obtain ⟨o,ho⟩ : ∃ o,o = sV (d + 1) s.data.toList := ⟨_,rfl⟩
  rw [← ho]
  by_cases h0 : s.size = 0
  · have hd := empty_true s h0
    have e0 : s.data.toList = [] := List.eq_nil_of_length_eq_zero (by rw [← Lib.size_eq];exact h0)
    rw [sV,if_pos e0] at ho
    have HO := hyd ho
    clear ho e0 h0
    go_enter Tryz.func77,Tryz.ntmps77
    go_wp2
    refine bodyPost_ret (v := .tuple #[.agg #[.int .i64 0,.int .i64 0,.string ⟨#[]⟩,.slice none 0 0],.int .i64 0]) (by simp [results,Tryz.results77,go_sem]) rfl ?_
    exact ⟨⟨0,0,⟨#[]⟩,[]⟩,none,0,0,rfl,(Keep.refl _ _).alloc _,SV_flat _ _ _ _ _ (show I64 0 from ⟨by decide,by decide⟩) (show I64 0 from ⟨by decide,by decide⟩) fits_nil,.inl ⟨HO.out,rfl⟩⟩
  have hd := empty_false s h0
  have q1 : 0 < s.size := by omega
  have e1 := at_eq s 0 q1
  have e0 : ¬ s.data.toList = [] := fun h => h0 (by rw [Lib.size_eq,h];rfl)
  rw [sV,if_neg e0] at ho
  clear e0
  by_cases c4 : s.data.toList.headD 0 = 39
  · rw [if_pos c4] at ho
    have b4 := head_yes q1 (n := 39) rfl c4
    have HO := hyd ho
    clear ho c4
    go_enter Tryz.func77,Tryz.ntmps77
    go_wp2
    go_loop [6] (fun i => ∃ k : Nat,1 ≤ k ∧ k ≤ s.size ∧ i = .int .i64 k ∧ ∀ j,1 ≤ j → j < k → at_ s j ≠ (39 : UInt8).toNat) (fun i => s.size - (intOf i).toNat)
    case atStart => exact ⟨1,by omega,by omega,rfl,fun j hj => by omega⟩
    case round =>
      obtain ⟨k,hk1,hk,rfl,hg⟩ := hrel
      have HG := hyd hg
      clear hg
      by_cases hlt : k < s.size
      · have e2 := at_eq s k hlt
        by_cases hc : at_ s k = 39
        · have q2 : (((at_ s k : Nat) : Int) == 39) = true := by rw [hc];rfl
          have HC := hyd (cutTail_hit (c := 39) hk1 hlt hc HG.out)
          have HM := hyd (mid_eq s k hk1)
          clear hc
          go_wp2
          refine bodyPost_ret (v := .tuple #[.agg #[.int .i64 3,.int .i64 0,.string (s.extract 1 k),.slice none 0 0],.int .i64 ((k : Int) + 1)]) (by simp [results,Tryz.results77,go_sem]) rfl ?_
          exact ⟨⟨3,0,s.extract 1 k,[]⟩,none,0,k + 1,rfl,(Keep.refl _ _).alloc _,SV_flat _ _ _ _ _ (show I64 3 from ⟨by decide,by decide⟩) (show I64 0 from ⟨by decide,by decide⟩) (by unfold Fits;rw [ByteArray.size_extract];omega),.inr ⟨by omega,by omega,by rw [HO.out,HC.out,HM.out];rfl⟩⟩
        · have q2 : (((at_ s k : Nat) : Int) == 39) = false := by rw [beq_eq_false_iff_ne];omega
          have HC := hyd hc
          clear hc
          go_wp2
          go_round
          case rel => exact ⟨k + 1,by omega,by omega,by go_num,fun j h1 hj => by rcases Nat.lt_succ_iff_lt_or_eq.1 hj with hj | rfl;exact HG.out j h1 hj;exact HC.out⟩
          case measure => simp [intOf];omega
      · have HC := hyd (cutTail_miss (s := s) (c := 39) fun j h1 hj => HG.out j h1 (by omega))
        go_wp2
        refine bodyPost_ret (v := .tuple #[.agg #[.int .i64 0,.int .i64 0,.string ⟨#[]⟩,.slice none 0 0],.int .i64 0]) (by simp [results,Tryz.results77,go_sem]) rfl ?_
        exact ⟨⟨0,0,⟨#[]⟩,[]⟩,none,0,0,rfl,(Keep.refl _ _).alloc _,SV_flat _ _ _ _ _ (show I64 0 from ⟨by decide,by decide⟩) (show I64 0 from ⟨by decide,by decide⟩) fits_nil,.inl ⟨by rw [HO.out,HC.out];rfl,rfl⟩⟩
  rw [if_neg c4] at ho
  have b4 := head_not q1 (n := 39) rfl c4
  clear c4
  by_cases c5 : s.data.toList.headD 0 = 91
  · rw [if_pos c5] at ho
    have b5 := head_yes q1 (n := 91) rfl c5
    have LL := hyd (fun w => l1List_of d hd4 ih s w (by omega) hs)
    have HO := hyd ho
    clear ho c5
    go_enter Tryz.func77,Tryz.ntmps77
    go_wp2_with (go_at_call 98;refine (LL.out _).mono ?_;rintro e w2 ⟨v2,a2,c2,z2,rfl,hK,hS2,hz2⟩;have HS2 := hyd hS2;have HZ2 := hyd hz2;clear hS2 hz2;obtain ⟨hc,hf⟩ := hK.cells;have z0 : w.heap.size < w2.heap.size := (by have := hK.size;simp at this;omega))
    refine bodyPost_ret (v := .tuple #[.agg #[.int .i64 v2.kind,.int .i64 v2.num,.string v2.text,(.slice a2 v2.list.length c2)],.int .i64 z2]) (by simp [results,Tryz.results77,go_sem,hc,hf,z0]) rfl ?_
    refine ⟨v2,a2,c2,z2,rfl,(by have hK1 := keep_a hK;repeat (first | (with_reducible exact hK1) | (refine Keep.set ?_ _ _ (fun h _ => Nat.lt_irrefl _ h)))),?_,by rw [HO.out];exact HZ2.out⟩
    refine SV.mono (SV.keep HS2.out (w' := _) ?_) fun k hk => ⟨by have h1 := hk.1;rw [World.size_alloc] at h1;omega,by simpa using hk.2⟩
    repeat (first | (with_reducible exact Keep.refl _ _) | (refine Keep.set ?_ _ _ (fun _ h => by have h1 := h.1;rw [World.size_alloc] at h1;exact Nat.not_succ_le_self _ h1)))
  rw [if_neg c5] at ho
  have b5 := head_not q1 (n := 91) rfl c5
  clear c5
  obtain ⟨n,hn⟩ : ∃ n,n = plainAt s.data.toList := ⟨_,rfl⟩
  have PL := hyd (fun w => l1Plain_calls s w hs)
  rw [← hn] at ho
  have hns : n ≤ s.size := by rw [hn,Lib.size_eq];exact plainAt_le _
  have HN := hyd hn
  clear hn
  have AT := hyd (fun w => l1Atom_calls (s.extract 0 n) w (by rw [ByteArray.size_extract];omega))
  have HT := hyd (show (s.extract 0 n).data.toList = s.data.toList.take n by rw [take_eq])
  have HO := hyd ho
  clear ho
  go_enter Tryz.func77,Tryz.ntmps77
  go_wp2_with (first | (go_at_call 99;refine (PL.out _).mono ?_;rintro e w' ⟨rfl,rfl⟩;rw [← HN.out]) | (go_at_call 100;refine (AT.out _).mono ?_;rintro e w2 ⟨kk,nn,hv,hi1,hi2,rfl,hK⟩;have HV := hyd hv;obtain ⟨hc,hf⟩ := hK.cells;have z0 : w.heap.size < w2.heap.size := (by have := hK.size;simp at this;omega);have HI1 := hyd hi1;have HI2 := hyd hi2;clear hv hi1 hi2))
  refine bodyPost_ret (v := .tuple #[.agg #[.int .i64 kk,.int .i64 nn,.string ⟨#[]⟩,.slice none 0 0],.int .i64 n]) (by simp [results,Tryz.results77,go_sem,hc,hf,z0]) rfl ?_
  refine ⟨⟨kk,nn,⟨#[]⟩,[]⟩,none,0,n,rfl,(by have hK1 := keep_a hK;repeat (first | (with_reducible exact hK1) | (refine Keep.set ?_ _ _ (fun h _ => Nat.lt_irrefl _ h)) | (refine Keep.alloc ?_ _))),SV_flat _ _ _ _ _ HI1.out HI2.out fits_nil,?_⟩
  have hh := HO.out
  by_cases hn0 : n = 0
  · rw [if_pos hn0] at hh;exact .inl ⟨hh,hn0⟩
  · rw [if_neg hn0] at hh;exact .inr ⟨by omega,hns,by rw [hh,← HT.out,HV.out]⟩
theorem rdS_zero : RdS 0 := by
  intro s w hs
  go_enter Tryz.func77,Tryz.ntmps77
  go_wp2
  refine bodyPost_ret (v := .tuple #[.agg #[.int .i64 0,.int .i64 0,.string ⟨#[]⟩,.slice none 0 0],.int .i64 0]) (by simp [results,Tryz.results77,go_sem]) rfl ?_
  exact ⟨⟨0,0,⟨#[]⟩,[]⟩,none,0,0,rfl,(Keep.refl _ _).alloc _,SV_flat _ _ _ _ _ (show I64 0 from ⟨by decide,by decide⟩) (show I64 0 from ⟨by decide,by decide⟩) fits_nil,.inl ⟨rfl,rfl⟩⟩
theorem rdS_all (d : Nat) : d ≤ 5 → RdS d := by
  induction d with
  | zero => intro _;exact rdS_zero
  | succ d ih => intro h;exact l1Read_of d (by omega) (ih (by omega))
theorem read3 : RdS 3 := rdS_all 3 (by omega)

/- The reference's ValueGet: the value whose text it is. For every text of at most 2^61 bytes. -/
set_option maxRecDepth 20000
set_option maxHeartbeats 2000000
theorem svalGet_none1 {l : List UInt8} (h : sV 3 l = none) : svalGet l = none := by unfold svalGet;rw [h]
theorem svalGet_none2 {l r : List UInt8} {v : V} (h : sV 3 l = some (v,r)) (hr : r ≠ []) : svalGet l = none := by
  unfold svalGet;rw [h]
  cases r with
  | nil => exact absurd rfl hr
  | cons b r => rfl
theorem svalGet_some1 {l : List UInt8} {v : V} (h : sV 3 l = some (v,[])) : svalGet l = if okV 3 v = true ∧ v.put = l then some v else none := by unfold svalGet;rw [h]
theorem specValueGet_calls (t : ByteArray) (w : World) (ht : t.size ≤ 2305843009213693952) : Calls Tryz.prog 60 #[.string t] w (GotVG (svalGet t.data.toList) w) := by
  obtain ⟨o,ho⟩ : ∃ o,o = svalGet t.data.toList := ⟨_,rfl⟩
  rw [← ho]
  rcases hr : sV 3 t.data.toList with _ | ⟨v1,r1⟩
  · rw [svalGet_none1 hr] at ho
    have HO := hyd ho
    have RN := hyd (read3.none' (s := t) ht hr)
    clear ho hr
    
    by_cases hz : t.size = 0
    · have q1 : ((0 : Int) != (t.size : Int)) = false := by rw [hz];rfl
      clear hz
      go_enter Tryz.func60,Tryz.ntmps60
      go_wp2_with (go_at_call 77;refine (RN.out _).mono ?_;rintro e w2 ⟨v,a2,c2,rfl,hK⟩;obtain ⟨hc,hf⟩ := hK.cells;have z0 : w.heap.size < w2.heap.size := (by have := hK.size;simp at this;omega))
      refine bodyPost_ret (v := .tuple #[.agg #[.int .i64 0,.int .i64 0,.string ⟨#[]⟩,.slice none 0 0],.bool false]) (by simp [results,Tryz.results60,go_sem,hc,hf,z0]) rfl ?_
      exact ⟨(by have hK1 := keep_a hK;repeat (first | (with_reducible exact hK1) | (refine Keep.set ?_ _ _ (fun h _ => Nat.lt_irrefl _ h)) | (refine Keep.alloc ?_ _))),.inl ⟨HO.out,rfl⟩⟩
    · have q1 : ((0 : Int) != (t.size : Int)) = true := by rw [bne_iff_ne];omega
      clear hz
      go_enter Tryz.func60,Tryz.ntmps60
      go_wp2_with (go_at_call 77;refine (RN.out _).mono ?_;rintro e w2 ⟨v,a2,c2,rfl,hK⟩;obtain ⟨hc,hf⟩ := hK.cells;have z0 : w.heap.size < w2.heap.size := (by have := hK.size;simp at this;omega))
      refine bodyPost_ret (v := .tuple #[.agg #[.int .i64 0,.int .i64 0,.string ⟨#[]⟩,.slice none 0 0],.bool false]) (by simp [results,Tryz.results60,go_sem,hc,hf,z0]) rfl ?_
      exact ⟨(by have hK1 := keep_a hK;repeat (first | (with_reducible exact hK1) | (refine Keep.set ?_ _ _ (fun h _ => Nat.lt_irrefl _ h)) | (refine Keep.alloc ?_ _))),.inl ⟨HO.out,rfl⟩⟩
  · by_cases hne : r1 = []
    · subst hne
      rw [svalGet_some1 hr] at ho
      have RS := hyd (read3.some' (s := t) ht hr)
      have VO := hyd (specValueOk_calls v1)
      have PO := hyd (l1Put_calls v1)
      clear hr
      rcases hok : okV 3 v1 with _ | _
      · rw [hok,if_neg (by simp)] at ho
        have HO := hyd ho
        have HOK := hyd hok
        clear ho hok
        go_enter Tryz.func60,Tryz.ntmps60
        go_wp2_with (first | (go_at_call 77;refine (RS.out _).mono ?_;rintro e w2 ⟨a2,c2,k,rfl,hK,hS2,hk0,hk,hkr⟩;have HS2 := hyd hS2;have HK2 := hyd (keep_a hK);have HZ := hyd (blk_keep hK (blk_new _ _) trivial);obtain ⟨hc,hf⟩ := hK.cells;have z0 : w.heap.size < w2.heap.size := (by have := hK.size;simp at this;omega);clear hS2;obtain rfl : k = t.size := (by have := drop_len t k;rw [hkr] at this;simp only [List.length_nil] at this;omega);have q0 : ((t.size : Int) == 0) = false := (by rw [beq_eq_false_iff_ne];omega);clear hkr) | (go_at_call 74;refine (VO.out _ _ (HS2.out.vr.any.keep ((Keep.refl _ _).alloc _))).mono ?_;rintro e w4 ⟨rfl,hK4⟩;rw [HOK.out];have HK4 := hyd ((HK2.out.alloc _).trans hK4);have HA4 := hyd (((Keep.refl Any w2).alloc _).trans hK4);have HB4 := hyd (blk_keep hK4 (blk_new _ _) trivial);obtain ⟨x0,x1,x2,x3⟩ := at4 HB4.out;have HZ4 := hyd (blk_keep hK4 (blk_alloc HZ.out _) trivial);clear hc hf z0;obtain ⟨hc0,hc1,hc2,hc3⟩ := at4 HZ4.out;obtain ⟨hf0,hf1,hf2,hf3⟩ := fr4c HZ4.out;have z4 : w.heap.size < w4.heap.size := blk_lt HZ4.out;have z5 : w2.heap.size < w4.heap.size := blk_lt HB4.out))
        refine bodyPost_ret (v := .tuple #[.agg #[.int .i64 0,.int .i64 0,.string ⟨#[]⟩,.slice none 0 0],.bool false]) (by simp [results,Tryz.results60,go_sem,hc0,hc1,hc2,hc3,hf0,hf1,hf2,hf3,z4]) rfl ?_
        exact ⟨(by have hK1 := HK4.out;repeat (first | (with_reducible exact hK1) | (refine Keep.set ?_ _ _ (fun h _ => Nat.lt_irrefl _ h)) | (refine Keep.alloc ?_ _))),.inl ⟨HO.out,rfl⟩⟩
      · obtain ⟨p,hp⟩ : ∃ p,(⟨v1.put.toArray⟩ : ByteArray) = p := ⟨_,rfl⟩
        have HP := hyd (show Ending.returned (.string ⟨v1.put.toArray⟩) = .returned (.string p) by rw [hp])
        by_cases hpt : p = t
        · rw [hok,if_pos ⟨rfl,(put_str v1 t).2 (hp.trans hpt)⟩] at ho
          subst hpt
          have HO := hyd ho
          have HOK := hyd hok
          have b1 : (p.toList != p.toList) = false := by simp
          clear ho hok hp
          go_enter Tryz.func60,Tryz.ntmps60
          go_wp2_with (first | (go_at_call 77;refine (RS.out _).mono ?_;rintro e w2 ⟨a2,c2,k,rfl,hK,hS2,hk0,hk,hkr⟩;have HS2 := hyd hS2;have HK2 := hyd (keep_a hK);have HZ := hyd (blk_keep hK (blk_new _ _) trivial);obtain ⟨hc,hf⟩ := hK.cells;have z0 : w.heap.size < w2.heap.size := (by have := hK.size;simp at this;omega);clear hS2;obtain rfl : k = p.size := (by have := drop_len p k;rw [hkr] at this;simp only [List.length_nil] at this;omega);have q0 : ((p.size : Int) == 0) = false := (by rw [beq_eq_false_iff_ne];omega);clear hkr) | (go_at_call 74;refine (VO.out _ _ (HS2.out.vr.any.keep ((Keep.refl _ _).alloc _))).mono ?_;rintro e w4 ⟨rfl,hK4⟩;rw [HOK.out];have HK4 := hyd ((HK2.out.alloc _).trans hK4);have HA4 := hyd (((Keep.refl Any w2).alloc _).trans hK4);have HB4 := hyd (blk_keep hK4 (blk_new _ _) trivial);obtain ⟨x0,x1,x2,x3⟩ := at4 HB4.out;have HZ4 := hyd (blk_keep hK4 (blk_alloc HZ.out _) trivial);clear hc hf z0;obtain ⟨hc0,hc1,hc2,hc3⟩ := at4 HZ4.out;obtain ⟨hf0,hf1,hf2,hf3⟩ := fr4c HZ4.out;have z4 : w.heap.size < w4.heap.size := blk_lt HZ4.out;have z5 : w2.heap.size < w4.heap.size := blk_lt HB4.out) | (go_at_call 76;refine (PO.out _ _ (HS2.out.vr.any.keep HA4.out) HOK.out).mono ?_;rintro e w5 ⟨rfl,hK5⟩;rw [HP.out];have HK5 := hyd (HK4.out.trans hK5);have HA5 := hyd (HA4.out.trans hK5);have HB5 := hyd (blk_keep hK5 HB4.out trivial);obtain ⟨y0,y1,y2,y3⟩ := at4 HB5.out;have HZ5 := hyd (blk_keep hK5 HZ4.out trivial);clear hc0 hc1 hc2 hc3 hf0 hf1 hf2 hf3 x0 x1 x2 x3 z4 z5;obtain ⟨hc0,hc1,hc2,hc3⟩ := at4 HZ5.out;obtain ⟨hf0,hf1,hf2,hf3⟩ := fr4c HZ5.out;have z6 : w.heap.size < w5.heap.size := blk_lt HZ5.out;have z7 : w2.heap.size < w5.heap.size := blk_lt HB5.out))
          refine bodyPost_ret (v := .tuple #[.agg #[.int .i64 v1.kind,.int .i64 v1.num,.string v1.text,.slice a2 v1.list.length c2],.bool true]) (by simp [results,Tryz.results60,go_sem,hc0,hc1,hc2,hc3,hf0,hf1,hf2,hf3,z6]) rfl ?_
          refine ⟨(by have hK1 := HK5.out;repeat (first | (with_reducible exact hK1) | (refine Keep.set ?_ _ _ (fun h _ => Nat.lt_irrefl _ h)))),.inr ⟨v1,a2,c2,HO.out,rfl,?_⟩⟩
          refine SV.mono (SV.keep (HS2.out.keep HA5.out.any) (w' := _) ?_) fun j hj => ⟨by have h1 := hj.1;rw [World.size_alloc] at h1;omega,by have h2 := hj.2;have := HA5.out.size;simp;omega⟩
          repeat (first | (with_reducible exact Keep.refl _ _) | (refine Keep.set ?_ _ _ (fun _ h => by have h1 := h.1;rw [World.size_alloc] at h1;exact Nat.not_succ_le_self _ h1)))
        · rw [hok,if_neg (fun h => hpt (hp.symm.trans ((put_str v1 t).1 h.2)))] at ho
          have HO := hyd ho
          have HOK := hyd hok
          have b1 : (p.toList != t.toList) = true := by rw [bne_iff_ne,ByteArray.toList_eq,ByteArray.toList_eq];exact fun e => hpt (ByteArray.ext (Array.ext' e))
          have b2 : (p.toList == t.toList) = false := by rw [bne] at b1;simpa using b1
          have b3 : ¬ p.toList = t.toList := by simpa using b2
          clear ho hok hp
          go_enter Tryz.func60,Tryz.ntmps60
          go_wp2_with (first | (go_at_call 77;refine (RS.out _).mono ?_;rintro e w2 ⟨a2,c2,k,rfl,hK,hS2,hk0,hk,hkr⟩;have HS2 := hyd hS2;have HK2 := hyd (keep_a hK);have HZ := hyd (blk_keep hK (blk_new _ _) trivial);obtain ⟨hc,hf⟩ := hK.cells;have z0 : w.heap.size < w2.heap.size := (by have := hK.size;simp at this;omega);clear hS2;obtain rfl : k = t.size := (by have := drop_len t k;rw [hkr] at this;simp only [List.length_nil] at this;omega);have q0 : ((t.size : Int) == 0) = false := (by rw [beq_eq_false_iff_ne];omega);clear hkr) | (go_at_call 74;refine (VO.out _ _ (HS2.out.vr.any.keep ((Keep.refl _ _).alloc _))).mono ?_;rintro e w4 ⟨rfl,hK4⟩;rw [HOK.out];have HK4 := hyd ((HK2.out.alloc _).trans hK4);have HA4 := hyd (((Keep.refl Any w2).alloc _).trans hK4);have HB4 := hyd (blk_keep hK4 (blk_new _ _) trivial);obtain ⟨x0,x1,x2,x3⟩ := at4 HB4.out;have HZ4 := hyd (blk_keep hK4 (blk_alloc HZ.out _) trivial);clear hc hf z0;obtain ⟨hc0,hc1,hc2,hc3⟩ := at4 HZ4.out;obtain ⟨hf0,hf1,hf2,hf3⟩ := fr4c HZ4.out;have z4 : w.heap.size < w4.heap.size := blk_lt HZ4.out;have z5 : w2.heap.size < w4.heap.size := blk_lt HB4.out) | (go_at_call 76;refine (PO.out _ _ (HS2.out.vr.any.keep HA4.out) HOK.out).mono ?_;rintro e w5 ⟨rfl,hK5⟩;rw [HP.out];have HK5 := hyd (HK4.out.trans hK5);have HA5 := hyd (HA4.out.trans hK5);have HB5 := hyd (blk_keep hK5 HB4.out trivial);obtain ⟨y0,y1,y2,y3⟩ := at4 HB5.out;have HZ5 := hyd (blk_keep hK5 HZ4.out trivial);clear hc0 hc1 hc2 hc3 hf0 hf1 hf2 hf3 x0 x1 x2 x3 z4 z5;obtain ⟨hc0,hc1,hc2,hc3⟩ := at4 HZ5.out;obtain ⟨hf0,hf1,hf2,hf3⟩ := fr4c HZ5.out;have z6 : w.heap.size < w5.heap.size := blk_lt HZ5.out;have z7 : w2.heap.size < w5.heap.size := blk_lt HB5.out))
          refine bodyPost_ret (v := .tuple #[.agg #[.int .i64 0,.int .i64 0,.string ⟨#[]⟩,.slice none 0 0],.bool false]) (by simp [results,Tryz.results60,go_sem,hc0,hc1,hc2,hc3,hf0,hf1,hf2,hf3,z6]) rfl ?_
          exact ⟨(by have hK1 := HK5.out;repeat (first | (with_reducible exact hK1) | (refine Keep.set ?_ _ _ (fun h _ => Nat.lt_irrefl _ h)) | (refine Keep.alloc ?_ _))),.inl ⟨HO.out,rfl⟩⟩
    · rw [svalGet_none2 hr hne] at ho
      have HO := hyd ho
      have RS := hyd (read3.some' (s := t) ht hr)
      clear ho hr
      go_enter Tryz.func60,Tryz.ntmps60
      go_wp2_with ((go_at_call 77;refine (RS.out _).mono ?_;rintro e w2 ⟨a2,c2,k,rfl,hK,hS2,hk0,hk,hkr⟩;have HS2 := hyd hS2;have HK2 := hyd (keep_a hK);have HZ := hyd (blk_keep hK (blk_new _ _) trivial);obtain ⟨hc,hf⟩ := hK.cells;have z0 : w.heap.size < w2.heap.size := (by have := hK.size;simp at this;omega);clear hS2;have q1 : ((k : Int) != (t.size : Int)) = true := (by rw [bne_iff_ne];intro h;exact hne (List.eq_nil_of_length_eq_zero (by rw [← hkr,drop_len];omega)));clear hkr))
      refine bodyPost_ret (v := .tuple #[.agg #[.int .i64 0,.int .i64 0,.string ⟨#[]⟩,.slice none 0 0],.bool false]) (by simp [results,Tryz.results60,go_sem,hc,hf,z0]) rfl ?_
      exact ⟨(by have hK1 := keep_a hK;repeat (first | (with_reducible exact hK1) | (refine Keep.set ?_ _ _ (fun h _ => Nat.lt_irrefl _ h)) | (refine Keep.alloc ?_ _))),.inl ⟨HO.out,rfl⟩⟩

/- The reference's l9Cells: the cells that a text tells. For every text of at most 2^60 bytes. -/
set_option maxRecDepth 20000
set_option maxHeartbeats 4000000
theorem lineOf_at {s : ByteArray} {k : Nat} (hk : k ≤ s.size) (h : ∀ j,j < k → at_ s j ≠ (10 : UInt8).toNat) (he : k = s.size ∨ at_ s k = 10) : lineOf s.data.toList = s.data.toList.take k := by
  have e : s.data.toList = s.data.toList.take k ++ s.data.toList.drop k := (List.take_append_drop _ _).symm
  have h4 := take_no (s := s) (c := 10) hk h
  conv => lhs;rw [e]
  refine lineOf_app (fun b r hb => ?_) fun b hb e => h4 (e ▸ hb)
  rcases Nat.lt_or_ge k s.size with hl | hl
  · rw [drop_at hl] at hb
    cases hb
    have e1 := at_eq s k hl
    rcases he with he | he
    · omega
    · rw [he] at e1;exact UInt8.toNat_inj.1 e1
  · rw [List.drop_of_length_le (by rw [← Lib.size_eq];exact hl)] at hb;cases hb
theorem specValueGet_none {t : ByteArray} (ht : t.size ≤ 2305843009213693952) (h : valGet t.data.toList = none) (w : World) : Calls Tryz.prog 60 #[.string t] w fun e w' =>
    e = .returned (.tuple #[.agg #[.int .i64 0,.int .i64 0,.string ⟨#[]⟩,.slice none 0 0],.bool false]) ∧ Keep Any w w' := (specValueGet_calls t w ht).mono fun e w' ⟨hK,hz⟩ => by
  rw [svalGet_eq] at hz
  rcases hz with ⟨_,he⟩ | ⟨v,a,c,hn,_⟩
  · exact ⟨he,hK⟩
  · rw [h] at hn;cases hn
theorem specValueGet_some {t : ByteArray} (ht : t.size ≤ 2305843009213693952) {v : V} (h : valGet t.data.toList = some v) (w : World) : Calls Tryz.prog 60 #[.string t] w fun e w' =>
    ∃ (a : Option Addr) (c : Nat),e = .returned (.tuple #[.agg #[.int .i64 v.kind,.int .i64 v.num,.string v.text,.slice a v.list.length c],.bool true]) ∧ Keep Any w w' ∧ SV w' (Mid w.heap.size w'.heap.size) v [.int .i64 v.kind,.int .i64 v.num,.string v.text,.slice a v.list.length c] := (specValueGet_calls t w ht).mono fun e w' ⟨hK,hz⟩ => by
  rw [svalGet_eq] at hz
  rcases hz with ⟨hn,_⟩ | ⟨v',a,c,hn,he,hS⟩
  · rw [h] at hn;cases hn
  · rw [h] at hn;cases hn;exact ⟨a,c,he,hK,hS⟩
def GotSC (o : Option (List Ce)) (w : World) (e : Ending) (w' : World) : Prop :=
  Keep Any w w' ∧ ((o = none ∧ ∃ (a : Option Addr) (n c : Nat),e = .returned (.tuple #[.slice a n c,.bool false])) ∨
    ∃ (l : List Ce) (a : Option Addr) (c : Nat),o = some l ∧ e = .returned (.tuple #[.slice a l.length c,.bool true]) ∧ SCes w' (Mid w.heap.size w'.heap.size) (.slice a l.length c) l)
theorem scells_end (f : Nat) : scells f [] = some [] := by unfold scells;simp
theorem scells_full {l : List UInt8} (h : l ≠ []) : scells 0 l = none := by unfold scells;simp [h]
theorem scells_head {f : Nat} {l : List UInt8} (h : l ≠ []) (h1 : ¬ l.headD 0 = 10) : scells f l = none := by
  unfold scells
  rw [if_neg h]
  cases f with
  | zero => rfl
  | succ f => exact if_neg h1
theorem scells_cut {f : Nat} {l : List UInt8} (h : l ≠ []) (h1 : cutAt 61 (l.drop 1) = none) : scells f l = none := by
  unfold scells
  rw [if_neg h]
  cases f with
  | zero => rfl
  | succ f =>
    by_cases h0 : l.headD 0 = 10
    · simp only [h0,if_true,h1]
    · exact if_neg h0
theorem scells_val {f : Nat} {l nm x : List UInt8} (h : l ≠ []) (h1 : cutAt 61 (l.drop 1) = some (nm,x)) (h2 : valGet (lineOf x) = none) : scells f l = none := by
  unfold scells
  rw [if_neg h]
  cases f with
  | zero => rfl
  | succ f =>
    by_cases h0 : l.headD 0 = 10
    · simp only [h0,if_true,h1,h2]
    · exact if_neg h0
theorem scells_more {f : Nat} {l nm x : List UInt8} {v : V} (h : l ≠ []) (h0 : l.headD 0 = 10) (h1 : cutAt 61 (l.drop 1) = some (nm,x)) (h2 : valGet (lineOf x) = some v) :
    scells (f + 1) l = (scells f (x.drop (lineOf x).length)).map fun g => ⟨⟨nm.toArray⟩,v⟩ :: g := by
  conv => lhs;unfold scells
  rw [if_neg h]
  simp only [h0,if_true,h1,h2]
theorem l9Cells_calls (t : ByteArray) (w : World) (ht : t.size ≤ 1152921504606846976) : Calls Tryz.prog 42 #[.string t] w (GotSC (scells 6 t.data.toList) w) := by
  obtain ⟨o,ho⟩ : ∃ o,o = scells 6 t.data.toList := ⟨_,rfl⟩
  rw [← ho]
  have HO := hyd ho
  clear ho
  obtain ⟨i0,hi,hzz⟩ := Option.map_eq_some_iff.1 infoCell
  simp only [Prod.mk.injEq] at hzz
  obtain ⟨hz0,hz1,hz2⟩ := hzz
  go_enter Tryz.func42,Tryz.ntmps42
  go_wp2
  go_loopg [0,4] 7 (fun g x v wr => ∃ (s : ByteArray) (acc : List Ce) (css : List (List Value)) (top : Nat),x = .string s ∧ s.size ≤ t.size ∧ acc.length ≤ 6 ∧ g = 7 - acc.length ∧ SRow 5 SCe wr w.heap.size top 64 v acc css ∧ Keep Any w wr ∧ o = (scells (6 - acc.length) s.data.toList).map (fun p => acc ++ p))
  case atStart => exact ⟨t,[],[],w.heap.size + 1,rfl,Nat.le_refl _,by simp,rfl,SRow.made _ _,(Keep.refl _ _).alloc _,by rw [HO.out];simp⟩
  case round =>
    obtain ⟨s,acc,css,top,rfl,hs,hl,hg,hS,hK,hr⟩ := hrel
    have HG := hyd hg
    have HR := hyd hr
    have HK := hyd hK
    obtain ⟨av,cv,rfl,hnil⟩ := hS.form
    have HS := hyd hS
    clear hg hr hS hnil hK
    by_cases h0 : s.size = 0
    · have hd : s.toList.isEmpty = true := by have := empty_true s h0;simpa using this
      have e0 : s.data.toList = [] := List.eq_nil_of_length_eq_zero (by rw [← Lib.size_eq];exact h0)
      have E0 := hyd e0
      clear e0 h0
      go_wp2
      go_ret2
      exact ⟨HK.out,.inr ⟨acc,av,cv,by rw [HR.out,E0.out,scells_end];simp,rfl,HS.out.slice fun i h1 h2 => ⟨h1,h2⟩⟩⟩
    have hd : s.toList.isEmpty = false := by have := empty_false s h0;simpa using this
    have q1 : 0 < s.size := by omega
    have e1 := at_eq s 0 q1
    have E0 := hyd (show s.data.toList ≠ [] from fun h => h0 (by rw [Lib.size_eq,h];rfl))
    clear h0
    by_cases h10 : s.data.toList.headD 0 = 10
    · have b10 : (((at_ s 0 : Nat) : Int) != 10) = false := by have := head_yes q1 (n := 10) rfl h10;rw [bne,this];rfl
      have H10 := hyd h10
      clear h10
      by_cases h6 : acc.length = 6
      · have hl6 : (5 : Int) < (acc.length : Int) := by omega
        have H6 := hyd h6
        clear h6
        go_wp2
        go_ret2
        exact ⟨HK.out,.inl ⟨by rw [HR.out,H6.out,Nat.sub_self,scells_full E0.out];rfl,av,acc.length,cv,rfl⟩⟩
      have hl5 : (acc.length : Int) ≤ 5 := by omega
      rcases hc : cutAt 61 (s.data.toList.drop 1) with _ | ⟨nm,x⟩
      · have CN := hyd (upto_none (s := s.extract 1 s.size) (c := 61) (b := 61) rfl (by rw [ByteArray.size_extract];omega) (by rw [tail_data];exact hc))
        have HC := hyd hc
        clear hc
        go_wp2_with (go_at_call 40;refine (CN.out _).mono ?_;rintro e wA ⟨rfl,hKA⟩)
        go_ret2
        exact ⟨HK.out.trans hKA,.inl ⟨by rw [HR.out,scells_cut E0.out HC.out];rfl,av,acc.length,cv,rfl⟩⟩
      · obtain ⟨xb,hxb⟩ : ∃ xb : ByteArray,(⟨x.toArray⟩ : ByteArray) = xb := ⟨_,rfl⟩
        obtain ⟨nb,hnb⟩ : ∃ nb : ByteArray,(⟨nm.toArray⟩ : ByteArray) = nb := ⟨_,rfl⟩
        have hxd : xb.data.toList = x := by rw [← hxb]
        have hcl := cutAt_len hc
        rw [List.length_drop,← Lib.size_eq] at hcl
        have hxs : xb.size ≤ s.size := by rw [Lib.size_eq xb,hxd];omega
        have hns : nb.size ≤ s.size := by rw [← hnb,Lib.size_eq];simp;omega
        have CN := hyd (fun w => by have := upto_some (s := s.extract 1 s.size) (c := 61) (b := 61) rfl (by rw [ByteArray.size_extract];omega) (by rw [tail_data];exact hc) w;rw [hxb,hnb] at this;exact this)
        have HC := hyd hc
        have HXD := hyd hxd
        have HNB := hyd hnb
        clear hc hcl hxb hnb hxd
        go_upto_block 2 with (go_at_call 40;refine (CN.out _).mono ?_;rintro e wA ⟨rfl,hKA⟩;have HKA := hyd hKA;clear hKA)
        go_cut [8] from 33 to 44 (fun i wc => ∃ k : Nat,k ≤ xb.size ∧ i = .int .i64 k ∧ lineOf xb.data.toList = xb.data.toList.take k ∧ wA = wc)
        case first =>
          go_wp2
          go_loop [8] (fun i => ∃ k : Nat,k ≤ xb.size ∧ i = .int .i64 k ∧ ∀ j,j < k → at_ xb j ≠ (10 : UInt8).toNat) (fun i => xb.size - (intOf i).toNat)
          case atStart => exact ⟨0,by omega,rfl,fun j hj => by omega⟩
          case round =>
            obtain ⟨k,hk,rfl,hg⟩ := hrel
            have HI := hyd hg
            clear hg
            by_cases hlt : k < xb.size
            · have e2 := at_eq xb k hlt
              by_cases hc : at_ xb k = 10
              · have q2 : (((at_ xb k : Nat) : Int) != 10) = false := by rw [hc];rfl
                have HL := hyd (lineOf_at hk HI.out (.inr hc))
                clear hc
                go_wp2
                go_meet
                case rel => exact ⟨k,hk,rfl,HL.out,rfl⟩
              · have q2 : (((at_ xb k : Nat) : Int) != 10) = true := by rw [bne_iff_ne];omega
                have HC2 := hyd hc
                clear hc
                go_wp2
                go_round
                case rel => exact ⟨k + 1,by omega,by go_num,fun j hj => by rcases Nat.lt_succ_iff_lt_or_eq.1 hj with hj | rfl;exact HI.out j hj;exact HC2.out⟩
                case measure => simp [intOf];omega
            · have HL := hyd (lineOf_at hk HI.out (.inl (by omega)))
              go_wp2
              go_meet
              case rel => exact ⟨k,hk,rfl,HL.out,rfl⟩
        case rest =>
          obtain ⟨k,hk,rfl,hline,rfl⟩ := hcut
          have hd0 : (xb.extract 0 k).data.toList = lineOf xb.data.toList := by rw [hline,take_eq]
          have hlen : (lineOf xb.data.toList).length = k := by rw [hline,List.length_take,← Lib.size_eq];omega
          have HD0 := hyd hd0
          have HLEN := hyd hlen
          clear hline hd0 hlen
          rcases hv : valGet (lineOf xb.data.toList) with _ | v1
          · have VN := hyd (specValueGet_none (t := xb.extract 0 k) (by rw [ByteArray.size_extract];omega) (by rw [HD0.out];exact hv))
            have HV := hyd hv
            clear hv
            go_wp2_with (go_at_call 60;refine (VN.out _).mono ?_;rintro e w2 ⟨rfl,hK2⟩)
            go_ret2
            exact ⟨(HK.out.trans (HKA.out.trans hK2)).alloc _,.inl ⟨by rw [HR.out,scells_val E0.out HC.out (by rw [← HXD.out];exact HV.out)];rfl,av,acc.length,cv,rfl⟩⟩
          · have VN := hyd (specValueGet_some (t := xb.extract 0 k) (by rw [ByteArray.size_extract];omega) (by rw [HD0.out];exact hv))
            have HV := hyd hv
            clear hv
            go_wp2_with (first | (go_at_call 60;refine (VN.out _).mono ?_;rintro e w2 ⟨a2,c2,rfl,hK2,hS2⟩;have HS2 := hyd hS2;have HK2 := hyd (HKA.out.trans hK2);clear hS2 hK2) | (at_builtin;refine wpList_append_sep _ rfl _ _ 28 rfl w.heap.size 64 i0 _ 5 72 Tryz.underlying28 hi hz0 hz1 hz2 rfl (by decide) (.slice av acc.length cv) acc.length css.flatten rfl (rowC_keep HS.out ((HK2.out.alloc _).alloc _)).own ⟨w2.heap.size + 1,0,none⟩ 1 1 [.string nb,.int .i64 v1.kind,.int .i64 v1.num,.string v1.text,.slice a2 v1.list.length c2] rfl rfl (new_cells _ _ _ (by simp)) (by simp [Value.oneCell']) (by unfold maxLen;omega) (by omega) (by have := HK.out.size;have := HK2.out.size;simp;omega) (by omega) ?_;intro v' w5 hown' hgrow hblk;have HS5 := hyd (rowC_snoc (x := ⟨nb,v1⟩) (rowC_keep HS.out ((HK2.out.alloc _).alloc _)) hown' hgrow hblk ⟨_,rfl,(show Fits nb by unfold Fits;omega),HS2.out.keep (((Keep.refl _ _).alloc _).alloc _)⟩ (fun i hi => ⟨Nat.le_trans (Nat.le_trans HS.out.top_le HKA.out.size) hi.1,by have := hi.2;simp;omega⟩));have HK5 := hyd ((((HK.out.trans HK2.out).alloc _).alloc _).grown hgrow (fun i hi hlt => by have := (HS.out.own.lt i hi).1;omega));clear hown' hgrow hblk))
            go_roundg (gk - 1)
            case rel => exact ⟨xb.extract k xb.size,acc ++ [⟨nb,v1⟩],_,w5.heap.size,rfl,by rw [ByteArray.size_extract];omega,by rw [List.length_append,List.length_singleton];omega,by have := HG.out;rw [List.length_append,List.length_singleton];omega,HS5.out,HK5.out,by
              rw [HR.out,show 6 - acc.length = (6 - (acc ++ [(⟨nb,v1⟩ : Ce)]).length) + 1 by rw [List.length_append,List.length_singleton];omega,scells_more E0.out H10.out HC.out (by rw [← HXD.out];exact HV.out),Option.map_map,rest_data,HNB.out,← HXD.out,HLEN.out]
              congr 1
              funext p
              simp⟩
            case measure => have := HG.out;omega
    · have b10 : (((at_ s 0 : Nat) : Int) != 10) = true := by have := head_not q1 (n := 10) rfl h10;rw [bne,this];rfl
      have H10 := hyd h10
      clear h10
      go_wp2
      go_ret2
      exact ⟨HK.out,.inl ⟨by rw [HR.out,scells_head E0.out H10.out];rfl,av,acc.length,cv,rfl⟩⟩
end Go.Proofs.YtjopkcjpedgoaaaGreatDoor

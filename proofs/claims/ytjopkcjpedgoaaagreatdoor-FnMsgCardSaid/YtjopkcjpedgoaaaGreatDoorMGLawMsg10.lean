/- The reference's MsgGet: the message whose text it is. For every text of at most 2^60 bytes. -/
import Derived.Test.YtjopkcjpedgoaaaGreatDoorMGLawMsg9
import Derived.Test.YtjopkcjpedgoaaaGreatDoorMGLawMsg8
import Derived.Test.YtjopkcjpedgoaaaGreatDoorMGLawMsg7
import Derived.Test.YtjopkcjpedgoaaaGreatDoorMGAt
/- The reference's MsgGet: the message whose text it is. For every text of at most 2^60 bytes. -/
namespace Go.Proofs.YtjopkcjpedgoaaaGreatDoor
open Go.RowKit
set_option linter.unusedVariables false
set_option linter.unusedSimpArgs false
set_option maxRecDepth 20000
set_option maxHeartbeats 8000000
theorem l9Cells_none {t : ByteArray} (ht : t.size ≤ 1152921504606846976) (h : scells 6 t.data.toList = none) (w : World) : Calls Tryz.prog 42 #[.string t] w fun e w' =>
    (∃ (a : Option Addr) (n c : Nat),e = .returned (.tuple #[.slice a n c,.bool false])) ∧ Keep Any w w' := (l9Cells_calls t w ht).mono fun e w' ⟨hK,hz⟩ => by
  rcases hz with ⟨_,he⟩ | ⟨v,a,c,hn,_⟩
  · exact ⟨he,hK⟩
  · rw [h] at hn;cases hn
theorem l9Cells_some {t : ByteArray} (ht : t.size ≤ 1152921504606846976) {l : List Ce} (h : scells 6 t.data.toList = some l) (w : World) : Calls Tryz.prog 42 #[.string t] w fun e w' =>
    ∃ (a : Option Addr) (c : Nat),e = .returned (.tuple #[.slice a l.length c,.bool true]) ∧ Keep Any w w' ∧ SCes w' (Mid w.heap.size w'.heap.size) (.slice a l.length c) l := (l9Cells_calls t w ht).mono fun e w' ⟨hK,hz⟩ => by
  rcases hz with ⟨hn,_⟩ | ⟨v',a,c,hn,he,hS⟩
  · rw [h] at hn;cases hn
  · rw [h] at hn;cases hn;exact ⟨a,c,he,hK,hS⟩
theorem numB {l : List UInt8} (hs : l.length ≤ 2305843009213693952) : ∃ n : Int,n = numL l ∧ -1 ≤ n ∧ n ≤ 10000000000 ∧ ∀ w,Calls Tryz.prog 28 #[.string ⟨l.toArray⟩] w fun e w' => e = .returned (.int .i64 n) ∧ w = w' :=
  numS_calls ⟨l.toArray⟩ (by rw [Lib.size_eq];exact hs)
theorem numNil : ∀ w,Calls Tryz.prog 28 #[.string ⟨#[]⟩] w fun e w' => e = .returned (.int .i64 (-1)) ∧ w = w' := fun w => by
  obtain ⟨n,h,_,_,hc⟩ := numB (l := []) (by simp)
  have : numL [] = -1 := by unfold numL numLGo;simp
  rw [this] at h;subst h
  exact hc w
theorem specMsgGet_calls (t : ByteArray) (w : World) (ht : t.size ≤ 1152921504606846976) : Calls Tryz.prog 18 #[.string t] w (GotM (smsgGet t.data.toList) w) := by
  obtain ⟨o,ho⟩ : ∃ o,o = smsgGet t.data.toList := ⟨_,rfl⟩
  rw [← ho]
  unfold smsgGet at ho
  have HK := hyd (show Keep Any w (w.alloc (.cells #[.int .i64 0,.string ⟨#[]⟩,.slice none 0 0,.int .i64 0] 30 (0,0))) from (Keep.refl _ _).alloc _)
  have HZ := hyd (show (w.alloc (.cells #[.int .i64 0,.string ⟨#[]⟩,.slice none 0 0,.int .i64 0] 30 (0,0))).heap[w.heap.size]? = some (.cells #[.int .i64 0,.string ⟨#[]⟩,.slice none 0 0,.int .i64 0] 30 (0,0)) from blk_new _ _)
  obtain ⟨r0,r1,r2,r3⟩ := at4 HZ.out;obtain ⟨f0,f1,f2,f3⟩ := fr4c HZ.out;have z0 := blk_lt HZ.out
  have NN := hyd numNil
  have IR := hyd l1In_calls
  rcases c1 : cutAt 32 t.data.toList with _ | ⟨a,ra⟩
  · rw [c1] at ho
    have HN := hyd ho
    have C1 := hyd (upto_none (s := t) (c := 32) (b := 32) rfl (by omega) c1)
    have C2 := hyd (upto_none (s := ⟨#[]⟩) (c := 32) (b := 32) rfl (by decide) rfl)
    have C3 := C2
    clear c1 ho
    go_enter Tryz.func18,Tryz.ntmps18
    go_wp2_with (first | (go_at_call 40;first | ((with_reducible refine (C1.out _).mono ?_);rintro e wA ⟨rfl,hKA⟩;replace HK := hyd (HK.out.trans hKA);replace HZ := hyd (blk_keep hKA HZ.out trivial);clear hKA;clear r0 r1 r2 r3 f0 f1 f2 f3 z0;obtain ⟨r0,r1,r2,r3⟩ := at4 HZ.out;obtain ⟨f0,f1,f2,f3⟩ := fr4c HZ.out;have z0 := blk_lt HZ.out) | ((with_reducible refine (C2.out _).mono ?_);rintro e wA ⟨rfl,hKA⟩;replace HK := hyd (HK.out.trans hKA);replace HZ := hyd (blk_keep hKA HZ.out trivial);clear hKA;clear r0 r1 r2 r3 f0 f1 f2 f3 z0;obtain ⟨r0,r1,r2,r3⟩ := at4 HZ.out;obtain ⟨f0,f1,f2,f3⟩ := fr4c HZ.out;have z0 := blk_lt HZ.out) | ((with_reducible refine (C3.out _).mono ?_);rintro e wA ⟨rfl,hKA⟩;replace HK := hyd (HK.out.trans hKA);replace HZ := hyd (blk_keep hKA HZ.out trivial);clear hKA;clear r0 r1 r2 r3 f0 f1 f2 f3 z0;obtain ⟨r0,r1,r2,r3⟩ := at4 HZ.out;obtain ⟨f0,f1,f2,f3⟩ := fr4c HZ.out;have z0 := blk_lt HZ.out)) | (go_at_call 28;first | ((with_reducible refine (NN.out _).mono ?_);rintro e w' ⟨rfl,rfl⟩)))
    refine bodyPost_ret (v := .tuple #[.agg #[.int .i64 0,.string ⟨#[]⟩,.slice none 0 0,.int .i64 0],.bool false]) (by simp [results,Tryz.results18,go_sem,r0,r1,r2,r3,f0,f1,f2,f3,z0]) rfl ?_
    exact ⟨(by have hK1 := HK.out;repeat (first | (with_reducible exact hK1) | (refine Keep.set ?_ _ _ (fun h _ => Nat.lt_irrefl _ h)) | (refine Keep.alloc ?_ _) | (refine Keep.drew ?_))),.inl ⟨by first | exact HN.out | (rw [HN.out]),rfl⟩⟩
  rw [c1] at ho
  have l1 := cutAt_len c1
  rw [← Lib.size_eq] at l1
  have C1 := hyd (upto_some (s := t) (c := 32) (b := 32) rfl (by omega) c1)
  clear c1
  have hra : (⟨ra.toArray⟩ : ByteArray).size = ra.length := by rw [Lib.size_eq]
  have hra1 : (⟨ra.toArray⟩ : ByteArray).size ≤ t.size := by omega
  clear hra
  rcases c2 : cutAt 32 ra with _ | ⟨b,rb⟩
  · simp only [c2] at ho
    have HN := hyd ho
    have C2 := hyd (upto_none (s := ⟨ra.toArray⟩) (c := 32) (b := 32) rfl (by omega) c2)
    have C3 := hyd (upto_none (s := ⟨#[]⟩) (c := 32) (b := 32) rfl (by decide) rfl)
    clear c2 ho
    go_enter Tryz.func18,Tryz.ntmps18
    go_wp2_with (first | (go_at_call 40;first | ((with_reducible refine (C1.out _).mono ?_);rintro e wA ⟨rfl,hKA⟩;replace HK := hyd (HK.out.trans hKA);replace HZ := hyd (blk_keep hKA HZ.out trivial);clear hKA;clear r0 r1 r2 r3 f0 f1 f2 f3 z0;obtain ⟨r0,r1,r2,r3⟩ := at4 HZ.out;obtain ⟨f0,f1,f2,f3⟩ := fr4c HZ.out;have z0 := blk_lt HZ.out) | ((with_reducible refine (C2.out _).mono ?_);rintro e wA ⟨rfl,hKA⟩;replace HK := hyd (HK.out.trans hKA);replace HZ := hyd (blk_keep hKA HZ.out trivial);clear hKA;clear r0 r1 r2 r3 f0 f1 f2 f3 z0;obtain ⟨r0,r1,r2,r3⟩ := at4 HZ.out;obtain ⟨f0,f1,f2,f3⟩ := fr4c HZ.out;have z0 := blk_lt HZ.out) | ((with_reducible refine (C3.out _).mono ?_);rintro e wA ⟨rfl,hKA⟩;replace HK := hyd (HK.out.trans hKA);replace HZ := hyd (blk_keep hKA HZ.out trivial);clear hKA;clear r0 r1 r2 r3 f0 f1 f2 f3 z0;obtain ⟨r0,r1,r2,r3⟩ := at4 HZ.out;obtain ⟨f0,f1,f2,f3⟩ := fr4c HZ.out;have z0 := blk_lt HZ.out)) | (go_at_call 28;first | ((with_reducible refine (NN.out _).mono ?_);rintro e w' ⟨rfl,rfl⟩)))
    refine bodyPost_ret (v := .tuple #[.agg #[.int .i64 0,.string ⟨#[]⟩,.slice none 0 0,.int .i64 0],.bool false]) (by simp [results,Tryz.results18,go_sem,r0,r1,r2,r3,f0,f1,f2,f3,z0]) rfl ?_
    exact ⟨(by have hK1 := HK.out;repeat (first | (with_reducible exact hK1) | (refine Keep.set ?_ _ _ (fun h _ => Nat.lt_irrefl _ h)) | (refine Keep.alloc ?_ _) | (refine Keep.drew ?_))),.inl ⟨by first | exact HN.out | (rw [HN.out]),rfl⟩⟩
  simp only [c2] at ho
  have l2 := cutAt_len c2
  have C2 := hyd (upto_some (s := ⟨ra.toArray⟩) (c := 32) (b := 32) rfl (by omega) c2)
  clear c2
  have hrb : (⟨rb.toArray⟩ : ByteArray).size = rb.length := by rw [Lib.size_eq]
  have hrb1 : (⟨rb.toArray⟩ : ByteArray).size ≤ t.size := by omega
  clear hrb
  rcases c3 : cutAt 32 rb with _ | ⟨c,rc⟩
  · simp only [c3] at ho
    have HN := hyd ho
    have C3 := hyd (upto_none (s := ⟨rb.toArray⟩) (c := 32) (b := 32) rfl (by omega) c3)
    clear c3 ho
    go_enter Tryz.func18,Tryz.ntmps18
    go_wp2_with (first | (go_at_call 40;first | ((with_reducible refine (C1.out _).mono ?_);rintro e wA ⟨rfl,hKA⟩;replace HK := hyd (HK.out.trans hKA);replace HZ := hyd (blk_keep hKA HZ.out trivial);clear hKA;clear r0 r1 r2 r3 f0 f1 f2 f3 z0;obtain ⟨r0,r1,r2,r3⟩ := at4 HZ.out;obtain ⟨f0,f1,f2,f3⟩ := fr4c HZ.out;have z0 := blk_lt HZ.out) | ((with_reducible refine (C2.out _).mono ?_);rintro e wA ⟨rfl,hKA⟩;replace HK := hyd (HK.out.trans hKA);replace HZ := hyd (blk_keep hKA HZ.out trivial);clear hKA;clear r0 r1 r2 r3 f0 f1 f2 f3 z0;obtain ⟨r0,r1,r2,r3⟩ := at4 HZ.out;obtain ⟨f0,f1,f2,f3⟩ := fr4c HZ.out;have z0 := blk_lt HZ.out) | ((with_reducible refine (C3.out _).mono ?_);rintro e wA ⟨rfl,hKA⟩;replace HK := hyd (HK.out.trans hKA);replace HZ := hyd (blk_keep hKA HZ.out trivial);clear hKA;clear r0 r1 r2 r3 f0 f1 f2 f3 z0;obtain ⟨r0,r1,r2,r3⟩ := at4 HZ.out;obtain ⟨f0,f1,f2,f3⟩ := fr4c HZ.out;have z0 := blk_lt HZ.out)) | (go_at_call 28;first | ((with_reducible refine (NN.out _).mono ?_);rintro e w' ⟨rfl,rfl⟩)))
    refine bodyPost_ret (v := .tuple #[.agg #[.int .i64 0,.string ⟨#[]⟩,.slice none 0 0,.int .i64 0],.bool false]) (by simp [results,Tryz.results18,go_sem,r0,r1,r2,r3,f0,f1,f2,f3,z0]) rfl ?_
    exact ⟨(by have hK1 := HK.out;repeat (first | (with_reducible exact hK1) | (refine Keep.set ?_ _ _ (fun h _ => Nat.lt_irrefl _ h)) | (refine Keep.alloc ?_ _) | (refine Keep.drew ?_))),.inl ⟨by first | exact HN.out | (rw [HN.out]),rfl⟩⟩
  simp only [c3] at ho
  have l3 := cutAt_len c3
  have C3 := hyd (upto_some (s := ⟨rb.toArray⟩) (c := 32) (b := 32) rfl (by omega) c3)
  clear c3
  obtain ⟨xa,hxa,xa0,xa1,ca⟩ := numB (l := a) (by omega)
  obtain ⟨xb,hxb,xb0,xb1,cb⟩ := numB (l := b) (by omega)
  obtain ⟨xc,hxc,xc0,xc1,cc⟩ := numB (l := c) (by omega)
  rw [← hxa,← hxb,← hxc,smsgGet3] at ho
  have NA := hyd ca
  have NB := hyd cb
  have NC := hyd cc
  clear hxa hxb hxc ca cb cc
  obtain ⟨rs,hrs⟩ : ∃ rs : ByteArray,(⟨rc.toArray⟩ : ByteArray) = rs := ⟨_,rfl⟩
  have hrl : rs.data.toList = rc := by rw [← hrs]
  have hrz : rs.size ≤ rc.length := by rw [Lib.size_eq,hrl];exact Nat.le_refl _
  have hrz2 : rc.length ≤ rs.size := by rw [Lib.size_eq,hrl];exact Nat.le_refl _
  have C3 := hyd (fun w => by have := C3.out w;rw [hrs] at this;exact this)
  clear hrs
  by_cases hin : xc < 0 ∨ (rc.length : Int) < xc
  · rw [if_pos hin] at ho
    have HN := hyd ho
    have HIN := hyd (show inR xc 0 rs.size = false by unfold inR;rw [Bool.and_eq_false_iff];simp only [decide_eq_false_iff_not];omega)
    clear ho hin
    go_enter Tryz.func18,Tryz.ntmps18
    go_wp2_with (first | (go_at_call 40;first | ((with_reducible refine (C1.out _).mono ?_);rintro e wA ⟨rfl,hKA⟩;replace HK := hyd (HK.out.trans hKA);replace HZ := hyd (blk_keep hKA HZ.out trivial);clear hKA;clear r0 r1 r2 r3 f0 f1 f2 f3 z0;obtain ⟨r0,r1,r2,r3⟩ := at4 HZ.out;obtain ⟨f0,f1,f2,f3⟩ := fr4c HZ.out;have z0 := blk_lt HZ.out) | ((with_reducible refine (C2.out _).mono ?_);rintro e wA ⟨rfl,hKA⟩;replace HK := hyd (HK.out.trans hKA);replace HZ := hyd (blk_keep hKA HZ.out trivial);clear hKA;clear r0 r1 r2 r3 f0 f1 f2 f3 z0;obtain ⟨r0,r1,r2,r3⟩ := at4 HZ.out;obtain ⟨f0,f1,f2,f3⟩ := fr4c HZ.out;have z0 := blk_lt HZ.out) | ((with_reducible refine (C3.out _).mono ?_);rintro e wA ⟨rfl,hKA⟩;replace HK := hyd (HK.out.trans hKA);replace HZ := hyd (blk_keep hKA HZ.out trivial);clear hKA;clear r0 r1 r2 r3 f0 f1 f2 f3 z0;obtain ⟨r0,r1,r2,r3⟩ := at4 HZ.out;obtain ⟨f0,f1,f2,f3⟩ := fr4c HZ.out;have z0 := blk_lt HZ.out)) | (go_at_call 28;first | ((with_reducible refine (NC.out _).mono ?_);rintro e w' ⟨rfl,rfl⟩)) | (go_at_call 41;refine (IR.out _ _ _ _).mono ?_;rintro e w' ⟨rfl,rfl⟩;rw [HIN.out]))
    refine bodyPost_ret (v := .tuple #[.agg #[.int .i64 0,.string ⟨#[]⟩,.slice none 0 0,.int .i64 0],.bool false]) (by simp [results,Tryz.results18,go_sem,r0,r1,r2,r3,f0,f1,f2,f3,z0]) rfl ?_
    exact ⟨(by have hK1 := HK.out;repeat (first | (with_reducible exact hK1) | (refine Keep.set ?_ _ _ (fun h _ => Nat.lt_irrefl _ h)) | (refine Keep.alloc ?_ _) | (refine Keep.drew ?_))),.inl ⟨by first | exact HN.out | (rw [HN.out]),rfl⟩⟩
  rw [if_neg hin] at ho
  have HIN := hyd (show inR xc 0 rs.size = true by unfold inR;rw [Bool.and_eq_true];simp only [decide_eq_true_eq];omega)
  obtain ⟨n,rfl⟩ := Int.eq_ofNat_of_zero_le (show 0 ≤ xc by omega)
  have hns : n ≤ rs.size := by omega
  clear hin
  rw [Int.toNat_natCast,← hrl] at ho
  have hdl : (rs.extract n rs.size).data.toList = rs.data.toList.drop n := rest_data rs n
  obtain ⟨tb,htb⟩ : ∃ tb,rs.extract 0 n = tb := ⟨_,rfl⟩
  have htl : (⟨(rs.data.toList.take n).toArray⟩ : ByteArray) = tb := by rw [← htb,take_eq]
  rw [htl] at ho
  have hts : tb.size ≤ t.size := by rw [← htb,ByteArray.size_extract];omega
  have hq : (0 : Int) ≤ (n : Int) := by omega
  have hq1 : (n : Int) ≤ (rs.size : Int) := by omega
  have HDL := hyd hdl
  clear hdl htl hrl
  rcases hgv : scells 6 (rs.data.toList.drop n) with _ | g
  · rw [hgv] at ho
    have HN := hyd ho
    have GG := hyd (l9Cells_none (t := rs.extract n rs.size) (by rw [ByteArray.size_extract];omega) (by rw [HDL.out];exact hgv))
    clear hgv ho
    go_enter Tryz.func18,Tryz.ntmps18
    go_wp2_with (first | (go_at_call 40;first | ((with_reducible refine (C1.out _).mono ?_);rintro e wA ⟨rfl,hKA⟩;replace HK := hyd (HK.out.trans hKA);replace HZ := hyd (blk_keep hKA HZ.out trivial);clear hKA;clear r0 r1 r2 r3 f0 f1 f2 f3 z0;obtain ⟨r0,r1,r2,r3⟩ := at4 HZ.out;obtain ⟨f0,f1,f2,f3⟩ := fr4c HZ.out;have z0 := blk_lt HZ.out) | ((with_reducible refine (C2.out _).mono ?_);rintro e wA ⟨rfl,hKA⟩;replace HK := hyd (HK.out.trans hKA);replace HZ := hyd (blk_keep hKA HZ.out trivial);clear hKA;clear r0 r1 r2 r3 f0 f1 f2 f3 z0;obtain ⟨r0,r1,r2,r3⟩ := at4 HZ.out;obtain ⟨f0,f1,f2,f3⟩ := fr4c HZ.out;have z0 := blk_lt HZ.out) | ((with_reducible refine (C3.out _).mono ?_);rintro e wA ⟨rfl,hKA⟩;replace HK := hyd (HK.out.trans hKA);replace HZ := hyd (blk_keep hKA HZ.out trivial);clear hKA;clear r0 r1 r2 r3 f0 f1 f2 f3 z0;obtain ⟨r0,r1,r2,r3⟩ := at4 HZ.out;obtain ⟨f0,f1,f2,f3⟩ := fr4c HZ.out;have z0 := blk_lt HZ.out)) | (go_at_call 28;first | ((with_reducible refine (NC.out _).mono ?_);rintro e w' ⟨rfl,rfl⟩) | ((with_reducible refine (NA.out _).mono ?_);rintro e w' ⟨rfl,rfl⟩) | ((with_reducible refine (NB.out _).mono ?_);rintro e w' ⟨rfl,rfl⟩)) | (go_at_call 41;refine (IR.out _ _ _ _).mono ?_;rintro e w' ⟨rfl,rfl⟩;rw [HIN.out]) | (go_at_call 42;refine (GG.out _).mono ?_;rintro e wA ⟨⟨ga,gn,gc,rfl⟩,hKA⟩;replace HK := hyd (HK.out.trans hKA);replace HZ := hyd (blk_keep hKA HZ.out trivial);clear hKA;clear r0 r1 r2 r3 f0 f1 f2 f3 z0;obtain ⟨r0,r1,r2,r3⟩ := at4 HZ.out;obtain ⟨f0,f1,f2,f3⟩ := fr4c HZ.out;have z0 := blk_lt HZ.out))
    go_region_with ((go_at_call 28;first | ((with_reducible refine (NA.out _).mono ?_);rintro e w' ⟨rfl,rfl⟩) | ((with_reducible refine (NB.out _).mono ?_);rintro e w' ⟨rfl,rfl⟩)))
    all_goals
      go_wp2
      refine bodyPost_ret (v := .tuple #[.agg #[.int .i64 0,.string ⟨#[]⟩,.slice none 0 0,.int .i64 0],.bool false]) (by simp [results,Tryz.results18,go_sem,r0,r1,r2,r3,f0,f1,f2,f3,z0]) rfl ?_
      exact ⟨(by have hK1 := HK.out;repeat (first | (with_reducible exact hK1) | (refine Keep.set ?_ _ _ (fun h _ => Nat.lt_irrefl _ h)) | (refine Keep.alloc ?_ _) | (refine Keep.drew ?_))),.inl ⟨by first | exact HN.out | (rw [HN.out]),rfl⟩⟩
  rw [hgv] at ho
  simp only at ho
  have GG := hyd (l9Cells_some (t := rs.extract n rs.size) (by rw [ByteArray.size_extract];omega) (by rw [HDL.out];exact hgv))
  clear hgv
  have MO := hyd (specMsgOk_calls ⟨xa,tb,g,xb⟩)
  have MP := hyd (l9Msg_calls ⟨xa,tb,g,xb⟩)
  rcases hok : okM ⟨xa,tb,g,xb⟩ with _ | _
  · rw [msgOf,if_neg (by rw [hok];simp)] at ho
    have HN := hyd ho
    have HOK := hyd hok
    clear hok ho
    go_enter Tryz.func18,Tryz.ntmps18
    go_wp2_with (first | (go_at_call 40;first | ((with_reducible refine (C1.out _).mono ?_);rintro e wA ⟨rfl,hKA⟩;replace HK := hyd (HK.out.trans hKA);replace HZ := hyd (blk_keep hKA HZ.out trivial);clear hKA;clear r0 r1 r2 r3 f0 f1 f2 f3 z0;obtain ⟨r0,r1,r2,r3⟩ := at4 HZ.out;obtain ⟨f0,f1,f2,f3⟩ := fr4c HZ.out;have z0 := blk_lt HZ.out) | ((with_reducible refine (C2.out _).mono ?_);rintro e wA ⟨rfl,hKA⟩;replace HK := hyd (HK.out.trans hKA);replace HZ := hyd (blk_keep hKA HZ.out trivial);clear hKA;clear r0 r1 r2 r3 f0 f1 f2 f3 z0;obtain ⟨r0,r1,r2,r3⟩ := at4 HZ.out;obtain ⟨f0,f1,f2,f3⟩ := fr4c HZ.out;have z0 := blk_lt HZ.out) | ((with_reducible refine (C3.out _).mono ?_);rintro e wA ⟨rfl,hKA⟩;replace HK := hyd (HK.out.trans hKA);replace HZ := hyd (blk_keep hKA HZ.out trivial);clear hKA;clear r0 r1 r2 r3 f0 f1 f2 f3 z0;obtain ⟨r0,r1,r2,r3⟩ := at4 HZ.out;obtain ⟨f0,f1,f2,f3⟩ := fr4c HZ.out;have z0 := blk_lt HZ.out)) | (go_at_call 28;first | ((with_reducible refine (NC.out _).mono ?_);rintro e w' ⟨rfl,rfl⟩) | ((with_reducible refine (NA.out _).mono ?_);rintro e w' ⟨rfl,rfl⟩) | ((with_reducible refine (NB.out _).mono ?_);rintro e w' ⟨rfl,rfl⟩)) | (go_at_call 41;refine (IR.out _ _ _ _).mono ?_;rintro e w' ⟨rfl,rfl⟩;rw [HIN.out]) | (go_at_call 42;refine (GG.out _).mono ?_;rintro e wA ⟨ga,gc,rfl,hKA,hSA⟩;have HL := hyd (Nat.lt_of_lt_of_le (blk_lt HZ.out) (Nat.le_refl _));have HSM := hyd (show SM _ _ ⟨xa,tb,g,xb⟩ [.int .i64 xa,.string tb,.slice ga g.length gc,.int .i64 xb] from ⟨_,rfl,⟨by show (-9223372036854775808 : Int) ≤ xa;omega,by show xa ≤ 9223372036854775807;omega⟩,⟨by show (-9223372036854775808 : Int) ≤ xb;omega,by show xb ≤ 9223372036854775807;omega⟩,(show Fits tb by unfold Fits;omega),hSA⟩);have HSW := hyd (Nat.le_refl wA.heap.size);clear hSA;replace HK := hyd (HK.out.trans hKA);replace HZ := hyd (blk_keep hKA HZ.out trivial);clear hKA;clear r0 r1 r2 r3 f0 f1 f2 f3 z0;obtain ⟨r0,r1,r2,r3⟩ := at4 HZ.out;obtain ⟨f0,f1,f2,f3⟩ := fr4c HZ.out;have z0 := blk_lt HZ.out))
    go_region_with ((go_at_call 28;first | ((with_reducible refine (NA.out _).mono ?_);rintro e w' ⟨rfl,rfl⟩) | ((with_reducible refine (NB.out _).mono ?_);rintro e w' ⟨rfl,rfl⟩)))
    all_goals
      go_wp2_with ((go_at_call 37;refine (MO.out _ _ (SM.mr (HSM.out.keep (by repeat (first | (with_reducible exact Keep.refl _ _) | (refine Keep.drew ?_) | (refine Keep.alloc ?_ _)))))).mono ?_;rintro e w4 ⟨rfl,hK4⟩;rw [HOK.out];replace HSM := hyd ((HSM.out.keep (by repeat (first | (with_reducible exact Keep.refl _ _) | (refine Keep.drew ?_) | (refine Keep.alloc ?_ _)))).keep hK4.any);replace HSW := hyd (Nat.le_trans HSW.out (Nat.le_trans (by simp) hK4.size));replace HK := hyd (Keep.trans (Keep.trans HK.out (by repeat (first | (with_reducible exact Keep.refl _ _) | (refine Keep.drew ?_) | (refine Keep.alloc ?_ _)))) hK4);replace HZ := hyd (blk_keep hK4 (by first | exact blk_alloc HZ.out _ | exact blk_alloc (w := _) HZ.out _) trivial);have HM := hyd (blk_keep hK4 (blk_new _ _) trivial);clear hK4;clear r0 r1 r2 r3 f0 f1 f2 f3 z0;obtain ⟨r0,r1,r2,r3⟩ := at4 HZ.out;obtain ⟨f0,f1,f2,f3⟩ := fr4c HZ.out;have z0 := blk_lt HZ.out;obtain ⟨m0,m1,m2,m3⟩ := at4 HM.out;have k0 := blk_frozen HM.out 0;have z1 := blk_lt HM.out))
      refine bodyPost_ret (v := .tuple #[.agg #[.int .i64 0,.string ⟨#[]⟩,.slice none 0 0,.int .i64 0],.bool false]) (by simp [results,Tryz.results18,go_sem,r0,r1,r2,r3,f0,f1,f2,f3,z0]) rfl ?_
      exact ⟨(by have hK1 := HK.out;repeat (first | (with_reducible exact hK1) | (refine Keep.set ?_ _ _ (fun h _ => Nat.lt_irrefl _ h)) | (refine Keep.alloc ?_ _) | (refine Keep.drew ?_))),.inl ⟨by first | exact HN.out | (rw [HN.out]),rfl⟩⟩
  obtain ⟨p,hp⟩ : ∃ p,(⟨(sayTxt ⟨xa,tb,g,xb⟩).toArray⟩ : ByteArray) = p := ⟨_,rfl⟩
  have HP := hyd (show Ending.returned (.string ⟨(sayTxt ⟨xa,tb,g,xb⟩).toArray⟩) = .returned (.string p) by rw [hp])
  have HOK := hyd hok
  by_cases hpt : p = t
  · rw [msgOf,if_pos ⟨hok,by rw [← hpt,← hp]⟩] at ho
    have HO4 := hyd ho
    subst hpt
    have b1 : (p.toList != p.toList) = false := by simp
    clear hok hp ho
    go_enter Tryz.func18,Tryz.ntmps18
    go_wp2_with (first | (go_at_call 40;first | ((with_reducible refine (C1.out _).mono ?_);rintro e wA ⟨rfl,hKA⟩;replace HK := hyd (HK.out.trans hKA);replace HZ := hyd (blk_keep hKA HZ.out trivial);clear hKA;clear r0 r1 r2 r3 f0 f1 f2 f3 z0;obtain ⟨r0,r1,r2,r3⟩ := at4 HZ.out;obtain ⟨f0,f1,f2,f3⟩ := fr4c HZ.out;have z0 := blk_lt HZ.out) | ((with_reducible refine (C2.out _).mono ?_);rintro e wA ⟨rfl,hKA⟩;replace HK := hyd (HK.out.trans hKA);replace HZ := hyd (blk_keep hKA HZ.out trivial);clear hKA;clear r0 r1 r2 r3 f0 f1 f2 f3 z0;obtain ⟨r0,r1,r2,r3⟩ := at4 HZ.out;obtain ⟨f0,f1,f2,f3⟩ := fr4c HZ.out;have z0 := blk_lt HZ.out) | ((with_reducible refine (C3.out _).mono ?_);rintro e wA ⟨rfl,hKA⟩;replace HK := hyd (HK.out.trans hKA);replace HZ := hyd (blk_keep hKA HZ.out trivial);clear hKA;clear r0 r1 r2 r3 f0 f1 f2 f3 z0;obtain ⟨r0,r1,r2,r3⟩ := at4 HZ.out;obtain ⟨f0,f1,f2,f3⟩ := fr4c HZ.out;have z0 := blk_lt HZ.out)) | (go_at_call 28;first | ((with_reducible refine (NC.out _).mono ?_);rintro e w' ⟨rfl,rfl⟩) | ((with_reducible refine (NA.out _).mono ?_);rintro e w' ⟨rfl,rfl⟩) | ((with_reducible refine (NB.out _).mono ?_);rintro e w' ⟨rfl,rfl⟩)) | (go_at_call 41;refine (IR.out _ _ _ _).mono ?_;rintro e w' ⟨rfl,rfl⟩;rw [HIN.out]) | (go_at_call 42;refine (GG.out _).mono ?_;rintro e wA ⟨ga,gc,rfl,hKA,hSA⟩;have HL := hyd (Nat.lt_of_lt_of_le (blk_lt HZ.out) (Nat.le_refl _));have HSM := hyd (show SM _ _ ⟨xa,tb,g,xb⟩ [.int .i64 xa,.string tb,.slice ga g.length gc,.int .i64 xb] from ⟨_,rfl,⟨by show (-9223372036854775808 : Int) ≤ xa;omega,by show xa ≤ 9223372036854775807;omega⟩,⟨by show (-9223372036854775808 : Int) ≤ xb;omega,by show xb ≤ 9223372036854775807;omega⟩,(show Fits tb by unfold Fits;omega),hSA⟩);have HSW := hyd (Nat.le_refl wA.heap.size);clear hSA;replace HK := hyd (HK.out.trans hKA);replace HZ := hyd (blk_keep hKA HZ.out trivial);clear hKA;clear r0 r1 r2 r3 f0 f1 f2 f3 z0;obtain ⟨r0,r1,r2,r3⟩ := at4 HZ.out;obtain ⟨f0,f1,f2,f3⟩ := fr4c HZ.out;have z0 := blk_lt HZ.out))
    go_region_with ((go_at_call 28;first | ((with_reducible refine (NA.out _).mono ?_);rintro e w' ⟨rfl,rfl⟩) | ((with_reducible refine (NB.out _).mono ?_);rintro e w' ⟨rfl,rfl⟩)))
    all_goals
      go_wp2_with (first | (go_at_call 37;refine (MO.out _ _ (SM.mr (HSM.out.keep (by repeat (first | (with_reducible exact Keep.refl _ _) | (refine Keep.drew ?_) | (refine Keep.alloc ?_ _)))))).mono ?_;rintro e w4 ⟨rfl,hK4⟩;rw [HOK.out];replace HSM := hyd ((HSM.out.keep (by repeat (first | (with_reducible exact Keep.refl _ _) | (refine Keep.drew ?_) | (refine Keep.alloc ?_ _)))).keep hK4.any);replace HSW := hyd (Nat.le_trans HSW.out (Nat.le_trans (by simp) hK4.size));replace HK := hyd (Keep.trans (Keep.trans HK.out (by repeat (first | (with_reducible exact Keep.refl _ _) | (refine Keep.drew ?_) | (refine Keep.alloc ?_ _)))) hK4);replace HZ := hyd (blk_keep hK4 (by first | exact blk_alloc HZ.out _ | exact blk_alloc (w := _) HZ.out _) trivial);have HM := hyd (blk_keep hK4 (blk_new _ _) trivial);clear hK4;clear r0 r1 r2 r3 f0 f1 f2 f3 z0;obtain ⟨r0,r1,r2,r3⟩ := at4 HZ.out;obtain ⟨f0,f1,f2,f3⟩ := fr4c HZ.out;have z0 := blk_lt HZ.out;obtain ⟨m0,m1,m2,m3⟩ := at4 HM.out;have k0 := blk_frozen HM.out 0;have z1 := blk_lt HM.out) | (go_at_call 38;refine (MP.out _ _ (SM.mr HSM.out) HOK.out).mono ?_;rintro e w5 ⟨rfl,hK5⟩;rw [HP.out];replace HSM := hyd (HSM.out.keep hK5.any);replace HSW := hyd (Nat.le_trans HSW.out hK5.size);replace HK := hyd (HK.out.trans hK5);replace HZ := hyd (blk_keep hK5 HZ.out trivial);replace HM := hyd (blk_keep hK5 HM.out trivial);clear hK5;clear r0 r1 r2 r3 f0 f1 f2 f3 z0 m0 m1 m2 m3 k0 z1;obtain ⟨r0,r1,r2,r3⟩ := at4 HZ.out;obtain ⟨f0,f1,f2,f3⟩ := fr4c HZ.out;have z0 := blk_lt HZ.out;obtain ⟨m0,m1,m2,m3⟩ := at4 HM.out;have k0 := blk_frozen HM.out 0;have z1 := blk_lt HM.out))
      refine bodyPost_ret (v := .tuple #[.agg #[.int .i64 xa,.string tb,.slice ga g.length gc,.int .i64 xb],.bool true]) (by simp [results,Tryz.results18,go_sem,r0,r1,r2,r3,f0,f1,f2,f3,z0]) rfl ?_
      refine ⟨(by have hK1 := HK.out;repeat (first | (with_reducible exact hK1) | (refine Keep.set ?_ _ _ (fun h _ => Nat.lt_irrefl _ h)))),.inr ⟨_,ga,gc,HO4.out,rfl,?_⟩⟩
      have HF := HSM.out
      have HW := HSW.out
      refine SM.mono (SM.keep HF (w' := _) ?_) fun j hj => ⟨Nat.le_trans (Nat.le_of_lt HL.out) hj.1,by have h2 := hj.2;simp;omega⟩
      repeat (first | (with_reducible exact Keep.refl _ _) | (refine Keep.set ?_ _ _ (fun _ h => Nat.lt_irrefl _ (Nat.lt_of_lt_of_le HL.out h.1))))
  · rw [msgOf,if_neg (fun h => hpt (by rw [← hp,h.2,bytes_eta]))] at ho
    have HN := hyd ho
    have b1 : (p.toList != t.toList) = true := by rw [bne_iff_ne,ByteArray.toList_eq,ByteArray.toList_eq];exact fun e => hpt (ByteArray.ext (Array.ext' e))
    have b2 : (p.toList == t.toList) = false := by rw [bne] at b1;simpa using b1
    have b3 : ¬ p.toList = t.toList := by simpa using b2
    clear hok hp ho
    go_enter Tryz.func18,Tryz.ntmps18
    go_wp2_with (first | (go_at_call 40;first | ((with_reducible refine (C1.out _).mono ?_);rintro e wA ⟨rfl,hKA⟩;replace HK := hyd (HK.out.trans hKA);replace HZ := hyd (blk_keep hKA HZ.out trivial);clear hKA;clear r0 r1 r2 r3 f0 f1 f2 f3 z0;obtain ⟨r0,r1,r2,r3⟩ := at4 HZ.out;obtain ⟨f0,f1,f2,f3⟩ := fr4c HZ.out;have z0 := blk_lt HZ.out) | ((with_reducible refine (C2.out _).mono ?_);rintro e wA ⟨rfl,hKA⟩;replace HK := hyd (HK.out.trans hKA);replace HZ := hyd (blk_keep hKA HZ.out trivial);clear hKA;clear r0 r1 r2 r3 f0 f1 f2 f3 z0;obtain ⟨r0,r1,r2,r3⟩ := at4 HZ.out;obtain ⟨f0,f1,f2,f3⟩ := fr4c HZ.out;have z0 := blk_lt HZ.out) | ((with_reducible refine (C3.out _).mono ?_);rintro e wA ⟨rfl,hKA⟩;replace HK := hyd (HK.out.trans hKA);replace HZ := hyd (blk_keep hKA HZ.out trivial);clear hKA;clear r0 r1 r2 r3 f0 f1 f2 f3 z0;obtain ⟨r0,r1,r2,r3⟩ := at4 HZ.out;obtain ⟨f0,f1,f2,f3⟩ := fr4c HZ.out;have z0 := blk_lt HZ.out)) | (go_at_call 28;first | ((with_reducible refine (NC.out _).mono ?_);rintro e w' ⟨rfl,rfl⟩) | ((with_reducible refine (NA.out _).mono ?_);rintro e w' ⟨rfl,rfl⟩) | ((with_reducible refine (NB.out _).mono ?_);rintro e w' ⟨rfl,rfl⟩)) | (go_at_call 41;refine (IR.out _ _ _ _).mono ?_;rintro e w' ⟨rfl,rfl⟩;rw [HIN.out]) | (go_at_call 42;refine (GG.out _).mono ?_;rintro e wA ⟨ga,gc,rfl,hKA,hSA⟩;have HL := hyd (Nat.lt_of_lt_of_le (blk_lt HZ.out) (Nat.le_refl _));have HSM := hyd (show SM _ _ ⟨xa,tb,g,xb⟩ [.int .i64 xa,.string tb,.slice ga g.length gc,.int .i64 xb] from ⟨_,rfl,⟨by show (-9223372036854775808 : Int) ≤ xa;omega,by show xa ≤ 9223372036854775807;omega⟩,⟨by show (-9223372036854775808 : Int) ≤ xb;omega,by show xb ≤ 9223372036854775807;omega⟩,(show Fits tb by unfold Fits;omega),hSA⟩);have HSW := hyd (Nat.le_refl wA.heap.size);clear hSA;replace HK := hyd (HK.out.trans hKA);replace HZ := hyd (blk_keep hKA HZ.out trivial);clear hKA;clear r0 r1 r2 r3 f0 f1 f2 f3 z0;obtain ⟨r0,r1,r2,r3⟩ := at4 HZ.out;obtain ⟨f0,f1,f2,f3⟩ := fr4c HZ.out;have z0 := blk_lt HZ.out))
    go_region_with ((go_at_call 28;first | ((with_reducible refine (NA.out _).mono ?_);rintro e w' ⟨rfl,rfl⟩) | ((with_reducible refine (NB.out _).mono ?_);rintro e w' ⟨rfl,rfl⟩)))
    all_goals
      go_wp2_with (first | (go_at_call 37;refine (MO.out _ _ (SM.mr (HSM.out.keep (by repeat (first | (with_reducible exact Keep.refl _ _) | (refine Keep.drew ?_) | (refine Keep.alloc ?_ _)))))).mono ?_;rintro e w4 ⟨rfl,hK4⟩;rw [HOK.out];replace HSM := hyd ((HSM.out.keep (by repeat (first | (with_reducible exact Keep.refl _ _) | (refine Keep.drew ?_) | (refine Keep.alloc ?_ _)))).keep hK4.any);replace HSW := hyd (Nat.le_trans HSW.out (Nat.le_trans (by simp) hK4.size));replace HK := hyd (Keep.trans (Keep.trans HK.out (by repeat (first | (with_reducible exact Keep.refl _ _) | (refine Keep.drew ?_) | (refine Keep.alloc ?_ _)))) hK4);replace HZ := hyd (blk_keep hK4 (by first | exact blk_alloc HZ.out _ | exact blk_alloc (w := _) HZ.out _) trivial);have HM := hyd (blk_keep hK4 (blk_new _ _) trivial);clear hK4;clear r0 r1 r2 r3 f0 f1 f2 f3 z0;obtain ⟨r0,r1,r2,r3⟩ := at4 HZ.out;obtain ⟨f0,f1,f2,f3⟩ := fr4c HZ.out;have z0 := blk_lt HZ.out;obtain ⟨m0,m1,m2,m3⟩ := at4 HM.out;have k0 := blk_frozen HM.out 0;have z1 := blk_lt HM.out) | (go_at_call 38;refine (MP.out _ _ (SM.mr HSM.out) HOK.out).mono ?_;rintro e w5 ⟨rfl,hK5⟩;rw [HP.out];replace HSM := hyd (HSM.out.keep hK5.any);replace HSW := hyd (Nat.le_trans HSW.out hK5.size);replace HK := hyd (HK.out.trans hK5);replace HZ := hyd (blk_keep hK5 HZ.out trivial);replace HM := hyd (blk_keep hK5 HM.out trivial);clear hK5;clear r0 r1 r2 r3 f0 f1 f2 f3 z0 m0 m1 m2 m3 k0 z1;obtain ⟨r0,r1,r2,r3⟩ := at4 HZ.out;obtain ⟨f0,f1,f2,f3⟩ := fr4c HZ.out;have z0 := blk_lt HZ.out;obtain ⟨m0,m1,m2,m3⟩ := at4 HM.out;have k0 := blk_frozen HM.out 0;have z1 := blk_lt HM.out))
      refine bodyPost_ret (v := .tuple #[.agg #[.int .i64 0,.string ⟨#[]⟩,.slice none 0 0,.int .i64 0],.bool false]) (by simp [results,Tryz.results18,go_sem,r0,r1,r2,r3,f0,f1,f2,f3,z0]) rfl ?_
      exact ⟨(by have hK1 := HK.out;repeat (first | (with_reducible exact hK1) | (refine Keep.set ?_ _ _ (fun h _ => Nat.lt_irrefl _ h)) | (refine Keep.alloc ?_ _) | (refine Keep.drew ?_))),.inl ⟨by first | exact HN.out | (rw [HN.out]),rfl⟩⟩
end Go.Proofs.YtjopkcjpedgoaaaGreatDoor

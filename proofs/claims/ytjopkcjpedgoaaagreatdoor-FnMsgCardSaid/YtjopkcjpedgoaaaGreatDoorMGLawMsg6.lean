/- The text of what is said: what the program's MsgPut writes. For every message. -/
import Derived.Test.YtjopkcjpedgoaaaGreatDoorMGLawMsg2
import Derived.Test.YtjopkcjpedgoaaaGreatDoorMGLawMsg3
import Derived.Test.YtjopkcjpedgoaaaGreatDoorMGLawMsg0
import Derived.Test.YtjopkcjpedgoaaaGreatDoorMG1
/- The text of what is said: what the program's MsgPut writes. For every message. -/
namespace Go.Proofs.YtjopkcjpedgoaaaGreatDoor
open Go.RowKit
set_option linter.unusedVariables false
set_option linter.unusedSimpArgs false
set_option maxRecDepth 20000
set_option maxHeartbeats 2000000
def nums3 (m : Ms) (k : Nat) : List UInt8 := if k = 0 then [] else if k = 1 then numTxt m.kind else if k = 2 then numTxt m.kind ++ numTxt m.num else headTxt m
theorem isb_string (b : Nat) (l : List UInt8) (w : World) (h : IsB b l w) : Calls Tryz.prog 33 #[.pointer (some ⟨b,0,none⟩)] w fun e w' => e = .returned (.string ⟨l.toArray⟩) ∧ Keep (fun k => k < b) w w' :=
  (Tryz.Builder_String_any b b l w h (by have := h.lt;omega)).mono fun e w' ⟨he,hb⟩ => ⟨he,⟨hb.os,hb.tape,hb.output,hb.size,fun k _ hk => hb.block k hk⟩⟩
theorem num_app (l : List UInt8) : ((⟨l.toArray⟩ : ByteArray) ++ ⟨#[32]⟩).data.toList = l ++ [32] := by simp [ByteArray.data_append]
theorem ce_app (n : ByteArray) (l : List UInt8) : ((⟨#[10]⟩ : ByteArray) ++ n ++ ⟨#[61]⟩ ++ ⟨l.toArray⟩).data.toList = 10 :: (n.data.toList ++ 61 :: l) := by simp [ByteArray.data_append]
theorem ce_size (n : ByteArray) (l : List UInt8) : ((⟨#[10]⟩ : ByteArray) ++ n ++ ⟨#[61]⟩ ++ ⟨l.toArray⟩).size = n.size + l.length + 2 := by
  rw [Lib.size_eq,ce_app,Lib.size_eq];simp;omega
theorem num_size (l : List UInt8) : ((⟨l.toArray⟩ : ByteArray) ++ ⟨#[32]⟩).size = l.length + 1 := by rw [Lib.size_eq,num_app];simp
theorem nums3_len (m : Ms) : (nums3 m 0).length = 0 ∧ (nums3 m 1).length = (Lib.itoa m.kind).length + 1 ∧ (nums3 m 2).length = (Lib.itoa m.kind).length + 1 + (Lib.itoa m.num).length + 1 := by
  refine ⟨rfl,by simp [nums3,numTxt],by simp [nums3,numTxt];omega⟩
theorem idx3 (a b c : Value) (k : Nat) (hk : k < 3) (w : World) : (Instr.index 55 (.agg #[a,b,c]) (.int .i64 k)).run Tryz.prog w = .ok (if k = 0 then a else if k = 1 then b else c) w := by
  have u := run_underlying (w := w) Tryz.underlying55
  obtain rfl | rfl | rfl : k = 0 ∨ k = 1 ∨ k = 2 := by omega
  all_goals simp [Instr.index,go_sem,u]
theorem implMsgPut_calls (m : Ms) (cs : List Value) (w : World) (hm : MR w Any m cs) (ht : Tab w) : Calls Tryz.prog 13 #[.agg cs.toArray] w (Str (msgTxt m) w) := by
  have F := hyd fun w' (hk : Keep Any w w') => msgOk_calls m cs w' (hm.keep hk)
  have HT := hyd ht
  have W := hyd write_calls
  have ST := hyd isb_string
  clear ht
  obtain ⟨s,rfl,h1,h2,h3,h4⟩ := hm
  rcases hf : okM m with _ | _
  · have HF := hyd hf
    clear hf h4
    rw [msgTxt,HF.out]
    go_enter Tryz.func13,Tryz.ntmps13
    go_wp2_with (go_at_call 30;refine (F.out _ ((Keep.refl _ _).alloc _)).mono ?_;rintro e w2 ⟨he,hK⟩;rw [HF.out] at he;subst he)
    go_ret
    exact ⟨rfl,((Keep.refl _ _).alloc _).trans hK⟩
  · obtain ⟨g1,g2,g3,g4,g5,g6,g7⟩ := okM_facts hf
    have HF := hyd hf
    have G7 := hyd g7
    have H4 := hyd h4
    have l0 := itoa_len2 m.kind (by omega) (by omega)
    have l1 := itoa_len2 m.num (by omega) (by omega)
    have l2 := itoa_len2 m.text.size (by omega) (by omega)
    have IT := hyd itoa_calls
    have hh := headTxt_len hf
    have SL := hyd (fun k => sayUpto_len (k := k) hf)
    obtain ⟨ad,c,rfl,hc,hm,_⟩ := h4
    rw [msgTxt,HF.out]
    clear hf g7
    go_enter Tryz.func13,Tryz.ntmps13
    go_wp2_with (go_at_call 30;refine (F.out _ ((Keep.refl _ _).alloc _)).mono ?_;rintro e w2 ⟨he,hK⟩;rw [HF.out] at he;subst he;have HB := hyd (blk_keep hK (blk_new _ _) trivial);have x0 := blk_cell HB.out 0;have x1 := blk_cell HB.out 1;have x3 := blk_cell HB.out 3;simp only [List.getElem?_toArray,List.getElem?_cons_succ,List.getElem?_cons_zero] at x0 x1 x3;have K2 := hyd (((Keep.refl Any w).alloc _).trans hK);clear hK;have zb : w.heap.size < w2.heap.size := blk_lt HB.out)
    go_loopg [19] 4 (fun g i wr => ∃ k : Nat,k ≤ 3 ∧ i = .int .i64 k ∧ g = 4 - k ∧ IsB w2.heap.size (nums3 m k) wr ∧ Keep Any w2 wr)
    case atStart => exact ⟨0,by omega,rfl,rfl,IsB.made _,(Keep.refl _ _).alloc _⟩
    case round =>
      obtain ⟨k,hk,rfl,hg,hB,hK⟩ := hrel
      have HG := hyd hg
      have HI := hyd hB
      clear hg hB
      obtain rfl | rfl | rfl | rfl : k = 0 ∨ k = 1 ∨ k = 2 ∨ k = 3 := by omega
      · have ix : (Instr.index 55 (.agg #[.int .i64 m.kind,.int .i64 m.num,.int .i64 m.text.size]) (.int .i64 0)).run Tryz.prog wr = .ok (.int .i64 m.kind) wr := idx3 _ _ _ 0 (by omega) wr
        go_wp2_with (first | (go_at_call 23;refine (IT.out _ _ (by omega) (by omega) ((HT.out.keep K2.out trivial).keep hK trivial)).mono ?_;rintro e w3 ⟨rfl,hK3⟩) | (go_at_call 31;refine (W.out _ _ _ _ (HI.out.keep hK3) (by rw [num_size];have := nums3_len m;omega)).mono ?_;rintro e w4 ⟨rfl,hB4,hK4⟩;have HB4 := hyd hB4;clear hB4))
        go_roundg (gk - 1)
        case rel => exact ⟨1,by omega,rfl,by have := HG.out;omega,by have := HB4.out;rw [num_app] at this;exact this,(hK.trans hK3).then hK4 (fun i hi _ => hi)⟩
        case measure => have := HG.out;omega
      · have ix : (Instr.index 55 (.agg #[.int .i64 m.kind,.int .i64 m.num,.int .i64 m.text.size]) (.int .i64 1)).run Tryz.prog wr = .ok (.int .i64 m.num) wr := idx3 _ _ _ 1 (by omega) wr
        go_wp2_with (first | (go_at_call 23;refine (IT.out _ _ (by omega) (by omega) ((HT.out.keep K2.out trivial).keep hK trivial)).mono ?_;rintro e w3 ⟨rfl,hK3⟩) | (go_at_call 31;refine (W.out _ _ _ _ (HI.out.keep hK3) (by rw [num_size];have := nums3_len m;omega)).mono ?_;rintro e w4 ⟨rfl,hB4,hK4⟩;have HB4 := hyd hB4;clear hB4))
        go_roundg (gk - 1)
        case rel => exact ⟨2,by omega,rfl,by have := HG.out;omega,by have := HB4.out;rw [num_app] at this;exact this,(hK.trans hK3).then hK4 (fun i hi _ => hi)⟩
        case measure => have := HG.out;omega
      · have ix : (Instr.index 55 (.agg #[.int .i64 m.kind,.int .i64 m.num,.int .i64 m.text.size]) (.int .i64 2)).run Tryz.prog wr = .ok (.int .i64 m.text.size) wr := idx3 _ _ _ 2 (by omega) wr
        go_wp2_with (first | (go_at_call 23;refine (IT.out _ _ (by omega) (by omega) ((HT.out.keep K2.out trivial).keep hK trivial)).mono ?_;rintro e w3 ⟨rfl,hK3⟩) | (go_at_call 31;refine (W.out _ _ _ _ (HI.out.keep hK3) (by rw [num_size];have := nums3_len m;omega)).mono ?_;rintro e w4 ⟨rfl,hB4,hK4⟩;have HB4 := hyd hB4;clear hB4))
        go_roundg (gk - 1)
        case rel => exact ⟨3,by omega,rfl,by have := HG.out;omega,by have := HB4.out;rw [num_app] at this;have e2 : nums3 m 3 = nums3 m 2 ++ (Lib.itoa m.text.size ++ [32]) := (by simp [nums3,headTxt,numTxt]);rw [e2];exact this,(hK.trans hK3).then hK4 (fun i hi _ => hi)⟩
        case measure => have := HG.out;omega
      · have HBr := hyd (blk_keep hK HB.out trivial)
        have y1 := blk_cell HBr.out 1
        simp only [List.getElem?_toArray,List.getElem?_cons_succ,List.getElem?_cons_zero] at y1
        clear x0 x1 x3
        have e3 : nums3 m 3 ++ m.text.data.toList = sayUpto m 0 := by simp [nums3,sayUpto,givenTxt]
        have E3 := hyd e3
        clear e3
        go_wp2_with (go_at_call 31;refine (W.out _ _ _ _ HI.out (by have e : nums3 m 3 = headTxt m := rfl;rw [e];omega)).mono ?_;rintro e w4 ⟨rfl,hB4,hK4⟩;rw [E3.out] at hB4;have HB4 := hyd hB4;clear hB4;have K4 := hyd (hK.then hK4 (fun i hi _ => hi));have z2 := blk_cell (blk_keep K4.out HB.out trivial) 2;simp only [List.getElem?_toArray,List.getElem?_cons_succ,List.getElem?_cons_zero] at z2)
        go_loopg [33] (m.given.length + 1) (fun g i wr => ∃ k : Nat,k ≤ m.given.length ∧ i = .int .i64 k ∧ g = m.given.length + 1 - k ∧ IsB w2.heap.size (sayUpto m k) wr ∧ Keep Any w2 wr)
        case atStart => exact ⟨0,by omega,rfl,rfl,HB4.out,K4.out⟩
        case round =>
          clear hK4 HBr y1 z2 hK HI HB4 K4 HG
          obtain ⟨k,hk,rfl,hg,hB,hK⟩ := hrel
          have HG := hyd hg
          have HI := hyd hB
          clear hg hB
          by_cases hlt : k < m.given.length
          · have hx : m.given[k]? = some m.given[k] := List.getElem?_eq_getElem hlt
            have HX := hyd hx
            obtain ⟨ad,sa,sc,rfl,hN,hvx,c0,c1,c2,c3,c4⟩ := ces_at H4.out (K2.out.trans hK) hx
            obtain ⟨gn,gv⟩ := G7.out _ (List.mem_of_getElem? hx)
            have nl := name_size gn
            have pl := put_len3 gv (by omega)
            have GV := hyd gv
            have sl := SL.out k
            have hs1 := sayUpto_succ hx
            have HS1 := hyd hs1
            generalize m.given[k] = x at *
            have HV := hyd hvx
            have HK := hyd hK
            clear hx hvx gn gv hs1
            have wsz := hK.size
            clear hK
            go_wp2_with (fail)
            go_region_with (first | (go_at_call 32;refine (putOf_calls _ _ _ (HV.out.keep (((Keep.refl _ _).alloc _).drew)) GV.out ((((HT.out.keep K2.out trivial).keep HK.out trivial).keep (((Keep.refl Any _).alloc _).drew) trivial))).mono ?_;rintro e w5 ⟨rfl,hK5⟩;have HK5 := hyd (((Keep.refl Any _).alloc _).drew.trans hK5);have v0 := blk_cell (blk_keep hK5 (blk_new _ _) trivial) 0;simp only [List.getElem?_toArray,List.getElem?_cons_succ,List.getElem?_cons_zero] at v0;clear hK5) | (go_at_call 31;refine (W.out _ _ _ _ (HI.out.keep HK5.out) (by rw [ce_size];omega)).mono ?_;rintro e w6 ⟨rfl,hB6,hK6⟩;have HB6 := hyd hB6;clear hB6))
            all_goals
              go_wp2
              go_roundg (gk - 1)
              case rel => exact ⟨k + 1,by omega,by go_num,by have := HG.out;omega,by have := HB6.out;rw [ce_app] at this;rw [HS1.out];exact this,(HK.out.trans HK5.out).then hK6 (fun i hi _ => hi)⟩
              case measure => have := HG.out;omega
          · obtain rfl : k = m.given.length := by omega
            go_wp2_with (go_at_call 33;refine (ST.out _ _ _ HI.out).mono ?_;rintro e w5 ⟨rfl,hK5⟩)
            go_ret
            exact ⟨rfl,(K2.out.trans hK).then hK5 (fun i hi _ => by omega)⟩
end Go.Proofs.YtjopkcjpedgoaaaGreatDoor

/- Something that is said, drawn out of bytes. A text of what is said, drawn out of bytes. A frame's body, drawn out of bytes. The law FnFrames: what it computes, walked; a message's draw keeps its contract (taken as given here). The law FnMsg: what it computes, walked; a message's draw keeps its contract (taken as given here). -/
import Derived.Test.YtjopkcjpedgoaaaGreatDoorMG29
import Derived.Test.YtjopkcjpedgoaaaGreatDoorMGLawMsg0
import Derived.Test.YtjopkcjpedgoaaaGreatDoorMGLawMsg2
import Derived.Test.YtjopkcjpedgoaaaGreatDoorMGLawMsg7
import Derived.Test.YtjopkcjpedgoaaaGreatDoorMGLawMsg1
import Derived.Test.YtjopkcjpedgoaaaGreatDoorMGLawMsg6
import Derived.Test.YtjopkcjpedgoaaaGreatDoorMGLawMsg8
import Derived.Test.YtjopkcjpedgoaaaGreatDoorMGLawMsg10
/- Something that is said,drawn out of bytes. -/
namespace Go.Proofs.YtjopkcjpedgoaaaGreatDoor
open Go.RowKit
set_option linter.unusedVariables false
set_option linter.unusedSimpArgs false
set_option maxRecDepth 20000
set_option maxHeartbeats 4000000
def GotMr (w : World) (e : Ending) (w' : World) : Prop := ∃ (x : Ms) (ga : Option Addr) (gm : Nat),e = .returned (.agg #[.int .i64 x.kind,.string x.text,.slice ga x.given.length gm,.int .i64 x.num]) ∧ MR w' Any x [.int .i64 x.kind,.string x.text,.slice ga x.given.length gm,.int .i64 x.num] ∧ Keep Any w w'
theorem drawMsgPut_of (c : Nat) (hc : c ≤ 100000) (hM : MsgD c) (v : Value) (n : Nat) (w : World) (hv : BytIn w v n) : Calls Tryz.prog 12 #[v] w (GotMr w) := by
  have KW := hyd ((Keep.refl Any w).alloc (.cells #[.int .i64 0,.string ⟨#[]⟩,.slice none 0 0,.int .i64 0] 30 (0,0)))
  have BX := hyd (blk_new w (.cells #[.int .i64 0,.string ⟨#[]⟩,.slice none 0 0,.int .i64 0] 30 (0,0)))
  go_enter Tryz.func12,Tryz.ntmps12
  go_upto_region 1 with fail
  generalize w.alloc (.cells #[.int .i64 0,.string ⟨#[]⟩,.slice none 0 0,.int .i64 0] 30 (0,0)) = w1 at *
  have BX1 := hyd BX.out
  go_wp2_with (first | (go_at_call 19;refine (l1Open_calls v n w1 ((hv.keep KW.out).byt (Nat.le_refl _))).mono ?_;rintro e w2 ⟨s,m,hm,rfl,hR2,hK2⟩;have R2 := hyd hR2;have BX := hyd (blk_keep hK2 BX.out trivial);have hz := KW.out.size;have hz1 := blk_lt BX1.out;have KW := hyd (KW.out.trans hK2);have hz2 := hK2.size;clear hK2 hR2) | (go_at_call 29;refine (l11AnyMsg_of c hc hM w1.heap.size s m 0 w2 R2.out.2 ⟨0,Nat.le_refl _,R2.out.1⟩ hm (by omega)).mono ?_;rintro e w4 ⟨x,ga,gm,rfl,hD,hRd,hK2⟩;have BX := hyd (blk_keep hK2 BX.out (show w.heap.size ≠ w1.heap.size by omega));have KW := hyd (KW.out.then hK2 (fun i hi _ => by show i ≠ w1.heap.size;omega));have DV := hyd hD;clear hK2 hD hRd) | ((with_reducible_and_instances refine at_store 30 (.tmp 2) (.tmp 5) ?_);refine wpList_store_in rfl 30 (.tmp 2) (.tmp 5) rfl w.heap.size 0 30 _ (.agg #[.int .i64 x.kind,.string x.text,.slice ga x.given.length gm,.int .i64 x.num]) #[.int .i64 x.kind,.string x.text,.slice ga x.given.length gm,.int .i64 x.num] #[.int .i64 x.kind,.string x.text,.slice ga x.given.length gm,.int .i64 x.num] (by simp [Act.eval,Act.put]) (by simp [Act.eval,Act.put]) rfl BX.out (by simp) infoM4 (by simp [Value.oneCell']) rfl ?_;intro w3 hb3 hk3;have DV := hyd (DV.out.keep (hk3.mono (fun i _ hi => by have := hi.1;show i ≠ w.heap.size;omega)));have KW := hyd (KW.out.then hk3 (fun i hi _ => by show i ≠ w.heap.size;omega));have BX := hyd hb3))
  refine bodyPost_ret (v := .agg #[.int .i64 x.kind,.string x.text,.slice ga x.given.length gm,.int .i64 x.num]) (results_cell_row Tryz.results12 _ _ w.heap.size _ _ (0,0) _ (by simp [Act.put]) BX.out Tryz.underlying30 rfl infoM4) rfl ?_
  exact ⟨x,ga,gm,rfl,DV.out.mono (fun _ _ _ => trivial),KW.out⟩

/- A text of what is said,drawn out of bytes. -/
set_option maxRecDepth 20000
set_option maxHeartbeats 4000000
theorem drawMsgGet_of (c : Nat) (hc : c ≤ 100000) (hM : MsgD c) (v : Value) (n : Nat) (w : World) (hv : BytIn w v n) : Calls Tryz.prog 17 #[v] w fun e w' => ∃ x : ByteArray,x.size ≤ 40001 ∧ e = .returned (.string x) ∧ Keep Any w w' := by
  go_enter Tryz.func17,Tryz.ntmps17
  go_wp2_with (first | (go_at_call 19;refine (l1Open_calls v n w (hv.byt (Nat.le_refl _))).mono ?_;rintro e w2 ⟨s,m,hm,rfl,hR2,hK2⟩;have R2 := hyd hR2;have KW := hyd hK2;have hz2 := blk_lt hR2.1;clear hK2 hR2) | (go_at_call 22;refine (hM w.heap.size s m 0 w2 R2.out.2 ⟨0,Nat.le_refl _,R2.out.1⟩ hm (by omega)).mono ?_;rintro e w4 ⟨x,ga,gm,rfl,hD,hRd,hK2⟩;have DV := hyd hD;have RB := hyd hRd;have B4 := hyd (BytO.keep (ok := But w.heap.size) (s := s) (n := m) (show BytO (But w.heap.size) w2 s m from R2.out.2) hK2);have KW := hyd (KW.out.then hK2 (fun i hi _ => by show i ≠ w.heap.size;omega));clear hK2 hD hRd;obtain ⟨T,hT⟩ : ∃ T : ByteArray,(⟨(msgTxt x).toArray⟩ : ByteArray) = T := ⟨_,rfl⟩;have hTs : T.size ≤ 40000 := (by have := msgTxt_size x;rw [← hT];simpa [ByteArray.size] using this)) | (go_at_call 15;refine (specMsgPut_calls x [.int .i64 x.kind,.string x.text,.slice ga x.given.length gm,.int .i64 x.num] _ (DV.out.mono (fun _ _ _ => trivial))).mono ?_;rintro e w5 ⟨rfl,hK2⟩;rw [hT];have RB := hyd (RB.out.keep hK2 trivial);have B4 := hyd (BytO.keep B4.out hK2.any);have KW := hyd (KW.out.trans hK2);clear hK2 hT DV;obtain ⟨p,hp,hrb⟩ := RB.out;have R5 := hyd (show Rdr w5 w.heap.size s m p from ⟨hrb,B4.out⟩);clear hrb) | (go_at_call 27;refine (l11Cut_calls T (by omega) _ _ _ _ _ R5.out hm (by omega)).mono ?_;rintro e w6 ⟨z,p5,hz,rfl,hR5,h1,h2,hK5⟩;have KW := hyd (KW.out.then hK5 (fun i hi _ => by show i ≠ w.heap.size;omega));clear hK5))
  go_ret
  exact ⟨z,by omega,rfl,KW.out⟩

/- A frame's body,drawn out of bytes. -/

/- The law FnFrames: what it computes,walked;a message's draw keeps its contract (taken as given here). -/
def Answers (w : World) (e : Ending) (w' : World) : Prop := e = .returned (.bool true) ∧ Keep Any w w'

/- The law FnMsg: what it computes,walked;a message's draw keeps its contract (taken as given here). -/
set_option maxRecDepth 20000
set_option maxHeartbeats 4000000
def resM (o : Option Ms) : Ms × Bool := match o with
  | none => (⟨0,⟨#[]⟩,[],0⟩,false)
  | some r => (r,true)
theorem gotM_res {o : Option Ms} {w : World} {e : Ending} {w' : World} (h : GotM o w e w') : ∃ a c,e = .returned (.tuple #[.agg #[.int .i64 (resM o).1.kind,.string (resM o).1.text,.slice a (resM o).1.given.length c,.int .i64 (resM o).1.num],.bool (resM o).2]) ∧ Keep Any w w' ∧
    MR w' Any (resM o).1 [.int .i64 (resM o).1.kind,.string (resM o).1.text,.slice a (resM o).1.given.length c,.int .i64 (resM o).1.num] := by
  obtain ⟨hK,⟨rfl,rfl⟩ | ⟨m,a,c,rfl,rfl,hS⟩⟩ := h
  · exact ⟨none,0,rfl,hK,⟨_,rfl,⟨by decide,by decide⟩,⟨by decide,by decide⟩,fits_nil,none,0,rfl,Nat.le_refl _,by decide,fun h => absurd rfl h⟩⟩
  · exact ⟨a,c,rfl,hK,hS.mr.mono fun _ _ _ => trivial⟩
theorem at4m {w : World} {b : Nat} {T : TypeId} {c0 c1 c2 c3 : Value} (h : w.heap[b]? = some (.cells #[c0,c1,c2,c3] T (0,0))) : w.cell? ⟨b,0,none⟩ = some c0 ∧ w.cell? ⟨b,1,none⟩ = some c1 ∧ w.cell? ⟨b,2,none⟩ = some c2 ∧ w.cell? ⟨b,3,none⟩ = some c3 :=
  ⟨(blk_cell h 0).trans rfl,(blk_cell h 1).trans rfl,(blk_cell h 2).trans rfl,(blk_cell h 3).trans rfl⟩
theorem msgWalk (hM : MsgD 10330) (v1 v2 : Value) (n1 n2 : Nat) (w : World) (h1 : BytIn w v1 n1) (h2 : BytIn w v2 n2) (ht : Tab w) : Calls Tryz.prog 5 #[v1,v2] w (Answers w) := by
  have HT := hyd ht
  clear ht
  have D1 := hyd (fun w' (k : Keep Any w w') => drawMsgPut_of 10330 (by decide) hM v1 n1 w' (h1.keep k))
  have D2 := hyd (fun w' (k : Keep Any w w') => drawMsgGet_of 10330 (by decide) hM v2 n2 w' (h2.keep k))
  clear hM
  obtain ⟨a1,c1,rfl,_,_,_⟩ := h1
  obtain ⟨a2,c2,rfl,_,_,_⟩ := h2
  by_cases hz : 1048576 < n1
  · have z1 : (1048576 : Int) < (n1 : Int) := by omega
    go_enter Tryz.func5,Tryz.ntmps5
    go_wp2
    go_ret
    exact ⟨rfl,Keep.refl _ _⟩
  have z1 : ¬ (1048576 : Int) < (n1 : Int) := by omega
  by_cases hz2 : 1048576 < n2
  · have z2 : (1048576 : Int) < (n2 : Int) := by omega
    go_enter Tryz.func5,Tryz.ntmps5
    go_wp2
    go_ret
    exact ⟨rfl,Keep.refl _ _⟩
  have z2 : ¬ (1048576 : Int) < (n2 : Int) := by omega
  clear hz hz2
  go_enter Tryz.func5,Tryz.ntmps5
  go_wp2_with fail
  refine (D1.out _ (Keep.refl _ _)).mono ?_
  rintro e w3 ⟨m,ra,rc,rfl,hR,hK⟩
  have K3 := hyd hK
  have R3 := hyd hR
  clear hR hK
  obtain ⟨T,hT⟩ : ∃ T : ByteArray,(⟨(msgTxt m).toArray⟩ : ByteArray) = T := ⟨_,rfl⟩
  have hTl : T.data.toList = msgTxt m := by rw [← hT]
  have hTs : T.size ≤ 40000 := by have := msgTxt_size m;rw [← hT];simpa [ByteArray.size] using this
  have IP := hyd (fun (m' : Ms) (T' : ByteArray) (hT' : (⟨(msgTxt m').toArray⟩ : ByteArray) = T') cs w' (h : MR w' Any m' cs) hT => (implMsgPut_calls m' cs w' h hT).mono fun e w'' h => (show e = .returned (.string T') ∧ Keep Any w' w'' from ⟨h.1.trans (by rw [hT']),h.2⟩))
  have SPU := hyd (fun cs w' (h : MR w' Any m cs) => (specMsgPut_calls m cs w' h).mono fun e w'' h => (show e = .returned (.string T) ∧ Keep Any w' w'' from ⟨h.1.trans (by rw [hT]),h.2⟩))
  have HTT := hyd hT
  clear hT
  have IG := hyd (fun (t : ByteArray) w' ht hT => (implMsgGet_calls t w' ht hT).mono fun e w'' h => gotM_res h)
  have SG := hyd (fun (t : ByteArray) w' ht => by have := specMsgGet_calls t w' ht;rw [smsgGet_eq] at this;exact this.mono fun e w'' h => gotM_res h)
  have AS := hyd (fun m' cs ds w' h1 h2 => asMsg_calls m' cs ds w' h1 h2)
  have PUT := hyd (msgGet_put' m)
  go_wp2_with fail
  refine (IP.out m T HTT.out _ _ (R3.out.keep ((Keep.refl _ _).alloc _)) (HT.out.keep (K3.out.alloc _) trivial)).mono ?_
  rintro e w4 ⟨rfl,hK⟩
  have K4 := hyd ((K3.out.alloc _).trans hK)
  have K34 := hyd (((Keep.refl Any w3).alloc _).trans hK)
  have B4 := hyd (blk_keep hK (blk_new _ _) trivial)
  have Z4 := hyd (blk_lt B4.out)
  clear hK
  go_wp2_with fail
  refine (IG.out T _ (by omega) (HT.out.keep K4.out trivial)).mono ?_
  rintro e w5 ⟨xa,xc,rfl,hK,hX⟩
  have K5 := hyd (K4.out.trans hK)
  have K35 := hyd (K34.out.trans hK)
  have B5 := hyd (blk_keep hK B4.out trivial)
  have X5 := hyd hX
  clear hK hX
  rw [hTl] at X5 ⊢
  rcases PUT.out with ⟨hf,hne,hg⟩ | ⟨hf,he,hg⟩
  · rw [hg] at X5 ⊢
    simp only [resM] at X5 ⊢
    have q1 : T.toList.isEmpty = false := by rw [ByteArray.toList_eq,hTl];cases h : msgTxt m with | nil => exact absurd h hne | cons a l => rfl
    have q2 : (T.toList == []) = false := by rw [ByteArray.toList_eq,hTl];cases h : msgTxt m with | nil => exact absurd h hne | cons a l => rfl
    have q3 : (T.toList != []) = true := by rw [bne,q2];rfl
    clear hne
    have b1 : (T.toList != T.toList) = false := by simp
    clear hf hg
    have K5b := hyd (K5.out.alloc (.cells #[.int .i64 m.kind,.string m.text,.slice xa m.given.length xc,.int .i64 m.num] 30 (0,0)))
    have R5b := hyd (R3.out.keep (K35.out.alloc (.cells #[.int .i64 m.kind,.string m.text,.slice xa m.given.length xc,.int .i64 m.num] 30 (0,0))))
    have X5b := hyd (X5.out.keep (((Keep.refl Any w5).alloc (.cells #[.int .i64 m.kind,.string m.text,.slice xa m.given.length xc,.int .i64 m.num] 30 (0,0)))))
    have B5b := hyd (blk_alloc B5.out (.cells #[.int .i64 m.kind,.string m.text,.slice xa m.given.length xc,.int .i64 m.num] 30 (0,0)))
    have C5b := hyd (blk_new w5 (.cells #[.int .i64 m.kind,.string m.text,.slice xa m.given.length xc,.int .i64 m.num] 30 (0,0)))
    go_upto_region 6 with fail
    generalize w5.alloc (.cells #[.int .i64 m.kind,.string m.text,.slice xa m.given.length xc,.int .i64 m.num] 30 (0,0)) = wr at *
    obtain ⟨x0,x1,x2,x3⟩ := at4m B5b.out
    have zx0 := blk_lt B5b.out
    go_wp2_with fail
    refine (SPU.out _ _ R5b.out).mono ?_
    rintro e w6 ⟨rfl,hK⟩
    have K6 := hyd (K5b.out.trans hK)
    have R6 := hyd (R5b.out.keep hK)
    have X6 := hyd (X5b.out.keep hK)
    have B6 := hyd (blk_keep hK B5b.out trivial)
    have C6 := hyd (blk_keep hK C5b.out trivial)
    clear hK x0 x1 x2 x3 zx0
    have zx0 := blk_lt B6.out
    have zx1 := blk_lt C6.out
    obtain ⟨x0,x1,x2,x3⟩ := at4m B6.out
    obtain ⟨y0,y1,y2,y3⟩ := at4m C6.out
    go_wp2_with fail
    refine (AS.out m _ _ _ (X6.out) (R6.out)).mono ?_
    rintro e w7 ⟨rfl,hK⟩
    have K7 := hyd (K6.out.trans hK)
    clear hK x0 x1 x2 x3 y0 y1 y2 y3 zx0 zx1
    go_wp2_with fail
    refine (D2.out _ K7.out).mono ?_
    rintro e w8 ⟨t2,ht2,rfl,hK⟩
    have K8 := hyd (K7.out.trans hK)
    clear hK
    rcases ho : msgGet t2.data.toList with _ | y
    · skip
      have IG2 := hyd (IG.out t2)
      have SG2 := hyd (SG.out t2)
      rw [ho] at IG2 SG2
      simp only [resM] at IG2 SG2
      clear ho
      have e2 : (t2.toList == t2.toList) = true := by simp
      go_wp2_with fail
      refine (IG2.out _ (by omega) (HT.out.keep K8.out trivial)).mono ?_
      rintro e w9 ⟨ya,yc,rfl,hK,hY⟩
      have K9 := hyd ((K8.out.trans hK).alloc (.cells #[.int .i64 0,.string ⟨#[]⟩,.slice ya 0 yc,.int .i64 0] 30 (0,0)))
      have Y9 := hyd (hY.keep ((Keep.refl Any w9).alloc (.cells #[.int .i64 0,.string ⟨#[]⟩,.slice ya 0 yc,.int .i64 0] 30 (0,0))))
      have B9 := hyd (blk_new w9 (.cells #[.int .i64 0,.string ⟨#[]⟩,.slice ya 0 yc,.int .i64 0] 30 (0,0)))
      clear hK hY
      go_upto_region 10 with fail
      generalize w9.alloc (.cells #[.int .i64 0,.string ⟨#[]⟩,.slice ya 0 yc,.int .i64 0] 30 (0,0)) = wa at *
      go_wp2_with fail
      refine (SG2.out _ (by omega)).mono ?_
      rintro e w11 ⟨za,zc,rfl,hK,hZ⟩
      have K11 := hyd ((K9.out.trans hK).alloc (.cells #[.int .i64 0,.string ⟨#[]⟩,.slice za 0 zc,.int .i64 0] 30 (0,0)))
      have Y11 := hyd (Y9.out.keep (hK.alloc (.cells #[.int .i64 0,.string ⟨#[]⟩,.slice za 0 zc,.int .i64 0] 30 (0,0))))
      have Z11 := hyd (hZ.keep ((Keep.refl Any w11).alloc (.cells #[.int .i64 0,.string ⟨#[]⟩,.slice za 0 zc,.int .i64 0] 30 (0,0))))
      have B11 := hyd (blk_alloc (blk_keep hK B9.out trivial) (.cells #[.int .i64 0,.string ⟨#[]⟩,.slice za 0 zc,.int .i64 0] 30 (0,0)))
      have C11 := hyd (blk_new w11 (.cells #[.int .i64 0,.string ⟨#[]⟩,.slice za 0 zc,.int .i64 0] 30 (0,0)))
      clear hK hZ
      go_upto_region 11 with fail
      generalize w11.alloc (.cells #[.int .i64 0,.string ⟨#[]⟩,.slice za 0 zc,.int .i64 0] 30 (0,0)) = wb at *
      obtain ⟨x0,x1,x2,x3⟩ := at4m B11.out
      obtain ⟨y0,y1,y2,y3⟩ := at4m C11.out
      have zx0 := blk_lt B11.out
      have zx1 := blk_lt C11.out
      go_wp2_with fail
      refine (AS.out (⟨0,⟨#[]⟩,[],0⟩ : Ms) _ _ _ Y11.out Z11.out).mono ?_
      rintro e w12 ⟨rfl,hK⟩
      have K12 := hyd (K11.out.trans hK)
      have Y12 := hyd (Y11.out.keep hK)
      have B12 := hyd (blk_keep hK B11.out trivial)
      clear hK x0 x1 x2 x3 y0 y1 y2 y3 zx0 zx1
      obtain ⟨x0,x1,x2,x3⟩ := at4m B12.out
      have zx0 := blk_lt B12.out
      go_wp2
      go_ret
      exact ⟨rfl,K12.out⟩
    · skip
      have HB := hyd (show (⟨(msgTxt y).toArray⟩ : ByteArray) = t2 by rw [msgGet_back ho])
      have IG2 := hyd (IG.out t2)
      have SG2 := hyd (SG.out t2)
      rw [ho] at IG2 SG2
      simp only [resM] at IG2 SG2
      clear ho
      have e2 : (t2.toList == t2.toList) = true := by simp
      go_wp2_with fail
      refine (IG2.out _ (by omega) (HT.out.keep K8.out trivial)).mono ?_
      rintro e w9 ⟨ya,yc,rfl,hK,hY⟩
      have K9 := hyd ((K8.out.trans hK).alloc (.cells #[.int .i64 y.kind,.string y.text,.slice ya y.given.length yc,.int .i64 y.num] 30 (0,0)))
      have Y9 := hyd (hY.keep ((Keep.refl Any w9).alloc (.cells #[.int .i64 y.kind,.string y.text,.slice ya y.given.length yc,.int .i64 y.num] 30 (0,0))))
      have B9 := hyd (blk_new w9 (.cells #[.int .i64 y.kind,.string y.text,.slice ya y.given.length yc,.int .i64 y.num] 30 (0,0)))
      clear hK hY
      go_upto_region 10 with fail
      generalize w9.alloc (.cells #[.int .i64 y.kind,.string y.text,.slice ya y.given.length yc,.int .i64 y.num] 30 (0,0)) = wa at *
      go_wp2_with fail
      refine (SG2.out _ (by omega)).mono ?_
      rintro e w11 ⟨za,zc,rfl,hK,hZ⟩
      have K11 := hyd ((K9.out.trans hK).alloc (.cells #[.int .i64 y.kind,.string y.text,.slice za y.given.length zc,.int .i64 y.num] 30 (0,0)))
      have Y11 := hyd (Y9.out.keep (hK.alloc (.cells #[.int .i64 y.kind,.string y.text,.slice za y.given.length zc,.int .i64 y.num] 30 (0,0))))
      have Z11 := hyd (hZ.keep ((Keep.refl Any w11).alloc (.cells #[.int .i64 y.kind,.string y.text,.slice za y.given.length zc,.int .i64 y.num] 30 (0,0))))
      have B11 := hyd (blk_alloc (blk_keep hK B9.out trivial) (.cells #[.int .i64 y.kind,.string y.text,.slice za y.given.length zc,.int .i64 y.num] 30 (0,0)))
      have C11 := hyd (blk_new w11 (.cells #[.int .i64 y.kind,.string y.text,.slice za y.given.length zc,.int .i64 y.num] 30 (0,0)))
      clear hK hZ
      go_upto_region 11 with fail
      generalize w11.alloc (.cells #[.int .i64 y.kind,.string y.text,.slice za y.given.length zc,.int .i64 y.num] 30 (0,0)) = wb at *
      obtain ⟨x0,x1,x2,x3⟩ := at4m B11.out
      obtain ⟨y0,y1,y2,y3⟩ := at4m C11.out
      have zx0 := blk_lt B11.out
      have zx1 := blk_lt C11.out
      go_wp2_with fail
      refine (AS.out y _ _ _ Y11.out Z11.out).mono ?_
      rintro e w12 ⟨rfl,hK⟩
      have K12 := hyd (K11.out.trans hK)
      have Y12 := hyd (Y11.out.keep hK)
      have B12 := hyd (blk_keep hK B11.out trivial)
      clear hK x0 x1 x2 x3 y0 y1 y2 y3 zx0 zx1
      obtain ⟨x0,x1,x2,x3⟩ := at4m B12.out
      have zx0 := blk_lt B12.out
      go_wp2_with fail
      refine (IP.out y t2 HB.out _ _ Y12.out (HT.out.keep K12.out trivial)).mono ?_
      rintro e w13 ⟨rfl,hK⟩
      have K13 := hyd (K12.out.trans hK)
      clear hK
      go_wp2
      go_ret
      exact ⟨rfl,K13.out⟩
  · rw [hg] at X5 ⊢
    simp only [resM] at X5 ⊢
    have q1 : T.toList.isEmpty = true := by rw [ByteArray.toList_eq,hTl];rw [he];rfl
    have q2 : (T.toList == []) = true := by rw [ByteArray.toList_eq,hTl];rw [he];rfl
    have q3 : (T.toList != []) = false := by rw [bne,q2];rfl
    clear he
    have b1 : (T.toList != T.toList) = false := by simp
    clear hf hg
    have K5b := hyd (K5.out.alloc (.cells #[.int .i64 0,.string ⟨#[]⟩,.slice xa 0 xc,.int .i64 0] 30 (0,0)))
    have R5b := hyd (R3.out.keep (K35.out.alloc (.cells #[.int .i64 0,.string ⟨#[]⟩,.slice xa 0 xc,.int .i64 0] 30 (0,0))))
    have X5b := hyd (X5.out.keep (((Keep.refl Any w5).alloc (.cells #[.int .i64 0,.string ⟨#[]⟩,.slice xa 0 xc,.int .i64 0] 30 (0,0)))))
    have B5b := hyd (blk_alloc B5.out (.cells #[.int .i64 0,.string ⟨#[]⟩,.slice xa 0 xc,.int .i64 0] 30 (0,0)))
    have C5b := hyd (blk_new w5 (.cells #[.int .i64 0,.string ⟨#[]⟩,.slice xa 0 xc,.int .i64 0] 30 (0,0)))
    go_upto_region 6 with fail
    generalize w5.alloc (.cells #[.int .i64 0,.string ⟨#[]⟩,.slice xa 0 xc,.int .i64 0] 30 (0,0)) = wr at *
    obtain ⟨x0,x1,x2,x3⟩ := at4m B5b.out
    have zx0 := blk_lt B5b.out
    go_wp2_with fail
    refine (SPU.out _ _ R5b.out).mono ?_
    rintro e w6 ⟨rfl,hK⟩
    have K6 := hyd (K5b.out.trans hK)
    have R6 := hyd (R5b.out.keep hK)
    have X6 := hyd (X5b.out.keep hK)
    have B6 := hyd (blk_keep hK B5b.out trivial)
    have C6 := hyd (blk_keep hK C5b.out trivial)
    clear hK x0 x1 x2 x3 zx0
    go_wp2_with fail
    refine (D2.out _ K6.out).mono ?_
    rintro e w8 ⟨t2,ht2,rfl,hK⟩
    have K8 := hyd (K6.out.trans hK)
    clear hK
    rcases ho : msgGet t2.data.toList with _ | y
    · skip
      have IG2 := hyd (IG.out t2)
      have SG2 := hyd (SG.out t2)
      rw [ho] at IG2 SG2
      simp only [resM] at IG2 SG2
      clear ho
      have e2 : (t2.toList == t2.toList) = true := by simp
      go_wp2_with fail
      refine (IG2.out _ (by omega) (HT.out.keep K8.out trivial)).mono ?_
      rintro e w9 ⟨ya,yc,rfl,hK,hY⟩
      have K9 := hyd ((K8.out.trans hK).alloc (.cells #[.int .i64 0,.string ⟨#[]⟩,.slice ya 0 yc,.int .i64 0] 30 (0,0)))
      have Y9 := hyd (hY.keep ((Keep.refl Any w9).alloc (.cells #[.int .i64 0,.string ⟨#[]⟩,.slice ya 0 yc,.int .i64 0] 30 (0,0))))
      have B9 := hyd (blk_new w9 (.cells #[.int .i64 0,.string ⟨#[]⟩,.slice ya 0 yc,.int .i64 0] 30 (0,0)))
      clear hK hY
      go_upto_region 10 with fail
      generalize w9.alloc (.cells #[.int .i64 0,.string ⟨#[]⟩,.slice ya 0 yc,.int .i64 0] 30 (0,0)) = wa at *
      go_wp2_with fail
      refine (SG2.out _ (by omega)).mono ?_
      rintro e w11 ⟨za,zc,rfl,hK,hZ⟩
      have K11 := hyd ((K9.out.trans hK).alloc (.cells #[.int .i64 0,.string ⟨#[]⟩,.slice za 0 zc,.int .i64 0] 30 (0,0)))
      have Y11 := hyd (Y9.out.keep (hK.alloc (.cells #[.int .i64 0,.string ⟨#[]⟩,.slice za 0 zc,.int .i64 0] 30 (0,0))))
      have Z11 := hyd (hZ.keep ((Keep.refl Any w11).alloc (.cells #[.int .i64 0,.string ⟨#[]⟩,.slice za 0 zc,.int .i64 0] 30 (0,0))))
      have B11 := hyd (blk_alloc (blk_keep hK B9.out trivial) (.cells #[.int .i64 0,.string ⟨#[]⟩,.slice za 0 zc,.int .i64 0] 30 (0,0)))
      have C11 := hyd (blk_new w11 (.cells #[.int .i64 0,.string ⟨#[]⟩,.slice za 0 zc,.int .i64 0] 30 (0,0)))
      clear hK hZ
      go_upto_region 11 with fail
      generalize w11.alloc (.cells #[.int .i64 0,.string ⟨#[]⟩,.slice za 0 zc,.int .i64 0] 30 (0,0)) = wb at *
      obtain ⟨x0,x1,x2,x3⟩ := at4m B11.out
      obtain ⟨y0,y1,y2,y3⟩ := at4m C11.out
      have zx0 := blk_lt B11.out
      have zx1 := blk_lt C11.out
      go_wp2_with fail
      refine (AS.out (⟨0,⟨#[]⟩,[],0⟩ : Ms) _ _ _ Y11.out Z11.out).mono ?_
      rintro e w12 ⟨rfl,hK⟩
      have K12 := hyd (K11.out.trans hK)
      have Y12 := hyd (Y11.out.keep hK)
      have B12 := hyd (blk_keep hK B11.out trivial)
      clear hK x0 x1 x2 x3 y0 y1 y2 y3 zx0 zx1
      obtain ⟨x0,x1,x2,x3⟩ := at4m B12.out
      have zx0 := blk_lt B12.out
      go_wp2
      go_ret
      exact ⟨rfl,K12.out⟩
    · skip
      have HB := hyd (show (⟨(msgTxt y).toArray⟩ : ByteArray) = t2 by rw [msgGet_back ho])
      have IG2 := hyd (IG.out t2)
      have SG2 := hyd (SG.out t2)
      rw [ho] at IG2 SG2
      simp only [resM] at IG2 SG2
      clear ho
      have e2 : (t2.toList == t2.toList) = true := by simp
      go_wp2_with fail
      refine (IG2.out _ (by omega) (HT.out.keep K8.out trivial)).mono ?_
      rintro e w9 ⟨ya,yc,rfl,hK,hY⟩
      have K9 := hyd ((K8.out.trans hK).alloc (.cells #[.int .i64 y.kind,.string y.text,.slice ya y.given.length yc,.int .i64 y.num] 30 (0,0)))
      have Y9 := hyd (hY.keep ((Keep.refl Any w9).alloc (.cells #[.int .i64 y.kind,.string y.text,.slice ya y.given.length yc,.int .i64 y.num] 30 (0,0))))
      have B9 := hyd (blk_new w9 (.cells #[.int .i64 y.kind,.string y.text,.slice ya y.given.length yc,.int .i64 y.num] 30 (0,0)))
      clear hK hY
      go_upto_region 10 with fail
      generalize w9.alloc (.cells #[.int .i64 y.kind,.string y.text,.slice ya y.given.length yc,.int .i64 y.num] 30 (0,0)) = wa at *
      go_wp2_with fail
      refine (SG2.out _ (by omega)).mono ?_
      rintro e w11 ⟨za,zc,rfl,hK,hZ⟩
      have K11 := hyd ((K9.out.trans hK).alloc (.cells #[.int .i64 y.kind,.string y.text,.slice za y.given.length zc,.int .i64 y.num] 30 (0,0)))
      have Y11 := hyd (Y9.out.keep (hK.alloc (.cells #[.int .i64 y.kind,.string y.text,.slice za y.given.length zc,.int .i64 y.num] 30 (0,0))))
      have Z11 := hyd (hZ.keep ((Keep.refl Any w11).alloc (.cells #[.int .i64 y.kind,.string y.text,.slice za y.given.length zc,.int .i64 y.num] 30 (0,0))))
      have B11 := hyd (blk_alloc (blk_keep hK B9.out trivial) (.cells #[.int .i64 y.kind,.string y.text,.slice za y.given.length zc,.int .i64 y.num] 30 (0,0)))
      have C11 := hyd (blk_new w11 (.cells #[.int .i64 y.kind,.string y.text,.slice za y.given.length zc,.int .i64 y.num] 30 (0,0)))
      clear hK hZ
      go_upto_region 11 with fail
      generalize w11.alloc (.cells #[.int .i64 y.kind,.string y.text,.slice za y.given.length zc,.int .i64 y.num] 30 (0,0)) = wb at *
      obtain ⟨x0,x1,x2,x3⟩ := at4m B11.out
      obtain ⟨y0,y1,y2,y3⟩ := at4m C11.out
      have zx0 := blk_lt B11.out
      have zx1 := blk_lt C11.out
      go_wp2_with fail
      refine (AS.out y _ _ _ Y11.out Z11.out).mono ?_
      rintro e w12 ⟨rfl,hK⟩
      have K12 := hyd (K11.out.trans hK)
      have Y12 := hyd (Y11.out.keep hK)
      have B12 := hyd (blk_keep hK B11.out trivial)
      clear hK x0 x1 x2 x3 y0 y1 y2 y3 zx0 zx1
      obtain ⟨x0,x1,x2,x3⟩ := at4m B12.out
      have zx0 := blk_lt B12.out
      go_wp2_with fail
      refine (IP.out y t2 HB.out _ _ Y12.out (HT.out.keep K12.out trivial)).mono ?_
      rintro e w13 ⟨rfl,hK⟩
      have K13 := hyd (K12.out.trans hK)
      clear hK
      go_wp2
      go_ret
      exact ⟨rfl,K13.out⟩
end Go.Proofs.YtjopkcjpedgoaaaGreatDoor

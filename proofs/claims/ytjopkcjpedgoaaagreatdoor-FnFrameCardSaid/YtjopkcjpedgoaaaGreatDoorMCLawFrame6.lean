/- Something that is said, drawn out of bytes. A text of what is said, drawn out of bytes. A frame's body, drawn out of bytes. The law FnFrames: what it computes, walked; a message's draw keeps its contract (taken as given here). Bytes that may be frames, drawn out of bytes. The law FnFrame: what it computes, walked; a message's draw keeps its contract (taken as given here). -/
import Derived.Test.YtjopkcjpedgoaaaGreatDoorMC31
import Derived.Test.YtjopkcjpedgoaaaGreatDoorMCLawFrame0
import Derived.Test.YtjopkcjpedgoaaaGreatDoorMCLawFrame2
import Derived.Test.YtjopkcjpedgoaaaGreatDoorMCLawFrame5
import Derived.Test.YtjopkcjpedgoaaaGreatDoorMCLawFrame1
import Derived.Deep.RegionHeld3
/- Something that is said,drawn out of bytes. -/
namespace Go.Proofs.YtjopkcjpedgoaaaGreatDoor
open Go.RowKit
set_option linter.unusedVariables false
set_option linter.unusedSimpArgs false

/- A text of what is said,drawn out of bytes. -/

/- A frame's body,drawn out of bytes. -/
set_option maxRecDepth 20000
set_option maxHeartbeats 4000000
theorem drawFramePut_of (c : Nat) (hc : c ≤ 100000) (hM : MsgD c) (v : Value) (n : Nat) (w : World) (hv : BytIn w v n) : Calls Tryz.prog 6 #[v] w fun e w' => ∃ x : ByteArray,x.size ≤ 1000000 ∧ e = .returned (.string x) ∧ Keep Any w w' := by
  go_enter Tryz.func6,Tryz.ntmps6
  go_wp2_with (first | (go_at_call 19;refine (l1Open_calls v n w (hv.byt (Nat.le_refl _))).mono ?_;rintro e w2 ⟨s,m,hm,rfl,hR2,hK2⟩;have R2 := hyd hR2;have KW := hyd hK2;have hz2 := blk_lt hR2.1;clear hK2 hR2) | (go_at_call 21;(with_reducible_and_instances refine at_args #[.string ⟨#[98]⟩,.int .i64 6000] ?_);refine (l1Many_calls ⟨#[98]⟩ 6000 _ (by decide) (by decide) (by decide)).mono ?_;rintro e wm ⟨mx,hmx,rfl,hK2⟩;have R2 := hyd (R2.out.keep hK2);have KW := hyd (KW.out.trans hK2);have hz3 := hK2.size;clear hK2) | (go_at_call 21;(with_reducible_and_instances refine at_args #[.string ⟨#[98]⟩,.int .i64 6001] ?_);refine (l1Many_calls ⟨#[98]⟩ 6001 _ (by decide) (by decide) (by decide)).mono ?_;rintro e wn ⟨my,hmy,rfl,hK2⟩;have R2 := hyd (R2.out.keep hK2);have KW := hyd (KW.out.trans hK2);have hz3 := hK2.size;clear hK2) | (go_at_call 22;refine (hM w.heap.size s m 0 _ R2.out.2 ⟨0,Nat.le_refl _,R2.out.1⟩ hm (by omega)).mono ?_;rintro e w4 ⟨x,ga,gm,rfl,hD,hRd,hK2⟩;have DV := hyd hD;have RB := hyd hRd;have B4 := hyd (BytO.keep (ok := But w.heap.size) (s := s) (n := m) (show BytO (But w.heap.size) wn s m from R2.out.2) hK2);have KW := hyd (KW.out.then hK2 (fun i hi _ => by show i ≠ w.heap.size;omega));clear hK2 hD hRd;obtain ⟨T,hT⟩ : ∃ T : ByteArray,(⟨(msgTxt x).toArray⟩ : ByteArray) = T := ⟨_,rfl⟩;have hTs : T.size ≤ 40000 := (by have := msgTxt_size x;rw [← hT];simpa [ByteArray.size] using this)) | (go_at_call 15;refine (specMsgPut_calls x [.int .i64 x.kind,.string x.text,.slice ga x.given.length gm,.int .i64 x.num] _ (DV.out.mono (fun _ _ _ => trivial))).mono ?_;rintro e w5 ⟨rfl,hK2⟩;rw [hT];have RB := hyd (RB.out.keep hK2 trivial);have B4 := hyd (BytO.keep B4.out hK2.any);have KW := hyd (KW.out.trans hK2);clear hK2 hT DV;obtain ⟨p,hp,hrb⟩ := RB.out;have R5 := hyd (show Rdr w5 w.heap.size s m p from ⟨hrb,B4.out⟩);clear hrb) | (go_at_call 20;have hlt := R5.out.1;have hlt := blk_lt hlt;refine (ofA [⟨#[]⟩,⟨#[97]⟩,⟨#[116,119,111,10,108,105,110,101,115]⟩,mx,my,T] (.slice (some ⟨w5.heap.size,0,none⟩) 6 6) w.heap.size s m p (w5.alloc (.cells #[.string ⟨#[]⟩,.string ⟨#[97]⟩,.string ⟨#[116,119,111,10,108,105,110,101,115]⟩,.string mx,.string my,.string T] 9 (0,0))) (BytO.keep (ok := But w.heap.size) (show BytO (But w.heap.size) w5 s m from R5.out.2) ((Keep.refl _ w5).alloc _)) ⟨p,Nat.le_refl _,blk_alloc R5.out.1 _⟩ hm (by omega) (show 1 ≤ 6 by decide) (show 6 ≤ 1000 by decide) (strs_litF [⟨#[]⟩,⟨#[97]⟩,⟨#[116,119,111,10,108,105,110,101,115]⟩,mx,my,T] rfl (blk_new _ _) (show w5.heap.size ≠ w.heap.size by omega) (show 6 ≤ 1000 by decide) (fun y hy => by simp only [List.mem_cons,List.not_mem_nil,or_false] at hy;unfold Fits;rcases hy with rfl | rfl | rfl | rfl | rfl | rfl;decide;decide;decide;omega;omega;omega))).mono ?_;rintro e w6 ⟨z,hz,rfl,hRd,hK5⟩;have KW := hyd (KW.out.then (((Keep.refl (But w.heap.size) w5).alloc _).trans hK5) (fun i hi _ => by show i ≠ w.heap.size;omega));have hz1 : z.size ≤ 1000000 := (by simp only [List.mem_cons,List.not_mem_nil,or_false] at hz;rcases hz with rfl | rfl | rfl | rfl | rfl | rfl;decide;decide;decide;omega;omega;omega);clear hK5 hRd hz))
  go_ret
  exact ⟨z,hz1,rfl,KW.out⟩

/- The law FnFrames: what it computes,walked;a message's draw keeps its contract (taken as given here). -/
set_option maxRecDepth 20000
set_option maxHeartbeats 4000000
theorem put_none {a : ByteArray} (h : 6000 < a.size) : (⟨(framePut a).toArray⟩ : ByteArray) = ⟨#[]⟩ := by rw [framePut,if_pos h]
theorem put_pos {a S : ByteArray} (h : a.size ≤ 6000) (e : (⟨(framePut a).toArray⟩ : ByteArray) = S) : 0 < S.size ∧ S.size ≤ 6010 ∧ (S.toList == []) = false ∧ S.toList.isEmpty = false ∧ (framePut a).length = S.size := by
  have h1 := framePut_len h
  have h2 := dec4 (n := a.size) h
  have h3 : (framePut a).length = S.size := by rw [← e,Lib.size_eq]
  have hs : 0 < S.size := by omega
  refine ⟨hs,by omega,empty_false S (by omega),?_,h3⟩
  cases hl : S.toList with
  | nil => have := empty_false S (by omega);rw [hl] at this;cases this
  | cons x r => rfl
theorem ext_tail (S T : ByteArray) : (S ++ T).extract S.size (S.size + T.size) = T := by
  apply ByteArray.ext
  apply Array.ext'
  rw [ByteArray.data_extract,Array.toList_extract,List.extract_eq_take_drop,ByteArray.data_append,Array.toList_append,Lib.size_eq,List.drop_left]
  exact List.take_of_length_le (by rw [Lib.size_eq];omega)
theorem nil_tests {S : ByteArray} (h : S = ⟨#[]⟩) : (S.toList == []) = true ∧ S.toList.isEmpty = true := by
  have h1 := empty_true S (by rw [h];rfl)
  refine ⟨h1,?_⟩
  have h2 : S.toList = [] := by simpa using h1
  rw [h2];rfl
theorem get_own {b T : ByteArray} (h : b.size ≤ 6000) (e : (⟨(framePut b).toArray⟩ : ByteArray) = T) : frameGet T = (b,((T.size : Nat) : Int)) := by
  have h1 := frameGet_put b ⟨#[]⟩ h
  rw [e] at h1
  have h2 : T ++ ⟨#[]⟩ = T := by apply ByteArray.ext;simp
  rw [h2] at h1
  rw [h1,← (put_pos h e).2.2.2.2]
def Answers (w : World) (e : Ending) (w' : World) : Prop := e = .returned (.bool true) ∧ Keep Any w w'
theorem framesWalk (hM : MsgD 10330) (v1 v2 : Value) (n1 n2 : Nat) (w : World) (h1 : BytIn w v1 n1) (h2 : BytIn w v2 n2) (ht : Tab w) : Calls Tryz.prog 3 #[v1,v2] w (Answers w) := by
  have HT := hyd ht
  clear ht
  have D1 := hyd (fun w' (k : Keep Any w w') => drawFramePut_of 10330 (by decide) hM v1 n1 w' (h1.keep k))
  have D2 := hyd (fun w' (k : Keep Any w w') => drawFramePut_of 10330 (by decide) hM v2 n2 w' (h2.keep k))
  have IP := hyd (fun (x T : ByteArray) (hT : (⟨(framePut x).toArray⟩ : ByteArray) = T) w' ht => (implFramePut_calls x w' ht).mono fun e w'' h => (show e = .returned (.string T) ∧ Keep Any w' w'' from ⟨h.1.trans (by rw [hT]),h.2⟩))
  have SP := hyd (fun (x T : ByteArray) (hT : (⟨(framePut x).toArray⟩ : ByteArray) = T) w' => (specFramePut_calls x w').mono fun e w'' h => (show e = .returned (.string T) ∧ Keep Any w' w'' from ⟨h.1.trans (by rw [hT]),h.2⟩))
  have FG := hyd (fun (t y : ByteArray) (k : Int) (ht : t.size ≤ 20000) (hy : frameGet t = (y,k)) w' => (frameGet_calls t w' (by omega)).mono fun e w'' h => (show e = .returned (.tuple #[.string y,.int .i64 k]) ∧ Keep Any w' w'' from ⟨h.1.trans (by rw [hy]),h.2⟩))
  clear hM
  obtain ⟨a1,c1,rfl,_,_,_⟩ := h1
  obtain ⟨a2,c2,rfl,_,_,_⟩ := h2
  by_cases hz : 1048576 < n1
  · have z1 : (1048576 : Int) < (n1 : Int) := by omega
    go_enter Tryz.func3,Tryz.ntmps3
    go_wp2
    go_ret
    exact ⟨rfl,Keep.refl _ _⟩
  have z1 : ¬ (1048576 : Int) < (n1 : Int) := by omega
  by_cases hz2 : 1048576 < n2
  · have z2 : (1048576 : Int) < (n2 : Int) := by omega
    go_enter Tryz.func3,Tryz.ntmps3
    go_wp2
    go_ret
    exact ⟨rfl,Keep.refl _ _⟩
  have z2 : ¬ (1048576 : Int) < (n2 : Int) := by omega
  clear hz hz2
  go_enter Tryz.func3,Tryz.ntmps3
  go_wp2_with fail
  refine (D1.out _ (Keep.refl _ _)).mono ?_
  rintro e w3 ⟨x,hx,rfl,hK⟩
  have K3 := hyd hK
  clear hK
  go_wp2_with fail
  refine (D2.out _ K3.out).mono ?_
  rintro e w4 ⟨y,hy,rfl,hK⟩
  have K4 := hyd (K3.out.trans hK)
  clear hK
  obtain ⟨S,hS⟩ : ∃ S : ByteArray,(⟨(framePut x).toArray⟩ : ByteArray) = S := ⟨_,rfl⟩
  obtain ⟨T,hT⟩ : ∃ T : ByteArray,(⟨(framePut y).toArray⟩ : ByteArray) = T := ⟨_,rfl⟩
  have HS := hyd hS
  have HTT := hyd hT
  clear hS hT
  go_wp2_with fail
  refine (IP.out x S HS.out _ (HT.out.keep K4.out trivial)).mono ?_
  rintro e w5 ⟨rfl,hK⟩
  have K5 := hyd (K4.out.trans hK)
  clear hK
  go_wp2_with fail
  refine (IP.out y T HTT.out _ (HT.out.keep K5.out trivial)).mono ?_
  rintro e w6 ⟨rfl,hK⟩
  have K6 := hyd (K5.out.trans hK)
  clear hK
  have b1 : (S.toList != S.toList) = false := by simp
  have b2 : (S.toList == S.toList) = true := by simp
  by_cases hx6 : 6000 < x.size
  · have hS0 : S = ⟨#[]⟩ := HS.out.symm.trans (put_none hx6)
    obtain ⟨e1,e2⟩ := nil_tests hS0
    clear hS0
    go_wp2_with fail
    refine (SP.out x S HS.out _).mono ?_
    rintro e w7 ⟨rfl,hK⟩
    have K7 := hyd (K6.out.trans hK)
    clear hK
    go_wp2_with fail
    refine (SP.out x S HS.out _).mono ?_
    rintro e w8 ⟨rfl,hK⟩
    have K8 := hyd (K7.out.trans hK)
    clear hK
    go_wp2
    go_ret
    exact ⟨rfl,K8.out⟩
  obtain ⟨s1,s2,e1,e2,s3⟩ := put_pos (by omega) HS.out
  by_cases hy6 : 6000 < y.size
  · have hT0 : T = ⟨#[]⟩ := HTT.out.symm.trans (put_none hy6)
    obtain ⟨e3,e4⟩ := nil_tests hT0
    clear hT0 s3
    go_wp2_with fail
    refine (SP.out x S HS.out _).mono ?_
    rintro e w7 ⟨rfl,hK⟩
    have K7 := hyd (K6.out.trans hK)
    clear hK
    go_wp2_with fail
    refine (SP.out x S HS.out _).mono ?_
    rintro e w8 ⟨rfl,hK⟩
    have K8 := hyd (K7.out.trans hK)
    clear hK
    go_wp2
    go_ret
    exact ⟨rfl,K8.out⟩
  obtain ⟨t1,t2,e3,e4,t3⟩ := put_pos (by omega) HTT.out
  have G1 := hyd (show frameGet (S ++ T) = (x,((S.size : Nat) : Int)) by have := frameGet_put x T (by omega);rw [HS.out] at this;rw [this,s3])
  have G2 := hyd (get_own (by omega) HTT.out)
  have E2 := hyd (ext_tail S T)
  have hl1 : ¬ 9223372036854775807 < S.size + T.size := by omega
  have hl2 : (S ++ T).size = S.size + T.size := ByteArray.size_append ..
  have b3 : (x.toList == x.toList) = true := by simp
  have b4 : (y.toList == y.toList) = true := by simp
  have b5 : (((S.size : Nat) : Int) == ((S.size : Nat) : Int)) = true := by simp
  have b6 : (((T.size : Nat) : Int) == ((T.size : Nat) : Int)) = true := by simp
  clear s3 t3
  go_wp2_with fail
  refine (SP.out x S HS.out _).mono ?_
  rintro e w7 ⟨rfl,hK⟩
  have K7 := hyd (K6.out.trans hK)
  clear hK
  go_wp2_with fail
  refine (FG.out (S ++ T) x _ (by omega) G1.out _).mono ?_
  rintro e w8 ⟨rfl,hK⟩
  have K8 := hyd (K7.out.trans hK)
  clear hK
  go_wp2_with fail
  refine (FG.out _ y _ (by rw [E2.out];omega) (by rw [E2.out];exact G2.out) _).mono ?_
  rintro e w9 ⟨rfl,hK⟩
  have K9 := hyd (K8.out.trans hK)
  clear hK
  go_wp2
  go_ret
  exact ⟨rfl,K9.out⟩

/- Bytes that may be frames,drawn out of bytes. -/
set_option maxRecDepth 20000
set_option maxHeartbeats 4000000
theorem framePut_size (b : ByteArray) : (⟨(framePut b).toArray⟩ : ByteArray).size ≤ 6100 := by
  have : (framePut b).length ≤ 6100 := by
    rw [framePut]
    split
    · simp
    · have h := itoa_len2 b.size (by omega) (by omega)
      have e := Lib.size_eq b
      simp only [List.length_append,List.length_cons,List.length_nil]
      omega
  simpa [ByteArray.size] using this
theorem drawFrameGet_of (c : Nat) (hc : c ≤ 100000) (hM : MsgD c) (v : Value) (n : Nat) (w : World) (hv : BytIn w v n) : Calls Tryz.prog 10 #[v] w fun e w' => ∃ x : ByteArray,x.size ≤ 20000 ∧ e = .returned (.string x) ∧ Keep Any w w' := by
  go_enter Tryz.func10,Tryz.ntmps10
  go_wp2_with (first | (go_at_call 19;refine (l1Open_calls v n w (hv.byt (Nat.le_refl _))).mono ?_;rintro e w2 ⟨s,m,hm,rfl,hR2,hK2⟩;have R2 := hyd hR2;have KW := hyd hK2;have hz2 := blk_lt hR2.1;clear hK2 hR2) | (go_at_call 26;refine (pickA 4 w.heap.size s m 0 w2 R2.out.2 ⟨0,Nat.le_refl _,R2.out.1⟩ hm (by omega) (by omega)).mono ?_;rintro e w3 ⟨j,rfl,j0,j1,hRd,hK2⟩;have B3 := hyd (BytO.keep (ok := But w.heap.size) (show BytO (But w.heap.size) w2 s m from R2.out.2) hK2);have RB := hyd hRd;have KW := hyd (KW.out.then hK2 (fun i hi _ => by show i ≠ w.heap.size;omega));clear hK2 hRd;obtain ⟨t,ht⟩ : ∃ t,(j == 0) = t := ⟨_,rfl⟩;cases t) | (go_at_call 20;refine (ofL [⟨#[]⟩,⟨#[49]⟩,⟨#[58]⟩,⟨#[48,49,58,97,10]⟩,⟨#[54,48,48,49,58]⟩,⟨#[57,57,57,57,57]⟩,⟨#[49,58,97]⟩,⟨#[49,58,97,98]⟩,⟨#[48,58,10]⟩,⟨#[120]⟩] _ w.heap.size s m _ w3 _ rfl rfl B3.out RB.out hm (by omega) (by decide) (by decide) (by decide)).mono ?_;rintro e w6 ⟨z,hz,hz1,rfl,hRd,hK5⟩;have KW := hyd (KW.out.then hK5 (fun i hi _ => by show i ≠ w.heap.size;omega));clear hK5 hRd hz) | (go_at_call 22;refine (hM w.heap.size s m _ w3 B3.out RB.out hm (by omega)).mono ?_;rintro e w4 ⟨x,ga,gm,rfl,hD,hRd,hK2⟩;have DV := hyd hD;have RB := hyd hRd;have B4 := hyd (BytO.keep B3.out hK2);have KW := hyd (KW.out.then hK2 (fun i hi _ => by show i ≠ w.heap.size;omega));clear hK2 hD hRd) | (go_at_call 15;refine (specMsgPut_calls x [.int .i64 x.kind,.string x.text,.slice ga x.given.length gm,.int .i64 x.num] _ (DV.out.mono (fun _ _ _ => trivial))).mono ?_;rintro e w5 ⟨rfl,hK2⟩;have RB := hyd (RB.out.keep hK2 trivial);have B4 := hyd (BytO.keep B4.out hK2.any);have KW := hyd (KW.out.trans hK2);clear hK2 DV;generalize (⟨(msgTxt x).toArray⟩ : ByteArray) = T0) | (go_at_call 8;(with_reducible_and_instances refine at_args #[.string T0] ?_);refine (specFramePut_calls T0 _).mono ?_;rintro e w7 ⟨rfl,hK2⟩;have RB := hyd (RB.out.keep hK2 trivial);have B4 := hyd (BytO.keep B4.out hK2.any);have KW := hyd (KW.out.trans hK2);clear hK2;have hs1 := framePut_size T0;generalize (⟨(framePut T0).toArray⟩ : ByteArray) = T1 at *) | (go_at_call 8;(with_reducible_and_instances refine at_args #[.string ⟨#[120]⟩] ?_);refine (specFramePut_calls ⟨#[120]⟩ _).mono ?_;rintro e w8 ⟨rfl,hK2⟩;have RB := hyd (RB.out.keep hK2 trivial);have B4 := hyd (BytO.keep B4.out hK2.any);have KW := hyd (KW.out.trans hK2);clear hK2;have hs2 := framePut_size ⟨#[120]⟩;generalize (⟨(framePut ⟨#[120]⟩).toArray⟩ : ByteArray) = T2 at *;have n1 : ¬ 9223372036854775807 < T1.size + T2.size := (by omega);obtain ⟨p,hp,hrb⟩ := RB.out;have R8 := hyd (show Rdr w8 w.heap.size s m p from ⟨hrb,B4.out⟩);clear hrb) | (go_at_call 27;refine (l11Cut_calls (T1 ++ T2) (by rw [ByteArray.size_append];omega) _ _ _ _ _ R8.out hm (by omega)).mono ?_;rintro e w6 ⟨z,p5,hz,rfl,hR5,h1,h2,hK5⟩;have hz1 : z.size ≤ 20000 := (by rw [ByteArray.size_append] at hz;omega);have KW := hyd (KW.out.then hK5 (fun i hi _ => by show i ≠ w.heap.size;omega));clear hK5))
  all_goals
    go_ret
    exact ⟨z,by omega,rfl,KW.out⟩

/- The law FnFrame: what it computes,walked;a message's draw keeps its contract (taken as given here). -/
set_option maxRecDepth 20000
set_option maxHeartbeats 4000000
theorem rem_nat (a b : Nat) (h : 0 < b) : (a : Int).tmod (b : Int) = ((a % b : Nat) : Int) := by
  rw [Int.tmod_eq_emod_of_nonneg (by omega)];omega
theorem frameWalk (hM : MsgD 10330) (v1 v2 : Value) (n1 n2 : Nat) (w : World) (h1 : BytIn w v1 n1) (h2 : BytIn w v2 n2) (ht : Tab w) : Calls Tryz.prog 4 #[v1,v2] w (Answers w) := by
  have HT := hyd ht
  clear ht
  have D1 := hyd (fun w' (k : Keep Any w w') => drawFramePut_of 10330 (by decide) hM v1 n1 w' (h1.keep k))
  have D2 := hyd (fun w' (k : Keep Any w w') => drawFrameGet_of 10330 (by decide) hM v2 n2 w' (h2.keep k))
  have IP := hyd (fun (x T : ByteArray) (hT : (⟨(framePut x).toArray⟩ : ByteArray) = T) w' ht => (implFramePut_calls x w' ht).mono fun e w'' h => (show e = .returned (.string T) ∧ Keep Any w' w'' from ⟨h.1.trans (by rw [hT]),h.2⟩))
  have SP := hyd (fun (x T : ByteArray) (hT : (⟨(framePut x).toArray⟩ : ByteArray) = T) w' => (specFramePut_calls x w').mono fun e w'' h => (show e = .returned (.string T) ∧ Keep Any w' w'' from ⟨h.1.trans (by rw [hT]),h.2⟩))
  have FG := hyd (fun (t y : ByteArray) (k : Int) (ht : t.size ≤ 40000) (hy : frameGet t = (y,k)) w' => (frameGet_calls t w' (by omega)).mono fun e w'' h => (show e = .returned (.tuple #[.string y,.int .i64 k]) ∧ Keep Any w' w'' from ⟨h.1.trans (by rw [hy]),h.2⟩))
  have SG := hyd (fun (t y : ByteArray) (k : Int) (ht : t.size ≤ 40000) (hy : frameGet t = (y,k)) w' => (specFrame_calls t w' (by omega)).mono fun e w'' h => (show e = .returned (.tuple #[.string y,.int .i64 k]) ∧ Keep Any w' w'' from ⟨h.1.trans (by rw [spec_eq,hy]),h.2 ▸ Keep.refl _ _⟩))
  clear hM
  obtain ⟨a1,c1,rfl,_,_,_⟩ := h1
  obtain ⟨a2,c2,rfl,_,_,_⟩ := h2
  by_cases hz : 1048576 < n1
  · have z1 : (1048576 : Int) < (n1 : Int) := by omega
    go_enter Tryz.func4,Tryz.ntmps4
    go_wp2
    go_ret
    exact ⟨rfl,Keep.refl _ _⟩
  have z1 : ¬ (1048576 : Int) < (n1 : Int) := by omega
  by_cases hz2 : 1048576 < n2
  · have z2 : (1048576 : Int) < (n2 : Int) := by omega
    go_enter Tryz.func4,Tryz.ntmps4
    go_wp2
    go_ret
    exact ⟨rfl,Keep.refl _ _⟩
  have z2 : ¬ (1048576 : Int) < (n2 : Int) := by omega
  clear hz hz2
  go_enter Tryz.func4,Tryz.ntmps4
  go_wp2_with fail
  refine (D1.out _ (Keep.refl _ _)).mono ?_
  rintro e w3 ⟨x,hx,rfl,hK⟩
  have K3 := hyd hK
  clear hK
  go_wp2_with fail
  refine (D2.out _ K3.out).mono ?_
  rintro e w4 ⟨t,ht,rfl,hK⟩
  have K4 := hyd (K3.out.trans hK)
  clear hK
  obtain ⟨S,hS⟩ : ∃ S : ByteArray,(⟨(framePut x).toArray⟩ : ByteArray) = S := ⟨_,rfl⟩
  obtain ⟨y,k,hyk⟩ : ∃ y k,frameGet t = (y,k) := ⟨_,_,rfl⟩
  have HS := hyd hS
  have HY := hyd hyk
  clear hS hyk
  go_wp2_with fail
  refine (IP.out x S HS.out _ (HT.out.keep K4.out trivial)).mono ?_
  rintro e w5 ⟨rfl,hK⟩
  have K5 := hyd (K4.out.trans hK)
  clear hK
  go_wp2_with fail
  refine (FG.out t y k (by omega) HY.out _).mono ?_
  rintro e w6 ⟨rfl,hK⟩
  have K6 := hyd (K5.out.trans hK)
  clear hK
  go_wp2_with fail
  refine (SG.out t y k (by omega) HY.out _).mono ?_
  rintro e w7 ⟨rfl,hK⟩
  have K7 := hyd (K6.out.trans hK)
  clear hK
  have b1 : (S.toList != S.toList) = false := by simp
  have b2 : (S.toList == S.toList) = true := by simp
  have b3 : (y.toList != y.toList) = false := by simp
  have b4 : (y.toList == y.toList) = true := by simp
  have b5 : (k != k) = false := by simp
  have b6 : (k == k) = true := by simp
  by_cases hx6 : 6000 < x.size
  · have hS0 : S = ⟨#[]⟩ := HS.out.symm.trans (put_none hx6)
    obtain ⟨e1,e2⟩ := nil_tests hS0
    clear hS0
    go_wp2_with fail
    refine (SP.out x S HS.out _).mono ?_
    rintro e w8 ⟨rfl,hK⟩
    have K8 := hyd (K7.out.trans hK)
    clear hK
    go_wp2_with fail
    refine (SP.out x S HS.out _).mono ?_
    rintro e w9 ⟨rfl,hK⟩
    have K9 := hyd (K8.out.trans hK)
    clear hK
    go_wp2
    go_ret
    exact ⟨rfl,K9.out⟩
  obtain ⟨s1,s2,e1,e2,s3⟩ := put_pos (by omega) HS.out
  have G1 := hyd (show frameGet (S ++ t) = (x,((S.size : Nat) : Int)) by have := frameGet_put x t (by omega);rw [HS.out] at this;rw [this,s3])
  obtain ⟨r,hr,hrs⟩ : ∃ r : Nat,(n2 : Int).tmod ((S.size : Nat) : Int) = (r : Int) ∧ r < S.size := ⟨n2 % S.size,rem_nat _ _ s1,Nat.mod_lt _ s1⟩
  have G2 := hyd (show frameGet (S.extract 0 r) = (⟨#[]⟩,0) by have := frameGet_cut x (by omega) r (by rw [s3];exact hrs);rwa [HS.out] at this)
  have hl1 : ¬ 9223372036854775807 < S.size + t.size := by omega
  have hl2 : (S ++ t).size = S.size + t.size := ByteArray.size_append ..
  have hl3 : (S.extract 0 r).size ≤ 40000 := by rw [ByteArray.size_extract];omega
  have b7 : (x.toList == x.toList) = true := by simp
  have b8 : (((S.size : Nat) : Int) == ((S.size : Nat) : Int)) = true := by simp
  have r0 : (0 : Int) ≤ (r : Int) := by omega
  have r1 : (r : Int) ≤ ((S.size : Nat) : Int) := by omega
  have s4 : ¬ ((S.size : Nat) : Int) = 0 := by omega
  have s5 : (((S.size : Nat) : Int) == 0) = false := by simpa using s4
  clear s3
  go_wp2_with fail
  refine (SP.out x S HS.out _).mono ?_
  rintro e w8 ⟨rfl,hK⟩
  have K8 := hyd (K7.out.trans hK)
  clear hK
  go_wp2_with fail
  refine (FG.out (S ++ t) x _ (by omega) G1.out _).mono ?_
  rintro e w9 ⟨rfl,hK⟩
  have K9 := hyd (K8.out.trans hK)
  clear hK
  go_wp2_with fail
  refine (FG.out _ _ _ hl3 G2.out _).mono ?_
  rintro e wr ⟨rfl,hK⟩
  have K10 := hyd (K9.out.trans hK)
  clear hK
  by_cases hk : 0 < k
  · obtain ⟨y6,kt,hp⟩ := frameGet_back t y k HY.out hk
    have HP := hyd (show (⟨(framePut y).toArray⟩ : ByteArray) = t.extract 0 k.toNat by
      apply ByteArray.ext
      apply Array.ext'
      rw [ByteArray.data_extract,Array.toList_extract,List.extract_eq_take_drop,List.drop_zero,Nat.sub_zero]
      exact hp)
    have k0 : (0 : Int) ≤ k := by omega
    have k1 : k ≤ ((t.size : Nat) : Int) := by omega
    have k2 : ¬ k ≤ 0 := by omega
    have k3 : decide (k ≤ 0) = false := by simpa using k2
    have b9 : ((t.extract 0 k.toNat).toList == (t.extract 0 k.toNat).toList) = true := by simp
    clear hp hk
    go_wp2_with fail
    have kr : Keep Any wr wr.drew := (Keep.refl _ _).drew
    first | (go_region_held3 (fun w' => Keep Any wr w') (first | exact kr | (exact Keep.trans (by first | assumption | exact Keep.drew (by assumption)) hK6) | go_keep) (first | (go_at_call 7;refine (IP.out y _ HP.out _ (HT.out.keep (K10.out.trans (by first | assumption | exact Keep.drew (by assumption))) trivial)).mono ?_;rintro e wx ⟨rfl,hK6⟩))) | fail
    have K11 := hyd (K10.out.trans (show Keep Any wr wx by assumption))
    go_wp2
    go_ret
    exact ⟨rfl,K11.out⟩
  · have k2 : k ≤ 0 := by omega
    have k3 : decide (k ≤ 0) = true := by simpa using k2
    clear hk
    go_wp2_with fail
    go_quiet (fail)
    go_wp2
    go_ret
    exact ⟨rfl,K10.out.drewN _⟩
end Go.Proofs.YtjopkcjpedgoaaaGreatDoor

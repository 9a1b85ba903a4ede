/- The program's MsgGet: the message whose text it is. For every text of at most 2^60 bytes. -/
import Derived.Test.YtjopkcjpedgoaaaGreatDoorMGLawMsg4
import Derived.Test.YtjopkcjpedgoaaaGreatDoorMGLawMsg6
import Derived.Test.YtjopkcjpedgoaaaGreatDoorMGAt
/- The program's MsgGet: the message whose text it is. For every text of at most 2^60 bytes. -/
namespace Go.Proofs.YtjopkcjpedgoaaaGreatDoor
open Go.RowKit
set_option linter.unusedVariables false
set_option linter.unusedSimpArgs false
set_option maxRecDepth 20000
set_option maxHeartbeats 4000000
def SM (w : World) (ok : Nat → Prop) (m : Ms) (cs : List Value) : Prop := ∃ s,cs = [.int .i64 m.kind,.string m.text,s,.int .i64 m.num] ∧ I64 m.kind ∧ I64 m.num ∧ Fits m.text ∧ SCes w ok s m.given
theorem SM.mr {w : World} {ok : Nat → Prop} {m : Ms} {cs : List Value} (h : SM w ok m cs) : MR w Any m cs := by
  obtain ⟨s,rfl,h1,h2,h3,h4⟩ := h
  exact ⟨s,rfl,h1,h2,h3,Ces.mono h4.ces fun _ _ _ => trivial⟩
theorem SM.keep {w w' : World} {ok : Nat → Prop} {m : Ms} {cs : List Value} (h : SM w ok m cs) (k : Keep ok w w') : SM w' ok m cs := by
  obtain ⟨s,rfl,h1,h2,h3,h4⟩ := h
  exact ⟨s,rfl,h1,h2,h3,SCes.keep h4 k⟩
theorem SM.mono {w : World} {ok ok' : Nat → Prop} {m : Ms} {cs : List Value} (h : SM w ok m cs) (k : ∀ k,ok k → ok' k) : SM w ok' m cs := by
  obtain ⟨s,rfl,h1,h2,h3,h4⟩ := h
  exact ⟨s,rfl,h1,h2,h3,SSl.mono h4 k⟩
def GotM (o : Option Ms) (w : World) (e : Ending) (w' : World) : Prop :=
  Keep Any w w' ∧ ((o = none ∧ e = .returned (.tuple #[.agg #[.int .i64 0,.string ⟨#[]⟩,.slice none 0 0,.int .i64 0],.bool false])) ∨
    ∃ (m : Ms) (a : Option Addr) (c : Nat),o = some m ∧ e = .returned (.tuple #[.agg #[.int .i64 m.kind,.string m.text,.slice a m.given.length c,.int .i64 m.num],.bool true]) ∧ SM w' (Mid w.heap.size w'.heap.size) m [.int .i64 m.kind,.string m.text,.slice a m.given.length c,.int .i64 m.num])
def mg2 (l : List UInt8) (A B : Nat) (r : List UInt8) : Option Ms := match fig1 r with
  | none => none
  | some (c,r3) => msgGet3 l A B c r3
def mg1 (l : List UInt8) (A : Nat) (r : List UInt8) : Option Ms := match fig1 r with
  | none => none
  | some (b,r2) => mg2 l A b r2
def mg0 (l r : List UInt8) : Option Ms := match fig1 r with
  | none => none
  | some (a,r1) => mg1 l a r1
def mgAt (l : List UInt8) (k A B C : Nat) (r : List UInt8) : Option Ms := if k = 0 then mg0 l r else if k = 1 then mg1 l A r else if k = 2 then mg2 l A B r else msgGet3 l A B C r
theorem mgAt_none {l r : List UInt8} {k A B C : Nat} (hk : k ≠ 3 ∧ k ≤ 3) (h : fig1 r = none) : mgAt l k A B C r = none := by
  obtain rfl | rfl | rfl : k = 0 ∨ k = 1 ∨ k = 2 := by omega
  · simp [mgAt,mg0,h]
  · simp [mgAt,mg1,h]
  · simp [mgAt,mg2,h]
theorem mgAt_step0 {l r r1 : List UInt8} {A B C m : Nat} (h : fig1 r = some (m,r1)) : mgAt l 0 A B C r = mgAt l 1 m B C r1 := by simp [mgAt,mg0,h]
theorem mgAt_step1 {l r r1 : List UInt8} {A B C m : Nat} (h : fig1 r = some (m,r1)) : mgAt l 1 A B C r = mgAt l 2 A m C r1 := by simp [mgAt,mg1,h]
theorem mgAt_step2 {l r r1 : List UInt8} {A B C m : Nat} (h : fig1 r = some (m,r1)) : mgAt l 2 A B C r = mgAt l 3 A B m r1 := by simp [mgAt,mg2,h]
theorem blk_at {w : World} {a b : Nat} {o : Obj} (e : a = b) (h : w.heap[a]? = some o) : w.heap[b]? = some o := e ▸ h
theorem fig1_cases (t : ByteArray) (a : Nat) (ha : a ≤ t.size) (ht : t.size ≤ 2305843009213693952) :
    (fig1 (t.data.toList.drop a) = none ∧ ((∀ w,Calls Tryz.prog 34 #[.string t,.int .i64 a] w fun e w' => e = .returned (.tuple #[.int .i64 0,.int .i64 (-1)]) ∧ w = w') ∨
      ∃ k z : Nat,z ≤ t.size ∧ hasP [32] (t.data.toList.drop z) = false ∧ ∀ w,Calls Tryz.prog 34 #[.string t,.int .i64 a] w fun e w' => e = .returned (.tuple #[.int .i64 k,.int .i64 z]) ∧ w = w')) ∨
    ∃ k z : Nat,z < t.size ∧ k ≤ 10000000000 ∧ hasP [32] (t.data.toList.drop z) = true ∧ fig1 (t.data.toList.drop a) = some (k,t.data.toList.drop (z + 1)) ∧ ∀ w,Calls Tryz.prog 34 #[.string t,.int .i64 a] w fun e w' => e = .returned (.tuple #[.int .i64 k,.int .i64 z]) ∧ w = w' := by
  rcases c : figs (t.data.toList.drop a) with _ | ⟨k,r⟩
  · exact .inl ⟨by unfold fig1;rw [c],.inl (figs_none ha ht c)⟩
  · obtain ⟨z,hz,hk,rfl,hf⟩ := figs_some ha ht c
    rcases h : hasP [32] (t.data.toList.drop z) with _ | _
    · exact .inl ⟨by unfold fig1;rw [c];simp only;rw [h];rfl,.inr ⟨k,z,hz,h,hf⟩⟩
    · exact .inr ⟨k,z,hasP_pos h hz,hk,h,by unfold fig1;rw [c];simp only;rw [if_pos h,List.drop_drop],hf⟩
theorem givenGet_none {t : ByteArray} (ht : t.size ≤ 1152921504606846976) (h : gvs 5 t.data.toList = none) (w : World) (hT : Tab w) : Calls Tryz.prog 36 #[.string t] w fun e w' =>
    e = .returned (.tuple #[.slice none 0 0,.bool false]) ∧ Keep Any w w' := (givenGet_calls t w ht hT).mono fun e w' ⟨hK,hz⟩ => by
  rcases hz with ⟨_,he⟩ | ⟨v,a,c,hn,_⟩
  · exact ⟨he,hK⟩
  · rw [h] at hn;cases hn
theorem givenGet_some {t : ByteArray} (ht : t.size ≤ 1152921504606846976) {l : List Ce} (h : gvs 5 t.data.toList = some l) (w : World) (hT : Tab w) : Calls Tryz.prog 36 #[.string t] w fun e w' =>
    ∃ (a : Option Addr) (c : Nat),e = .returned (.tuple #[.slice a l.length c,.bool true]) ∧ Keep Any w w' ∧ SCes w' (Mid w.heap.size w'.heap.size) (.slice a l.length c) l := (givenGet_calls t w ht hT).mono fun e w' ⟨hK,hz⟩ => by
  rcases hz with ⟨hn,_⟩ | ⟨v',a,c,hn,he,hS⟩
  · rw [h] at hn;cases hn
  · rw [h] at hn;cases hn;exact ⟨a,c,he,hK,hS⟩
theorem implMsgGet_calls (t : ByteArray) (w : World) (ht : t.size ≤ 1152921504606846976) (hT : Tab w) : Calls Tryz.prog 14 #[.string t] w (GotM (msgGet t.data.toList) w) := by
  have HT := hyd hT
  clear hT
  obtain ⟨o,ho⟩ : ∃ o,o = msgGet t.data.toList := ⟨_,rfl⟩
  rw [← ho]
  have HO := hyd ho
  clear ho
  go_enter Tryz.func14,Tryz.ntmps14
  go_wp2
  go_loopg [5,12] 4 (fun g x y wr => ∃ k a A B C : Nat,k ≤ 3 ∧ x = .int .i64 a ∧ y = .int .i64 k ∧ g = 4 - k ∧ a ≤ t.size ∧ A ≤ 10000000000 ∧ B ≤ 10000000000 ∧ C ≤ 10000000000 ∧ wr.heap[w.heap.size]? = some (.cells #[.int .i64 0,.string ⟨#[]⟩,.slice none 0 0,.int .i64 0] 30 (0,0)) ∧
    wr.heap[w.heap.size + 1]? = some (.cells #[.int .i64 A,.int .i64 B,.int .i64 C] 55 (0,0)) ∧ Keep Any w wr ∧ o = mgAt t.data.toList k A B C (t.data.toList.drop a))
  case atStart => exact ⟨0,0,0,0,0,by omega,rfl,rfl,rfl,by omega,by omega,by omega,by omega,blk_alloc (blk_new _ _) _,blk_at (by simp) (blk_new _ _),((Keep.refl _ _).alloc _).alloc _,HO.out⟩
  case round =>
    obtain ⟨k,a,A,B,C,hk,rfl,rfl,hg,ha,hA,hB,hC,hz,hn,hK,hs⟩ := hrel
    have HG := hyd hg
    have HZ := hyd hz
    have HNB := hyd hn
    have HS := hyd hs
    have HK := hyd hK
    obtain ⟨r0,r1,r2,r3⟩ := at4 hz
    have f0 := blk_frozen hz 0
    have f1 := blk_frozen hz 1
    have f2 := blk_frozen hz 2
    have f3 := blk_frozen hz 3
    have n0 : wr.cell? ⟨w.heap.size + 1,0,none⟩ = some (.int .i64 A) := (blk_cell hn 0).trans rfl
    have n1 : wr.cell? ⟨w.heap.size + 1,1,none⟩ = some (.int .i64 B) := (blk_cell hn 1).trans rfl
    have n2 : wr.cell? ⟨w.heap.size + 1,2,none⟩ = some (.int .i64 C) := (blk_cell hn 2).trans rfl
    have g0 := blk_frozen hn 0
    have g1 := blk_frozen hn 1
    have g2 := blk_frozen hn 2
    have z0 := blk_lt hz
    have z1 := blk_lt hn
    clear hg hz hn hs hK
    by_cases h3 : k = 3
    · obtain rfl : k = 3 := h3
      have hS3 : o = msgGet3 t.data.toList A B C (t.data.toList.drop a) := by rw [HS.out];simp [mgAt]
      by_cases hC3 : t.size - a < C
      · have HN := hyd (show o = none by rw [hS3,msgGet3,if_pos (by rw [drop_len];exact hC3)])
        have hq : (t.size : Int) - (a : Int) < (C : Int) := by omega
        clear hS3
        go_wp2
        refine bodyPost_ret (v := .tuple #[.agg #[.int .i64 0,.string ⟨#[]⟩,.slice none 0 0,.int .i64 0],.bool false]) (by simp [results,Tryz.results14,go_sem,r0,r1,r2,r3,f0,f1,f2,f3,z0]) rfl ?_
        exact ⟨(by have hK1 := HK.out;repeat (first | (with_reducible exact hK1) | (refine Keep.set ?_ _ _ (fun h _ => Nat.lt_irrefl _ h)) | (refine Keep.alloc ?_ _))),.inl ⟨by first | exact HN.out | (rw [HN.out]),rfl⟩⟩
      · rw [msgGet3,if_neg (by rw [drop_len];exact hC3),List.drop_drop] at hS3
        have hq : (C : Int) ≤ (t.size : Int) - (a : Int) := by omega
        obtain ⟨tb,he⟩ : ∃ tb,t.extract a (a + C) = tb := ⟨_,rfl⟩
        have htb : (⟨((t.data.toList.drop a).take C).toArray⟩ : ByteArray) = tb := by rw [← he];apply ByteArray.ext;apply Array.ext';rw [Lib.extract_data,Nat.add_sub_cancel_left]
        rw [htb] at hS3
        have hts : tb.size ≤ t.size := by rw [← he,ByteArray.size_extract];omega
        have HS3 := hyd hS3
        have Q1 := hyd hq
        clear hS3 htb
        have q0 : (0 : Int) ≤ (a : Int) := by omega
        have q1 : (a : Int) ≤ (a : Int) + (C : Int) := by omega
        have q2 : (a : Int) + (C : Int) ≤ (t.size : Int) := by omega
        rcases hgv : gvs 5 (t.data.toList.drop (a + C)) with _ | g
        · have GG := hyd (givenGet_none (t := t.extract (a + C) t.size) (by rw [ByteArray.size_extract];omega) (by rw [rest_data];exact hgv))
          have HN := hyd (show o = none by rw [HS3.out,hgv])
          clear hgv
          go_wp2
          go_region
          go_wp2_with ((go_at_call 36;refine (GG.out _ (HT.out.keep ((HK.out.alloc _).drew) trivial)).mono ?_;rintro e w2 ⟨rfl,hK2⟩;have HK2 := hyd (((HK.out.alloc _).drew).trans hK2);have HZ2 := hyd (blk_keep hK2 (show (wr.alloc _).drew.heap[w.heap.size]? = _ from blk_alloc HZ.out _) trivial);obtain ⟨y0,y1,y2,y3⟩ := at4 HZ2.out;obtain ⟨h0,h1,h2,h3⟩ := fr4c HZ2.out;have x0 := blk_lt HZ2.out))
          refine bodyPost_ret (v := .tuple #[.agg #[.int .i64 0,.string ⟨#[]⟩,.slice none 0 0,.int .i64 0],.bool false]) (by simp [results,Tryz.results14,go_sem,y0,y1,y2,y3,h0,h1,h2,h3,x0]) rfl ?_
          exact ⟨(by have hK1 := HK2.out;repeat (first | (with_reducible exact hK1) | (refine Keep.set ?_ _ _ (fun h _ => Nat.lt_irrefl _ h)) | (refine Keep.alloc ?_ _))),.inl ⟨by first | exact HN.out | (rw [HN.out]),rfl⟩⟩
        · have GG := hyd (givenGet_some (t := t.extract (a + C) t.size) (by rw [ByteArray.size_extract];omega) (by rw [rest_data];exact hgv))
          have HO3 := hyd (show o = msgOf t.data.toList ⟨A,tb,g,B⟩ by rw [HS3.out,hgv])
          have MO := hyd (msgOk_calls ⟨A,tb,g,B⟩)
          have MP := hyd (implMsgPut_calls ⟨A,tb,g,B⟩)
          clear hgv
          rcases hok : okM ⟨A,tb,g,B⟩ with _ | _
          · have HN := hyd (show o = none by rw [HO3.out,msgOf,hok,if_neg (by simp)])
            have HOK := hyd hok
            clear hok
            go_wp2
            go_region
            go_wp2_with (first | (go_at_call 36;refine (GG.out _ (HT.out.keep ((HK.out.alloc _).drew) trivial)).mono ?_;rintro e w2 ⟨ga,gc,rfl,hK2,hS2⟩;have HK2 := hyd (((HK.out.alloc _).drew).trans hK2);have HZ2 := hyd (blk_keep hK2 (show (wr.alloc _).drew.heap[w.heap.size]? = _ from blk_alloc HZ.out _) trivial);have HM2 := hyd (blk_keep hK2 (show (wr.alloc _).drew.heap[wr.heap.size]? = _ from blk_new _ _) trivial);have HL2 := hyd (show w.heap.size ≤ (wr.alloc (.cells #[.int .i64 A,.string tb,.slice none 0 0,.int .i64 B] 30)).drew.heap.size from ((HK.out.alloc _).drew).size);have HL3 := hyd (show w.heap.size + 1 ≤ (wr.alloc (.cells #[.int .i64 A,.string tb,.slice none 0 0,.int .i64 B] 30)).drew.heap.size by simp;omega);have HSM := hyd (show SM w2 (Mid (wr.alloc (.cells #[.int .i64 A,.string tb,.slice none 0 0,.int .i64 B] 30)).drew.heap.size w2.heap.size) ⟨A,tb,g,B⟩ [.int .i64 A,.string tb,.slice ga g.length gc,.int .i64 B] from ⟨_,rfl,⟨by show (-9223372036854775808 : Int) ≤ A;omega,by show (A : Int) ≤ 9223372036854775807;omega⟩,⟨by show (-9223372036854775808 : Int) ≤ B;omega,by show (B : Int) ≤ 9223372036854775807;omega⟩,(show Fits tb by unfold Fits;omega),hS2⟩);obtain ⟨y0,y1,y2,y3⟩ := at4 HZ2.out;obtain ⟨h0,h1,h2,h3⟩ := fr4c HZ2.out;have x0 := blk_lt HZ2.out;obtain ⟨m0,m1,m2,m3⟩ := at4 HM2.out;obtain ⟨k0,k1,k2,k3⟩ := fr4c HM2.out;have x1 := blk_lt HM2.out;clear hS2) | (go_at_call 30;refine (MO.out _ _ ((HSM.out.keep ((Keep.refl _ _).set _ _ (fun _ h => by have h1 := h.1;simp at h1;omega))).mr)).mono ?_;rintro e w4 ⟨rfl,hK4⟩;rw [HOK.out];have HK4 := hyd ((HK2.out.set _ _ (fun h _ => by have h : wr.heap.size < w.heap.size := h;omega)).trans hK4);have HA4 := hyd (show Keep (Mid (wr.alloc (.cells #[.int .i64 A,.string tb,.slice none 0 0,.int .i64 B] 30)).drew.heap.size w2.heap.size) w2 w4 from ((Keep.refl _ _).set _ _ (fun _ h => by have h1 := h.1;simp at h1;omega)).trans hK4.any);have HZ4 := hyd (blk_keep hK4 (blk_far HZ2.out ⟨wr.heap.size,2,none⟩ _ (by show w.heap.size ≠ wr.heap.size;omega)) trivial);have HM4 := hyd (blk_keep hK4 ((blk_set HM2.out 2 _).trans rfl) trivial);clear y0 y1 y2 y3 h0 h1 h2 h3 x0 ; clear m0 m1 m2 m3 k0 k1 k2 k3 x1;obtain ⟨y0,y1,y2,y3⟩ := at4 HZ4.out;obtain ⟨h0,h1,h2,h3⟩ := fr4c HZ4.out;have x0 := blk_lt HZ4.out;obtain ⟨m0,m1,m2,m3⟩ := at4 HM4.out;obtain ⟨k0,k1,k2,k3⟩ := fr4c HM4.out;have x1 := blk_lt HM4.out))
            refine bodyPost_ret (v := .tuple #[.agg #[.int .i64 0,.string ⟨#[]⟩,.slice none 0 0,.int .i64 0],.bool false]) (by simp [results,Tryz.results14,go_sem,y0,y1,y2,y3,h0,h1,h2,h3,x0]) rfl ?_
            exact ⟨(by have hK1 := HK4.out;repeat (first | (with_reducible exact hK1) | (refine Keep.set ?_ _ _ (fun h _ => Nat.lt_irrefl _ h)) | (refine Keep.alloc ?_ _))),.inl ⟨by first | exact HN.out | (rw [HN.out]),rfl⟩⟩
          · obtain ⟨p,hp⟩ : ∃ p,(⟨(msgTxt ⟨A,tb,g,B⟩).toArray⟩ : ByteArray) = p := ⟨_,rfl⟩
            have HP := hyd (show Ending.returned (.string ⟨(msgTxt ⟨A,tb,g,B⟩).toArray⟩) = .returned (.string p) by rw [hp])
            have hm : msgTxt ⟨A,tb,g,B⟩ = sayTxt ⟨A,tb,g,B⟩ := by rw [msgTxt,hok,if_pos rfl]
            have HOK := hyd hok
            by_cases hpt : p = t
            · have HO4 := hyd (show o = some ⟨A,tb,g,B⟩ by rw [HO3.out,msgOf,if_pos ⟨hok,by rw [← hm,← hpt,← hp]⟩])
              subst hpt
              have b1 : (p.toList != p.toList) = false := by simp
              clear hok hp hm
              go_wp2
              go_region
              go_wp2_with (first | (go_at_call 36;refine (GG.out _ (HT.out.keep ((HK.out.alloc _).drew) trivial)).mono ?_;rintro e w2 ⟨ga,gc,rfl,hK2,hS2⟩;have HK2 := hyd (((HK.out.alloc _).drew).trans hK2);have HZ2 := hyd (blk_keep hK2 (show (wr.alloc _).drew.heap[w.heap.size]? = _ from blk_alloc HZ.out _) trivial);have HM2 := hyd (blk_keep hK2 (show (wr.alloc _).drew.heap[wr.heap.size]? = _ from blk_new _ _) trivial);have HL2 := hyd (show w.heap.size ≤ (wr.alloc (.cells #[.int .i64 A,.string tb,.slice none 0 0,.int .i64 B] 30)).drew.heap.size from ((HK.out.alloc _).drew).size);have HL3 := hyd (show w.heap.size + 1 ≤ (wr.alloc (.cells #[.int .i64 A,.string tb,.slice none 0 0,.int .i64 B] 30)).drew.heap.size by simp;omega);have HSM := hyd (show SM w2 (Mid (wr.alloc (.cells #[.int .i64 A,.string tb,.slice none 0 0,.int .i64 B] 30)).drew.heap.size w2.heap.size) ⟨A,tb,g,B⟩ [.int .i64 A,.string tb,.slice ga g.length gc,.int .i64 B] from ⟨_,rfl,⟨by show (-9223372036854775808 : Int) ≤ A;omega,by show (A : Int) ≤ 9223372036854775807;omega⟩,⟨by show (-9223372036854775808 : Int) ≤ B;omega,by show (B : Int) ≤ 9223372036854775807;omega⟩,(show Fits tb by unfold Fits;omega),hS2⟩);obtain ⟨y0,y1,y2,y3⟩ := at4 HZ2.out;obtain ⟨h0,h1,h2,h3⟩ := fr4c HZ2.out;have x0 := blk_lt HZ2.out;obtain ⟨m0,m1,m2,m3⟩ := at4 HM2.out;obtain ⟨k0,k1,k2,k3⟩ := fr4c HM2.out;have x1 := blk_lt HM2.out;clear hS2) | (go_at_call 30;refine (MO.out _ _ ((HSM.out.keep ((Keep.refl _ _).set _ _ (fun _ h => by have h1 := h.1;simp at h1;omega))).mr)).mono ?_;rintro e w4 ⟨rfl,hK4⟩;rw [HOK.out];have HK4 := hyd ((HK2.out.set _ _ (fun h _ => by have h : wr.heap.size < w.heap.size := h;omega)).trans hK4);have HA4 := hyd (show Keep (Mid (wr.alloc (.cells #[.int .i64 A,.string tb,.slice none 0 0,.int .i64 B] 30)).drew.heap.size w2.heap.size) w2 w4 from ((Keep.refl _ _).set _ _ (fun _ h => by have h1 := h.1;simp at h1;omega)).trans hK4.any);have HZ4 := hyd (blk_keep hK4 (blk_far HZ2.out ⟨wr.heap.size,2,none⟩ _ (by show w.heap.size ≠ wr.heap.size;omega)) trivial);have HM4 := hyd (blk_keep hK4 ((blk_set HM2.out 2 _).trans rfl) trivial);clear y0 y1 y2 y3 h0 h1 h2 h3 x0 ; clear m0 m1 m2 m3 k0 k1 k2 k3 x1;obtain ⟨y0,y1,y2,y3⟩ := at4 HZ4.out;obtain ⟨h0,h1,h2,h3⟩ := fr4c HZ4.out;have x0 := blk_lt HZ4.out;obtain ⟨m0,m1,m2,m3⟩ := at4 HM4.out;obtain ⟨k0,k1,k2,k3⟩ := fr4c HM4.out;have x1 := blk_lt HM4.out) | (go_at_call 13;refine (MP.out _ _ ((HSM.out.keep HA4.out).mr) (HT.out.keep HK4.out trivial)).mono ?_;rintro e w5 ⟨rfl,hK5⟩;rw [HP.out];have HK5 := hyd (HK4.out.trans hK5);have HA5 := hyd (HA4.out.trans hK5.any);have HZ5 := hyd (show w2.heap.size ≤ w5.heap.size from HA5.out.size);have HZ6 := hyd (blk_keep hK5 HZ4.out trivial);have HM5 := hyd (blk_keep hK5 HM4.out trivial);clear y0 y1 y2 y3 h0 h1 h2 h3 x0 ; clear m0 m1 m2 m3 k0 k1 k2 k3 x1;obtain ⟨y0,y1,y2,y3⟩ := at4 HZ6.out;obtain ⟨h0,h1,h2,h3⟩ := fr4c HZ6.out;have x0 := blk_lt HZ6.out;obtain ⟨m0,m1,m2,m3⟩ := at4 HM5.out;obtain ⟨k0,k1,k2,k3⟩ := fr4c HM5.out;have x1 := blk_lt HM5.out))
              refine bodyPost_ret (v := .tuple #[.agg #[.int .i64 A,.string tb,.slice ga g.length gc,.int .i64 B],.bool true]) (by simp [results,Tryz.results14,go_sem,y0,y1,y2,y3,h0,h1,h2,h3,x0]) rfl ?_
              refine ⟨(by have hK1 := HK5.out;repeat (first | (with_reducible exact hK1) | (refine Keep.set ?_ _ _ (fun h _ => Nat.lt_irrefl _ h)))),.inr ⟨_,ga,gc,HO4.out,rfl,?_⟩⟩
              refine SM.mono (SM.keep (HSM.out.keep HA5.out) (w' := _) ?_) fun j hj => ⟨Nat.le_trans HL2.out hj.1,by have h2 := hj.2;have := HZ5.out;simp;omega⟩
              repeat (first | (with_reducible exact Keep.refl _ _) | (refine Keep.set ?_ _ _ (fun _ h => by have h1 := Nat.le_trans HL3.out h.1;exact Nat.not_succ_le_self _ h1)))
            · have HN := hyd (show o = none by rw [HO3.out,msgOf,if_neg (fun h => hpt (by rw [← hp,hm,h.2,bytes_eta]))])
              have b1 : (p.toList != t.toList) = true := by rw [bne_iff_ne,ByteArray.toList_eq,ByteArray.toList_eq];exact fun e => hpt (ByteArray.ext (Array.ext' e))
              have b2 : (p.toList == t.toList) = false := by rw [bne] at b1;simpa using b1
              have b3 : ¬ p.toList = t.toList := by simpa using b2
              clear hok hp hm
              go_wp2
              go_region
              go_wp2_with (first | (go_at_call 36;refine (GG.out _ (HT.out.keep ((HK.out.alloc _).drew) trivial)).mono ?_;rintro e w2 ⟨ga,gc,rfl,hK2,hS2⟩;have HK2 := hyd (((HK.out.alloc _).drew).trans hK2);have HZ2 := hyd (blk_keep hK2 (show (wr.alloc _).drew.heap[w.heap.size]? = _ from blk_alloc HZ.out _) trivial);have HM2 := hyd (blk_keep hK2 (show (wr.alloc _).drew.heap[wr.heap.size]? = _ from blk_new _ _) trivial);have HL2 := hyd (show w.heap.size ≤ (wr.alloc (.cells #[.int .i64 A,.string tb,.slice none 0 0,.int .i64 B] 30)).drew.heap.size from ((HK.out.alloc _).drew).size);have HL3 := hyd (show w.heap.size + 1 ≤ (wr.alloc (.cells #[.int .i64 A,.string tb,.slice none 0 0,.int .i64 B] 30)).drew.heap.size by simp;omega);have HSM := hyd (show SM w2 (Mid (wr.alloc (.cells #[.int .i64 A,.string tb,.slice none 0 0,.int .i64 B] 30)).drew.heap.size w2.heap.size) ⟨A,tb,g,B⟩ [.int .i64 A,.string tb,.slice ga g.length gc,.int .i64 B] from ⟨_,rfl,⟨by show (-9223372036854775808 : Int) ≤ A;omega,by show (A : Int) ≤ 9223372036854775807;omega⟩,⟨by show (-9223372036854775808 : Int) ≤ B;omega,by show (B : Int) ≤ 9223372036854775807;omega⟩,(show Fits tb by unfold Fits;omega),hS2⟩);obtain ⟨y0,y1,y2,y3⟩ := at4 HZ2.out;obtain ⟨h0,h1,h2,h3⟩ := fr4c HZ2.out;have x0 := blk_lt HZ2.out;obtain ⟨m0,m1,m2,m3⟩ := at4 HM2.out;obtain ⟨k0,k1,k2,k3⟩ := fr4c HM2.out;have x1 := blk_lt HM2.out;clear hS2) | (go_at_call 30;refine (MO.out _ _ ((HSM.out.keep ((Keep.refl _ _).set _ _ (fun _ h => by have h1 := h.1;simp at h1;omega))).mr)).mono ?_;rintro e w4 ⟨rfl,hK4⟩;rw [HOK.out];have HK4 := hyd ((HK2.out.set _ _ (fun h _ => by have h : wr.heap.size < w.heap.size := h;omega)).trans hK4);have HA4 := hyd (show Keep (Mid (wr.alloc (.cells #[.int .i64 A,.string tb,.slice none 0 0,.int .i64 B] 30)).drew.heap.size w2.heap.size) w2 w4 from ((Keep.refl _ _).set _ _ (fun _ h => by have h1 := h.1;simp at h1;omega)).trans hK4.any);have HZ4 := hyd (blk_keep hK4 (blk_far HZ2.out ⟨wr.heap.size,2,none⟩ _ (by show w.heap.size ≠ wr.heap.size;omega)) trivial);have HM4 := hyd (blk_keep hK4 ((blk_set HM2.out 2 _).trans rfl) trivial);clear y0 y1 y2 y3 h0 h1 h2 h3 x0 ; clear m0 m1 m2 m3 k0 k1 k2 k3 x1;obtain ⟨y0,y1,y2,y3⟩ := at4 HZ4.out;obtain ⟨h0,h1,h2,h3⟩ := fr4c HZ4.out;have x0 := blk_lt HZ4.out;obtain ⟨m0,m1,m2,m3⟩ := at4 HM4.out;obtain ⟨k0,k1,k2,k3⟩ := fr4c HM4.out;have x1 := blk_lt HM4.out) | (go_at_call 13;refine (MP.out _ _ ((HSM.out.keep HA4.out).mr) (HT.out.keep HK4.out trivial)).mono ?_;rintro e w5 ⟨rfl,hK5⟩;rw [HP.out];have HK5 := hyd (HK4.out.trans hK5);have HA5 := hyd (HA4.out.trans hK5.any);have HZ5 := hyd (show w2.heap.size ≤ w5.heap.size from HA5.out.size);have HZ6 := hyd (blk_keep hK5 HZ4.out trivial);have HM5 := hyd (blk_keep hK5 HM4.out trivial);clear y0 y1 y2 y3 h0 h1 h2 h3 x0 ; clear m0 m1 m2 m3 k0 k1 k2 k3 x1;obtain ⟨y0,y1,y2,y3⟩ := at4 HZ6.out;obtain ⟨h0,h1,h2,h3⟩ := fr4c HZ6.out;have x0 := blk_lt HZ6.out;obtain ⟨m0,m1,m2,m3⟩ := at4 HM5.out;obtain ⟨k0,k1,k2,k3⟩ := fr4c HM5.out;have x1 := blk_lt HM5.out))
              refine bodyPost_ret (v := .tuple #[.agg #[.int .i64 0,.string ⟨#[]⟩,.slice none 0 0,.int .i64 0],.bool false]) (by simp [results,Tryz.results14,go_sem,y0,y1,y2,y3,h0,h1,h2,h3,x0]) rfl ?_
              exact ⟨(by have hK1 := HK5.out;repeat (first | (with_reducible exact hK1) | (refine Keep.set ?_ _ _ (fun h _ => Nat.lt_irrefl _ h)) | (refine Keep.alloc ?_ _))),.inl ⟨by first | exact HN.out | (rw [HN.out]),rfl⟩⟩
    have hf := fig1_cases t a ha (by omega)
    rcases hf with ⟨hn,hf⟩ | ⟨m,z,hzt,hm,hp,hf1,hf⟩
    · have HN := hyd (show o = none by rw [HS.out];exact mgAt_none (by omega) hn)
      clear hn
      rcases hf with hf | ⟨m,z,hzt,hp,hf⟩
      · have FG := hyd hf
        clear hf
        go_wp2_with (go_at_call 34;refine (FG.out _).mono ?_;rintro e w' ⟨rfl,rfl⟩)
        refine bodyPost_ret (v := .tuple #[.agg #[.int .i64 0,.string ⟨#[]⟩,.slice none 0 0,.int .i64 0],.bool false]) (by simp [results,Tryz.results14,go_sem,r0,r1,r2,r3,f0,f1,f2,f3,z0]) rfl ?_
        exact ⟨(by have hK1 := HK.out;repeat (first | (with_reducible exact hK1) | (refine Keep.set ?_ _ _ (fun h _ => Nat.lt_irrefl _ h)) | (refine Keep.alloc ?_ _))),.inl ⟨by first | exact HN.out | (rw [HN.out]),rfl⟩⟩
      · have FG := hyd hf
        have HP := hyd (hpK hp)
        clear hf hp
        go_wp2_with (first | (go_at_call 34;refine (FG.out _).mono ?_;rintro e w' ⟨rfl,rfl⟩) | (go_at_call 35;refine (HP.out _).mono ?_;rintro e w' ⟨rfl,rfl⟩))
        refine bodyPost_ret (v := .tuple #[.agg #[.int .i64 0,.string ⟨#[]⟩,.slice none 0 0,.int .i64 0],.bool false]) (by simp [results,Tryz.results14,go_sem,r0,r1,r2,r3,f0,f1,f2,f3,z0]) rfl ?_
        exact ⟨(by have hK1 := HK.out;repeat (first | (with_reducible exact hK1) | (refine Keep.set ?_ _ _ (fun h _ => Nat.lt_irrefl _ h)) | (refine Keep.alloc ?_ _))),.inl ⟨by first | exact HN.out | (rw [HN.out]),rfl⟩⟩
    · have FG := hyd hf
      have HP := hyd (hpK hp)
      have HF := hyd hf1
      clear hf hp hf1
      obtain rfl | rfl | rfl : k = 0 ∨ k = 1 ∨ k = 2 := by omega
      · go_wp2_with (first | (go_at_call 34;refine (FG.out _).mono ?_;rintro e w' ⟨rfl,rfl⟩) | (go_at_call 35;refine (HP.out _).mono ?_;rintro e w' ⟨rfl,rfl⟩))
        go_roundg (gk - 1)
        case rel => exact ⟨1,z + 1,m,B,C,by omega,by go_num,by first | rfl | go_num,by have := HG.out;omega,by omega,by omega,by omega,by omega,blk_far HZ.out _ _ (by show w.heap.size ≠ w.heap.size + 1;omega),blk_set HNB.out 0 _,HK.out.set _ _ (fun h _ => by have h : w.heap.size + 1 < w.heap.size := h;omega),by rw [HS.out];exact mgAt_step0 HF.out⟩
        case measure => have := HG.out;omega
      · go_wp2_with (first | (go_at_call 34;refine (FG.out _).mono ?_;rintro e w' ⟨rfl,rfl⟩) | (go_at_call 35;refine (HP.out _).mono ?_;rintro e w' ⟨rfl,rfl⟩))
        go_roundg (gk - 1)
        case rel => exact ⟨2,z + 1,A,m,C,by omega,by go_num,by first | rfl | go_num,by have := HG.out;omega,by omega,by omega,by omega,by omega,blk_far HZ.out _ _ (by show w.heap.size ≠ w.heap.size + 1;omega),blk_set HNB.out 1 _,HK.out.set _ _ (fun h _ => by have h : w.heap.size + 1 < w.heap.size := h;omega),by rw [HS.out];exact mgAt_step1 HF.out⟩
        case measure => have := HG.out;omega
      · go_wp2_with (first | (go_at_call 34;refine (FG.out _).mono ?_;rintro e w' ⟨rfl,rfl⟩) | (go_at_call 35;refine (HP.out _).mono ?_;rintro e w' ⟨rfl,rfl⟩))
        go_roundg (gk - 1)
        case rel => exact ⟨3,z + 1,A,B,m,by omega,by go_num,by first | rfl | go_num,by have := HG.out;omega,by omega,by omega,by omega,by omega,blk_far HZ.out _ _ (by show w.heap.size ≠ w.heap.size + 1;omega),blk_set HNB.out 2 _,HK.out.set _ _ (fun h _ => by have h : w.heap.size + 1 < w.heap.size := h;omega),by rw [HS.out];exact mgAt_step2 HF.out⟩
        case measure => have := HG.out;omega
end Go.Proofs.YtjopkcjpedgoaaaGreatDoor

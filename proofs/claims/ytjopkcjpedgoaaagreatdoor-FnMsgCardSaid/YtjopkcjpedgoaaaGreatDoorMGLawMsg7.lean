/- The text of what is said: what the reference's MsgPut writes. For every message. The reference's cut of a text at a byte, both ways told; an own slice that begins empty. For every text of at most 2^61 bytes. -/
import Derived.Test.YtjopkcjpedgoaaaGreatDoorMGLawMsg2
import Derived.Test.YtjopkcjpedgoaaaGreatDoorMGLawMsg5
import Derived.Test.YtjopkcjpedgoaaaGreatDoorMG2
import Derived.Deep.RegionHeld3
import Derived.Test.YtjopkcjpedgoaaaGreatDoorMG10
import Derived.Test.YtjopkcjpedgoaaaGreatDoorMG0
/- The text of what is said: what the reference's MsgPut writes. For every message. -/
namespace Go.Proofs.YtjopkcjpedgoaaaGreatDoor
open Go.RowKit
set_option linter.unusedVariables false
set_option linter.unusedSimpArgs false
set_option maxRecDepth 20000
set_option maxHeartbeats 2000000
theorem scE_app (l : List UInt8) (n : ByteArray) (p : List UInt8) : (⟨l.toArray⟩ : ByteArray) ++ ⟨#[10]⟩ ++ n ++ ⟨#[61]⟩ ++ ⟨p.toArray⟩ = ⟨(l ++ 10 :: (n.data.toList ++ 61 :: p)).toArray⟩ := by
  apply ByteArray.ext
  simp [ByteArray.data_append]
theorem say_app (a b c g : List UInt8) (t : ByteArray) : (⟨a.toArray⟩ : ByteArray) ++ ⟨#[32]⟩ ++ ⟨b.toArray⟩ ++ ⟨#[32]⟩ ++ ⟨c.toArray⟩ ++ ⟨#[32]⟩ ++ t ++ ⟨g.toArray⟩ = ⟨((a ++ [32]) ++ ((b ++ [32]) ++ (c ++ [32])) ++ (t.data.toList ++ g)).toArray⟩ := by
  apply ByteArray.ext
  simp [ByteArray.data_append]
theorem l9Given_calls (l : List Ce) (s : Value) (w : World) (hs : Ces w Any s l) (hl : l.length ≤ 5) (hok : ∀ x,x ∈ l → nameOk x.name = true ∧ okV 3 x.val = true) :
    Calls Tryz.prog 58 #[s] w (Str (givenTxt l l.length) w) := by
  have HS := hyd hs
  have HOK := hyd hok
  have LEN := hyd (fun k => givenTxt_len (k := k) hl hok)
  clear hok
  obtain ⟨ad,c,rfl,hc,hm,_⟩ := hs
  go_enter Tryz.func58,Tryz.ntmps58
  go_wp2
  go_loopg [3,4] (l.length + 1) (fun g o i wr => ∃ k : Nat,k ≤ l.length ∧ o = .string ⟨(givenTxt l k).toArray⟩ ∧ i = .int .i64 k ∧ g = l.length + 1 - k ∧ Keep Any w wr)
  case atStart => exact ⟨0,by omega,rfl,rfl,rfl,Keep.refl _ _⟩
  case round =>
    obtain ⟨k,hk,rfl,rfl,hg,hK⟩ := hrel
    have HG := hyd hg
    have hlen := LEN.out k
    clear hg
    by_cases hlt : k < l.length
    · have hx : l[k]? = some l[k] := List.getElem?_eq_getElem hlt
      have HX := hyd hx
      obtain ⟨ad,sa,sc,rfl,hN,hvx,c0,c1,c2,c3,c4⟩ := ces_at HS.out hK hx
      obtain ⟨gn,gv⟩ := HOK.out _ (List.mem_of_getElem? hx)
      have nl := name_size gn
      have pl := put_len3 gv (by omega)
      have GV := hyd gv
      have HS1 := hyd (givenTxt_succ hx)
      generalize l[k] = x at *
      have HV := hyd hvx
      clear hx hvx gn gv
      have k0 : (0 : Int) ≤ (k : Int) := by omega
      have k1 : (k : Int) < (l.length : Int) := by omega
      have o0 : ad.block < wr.heap.size := by have := World.block_lt_of_cell? wr _ c0;rwa [add_block] at this
      have SK := hyd (fun w' (h : Keep Any wr w') => (⟨h,h.cell c0 trivial,h.cell c1 trivial,h.cell c2 trivial,h.cell c3 trivial,h.cell c4 trivial⟩ : Keep Any wr w' ∧ w'.cell? (ad.add (k * 5)) = some (.string x.name) ∧ w'.cell? ⟨(ad.add (k * 5)).block,(ad.add (k * 5)).off + 1,none⟩ = some (.int .i64 x.val.kind) ∧ w'.cell? ⟨(ad.add (k * 5)).block,(ad.add (k * 5)).off + 2,none⟩ = some (.int .i64 x.val.num) ∧
        w'.cell? ⟨(ad.add (k * 5)).block,(ad.add (k * 5)).off + 3,none⟩ = some (.string x.val.text) ∧ w'.cell? ⟨(ad.add (k * 5)).block,(ad.add (k * 5)).off + 4,none⟩ = some (.slice sa x.val.list.length sc)))
      have b1 : ¬ 9223372036854775807 < (givenTxt l k).length + 1 := by omega
      have b2 : ¬ 9223372036854775807 < (givenTxt l k).length + 1 + x.name.size := by omega
      have b3 : ¬ 9223372036854775807 < (givenTxt l k).length + 1 + x.name.size + 1 := by omega
      have b4 : ¬ 9223372036854775807 < (givenTxt l k).length + 1 + x.name.size + 1 + x.val.put.length := by omega
      have kr : Keep Any wr wr.drew := (Keep.refl _ _).drew
      go_wp2_with (fail)
      go_region_held3 (fun w' => Keep Any wr w' ∧ w'.cell? (ad.add (k * 5)) = some (.string x.name) ∧ w'.cell? ⟨(ad.add (k * 5)).block,(ad.add (k * 5)).off + 1,none⟩ = some (.int .i64 x.val.kind) ∧ w'.cell? ⟨(ad.add (k * 5)).block,(ad.add (k * 5)).off + 2,none⟩ = some (.int .i64 x.val.num) ∧
        w'.cell? ⟨(ad.add (k * 5)).block,(ad.add (k * 5)).off + 3,none⟩ = some (.string x.val.text) ∧ w'.cell? ⟨(ad.add (k * 5)).block,(ad.add (k * 5)).off + 4,none⟩ = some (.slice sa x.val.list.length sc))
        (first | (go_split_ands;exact SK.out _ (Keep.trans (by first | assumption | exact Keep.drew (by assumption)) hK5)) | go_keep)
        ((go_at_call 76;refine (l1Put_calls _ _ _ (HV.out.keep (by first | assumption | exact kr.drew | exact Keep.drew (by assumption) | (go_split_ands;first | assumption | exact Keep.drew (by assumption)))) GV.out).mono ?_;rintro e w5 ⟨rfl,hK5⟩))
      go_wp2
      go_roundg (gk - 1)
      case rel => exact ⟨k + 1,by omega,by rw [HS1.out];exact congrArg Value.string (scE_app _ _ _),by go_num,by have := HG.out;omega,hK.trans (by go_split_ands;assumption)⟩
      case measure => have := HG.out;omega
    · obtain rfl : k = l.length := by omega
      go_wp2
      go_ret
      exact ⟨rfl,hK⟩
theorem l9Msg_calls (m : Ms) (cs : List Value) (w : World) (hm : MR w Any m cs) (hf : okM m = true) : Calls Tryz.prog 38 #[.agg cs.toArray] w (Str (sayTxt m) w) := by
  obtain ⟨s,rfl,h1,h2,h3,h4⟩ := hm
  obtain ⟨g1,g2,g3,g4,g5,g6,g7⟩ := okM_facts hf
  have l0 := itoa_len2 m.kind (by omega) (by omega)
  have l1 := itoa_len2 m.num (by omega) (by omega)
  have l2 := itoa_len2 m.text.size (by omega) (by omega)
  have gl := givenTxt_len (k := m.given.length) g6 g7
  have G := hyd (fun w' (h : Keep Any w w') => l9Given_calls m.given s w' (Ces.keep h4 h) g6 g7)
  have D := hyd l1Dec_calls
  have b1 : ¬ 9223372036854775807 < (Lib.itoa m.kind).length + 1 := by omega
  have b2 : ¬ 9223372036854775807 < (Lib.itoa m.kind).length + 1 + (Lib.itoa m.num).length := by omega
  have b3 : ¬ 9223372036854775807 < (Lib.itoa m.kind).length + 1 + (Lib.itoa m.num).length + 1 := by omega
  have b4 : ¬ 9223372036854775807 < (Lib.itoa m.kind).length + 1 + (Lib.itoa m.num).length + 1 + (Lib.itoa m.text.size).length := by omega
  have b5 : ¬ 9223372036854775807 < (Lib.itoa m.kind).length + 1 + (Lib.itoa m.num).length + 1 + (Lib.itoa m.text.size).length + 1 := by omega
  have b6 : ¬ 9223372036854775807 < (Lib.itoa m.kind).length + 1 + (Lib.itoa m.num).length + 1 + (Lib.itoa m.text.size).length + 1 + m.text.size := by omega
  have b7 : ¬ 9223372036854775807 < (Lib.itoa m.kind).length + 1 + (Lib.itoa m.num).length + 1 + (Lib.itoa m.text.size).length + 1 + m.text.size + (givenTxt m.given m.given.length).length := by omega
  have ES : sayTxt m = (Lib.itoa m.kind ++ [32]) ++ ((Lib.itoa m.num ++ [32]) ++ (Lib.itoa m.text.size ++ [32])) ++ (m.text.data.toList ++ givenTxt m.given m.given.length) := by simp [sayTxt,sayUpto,headTxt,numTxt]
  have HES := hyd ES
  obtain ⟨ad,c,rfl,hc,hm,_⟩ := h4
  clear hf g7 ES
  go_enter Tryz.func38,Tryz.ntmps38
  go_wp2_with (fail)
  have K0 : Keep Any w (w.alloc (.cells #[.int .i64 m.kind,.string m.text,.slice ad m.given.length c,.int .i64 m.num] 30 (0,0))) := (Keep.refl _ _).alloc _
  have B0 := blk_new w (.cells #[.int .i64 m.kind,.string m.text,.slice ad m.given.length c,.int .i64 m.num] 30 (0,0))
  generalize w.alloc (.cells #[.int .i64 m.kind,.string m.text,.slice ad m.given.length c,.int .i64 m.num] 30 (0,0)) = wr at *
  have x0 := blk_cell B0 0
  have x1 := blk_cell B0 1
  have x2 := blk_cell B0 2
  have x3 := blk_cell B0 3
  simp only [List.getElem?_toArray,List.getElem?_cons_succ,List.getElem?_cons_zero] at x0 x1 x2 x3
  have HK0 := hyd K0
  have kr : Keep Any wr wr.drew := (Keep.refl _ _).drew
  have SK := hyd (fun w' (h : Keep Any wr w') => (⟨h,h.cell x0 trivial,h.cell x1 trivial,h.cell x2 trivial,h.cell x3 trivial⟩ : Keep Any wr w' ∧ w'.cell? ⟨w.heap.size,0,none⟩ = some (.int .i64 m.kind) ∧ w'.cell? ⟨w.heap.size,1,none⟩ = some (.string m.text) ∧ w'.cell? ⟨w.heap.size,2,none⟩ = some (.slice ad m.given.length c) ∧ w'.cell? ⟨w.heap.size,3,none⟩ = some (.int .i64 m.num)))
  clear B0 K0
  go_region_held3 (fun w' => Keep Any wr w' ∧ w'.cell? ⟨w.heap.size,0,none⟩ = some (.int .i64 m.kind) ∧ w'.cell? ⟨w.heap.size,1,none⟩ = some (.string m.text) ∧ w'.cell? ⟨w.heap.size,2,none⟩ = some (.slice ad m.given.length c) ∧ w'.cell? ⟨w.heap.size,3,none⟩ = some (.int .i64 m.num))
    (first | (go_split_ands;exact SK.out _ (Keep.trans (by first | assumption | exact Keep.drew (by assumption)) hK5)) | go_keep)
    (first
      | (go_at_call 24;refine (D.out _ _ (by omega) (by omega)).mono ?_;rintro e w5 ⟨rfl,hK5⟩)
      | (go_at_call 58;refine (G.out _ (HK0.out.trans (by first | assumption | exact Keep.drew (by assumption) | (go_split_ands;first | assumption | exact Keep.drew (by assumption))))).mono ?_;rintro e w5 ⟨rfl,hK5⟩))
  go_wp2
  go_ret
  exact ⟨by rw [HES.out];exact congrArg (fun s => Ending.returned (.string s)) (say_app _ _ _ _ _),HK0.out.trans (by go_split_ands;assumption)⟩
theorem specMsgPut_calls (m : Ms) (cs : List Value) (w : World) (hm : MR w Any m cs) : Calls Tryz.prog 15 #[.agg cs.toArray] w (Str (msgTxt m) w) := by
  have F := hyd fun w' (hk : Keep Any w w') => specMsgOk_calls m cs w' (hm.keep hk)
  have L := hyd fun w' (hf : okM m = true) (hk : Keep Any w w') => l9Msg_calls m cs w' (hm.keep hk) hf
  obtain ⟨s,rfl,h1,h2,h3,h4⟩ := hm
  rcases hf : okM m with _ | _
  · have HF := hyd hf
    clear hf h4
    rw [msgTxt,HF.out]
    go_enter Tryz.func15,Tryz.ntmps15
    go_wp2_with (go_at_call 37;refine (F.out _ ((Keep.refl _ _).alloc _)).mono ?_;rintro e w2 ⟨he,hK⟩;rw [HF.out] at he;subst he)
    go_ret
    exact ⟨rfl,((Keep.refl _ _).alloc _).trans hK⟩
  · have HF := hyd hf
    clear hf h4
    rw [msgTxt,HF.out]
    go_enter Tryz.func15,Tryz.ntmps15
    go_wp2_with (first | (go_at_call 37;refine (F.out _ ((Keep.refl _ _).alloc _)).mono ?_;rintro e w2 ⟨he,hK⟩;rw [HF.out] at he;subst he;have HB := hyd (blk_keep hK (blk_new _ _) trivial);have x0 := blk_cell HB.out 0;have x1 := blk_cell HB.out 1;have x2 := blk_cell HB.out 2;have x3 := blk_cell HB.out 3;simp only [List.getElem?_toArray,List.getElem?_cons_succ,List.getElem?_cons_zero] at x0 x1 x2 x3;have K2 := hyd (((Keep.refl Any w).alloc _).trans hK);clear hK) | (go_at_call 38;refine (L.out _ HF.out K2.out).mono ?_;rintro e w3 ⟨rfl,hK⟩))
    go_ret
    exact ⟨rfl,K2.out.trans hK⟩

/- The reference's cut of a text at a byte,both ways told;an own slice that begins empty. For every text of at most 2^61 bytes. -/
theorem upto_none {s : ByteArray} {c : UInt8} {b : Int} (hb : b = c.toNat) (hs : s.size ≤ 2305843009213693952) (h : cutAt c s.data.toList = none) (w : World) : Calls Tryz.prog 40 #[.string s,.int .u8 b] w fun e w' => e = .returned (.tuple #[.string ⟨#[]⟩,.string ⟨#[]⟩,.bool false]) ∧ Keep Any w w' :=
  (l9Upto_calls s c b hb w hs).mono fun e w' hz => by
    rcases hz with ⟨_,he,hw⟩ | ⟨x,y,hn,_⟩
    · exact ⟨he,hw ▸ Keep.refl _ _⟩
    · rw [h] at hn;cases hn
theorem upto_some {s : ByteArray} {c : UInt8} {b : Int} (hb : b = c.toNat) (hs : s.size ≤ 2305843009213693952) {x y : List UInt8} (h : cutAt c s.data.toList = some (x,y)) (w : World) : Calls Tryz.prog 40 #[.string s,.int .u8 b] w fun e w' => e = .returned (.tuple #[.string ⟨x.toArray⟩,.string ⟨y.toArray⟩,.bool true]) ∧ Keep Any w w' :=
  (l9Upto_calls s c b hb w hs).mono fun e w' hz => by
    rcases hz with ⟨hn,_⟩ | ⟨x',y',hn,he,hw⟩
    · rw [h] at hn;cases hn
    · rw [h] at hn;cases hn;exact ⟨he,hw⟩
theorem SRow.made {α : Type} {sz : Nat} {R : World → (Nat → Prop) → α → List Value → Prop} (w : World) (T : TypeId) : SRow sz R (w.alloc (.cells #[] T)) w.heap.size (w.heap.size + 1) T (.slice (some ⟨w.heap.size,0,none⟩) 0 0) ([] : List α) [] :=
  ⟨fun _ _ => False,rfl,World.ownsRow_made w #[] 0 (Nat.le_refl _) (by simp [maxLen]) (by simp),(fun _ h => by cases h),(fun j x cs h => by cases h),fun _ _ h => h.elim,fun _ _ _ _ h => h.elim,by omega,by simp,(fun k h => by cases h;exact Nat.lt_succ_self _)⟩
end Go.Proofs.YtjopkcjpedgoaaaGreatDoor

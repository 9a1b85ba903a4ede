/- The walk of FnServerNew. A server begins with stores that have nothing, to which nobody talks: whatever bytes: FnServerNew returns true; the argument reads as it did. No condition. FnServerNew: the closed facts of its row, each by itself. -/
import Derived.Test.YtngghnakbhoiaaaGreatDoorMLawSvBegin0
import Derived.Test.YtngghnakbhoiaaaGreatDoorMLawSvBegin4
import Derived.Test.YtngghnakbhoiaaaGreatDoorMLawSvBegin6
import Derived.Test.YtngghnakbhoiaaaGreatDoorMLawSvBegin8
import Derived.WalkKit
import Derived.ProofKit
import Derived.OpenShut
import Derived.ShutString
import Derived.Carry
import Derived.Deep.DeepHandedRow
import Derived.Deep.RegionHeld3
import Derived.LaidMore
import Derived.Lay
import Derived.Test.YtngghnakbhoiaaaGreatDoorCards
import Derived.JoinedCond
/- The walk of FnServerNew. A server begins with stores that have nothing, to which nobody talks: whatever bytes: FnServerNew returns true; the argument reads as it did. No condition. -/
namespace Go.Proofs.YtngghnakbhoiaaaGreatDoor.fnServerNew
open Go.ChangeShapes Go.WideShapes Go.ChangeAt Go.RowKit
open Go.ChangeMaps (open_string shut_string)
set_option linter.unusedVariables false

def Answers (w : World) (e : Ending) (w' : World) : Prop := e = .returned (.bool true) ∧ Keep Any w w'
set_option maxHeartbeats 8000000 in
set_option maxRecDepth 20000 in
theorem walk (v1 : Value) (n1 : Nat) (w : World) (h1 : BytIn w v1 n1) : Calls Tryz.prog 3 #[v1] w (Answers w) := by
  have DS := Lib.hid (drawServerNew_calls v1 n1 w h1)
  obtain ⟨a1, c1, rfl, _, _, _⟩ := h1
  by_cases hz : 1048576 < n1
  · have z1 : (1048576 : Int) < (n1 : Int) := by omega
    go_enter Tryz.func3, Tryz.ntmps3
    go_wp2
    go_ret
    exact ⟨rfl, Keep.refl _ _⟩
  have z1 : ¬ (1048576 : Int) < (n1 : Int) := by omega
  go_enter Tryz.func3, Tryz.ntmps3
  go_wp2_with fail
  refine DS.out.mono ?_
  rintro e w2 ⟨vn, names, vr, rules, z, rfl, hN, hnl, hR, hrl, z0, z5, hK⟩
  have K2 := Lib.hid hK
  have N2 := Lib.hid hN
  have R2 := Lib.hid hR
  have SN := Lib.hid (serverNew_calls names vn rules vr z ⟨by omega, by omega⟩ w2 hN hR (by omega))
  have TN := Lib.hid (fun w' (k : Keep Any w2 w') => specServerNew_calls names vn rules vr z ⟨by omega, by omega⟩ w' (Strs.keep hN k) (Rus.keep hR k) (by omega) (by omega))
  obtain ⟨na, nc, rfl, _⟩ := hN
  clear hK hR
  go_wp2_with fail
  refine SN.out.mono ?_
  rintro e w3 ⟨b, hs, ls, m3, hb, rfl, hH, hL, hm, hK⟩
  obtain ⟨lh, hlh⟩ : ∃ l, l = (if b then names.map (·, rules) else []) := ⟨_, rfl⟩
  obtain ⟨lk, hlk⟩ : ∃ l, l = (if b then List.replicate z.toNat () else []) := ⟨_, rfl⟩
  rw [← hlh] at hH
  rw [← hlk] at hL
  have H3 := Lib.hid (SHos.hos hH)
  have L3 := Lib.hid (SLks.lks hL)
  have LH := Lib.hid hlh
  have LK := Lib.hid hlk
  have HB := Lib.hid hb
  have K3 := Lib.hid hK
  obtain ⟨ha, hc, rfl, _⟩ := hH
  obtain ⟨la, lc, rfl, _⟩ := hL
  clear hlh hlk hb hK hm
  go_wp2_with fail
  have K4 := Lib.hid (K3.out.alloc (.cells #[.slice ha lh.length hc, .slice la lk.length lc] 30 (0, 0)))
  have B4 := Lib.hid (blk_new w3 (.cells #[.slice ha lh.length hc, .slice la lk.length lc] 30 (0, 0)))
  have H4 := Lib.hid (Hos.keep H3.out ((Keep.refl Any w3).alloc (.cells #[.slice ha lh.length hc, .slice la lk.length lc] 30 (0, 0))))
  have L4 := Lib.hid (Lks.keep L3.out ((Keep.refl Any w3).alloc (.cells #[.slice ha lh.length hc, .slice la lk.length lc] 30 (0, 0))))
  generalize w3.alloc (.cells #[.slice ha lh.length hc, .slice la lk.length lc] 30 (0, 0)) = w4 at *
  generalize w3.heap.size = B at *
  refine (TN.out _ K4.out).mono ?_
  rintro e w5 ⟨b2, hs2, ls2, m5, hb2, rfl, hH, hL, hm, hK⟩
  obtain rfl : b2 = b := by rw [Bool.eq_iff_iff, hb2, HB.out]
  rw [← LH.out] at hH
  rw [← LK.out] at hL
  have K5 := Lib.hid (K4.out.trans hK)
  have B5 := Lib.hid (blk_keep hK B4.out trivial)
  have H5 := Lib.hid (Hos.keep H4.out hK)
  have L5 := Lib.hid (Lks.keep L4.out hK)
  have H5' := Lib.hid (SHos.hos hH)
  have L5' := Lib.hid (SLks.lks hL)
  obtain ⟨ha2, hc2, rfl, _⟩ := hH
  obtain ⟨la2, lc2, rfl, _⟩ := hL
  clear hb2 hm hK K3 H3 L3 H4 L4 B4 SN TN
  have K6 := Lib.hid (K5.out.alloc (.cells #[.slice ha2 lh.length hc2, .slice la2 lk.length lc2] 30 (0, 0)))
  have B6 := Lib.hid (blk_alloc B5.out (.cells #[.slice ha2 lh.length hc2, .slice la2 lk.length lc2] 30 (0, 0)))
  have C6 := Lib.hid (blk_new w5 (.cells #[.slice ha2 lh.length hc2, .slice la2 lk.length lc2] 30 (0, 0)))
  have KD := Lib.hid ((Keep.refl Any w5).alloc (.cells #[.slice ha2 lh.length hc2, .slice la2 lk.length lc2] 30 (0, 0)))
  have x0 := (blk_cell B6.out 0).trans rfl
  have x1 := (blk_cell B6.out 1).trans rfl
  have y0 := (blk_cell C6.out 0).trans rfl
  have y1 := (blk_cell C6.out 1).trans rfl
  have zb := blk_lt B5.out
  have e1 : (b2 != b2) = false := by cases b2 <;> rfl
  have e2 : (b2 == b2) = true := by cases b2 <;> rfl
  have AS := Lib.hid (fun w' (k : Keep Any w5 w') => asServer_calls lh lk _ _ _ _ _ _ _ _ w' (Hos.keep H5.out k) (Hos.keep H5'.out k) (Lks.keep L5.out k) (Lks.keep L5'.out k))
  cases b2
  · go_wp2_with (go_at_call 7; refine (AS.out _ KD.out).mono ?_; rintro e w7 ⟨rfl, hK⟩; have K6 := Lib.hid (K6.out.trans hK); have KD := Lib.hid (KD.out.trans hK); have B6 := Lib.hid (blk_keep hK B6.out trivial); have C6 := Lib.hid (blk_keep hK C6.out trivial); have x0 := (blk_cell B6.out 0).trans rfl; have x1 := (blk_cell B6.out 1).trans rfl; have y0 := (blk_cell C6.out 0).trans rfl; have y1 := (blk_cell C6.out 1).trans rfl; clear hK)
    go_ret
    exact ⟨rfl, K2.out.trans K6.out⟩
  · have SGD := Lib.hid (HB.out.1 rfl)
    have LHT := Lib.hid (show lh = names.map (·, rules) from LH.out)
    have LKT := Lib.hid (show lk = List.replicate z.toNat () from LK.out)
    have HLN := Lib.hid (show lh.length = names.length by rw [LHT.out, List.length_map])
    have HLK := Lib.hid (show lk.length = z.toNat by rw [LKT.out, List.length_replicate])
    have SN := Lib.hid (fun w' (k : Keep Any w2 w') => storeNew_calls rules vr w' (Rus.keep R2.out k) (by omega))
    go_wp2_with (go_at_call 7; refine (AS.out _ KD.out).mono ?_; rintro e w7 ⟨rfl, hK⟩; have K7 := Lib.hid (K6.out.trans hK); have KD7 := Lib.hid (KD.out.trans hK); have B7 := Lib.hid (blk_keep hK B6.out trivial); clear hK)
    refine (SN.out _ K7.out).mono ?_
    rintro e w8 ⟨b, rs, hb, rfl, hS, hK⟩
    obtain rfl : b = true := hb.2 SGD.out.2.2.2.2.2
    have S8 := Lib.hid (show Rus w8 Any rs rules from Sl.mono (SRus.rus hS) (fun _ _ _ h => h) (fun _ _ _ => trivial) (by decide))
    have K8 := Lib.hid (K7.out.trans hK)
    have KD8 := Lib.hid (KD7.out.trans hK)
    have B8 := Lib.hid (blk_keep hK B7.out trivial)
    clear hb hS hK x0 x1 y0 y1
    obtain ⟨ar, cr, rfl⟩ : ∃ a c, rs = .slice a rules.length c := by obtain ⟨a, c, e, _⟩ := S8.out; exact ⟨a, c, e⟩
    have zb := blk_lt B8.out
    go_wp2_with fail
    have K9 := Lib.hid (K8.out.alloc (.cells #[.slice none 0 0, .slice none 0 0, .int .i64 0, .int .i64 0, .slice ar rules.length cr, .int .i64 0, .slice none 0 0, .slice none 0 0, .int .i64 0] 41 (0, 0)))
    have KD9 := Lib.hid (KD8.out.alloc (.cells #[.slice none 0 0, .slice none 0 0, .int .i64 0, .int .i64 0, .slice ar rules.length cr, .int .i64 0, .slice none 0 0, .slice none 0 0, .int .i64 0] 41 (0, 0)))
    have KS9 := Lib.hid ((Keep.refl Any w8).alloc (.cells #[.slice none 0 0, .slice none 0 0, .int .i64 0, .int .i64 0, .slice ar rules.length cr, .int .i64 0, .slice none 0 0, .slice none 0 0, .int .i64 0] 41 (0, 0)))
    have B9 := Lib.hid (blk_alloc B8.out (.cells #[.slice none 0 0, .slice none 0 0, .int .i64 0, .int .i64 0, .slice ar rules.length cr, .int .i64 0, .slice none 0 0, .slice none 0 0, .int .i64 0] 41 (0, 0)))
    have D9 := Lib.hid (blk_new w8 (.cells #[.slice none 0 0, .slice none 0 0, .int .i64 0, .int .i64 0, .slice ar rules.length cr, .int .i64 0, .slice none 0 0, .slice none 0 0, .int .i64 0] 41 (0, 0)))
    go_loopg [12] (lh.length + 1) (fun g i wr => ∃ k : Nat, k ≤ lh.length ∧ i = .int .i64 k ∧ g = lh.length + 1 - k ∧ wr.heap[B]? = some (.cells #[.slice ha lh.length hc, .slice la lk.length lc] 30 (0, 0)) ∧ wr.heap[w8.heap.size]? = some (.cells #[.slice none 0 0, .slice none 0 0, .int .i64 0, .int .i64 0, .slice ar rules.length cr, .int .i64 0, .slice none 0 0, .slice none 0 0, .int .i64 0] 41 (0, 0)) ∧ Keep Any w2 wr ∧ Keep Any w5 wr ∧ Keep Any w8 wr)
    case atStart => exact ⟨0, by omega, rfl, rfl, B9.out, D9.out, K9.out, KD9.out, KS9.out⟩
    case round =>
      obtain ⟨k, hk, rfl, hg, hx, hy, hK2, hK5, hK8⟩ := hrel
      have XL := Lib.hid hx
      have YL := Lib.hid hy
      have KL := Lib.hid hK2
      have DL := Lib.hid hK5
      have SL := Lib.hid hK8
      have HG := Lib.hid hg
      clear hx hy hK2 hK5 hK8 hg
      have x0 := (blk_cell XL.out 0).trans rfl
      have x1 := (blk_cell XL.out 1).trans rfl
      by_cases hlt : k < lh.length
      · obtain ⟨nm, hnm, hx⟩ : ∃ nm, names[k]? = some nm ∧ lh[k]? = some (nm, rules) := by
          have hk' : k < names.length := by have := HLN.out; omega
          exact ⟨names[k], List.getElem?_eq_getElem hk', by rw [LHT.out, List.getElem?_map, List.getElem?_eq_getElem hk']; rfl⟩
        have y0 := (blk_cell YL.out 0).trans rfl
        have y1 := (blk_cell YL.out 1).trans rfl
        have y2 := (blk_cell YL.out 2).trans rfl
        have y3 := (blk_cell YL.out 3).trans rfl
        have y4 := (blk_cell YL.out 4).trans rfl
        have y5 := (blk_cell YL.out 5).trans rfl
        have y6 := (blk_cell YL.out 6).trans rfl
        have y7 := (blk_cell YL.out 7).trans rfl
        have y8 := (blk_cell YL.out 8).trans rfl
        obtain ⟨an, rfl, _, q0⟩ := strs_at N2.out KL.out hnm
        obtain ⟨ad, ra1, rd1, rc1, rfl, _, hr1, p0, p1, p2, p3, p4, p5, p6, p7, p8, p9⟩ := hos_at H5.out DL.out hx
        dsimp only at hr1 p0 p5
        have HR1 := Lib.hid hr1
        have HR2 := Lib.hid (Rus.keep S8.out SL.out)
        have k0 : (0 : Int) ≤ (k : Int) := by omega
        have k1 : (k : Int) < (lh.length : Int) := by omega
        have k2 : (k : Int) < (names.length : Int) := by have := HLN.out; omega
        have f1 : (nm.toList != nm.toList) = false := by simp
        have kr : Keep Any wr wr.drew := (Keep.refl _ _).drew
        have SK := Lib.hid (fun w' (h : Keep Any wr w') => (⟨h, h.cell x0 trivial, h.cell x1 trivial, h.cell p0 trivial, h.cell p1 trivial, h.cell p2 trivial, h.cell p3 trivial, h.cell p4 trivial, h.cell p5 trivial, h.cell p6 trivial, h.cell p7 trivial, h.cell p8 trivial, h.cell p9 trivial, h.cell y0 trivial, h.cell y1 trivial, h.cell y2 trivial, h.cell y3 trivial, h.cell y4 trivial, h.cell y5 trivial, h.cell y6 trivial, h.cell y7 trivial, h.cell y8 trivial, h.cell q0 trivial⟩ : Keep Any wr w' ∧ w'.cell? ⟨B, 0, none⟩ = some (.slice (some ad) lh.length hc) ∧ w'.cell? ⟨B, 1, none⟩ = some (.slice la lk.length lc) ∧ w'.cell? (ad.add (k * 10)) = some (.string nm) ∧ w'.cell? ⟨(ad.add (k * 10)).block, (ad.add (k * 10)).off + 1, none⟩ = some (.slice none 0 0) ∧ w'.cell? ⟨(ad.add (k * 10)).block, (ad.add (k * 10)).off + 2, none⟩ = some (.slice none 0 0) ∧ w'.cell? ⟨(ad.add (k * 10)).block, (ad.add (k * 10)).off + 3, none⟩ = some (.int .i64 0) ∧ w'.cell? ⟨(ad.add (k * 10)).block, (ad.add (k * 10)).off + 4, none⟩ = some (.int .i64 0) ∧ w'.cell? ⟨(ad.add (k * 10)).block, (ad.add (k * 10)).off + 5, none⟩ = some (.slice ra1 rules.length rc1) ∧ w'.cell? ⟨(ad.add (k * 10)).block, (ad.add (k * 10)).off + 6, none⟩ = some (.int .i64 0) ∧ w'.cell? ⟨(ad.add (k * 10)).block, (ad.add (k * 10)).off + 7, none⟩ = some (.slice rd1 0 0) ∧ w'.cell? ⟨(ad.add (k * 10)).block, (ad.add (k * 10)).off + 8, none⟩ = some (.slice none 0 0) ∧ w'.cell? ⟨(ad.add (k * 10)).block, (ad.add (k * 10)).off + 9, none⟩ = some (.int .i64 0) ∧ w'.cell? ⟨w8.heap.size, 0, none⟩ = some (.slice none 0 0) ∧ w'.cell? ⟨w8.heap.size, 1, none⟩ = some (.slice none 0 0) ∧ w'.cell? ⟨w8.heap.size, 2, none⟩ = some (.int .i64 0) ∧ w'.cell? ⟨w8.heap.size, 3, none⟩ = some (.int .i64 0) ∧ w'.cell? ⟨w8.heap.size, 4, none⟩ = some (.slice ar rules.length cr) ∧ w'.cell? ⟨w8.heap.size, 5, none⟩ = some (.int .i64 0) ∧ w'.cell? ⟨w8.heap.size, 6, none⟩ = some (.slice none 0 0) ∧ w'.cell? ⟨w8.heap.size, 7, none⟩ = some (.slice none 0 0) ∧ w'.cell? ⟨w8.heap.size, 8, none⟩ = some (.int .i64 0) ∧ w'.cell? (an.add k) = some (.string nm)))
        clear hx hnm hr1
        go_wp2
        go_region_held3 (fun w' => Keep Any wr w' ∧ w'.cell? ⟨B, 0, none⟩ = some (.slice (some ad) lh.length hc) ∧ w'.cell? ⟨B, 1, none⟩ = some (.slice la lk.length lc) ∧ w'.cell? (ad.add (k * 10)) = some (.string nm) ∧ w'.cell? ⟨(ad.add (k * 10)).block, (ad.add (k * 10)).off + 1, none⟩ = some (.slice none 0 0) ∧ w'.cell? ⟨(ad.add (k * 10)).block, (ad.add (k * 10)).off + 2, none⟩ = some (.slice none 0 0) ∧ w'.cell? ⟨(ad.add (k * 10)).block, (ad.add (k * 10)).off + 3, none⟩ = some (.int .i64 0) ∧ w'.cell? ⟨(ad.add (k * 10)).block, (ad.add (k * 10)).off + 4, none⟩ = some (.int .i64 0) ∧ w'.cell? ⟨(ad.add (k * 10)).block, (ad.add (k * 10)).off + 5, none⟩ = some (.slice ra1 rules.length rc1) ∧ w'.cell? ⟨(ad.add (k * 10)).block, (ad.add (k * 10)).off + 6, none⟩ = some (.int .i64 0) ∧ w'.cell? ⟨(ad.add (k * 10)).block, (ad.add (k * 10)).off + 7, none⟩ = some (.slice rd1 0 0) ∧ w'.cell? ⟨(ad.add (k * 10)).block, (ad.add (k * 10)).off + 8, none⟩ = some (.slice none 0 0) ∧ w'.cell? ⟨(ad.add (k * 10)).block, (ad.add (k * 10)).off + 9, none⟩ = some (.int .i64 0) ∧ w'.cell? ⟨w8.heap.size, 0, none⟩ = some (.slice none 0 0) ∧ w'.cell? ⟨w8.heap.size, 1, none⟩ = some (.slice none 0 0) ∧ w'.cell? ⟨w8.heap.size, 2, none⟩ = some (.int .i64 0) ∧ w'.cell? ⟨w8.heap.size, 3, none⟩ = some (.int .i64 0) ∧ w'.cell? ⟨w8.heap.size, 4, none⟩ = some (.slice ar rules.length cr) ∧ w'.cell? ⟨w8.heap.size, 5, none⟩ = some (.int .i64 0) ∧ w'.cell? ⟨w8.heap.size, 6, none⟩ = some (.slice none 0 0) ∧ w'.cell? ⟨w8.heap.size, 7, none⟩ = some (.slice none 0 0) ∧ w'.cell? ⟨w8.heap.size, 8, none⟩ = some (.int .i64 0) ∧ w'.cell? (an.add k) = some (.string nm))
          (first | (go_split_ands; exact SK.out _ (Keep.trans (by first | assumption | exact Keep.drew (by assumption)) hK6)) | go_keep)
          (first | (go_at_call 9; refine (asStore_calls rules _ _ _ _ _ _ _ _ _ (Rus.keep HR1.out (by (first | assumption | exact Keep.drew (by assumption) | (go_split_ands; first | assumption | exact Keep.drew (by assumption))))) (Rus.keep HR2.out (by (first | assumption | exact Keep.drew (by assumption) | (go_split_ands; first | assumption | exact Keep.drew (by assumption)))))).mono ?_; rintro e w6 ⟨rfl, hK6⟩))
        go_split_ands
        have KW6 := Lib.hid (show Keep Any wr w6 by assumption)
        go_wp2
        go_roundg (gk - 1)
        case rel => exact ⟨k + 1, by omega, by go_num, by have := HG.out; omega, blk_keep KW6.out XL.out trivial, blk_keep KW6.out YL.out trivial, KL.out.trans KW6.out, DL.out.trans KW6.out, SL.out.trans KW6.out⟩
        case measure => have := HG.out; omega
      · have SO := Lib.hid (fun w' (h : Keep Any w5 w') => serverOk_fresh lh lk ha la hc lc w' (Hos.keep H5.out h) (Lks.keep L5.out h) (by have := SGD.out.1; have := SGD.out.2.1; have := SGD.out.2.2.2.1; have := SGD.out.2.2.2.2.1; have := HLN.out; have := HLK.out; omega) (by have := SGD.out.1; have := SGD.out.2.1; have := SGD.out.2.2.2.1; have := SGD.out.2.2.2.2.1; have := HLN.out; have := HLK.out; omega) (by have := SGD.out.1; have := SGD.out.2.1; have := SGD.out.2.2.2.1; have := SGD.out.2.2.2.2.1; have := HLN.out; have := HLK.out; omega) (by have := SGD.out.1; have := SGD.out.2.1; have := SGD.out.2.2.2.1; have := SGD.out.2.2.2.2.1; have := HLN.out; have := HLK.out; omega) (by rw [LHT.out, List.map_map]; simpa [Function.comp_def] using SGD.out.2.2.1) (by intro x hx; rw [LHT.out] at hx; obtain ⟨y, _, rfl⟩ := List.mem_map.1 hx; exact SGD.out.2.2.2.2.2))
        have f2 : ((lk.length : Int) == z) = true := by have := SGD.out.2.2.2.1; have := HLK.out; rw [beq_iff_eq]; omega
        go_wp2_with (go_at_call 10; refine (SO.out _ DL.out).mono ?_; rintro e w6 ⟨rfl, hK6⟩; have KL := Lib.hid (KL.out.trans hK6); have XL := Lib.hid (blk_keep hK6 XL.out trivial); have x0 := (blk_cell XL.out 0).trans rfl; have x1 := (blk_cell XL.out 1).trans rfl)
        go_ret
        exact ⟨rfl, K2.out.trans KL.out⟩
end Go.Proofs.YtngghnakbhoiaaaGreatDoor.fnServerNew

/- FnServerNew: the closed facts of its row, each by itself. -/
namespace Go.Proofs.YtngghnakbhoiaaaGreatDoor.fnServerNew
set_option linter.unusedVariables false

theorem own : ownKnob Tryz.prog.godebug = none := by kernel_rfl
theorem laidOut : laidOutB Tryz.prog = true := by kernel_rfl
theorem cellsB : Tryz.prog.cellsOf 5 = 1 := by kernel_rfl
theorem both {a b : Bool} (h : a = true) (k : b = true) : (a && b) = true := by rw [h, k]; rfl
set_option maxRecDepth 100000 in
theorem fact0 : (Rows.fnServerNewRow.wf (OpenSpec.ofChange (OpenSpec.ofChange Rows.fnServerNewSpec).bare)) = true := by kernel_rfl
set_option maxRecDepth 100000 in
theorem fact2 : (mapsRowed Tryz.prog) = true := by kernel_rfl
set_option maxRecDepth 100000 in
theorem fact3 : (Tryz.f3.params.all (Tryz.prog.readableRec ·)) = true := by kernel_rfl
set_option maxRecDepth 100000 in
theorem fact4 : (namedTie Tryz.prog Rows.fnServerNewRow.named (OpenSpec.ofChange Rows.fnServerNewSpec).bare.vars) = true := by kernel_rfl
set_option maxRecDepth 100000 in
theorem fact5 : ((Rows.fnServerNewRow.stops == [])) = true := by kernel_rfl
set_option maxRecDepth 100000 in
theorem fact6 : ((Tryz.prog.stops == [])) = true := by kernel_rfl
set_option maxRecDepth 100000 in
theorem fact7 : ((Rows.fnServerNewRow.knobs == [])) = true := by kernel_rfl
set_option maxRecDepth 100000 in
theorem fact8 : ((Tryz.prog.stopKnobs == [])) = true := by kernel_rfl
set_option maxRecDepth 100000 in
theorem fact9 : ((Rows.fnServerNewRow.inPlace == Tryz.prog.inPlace 3)) = true := by kernel_rfl
set_option maxRecDepth 100000 in
theorem fact10 : ((Rows.fnServerNewRow.unfollowed == Tryz.prog.unfollowed 3)) = true := by kernel_rfl
set_option maxRecDepth 100000 in
theorem fact11 : ((Rows.fnServerNewRow.recurses == Tryz.prog.recurses 3)) = true := by kernel_rfl
set_option maxRecDepth 100000 in
theorem fact12 : ((Rows.fnServerNewRow.named == Tryz.prog.varsNamed 3)) = true := by kernel_rfl
set_option maxRecDepth 100000 in
theorem fact13 : ((Rows.fnServerNewRow.maps == (Tryz.f3.params.toList ++ (OpenSpec.ofChange Rows.fnServerNewSpec).bare.plain.varTypes Tryz.prog).any (Tryz.prog.mapsRec ·))) = true := by kernel_rfl
set_option maxRecDepth 100000 in
theorem fact14 : ((Rows.fnServerNewRow.ifaces == (Tryz.f3.params.toList ++ (OpenSpec.ofChange Rows.fnServerNewSpec).bare.plain.varTypes Tryz.prog).any (Tryz.prog.ifacesRec ·))) = true := by kernel_rfl
set_option maxRecDepth 100000 in
theorem fact15 : ((Rows.fnServerNewRow.mapsOut == Tryz.prog.mapsAmong Tryz.f3.resultTypes.toList)) = true := by kernel_rfl
set_option maxRecDepth 100000 in
theorem fact16 : ((Rows.fnServerNewRow.loops == (Tryz.f3.params.toList ++ (OpenSpec.ofChange Rows.fnServerNewSpec).bare.plain.varTypes Tryz.prog).any (Tryz.prog.loopsFrom ·))) = true := by kernel_rfl
set_option maxRecDepth 100000 in
theorem fact17 : ((Rows.fnServerNewRow.wideKeys == (Tryz.f3.params.toList ++ (OpenSpec.ofChange Rows.fnServerNewSpec).bare.plain.varTypes Tryz.prog ++ Tryz.f3.resultTypes.toList).any (Tryz.prog.wideKeysFrom ·))) = true := by kernel_rfl
set_option maxRecDepth 100000 in
theorem fact18 : ((OpenSpec.ofChange Rows.fnServerNewSpec).bare.vars.all (Tryz.prog.varReadable ·)) = true := by kernel_rfl
set_option maxRecDepth 100000 in
theorem fact19 : (Tryz.f3.resultTypes.all (fun tt => Tryz.prog.readableRec tt && decide (tt < Tryz.prog.types.size))) = true := by kernel_rfl
set_option maxRecDepth 100000 in
theorem fact20 : ((Rows.fnServerNewRow.ifacesOut == Tryz.f3.resultTypes.toList.any (Tryz.prog.ifacesRec ·))) = true := by kernel_rfl
set_option maxRecDepth 100000 in
theorem fact21 : ((Rows.fnServerNewRow.loopsOut == Tryz.f3.resultTypes.toList.any (Tryz.prog.loopsFrom ·))) = true := by kernel_rfl
set_option maxRecDepth 100000 in
theorem fact22 : ((Rows.fnServerNewRow.plainKeys == Tryz.prog.plainKeys)) = true := by kernel_rfl
set_option maxRecDepth 100000 in
theorem fact23 : (Rows.fnServerNewRow.shortTexts.isNone) = true := by kernel_rfl
set_option maxRecDepth 100000 in
theorem fact24 : (Tryz.prog.stopsHeard) = true := by kernel_rfl
set_option maxRecDepth 100000 in
theorem fact25 : (Tryz.prog.mayEnter) = true := by kernel_rfl
set_option maxRecDepth 100000 in
theorem fact26 : ((Rows.fnServerNewRow.lifted == Tryz.prog.liftsFinal)) = true := by kernel_rfl
set_option maxRecDepth 100000 in
theorem fact27 : ((Tryz.prog.make == some Rows.fnServerNewRow.make)) = true := by kernel_rfl
set_option maxRecDepth 100000 in
theorem fact28 : ((Rows.fnServerNewRow.kinds == (if Rows.fnServerNewRow.domain.isEmpty then [] else Tryz.f3.params.toList.map fun tt => match Tryz.prog.underlying tt with | some (.int k) => some k | _ => none))) = true := by kernel_rfl
set_option maxRecDepth 100000 in
theorem fact29 : ((Rows.fnServerNewRow.pinned == Rows.fnServerNewRow.pinnedBy)) = true := by kernel_rfl
set_option maxRecDepth 100000 in
theorem fact30 : ((Rows.fnServerNewRow.veiled == (Tryz.f3.params.toList ++ (OpenSpec.ofChange Rows.fnServerNewSpec).bare.plain.varTypes Tryz.prog ++ Tryz.f3.resultTypes.toList).any (Tryz.prog.veiledRec ·))) = true := by kernel_rfl
set_option maxRecDepth 100000 in
theorem fact31 : (Rows.fnServerNewRow.veiledFits Tryz.prog Tryz.f3.params.toList (Tryz.f3.params.toList ++ (OpenSpec.ofChange Rows.fnServerNewSpec).bare.plain.varTypes Tryz.prog ++ Tryz.f3.resultTypes.toList)) = true := by kernel_rfl
theorem named : Tryz.prog.funcNamed Rows.fnServerNewRow.func = some 3 := by kernel_rfl
theorem inst : Func.isInstance Tryz.prog Tryz.f3 Rows.fnServerNewRow.origin Rows.fnServerNewRow.targs := of_decide_eq_true (by kernel_rfl)
theorem wrap : Func.isWrapper Tryz.prog Tryz.f3 Rows.fnServerNewRow.wrapper Rows.fnServerNewRow.mainSum := by
  unfold Func.isWrapper
  first | (rw [if_pos (by decide +kernel)]; kernel_rfl) | (rw [if_neg (by decide +kernel)]; exact ⟨rfl, rfl⟩)
end Go.Proofs.YtngghnakbhoiaaaGreatDoor.fnServerNew

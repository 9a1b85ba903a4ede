/- A reply is read back from its text: whatever bytes: FnReply returns true; the arguments read as they did. The package variables that Go's strconv reads hold what the program's text lays (the card ties them). No other condition. -/
import Derived.Test.YtlmonnhgjnjniaaDoorCards
import Derived.Test.YtlmonnhgjnjniaaDoorTie
import Derived.Test.YtlmonnhgjnjniaaDoorMLawReply0
import Derived.Test.YtlmonnhgjnjniaaDoorMLawReply10
import Derived.Test.YtlmonnhgjnjniaaDoorMLawReply13
import Derived.WalkKit
import Derived.ProofKit
import Derived.OpenShut
import Derived.ShutString
import Derived.Carry
import Derived.Deep.DeepHandedRow
import Derived.Deep.RegionHeld3
import Derived.LaidMore
import Derived.Lay
/- A reply is read back from its text: whatever bytes: FnReply returns true; the arguments read as they did. The package variables that Go's strconv reads hold what the program's text lays (the card ties them). No other condition. -/
namespace Go.Proofs.YtlmonnhgjnjniaaDoor.fnReply
open Go.ChangeShapes Go.WideShapes Go.ChangeAt Go.RowKit
open Go.ChangeMaps (open_string shut_string)
set_option linter.unusedVariables false

theorem own : ownKnob Tryd.prog.godebug = none := by kernel_rfl
theorem laidOut : laidOutB Tryd.prog = true := by kernel_rfl
theorem gPowType : (Tryd.prog.globals[1]?).map (·.type) = some 112 := by kernel_rfl
theorem cellsA : Tryd.prog.cellsOf 112 = 20 := by kernel_rfl
theorem cellsE : Tryd.prog.cellsOf 100 = 1 := by kernel_rfl
theorem cellsB : Tryd.prog.cellsOf 5 = 1 := by kernel_rfl
theorem table {W : World} (h : laidMetH Tryd.prog Rows.fnReplyRow.laid W) : Tab W := by
  rw [MakeChecks.laidMetH_plain _ _ _ (by kernel_rfl)] at h
  exact Lib.tabIs_of_head (rest := _) gPow gPowType Tryd.underlying112 Tryd.underlying100 cellsE cellsA h.tail.tail

def Answers (w : World) (e : Ending) (w' : World) : Prop := e = .returned (.bool true) ∧ Keep Any w w'
/-- what is told: the reply, or the zero one -/
def res (o : Option Rp) : Rp × Bool := match o with
  | none => (⟨0, [], [], 0, false⟩, false)
  | some r => (r, true)
theorem gotRp_res {o : Option Rp} {w : World} {e : Ending} {w' : World} (h : GotRp o w e w') : ∃ a c a2 c2, e = .returned (.tuple #[.agg #[.int .i64 (res o).1.kind, .slice a (res o).1.names.length c, .slice a2 (res o).1.row.length c2, .int .i64 (res o).1.code, .bool (res o).1.more], .bool (res o).2]) ∧ Keep Any w w' ∧
    RR w' Any (res o).1 [.int .i64 (res o).1.kind, .slice a (res o).1.names.length c, .slice a2 (res o).1.row.length c2, .int .i64 (res o).1.code, .bool (res o).1.more] := by
  obtain ⟨hK, ⟨rfl, rfl⟩ | ⟨r, a, c, a2, c2, rfl, rfl, hS⟩⟩ := h
  · exact ⟨none, 0, none, 0, rfl, hK, (SRp.names ⟨by decide, by decide⟩ ⟨by decide, by decide⟩ rfl SSl.nil : SRp _ Any _ _).rr⟩
  · exact ⟨a, c, a2, c2, rfl, hK, hS.rr⟩
theorem maxLen_of {W : World} (h : W.ShapedOpen Tryd.prog) : ML W := Tryd.laysM146.s1_3 W h
theorem rr_same {w w' : World} {r : Rp} {cs : List Value} (h : RR w Any r cs) (k : Keep Any w w') : RR w' Any r cs := h.keep k
set_option maxHeartbeats 4000000 in
set_option maxRecDepth 20000 in
theorem walk (v1 v2 : Value) (n1 n2 : Nat) (w : World) (h1 : BytIn w v1 n1) (h2 : BytIn w v2 n2) (ht : Tab w) (hm : ML w) : Calls Tryd.prog 4 #[v1, v2] w (Answers w) := by
  have HT := Lib.hid ht
  have HM := Lib.hid hm
  clear ht hm
  have DP := Lib.hid (fun w' (k : Keep Any w w') => drawReplyPut_calls v1 n1 w' (h1.keep k))
  have DG := Lib.hid (fun w' (k : Keep Any w w') => drawReplyGet_calls v2 n2 w' (h2.keep k))
  obtain ⟨a1, c1, rfl, _, _, _⟩ := h1
  obtain ⟨a2, c2, rfl, _, _, _⟩ := h2
  by_cases hz : 1048576 < n1
  · have z1 : (1048576 : Int) < (n1 : Int) := by omega
    go_enter Tryd.func4, Tryd.ntmps4
    go_wp2
    go_ret
    exact ⟨rfl, Keep.refl _ _⟩
  have z1 : ¬ (1048576 : Int) < (n1 : Int) := by omega
  by_cases hz2 : 1048576 < n2
  · have z2 : (1048576 : Int) < (n2 : Int) := by omega
    go_enter Tryd.func4, Tryd.ntmps4
    go_wp2
    go_ret
    exact ⟨rfl, Keep.refl _ _⟩
  have z2 : ¬ (1048576 : Int) < (n2 : Int) := by omega
  clear hz hz2
  go_enter Tryd.func4, Tryd.ntmps4
  go_wp2_with fail
  refine (DP.out _ (Keep.refl _ _)).mono ?_
  rintro e w3 ⟨r, ra, rc, ra2, rc2, rfl, hR, hK⟩
  have K3 := Lib.hid hK
  have R3 := Lib.hid hR
  clear hR hK
  obtain ⟨T, hT⟩ : ∃ T : ByteArray, (⟨(replyTxt r).toArray⟩ : ByteArray) = T := ⟨_, rfl⟩
  have hTl : T.data.toList = replyTxt r := by rw [← hT]
  have hTs : T.size ≤ 40000 := by have := replyTxt_size r; rw [← hT]; simpa [ByteArray.size] using this
  have IP := Lib.hid (fun (r' : Rp) (T' : ByteArray) (hT' : (⟨(replyTxt r').toArray⟩ : ByteArray) = T') cs w' (h : RR w' Any r' cs) hT => (implReplyPut_calls r' cs w' h hT).mono fun e w'' h => (show e = .returned (.string T') ∧ Keep Any w' w'' from ⟨h.1.trans (by rw [hT']), h.2⟩))
  have SPU := Lib.hid (fun cs w' (h : RR w' Any r cs) => (specReplyPut_calls r cs w' h).mono fun e w'' h => (show e = .returned (.string T) ∧ Keep Any w' w'' from ⟨h.1.trans (by rw [hT]), h.2⟩))
  have HTT := Lib.hid hT
  clear hT
  have FI := Lib.hid (replyFine_calls r)
  have FS := Lib.hid (specReplyFine_calls r)
  have IG := Lib.hid (fun (t : ByteArray) w' ht hT hM => (implReplyGet_calls t w' ht hT hM).mono fun e w'' h => gotRp_res h)
  have SG := Lib.hid (fun (t : ByteArray) w' ht => by have := specReplyGet_calls t w' ht; rw [← replyGet_spec] at this; exact this.mono fun e w'' h => gotRp_res h)
  have AS := Lib.hid (fun r' cs ds w' h1 h2 => asReply_calls r' cs ds w' h1 h2)
  have PUT := Lib.hid (replyGet_put r)
  have B3 := Lib.hid (show True from trivial)
  go_wp2_with fail
  refine (IP.out r T HTT.out _ _ (R3.out.keep ((Keep.refl _ _).alloc _)) (HT.out.keep (K3.out.alloc _) trivial)).mono ?_
  rintro e w4 ⟨rfl, hK⟩
  have K4 := Lib.hid ((K3.out.alloc _).trans hK)
  have K34 := Lib.hid (((Keep.refl Any w3).alloc _).trans hK)
  have B4 := Lib.hid (blk_keep hK (blk_new _ _) trivial)
  have Z4 := Lib.hid (blk_lt B4.out)
  clear hK B3
  go_wp2_with fail
  refine (IG.out T _ (by omega) (HT.out.keep K4.out trivial) (HM.out.keep K4.out trivial)).mono ?_
  rintro e w5 ⟨xa, xc, xa2, xc2, rfl, hK, hX⟩
  have K5 := Lib.hid (K4.out.trans hK)
  have K35 := Lib.hid (K34.out.trans hK)
  have B5 := Lib.hid (blk_keep hK B4.out trivial)
  have X5 := Lib.hid hX
  clear hK hX
  rw [hTl] at X5 ⊢
  rcases PUT.out with ⟨hf, hne, hg⟩ | ⟨hf, he, hg⟩
  · rw [hg] at X5 ⊢
    simp only [res] at X5 ⊢
    have q1 : T.toList.isEmpty = false := by rw [ByteArray.toList_eq, hTl]; cases h : replyTxt r with | nil => exact absurd h hne | cons a l => rfl
    have q2 : (T.toList == []) = false := by rw [ByteArray.toList_eq, hTl]; cases h : replyTxt r with | nil => exact absurd h hne | cons a l => rfl
    have q3 : (T.toList != []) = true := by rw [bne, q2]; rfl
    have b1 : (T.toList != T.toList) = false := by simp
    rw [hf] at FI FS
    clear hf hg hne
    go_wp2_with fail
    have K6 := Lib.hid (show Keep Any w (w5.alloc (.cells #[.int .i64 r.kind, .slice xa r.names.length xc, .slice xa2 r.row.length xc2, .int .i64 r.code, .bool r.more] 25 (0, 0))) from K5.out.alloc _)
    have R6 := Lib.hid (R3.out.keep (show Keep Any w3 (w5.alloc (.cells #[.int .i64 r.kind, .slice xa r.names.length xc, .slice xa2 r.row.length xc2, .int .i64 r.code, .bool r.more] 25 (0, 0))) from K35.out.alloc _))
    have X6 := Lib.hid (X5.out.keep (show Keep Any w5 (w5.alloc (.cells #[.int .i64 r.kind, .slice xa r.names.length xc, .slice xa2 r.row.length xc2, .int .i64 r.code, .bool r.more] 25 (0, 0))) from (Keep.refl _ _).alloc _))
    have A6 := blk_alloc B5.out (.cells #[.int .i64 r.kind, .slice xa r.names.length xc, .slice xa2 r.row.length xc2, .int .i64 r.code, .bool r.more] 25 (0, 0))
    have C6 := blk_new w5 (.cells #[.int .i64 r.kind, .slice xa r.names.length xc, .slice xa2 r.row.length xc2, .int .i64 r.code, .bool r.more] 25 (0, 0))
    generalize w5.alloc (.cells #[.int .i64 r.kind, .slice xa r.names.length xc, .slice xa2 r.row.length xc2, .int .i64 r.code, .bool r.more] 25 (0, 0)) = wr at *
    obtain ⟨x0, x1, x2, x3, x4⟩ := at5 A6
    obtain ⟨y0, y1, y2, y3, y4⟩ := at5 C6
    have kr : Keep Any wr wr.drew := (Keep.refl _ _).drew
    have SK := Lib.hid (fun w' (h : Keep Any wr w') => (⟨h, h.cell x0 trivial, h.cell x1 trivial, h.cell x2 trivial, h.cell x3 trivial, h.cell x4 trivial, h.cell y0 trivial, h.cell y1 trivial, h.cell y2 trivial, h.cell y3 trivial, h.cell y4 trivial⟩ : Keep Any wr w' ∧ w'.cell? ⟨w3.heap.size, 0, none⟩ = some (.int .i64 r.kind) ∧ w'.cell? ⟨w3.heap.size, 1, none⟩ = some (.slice ra r.names.length rc) ∧ w'.cell? ⟨w3.heap.size, 2, none⟩ = some (.slice ra2 r.row.length rc2) ∧ w'.cell? ⟨w3.heap.size, 3, none⟩ = some (.int .i64 r.code) ∧ w'.cell? ⟨w3.heap.size, 4, none⟩ = some (.bool r.more) ∧ w'.cell? ⟨w5.heap.size, 0, none⟩ = some (.int .i64 r.kind) ∧ w'.cell? ⟨w5.heap.size, 1, none⟩ = some (.slice xa r.names.length xc) ∧ w'.cell? ⟨w5.heap.size, 2, none⟩ = some (.slice xa2 r.row.length xc2) ∧ w'.cell? ⟨w5.heap.size, 3, none⟩ = some (.int .i64 r.code) ∧ w'.cell? ⟨w5.heap.size, 4, none⟩ = some (.bool r.more)))
    clear A6 C6
    go_region_held3 (fun w' => Keep Any wr w' ∧ w'.cell? ⟨w3.heap.size, 0, none⟩ = some (.int .i64 r.kind) ∧ w'.cell? ⟨w3.heap.size, 1, none⟩ = some (.slice ra r.names.length rc) ∧ w'.cell? ⟨w3.heap.size, 2, none⟩ = some (.slice ra2 r.row.length rc2) ∧ w'.cell? ⟨w3.heap.size, 3, none⟩ = some (.int .i64 r.code) ∧ w'.cell? ⟨w3.heap.size, 4, none⟩ = some (.bool r.more) ∧ w'.cell? ⟨w5.heap.size, 0, none⟩ = some (.int .i64 r.kind) ∧ w'.cell? ⟨w5.heap.size, 1, none⟩ = some (.slice xa r.names.length xc) ∧ w'.cell? ⟨w5.heap.size, 2, none⟩ = some (.slice xa2 r.row.length xc2) ∧ w'.cell? ⟨w5.heap.size, 3, none⟩ = some (.int .i64 r.code) ∧ w'.cell? ⟨w5.heap.size, 4, none⟩ = some (.bool r.more))
      (first | (go_split_ands; exact SK.out _ (Keep.trans (by first | assumption | exact Keep.drew (by assumption)) hK6)) | go_keep)
      (first | (go_at_call 12; refine (SPU.out _ _ (R6.out.keep (by first | assumption | exact Keep.drew (by assumption) | (go_split_ands; first | assumption | exact Keep.drew (by assumption))))).mono ?_; rintro e w6 ⟨rfl, hK6⟩) | (go_at_call 13; refine (FI.out _ _ (R6.out.keep (by first | assumption | exact Keep.drew (by assumption) | (go_split_ands; first | assumption | exact Keep.drew (by assumption))))).mono ?_; rintro e w6 ⟨rfl, hK6⟩) | (go_at_call 14; refine (FS.out _ _ (R6.out.keep (by first | assumption | exact Keep.drew (by assumption) | (go_split_ands; first | assumption | exact Keep.drew (by assumption))))).mono ?_; rintro e w6 ⟨rfl, hK6⟩) | (go_at_call 15; refine (AS.out r _ _ _ (X6.out.keep (by first | assumption | exact Keep.drew (by assumption) | (go_split_ands; first | assumption | exact Keep.drew (by assumption)))) (R6.out.keep (by first | assumption | exact Keep.drew (by assumption) | (go_split_ands; first | assumption | exact Keep.drew (by assumption))))).mono ?_; rintro e w6 ⟨rfl, hK6⟩))
    go_split_ands
    have K6w := Lib.hid (K6.out.trans (show Keep Any wr w6 by assumption))
    go_wp2_with fail
    refine (DG.out _ K6w.out).mono ?_
    rintro e w7 ⟨t2, ht2, rfl, hK⟩
    have K7 := Lib.hid (K6w.out.trans hK)
    clear hK x0 x1 x2 x3 x4 y0 y1 y2 y3 y4
    rcases ho : replyGet t2.data.toList with _ | y
    · skip
      have IG2 := Lib.hid (IG.out t2)
      have SG2 := Lib.hid (SG.out t2)
      rw [ho] at IG2 SG2
      simp only [res] at IG2 SG2
      clear ho
      have e2 : (t2.toList == t2.toList) = true := by simp
      go_wp2_with fail
      refine (IG2.out _ (by omega) (HT.out.keep K7.out trivial) (HM.out.keep K7.out trivial)).mono ?_
      rintro e w8 ⟨ya, yc, ya2, yc2, rfl, hK, hY⟩
      have K8 := Lib.hid (K7.out.trans hK)
      have Y8 := Lib.hid hY
      clear hK hY
      go_wp2_with fail
      refine (SG2.out _ (by omega)).mono ?_
      rintro e w9 ⟨za, zc, za2, zc2, rfl, hK, hZ⟩
      have K9 := Lib.hid ((K8.out.alloc _).trans hK)
      have K89 := Lib.hid (((Keep.refl Any w8).alloc _).trans hK)
      have B9 := Lib.hid (blk_keep hK (blk_new _ _) trivial)
      have Z9 := Lib.hid hZ
      have Y9 := Lib.hid (Y8.out.keep K89.out)
      clear hK hZ
      obtain ⟨x0, x1, x2, x3, x4⟩ := at5 B9.out
      have zx := blk_lt B9.out
      go_wp2_with fail
      refine (AS.out (⟨0, [], [], 0, false⟩) _ _ _ (Y9.out.keep ((Keep.refl _ _).alloc _)) (Z9.out.keep ((Keep.refl _ _).alloc _))).mono ?_
      rintro e w10 ⟨rfl, hK⟩
      have K10 := Lib.hid ((K9.out.alloc _).trans hK)
      have K910 := Lib.hid (((Keep.refl Any w9).alloc _).trans hK)
      have B10 := Lib.hid (blk_keep hK (blk_alloc B9.out _) trivial)
      clear hK x0 x1 x2 x3 x4 zx
      obtain ⟨x0, x1, x2, x3, x4⟩ := at5 B10.out
      have zx := blk_lt B10.out
      go_wp2
      go_ret
      exact ⟨rfl, K10.out⟩

    · have HB := Lib.hid (show (⟨(replyTxt y).toArray⟩ : ByteArray) = t2 by rw [replyGet_back ho])
      have IG2 := Lib.hid (IG.out t2)
      have SG2 := Lib.hid (SG.out t2)
      rw [ho] at IG2 SG2
      simp only [res] at IG2 SG2
      clear ho
      have e2 : (t2.toList == t2.toList) = true := by simp
      go_wp2_with fail
      refine (IG2.out _ (by omega) (HT.out.keep K7.out trivial) (HM.out.keep K7.out trivial)).mono ?_
      rintro e w8 ⟨ya, yc, ya2, yc2, rfl, hK, hY⟩
      have K8 := Lib.hid (K7.out.trans hK)
      have Y8 := Lib.hid hY
      clear hK hY
      go_wp2_with fail
      refine (SG2.out _ (by omega)).mono ?_
      rintro e w9 ⟨za, zc, za2, zc2, rfl, hK, hZ⟩
      have K9 := Lib.hid ((K8.out.alloc _).trans hK)
      have K89 := Lib.hid (((Keep.refl Any w8).alloc _).trans hK)
      have B9 := Lib.hid (blk_keep hK (blk_new _ _) trivial)
      have Z9 := Lib.hid hZ
      have Y9 := Lib.hid (Y8.out.keep K89.out)
      clear hK hZ
      obtain ⟨x0, x1, x2, x3, x4⟩ := at5 B9.out
      have zx := blk_lt B9.out
      go_wp2_with fail
      refine (AS.out (y) _ _ _ (Y9.out.keep ((Keep.refl _ _).alloc _)) (Z9.out.keep ((Keep.refl _ _).alloc _))).mono ?_
      rintro e w10 ⟨rfl, hK⟩
      have K10 := Lib.hid ((K9.out.alloc _).trans hK)
      have K910 := Lib.hid (((Keep.refl Any w9).alloc _).trans hK)
      have B10 := Lib.hid (blk_keep hK (blk_alloc B9.out _) trivial)
      clear hK x0 x1 x2 x3 x4 zx
      obtain ⟨x0, x1, x2, x3, x4⟩ := at5 B10.out
      have zx := blk_lt B10.out
      go_wp2_with fail
      refine (IP.out y t2 HB.out _ _ (Y9.out.keep K910.out) (HT.out.keep K10.out trivial)).mono ?_
      rintro e w11 ⟨rfl, hK⟩
      have K11 := Lib.hid (K10.out.trans hK)
      clear hK
      go_wp2
      go_ret
      exact ⟨rfl, K11.out⟩
  · rw [hg] at X5 ⊢
    simp only [res] at X5 ⊢
    have q1 : T.toList.isEmpty = true := by rw [ByteArray.toList_eq, hTl]; rw [he]; rfl
    have q2 : (T.toList == []) = true := by rw [ByteArray.toList_eq, hTl]; rw [he]; rfl
    have q3 : (T.toList != []) = false := by rw [bne, q2]; rfl
    have b1 : (T.toList != T.toList) = false := by simp
    rw [hf] at FI FS
    clear hf hg he
    go_wp2_with fail
    have K6 := Lib.hid (show Keep Any w (w5.alloc (.cells #[.int .i64 0, .slice xa 0 xc, .slice xa2 0 xc2, .int .i64 0, .bool false] 25 (0, 0))) from K5.out.alloc _)
    have R6 := Lib.hid (R3.out.keep (show Keep Any w3 (w5.alloc (.cells #[.int .i64 0, .slice xa 0 xc, .slice xa2 0 xc2, .int .i64 0, .bool false] 25 (0, 0))) from K35.out.alloc _))
    have X6 := Lib.hid (X5.out.keep (show Keep Any w5 (w5.alloc (.cells #[.int .i64 0, .slice xa 0 xc, .slice xa2 0 xc2, .int .i64 0, .bool false] 25 (0, 0))) from (Keep.refl _ _).alloc _))
    have A6 := blk_alloc B5.out (.cells #[.int .i64 0, .slice xa 0 xc, .slice xa2 0 xc2, .int .i64 0, .bool false] 25 (0, 0))
    have C6 := blk_new w5 (.cells #[.int .i64 0, .slice xa 0 xc, .slice xa2 0 xc2, .int .i64 0, .bool false] 25 (0, 0))
    generalize w5.alloc (.cells #[.int .i64 0, .slice xa 0 xc, .slice xa2 0 xc2, .int .i64 0, .bool false] 25 (0, 0)) = wr at *
    obtain ⟨x0, x1, x2, x3, x4⟩ := at5 A6
    obtain ⟨y0, y1, y2, y3, y4⟩ := at5 C6
    have kr : Keep Any wr wr.drew := (Keep.refl _ _).drew
    have SK := Lib.hid (fun w' (h : Keep Any wr w') => (⟨h, h.cell x0 trivial, h.cell x1 trivial, h.cell x2 trivial, h.cell x3 trivial, h.cell x4 trivial, h.cell y0 trivial, h.cell y1 trivial, h.cell y2 trivial, h.cell y3 trivial, h.cell y4 trivial⟩ : Keep Any wr w' ∧ w'.cell? ⟨w3.heap.size, 0, none⟩ = some (.int .i64 r.kind) ∧ w'.cell? ⟨w3.heap.size, 1, none⟩ = some (.slice ra r.names.length rc) ∧ w'.cell? ⟨w3.heap.size, 2, none⟩ = some (.slice ra2 r.row.length rc2) ∧ w'.cell? ⟨w3.heap.size, 3, none⟩ = some (.int .i64 r.code) ∧ w'.cell? ⟨w3.heap.size, 4, none⟩ = some (.bool r.more) ∧ w'.cell? ⟨w5.heap.size, 0, none⟩ = some (.int .i64 0) ∧ w'.cell? ⟨w5.heap.size, 1, none⟩ = some (.slice xa 0 xc) ∧ w'.cell? ⟨w5.heap.size, 2, none⟩ = some (.slice xa2 0 xc2) ∧ w'.cell? ⟨w5.heap.size, 3, none⟩ = some (.int .i64 0) ∧ w'.cell? ⟨w5.heap.size, 4, none⟩ = some (.bool false)))
    clear A6 C6
    refine wp_region_noPanic ?_
    refine wp_region_held_drew (S := (fun w' => Keep Any wr w' ∧ w'.cell? ⟨w3.heap.size, 0, none⟩ = some (.int .i64 r.kind) ∧ w'.cell? ⟨w3.heap.size, 1, none⟩ = some (.slice ra r.names.length rc) ∧ w'.cell? ⟨w3.heap.size, 2, none⟩ = some (.slice ra2 r.row.length rc2) ∧ w'.cell? ⟨w3.heap.size, 3, none⟩ = some (.int .i64 r.code) ∧ w'.cell? ⟨w3.heap.size, 4, none⟩ = some (.bool r.more) ∧ w'.cell? ⟨w5.heap.size, 0, none⟩ = some (.int .i64 0) ∧ w'.cell? ⟨w5.heap.size, 1, none⟩ = some (.slice xa 0 xc) ∧ w'.cell? ⟨w5.heap.size, 2, none⟩ = some (.slice xa2 0 xc2) ∧ w'.cell? ⟨w5.heap.size, 3, none⟩ = some (.int .i64 0) ∧ w'.cell? ⟨w5.heap.size, 4, none⟩ = some (.bool false))) (by kernel_rfl) ?hS0 (fun hHeld => ?_)
    case hS0 =>
      (try dsimp only)
      go_keep
    refine wpAnyH_take (i := 0) (oi := { dst := some 31, op := Op.move (Operand.tmp 6), type := 9, pos := "laws.go:1660", after := #[], guard := none }) (v := ?_) rfl (by kernel_rfl) (by kernel_rfl) (by kernel_rfl) (fun _ _ _ h => h) (Or.inl ⟨by rfl, ?hy0⟩) (by assumption) ?_
    case hy0 =>
      intro w hSw
      (try dsimp only at hSw)
      first | (go_simp; done) | (go_simp; with_reducible rfl)
    try simp only [Act.put, List.setIfInBounds_toArray, List.set_cons_zero, List.set_cons_succ]
    refine wpAnyH_take (i := 1) (oi := { dst := some 32, op := Op.load 25 (Operand.tmp 5), type := 25, pos := "laws.go:1660", after := #[], guard := none }) (v := ?_) rfl (by kernel_rfl) (by kernel_rfl) (by kernel_rfl) (fun _ _ _ h => h) (Or.inl ⟨by rfl, ?hy1⟩) (by assumption) ?_
    case hy1 =>
      intro w hSw
      (try dsimp only at hSw)
      first | (go_simp; done) | (go_simp; with_reducible rfl)
    try simp only [Act.put, List.setIfInBounds_toArray, List.set_cons_zero, List.set_cons_succ]
    refine wpAnyH_ready (rs := [2]) (by kernel_rfl) (by simp) ?_
    refine AllReadyH.cons (o := { dst := some 33, op := Op.call { callee := Callee.value (Operand.func 12), args := #[Operand.tmp 32], argTypes := #[25] }, type := 9, pos := "laws.go:1660", after := #[{ on := 1, ground := Ground.data }], guard := none }) rfl (fun K' hK => ?_) AllReadyH.nil
    go_simp
    go_at_call 12
    refine (SPU.out _ _ (R6.out.keep (by first | assumption | exact Keep.drew (by assumption) | (go_split_ands; first | assumption | exact Keep.drew (by assumption))))).mono ?_
    rintro e w6 ⟨rfl, hK6⟩
    refine hK.out _ _ ?hS2 (fun hHeld => ?_)
    case hS2 =>
      (try dsimp only)
      first | (go_split_ands; exact SK.out _ (Keep.trans (by first | assumption | exact Keep.drew (by assumption)) hK6)) | go_keep
    clear hK K'
    try simp only [Act.put, List.setIfInBounds_toArray, List.set_cons_zero, List.set_cons_succ]
    refine wpAnyH_take (i := 3) (oi := { dst := some 34, op := Op.binOp BinOp.neq 9 (Operand.tmp 31) (Operand.tmp 33) 9, type := 4, pos := "laws.go:1660", after := #[{ on := 0, ground := Ground.data }, { on := 2, ground := Ground.data }], guard := none }) (v := ?_) rfl (by kernel_rfl) (by kernel_rfl) (by kernel_rfl) (fun _ _ _ h => h) (Or.inl ⟨by rfl, ?hy3⟩) (by assumption) ?_
    case hy3 =>
      intro w hSw
      (try dsimp only at hSw)
      first | (go_simp; done) | (go_simp; with_reducible rfl)
    try simp only [Act.put, List.setIfInBounds_toArray, List.set_cons_zero, List.set_cons_succ]
    refine wpAnyH_take (i := 4) (oi := { dst := some 35, op := Op.move (Operand.tmp 34), type := 4, pos := "laws.go:1660", after := #[{ on := 3, ground := Ground.data }, { on := 2, ground := Ground.chain }], guard := none }) (v := ?_) rfl (by kernel_rfl) (by kernel_rfl) (by kernel_rfl) (fun _ _ _ h => h) (Or.inl ⟨by rfl, ?hy4⟩) (by assumption) ?_
    case hy4 =>
      intro w hSw
      (try dsimp only at hSw)
      first | (go_simp; done) | (go_simp; with_reducible rfl)
    try simp only [Act.put, List.setIfInBounds_toArray, List.set_cons_zero, List.set_cons_succ]
    refine wpAnyH_take (i := 5) (oi := { dst := some 36, op := Op.load 25 (Operand.tmp 5), type := 25, pos := "laws.go:1660", after := #[{ on := 4, ground := Ground.guard }], guard := some (4, false) }) (v := ?_) rfl (by kernel_rfl) (by kernel_rfl) (by kernel_rfl) (fun _ _ _ h => h) (Or.inl ⟨by rfl, ?hy5⟩) (by assumption) ?_
    case hy5 =>
      intro w hSw
      (try dsimp only at hSw)
      first | (go_simp; done) | (go_simp; with_reducible rfl)
    try simp only [Act.put, List.setIfInBounds_toArray, List.set_cons_zero, List.set_cons_succ]
    refine wpAnyH_take (i := 7) (oi := { dst := some 38, op := Op.load 25 (Operand.tmp 5), type := 25, pos := "laws.go:1660", after := #[{ on := 4, ground := Ground.guard }], guard := some (4, false) }) (v := ?_) rfl (by kernel_rfl) (by kernel_rfl) (by kernel_rfl) (fun _ _ _ h => h) (Or.inl ⟨by rfl, ?hy7⟩) (by assumption) ?_
    case hy7 =>
      intro w hSw
      (try dsimp only at hSw)
      first | (go_simp; done) | (go_simp; with_reducible rfl)
    try simp only [Act.put, List.setIfInBounds_toArray, List.set_cons_zero, List.set_cons_succ]
    refine wpAnyH_ready (rs := [6]) (by kernel_rfl) (by simp) ?_
    refine AllReadyH.cons (o := { dst := some 37, op := Op.call { callee := Callee.value (Operand.func 13), args := #[Operand.tmp 36], argTypes := #[25] }, type := 4, pos := "laws.go:1660", after := #[{ on := 5, ground := Ground.data }, { on := 4, ground := Ground.chain }, { on := 4, ground := Ground.guard }], guard := some (4, false) }) rfl (fun K' hK => ?_) AllReadyH.nil
    go_simp
    go_at_call 13
    refine (FI.out _ _ (R6.out.keep (by first | assumption | exact Keep.drew (by assumption) | (go_split_ands; first | assumption | exact Keep.drew (by assumption))))).mono ?_
    rintro e w6 ⟨rfl, hK6⟩
    refine hK.out _ _ ?hS6 (fun hHeld => ?_)
    case hS6 =>
      (try dsimp only)
      first | (go_split_ands; exact SK.out _ (Keep.trans (by first | assumption | exact Keep.drew (by assumption)) hK6)) | go_keep
    clear hK K'
    try simp only [Act.put, List.setIfInBounds_toArray, List.set_cons_zero, List.set_cons_succ]
    refine wpAnyH_ready (rs := [8]) (by kernel_rfl) (by simp) ?_
    refine AllReadyH.cons (o := { dst := some 39, op := Op.call { callee := Callee.value (Operand.func 14), args := #[Operand.tmp 38], argTypes := #[25] }, type := 4, pos := "laws.go:1660", after := #[{ on := 7, ground := Ground.data }, { on := 6, ground := Ground.chain }, { on := 4, ground := Ground.guard }], guard := some (4, false) }) rfl (fun K' hK => ?_) AllReadyH.nil
    go_simp
    go_at_call 14
    refine (FS.out _ _ (R6.out.keep (by first | assumption | exact Keep.drew (by assumption) | (go_split_ands; first | assumption | exact Keep.drew (by assumption))))).mono ?_
    rintro e w6 ⟨rfl, hK6⟩
    refine hK.out _ _ ?hS8 (fun hHeld => ?_)
    case hS8 =>
      (try dsimp only)
      first | (go_split_ands; exact SK.out _ (Keep.trans (by first | assumption | exact Keep.drew (by assumption)) hK6)) | go_keep
    clear hK K'
    try simp only [Act.put, List.setIfInBounds_toArray, List.set_cons_zero, List.set_cons_succ]
    refine wpAnyH_take (i := 9) (oi := { dst := some 40, op := Op.binOp BinOp.neq 4 (Operand.tmp 37) (Operand.tmp 39) 4, type := 4, pos := "laws.go:1660", after := #[{ on := 6, ground := Ground.data }, { on := 8, ground := Ground.data }, { on := 4, ground := Ground.guard }], guard := some (4, false) }) (v := ?_) rfl (by kernel_rfl) (by kernel_rfl) (by kernel_rfl) (fun _ _ _ h => h) (Or.inl ⟨by rfl, ?hy9⟩) (by assumption) ?_
    case hy9 =>
      intro w hSw
      (try dsimp only at hSw)
      first | (go_simp; done) | (go_simp; with_reducible rfl)
    try simp only [Act.put, List.setIfInBounds_toArray, List.set_cons_zero, List.set_cons_succ]
    refine wpAnyH_take (i := 10) (oi := { dst := some 41, op := Op.pick (Operand.tmp 35) (Operand.const (Value.bool true)) (Operand.tmp 40), type := 4, pos := "laws.go:1660", after := #[{ on := 4, ground := Ground.data }, { on := 9, ground := Ground.data }], guard := none }) (v := ?_) rfl (by kernel_rfl) (by kernel_rfl) (by kernel_rfl) (fun _ _ _ h => h) (Or.inl ⟨by rfl, ?hy10⟩) (by assumption) ?_
    case hy10 =>
      intro w hSw
      (try dsimp only at hSw)
      first | (go_simp; done) | (go_simp; with_reducible rfl)
    try simp only [Act.put, List.setIfInBounds_toArray, List.set_cons_zero, List.set_cons_succ]
    refine wpAnyH_take (i := 11) (oi := { dst := some 42, op := Op.move (Operand.tmp 41), type := 4, pos := "laws.go:1660", after := #[{ on := 10, ground := Ground.data }, { on := 8, ground := Ground.chain }], guard := none }) (v := ?_) rfl (by kernel_rfl) (by kernel_rfl) (by kernel_rfl) (fun _ _ _ h => h) (Or.inl ⟨by rfl, ?hy11⟩) (by assumption) ?_
    case hy11 =>
      intro w hSw
      (try dsimp only at hSw)
      first | (go_simp; done) | (go_simp; with_reducible rfl)
    try simp only [Act.put, List.setIfInBounds_toArray, List.set_cons_zero, List.set_cons_succ]
    refine wpAnyH_take (i := 12) (oi := { dst := some 43, op := Op.move (Operand.tmp 8), type := 4, pos := "laws.go:1660", after := #[{ on := 11, ground := Ground.guard }], guard := some (11, false) }) (v := ?_) rfl (by kernel_rfl) (by kernel_rfl) (by kernel_rfl) (fun _ _ _ h => h) (Or.inl ⟨by rfl, ?hy12⟩) (by assumption) ?_
    case hy12 =>
      intro w hSw
      (try dsimp only at hSw)
      first | (go_simp; done) | (go_simp; with_reducible rfl)
    try simp only [Act.put, List.setIfInBounds_toArray, List.set_cons_zero, List.set_cons_succ]
    refine wpAnyH_take (i := 13) (oi := { dst := some 44, op := Op.move (Operand.tmp 6), type := 9, pos := "laws.go:1660", after := #[{ on := 11, ground := Ground.guard }], guard := some (11, false) }) (v := ?_) rfl (by kernel_rfl) (by kernel_rfl) (by kernel_rfl) (fun _ _ _ h => h) (Or.inl ⟨by rfl, ?hy13⟩) (by assumption) ?_
    case hy13 =>
      intro w hSw
      (try dsimp only at hSw)
      first | (go_simp; done) | (go_simp; with_reducible rfl)
    try simp only [Act.put, List.setIfInBounds_toArray, List.set_cons_zero, List.set_cons_succ]
    refine wpAnyH_take (i := 14) (oi := { dst := some 45, op := Op.binOp BinOp.neq 9 (Operand.tmp 44) (Operand.const (Value.string { data := #[] })) 9, type := 4, pos := "laws.go:1660", after := #[{ on := 13, ground := Ground.data }, { on := 11, ground := Ground.guard }], guard := some (11, false) }) (v := ?_) rfl (by kernel_rfl) (by kernel_rfl) (by kernel_rfl) (fun _ _ _ h => h) (Or.inl ⟨by rfl, ?hy14⟩) (by assumption) ?_
    case hy14 =>
      intro w hSw
      (try dsimp only at hSw)
      first | (go_simp; done) | (go_simp; with_reducible rfl)
    try simp only [Act.put, List.setIfInBounds_toArray, List.set_cons_zero, List.set_cons_succ]
    refine wpAnyH_take (i := 15) (oi := { dst := some 46, op := Op.binOp BinOp.neq 4 (Operand.tmp 43) (Operand.tmp 45) 4, type := 4, pos := "laws.go:1660", after := #[{ on := 12, ground := Ground.data }, { on := 14, ground := Ground.data }, { on := 11, ground := Ground.guard }], guard := some (11, false) }) (v := ?_) rfl (by kernel_rfl) (by kernel_rfl) (by kernel_rfl) (fun _ _ _ h => h) (Or.inl ⟨by rfl, ?hy15⟩) (by assumption) ?_
    case hy15 =>
      intro w hSw
      (try dsimp only at hSw)
      first | (go_simp; done) | (go_simp; with_reducible rfl)
    try simp only [Act.put, List.setIfInBounds_toArray, List.set_cons_zero, List.set_cons_succ]
    refine wpAnyH_take (i := 16) (oi := { dst := some 47, op := Op.pick (Operand.tmp 42) (Operand.const (Value.bool true)) (Operand.tmp 46), type := 4, pos := "laws.go:1660", after := #[{ on := 11, ground := Ground.data }, { on := 15, ground := Ground.data }], guard := none }) (v := ?_) rfl (by kernel_rfl) (by kernel_rfl) (by kernel_rfl) (fun _ _ _ h => h) (Or.inl ⟨by rfl, ?hy16⟩) (by assumption) ?_
    case hy16 =>
      intro w hSw
      (try dsimp only at hSw)
      first | (go_simp; done) | (go_simp; with_reducible rfl)
    try simp only [Act.put, List.setIfInBounds_toArray, List.set_cons_zero, List.set_cons_succ]
    refine wpAnyH_take (i := 17) (oi := { dst := some 48, op := Op.move (Operand.tmp 47), type := 4, pos := "laws.go:1660", after := #[{ on := 16, ground := Ground.data }, { on := 11, ground := Ground.chain }], guard := none }) (v := ?_) rfl (by kernel_rfl) (by kernel_rfl) (by kernel_rfl) (fun _ _ _ h => h) (Or.inl ⟨by rfl, ?hy17⟩) (by assumption) ?_
    case hy17 =>
      intro w hSw
      (try dsimp only at hSw)
      first | (go_simp; done) | (go_simp; with_reducible rfl)
    try simp only [Act.put, List.setIfInBounds_toArray, List.set_cons_zero, List.set_cons_succ]
    refine wpAnyH_take (i := 18) (oi := { dst := some 49, op := Op.move (Operand.tmp 8), type := 4, pos := "laws.go:1660", after := #[{ on := 17, ground := Ground.guard }], guard := some (17, false) }) (v := ?_) rfl (by kernel_rfl) (by kernel_rfl) (by kernel_rfl) (fun _ _ _ h => h) (Or.inl ⟨by rfl, ?hy18⟩) (by assumption) ?_
    case hy18 =>
      intro w hSw
      (try dsimp only at hSw)
      first | (go_simp; done) | (go_simp; with_reducible rfl)
    try simp only [Act.put, List.setIfInBounds_toArray, List.set_cons_zero, List.set_cons_succ]
    refine wpAnyH_take (i := 19) (oi := { dst := some 50, op := Op.move (Operand.tmp 49), type := 4, pos := "laws.go:1660", after := #[{ on := 18, ground := Ground.data }, { on := 17, ground := Ground.chain }, { on := 17, ground := Ground.guard }], guard := some (17, false) }) (v := ?_) rfl (by kernel_rfl) (by kernel_rfl) (by kernel_rfl) (fun _ _ _ h => h) (Or.inl ⟨by rfl, ?hy19⟩) (by assumption) ?_
    case hy19 =>
      intro w hSw
      (try dsimp only at hSw)
      first | (go_simp; done) | (go_simp; with_reducible rfl)
    try simp only [Act.put, List.setIfInBounds_toArray, List.set_cons_zero, List.set_cons_succ]
    refine wpAnyH_take (i := 20) (oi := { dst := some 51, op := Op.load 25 (Operand.tmp 7), type := 25, pos := "laws.go:1660", after := #[{ on := 19, ground := Ground.guard }], guard := some (19, true) }) (v := undef) rfl (by kernel_rfl) (by kernel_rfl) (by kernel_rfl) (fun _ _ _ h => h) (Or.inr ⟨by rfl, rfl⟩) (by assumption) ?_
    try simp only [Act.put, List.setIfInBounds_toArray, List.set_cons_zero, List.set_cons_succ]
    refine wpAnyH_take (i := 21) (oi := { dst := some 52, op := Op.load 25 (Operand.tmp 5), type := 25, pos := "laws.go:1660", after := #[{ on := 19, ground := Ground.guard }], guard := some (19, true) }) (v := undef) rfl (by kernel_rfl) (by kernel_rfl) (by kernel_rfl) (fun _ _ _ h => h) (Or.inr ⟨by rfl, rfl⟩) (by assumption) ?_
    try simp only [Act.put, List.setIfInBounds_toArray, List.set_cons_zero, List.set_cons_succ]
    refine wpAnyH_take (i := 22) (oi := { dst := some 53, op := Op.call { callee := Callee.value (Operand.func 15), args := #[Operand.tmp 51, Operand.tmp 52], argTypes := #[25, 25] }, type := 4, pos := "laws.go:1660", after := #[{ on := 20, ground := Ground.data }, { on := 21, ground := Ground.data }, { on := 19, ground := Ground.chain }, { on := 19, ground := Ground.guard }], guard := some (19, true) }) (v := undef) rfl (by kernel_rfl) (by kernel_rfl) (by kernel_rfl) (fun _ _ _ h => h) (Or.inr ⟨by rfl, rfl⟩) (by assumption) ?_
    try simp only [Act.put, List.setIfInBounds_toArray, List.set_cons_zero, List.set_cons_succ]
    refine wpAnyH_take (i := 23) (oi := { dst := some 54, op := Op.unOp UnOp.not 4 (Operand.tmp 53), type := 4, pos := "laws.go:1660", after := #[{ on := 22, ground := Ground.data }, { on := 19, ground := Ground.guard }], guard := some (19, true) }) (v := undef) rfl (by kernel_rfl) (by kernel_rfl) (by kernel_rfl) (fun _ _ _ h => h) (Or.inr ⟨by rfl, rfl⟩) (by assumption) ?_
    try simp only [Act.put, List.setIfInBounds_toArray, List.set_cons_zero, List.set_cons_succ]
    refine wpAnyH_take (i := 24) (oi := { dst := some 55, op := Op.pick (Operand.tmp 50) (Operand.tmp 54) (Operand.const (Value.bool false)), type := 4, pos := "laws.go:1660", after := #[{ on := 19, ground := Ground.data }, { on := 23, ground := Ground.data }, { on := 17, ground := Ground.guard }], guard := some (17, false) }) (v := ?_) rfl (by kernel_rfl) (by kernel_rfl) (by kernel_rfl) (fun _ _ _ h => h) (Or.inl ⟨by rfl, ?hy24⟩) (by assumption) ?_
    case hy24 =>
      intro w hSw
      (try dsimp only at hSw)
      first | (go_simp; done) | (go_simp; with_reducible rfl)
    try simp only [Act.put, List.setIfInBounds_toArray, List.set_cons_zero, List.set_cons_succ]
    refine wpAnyH_take (i := 25) (oi := { dst := some 56, op := Op.pick (Operand.tmp 48) (Operand.const (Value.bool true)) (Operand.tmp 55), type := 4, pos := "laws.go:1660", after := #[{ on := 17, ground := Ground.data }, { on := 24, ground := Ground.data }], guard := none }) (v := ?_) rfl (by kernel_rfl) (by kernel_rfl) (by kernel_rfl) (fun _ _ _ h => h) (Or.inl ⟨by rfl, ?hy25⟩) (by assumption) ?_
    case hy25 =>
      intro w hSw
      (try dsimp only at hSw)
      first | (go_simp; done) | (go_simp; with_reducible rfl)
    try simp only [Act.put, List.setIfInBounds_toArray, List.set_cons_zero, List.set_cons_succ]
    refine wpAnyH_done (by kernel_rfl) ?_ _
    refine NoPanic.normal ?_
    go_split_ands
    have K6w := Lib.hid (K6.out.trans (show Keep Any wr w6 by assumption))
    go_wp2_with fail
    refine (DG.out _ K6w.out).mono ?_
    rintro e w7 ⟨t2, ht2, rfl, hK⟩
    have K7 := Lib.hid (K6w.out.trans hK)
    clear hK x0 x1 x2 x3 x4 y0 y1 y2 y3 y4
    rcases ho : replyGet t2.data.toList with _ | y
    · skip
      have IG2 := Lib.hid (IG.out t2)
      have SG2 := Lib.hid (SG.out t2)
      rw [ho] at IG2 SG2
      simp only [res] at IG2 SG2
      clear ho
      have e2 : (t2.toList == t2.toList) = true := by simp
      go_wp2_with fail
      refine (IG2.out _ (by omega) (HT.out.keep K7.out trivial) (HM.out.keep K7.out trivial)).mono ?_
      rintro e w8 ⟨ya, yc, ya2, yc2, rfl, hK, hY⟩
      have K8 := Lib.hid (K7.out.trans hK)
      have Y8 := Lib.hid hY
      clear hK hY
      go_wp2_with fail
      refine (SG2.out _ (by omega)).mono ?_
      rintro e w9 ⟨za, zc, za2, zc2, rfl, hK, hZ⟩
      have K9 := Lib.hid ((K8.out.alloc _).trans hK)
      have K89 := Lib.hid (((Keep.refl Any w8).alloc _).trans hK)
      have B9 := Lib.hid (blk_keep hK (blk_new _ _) trivial)
      have Z9 := Lib.hid hZ
      have Y9 := Lib.hid (Y8.out.keep K89.out)
      clear hK hZ
      obtain ⟨x0, x1, x2, x3, x4⟩ := at5 B9.out
      have zx := blk_lt B9.out
      go_wp2_with fail
      refine (AS.out (⟨0, [], [], 0, false⟩) _ _ _ (Y9.out.keep ((Keep.refl _ _).alloc _)) (Z9.out.keep ((Keep.refl _ _).alloc _))).mono ?_
      rintro e w10 ⟨rfl, hK⟩
      have K10 := Lib.hid ((K9.out.alloc _).trans hK)
      have K910 := Lib.hid (((Keep.refl Any w9).alloc _).trans hK)
      have B10 := Lib.hid (blk_keep hK (blk_alloc B9.out _) trivial)
      clear hK x0 x1 x2 x3 x4 zx
      obtain ⟨x0, x1, x2, x3, x4⟩ := at5 B10.out
      have zx := blk_lt B10.out
      go_wp2
      go_ret
      exact ⟨rfl, K10.out⟩

    · have HB := Lib.hid (show (⟨(replyTxt y).toArray⟩ : ByteArray) = t2 by rw [replyGet_back ho])
      have IG2 := Lib.hid (IG.out t2)
      have SG2 := Lib.hid (SG.out t2)
      rw [ho] at IG2 SG2
      simp only [res] at IG2 SG2
      clear ho
      have e2 : (t2.toList == t2.toList) = true := by simp
      go_wp2_with fail
      refine (IG2.out _ (by omega) (HT.out.keep K7.out trivial) (HM.out.keep K7.out trivial)).mono ?_
      rintro e w8 ⟨ya, yc, ya2, yc2, rfl, hK, hY⟩
      have K8 := Lib.hid (K7.out.trans hK)
      have Y8 := Lib.hid hY
      clear hK hY
      go_wp2_with fail
      refine (SG2.out _ (by omega)).mono ?_
      rintro e w9 ⟨za, zc, za2, zc2, rfl, hK, hZ⟩
      have K9 := Lib.hid ((K8.out.alloc _).trans hK)
      have K89 := Lib.hid (((Keep.refl Any w8).alloc _).trans hK)
      have B9 := Lib.hid (blk_keep hK (blk_new _ _) trivial)
      have Z9 := Lib.hid hZ
      have Y9 := Lib.hid (Y8.out.keep K89.out)
      clear hK hZ
      obtain ⟨x0, x1, x2, x3, x4⟩ := at5 B9.out
      have zx := blk_lt B9.out
      go_wp2_with fail
      refine (AS.out (y) _ _ _ (Y9.out.keep ((Keep.refl _ _).alloc _)) (Z9.out.keep ((Keep.refl _ _).alloc _))).mono ?_
      rintro e w10 ⟨rfl, hK⟩
      have K10 := Lib.hid ((K9.out.alloc _).trans hK)
      have K910 := Lib.hid (((Keep.refl Any w9).alloc _).trans hK)
      have B10 := Lib.hid (blk_keep hK (blk_alloc B9.out _) trivial)
      clear hK x0 x1 x2 x3 x4 zx
      obtain ⟨x0, x1, x2, x3, x4⟩ := at5 B10.out
      have zx := blk_lt B10.out
      go_wp2_with fail
      refine (IP.out y t2 HB.out _ _ (Y9.out.keep K910.out) (HT.out.keep K10.out trivial)).mono ?_
      rintro e w11 ⟨rfl, hK⟩
      have K11 := Lib.hid (K10.out.trans hK)
      clear hK
      go_wp2
      go_ret
      exact ⟨rfl, K11.out⟩
set_option maxRecDepth 20000 in
theorem bytes_in {H : Type} {enc : TypeId × Value → H} {W : World} {base : Nat} {v : Value} {d : DataW H} {p : List MemPlace} (hval : Value.okWide Tryd.prog W .any base 31 v) (h : DataW.Trod enc Tryd.prog W 0 (fun _ => true) true 31 v d p) : ∃ n, BytIn W v n := by
  obtain ⟨a1, len, cap, rfl⟩ := okWide_slice Tryd.underlying31 hval
  obtain ⟨fuel, hf⟩ := h
  rcases open_ints Tryd.underlying31 Tryd.underlying5 cellsB hf with ⟨hcs, hx⟩ | ⟨a, len', cap', zs, hcs, _, hl, hm, hz, hx, hcell, hwz⟩
  · simp [Value.cells] at hcs
    obtain ⟨rfl, rfl, rfl⟩ := hcs
    exact ⟨0, none, 0, rfl, Nat.le_refl _, by omega, fun h => absurd h (Nat.lt_irrefl _)⟩
  · simp [Value.cells] at hcs
    obtain ⟨rfl, rfl, rfl⟩ := hcs
    simp only [if_true] at hz
    unfold maxLen at hm
    refine ⟨len, some a, cap, rfl, hl, by omega, fun hn => ⟨a, rfl, fun i hi => ?_⟩⟩
    have hb := range_u8 hwz i
    rw [← List.getD_eq_getElem?_getD] at hb
    refine ⟨(zs.getD i 0).toNat, by omega, ?_⟩
    rw [hcell i (by omega)]
    congr 2
    omega
set_option maxRecDepth 100000 in
theorem contract (H : Type) (enc : TypeId × Value → H) (W : World) (base : Nat) (args : Array Value) (ds gs : List (DataW H)) (before : List MemPlace)
    (hval : ∀ (j : Nat) t v, Tryd.f4.params[j]? = some t → args[j]? = some v → Value.okWide Tryd.prog W .any base t v)
    (hW : DataW.Whole enc Tryd.prog Tryd.f4.params.toList Rows.fnReplySpec.vars false W args.toList ds gs before) (hL : laidMetH Tryd.prog Rows.fnReplyRow.laid W) (hSh : W.ShapedOpen Tryd.prog) :
    Calls Tryd.prog 4 args W fun e W' => ∃ v, e = .returned v ∧ Rows.fnReplySpec.post enc Tryd.prog Tryd.f4 false true false false W args v W' := by
  have hW' := hW
  obtain ⟨p, q, hA0, hV, rfl, hfz, hnd⟩ := hW
  have hA : DataW.TrodAll enc Tryd.prog W 0 (fun _ => true) true Tryd.f4.params.toList args.toList ds p := hA0
  rw [Tryd.params4] at hA hval
  obtain ⟨v0, vs0, d0, ds0, p0, q0, hargs, rfl, rfl, h0, r0⟩ := trodAll_cons hA
  obtain ⟨v1, vs1, d1, ds1, p1, q1, hargs1, rfl, rfl, h1, r1⟩ := trodAll_cons r0
  obtain ⟨rfl, rfl, rfl⟩ := trodAll_nil r1
  obtain rfl : args = #[v0, v1] := by cases args; simp_all
  obtain ⟨rfl, rfl⟩ := trodVars_none hV
  have k0 := h0
  have k1 := h1
  have lt0 : ∀ x ∈ p0, x.block < W.heap.size := by obtain ⟨m, hm⟩ := k0; exact DataW.trod_lt m _ _ _ hm
  have lt1 : ∀ x ∈ p1, x.block < W.heap.size := by obtain ⟨m, hm⟩ := k1; exact DataW.trod_lt m _ _ _ hm
  obtain ⟨n0, b0⟩ := bytes_in (hval 0 31 v0 rfl rfl) h0
  obtain ⟨n1, b1⟩ := bytes_in (hval 1 31 v1 rfl rfl) h1
  clear hA0
  refine (walk v0 v1 n0 n1 W b0 b1 (table hL) (maxLen_of hSh)).mono fun e W' ⟨he, hg⟩ => ?_
  subst he
  exact ⟨_, rfl, _, _, _, [], _, [], hW', trodAll_mk1 (shut_bool Tryd.underlying4 _), trodAll_cons_mk (Below.trod laidOut (by kernel_rfl) (of_decide_eq_true (by kernel_rfl)) k0 hg.below lt0) (trodAll_cons_mk (Below.trod laidOut (by kernel_rfl) (of_decide_eq_true (by kernel_rfl)) k1 hg.below lt1) trodAll_mk0), rfl, hg.below.frame _, fun h => by cases h⟩

set_option maxRecDepth 100000 in
theorem laid_met (os : Os) : laidMet Tryd.prog Rows.fnReplyRow.laid ((World.laidAll Tryd.prog os Rows.fnReplyRow.laid).forCall (fun _ _ => 0) ⟨#[], #[.slice none 0 0, .slice none 0 0], []⟩).memory :=
  laidMet_laidAll _ (by kernel_rfl) (by kernel_rfl)
theorem reads (os : Os) {H : Type} (enc : TypeId × Value → H) : ∃ places, DataW.whole enc Tryd.prog ((World.laidAll Tryd.prog os Rows.fnReplyRow.laid).forCall (fun _ _ => 0) ⟨#[], #[.slice none 0 0, .slice none 0 0], []⟩).memory Tryd.f4.params.toList Rows.fnReplySpec.vars false #[Value.slice none 0 0, Value.slice none 0 0].toList 8 = some ([.nil, .nil], [], places) :=
  ⟨[], by kernel_rfl⟩
set_option maxRecDepth 100000 in
theorem lifted (os : Os) (started : os.Started) (H : Type) (enc : TypeId × Value → H) (F : Stop.Interp) :
    ReturnsInHanded {} Tryd.checked os 4 .any ((OpenSpec.ofChange Rows.fnReplySpec).preRow enc Tryd.prog Tryd.f4 Rows.fnReplyRow.domain false Rows.fnReplyRow.laid) (((OpenSpec.ofChange Rows.fnReplySpec).at F).post enc Tryd.prog Tryd.f4 false true false false) := by
  obtain ⟨places, hx⟩ := reads os enc
  refine returnsInHanded_of_row (C := Tryd.checked) (s := OpenSpec.ofChange Rows.fnReplySpec) own started (by kernel_rfl) Tryd.func4
    (witness_row_at (enc := enc) (C := Tryd.checked) false (World.laidAll Tryd.prog os Rows.fnReplyRow.laid) #[.slice none 0 0, .slice none 0 0] (World.laidAll_os _ _ _) (by kernel_rfl) (by kernel_rfl) (by kernel_rfl)
      (OpenSpec.preRow_of_cond 8 hx (by kernel_rfl) (fun k hk => by cases hk) (by kernel_rfl) (laid_met os))) ?_
  intro W base args ds gs before hval hW _ _ _ hL hSh _
  exact contract H enc W base args ds gs before hval hW hL hSh
theorem said : Rows.FnReplySaid :=
  OpenClaim.holds_of_cond 4 Tryd.f4 rfl rfl rfl rfl rfl rfl rfl ⟨rfl, rfl, rfl, rfl, rfl⟩ rfl rfl rfl rfl rfl (by kernel_rfl) Tryd.func4 (by kernel_rfl)
    (of_decide_eq_true (by kernel_rfl)) (by unfold Func.isWrapper; first | (rw [if_pos (by decide +kernel)]; kernel_rfl) | (rw [if_neg (by decide +kernel)]; exact ⟨rfl, rfl⟩))
    (fun os started H enc _ F => by rw [OpenClaim.pre_eq_preRow]; exact lifted os started H enc F)
theorem plain (f : FuncId) (fn : Func) (hf : Tryd.pinned.checked.prog.funcNamed "loop.example/ashlar/laws.FnReply" = some f) (hfn : Tryd.pinned.checked.prog.funcs[f]? = some fn) :
    false = Tryd.pinned.checked.prog.looks [] ∧ ∀ (j : Nat) t, fn.params[j]? = some t → Tryd.pinned.checked.prog.wantsStandIn t = false := by
  obtain rfl : f = 4 := Option.some.inj ((show Tryd.prog.funcNamed "loop.example/ashlar/laws.FnReply" = some 4 by kernel_rfl).symm.trans hf) |>.symm
  obtain rfl : fn = Tryd.f4 := (Option.some.inj (Tryd.func4.symm.trans hfn)).symm
  refine ⟨by kernel_rfl, fun j t ht => ?_⟩
  rw [Tryd.params4] at ht
  obtain rfl : t = 31 := by simpa using Array.mem_of_getElem? ht
  exact (show Tryd.prog.wantsStandIn 31 = false by kernel_rfl)
theorem card : Rows.FnReplyCardSaid :=
  Claim7.holds_tied_plain_at .later [] _ _ _ _ said (fun _ h => by cases h) (by kernel_rfl) (fun _ h => by cases h) fnReply_row_tie rfl ⟨rfl, rfl⟩ (by kernel_rfl) rfl plain (by kernel_rfl)
#print axioms card
end Go.Proofs.YtlmonnhgjnjniaaDoor.fnReply

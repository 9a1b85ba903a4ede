/- The program's ServerNew returns what the reference's returns, for every argument; it keeps nothing of one. No condition. -/
import Derived.Test.YtlmonnhgjnjniaaRows
import Derived.Test.YtlmonnhgjnjniaaMLawServerNew7
import Derived.Test.YtlmonnhgjnjniaaMLawServerNew8
import Derived.Test.YtlmonnhgjnjniaaMLawServerNew9
import Derived.Test.YtlmonnhgjnjniaaMLawServerNew10
import Derived.ProofKit
import Derived.OpenShut
import Derived.Carry
/- The program's ServerNew returns what the reference's returns, for every argument; it keeps nothing of one. No condition. -/
namespace Go.Proofs.Ytlmonnhgjnjniaa.fnExactServerNew
open Go.ChangeShapes Go.WideShapes Go.ChangeAt Go.RowKit
set_option linter.unusedVariables false
set_option linter.unusedSimpArgs false
def Answers (w : World) (e : Ending) (w' : World) : Prop := e = .returned (.bool true) ∧ Keep Any w w'
/-- what both give: homes, links, whether -/
def Srv (H : List Hm) (U : List Unit) (b : Bool) (w : World) (e : Ending) (w' : World) : Prop := ∃ (a a2 : Option Addr) (c c2 m : Nat), e = .returned (.tuple #[.agg #[.slice a H.length c, .slice a2 U.length c2], .bool b]) ∧ SHos w' (Mid' w.heap.size m) (.slice a H.length c) H ∧ SLks w' (Mid' m w'.heap.size) (.slice a2 U.length c2) U ∧ (w.heap.size ≤ m ∧ m ≤ w'.heap.size) ∧ Keep Any w w'
theorem srv_of {names : List ByteArray} {rules : List Ru} {n : Int} {gb : Bool} (hg : gb = true ↔ ServerGood names rules n) {w : World} {e : Ending} {w' : World} (h : ServerR names rules n w e w') : Srv (if gb then names.map (·, rules) else []) (if gb then List.replicate n.toNat () else []) gb w e w' := by
  obtain ⟨b, hs, ls, m, hb, rfl, h1, h2, hm, hK⟩ := h
  obtain rfl : b = gb := by rw [Bool.eq_iff_iff, hb, hg]
  obtain ⟨a, c, e1, _⟩ := id h1
  obtain ⟨a2, c2, e2, _⟩ := id h2
  subst e1
  subst e2
  exact ⟨a, a2, c, c2, m, rfl, h1, h2, hm, hK⟩
theorem any_strs {w : World} {ok : Nat → Prop} {v : Value} {l : List ByteArray} (h : SStrs w ok v l) : Strs w Any v l := Sl.mono (SStrs.strs h) (fun _ _ _ h => h) (fun _ _ _ => trivial) (by decide)
theorem any_rus {w : World} {ok : Nat → Prop} {v : Value} {l : List Ru} (h : SRus w ok v l) : Rus w Any v l := Sl.mono (SRus.rus h) (fun _ _ _ h => h) (fun _ _ _ => trivial) (by decide)
set_option maxHeartbeats 16000000 in
set_option maxRecDepth 20000 in
theorem walk (names : List ByteArray) (v : Value) (rules : List Ru) (rs : Value) (n : Int) (hn : I64 n) (w : World) (hs : Strs w Any v names) (hr : Rus w Any rs rules) : Calls Try.prog 3 #[v, rs, .int .i64 n] w (Answers w) := by
  have HS := Lib.hid hs
  have HR := Lib.hid hr
  have SZ := Lib.hid (fun w' (k : Keep Any w w') => szStrs_calls names v 1048576 w' (Strs.keep hs k) (by omega) (by omega))
  have SR := Lib.hid (fun (x : Int) w' (k : Keep Any w w') (h0 : 0 ≤ x) (h1 : x ≤ 1048576) => szRules_calls rules rs x w' (Rus.keep hr k) h0 h1)
  clear hs hr
  by_cases z1 : (1048576 : Int) < wStrs names
  · have E1 := Lib.hid (left_no z1)
    go_enter Try.func3, Try.ntmps3
    go_wp2_with fail
    refine (SZ.out _ (Keep.refl _ _)).mono ?_
    rintro e w1 ⟨rfl, hK⟩
    rw [E1.out]
    go_wp2
    go_ret
    exact ⟨rfl, hK⟩
  have E1 := Lib.hid (left_yes (a := 1048576) (n := wStrs names) (by omega))
  obtain ⟨y, hy⟩ : ∃ y : Int, (1048576 : Int) - wStrs names = y := ⟨_, rfl⟩
  rw [hy] at E1
  have y0 : 0 ≤ y := by omega
  have y1 : y ≤ 1048576 := by omega
  have hnl : names.length ≤ 1048576 := by unfold wStrs at z1; omega
  clear hy z1
  by_cases z2 : y < (szRus rules : Int)
  · have E2 := Lib.hid (left_no z2)
    go_enter Try.func3, Try.ntmps3
    go_wp2_with fail
    refine (SZ.out _ (Keep.refl _ _)).mono ?_
    rintro e w1 ⟨rfl, hK⟩
    rw [E1.out]
    go_wp2_with fail
    refine (SR.out y _ hK y0 y1).mono ?_
    rintro e w2 ⟨rfl, hK2⟩
    rw [E2.out]
    go_wp2
    go_ret
    exact ⟨rfl, hK.trans hK2⟩
  have E2 := Lib.hid (left_yes (a := y) (n := szRus rules) (by omega))
  obtain ⟨y', hy'⟩ : ∃ y' : Int, y - szRus rules = y' := ⟨_, rfl⟩
  rw [hy'] at E2
  have y2 : 0 ≤ y' := by omega
  have hl : rules.length ≤ 1048576 := by unfold szRus at z2; omega
  clear hy' z2
  have TN := Lib.hid (fun w' (k : Keep Any w w') => toSStrs_calls names v w' (Strs.keep HS.out k) hnl)
  have TR := Lib.hid (fun w' (k : Keep Any w w') => toRules_calls rules rs w' (Rus.keep HR.out k) hl)
  obtain ⟨gb, hgb⟩ : ∃ gb : Bool, gb = true ↔ ServerGood names rules n := by
    by_cases h : ServerGood names rules n
    · exact ⟨true, by simp [h]⟩
    · exact ⟨false, by simp [h]⟩
  have SP := Lib.hid (fun v' rs' w' h1 h2 => (specServerNew_calls names v' rules rs' n hn w' h1 h2 hl hnl).mono fun _ _ h => srv_of hgb h)
  have IM := Lib.hid (fun v' rs' w' h1 h2 => (serverNew_calls names v' rules rs' n hn w' h1 h2 hl).mono fun _ _ h => srv_of hgb h)
  obtain ⟨H, hH⟩ : ∃ H : List Hm, (if gb then names.map (·, rules) else []) = H := ⟨_, rfl⟩
  obtain ⟨U, hU⟩ : ∃ U : List Unit, (if gb then List.replicate n.toNat () else []) = U := ⟨_, rfl⟩
  have HALL := Lib.hid (show ∀ x, x ∈ H.map hd0 → x.rules.length = rules.length by
    intro x hx
    obtain ⟨z, hz, rfl⟩ := List.mem_map.1 hx
    rw [← hH] at hz
    split at hz
    · obtain ⟨t, _, rfl⟩ := List.mem_map.1 hz; rfl
    · cases hz)
  have HL3 := Lib.hid (show H.length ≤ 3 ∧ U.length ≤ 3 by
    rw [← hH, ← hU]
    split
    · have := hgb.1 (by assumption); obtain ⟨_, g2, _, g4, g5, _⟩ := this; simp; omega
    · simp)
  simp only [hH, hU] at SP IM
  have bb : (gb != gb) = false := by simp
  clear hH hU hgb
  obtain ⟨hl1, hl2⟩ := HL3.out
  have EQ := Lib.hid (eqServer_calls H U)
  obtain ⟨q, hq⟩ : ∃ q, 1 + H.length * (5 + 2 * rules.length) + 5 * U.length = q := ⟨_, rfl⟩
  have hq1 : 1 ≤ q := by omega
  have hqb : q ≤ 4611686018427387904 := by
    have : H.length * (5 + 2 * rules.length) ≤ 3 * (5 + 2 * 1048576) := Nat.mul_le_mul hl1 (by omega)
    omega
  have qq : ((q : Int) != (q : Int)) = false := by simp
  have MS := Lib.hid (fun a3 a4 c3 c4 w' o1 o2 h1 h2 hlt hd => by
    have := markServer_calls (H.map hd0) (U.map ld0) rules.length a3 a4 c3 c4 1 w' o1 o2 h1 h2 hlt hd HALL.out (by omega) (by simp only [List.length_map]; rw [hq]; exact hqb)
    simp only [List.length_map, hq] at this
    exact this)
  have HV := Lib.hid (fun a3 a4 c3 c4 w' h1 h2 => by
    have := heldServer_calls (H.map hd0) (U.map ld0) rules.length a3 a4 c3 c4 1 w' h1 h2 HALL.out (by omega) (by simp only [List.length_map]; rw [hq]; exact hqb)
    simp only [List.length_map, hq] at this
    exact this)
  clear hl1 hl2 hq
  go_enter Try.func3, Try.ntmps3
  have KA := Lib.hid (Keep.refl Any w)
  go_wp2_with fail
  refine (SZ.out _ KA.out).mono ?_
  rintro e w1 ⟨rfl, hK⟩
  rw [E1.out]
  have KS := Lib.hid ((Keep.refl Any w).trans hK)
  have T1 := Lib.hid (show w.heap.size ≤ w1.heap.size by have h := hK.size; simpa using h)
  have KA := Lib.hid (KA.out.trans KS.out)
  clear hK
  go_wp2_with fail
  refine (SR.out y _ KA.out y0 y1).mono ?_
  rintro e w2 ⟨rfl, hK⟩
  rw [E2.out]
  have KS := Lib.hid ((Keep.refl Any w1).trans hK)
  have T2 := Lib.hid (show w1.heap.size ≤ w2.heap.size by have h := hK.size; simpa using h)
  have KA := Lib.hid (KA.out.trans KS.out)
  clear hK
  go_wp2_with fail
  refine (TN.out _ KA.out).mono ?_
  rintro e w3 ⟨an, cn, rfl, hS, hK⟩
  have KS := Lib.hid ((Keep.refl Any w2).trans hK)
  have T3 := Lib.hid (show w2.heap.size ≤ w3.heap.size by have h := hK.size; simpa using h)
  have KA := Lib.hid (KA.out.trans KS.out)
  have N3 := Lib.hid (hS)
  clear hK
  go_wp2_with fail
  refine (TR.out _ KA.out).mono ?_
  rintro e w4 ⟨ar, cr, rfl, hS, hK⟩
  have KS := Lib.hid ((Keep.refl Any w3).trans hK)
  have T4 := Lib.hid (show w3.heap.size ≤ w4.heap.size by have h := hK.size; simpa using h)
  have KA := Lib.hid (KA.out.trans KS.out)
  have N3 := Lib.hid (SStrs.keep N3.out KS.out.any)
  have R4 := Lib.hid (hS)
  have TW := Lib.hid (KA.out.size)
  clear hK
  go_wp2_with fail
  refine (SP.out _ _ _ (any_strs N3.out) (any_rus R4.out)).mono ?_
  rintro e w5 ⟨a1, a2, c1, c2, m5, rfl, hh, hl', hm5, hK⟩
  have KS := Lib.hid ((Keep.refl Any w4).trans hK)
  have T5 := Lib.hid (show w4.heap.size ≤ w5.heap.size by have h := hK.size; simpa using h)
  have KA := Lib.hid (KA.out.trans KS.out)
  have N3 := Lib.hid (SStrs.keep N3.out KS.out.any)
  have R4 := Lib.hid (SRus.keep R4.out KS.out.any)
  have W0h := Lib.hid (hh)
  have W0l := Lib.hid (hl')
  have M5 := Lib.hid (hm5)
  clear hK
  go_wp2_with fail
  refine (TN.out _ (KA.out.alloc _)).mono ?_
  rintro e w6 ⟨a6, c6, rfl, hS, hK⟩
  have KS := Lib.hid (((Keep.refl Any w5).alloc _).trans hK)
  have T6 := Lib.hid (show w5.heap.size + 1 ≤ w6.heap.size by have h := hK.size; simpa using h)
  have KA := Lib.hid (KA.out.trans KS.out)
  have W0h := Lib.hid (SSl.keep (w' := w6) W0h.out (fun _ _ _ _ h k => SHo.keep h k) KS.out.any)
  have W0l := Lib.hid (SSl.keep (w' := w6) W0l.out (fun _ _ _ _ h _ => h) KS.out.any)
  have X0 := Lib.hid (SSl.mono (ok' := Mid' (w5.heap.size + 1) w6.heap.size) hS (fun i h => by simpa using h))
  have B8 := Lib.hid (blk_keep hK (blk_new w5 _) trivial)
  have p0 := (blk_cell B8.out 0).trans rfl
  have p1 := (blk_cell B8.out 1).trans rfl
  have zp0 := blk_lt B8.out
  clear hK
  go_wp2_with fail
  refine (TR.out _ KA.out).mono ?_
  rintro e w7 ⟨a7, c7, rfl, hS, hK⟩
  have KS := Lib.hid ((Keep.refl Any w6).trans hK)
  have T7 := Lib.hid (show w6.heap.size ≤ w7.heap.size by have h := hK.size; simpa using h)
  have KA := Lib.hid (KA.out.trans KS.out)
  have W0h := Lib.hid (SSl.keep (w' := w7) W0h.out (fun _ _ _ _ h k => SHo.keep h k) KS.out.any)
  have W0l := Lib.hid (SSl.keep (w' := w7) W0l.out (fun _ _ _ _ h _ => h) KS.out.any)
  have X0 := Lib.hid (SStrs.keep X0.out KS.out.any)
  have B8 := Lib.hid (blk_keep KS.out B8.out trivial)
  have X1 := Lib.hid (hS)
  have p0 := (blk_cell B8.out 0).trans rfl
  have p1 := (blk_cell B8.out 1).trans rfl
  have zp0 := blk_lt B8.out
  clear hK
  go_wp2_with fail
  refine (IM.out _ _ _ (any_strs X0.out) (any_rus X1.out)).mono ?_
  rintro e w8 ⟨a3, a4, c3, c4, m8, rfl, hh, hl', hm8, hK⟩
  have KS := Lib.hid ((Keep.refl Any w7).trans hK)
  have T8 := Lib.hid (show w7.heap.size ≤ w8.heap.size by have h := hK.size; simpa using h)
  have KA := Lib.hid (KA.out.trans KS.out)
  have W0h := Lib.hid (SSl.keep (w' := w8) W0h.out (fun _ _ _ _ h k => SHo.keep h k) KS.out.any)
  have W0l := Lib.hid (SSl.keep (w' := w8) W0l.out (fun _ _ _ _ h _ => h) KS.out.any)
  have X0 := Lib.hid (SStrs.keep X0.out KS.out.any)
  have B8 := Lib.hid (blk_keep KS.out B8.out trivial)
  have X1 := Lib.hid (SRus.keep X1.out KS.out.any)
  have Gh := Lib.hid (hh)
  have Gl := Lib.hid (hl')
  have M8 := Lib.hid (hm8)
  have p0 := (blk_cell B8.out 0).trans rfl
  have p1 := (blk_cell B8.out 1).trans rfl
  have zp0 := blk_lt B8.out
  clear hK
  go_wp2_with fail
  refine (EQ.out _ _ _ _ _ _ _ _ _ (Hos.keep (SHos.hos Gh.out) ((Keep.refl _ _).alloc _)) (Hos.keep (SHos.hos W0h.out) ((Keep.refl _ _).alloc _)) (Lks.keep (SLks.lks Gl.out) ((Keep.refl _ _).alloc _)) (Lks.keep (SLks.lks W0l.out) ((Keep.refl _ _).alloc _))).mono ?_
  rintro e w9 ⟨rfl, hK⟩
  have KS := Lib.hid (((Keep.refl Any w8).alloc _).trans hK)
  have T9 := Lib.hid (show w8.heap.size + 1 ≤ w9.heap.size by have h := hK.size; simpa using h)
  have KA := Lib.hid (KA.out.trans KS.out)
  have W0h := Lib.hid (SSl.keep (w' := w9) W0h.out (fun _ _ _ _ h k => SHo.keep h k) KS.out.any)
  have W0l := Lib.hid (SSl.keep (w' := w9) W0l.out (fun _ _ _ _ h _ => h) KS.out.any)
  have X0 := Lib.hid (SStrs.keep X0.out KS.out.any)
  have B8 := Lib.hid (blk_keep KS.out B8.out trivial)
  have X1 := Lib.hid (SRus.keep X1.out KS.out.any)
  have Gh := Lib.hid (SSl.keep (w' := w9) Gh.out (fun _ _ _ _ h k => SHo.keep h k) KS.out.any)
  have Gl := Lib.hid (SSl.keep (w' := w9) Gl.out (fun _ _ _ _ h _ => h) KS.out.any)
  have B12 := Lib.hid (blk_keep hK (blk_new w8 _) trivial)
  have p0 := (blk_cell B8.out 0).trans rfl
  have p1 := (blk_cell B8.out 1).trans rfl
  have zp0 := blk_lt B8.out
  have p2 := (blk_cell B12.out 0).trans rfl
  have p3 := (blk_cell B12.out 1).trans rfl
  have zp2 := blk_lt B12.out
  clear hK
  go_wp2_with fail
  refine (TN.out _ KA.out).mono ?_
  rintro e w10 ⟨a10, c10, rfl, hS, hK⟩
  have KS := Lib.hid ((Keep.refl Any w9).trans hK)
  have T10 := Lib.hid (show w9.heap.size ≤ w10.heap.size by have h := hK.size; simpa using h)
  have KA := Lib.hid (KA.out.trans KS.out)
  have W0h := Lib.hid (SSl.keep (w' := w10) W0h.out (fun _ _ _ _ h k => SHo.keep h k) KS.out.any)
  have W0l := Lib.hid (SSl.keep (w' := w10) W0l.out (fun _ _ _ _ h _ => h) KS.out.any)
  have X0 := Lib.hid (SStrs.keep X0.out KS.out.any)
  have B8 := Lib.hid (blk_keep KS.out B8.out trivial)
  have X1 := Lib.hid (SRus.keep X1.out KS.out.any)
  have Gh := Lib.hid (SSl.keep (w' := w10) Gh.out (fun _ _ _ _ h k => SHo.keep h k) KS.out.any)
  have Gl := Lib.hid (SSl.keep (w' := w10) Gl.out (fun _ _ _ _ h _ => h) KS.out.any)
  have B12 := Lib.hid (blk_keep KS.out B12.out trivial)
  have N10 := Lib.hid (hS)
  have p0 := (blk_cell B8.out 0).trans rfl
  have p1 := (blk_cell B8.out 1).trans rfl
  have zp0 := blk_lt B8.out
  have p2 := (blk_cell B12.out 0).trans rfl
  have p3 := (blk_cell B12.out 1).trans rfl
  have zp2 := blk_lt B12.out
  clear hK
  go_wp2_with fail
  refine (eqStrs_calls names _ _ _ (any_strs X0.out) (any_strs N10.out)).mono ?_
  rintro e w11 ⟨rfl, hK⟩
  have KS := Lib.hid ((Keep.refl Any w10).trans hK)
  have T11 := Lib.hid (show w10.heap.size ≤ w11.heap.size by have h := hK.size; simpa using h)
  have KA := Lib.hid (KA.out.trans KS.out)
  have W0h := Lib.hid (SSl.keep (w' := w11) W0h.out (fun _ _ _ _ h k => SHo.keep h k) KS.out.any)
  have W0l := Lib.hid (SSl.keep (w' := w11) W0l.out (fun _ _ _ _ h _ => h) KS.out.any)
  have X0 := Lib.hid (SStrs.keep X0.out KS.out.any)
  have B8 := Lib.hid (blk_keep KS.out B8.out trivial)
  have X1 := Lib.hid (SRus.keep X1.out KS.out.any)
  have Gh := Lib.hid (SSl.keep (w' := w11) Gh.out (fun _ _ _ _ h k => SHo.keep h k) KS.out.any)
  have Gl := Lib.hid (SSl.keep (w' := w11) Gl.out (fun _ _ _ _ h _ => h) KS.out.any)
  have B12 := Lib.hid (blk_keep KS.out B12.out trivial)
  have N10 := Lib.hid (SStrs.keep N10.out KS.out.any)
  have p0 := (blk_cell B8.out 0).trans rfl
  have p1 := (blk_cell B8.out 1).trans rfl
  have zp0 := blk_lt B8.out
  have p2 := (blk_cell B12.out 0).trans rfl
  have p3 := (blk_cell B12.out 1).trans rfl
  have zp2 := blk_lt B12.out
  clear hK
  go_wp2_with fail
  refine (TR.out _ KA.out).mono ?_
  rintro e w12 ⟨a12, c12, rfl, hS, hK⟩
  have KS := Lib.hid ((Keep.refl Any w11).trans hK)
  have T12 := Lib.hid (show w11.heap.size ≤ w12.heap.size by have h := hK.size; simpa using h)
  have KA := Lib.hid (KA.out.trans KS.out)
  have W0h := Lib.hid (SSl.keep (w' := w12) W0h.out (fun _ _ _ _ h k => SHo.keep h k) KS.out.any)
  have W0l := Lib.hid (SSl.keep (w' := w12) W0l.out (fun _ _ _ _ h _ => h) KS.out.any)
  have X0 := Lib.hid (SStrs.keep X0.out KS.out.any)
  have B8 := Lib.hid (blk_keep KS.out B8.out trivial)
  have X1 := Lib.hid (SRus.keep X1.out KS.out.any)
  have Gh := Lib.hid (SSl.keep (w' := w12) Gh.out (fun _ _ _ _ h k => SHo.keep h k) KS.out.any)
  have Gl := Lib.hid (SSl.keep (w' := w12) Gl.out (fun _ _ _ _ h _ => h) KS.out.any)
  have B12 := Lib.hid (blk_keep KS.out B12.out trivial)
  have R12 := Lib.hid (hS)
  have p0 := (blk_cell B8.out 0).trans rfl
  have p1 := (blk_cell B8.out 1).trans rfl
  have zp0 := blk_lt B8.out
  have p2 := (blk_cell B12.out 0).trans rfl
  have p3 := (blk_cell B12.out 1).trans rfl
  have zp2 := blk_lt B12.out
  clear hK
  go_wp2_with fail
  refine (eqRules_calls rules _ _ _ (any_rus X1.out) (any_rus R12.out)).mono ?_
  rintro e w13 ⟨rfl, hK⟩
  have KS := Lib.hid ((Keep.refl Any w12).trans hK)
  have T13 := Lib.hid (show w12.heap.size ≤ w13.heap.size by have h := hK.size; simpa using h)
  have KA := Lib.hid (KA.out.trans KS.out)
  have W0h := Lib.hid (SSl.keep (w' := w13) W0h.out (fun _ _ _ _ h k => SHo.keep h k) KS.out.any)
  have W0l := Lib.hid (SSl.keep (w' := w13) W0l.out (fun _ _ _ _ h _ => h) KS.out.any)
  have X0 := Lib.hid (SStrs.keep X0.out KS.out.any)
  have B8 := Lib.hid (blk_keep KS.out B8.out trivial)
  have X1 := Lib.hid (SRus.keep X1.out KS.out.any)
  have Gh := Lib.hid (SSl.keep (w' := w13) Gh.out (fun _ _ _ _ h k => SHo.keep h k) KS.out.any)
  have Gl := Lib.hid (SSl.keep (w' := w13) Gl.out (fun _ _ _ _ h _ => h) KS.out.any)
  have B12 := Lib.hid (blk_keep KS.out B12.out trivial)
  have R12 := Lib.hid (SRus.keep R12.out KS.out.any)
  have p0 := (blk_cell B8.out 0).trans rfl
  have p1 := (blk_cell B8.out 1).trans rfl
  have zp0 := blk_lt B8.out
  have p2 := (blk_cell B12.out 0).trans rfl
  have p3 := (blk_cell B12.out 1).trans rfl
  have zp2 := blk_lt B12.out
  clear hK
  go_wp2_with fail
  refine (markStrs_calls names _ 1 1 _ (Mid' (w5.heap.size + 1) w6.heap.size) rfl X0.out (by omega) (by omega)).mono ?_
  rintro e w14 ⟨rfl, hS, hK⟩
  have KS := Lib.hid hK
  have KA := Lib.hid (KA.out.then KS.out fun i hi _ => (fun h' => by have q3 := h'.1; have tw := TW.out; have t5 := T5.out; have t6 := T6.out; have t7 := T7.out; have t8 := T8.out; have n5 := M5.out; have n8 := M8.out; omega))
  have W0h := Lib.hid (SSl.keep (w' := w14) W0h.out (fun _ _ _ _ h k => SHo.keep h k) (KS.out.mono (fun i _ h => (fun h' => by have q1 := h.1; have q2 := h.2; have q3 := h'.1; have q4 := h'.2; have t5 := T5.out; have t6 := T6.out; have t7 := T7.out; have t8 := T8.out; have n5 := M5.out; have n8 := M8.out; omega))))
  have W0l := Lib.hid (SSl.keep (w' := w14) W0l.out (fun _ _ _ _ h _ => h) (KS.out.mono (fun i _ h => (fun h' => by have q1 := h.1; have q2 := h.2; have q3 := h'.1; have q4 := h'.2; have t5 := T5.out; have t6 := T6.out; have t7 := T7.out; have t8 := T8.out; have n5 := M5.out; have n8 := M8.out; omega))))
  have B8 := Lib.hid (blk_keep KS.out B8.out (fun h' => by have q3 := h'.1; have q4 := h'.2; have t5 := T5.out; have t6 := T6.out; have t7 := T7.out; have t8 := T8.out; have n5 := M5.out; have n8 := M8.out; omega))
  have X1 := Lib.hid (SRus.keep X1.out (KS.out.mono (fun i _ h => (fun h' => by have q1 := h.1; have q2 := h.2; have q3 := h'.1; have q4 := h'.2; have t5 := T5.out; have t6 := T6.out; have t7 := T7.out; have t8 := T8.out; have n5 := M5.out; have n8 := M8.out; omega))))
  have Gh := Lib.hid (SSl.keep (w' := w14) Gh.out (fun _ _ _ _ h k => SHo.keep h k) (KS.out.mono (fun i _ h => (fun h' => by have q1 := h.1; have q2 := h.2; have q3 := h'.1; have q4 := h'.2; have t5 := T5.out; have t6 := T6.out; have t7 := T7.out; have t8 := T8.out; have n5 := M5.out; have n8 := M8.out; omega))))
  have Gl := Lib.hid (SSl.keep (w' := w14) Gl.out (fun _ _ _ _ h _ => h) (KS.out.mono (fun i _ h => (fun h' => by have q1 := h.1; have q2 := h.2; have q3 := h'.1; have q4 := h'.2; have t5 := T5.out; have t6 := T6.out; have t7 := T7.out; have t8 := T8.out; have n5 := M5.out; have n8 := M8.out; omega))))
  have B12 := Lib.hid (blk_keep KS.out B12.out (fun h' => by have q3 := h'.1; have q4 := h'.2; have t5 := T5.out; have t6 := T6.out; have t7 := T7.out; have t8 := T8.out; have n5 := M5.out; have n8 := M8.out; omega))
  have p0 := (blk_cell B8.out 0).trans rfl
  have p1 := (blk_cell B8.out 1).trans rfl
  have zp0 := blk_lt B8.out
  have p2 := (blk_cell B12.out 0).trans rfl
  have p3 := (blk_cell B12.out 1).trans rfl
  have zp2 := blk_lt B12.out
  clear hK
  have hk14 : 1 + names.length + 2 * rules.length ≤ 4611686018427387904 := by omega
  go_wp2_with fail
  refine (markRules_calls rules _ _ (1 + names.length) _ (Mid' w6.heap.size w7.heap.size) rfl X1.out (by omega) (by omega)).mono ?_
  rintro e w15 ⟨rfl, hS, hK⟩
  have KS := Lib.hid hK
  have KA := Lib.hid (KA.out.then KS.out fun i hi _ => (fun h' => by have q3 := h'.1; have tw := TW.out; have t5 := T5.out; have t6 := T6.out; have t7 := T7.out; have t8 := T8.out; have n5 := M5.out; have n8 := M8.out; omega))
  have W0h := Lib.hid (SSl.keep (w' := w15) W0h.out (fun _ _ _ _ h k => SHo.keep h k) (KS.out.mono (fun i _ h => (fun h' => by have q1 := h.1; have q2 := h.2; have q3 := h'.1; have q4 := h'.2; have t5 := T5.out; have t6 := T6.out; have t7 := T7.out; have t8 := T8.out; have n5 := M5.out; have n8 := M8.out; omega))))
  have W0l := Lib.hid (SSl.keep (w' := w15) W0l.out (fun _ _ _ _ h _ => h) (KS.out.mono (fun i _ h => (fun h' => by have q1 := h.1; have q2 := h.2; have q3 := h'.1; have q4 := h'.2; have t5 := T5.out; have t6 := T6.out; have t7 := T7.out; have t8 := T8.out; have n5 := M5.out; have n8 := M8.out; omega))))
  have B8 := Lib.hid (blk_keep KS.out B8.out (fun h' => by have q3 := h'.1; have q4 := h'.2; have t5 := T5.out; have t6 := T6.out; have t7 := T7.out; have t8 := T8.out; have n5 := M5.out; have n8 := M8.out; omega))
  have Gh := Lib.hid (SSl.keep (w' := w15) Gh.out (fun _ _ _ _ h k => SHo.keep h k) (KS.out.mono (fun i _ h => (fun h' => by have q1 := h.1; have q2 := h.2; have q3 := h'.1; have q4 := h'.2; have t5 := T5.out; have t6 := T6.out; have t7 := T7.out; have t8 := T8.out; have n5 := M5.out; have n8 := M8.out; omega))))
  have Gl := Lib.hid (SSl.keep (w' := w15) Gl.out (fun _ _ _ _ h _ => h) (KS.out.mono (fun i _ h => (fun h' => by have q1 := h.1; have q2 := h.2; have q3 := h'.1; have q4 := h'.2; have t5 := T5.out; have t6 := T6.out; have t7 := T7.out; have t8 := T8.out; have n5 := M5.out; have n8 := M8.out; omega))))
  have B12 := Lib.hid (blk_keep KS.out B12.out (fun h' => by have q3 := h'.1; have q4 := h'.2; have t5 := T5.out; have t6 := T6.out; have t7 := T7.out; have t8 := T8.out; have n5 := M5.out; have n8 := M8.out; omega))
  have p0 := (blk_cell B8.out 0).trans rfl
  have p1 := (blk_cell B8.out 1).trans rfl
  have zp0 := blk_lt B8.out
  have p2 := (blk_cell B12.out 0).trans rfl
  have p3 := (blk_cell B12.out 1).trans rfl
  have zp2 := blk_lt B12.out
  clear hK
  go_wp2_with fail
  refine (EQ.out _ _ _ _ _ _ _ _ _ (SHos.hos Gh.out) (SHos.hos W0h.out) (SLks.lks Gl.out) (SLks.lks W0l.out)).mono ?_
  rintro e w16 ⟨rfl, hK⟩
  have KS := Lib.hid ((Keep.refl Any w15).trans hK)
  have T16 := Lib.hid (show w15.heap.size ≤ w16.heap.size by have h := hK.size; simpa using h)
  have KA := Lib.hid (KA.out.trans KS.out)
  have W0h := Lib.hid (SSl.keep (w' := w16) W0h.out (fun _ _ _ _ h k => SHo.keep h k) KS.out.any)
  have W0l := Lib.hid (SSl.keep (w' := w16) W0l.out (fun _ _ _ _ h _ => h) KS.out.any)
  have B8 := Lib.hid (blk_keep KS.out B8.out trivial)
  have Gh := Lib.hid (SSl.keep (w' := w16) Gh.out (fun _ _ _ _ h k => SHo.keep h k) KS.out.any)
  have Gl := Lib.hid (SSl.keep (w' := w16) Gl.out (fun _ _ _ _ h _ => h) KS.out.any)
  have B12 := Lib.hid (blk_keep KS.out B12.out trivial)
  have p0 := (blk_cell B8.out 0).trans rfl
  have p1 := (blk_cell B8.out 1).trans rfl
  have zp0 := blk_lt B8.out
  have p2 := (blk_cell B12.out 0).trans rfl
  have p3 := (blk_cell B12.out 1).trans rfl
  have zp2 := blk_lt B12.out
  clear hK
  go_wp2_with fail
  refine (MS.out _ _ _ _ _ (Mid' w7.heap.size m8) (Mid' m8 w8.heap.size) (by simpa only [List.length_map] using SHos.hds Gh.out) (by simpa only [List.length_map] using SLks.lds Gl.out) ⟨(fun i h => by have q2 := h.2; have zz := blk_lt B12.out; have t5 := T5.out; have t6 := T6.out; have t7 := T7.out; have t8 := T8.out; have n5 := M5.out; have n8 := M8.out; omega), (fun i h => by have q2 := h.2; have zz := blk_lt B12.out; have t5 := T5.out; have t6 := T6.out; have t7 := T7.out; have t8 := T8.out; have n5 := M5.out; have n8 := M8.out; omega)⟩ (fun i h h' => by have q2 := h.2; have q3 := h'.1; omega)).mono ?_
  rintro e w17 ⟨rfl, hh, hl', hK⟩
  have KS := Lib.hid hK
  have KA := Lib.hid (KA.out.then KS.out fun i hi _ => ⟨(fun h' => by have q3 := h'.1; have tw := TW.out; have t5 := T5.out; have t6 := T6.out; have t7 := T7.out; have t8 := T8.out; have n5 := M5.out; have n8 := M8.out; omega), (fun h' => by have q3 := h'.1; have tw := TW.out; have t5 := T5.out; have t6 := T6.out; have t7 := T7.out; have t8 := T8.out; have n5 := M5.out; have n8 := M8.out; omega)⟩)
  have W0h := Lib.hid (SSl.keep (w' := w17) W0h.out (fun _ _ _ _ h k => SHo.keep h k) (KS.out.mono (fun i _ h => ⟨(fun h' => by have q1 := h.1; have q2 := h.2; have q3 := h'.1; have q4 := h'.2; have t5 := T5.out; have t6 := T6.out; have t7 := T7.out; have t8 := T8.out; have n5 := M5.out; have n8 := M8.out; omega), (fun h' => by have q1 := h.1; have q2 := h.2; have q3 := h'.1; have q4 := h'.2; have t5 := T5.out; have t6 := T6.out; have t7 := T7.out; have t8 := T8.out; have n5 := M5.out; have n8 := M8.out; omega)⟩)))
  have W0l := Lib.hid (SSl.keep (w' := w17) W0l.out (fun _ _ _ _ h _ => h) (KS.out.mono (fun i _ h => ⟨(fun h' => by have q1 := h.1; have q2 := h.2; have q3 := h'.1; have q4 := h'.2; have t5 := T5.out; have t6 := T6.out; have t7 := T7.out; have t8 := T8.out; have n5 := M5.out; have n8 := M8.out; omega), (fun h' => by have q1 := h.1; have q2 := h.2; have q3 := h'.1; have q4 := h'.2; have t5 := T5.out; have t6 := T6.out; have t7 := T7.out; have t8 := T8.out; have n5 := M5.out; have n8 := M8.out; omega)⟩)))
  have B8 := Lib.hid (blk_keep KS.out B8.out (⟨(fun h' => by have q3 := h'.1; have q4 := h'.2; have t5 := T5.out; have t6 := T6.out; have t7 := T7.out; have t8 := T8.out; have n5 := M5.out; have n8 := M8.out; omega), (fun h' => by have q3 := h'.1; have q4 := h'.2; have t5 := T5.out; have t6 := T6.out; have t7 := T7.out; have t8 := T8.out; have n5 := M5.out; have n8 := M8.out; omega)⟩))
  have B12 := Lib.hid (blk_keep KS.out B12.out (⟨(fun h' => by have q3 := h'.1; have q4 := h'.2; have t5 := T5.out; have t6 := T6.out; have t7 := T7.out; have t8 := T8.out; have n5 := M5.out; have n8 := M8.out; omega), (fun h' => by have q3 := h'.1; have q4 := h'.2; have t5 := T5.out; have t6 := T6.out; have t7 := T7.out; have t8 := T8.out; have n5 := M5.out; have n8 := M8.out; omega)⟩))
  have Gm := Lib.hid (hh)
  have Lm := Lib.hid (hl')
  have p0 := (blk_cell B8.out 0).trans rfl
  have p1 := (blk_cell B8.out 1).trans rfl
  have zp0 := blk_lt B8.out
  have p2 := (blk_cell B12.out 0).trans rfl
  have p3 := (blk_cell B12.out 1).trans rfl
  have zp2 := blk_lt B12.out
  clear hK
  go_wp2_with fail
  refine (HV.out _ _ _ _ _ (by simpa only [List.length_map] using SHds.hds Gm.out) (by simpa only [List.length_map] using SLds.lds Lm.out)).mono ?_
  rintro e w18 ⟨rfl, hK⟩
  have KS := Lib.hid ((Keep.refl Any w17).trans hK)
  have T18 := Lib.hid (show w17.heap.size ≤ w18.heap.size by have h := hK.size; simpa using h)
  have KA := Lib.hid (KA.out.trans KS.out)
  have W0h := Lib.hid (SSl.keep (w' := w18) W0h.out (fun _ _ _ _ h k => SHo.keep h k) KS.out.any)
  have W0l := Lib.hid (SSl.keep (w' := w18) W0l.out (fun _ _ _ _ h _ => h) KS.out.any)
  have B8 := Lib.hid (blk_keep KS.out B8.out trivial)
  have B12 := Lib.hid (blk_keep KS.out B12.out trivial)
  have Gm := Lib.hid (SSl.keep (w' := w18) Gm.out (fun _ _ _ _ h k => SHd.keep h k) KS.out.any)
  have Lm := Lib.hid (SSl.keep (w' := w18) Lm.out (fun _ _ _ _ h _ => h) KS.out.any)
  have p0 := (blk_cell B8.out 0).trans rfl
  have p1 := (blk_cell B8.out 1).trans rfl
  have zp0 := blk_lt B8.out
  have p2 := (blk_cell B12.out 0).trans rfl
  have p3 := (blk_cell B12.out 1).trans rfl
  have zp2 := blk_lt B12.out
  clear hK
  go_wp2_with fail
  refine (TN.out _ KA.out).mono ?_
  rintro e w19 ⟨a19, c19, rfl, hS, hK⟩
  have KS := Lib.hid ((Keep.refl Any w18).trans hK)
  have T19 := Lib.hid (show w18.heap.size ≤ w19.heap.size by have h := hK.size; simpa using h)
  have KA := Lib.hid (KA.out.trans KS.out)
  have W0h := Lib.hid (SSl.keep (w' := w19) W0h.out (fun _ _ _ _ h k => SHo.keep h k) KS.out.any)
  have W0l := Lib.hid (SSl.keep (w' := w19) W0l.out (fun _ _ _ _ h _ => h) KS.out.any)
  have B8 := Lib.hid (blk_keep KS.out B8.out trivial)
  have B12 := Lib.hid (blk_keep KS.out B12.out trivial)
  have Gm := Lib.hid (SSl.keep (w' := w19) Gm.out (fun _ _ _ _ h k => SHd.keep h k) KS.out.any)
  have Lm := Lib.hid (SSl.keep (w' := w19) Lm.out (fun _ _ _ _ h _ => h) KS.out.any)
  have N19 := Lib.hid (hS)
  have p0 := (blk_cell B8.out 0).trans rfl
  have p1 := (blk_cell B8.out 1).trans rfl
  have zp0 := blk_lt B8.out
  have p2 := (blk_cell B12.out 0).trans rfl
  have p3 := (blk_cell B12.out 1).trans rfl
  have zp2 := blk_lt B12.out
  clear hK
  go_wp2_with fail
  refine (TR.out _ KA.out).mono ?_
  rintro e w20 ⟨a20, c20, rfl, hS, hK⟩
  have KS := Lib.hid ((Keep.refl Any w19).trans hK)
  have T20 := Lib.hid (show w19.heap.size ≤ w20.heap.size by have h := hK.size; simpa using h)
  have KA := Lib.hid (KA.out.trans KS.out)
  have W0h := Lib.hid (SSl.keep (w' := w20) W0h.out (fun _ _ _ _ h k => SHo.keep h k) KS.out.any)
  have W0l := Lib.hid (SSl.keep (w' := w20) W0l.out (fun _ _ _ _ h _ => h) KS.out.any)
  have B8 := Lib.hid (blk_keep KS.out B8.out trivial)
  have B12 := Lib.hid (blk_keep KS.out B12.out trivial)
  have Gm := Lib.hid (SSl.keep (w' := w20) Gm.out (fun _ _ _ _ h k => SHd.keep h k) KS.out.any)
  have Lm := Lib.hid (SSl.keep (w' := w20) Lm.out (fun _ _ _ _ h _ => h) KS.out.any)
  have N19 := Lib.hid (SStrs.keep N19.out KS.out.any)
  have R20 := Lib.hid (hS)
  have p0 := (blk_cell B8.out 0).trans rfl
  have p1 := (blk_cell B8.out 1).trans rfl
  have zp0 := blk_lt B8.out
  have p2 := (blk_cell B12.out 0).trans rfl
  have p3 := (blk_cell B12.out 1).trans rfl
  have zp2 := blk_lt B12.out
  clear hK
  go_wp2_with fail
  refine (IM.out _ _ _ (any_strs N19.out) (any_rus R20.out)).mono ?_
  rintro e w21 ⟨a21, b21, c21, d21, m21, rfl, hh, hl', hm21, hK⟩
  have KS := Lib.hid ((Keep.refl Any w20).trans hK)
  have T21 := Lib.hid (show w20.heap.size ≤ w21.heap.size by have h := hK.size; simpa using h)
  have KA := Lib.hid (KA.out.trans KS.out)
  have W0h := Lib.hid (SSl.keep (w' := w21) W0h.out (fun _ _ _ _ h k => SHo.keep h k) KS.out.any)
  have W0l := Lib.hid (SSl.keep (w' := w21) W0l.out (fun _ _ _ _ h _ => h) KS.out.any)
  have B8 := Lib.hid (blk_keep KS.out B8.out trivial)
  have B12 := Lib.hid (blk_keep KS.out B12.out trivial)
  have Gm := Lib.hid (SSl.keep (w' := w21) Gm.out (fun _ _ _ _ h k => SHd.keep h k) KS.out.any)
  have Lm := Lib.hid (SSl.keep (w' := w21) Lm.out (fun _ _ _ _ h _ => h) KS.out.any)
  have N19 := Lib.hid (SStrs.keep N19.out KS.out.any)
  have R20 := Lib.hid (SRus.keep R20.out KS.out.any)
  have Hh := Lib.hid (hh)
  have Hl := Lib.hid (hl')
  have p0 := (blk_cell B8.out 0).trans rfl
  have p1 := (blk_cell B8.out 1).trans rfl
  have zp0 := blk_lt B8.out
  have p2 := (blk_cell B12.out 0).trans rfl
  have p3 := (blk_cell B12.out 1).trans rfl
  have zp2 := blk_lt B12.out
  clear hK
  go_wp2_with fail
  refine (EQ.out _ _ _ _ _ _ _ _ _ (Hos.keep (SHos.hos Hh.out) ((Keep.refl _ _).alloc _)) (Hos.keep (SHos.hos W0h.out) ((Keep.refl _ _).alloc _)) (Lks.keep (SLks.lks Hl.out) ((Keep.refl _ _).alloc _)) (Lks.keep (SLks.lks W0l.out) ((Keep.refl _ _).alloc _))).mono ?_
  rintro e w22 ⟨rfl, hK⟩
  have KS := Lib.hid (((Keep.refl Any w21).alloc _).trans hK)
  have T22 := Lib.hid (show w21.heap.size + 1 ≤ w22.heap.size by have h := hK.size; simpa using h)
  have KA := Lib.hid (KA.out.trans KS.out)
  have W0h := Lib.hid (SSl.keep (w' := w22) W0h.out (fun _ _ _ _ h k => SHo.keep h k) KS.out.any)
  have W0l := Lib.hid (SSl.keep (w' := w22) W0l.out (fun _ _ _ _ h _ => h) KS.out.any)
  have B8 := Lib.hid (blk_keep KS.out B8.out trivial)
  have B12 := Lib.hid (blk_keep KS.out B12.out trivial)
  have Gm := Lib.hid (SSl.keep (w' := w22) Gm.out (fun _ _ _ _ h k => SHd.keep h k) KS.out.any)
  have Lm := Lib.hid (SSl.keep (w' := w22) Lm.out (fun _ _ _ _ h _ => h) KS.out.any)
  have Hh := Lib.hid (SSl.keep (w' := w22) Hh.out (fun _ _ _ _ h k => SHo.keep h k) KS.out.any)
  have Hl := Lib.hid (SSl.keep (w' := w22) Hl.out (fun _ _ _ _ h _ => h) KS.out.any)
  have p0 := (blk_cell B8.out 0).trans rfl
  have p1 := (blk_cell B8.out 1).trans rfl
  have zp0 := blk_lt B8.out
  have p2 := (blk_cell B12.out 0).trans rfl
  have p3 := (blk_cell B12.out 1).trans rfl
  have zp2 := blk_lt B12.out
  clear hK
  go_wp2_with fail
  refine (HV.out _ _ _ _ _ (by simpa only [List.length_map] using SHds.hds Gm.out) (by simpa only [List.length_map] using SLds.lds Lm.out)).mono ?_
  rintro e w23 ⟨rfl, hK⟩
  have KS := Lib.hid ((Keep.refl Any w22).trans hK)
  have T23 := Lib.hid (show w22.heap.size ≤ w23.heap.size by have h := hK.size; simpa using h)
  have KA := Lib.hid (KA.out.trans KS.out)
  have W0h := Lib.hid (SSl.keep (w' := w23) W0h.out (fun _ _ _ _ h k => SHo.keep h k) KS.out.any)
  have W0l := Lib.hid (SSl.keep (w' := w23) W0l.out (fun _ _ _ _ h _ => h) KS.out.any)
  have B8 := Lib.hid (blk_keep KS.out B8.out trivial)
  have B12 := Lib.hid (blk_keep KS.out B12.out trivial)
  have Gm := Lib.hid (SSl.keep (w' := w23) Gm.out (fun _ _ _ _ h k => SHd.keep h k) KS.out.any)
  have Lm := Lib.hid (SSl.keep (w' := w23) Lm.out (fun _ _ _ _ h _ => h) KS.out.any)
  have Hh := Lib.hid (SSl.keep (w' := w23) Hh.out (fun _ _ _ _ h k => SHo.keep h k) KS.out.any)
  have Hl := Lib.hid (SSl.keep (w' := w23) Hl.out (fun _ _ _ _ h _ => h) KS.out.any)
  have p0 := (blk_cell B8.out 0).trans rfl
  have p1 := (blk_cell B8.out 1).trans rfl
  have zp0 := blk_lt B8.out
  have p2 := (blk_cell B12.out 0).trans rfl
  have p3 := (blk_cell B12.out 1).trans rfl
  have zp2 := blk_lt B12.out
  clear hK
  go_wp2
  go_ret
  exact ⟨rfl, KA.out⟩
theorem own : ownKnob Try.prog.godebug = none := by kernel_rfl
theorem laidOut : laidOutB Try.prog = true := by kernel_rfl
set_option maxRecDepth 100000 in
theorem strs_in {H : Type} {enc : TypeId × Value → H} {W : World} {base : Nat} {v : Value} {d : DataW H} {p : List MemPlace} (hval : Value.okWide Try.prog W .any base 22 v) (h : DataW.Trod enc Try.prog W 0 (fun _ => true) true 22 v d p) : ∃ l, Strs W Any v l := by
  obtain ⟨a1, len, cap, rfl⟩ := okWide_slice Try.underlying22 hval
  obtain ⟨fuel, hf⟩ := h
  obtain ⟨v', l, hcs, hs⟩ := open_strs hf
  simp [Value.cells] at hcs
  exact ⟨l, hcs ▸ hs⟩
set_option maxRecDepth 100000 in
theorem rules_in {H : Type} {enc : TypeId × Value → H} {W : World} {base : Nat} {v : Value} {d : DataW H} {p : List MemPlace} (hval : Value.okWide Try.prog W .any base 23 v) (h : DataW.Trod enc Try.prog W 0 (fun _ => true) true 23 v d p) : ∃ l, Rus W Any v l := by
  obtain ⟨a1, len, cap, rfl⟩ := okWide_slice Try.underlying23 hval
  obtain ⟨fuel, hf⟩ := h
  obtain ⟨v', l, hcs, hs⟩ := open_rules hf
  simp [Value.cells] at hcs
  exact ⟨l, hcs ▸ hs⟩
set_option maxRecDepth 100000 in
theorem int_in {H : Type} {enc : TypeId × Value → H} {W : World} {base : Nat} {v : Value} {d : DataW H} {p : List MemPlace} (hval : Value.okWide Try.prog W .any base 3 v) (h : DataW.Trod enc Try.prog W 0 (fun _ => true) true 3 v d p) : ∃ n, v = .int .i64 n ∧ I64 n := by
  obtain ⟨n, rfl⟩ := okWide_int Try.underlying3 hval
  obtain ⟨fuel, hf⟩ := h
  obtain ⟨n', hcs, hn⟩ := Go.Proofs.Ytlmonnhgjnjniaa.open_int (t := 3) (by kernel_rfl) hf
  simp [Value.cells] at hcs
  exact ⟨n, rfl, hcs ▸ hn⟩
set_option maxRecDepth 100000 in
theorem lifted (os : Os) (started : os.Started) (H : Type) (enc : TypeId × Value → H) :
    ReturnsInHanded {} Try.checked os 3 .any (Rows.fnExactServerNewSpec.pre6 enc Try.prog Try.f3 Rows.fnExactServerNewRow.domain false) (Rows.fnExactServerNewSpec.post enc Try.prog Try.f3 false true false false) := by
  refine returnsInHanded_of_change (C := Try.checked) own started (by kernel_rfl) Try.func3
    (ChangeSpec.witness6 (enc := enc) (C := Try.checked) false ⟨#[], #[.slice none 0 0, .slice none 0 0, .int .i64 0], []⟩ 8 (by kernel_rfl) (by kernel_rfl) (by kernel_rfl) (by kernel_rfl)) ?_
  intro W base args ds gs before hval0 hW hcnd _
  have hval : ∀ (j : Nat) t v, Try.f3.params[j]? = some t → args[j]? = some v → Value.okWide Try.prog W .any base t v := hval0
  have hW' := hW
  obtain ⟨p, q, hA0, hV, rfl, hfz, hnd⟩ := hW
  have hA : DataW.TrodAll enc Try.prog W 0 (fun _ => true) true Try.f3.params.toList args.toList ds p := hA0
  rw [Try.params3] at hA hval
  obtain ⟨v0, vs0, d0, ds0, p0, q0, hargs, rfl, rfl, h0, r0⟩ := trodAll_cons hA
  obtain ⟨v1, vs1, d1, ds1, p1, q1, hargs1, rfl, rfl, h1, r1⟩ := trodAll_cons r0
  obtain ⟨v2, vs2, d2, ds2, p2, q2, hargs2, rfl, rfl, h2, r2⟩ := trodAll_cons r1
  obtain ⟨rfl, rfl, rfl⟩ := trodAll_nil r2
  obtain rfl : args = #[v0, v1, v2] := by cases args; simp_all
  obtain ⟨rfl, rfl⟩ := trodVars_none hV
  have k0 := h0
  have k1 := h1
  have k2 := h2
  have lt0 : ∀ x ∈ p0, x.block < W.heap.size := by obtain ⟨m, hm⟩ := k0; exact DataW.trod_lt m _ _ _ hm
  have lt1 : ∀ x ∈ p1, x.block < W.heap.size := by obtain ⟨m, hm⟩ := k1; exact DataW.trod_lt m _ _ _ hm
  have lt2 : ∀ x ∈ p2, x.block < W.heap.size := by obtain ⟨m, hm⟩ := k2; exact DataW.trod_lt m _ _ _ hm
  obtain ⟨names, b0⟩ := strs_in (hval 0 22 v0 rfl rfl) h0
  obtain ⟨rules, b1⟩ := rules_in (hval 1 23 v1 rfl rfl) h1
  obtain ⟨n, rfl, b2⟩ := int_in (hval 2 3 v2 rfl rfl) h2
  clear hA0 hval0
  refine (walk names v0 rules v1 n b2 W b0 b1).mono fun e W' ⟨he, hg⟩ => ?_
  subst he
  exact ⟨_, rfl, _, _, _, [], _, [], hW', trodAll_mk1 (shut_bool Try.underlying4 _), trodAll_cons_mk (Below.trod laidOut (by kernel_rfl) (of_decide_eq_true (by kernel_rfl)) k0 hg.below lt0) (trodAll_cons_mk (Below.trod laidOut (by kernel_rfl) (of_decide_eq_true (by kernel_rfl)) k1 hg.below lt1) (trodAll_cons_mk (Below.trod laidOut (by kernel_rfl) (of_decide_eq_true (by kernel_rfl)) k2 hg.below lt2) trodAll_mk0)), rfl, hg.below.frame _, fun h => by cases h⟩
theorem over : Rows.fnExactServerNewRow.holds Try.pinned (OpenSpec.ofChange Rows.fnExactServerNewSpec) :=
  OpenClaim.holds_of_wide 3 Try.f3 rfl rfl rfl rfl rfl rfl rfl ⟨rfl, rfl, rfl, rfl, rfl⟩ rfl rfl rfl rfl rfl (by kernel_rfl) Try.func3 (by kernel_rfl)
    (of_decide_eq_true (by kernel_rfl)) (by unfold Func.isWrapper; first | (rw [if_pos (by decide +kernel)]; kernel_rfl) | (rw [if_neg (by decide +kernel)]; exact ⟨rfl, rfl⟩))
    (fun os started H enc _ => lifted os started H enc)
theorem proved : Rows.FnExactServerNewSaid := over
#print axioms proved
end Go.Proofs.Ytlmonnhgjnjniaa.fnExactServerNew

/- The laws' comparisons of texts and values (asTexts, asValue, asVals): of two that hold the same they say yes. The reference's copy of a store with nothing but rules. Homes (a name, a store with rules) and links to which nobody talked, of one's own; a new link. How expressions lie in memory; an element of any slice, its cells as a walk reads them. No condition. Homes and links of a server that has nothing in it, their parts wherever. No condition. -/
import Derived.Test.YtngghnakbhoiaaaGreatDoorMLawSvBegin0
import Derived.StillTailTactics
import Derived.Test.YtngghnakbhoiaaaGreatDoorMLawSvBegin3
import Derived.Deep.AppendLies
/- The laws' comparisons of texts and values (asTexts, asValue, asVals): of two that hold the same they say yes. -/
namespace Go.Proofs.YtngghnakbhoiaaaGreatDoor
open Go.RowKit
set_option linter.unusedVariables false
set_option linter.unusedSimpArgs false

theorem asStrs_calls (l : List ByteArray) (s t : Value) (w : World) (hs : Strs w Any s l) (ht : Strs w Any t l) :
    Calls Tryz.prog 62 #[s, t] w (Tells true w) := by
  have HS := Lib.hid hs
  have HT := Lib.hid ht
  obtain ⟨ad, c, rfl, hc, hm, _⟩ := hs
  obtain ⟨ad', c', rfl, hc', hm', _⟩ := ht
  have hl : (((l.length : Nat) : Int) != ((l.length : Nat) : Int)) = false := by simp
  go_enter Tryz.func62, Tryz.ntmps62
  go_wp2
  go_loopg [5] (l.length + 1) (fun g i wr => ∃ k : Nat, k ≤ l.length ∧ i = .int .i64 k ∧ g = l.length + 1 - k ∧ Keep Any w wr)
  case atStart => exact ⟨0, by omega, rfl, rfl, Keep.refl _ _⟩
  case round =>
    obtain ⟨k, hk, rfl, hg, hK⟩ := hrel
    have HG := Lib.hid hg
    clear hg
    by_cases hlt : k < l.length
    · have hx : l[k]? = some l[k] := List.getElem?_eq_getElem hlt
      obtain ⟨ad, rfl, hB, c0⟩ := strs_at HS.out hK hx
      obtain ⟨ad', rfl, _, c1⟩ := strs_at HT.out hK hx
      generalize l[k] = x at *
      have k0 : (0 : Int) ≤ (k : Int) := by omega
      have k1 : (k : Int) < (l.length : Int) := by omega
      clear hx
      go_wp2
      go_quiet (fail)
      go_wp2
      go_roundg (gk - 1)
      case rel => exact ⟨k + 1, by omega, by go_num, by have := HG.out; omega, hK.drewN _⟩
      case measure => have := HG.out; omega
    · go_wp2
      go_ret
      exact ⟨rfl, hK⟩

/-- two values that hold the same -/
def AsVal (v : V) : Prop := ∀ (a c a' c' : _) (w : World), VR w Any v [.int .i64 v.kind, .int .i64 v.num, .string v.text, .slice a v.list.length c] → VR w Any v [.int .i64 v.kind, .int .i64 v.num, .string v.text, .slice a' v.list.length c'] →
  Calls Tryz.prog 64 #[.agg #[.int .i64 v.kind, .int .i64 v.num, .string v.text, .slice a v.list.length c], .agg #[.int .i64 v.kind, .int .i64 v.num, .string v.text, .slice a' v.list.length c']] w (Tells true w)
set_option maxRecDepth 20000 in
theorem asVal_of (v : V) (ih : ∀ x, x ∈ v.list → AsVal x) : AsVal v := by
  intro a c a' c' w hv hu
  obtain ⟨s, e1, h1, h2, h3, hs⟩ := VR.iff.1 hv
  obtain ⟨t, e2, _, _, _, ht⟩ := VR.iff.1 hu
  simp only [List.cons.injEq, and_true, true_and] at e1 e2
  subst e1 e2
  have HS := Lib.hid hs
  have HT := Lib.hid ht
  have IH := Lib.hid ih
  obtain ⟨_, _, _, hc, hm, _⟩ := hs
  have hlm : v.list.length ≤ 9223372036854775807 := by omega
  clear hv hu ih ht hc hm
  have b1 : (v.kind != v.kind) = false := by simp
  have b2 : (v.num != v.num) = false := by simp
  have b3 : (v.text.toList != v.text.toList) = false := by simp
  have b4 : (((v.list.length : Nat) : Int) != ((v.list.length : Nat) : Int)) = false := by simp
  go_enter Tryz.func64, Tryz.ntmps64
  go_wp2
  go_loopg [5] (v.list.length + 1) (fun g i wr => ∃ k : Nat, k ≤ v.list.length ∧ i = .int .i64 k ∧ g = v.list.length + 1 - k ∧ Keep Any ((w.alloc (.cells #[.int .i64 v.kind, .int .i64 v.num, .string v.text, .slice a v.list.length c] 116 (0, 0))).alloc (.cells #[.int .i64 v.kind, .int .i64 v.num, .string v.text, .slice a' v.list.length c'] 116 (0, 0))) wr)
  case atStart => exact ⟨0, by omega, rfl, rfl, Keep.refl _ _⟩
  case round =>
    obtain ⟨k, hk, rfl, hg, hK⟩ := hrel
    have HG := Lib.hid hg
    clear hg
    have KW := Lib.hid ((((Keep.refl Any w).alloc _).alloc _).trans hK)
    have bA := blk_keep hK (blk_alloc (blk_new w _) _) trivial
    have bB := blk_keep hK (blk_new _ _) trivial
    rw [World.size_alloc] at bB
    have y3 := (blk_cell bA 3).trans rfl
    have x3 := (blk_cell bB 3).trans rfl
    have z1 := blk_lt bA
    have z2 := blk_lt bB
    clear bA bB
    by_cases hlt : k < v.list.length
    · have hx : v.list[k]? = some v.list[k] := List.getElem?_eq_getElem hlt
      have IX := Lib.hid (IH.out _ (List.mem_of_getElem? hx))
      obtain ⟨ad, sa, sc, rfl, hvx, c0, c1, c2, c3⟩ := vals_at HS.out KW.out hx
      obtain ⟨ad', sa', sc', rfl, hux, d0, d1, d2, d3⟩ := vals_at HT.out KW.out hx
      generalize v.list[k] = x at *
      have HV := Lib.hid hvx
      have HU := Lib.hid hux
      have HK := Lib.hid hK
      have k0 : (0 : Int) ≤ (k : Int) := by omega
      have k1 : (k : Int) < (v.list.length : Int) := by omega
      clear hx hvx hux hK
      go_wp2
      go_still_tail 10, (by kernel_rfl)
      change wpList _ _ _ _ _ wr.drew
      go_wp2_with (go_at_call 64; refine (IX.out _ _ _ _ _ (HV.out.keep ((Keep.refl _ _).drew)) (HU.out.keep ((Keep.refl _ _).drew))).mono ?_; rintro e w2 ⟨rfl, hK2⟩)
      go_roundg (gk - 1)
      case rel => exact ⟨k + 1, by omega, by go_num, by have := HG.out; omega, HK.out.drew.trans hK2⟩
      case measure => have := HG.out; omega
    · go_wp2
      go_ret
      exact ⟨rfl, KW.out⟩
theorem asVal_all (n : Nat) : ∀ v : V, v.w = n → AsVal v := by
  induction n using Nat.strongRecOn with
  | _ n ih => exact fun v hv => asVal_of v (fun x hx => by
      obtain ⟨j, hj, rfl⟩ := List.getElem_of_mem hx
      exact ih _ (hv ▸ V.w_lt (List.getElem?_eq_getElem hj)) _ rfl)
def AsVals (l : List V) : Prop := ∀ (s t : Value) (w : World), Vals w Any s l → Vals w Any t l → Calls Tryz.prog 71 #[s, t] w (Tells true w)
theorem asVals_of (l : List V) (ih : ∀ x, x ∈ l → AsVal x) : AsVals l := by
  intro s t w hs ht
  have HS := Lib.hid hs
  have HT := Lib.hid ht
  have IH := Lib.hid ih
  clear ih
  obtain ⟨ad, c, rfl, hc, hm, _⟩ := hs
  obtain ⟨ad', c', rfl, hc', hm', _⟩ := ht
  have hl : (((l.length : Nat) : Int) != ((l.length : Nat) : Int)) = false := by simp
  go_enter Tryz.func71, Tryz.ntmps71
  go_wp2
  go_loopg [5] (l.length + 1) (fun g i wr => ∃ k : Nat, k ≤ l.length ∧ i = .int .i64 k ∧ g = l.length + 1 - k ∧ Keep Any w wr)
  case atStart => exact ⟨0, by omega, rfl, rfl, Keep.refl _ _⟩
  case round =>
    obtain ⟨k, hk, rfl, hg, hK⟩ := hrel
    have HG := Lib.hid hg
    clear hg
    by_cases hlt : k < l.length
    · have hx : l[k]? = some l[k] := List.getElem?_eq_getElem hlt
      have IX := Lib.hid (IH.out _ (List.mem_of_getElem? hx))
      obtain ⟨ad, sa, sc, rfl, hvx, c0, c1, c2, c3⟩ := vals_at HS.out hK hx
      obtain ⟨ad', sa', sc', rfl, hux, d0, d1, d2, d3⟩ := vals_at HT.out hK hx
      generalize l[k] = x at *
      have HV := Lib.hid hvx
      have HU := Lib.hid hux
      have k0 : (0 : Int) ≤ (k : Int) := by omega
      have k1 : (k : Int) < (l.length : Int) := by omega
      clear hx hvx hux
      go_wp2
      go_region_with (go_at_call 64; refine (IX.out _ _ _ _ _ (HV.out.keep ((Keep.refl _ _).drew)) (HU.out.keep ((Keep.refl _ _).drew))).mono ?_; rintro e w2 ⟨rfl, hK2⟩)
      all_goals
        go_wp2
        go_roundg (gk - 1)
        case rel => exact ⟨k + 1, by omega, by go_num, by have := HG.out; omega, hK.drew.trans hK2⟩
        case measure => have := HG.out; omega
    · go_wp2
      go_ret
      exact ⟨rfl, hK⟩
theorem asVals_calls (l : List V) : AsVals l := asVals_of l fun x _ => asVal_all x.w x rfl
end Go.Proofs.YtngghnakbhoiaaaGreatDoor

/- The reference's copy of a store with nothing but rules. -/
namespace Go.Proofs.YtngghnakbhoiaaaGreatDoor
open Go.RowKit
set_option linter.unusedVariables false
set_option linter.unusedSimpArgs false
theorem step_append_rus {ops : Array Oper} {o : Oper} {a : Act} {K : Act → World → Prop} {Q : Exit → Act → World → Prop} {E : Prop} {sa ad : Option Addr} {c : Nat} {l : List Ru} (w : World) (hgd : o.guard = none) (s x : Operand)
    (ho : o.op = .call { callee := .builtin .append, args := #[s, x], argTypes := #[24, 24] }) (hs : a.eval s = .slice sa 0 0) (hx : a.eval x = .slice ad l.length c)
    (hr : Rus w Any (.slice ad l.length c) l) (hl : l.length ≤ 1048576) (h : ∀ v' w', RuApp w l v' w' → K (a.put o.dst v') w') : if Region.wanted o (yielded ops a.tmps) = true then Oper.wp Tryz.prog o a w K Q else E :=
  step_append_ex w hgd s x 24 ho _ _ hs hx (append_rus2 w o.type sa l ad c hr hl) h
theorem kset_x {ok : Nat → Prop} {a w : World} {X o : Nat} {u : Value} (hX : ¬ ok X) (h : Keep ok a w) : Keep ok a (w.setCell ⟨X, o, none⟩ u) := h.set _ _ fun _ hl => absurd hl hX
/-- a store with nothing but rules; of the questions an empty slice -/
def GotSt2 (l : List Ru) (w : World) (e : Ending) (w' : World) : Prop := ∃ (rs : Value) (d : Option Addr), e = .returned (.agg #[.slice none 0 0, .slice none 0 0, .int .i64 0, .int .i64 0, rs, .int .i64 0, .slice d 0 0, .slice none 0 0, .int .i64 0]) ∧ SRus w' (Mid' w.heap.size w'.heap.size) rs l ∧ Keep Any w w'
set_option maxHeartbeats 8000000 in
set_option maxRecDepth 20000 in
theorem l7Copy_calls (l : List Ru) (rs : Value) (w : World) (hs : Rus w Any rs l) (hl : l.length ≤ 1048576) :
    Calls Tryz.prog 20 #[.agg #[.slice none 0 0, .slice none 0 0, .int .i64 0, .int .i64 0, rs, .int .i64 0, .slice none 0 0, .slice none 0 0, .int .i64 0]] w (GotSt2 l w) := by
  have HS := Lib.hid hs
  have CG := Lib.hid (fun w => l2Copy_nil none none 0 0 w)
  have CA := Lib.hid (fun w => l7Asks_nil none 0 w)
  obtain ⟨ad, c, rfl, hc, hm, _⟩ := hs
  go_enter Tryz.func20, Tryz.ntmps20
  go_wp2
  have K0 := Lib.hid (show Keep Any w ((w.alloc (.cells #[.slice none 0 0, .slice none 0 0, .int .i64 0, .int .i64 0, .slice ad l.length c, .int .i64 0, .slice none 0 0, .slice none 0 0, .int .i64 0] 41 (0, 0))).alloc (.cells #[.slice none 0 0, .slice none 0 0, .int .i64 0, .int .i64 0, .slice none 0 0, .int .i64 0, .slice none 0 0, .slice none 0 0, .int .i64 0] 41 (0, 0))) from ((Keep.refl _ _).alloc _).alloc _)
  have B0 := Lib.hid (blk_alloc (blk_new w (.cells #[.slice none 0 0, .slice none 0 0, .int .i64 0, .int .i64 0, .slice ad l.length c, .int .i64 0, .slice none 0 0, .slice none 0 0, .int .i64 0] 41 (0, 0))) (.cells #[.slice none 0 0, .slice none 0 0, .int .i64 0, .int .i64 0, .slice none 0 0, .int .i64 0, .slice none 0 0, .slice none 0 0, .int .i64 0] 41 (0, 0)))
  have R0 := Lib.hid (blk_new (w.alloc (.cells #[.slice none 0 0, .slice none 0 0, .int .i64 0, .int .i64 0, .slice ad l.length c, .int .i64 0, .slice none 0 0, .slice none 0 0, .int .i64 0] 41 (0, 0))) (.cells #[.slice none 0 0, .slice none 0 0, .int .i64 0, .int .i64 0, .slice none 0 0, .int .i64 0, .slice none 0 0, .slice none 0 0, .int .i64 0] 41 (0, 0)))
  rw [World.size_alloc] at R0
  generalize ((w.alloc (.cells #[.slice none 0 0, .slice none 0 0, .int .i64 0, .int .i64 0, .slice ad l.length c, .int .i64 0, .slice none 0 0, .slice none 0 0, .int .i64 0] 41 (0, 0))).alloc (.cells #[.slice none 0 0, .slice none 0 0, .int .i64 0, .int .i64 0, .slice none 0 0, .int .i64 0, .slice none 0 0, .slice none 0 0, .int .i64 0] 41 (0, 0))) = wx at *
  go_cut [3] from 6 to 20 (fun v wc => ∃ (O : Nat) (a' : Option Addr) (c' : Nat) (d : Option Addr), v = .pointer (some ⟨O, 0, none⟩) ∧ wc.heap[O]? = some (.cells #[.slice none 0 0, .slice none 0 0, .int .i64 0, .int .i64 0, .slice a' l.length c', .int .i64 0, .slice d 0 0, .slice none 0 0, .int .i64 0] 41 (0, 0)) ∧ wx.heap.size ≤ O ∧ SRus wc (fun k => wx.heap.size ≤ k ∧ k ≠ O) (.slice a' l.length c') l ∧ Keep Any wx wc)
  case first =>
    obtain ⟨x0, x1, x2, x3, x4, x5, x6, x7, x8⟩ := at9 B0.out
    have KX := Lib.hid (show Keep Any wx wx.drew from (Keep.refl _ _).drew)
    have KR := Lib.hid (Keep.refl Any wx)
    have hz0 := Lib.hid (Nat.le_refl wx.heap.size)
    have hy0 := Lib.hid (Nat.le_succ wx.heap.size)
    have AP := Lib.hid (fun W (k : Keep Any wx W) sa => append_rus2 W 24 sa l ad c (Rus.keep HS.out (K0.out.trans k)) hl)
    have SK := Lib.hid (fun w' (h : Keep Any wx w') => (⟨h, h.cell x0 trivial, h.cell x1 trivial, h.cell x2 trivial, h.cell x3 trivial, h.cell x4 trivial, h.cell x5 trivial, h.cell x6 trivial, h.cell x8 trivial⟩ : Keep Any wx w' ∧ w'.cell? ⟨w.heap.size, 0, none⟩ = some (.slice none 0 0) ∧ w'.cell? ⟨w.heap.size, 1, none⟩ = some (.slice none 0 0) ∧ w'.cell? ⟨w.heap.size, 2, none⟩ = some (.int .i64 0) ∧ w'.cell? ⟨w.heap.size, 3, none⟩ = some (.int .i64 0) ∧ w'.cell? ⟨w.heap.size, 4, none⟩ = some (.slice ad l.length c) ∧ w'.cell? ⟨w.heap.size, 5, none⟩ = some (.int .i64 0) ∧ w'.cell? ⟨w.heap.size, 6, none⟩ = some (.slice none 0 0) ∧ w'.cell? ⟨w.heap.size, 8, none⟩ = some (.int .i64 0)))
    clear x0 x1 x2 x3 x4 x5 x6 x7 x8
    first | (go_region_held3 (fun w' => Keep Any wx w' ∧ w'.cell? ⟨w.heap.size, 0, none⟩ = some (.slice none 0 0) ∧ w'.cell? ⟨w.heap.size, 1, none⟩ = some (.slice none 0 0) ∧ w'.cell? ⟨w.heap.size, 2, none⟩ = some (.int .i64 0) ∧ w'.cell? ⟨w.heap.size, 3, none⟩ = some (.int .i64 0) ∧ w'.cell? ⟨w.heap.size, 4, none⟩ = some (.slice ad l.length c) ∧ w'.cell? ⟨w.heap.size, 5, none⟩ = some (.int .i64 0) ∧ w'.cell? ⟨w.heap.size, 6, none⟩ = some (.slice none 0 0) ∧ w'.cell? ⟨w.heap.size, 8, none⟩ = some (.int .i64 0)) ((refine SK.out _ ?_; repeat (first | (with_reducible exact KX.out) | (with_reducible exact HK7.out) | (with_reducible exact HK8.out) | (with_reducible exact HK6.out) | (with_reducible exact KR.out) | (with_reducible refine Keep.drew ?_) | (with_reducible refine Keep.alloc ?_ _) | (with_reducible refine kset_b' hz0.out ?_) | (with_reducible refine kset_b' hz6.out ?_) | (with_reducible refine kset_b' hz8.out ?_) | (with_reducible refine kset_b' hz7.out ?_) | (with_reducible refine kset_b' hy0.out ?_) | (with_reducible refine kset_b' hy6.out ?_) | (with_reducible refine kset_b' hy8.out ?_)))) (first | (go_at_call 39; refine (CG.out _).mono ?_; rintro e w6 ⟨rfl, hK⟩; have HK6 := Lib.hid (Keep.trans (show Keep Any wx _ from (by repeat (first | (with_reducible exact KX.out) | (with_reducible exact HK7.out) | (with_reducible exact HK8.out) | (with_reducible exact HK6.out) | (with_reducible exact KR.out) | (with_reducible refine Keep.drew ?_) | (with_reducible refine Keep.alloc ?_ _) | (with_reducible refine kset_b' hz0.out ?_) | (with_reducible refine kset_b' hz6.out ?_) | (with_reducible refine kset_b' hz8.out ?_) | (with_reducible refine kset_b' hz7.out ?_) | (with_reducible refine kset_b' hy0.out ?_) | (with_reducible refine kset_b' hy6.out ?_) | (with_reducible refine kset_b' hy8.out ?_)))) hK); have hz6 := Lib.hid HK6.out.size; have hy6 := Lib.hid (Nat.le_succ_of_le HK6.out.size); try (have NO6 := blk_keep hK (show _ = some (.cells #[.slice none 0 0, .slice none 0 0, .int .i64 0, .int .i64 0, .slice none 0 0, .int .i64 0, .slice none 0 0, .slice none 0 0, .int .i64 0] 41 (0, 0)) from (by first | (exact NO0) | (exact blk_alloc NO0 _) | (exact blk_new _ _) | (exact blk_alloc (blk_new _ _) _) | (exact (show ((wx.alloc _).drew).heap[wx.heap.size]? = _ from blk_new wx _) ) | (exact (show (((wx.alloc _).alloc _).drew).heap[wx.heap.size]? = _ from blk_alloc (blk_new wx _) _)) | (exact (show (((wx.alloc _).alloc _).drew).heap[(wx.alloc _).heap.size]? = _ from blk_new (wx.alloc _) _)))) trivial; try (simp only [World.size_alloc] at NO6)); clear hK) | (go_at_call 40; refine (CA.out _).mono ?_; rintro e w7 ⟨a7, rfl, hK⟩; have K78 := Lib.hid (Keep.trans (show Keep Any w8 _ from (by repeat (first | (with_reducible exact Keep.refl _ _) | (with_reducible refine Keep.alloc ?_ _)))) hK); have S7 := Lib.hid (SRus.keep S8.out K78.out.any); have HK7 := Lib.hid (Keep.trans (show Keep Any wx _ from (by repeat (first | (with_reducible exact KX.out) | (with_reducible exact HK7.out) | (with_reducible exact HK8.out) | (with_reducible exact HK6.out) | (with_reducible exact KR.out) | (with_reducible refine Keep.drew ?_) | (with_reducible refine Keep.alloc ?_ _) | (with_reducible refine kset_b' hz0.out ?_) | (with_reducible refine kset_b' hz6.out ?_) | (with_reducible refine kset_b' hz8.out ?_) | (with_reducible refine kset_b' hz7.out ?_) | (with_reducible refine kset_b' hy0.out ?_) | (with_reducible refine kset_b' hy6.out ?_) | (with_reducible refine kset_b' hy8.out ?_)))) hK); have hz7 := Lib.hid HK7.out.size; try (have NO7 := blk_keep hK (show _ = some (.cells #[.slice none 0 0, .slice none 0 0, .int .i64 0, .int .i64 0, .slice none 0 0, .int .i64 0, .slice none 0 0, .slice none 0 0, .int .i64 0] 41 (0, 0)) from (by first | (exact NO8) | (exact blk_alloc NO8 _) | (exact blk_new _ _) | (exact blk_alloc (blk_new _ _) _) | (exact (show ((wx.alloc _).drew).heap[wx.heap.size]? = _ from blk_new wx _) ) | (exact (show (((wx.alloc _).alloc _).drew).heap[wx.heap.size]? = _ from blk_alloc (blk_new wx _) _)) | (exact (show (((wx.alloc _).alloc _).drew).heap[(wx.alloc _).heap.size]? = _ from blk_new (wx.alloc _) _)))) trivial; try (simp only [World.size_alloc] at NO7)); try (obtain ⟨n0, n1, n2, n3, n4, n5, n6, n7, n8⟩ := at9 NO7; obtain ⟨f0, f1, f2, f3, f4, f5, f6, f7, f8⟩ := fr9 NO7; have zn := blk_lt NO7); clear hK) | (refine step_append_rus _ rfl (.tmp 9) (.tmp 11) rfl rfl rfl ?_ hl ?_; (refine Rus.keep HS.out (K0.out.trans ?_); go_split_ands; assumption); rintro v8 w8 ⟨a8, c8, rfl, hS8, hK⟩; have S8 := Lib.hid (hS8.mid (fun _ h => h)); have HK8 := Lib.hid (Keep.trans (show Keep Any wx _ from (by repeat (first | (with_reducible exact KX.out) | (with_reducible exact HK7.out) | (with_reducible exact HK8.out) | (with_reducible exact HK6.out) | (with_reducible exact KR.out) | (with_reducible refine Keep.drew ?_) | (with_reducible refine Keep.alloc ?_ _) | (with_reducible refine kset_b' hz0.out ?_) | (with_reducible refine kset_b' hz6.out ?_) | (with_reducible refine kset_b' hz8.out ?_) | (with_reducible refine kset_b' hz7.out ?_) | (with_reducible refine kset_b' hy0.out ?_) | (with_reducible refine kset_b' hy6.out ?_) | (with_reducible refine kset_b' hy8.out ?_)))) hK); have hz8 := Lib.hid HK8.out.size; have hy8 := Lib.hid (Nat.le_succ_of_le HK8.out.size); try (have NO8 := blk_keep hK (show _ = some (.cells #[.slice none 0 0, .slice none 0 0, .int .i64 0, .int .i64 0, .slice none 0 0, .int .i64 0, .slice none 0 0, .slice none 0 0, .int .i64 0] 41 (0, 0)) from (by first | (exact NO6) | (exact blk_alloc NO6 _) | (exact blk_new _ _) | (exact blk_alloc (blk_new _ _) _) | (exact (show ((wx.alloc _).drew).heap[wx.heap.size]? = _ from blk_new wx _) ) | (exact (show (((wx.alloc _).alloc _).drew).heap[wx.heap.size]? = _ from blk_alloc (blk_new wx _) _)) | (exact (show (((wx.alloc _).alloc _).drew).heap[(wx.alloc _).heap.size]? = _ from blk_new (wx.alloc _) _)))) trivial; try (simp only [World.size_alloc] at NO8)); clear hS8 hK))) | fail
    all_goals
      go_wp2
      go_meet
      have q6 := HK6.out.size
      have q8 := HK8.out.size
      have q7 := HK7.out.size
      have q78 := K78.out.size
      try (have q9 := blk_lt NO6)
      first
      | (have hO := NO7
         refine ⟨_, a8, c8, a7, rfl, (by rw [set9 hO]), ?_, SSl.mono (SRus.keep S7.out ?_) (fun k h => ?_), ?_⟩
         case' refine_1 => clear hO; omega
         case' refine_2 => repeat (first | (with_reducible exact Keep.refl _ _) | (with_reducible refine kset_x (fun h => by (have h1 := h.1; have h2 := h.2; try simp only [World.size_alloc] at h1); omega) ?_))
         case' refine_3 =>
           have h1 := h.1
           have h2 := h.2
           try simp only [World.size_alloc] at h1
           exact ⟨by omega, by omega⟩
         case' refine_4 => repeat (first | (with_reducible exact KX.out) | (with_reducible exact HK7.out) | (with_reducible exact HK8.out) | (with_reducible exact HK6.out) | (with_reducible exact KR.out) | (with_reducible refine Keep.drew ?_) | (with_reducible refine Keep.alloc ?_ _) | (with_reducible refine kset_b' hz0.out ?_) | (with_reducible refine kset_b' hz6.out ?_) | (with_reducible refine kset_b' hz8.out ?_) | (with_reducible refine kset_b' hz7.out ?_) | (with_reducible refine kset_b' hy0.out ?_) | (with_reducible refine kset_b' hy6.out ?_) | (with_reducible refine kset_b' hy8.out ?_)))
      | (fail_if_success (have hO := NO7)
         exact ⟨_, a8, c8, a7, rfl, blk_new _ _, q7, SSl.mono (SRus.keep S7.out ((Keep.refl _ _).alloc _)) (fun k h => by (have h1 := h.1; have h2 := h.2; try simp only [World.size_alloc] at h1); exact ⟨by omega, by omega⟩), HK7.out.alloc _⟩)

  case rest =>
    obtain ⟨O, a', c', d, rfl, hO, hOx, hS, hK⟩ := hcut
    have KC := Lib.hid (K0.out.trans hK)
    have BC := Lib.hid (blk_keep hK B0.out trivial)
    have RC := Lib.hid (blk_keep hK R0.out trivial)
    have OC := Lib.hid hO
    have SC := Lib.hid hS
    have zw := K0.out.size
    have hsx := blk_lt R0.out
    have HOw := Lib.hid (show w.heap.size + 1 < O by omega)
    obtain ⟨x0, x1, x2, x3, x4, x5, x6, x7, x8⟩ := at9 BC.out
    have zb := blk_lt BC.out
    clear hO hK hS
    go_wp2
    go_loopg [4] 1 (fun g x wr => x = .int .i64 0 ∧ g = 1 ∧ wc = wr)
    case atStart => exact ⟨rfl, rfl, rfl⟩
    case round =>
      obtain ⟨rfl, hg, rfl⟩ := hrel
      obtain ⟨n0, n1, n2, n3, n4, n5, n6, n7, n8⟩ := at9 OC.out
      obtain ⟨r0, r1, r2, r3, r4, r5, r6, r7, r8⟩ := at9 RC.out
      obtain ⟨f0, f1, f2, f3, f4, f5, f6, f7, f8⟩ := fr9 RC.out
      have zr := blk_lt RC.out
      have hb : w.heap.size + 1 < wx.heap.size := hsx
      go_wp2
      refine bodyPost_ret (v := .agg #[.slice none 0 0, .slice none 0 0, .int .i64 0, .int .i64 0, .slice a' l.length c', .int .i64 0, .slice d 0 0, .slice none 0 0, .int .i64 0]) (by simp [results, Tryz.results20, go_sem, r0, r1, r2, r3, r4, r5, r6, r7, r8, f0, f1, f2, f3, f4, f5, f6, f7, f8, zr]) rfl ⟨_, _, rfl, ?_, ?_⟩
      · refine SRus.mid (ok := fun k => wx.heap.size ≤ k) (n := w.heap.size) (SRus.keep (SSl.mono SC.out (fun k h => h.1)) ?_) (fun k h => Nat.le_trans (Nat.le_of_lt (Nat.lt_of_succ_lt hb)) h)
        repeat (first | (with_reducible exact Keep.refl _ _) | (with_reducible refine kset_o' hb ?_))
      · have hz := Nat.le_succ w.heap.size
        repeat (first | (with_reducible exact KC.out) | (with_reducible refine kset_b' hz ?_))
end Go.Proofs.YtngghnakbhoiaaaGreatDoor

/- Homes (a name, a store with rules) and links to which nobody talked, of one's own; a new link. -/
namespace Go.Proofs.YtngghnakbhoiaaaGreatDoor
open Go.RowKit
set_option linter.unusedVariables false
set_option linter.unusedSimpArgs false
abbrev Hm := ByteArray × List Ru
def SHo (w : World) (ok : Nat → Prop) (h : Hm) (cs : List Value) : Prop := ∃ (rs : Value) (d : Option Addr), cs = [.string h.1, .slice none 0 0, .slice none 0 0, .int .i64 0, .int .i64 0, rs, .int .i64 0, .slice d 0 0, .slice none 0 0, .int .i64 0] ∧ Fits h.1 ∧ SRus w ok rs h.2
theorem SHo.keep {w w' : World} {ok : Nat → Prop} {h : Hm} {cs : List Value} (x : SHo w ok h cs) (k : Keep ok w w') : SHo w' ok h cs := by
  obtain ⟨rs, d, h1, h2, h3⟩ := x; exact ⟨rs, d, h1, h2, h3.keep k⟩
theorem SHo.len {w : World} {ok : Nat → Prop} {h : Hm} {cs : List Value} (x : SHo w ok h cs) : cs.length = 10 := by obtain ⟨rs, d, rfl, _⟩ := x; rfl
abbrev SHos (w : World) (ok : Nat → Prop) (v : Value) (l : List Hm) : Prop := SSl 10 SHo w ok v l
def lkCells : List Value := [.int .i64 0, .int .i64 (-1), .slice none 0 0, .slice none 0 0, .int .i64 0, .int .i64 (-1), .string ⟨#[]⟩]
def SLk (_ : World) (_ : Nat → Prop) (_ : Unit) (cs : List Value) : Prop := cs = lkCells
theorem SLk.keep {w w' : World} {ok : Nat → Prop} {h : Unit} {cs : List Value} (x : SLk w ok h cs) (_ : Keep ok w w') : SLk w' ok h cs := x
abbrev SLks (w : World) (ok : Nat → Prop) (v : Value) (l : List Unit) : Prop := SSl 7 SLk w ok v l
theorem infoHo : (Tryz.prog.info? 46).map (fun i => (i.zero, i.size, i.bytes)) = some (some (.agg #[.string ⟨#[]⟩, .slice none 0 0, .slice none 0 0, .int .i64 0, .int .i64 0, .slice none 0 0, .int .i64 0, .slice none 0 0, .slice none 0 0, .int .i64 0]), 10, 168) := by kernel_rfl
theorem infoLk : (Tryz.prog.info? 62).map (fun i => (i.zero, i.size, i.bytes)) = some (some (.agg #[.int .i64 0, .int .i64 0, .slice none 0 0, .slice none 0 0, .int .i64 0, .int .i64 0, .string ⟨#[]⟩]), 7, 96) := by kernel_rfl
section
variable {α : Type} {sz : Nat} {R : World → (Nat → Prop) → α → List Value → Prop} {w : World} {base top : Nat} {T : TypeId} {v : Value} {l : List α} {css : List (List Value)}
theorem SRow.top_le' (h : SRow sz R w base top T v l css) : base ≤ top ∧ top ≤ w.heap.size := by
  obtain ⟨g, h1, h2, h3, h4, h5, h6, h7, h8, h9⟩ := h; exact ⟨h7, h8⟩
theorem SRow.form' (h : SRow sz R w base top T v l css) : ∃ a c, v = .slice a l.length c ∧ (a = none → l.length = 0 ∧ c = 0) := by
  rcases h.own.2 with ⟨rfl, h0⟩ | ⟨g, cap, cur, rfl, _⟩
  · exact ⟨none, 0, by rw [h0], fun _ => ⟨h0, rfl⟩⟩
  · exact ⟨_, cap, rfl, fun h => by cases h⟩
/-- a store below the row's blocks leaves it -/
theorem SRow.setc {b o : Nat} {u : Value} (hk : ∀ {w w' ok x cs}, R w ok x cs → Keep ok w w' → R w' ok x cs) (h : SRow sz R w base top T v l css) (hb : b < base) : SRow sz R (w.setCell ⟨b, o, none⟩ u) base top T v l css := by
  obtain ⟨g, h1, h2, h3, h4, h5, h6, h7, h8, h9⟩ := h
  refine ⟨g, h1, h2.kept (row := some b) ⟨rfl, rfl, rfl, by simp, fun k hk hn => Below.heap_setCell w ⟨b, o, none⟩ u k (fun e => hn (by rw [e]))⟩ ?_, h3, fun j x cs hx hc => hk (h4 j x cs hx hc) ((Keep.refl _ _).set _ _ fun _ hk => by have := (h5 j b hk).1; omega), h5, h6, h7, by simpa using h8, h9⟩
  cases hv : v.ownBlock with
  | none => exact .inl rfl
  | some k => exact .inr fun e => by cases e; have := (h2.lt _ hv).1; omega
end
theorem new_cells' (w : World) (cs : List Value) (T : TypeId) {b : Nat} (hb : b = w.heap.size) : ∀ j u, cs[j]? = some u → (w.alloc (.cells cs.toArray T)).cell? ((⟨b, 0, none⟩ : Addr).add j) = some u := by
  subst hb
  intro j u hu
  have e : (⟨w.heap.size, 0, none⟩ : Addr).add j = ⟨w.heap.size, j, none⟩ := by unfold Addr.add; split <;> simp_all
  rw [e, blk_cell (blk_new _ _)]
  simpa using hu
def LkR (w : World) (e : Ending) (w' : World) : Prop := e = .returned (.agg lkCells.toArray) ∧ Keep Any w w'
theorem talkNew_calls (w : World) : Calls Tryz.prog 35 #[] w fun e w' => e = .returned (.agg #[.int .i64 0, .int .i64 (-1), .slice none 0 0, .slice none 0 0, .int .i64 0]) ∧ Keep Any w w' := by
  go_enter Tryz.func35, Tryz.ntmps35
  go_wp2
  refine bodyPost_ret (v := .agg #[.int .i64 0, .int .i64 (-1), .slice none 0 0, .slice none 0 0, .int .i64 0]) (by simp [results, Tryz.results35, go_sem]) rfl ⟨rfl, ?_⟩
  have hz := Nat.le_refl w.heap.size
  repeat (first | (with_reducible exact Keep.refl _ _) | (with_reducible refine Keep.alloc ?_ _) | (with_reducible refine kset_b' hz ?_))
theorem linkNew_calls (w : World) : Calls Tryz.prog 16 #[] w (LkR w) := by
  have TN := Lib.hid (fun w => talkNew_calls w)
  go_enter Tryz.func16, Tryz.ntmps16
  go_wp2_with fail
  refine (TN.out _).mono ?_
  rintro e w2 ⟨rfl, hK⟩
  have K2 := Lib.hid (((Keep.refl Any w).alloc _).trans hK)
  have B2 := Lib.hid (blk_keep hK (blk_new _ _) trivial)
  clear hK
  have r0 := (blk_cell B2.out 0).trans rfl
  have r1 := (blk_cell B2.out 1).trans rfl
  have r2 := (blk_cell B2.out 2).trans rfl
  have r3 := (blk_cell B2.out 3).trans rfl
  have r4 := (blk_cell B2.out 4).trans rfl
  have r5 := (blk_cell B2.out 5).trans rfl
  have r6 := (blk_cell B2.out 6).trans rfl
  have f0 := blk_frozen B2.out 0
  have f1 := blk_frozen B2.out 1
  have f2 := blk_frozen B2.out 2
  have f3 := blk_frozen B2.out 3
  have f4 := blk_frozen B2.out 4
  have f5 := blk_frozen B2.out 5
  have f6 := blk_frozen B2.out 6
  have zr := blk_lt B2.out
  go_wp2
  refine bodyPost_ret (v := .agg #[.int .i64 0, .int .i64 (-1), .slice none 0 0, .slice none 0 0, .int .i64 0, .int .i64 (-1), .string ⟨#[]⟩]) (by simp [results, Tryz.results16, go_sem, r0, r1, r2, r3, r4, r5, r6, f0, f1, f2, f3, f4, f5, f6, zr]) rfl ⟨rfl, ?_⟩
  have hz := Nat.le_refl w.heap.size
  repeat (first | (with_reducible exact K2.out) | (with_reducible refine kset_b' hz ?_))
theorem l10New_calls (w : World) : Calls Tryz.prog 22 #[] w (LkR w) := by
  go_enter Tryz.func22, Tryz.ntmps22
  go_wp2
  refine bodyPost_ret (v := .agg #[.int .i64 0, .int .i64 (-1), .slice none 0 0, .slice none 0 0, .int .i64 0, .int .i64 (-1), .string ⟨#[]⟩]) (by simp [results, Tryz.results22, go_sem]) rfl ⟨rfl, ?_⟩
  have hz := Nat.le_refl w.heap.size
  repeat (first | (with_reducible exact Keep.refl _ _) | (with_reducible refine Keep.alloc ?_ _) | (with_reducible refine kset_b' hz ?_))
end Go.Proofs.YtngghnakbhoiaaaGreatDoor

/- How expressions lie in memory; an element of any slice, its cells as a walk reads them. No condition. -/
namespace Go.Proofs.YtngghnakbhoiaaaGreatDoor
open Go.RowKit
set_option linter.unusedVariables false

/-- The j-th of a slice: its cells. -/
theorem Sl.at {α : Type} {sz : Nat} {R : α → List Value → Prop} {w w' : World} {ok : Nat → Prop} {a : Option Addr} {n c : Nat} {l : List α} (h : Sl sz R w ok (.slice a n c) l) (k : Keep ok w w') {j : Nat} {x : α} (hx : l[j]? = some x) :
    ∃ ad cs, a = some ad ∧ ok ad.block ∧ R x cs ∧ cs.length = sz ∧ (∀ u, cs[0]? = some u → w'.cell? (ad.add (j * sz)) = some u) ∧
      ∀ i u, 0 < i → cs[i]? = some u → w'.cell? ⟨(ad.add (j * sz)).block, (ad.add (j * sz)).off + i, none⟩ = some u := by
  obtain ⟨a', c', e, h1, h2, h3⟩ := h
  cases e
  obtain ⟨ad, rfl, hb, hf⟩ := h3 (fun e => by rw [e] at hx; cases hx)
  obtain ⟨cs, hv, hl, hc⟩ := hf j x hx
  have hc' := hc.keep k hb
  exact ⟨ad, cs, rfl, hb, hv, hl, fun u hu => hc' 0 u hu, fun i u hi hu => by rw [← add_field _ _ i hi]; exact hc' i u hu⟩

structure Ex where
  kind : Int
  val : V
  name : ByteArray
  key : ByteArray
  parts : List Ex
inductive ER (w : World) (ok : Nat → Prop) : Ex → List Value → Prop where
  | mk (e : Ex) (va : Option Addr) (vc : Nat) (a : Option Addr) (c : Nat) (ad : Addr) (f : Nat → List Value) (h1 : I64 e.kind)
      (hv : VR w ok e.val [.int .i64 e.val.kind, .int .i64 e.val.num, .string e.val.text, .slice va e.val.list.length vc]) (h3 : Fits e.name) (h4 : Fits e.key) (hc : e.parts.length ≤ c) (hm : c ≤ 9223372036854775807)
      (ha : e.parts ≠ [] → a = some ad) (ho : e.parts ≠ [] → ok ad.block) (hr : ∀ j x, e.parts[j]? = some x → ER w ok x (f j)) (hcell : ∀ j x, e.parts[j]? = some x → Cells w ad (j * 8) (f j)) :
      ER w ok e [.int .i64 e.kind, .int .i64 e.val.kind, .int .i64 e.val.num, .string e.val.text, .slice va e.val.list.length vc, .string e.name, .string e.key, .slice a e.parts.length c]
theorem ER.len {w : World} {ok : Nat → Prop} {e : Ex} {cs : List Value} (h : ER w ok e cs) : cs.length = 8 := by cases h; rfl
theorem ER.keep {w w' : World} {ok : Nat → Prop} {e : Ex} {cs : List Value} (h : ER w ok e cs) (k : Keep ok w w') : ER w' ok e cs := by
  induction h with
  | mk e va vc a c ad f h1 hv h3 h4 hc hm ha ho hr hcell ih =>
    exact .mk e va vc a c ad f h1 (hv.keep k) h3 h4 hc hm ha ho ih fun j x hx => (hcell j x hx).keep k (ho (fun e => by rw [e] at hx; cases hx))
theorem ER.mono {w : World} {ok ok' : Nat → Prop} {e : Ex} {cs : List Value} (h : ER w ok e cs) (k : ∀ k, k < w.heap.size → ok k → ok' k) : ER w ok' e cs := by
  induction h with
  | mk e va vc a c ad f h1 hv h3 h4 hc hm ha ho hr hcell ih =>
    refine .mk e va vc a c ad f h1 (hv.mono k) h3 h4 hc hm ha (fun hn => k _ ?_ (ho hn)) ih hcell
    obtain ⟨x, r, hcons⟩ := List.exists_cons_of_ne_nil hn
    have hx : e.parts[0]? = some x := by rw [hcons]; rfl
    have hl := (hr 0 x hx).len
    have := World.block_lt_of_cell? w _ (hcell 0 x hx 0 _ (List.getElem?_eq_getElem (by omega)))
    rwa [add_block] at this
abbrev Exs (w : World) (ok : Nat → Prop) (v : Value) (l : List Ex) : Prop := Sl 8 (ER w ok) w ok v l
theorem Exs.keep {w w' : World} {ok : Nat → Prop} {v : Value} {l : List Ex} (h : Exs w ok v l) (k : Keep ok w w') : Exs w' ok v l := Sl.keep h (fun _ _ _ h => h.keep k) k
theorem Exs.mono {w : World} {ok ok' : Nat → Prop} {v : Value} {l : List Ex} (h : Exs w ok v l) (k : ∀ k, k < w.heap.size → ok k → ok' k) : Exs w ok' v l := Sl.mono h (fun _ _ _ h => h.mono k) k (by decide)
/-- An expression's cells, told as those of any struct. -/
theorem ER.iff {w : World} {ok : Nat → Prop} {e : Ex} {cs : List Value} : ER w ok e cs ↔ ∃ va vc s, cs = [.int .i64 e.kind, .int .i64 e.val.kind, .int .i64 e.val.num, .string e.val.text, .slice va e.val.list.length vc, .string e.name, .string e.key, s] ∧
    I64 e.kind ∧ VR w ok e.val [.int .i64 e.val.kind, .int .i64 e.val.num, .string e.val.text, .slice va e.val.list.length vc] ∧ Fits e.name ∧ Fits e.key ∧ Exs w ok s e.parts := by
  constructor
  · rintro ⟨_, va, vc, a, c, ad, f, h1, hv, h3, h4, hc, hm, ha, ho, hr, hcell⟩
    exact ⟨va, vc, _, rfl, h1, hv, h3, h4, a, c, rfl, hc, hm, fun hn => ⟨ad, ha hn, ho hn, fun j x hx => ⟨f j, hr j x hx, (hr j x hx).len, hcell j x hx⟩⟩⟩
  · rintro ⟨va, vc, s, rfl, h1, hv, h3, h4, a, c, rfl, hc, hm, h⟩
    by_cases hn : e.parts = []
    · exact .mk e va vc a c ⟨0, 0, none⟩ (fun _ => []) h1 hv h3 h4 hc hm (fun h => absurd hn h) (fun h => absurd hn h) (fun j x hx => by rw [hn] at hx; cases hx) (fun j x hx => by rw [hn] at hx; cases hx)
    · obtain ⟨ad, rfl, ho, hf⟩ := h hn
      have hf' : ∀ j, ∃ cs, ∀ x, e.parts[j]? = some x → ER w ok x cs ∧ Cells w ad (j * 8) cs := fun j => by
        cases hx : e.parts[j]? with
        | none => exact ⟨[], fun x h => by cases h⟩
        | some x => obtain ⟨cs, h, _, h'⟩ := hf j x hx; exact ⟨cs, fun y hy => by cases hy; exact ⟨h, h'⟩⟩
      exact .mk e va vc _ c ad (fun j => (hf' j).choose) h1 hv h3 h4 hc hm (fun _ => rfl) (fun _ => ho) (fun j x hx => ((hf' j).choose_spec x hx).1) (fun j x hx => ((hf' j).choose_spec x hx).2)
/-- The j-th expression of a slice, and its cells. -/
theorem exs_at {w w' : World} {ok : Nat → Prop} {a : Option Addr} {n c : Nat} {l : List Ex} (h : Exs w ok (.slice a n c) l) (k : Keep ok w w') {j : Nat} {x : Ex} (hx : l[j]? = some x) :
    ∃ ad va vc pa pc, a = some ad ∧ ER w' ok x [.int .i64 x.kind, .int .i64 x.val.kind, .int .i64 x.val.num, .string x.val.text, .slice va x.val.list.length vc, .string x.name, .string x.key, .slice pa x.parts.length pc] ∧
      w'.cell? (ad.add (j * 8)) = some (.int .i64 x.kind) ∧ w'.cell? ⟨(ad.add (j * 8)).block, (ad.add (j * 8)).off + 1, none⟩ = some (.int .i64 x.val.kind) ∧ w'.cell? ⟨(ad.add (j * 8)).block, (ad.add (j * 8)).off + 2, none⟩ = some (.int .i64 x.val.num) ∧
      w'.cell? ⟨(ad.add (j * 8)).block, (ad.add (j * 8)).off + 3, none⟩ = some (.string x.val.text) ∧ w'.cell? ⟨(ad.add (j * 8)).block, (ad.add (j * 8)).off + 4, none⟩ = some (.slice va x.val.list.length vc) ∧
      w'.cell? ⟨(ad.add (j * 8)).block, (ad.add (j * 8)).off + 5, none⟩ = some (.string x.name) ∧ w'.cell? ⟨(ad.add (j * 8)).block, (ad.add (j * 8)).off + 6, none⟩ = some (.string x.key) ∧ w'.cell? ⟨(ad.add (j * 8)).block, (ad.add (j * 8)).off + 7, none⟩ = some (.slice pa x.parts.length pc) := by
  obtain ⟨ad, cs, rfl, _, hr, _, h0, hi⟩ := Sl.at h k hx
  obtain ⟨va, vc, s, rfl, _, _, _, _, pa, pc, rfl, _⟩ := ER.iff.1 hr
  exact ⟨ad, va, vc, pa, pc, rfl, hr.keep k, h0 _ rfl, hi 1 _ (by decide) rfl, hi 2 _ (by decide) rfl, hi 3 _ (by decide) rfl, hi 4 _ (by decide) rfl, hi 5 _ (by decide) rfl, hi 6 _ (by decide) rfl, hi 7 _ (by decide) rfl⟩
/-! which are well made: as many parts as the kind has, texts of bounded size -/
def ar (k : Int) : Nat := if k = 9 ∨ k = 11 ∨ k = 13 ∨ k = 15 then 1 else if k = 5 ∨ k = 6 ∨ k = 7 ∨ k = 8 ∨ k = 10 ∨ k = 12 then 2 else 0
def Wf : Nat → Ex → Prop
  | 0, _ => False
  | d + 1, e => okV 3 e.val = true ∧ e.name.size ≤ 100 ∧ e.key.size ≤ 100 ∧ 1 ≤ e.kind ∧ e.kind ≤ 15 ∧ e.parts.length = ar e.kind ∧ ∀ x, x ∈ e.parts → Wf d x
theorem Wf.up {d : Nat} : ∀ {d' : Nat} {e : Ex}, d ≤ d' → Wf d e → Wf d' e := by
  induction d with
  | zero => intro d' e _ h; exact h.elim
  | succ d ih =>
    intro d' e hd h
    obtain ⟨d', rfl⟩ : ∃ x, d' = x + 1 := ⟨d' - 1, by omega⟩
    exact ⟨h.1, h.2.1, h.2.2.1, h.2.2.2.1, h.2.2.2.2.1, h.2.2.2.2.2.1, fun x hx => ih (by omega) (h.2.2.2.2.2.2 x hx)⟩
end Go.Proofs.YtngghnakbhoiaaaGreatDoor

/- Homes and links of a server that has nothing in it, their parts wherever. No condition. -/
namespace Go.Proofs.YtngghnakbhoiaaaGreatDoor
open Go.RowKit
set_option linter.unusedVariables false
set_option linter.unusedSimpArgs false
theorem Sl.nil' {α : Type} {sz : Nat} {R : α → List Value → Prop} {w : World} {ok : Nat → Prop} (a : Option Addr) : Sl sz R w ok (.slice a 0 0) ([] : List α) := ⟨a, 0, rfl, Nat.le_refl _, by decide, fun h => absurd rfl h⟩
/-- homes, their parts wherever -/
def HoR (w : World) (h : Hm) (cs : List Value) : Prop := ∃ (a1 d1 : Option Addr) (c1 : Nat), cs = [.string h.1, .slice none 0 0, .slice none 0 0, .int .i64 0, .int .i64 0, .slice a1 h.2.length c1, .int .i64 0, .slice d1 0 0, .slice none 0 0, .int .i64 0] ∧ Fits h.1 ∧ Rus w Any (.slice a1 h.2.length c1) h.2
abbrev Hos (w : World) (v : Value) (l : List Hm) : Prop := Sl 10 (HoR w) w Any v l
theorem SHos.hos {w : World} {ok : Nat → Prop} {v : Value} {l : List Hm} (h : SHos w ok v l) : Hos w v l := Sl.mono (SSl.sl (R' := HoR w) h fun g x cs _ hg h => by
  obtain ⟨rs, d, rfl, h1, h2⟩ := h
  obtain ⟨a1, c1, e, _⟩ := id h2
  subst e
  exact ⟨a1, d, c1, rfl, h1, Sl.mono (SRus.rus h2) (fun _ _ _ h => h) (fun _ _ _ => trivial) (by decide)⟩) (fun _ _ _ h => h) (fun _ _ _ => trivial) (by decide)
theorem Hos.keep {w w' : World} {v : Value} {l : List Hm} (h : Hos w v l) (k : Keep Any w w') : Hos w' v l := Sl.keep h (fun _ _ _ h => by obtain ⟨a1, d, c1, h1, h2, h3⟩ := h; exact ⟨a1, d, c1, h1, h2, h3.keep k⟩) k
theorem hos_at {w w' : World} {a : Option Addr} {n c : Nat} {l : List Hm} (h : Hos w (.slice a n c) l) (k : Keep Any w w') {j : Nat} {x : Hm} (hx : l[j]? = some x) :
    ∃ ad a1 d1 c1, a = some ad ∧ Fits x.1 ∧ Rus w' Any (.slice a1 x.2.length c1) x.2 ∧ w'.cell? (ad.add (j * 10)) = some (.string x.1) ∧ w'.cell? ⟨(ad.add (j * 10)).block, (ad.add (j * 10)).off + 1, none⟩ = some (.slice none 0 0) ∧ w'.cell? ⟨(ad.add (j * 10)).block, (ad.add (j * 10)).off + 2, none⟩ = some (.slice none 0 0) ∧ w'.cell? ⟨(ad.add (j * 10)).block, (ad.add (j * 10)).off + 3, none⟩ = some (.int .i64 0) ∧ w'.cell? ⟨(ad.add (j * 10)).block, (ad.add (j * 10)).off + 4, none⟩ = some (.int .i64 0) ∧ w'.cell? ⟨(ad.add (j * 10)).block, (ad.add (j * 10)).off + 5, none⟩ = some (.slice a1 x.2.length c1) ∧ w'.cell? ⟨(ad.add (j * 10)).block, (ad.add (j * 10)).off + 6, none⟩ = some (.int .i64 0) ∧ w'.cell? ⟨(ad.add (j * 10)).block, (ad.add (j * 10)).off + 7, none⟩ = some (.slice d1 0 0) ∧ w'.cell? ⟨(ad.add (j * 10)).block, (ad.add (j * 10)).off + 8, none⟩ = some (.slice none 0 0) ∧ w'.cell? ⟨(ad.add (j * 10)).block, (ad.add (j * 10)).off + 9, none⟩ = some (.int .i64 0) := by
  obtain ⟨a', c', e, h1, h2, h3⟩ := h
  cases e
  obtain ⟨ad, rfl, hb, hf⟩ := h3 (fun e => by rw [e] at hx; cases hx)
  obtain ⟨cs, ⟨a1, d1, c1, rfl, hF, hG⟩, _, hc⟩ := hf j x hx
  have h0 := (hc.keep k hb) 0 _ rfl
  refine ⟨ad, a1, d1, c1, rfl, hF, hG.keep k, by simpa using h0, ?_, ?_, ?_, ?_, ?_, ?_, ?_, ?_, ?_⟩
  all_goals first | (have h1 := (hc.keep k hb) 1 _ rfl; rw [add_field _ _ _ (by decide)] at h1; exact h1) | (have h1 := (hc.keep k hb) 2 _ rfl; rw [add_field _ _ _ (by decide)] at h1; exact h1) | (have h1 := (hc.keep k hb) 3 _ rfl; rw [add_field _ _ _ (by decide)] at h1; exact h1) | (have h1 := (hc.keep k hb) 4 _ rfl; rw [add_field _ _ _ (by decide)] at h1; exact h1) | (have h1 := (hc.keep k hb) 5 _ rfl; rw [add_field _ _ _ (by decide)] at h1; exact h1) | (have h1 := (hc.keep k hb) 6 _ rfl; rw [add_field _ _ _ (by decide)] at h1; exact h1) | (have h1 := (hc.keep k hb) 7 _ rfl; rw [add_field _ _ _ (by decide)] at h1; exact h1) | (have h1 := (hc.keep k hb) 8 _ rfl; rw [add_field _ _ _ (by decide)] at h1; exact h1) | (have h1 := (hc.keep k hb) 9 _ rfl; rw [add_field _ _ _ (by decide)] at h1; exact h1)
/-- links to which nobody talked -/
abbrev Lks (w : World) (v : Value) (l : List Unit) : Prop := Sl 7 (fun _ cs => cs = lkCells) w Any v l
theorem SLks.lks {w : World} {ok : Nat → Prop} {v : Value} {l : List Unit} (h : SLks w ok v l) : Lks w v l := Sl.mono (SSl.sl (R' := fun _ cs => cs = lkCells) h fun g x cs _ hg h => h) (fun _ _ _ h => h) (fun _ _ _ => trivial) (by decide)
theorem Lks.keep {w w' : World} {v : Value} {l : List Unit} (h : Lks w v l) (k : Keep Any w w') : Lks w' v l := Sl.keep h (fun _ _ _ h => h) k
theorem lks_at {w w' : World} {a : Option Addr} {n c : Nat} {l : List Unit} (h : Lks w (.slice a n c) l) (k : Keep Any w w') {j : Nat} (hx : j < l.length) :
    ∃ ad, a = some ad ∧ w'.cell? (ad.add (j * 7)) = some (.int .i64 0) ∧ w'.cell? ⟨(ad.add (j * 7)).block, (ad.add (j * 7)).off + 1, none⟩ = some (.int .i64 (-1)) ∧ w'.cell? ⟨(ad.add (j * 7)).block, (ad.add (j * 7)).off + 2, none⟩ = some (.slice none 0 0) ∧ w'.cell? ⟨(ad.add (j * 7)).block, (ad.add (j * 7)).off + 3, none⟩ = some (.slice none 0 0) ∧ w'.cell? ⟨(ad.add (j * 7)).block, (ad.add (j * 7)).off + 4, none⟩ = some (.int .i64 0) ∧ w'.cell? ⟨(ad.add (j * 7)).block, (ad.add (j * 7)).off + 5, none⟩ = some (.int .i64 (-1)) ∧ w'.cell? ⟨(ad.add (j * 7)).block, (ad.add (j * 7)).off + 6, none⟩ = some (.string ⟨#[]⟩) := by
  obtain ⟨a', c', e, h1, h2, h3⟩ := h
  cases e
  obtain ⟨ad, rfl, hb, hf⟩ := h3 (fun e => by rw [e] at hx; simp at hx)
  obtain ⟨cs, rfl, _, hc⟩ := hf j _ (List.getElem?_eq_getElem hx)
  have h0 := (hc.keep k hb) 0 _ rfl
  refine ⟨ad, rfl, by simpa using h0, ?_, ?_, ?_, ?_, ?_, ?_⟩
  all_goals first | (have h1 := (hc.keep k hb) 1 _ rfl; rw [add_field _ _ _ (by decide)] at h1; exact h1) | (have h1 := (hc.keep k hb) 2 _ rfl; rw [add_field _ _ _ (by decide)] at h1; exact h1) | (have h1 := (hc.keep k hb) 3 _ rfl; rw [add_field _ _ _ (by decide)] at h1; exact h1) | (have h1 := (hc.keep k hb) 4 _ rfl; rw [add_field _ _ _ (by decide)] at h1; exact h1) | (have h1 := (hc.keep k hb) 5 _ rfl; rw [add_field _ _ _ (by decide)] at h1; exact h1) | (have h1 := (hc.keep k hb) 6 _ rfl; rw [add_field _ _ _ (by decide)] at h1; exact h1)
end Go.Proofs.YtngghnakbhoiaaaGreatDoor

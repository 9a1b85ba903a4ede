/- The program's StoreOk of a store that has nothing in it but good rules: yes. What the program's FrameGet computes. For every text of at most 2^62 bytes. A slice that a call makes and fills, place by place. No condition. -/
import Derived.Test.YtngghnakbhoiaaaGreatDoorMLawSvBegin3
import Derived.Test.YtngghnakbhoiaaaGreatDoorMLawSvBegin6
import Derived.Deep.RegionHeld3
import Derived.Laws.EntriesVeiled
import Derived.Test.YtngghnakbhoiaaaGreatDoorMLawSvBegin0
import Derived.Laws.OwnMore
/- The program's StoreOk of a store that has nothing in it but good rules: yes. -/
namespace Go.Proofs.YtngghnakbhoiaaaGreatDoor
open Go.RowKit
set_option linter.unusedVariables false
set_option linter.unusedSimpArgs false
theorem nodesOf_nil (w : World) : Calls Tryz.prog 84 #[.agg #[.slice none 0 0, .slice none 0 0, .int .i64 0, .int .i64 0]] w fun e w' => e = .returned (.agg #[.slice none 0 0, .func (.func 104) #[] #[]]) ∧ Keep Any w w' := by
  go_enter Tryz.func84, Tryz.ntmps84
  go_wp2
  refine bodyPost_ret (v := .agg #[.slice none 0 0, .func (.func 104) #[] #[]]) (by simp [results, Tryz.results84, go_sem]) rfl ⟨rfl, ?_⟩
  have hz := Nat.le_refl w.heap.size
  have hz1 : w.heap.size ≤ w.heap.size + 1 := by omega
  repeat (first | (with_reducible exact Keep.refl _ _) | (with_reducible refine Keep.alloc ?_ _) | (with_reducible refine kset_b' hz ?_) | (with_reducible refine kset_b' hz1 ?_))
set_option maxRecDepth 20000 in
theorem ascendNode_nil (m : Int) (w : World) : Calls Tryz.prog 85 #[.agg #[.slice none 0 0, .func (.func 104) #[] #[]], .int .i64 m] w (Tells true w) := by
  have KW := Lib.hid ((Keep.refl Any w).alloc (.cells #[.slice none 0 0, .func (.func 104) #[] #[]] 148 (0, 0)))
  go_enter Tryz.func85, Tryz.ntmps85
  go_wp2
  go_loopg [12] 1 (fun g i wr => i = .int .i64 0 ∧ g = 1 ∧ Keep Any w wr)
  case atStart => exact ⟨rfl, rfl, KW.out⟩
  case round =>
    obtain ⟨rfl, hg, hK⟩ := hrel
    go_wp2
    go_ret
    exact ⟨rfl, hK⟩
set_option maxRecDepth 20000 in
theorem equalNode_nil (f : Value) (w : World) : Calls Tryz.prog 96 #[.slice none 0 0, .slice none 0 0, f] w (Tells true w) := by
  go_enter Tryz.func96, Tryz.ntmps96
  go_wp2
  go_loopg [17] 1 (fun g i wr => i = .int .i64 0 ∧ g = 1 ∧ w = wr)
  case atStart => exact ⟨rfl, rfl, rfl⟩
  case round =>
    obtain ⟨rfl, hg, rfl⟩ := hrel
    go_wp2
    go_ret
    exact ⟨rfl, Keep.refl _ _⟩
theorem edgesIn_nil (w : World) : Calls Tryz.prog 86 #[.agg #[.slice none 0 0, .slice none 0 0, .int .i64 0, .int .i64 0]] w fun e w' => e = .returned (.agg #[.slice none 0 0, .func (.func 105) #[] #[]]) ∧ Keep Any w w' := by
  go_enter Tryz.func86, Tryz.ntmps86
  go_wp2
  refine bodyPost_ret (v := .agg #[.slice none 0 0, .func (.func 105) #[] #[]]) (by simp [results, Tryz.results86, go_sem]) rfl ⟨rfl, ?_⟩
  have hz := Nat.le_refl w.heap.size
  have hz1 : w.heap.size ≤ w.heap.size + 1 := by omega
  repeat (first | (with_reducible exact Keep.refl _ _) | (with_reducible refine Keep.alloc ?_ _) | (with_reducible refine kset_b' hz ?_) | (with_reducible refine kset_b' hz1 ?_))
set_option maxRecDepth 20000 in
theorem ascendEdge_nil (m : Int) (w : World) : Calls Tryz.prog 87 #[.agg #[.slice none 0 0, .func (.func 105) #[] #[]], .int .i64 m] w (Tells true w) := by
  have KW := Lib.hid ((Keep.refl Any w).alloc (.cells #[.slice none 0 0, .func (.func 105) #[] #[]] 153 (0, 0)))
  go_enter Tryz.func87, Tryz.ntmps87
  go_wp2
  go_loopg [12] 1 (fun g i wr => i = .int .i64 0 ∧ g = 1 ∧ Keep Any w wr)
  case atStart => exact ⟨rfl, rfl, KW.out⟩
  case round =>
    obtain ⟨rfl, hg, hK⟩ := hrel
    go_wp2
    go_ret
    exact ⟨rfl, hK⟩
set_option maxRecDepth 20000 in
theorem equalEdge_nil (f : Value) (w : World) : Calls Tryz.prog 100 #[.slice none 0 0, .slice none 0 0, f] w (Tells true w) := by
  go_enter Tryz.func100, Tryz.ntmps100
  go_wp2
  go_loopg [17] 1 (fun g i wr => i = .int .i64 0 ∧ g = 1 ∧ w = wr)
  case atStart => exact ⟨rfl, rfl, rfl⟩
  case round =>
    obtain ⟨rfl, hg, rfl⟩ := hrel
    go_wp2
    go_ret
    exact ⟨rfl, Keep.refl _ _⟩
set_option maxRecDepth 20000 in
set_option maxHeartbeats 4000000 in
theorem graphOk_nil (w : World) : Calls Tryz.prog 73 #[.agg #[.slice none 0 0, .slice none 0 0, .int .i64 0, .int .i64 0]] w (Tells true w) := by
  have KW := Lib.hid ((Keep.refl Any w).alloc (.cells #[.slice none 0 0, .slice none 0 0, .int .i64 0, .int .i64 0] 37 (0, 0)))
  have BX := Lib.hid (blk_new w (.cells #[.slice none 0 0, .slice none 0 0, .int .i64 0, .int .i64 0] 37 (0, 0)))
  have x0 := (blk_cell BX.out 0).trans rfl
  have x1 := (blk_cell BX.out 1).trans rfl
  have x2 := (blk_cell BX.out 2).trans rfl
  have x3 := (blk_cell BX.out 3).trans rfl
  go_enter Tryz.func73, Tryz.ntmps73
  go_wp2_with (go_at_call 84; refine (nodesOf_nil _).mono ?_; rintro e w2 ⟨rfl, hK2⟩; have KW := Lib.hid (KW.out.trans hK2); have BX := Lib.hid (blk_keep hK2 BX.out trivial); have x0 := (blk_cell BX.out 0).trans rfl; have x1 := (blk_cell BX.out 1).trans rfl; have x2 := (blk_cell BX.out 2).trans rfl; have x3 := (blk_cell BX.out 3).trans rfl; clear hK2)
  have K1 := Lib.hid (KW.out.alloc (.cells #[.slice none 0 0, .func (.func 104) #[] #[]] 148 (0, 0)))
  have X1 := Lib.hid (blk_alloc BX.out (.cells #[.slice none 0 0, .func (.func 104) #[] #[]] 148 (0, 0)))
  have Y1 := Lib.hid (blk_new w2 (.cells #[.slice none 0 0, .func (.func 104) #[] #[]] 148 (0, 0)))
  generalize w2.heap.size = W at *
  generalize w2.alloc (.cells #[.slice none 0 0, .func (.func 104) #[] #[]] 148 (0, 0)) = wr at *
  have x0 : wr.cell? ⟨w.heap.size, 0, none⟩ = some (.slice none 0 0) := (blk_cell X1.out 0).trans rfl
  have x1 : wr.cell? ⟨w.heap.size, 1, none⟩ = some (.slice none 0 0) := (blk_cell X1.out 1).trans rfl
  have x2 : wr.cell? ⟨w.heap.size, 2, none⟩ = some (.int .i64 0) := (blk_cell X1.out 2).trans rfl
  have x3 : wr.cell? ⟨w.heap.size, 3, none⟩ = some (.int .i64 0) := (blk_cell X1.out 3).trans rfl
  have y0 : wr.cell? ⟨W, 0, none⟩ = some (.slice none 0 0) := (blk_cell Y1.out 0).trans rfl
  have y1 : wr.cell? ⟨W, 1, none⟩ = some (.func (.func 104) #[] #[]) := (blk_cell Y1.out 1).trans rfl
  have kr : Keep Any wr wr.drew := (Keep.refl _ _).drew
  have SK := Lib.hid (fun w' (h : Keep Any wr w') => (⟨h, h.cell x0 trivial, h.cell x1 trivial, h.cell x2 trivial, h.cell x3 trivial, h.cell y0 trivial, h.cell y1 trivial⟩ : Keep Any wr w' ∧ w'.cell? ⟨w.heap.size, 0, none⟩ = some (.slice none 0 0) ∧ w'.cell? ⟨w.heap.size, 1, none⟩ = some (.slice none 0 0) ∧ w'.cell? ⟨w.heap.size, 2, none⟩ = some (.int .i64 0) ∧ w'.cell? ⟨w.heap.size, 3, none⟩ = some (.int .i64 0) ∧ w'.cell? ⟨W, 0, none⟩ = some (.slice none 0 0) ∧ w'.cell? ⟨W, 1, none⟩ = some (.func (.func 104) #[] #[])))
  go_region_held3 (fun w' => Keep Any wr w' ∧ w'.cell? ⟨w.heap.size, 0, none⟩ = some (.slice none 0 0) ∧ w'.cell? ⟨w.heap.size, 1, none⟩ = some (.slice none 0 0) ∧ w'.cell? ⟨w.heap.size, 2, none⟩ = some (.int .i64 0) ∧ w'.cell? ⟨w.heap.size, 3, none⟩ = some (.int .i64 0) ∧ w'.cell? ⟨W, 0, none⟩ = some (.slice none 0 0) ∧ w'.cell? ⟨W, 1, none⟩ = some (.func (.func 104) #[] #[]))
    (first | (go_split_ands; exact SK.out _ (Keep.trans (by first | assumption | exact Keep.drew (by assumption)) hK5)) | go_keep)
    (first
      | (go_at_call 85; refine (ascendNode_nil _ _).mono ?_; rintro e w5 ⟨rfl, hK5⟩)
      | (go_at_call 86; refine (edgesIn_nil _).mono ?_; rintro e w5 ⟨rfl, hK5⟩)
      | (go_at_call 87; refine (ascendEdge_nil _ _).mono ?_; rintro e w5 ⟨rfl, hK5⟩))
  go_split_ands
  go_wp2
  go_loopg [54] 1 (fun g i wz => i = .int .i64 0 ∧ g = 1 ∧ wz.heap[w.heap.size]? = some (.cells #[.slice none 0 0, .slice none 0 0, .int .i64 0, .int .i64 0] 37 (0, 0)) ∧ Keep Any w wz)
  case atStart =>
    refine ⟨rfl, rfl, ?_, ?_⟩
    · exact blk_keep (by assumption) X1.out trivial
    · exact K1.out.trans (by assumption)
  case round =>
    obtain ⟨rfl, hg, hx, hK⟩ := hrel
    have XL := Lib.hid hx
    have KL := Lib.hid hK
    clear hx hK hg
    have z0 := (blk_cell XL.out 0).trans rfl
    have z1 := (blk_cell XL.out 1).trans rfl
    have z2 := (blk_cell XL.out 2).trans rfl
    have z3 := (blk_cell XL.out 3).trans rfl
    go_wp2
    obtain ⟨wy, hwy⟩ : ∃ wy, wy = wr := ⟨_, rfl⟩
    go_loopg [72] 1 (fun g i wz => i = .int .i64 0 ∧ g = 1 ∧ Keep Any w wz)
    case atStart => exact ⟨rfl, rfl, KL.out⟩
    case round =>
      obtain ⟨rfl, hg, hK⟩ := hrel
      go_wp2
      go_ret
      exact ⟨rfl, hK⟩
set_option maxRecDepth 20000 in
set_option maxHeartbeats 2000000 in
theorem ruleCheck_nil (l : List Ru) (v : Value) (w : World) (hs : Rus w Any v l) : Calls Tryz.prog 74 #[.agg #[.slice none 0 0, .slice none 0 0, .int .i64 0, .int .i64 0], v] w fun e w' => e = .returned .nilIface ∧ Keep Any w w' := by
  have HS := Lib.hid hs
  have LM : l.length ≤ 9223372036854775807 := by obtain ⟨_, _, _, h1, h2, _⟩ := hs; omega
  obtain ⟨a, c, rfl, _, _, _⟩ := hs
  have KW := Lib.hid ((Keep.refl Any w).alloc (.cells #[.slice none 0 0, .slice none 0 0, .int .i64 0, .int .i64 0] 37 (0, 0)))
  have BX := Lib.hid (blk_new w (.cells #[.slice none 0 0, .slice none 0 0, .int .i64 0, .int .i64 0] 37 (0, 0)))
  have x0 := (blk_cell BX.out 0).trans rfl
  have x1 := (blk_cell BX.out 1).trans rfl
  have x2 := (blk_cell BX.out 2).trans rfl
  have x3 := (blk_cell BX.out 3).trans rfl
  have hmm := @run_makeMap Tryz.prog
  go_enter Tryz.func74, Tryz.ntmps74
  go_wp2
  go_loopg [18] (l.length + 1) (fun g i wz => ∃ k : Nat, k ≤ l.length ∧ i = .int .i64 k ∧ g = l.length + 1 - k ∧ wz.heap[w.heap.size]? = some (.cells #[.slice none 0 0, .slice none 0 0, .int .i64 0, .int .i64 0] 37 (0, 0)) ∧ Keep Any w wz)
  case atStart => exact ⟨0, by omega, rfl, rfl, BX.out, KW.out⟩
  case round =>
    obtain ⟨k, hk, rfl, hg, hx, hK⟩ := hrel
    have XL := Lib.hid hx
    have KL := Lib.hid hK
    have HG := Lib.hid hg
    clear hx hK hg
    have z0 := (blk_cell XL.out 0).trans rfl
    have z1 := (blk_cell XL.out 1).trans rfl
    have z2 := (blk_cell XL.out 2).trans rfl
    have z3 := (blk_cell XL.out 3).trans rfl
    by_cases hlt : k < l.length
    · have hx : l[k]? = some l[k] := List.getElem?_eq_getElem hlt
      obtain ⟨ad, rfl, _, _, p0, p1⟩ := rus_at HS.out KL.out hx
      generalize l[k] = x at *
      clear hx
      obtain ⟨gO, hgO⟩ : ∃ x, x = gk := ⟨_, rfl⟩
      subst hgO
      have z00 : (((wr.alloc (.cells #[.string x.label, .string x.name] 73 (0, 0))).alloc (.map #[] 0)).alloc (.map #[] 0)).cell? ⟨w.heap.size, 0, none⟩ = some (.slice none 0 0) := (blk_cell (blk_alloc (blk_alloc (blk_alloc XL.out _) _) _) 0).trans rfl
      have K3 := Lib.hid (((KL.out.alloc (.cells #[.string x.label, .string x.name] 73 (0, 0))).alloc (.map #[] 0)).alloc (.map #[] 0))
      have X3 := Lib.hid (blk_alloc (blk_alloc (blk_alloc XL.out (.cells #[.string x.label, .string x.name] 73 (0, 0))) (.map #[] 0)) (.map #[] 0))
      go_wp2
      obtain ⟨wy, hwy⟩ : ∃ wy, wy = wr := ⟨_, rfl⟩
      go_loopg [28] 1 (fun g i wz => i = .int .i64 0 ∧ g = 1 ∧ wz.heap[w.heap.size]? = some (.cells #[.slice none 0 0, .slice none 0 0, .int .i64 0, .int .i64 0] 37 (0, 0)) ∧ Keep Any w wz)
      case atStart => exact ⟨rfl, rfl, X3.out, K3.out⟩
      case round =>
        obtain ⟨rfl, hg2, hx, hK⟩ := hrel
        have XM := Lib.hid hx
        have KM := Lib.hid hK
        clear hx hK hg2
        have m0 := (blk_cell XM.out 0).trans rfl
        have m1 := (blk_cell XM.out 1).trans rfl
        have m2 := (blk_cell XM.out 2).trans rfl
        have m3 := (blk_cell XM.out 3).trans rfl
        go_wp2
        obtain ⟨wv, hwv⟩ : ∃ wv, wv = wr := ⟨_, rfl⟩
        go_loopg [55] 1 (fun g i wz => i = .int .i64 0 ∧ g = 1 ∧ wz.heap[w.heap.size]? = some (.cells #[.slice none 0 0, .slice none 0 0, .int .i64 0, .int .i64 0] 37 (0, 0)) ∧ Keep Any w wz)
        case atStart => exact ⟨rfl, rfl, XM.out, KM.out⟩
        case round =>
          obtain ⟨rfl, hg2, hx, hK⟩ := hrel
          have XN := Lib.hid hx
          have KN := Lib.hid hK
          clear hx hK hg2
          go_wp2
          go_roundg (gO - 1)
          case rel => exact ⟨k + 1, by omega, by go_num, by have := HG.out; omega, XN.out, KN.out⟩
          case measure => have := HG.out; omega
    · go_wp2
      go_ret
      exact ⟨rfl, KL.out⟩
set_option maxRecDepth 20000 in
theorem rulesHold_nil (l : List Ru) (v : Value) (w : World) (hs : Rus w Any v l) (hg : RulesGood l) : Calls Tryz.prog 65 #[.agg #[.slice none 0 0, .slice none 0 0, .int .i64 0, .int .i64 0], v] w (Tells true w) := by
  have HS := Lib.hid hs
  have RO := Lib.hid (fun w' (k : Keep Any w w') => (rulesOk_calls l v w' (Rus.keep hs k)).mono fun e w'' h => (show Tells true w' e w'' from by obtain ⟨b, h1, h2, h3⟩ := h; exact ⟨by rw [h1, h2.2 hg], h3⟩))
  have RC := Lib.hid (fun w' (k : Keep Any w w') => ruleCheck_nil l v w' (Rus.keep hs k))
  have KW := Lib.hid ((Keep.refl Any w).alloc (.cells #[.slice none 0 0, .slice none 0 0, .int .i64 0, .int .i64 0] 37 (0, 0)))
  have BX := Lib.hid (blk_new w (.cells #[.slice none 0 0, .slice none 0 0, .int .i64 0, .int .i64 0] 37 (0, 0)))
  have x0 := (blk_cell BX.out 0).trans rfl
  have x1 := (blk_cell BX.out 1).trans rfl
  have x2 := (blk_cell BX.out 2).trans rfl
  have x3 := (blk_cell BX.out 3).trans rfl
  obtain ⟨a, c, rfl, _, _, _⟩ := hs
  go_enter Tryz.func65, Tryz.ntmps65
  go_wp2_with (first | (go_at_call 73; refine (graphOk_nil _).mono ?_; rintro e w2 ⟨rfl, hK2⟩; have KW := Lib.hid (KW.out.trans hK2); have BX := Lib.hid (blk_keep hK2 BX.out trivial); have x0 := (blk_cell BX.out 0).trans rfl; have x1 := (blk_cell BX.out 1).trans rfl; have x2 := (blk_cell BX.out 2).trans rfl; have x3 := (blk_cell BX.out 3).trans rfl; clear hK2) | (go_at_call 24; refine (RO.out _ KW.out).mono ?_; rintro e w2 ⟨rfl, hK2⟩; have KW := Lib.hid (KW.out.trans hK2); have BX := Lib.hid (blk_keep hK2 BX.out trivial); have x0 := (blk_cell BX.out 0).trans rfl; have x1 := (blk_cell BX.out 1).trans rfl; have x2 := (blk_cell BX.out 2).trans rfl; have x3 := (blk_cell BX.out 3).trans rfl; clear hK2) | (go_at_call 74; refine (RC.out _ KW.out).mono ?_; rintro e w2 ⟨rfl, hK2⟩; have KW := Lib.hid (KW.out.trans hK2); have BX := Lib.hid (blk_keep hK2 BX.out trivial); have x0 := (blk_cell BX.out 0).trans rfl; have x1 := (blk_cell BX.out 1).trans rfl; have x2 := (blk_cell BX.out 2).trans rfl; have x3 := (blk_cell BX.out 3).trans rfl; clear hK2))
  go_ret
  exact ⟨rfl, KW.out⟩
set_option maxRecDepth 20000 in
theorem graphSame_nil (w : World) : Calls Tryz.prog 76 #[.agg #[.slice none 0 0, .slice none 0 0, .int .i64 0, .int .i64 0], .agg #[.slice none 0 0, .slice none 0 0, .int .i64 0, .int .i64 0]] w (Tells true w) := by
  have KW := Lib.hid (((Keep.refl Any w).alloc (.cells #[.slice none 0 0, .slice none 0 0, .int .i64 0, .int .i64 0] 37 (0, 0))).alloc (.cells #[.slice none 0 0, .slice none 0 0, .int .i64 0, .int .i64 0] 37 (0, 0)))
  have XW := Lib.hid (blk_alloc (blk_new w (.cells #[.slice none 0 0, .slice none 0 0, .int .i64 0, .int .i64 0] 37 (0, 0))) (.cells #[.slice none 0 0, .slice none 0 0, .int .i64 0, .int .i64 0] 37 (0, 0)))
  have YW := Lib.hid (show ((w.alloc (.cells #[.slice none 0 0, .slice none 0 0, .int .i64 0, .int .i64 0] 37 (0, 0))).alloc (.cells #[.slice none 0 0, .slice none 0 0, .int .i64 0, .int .i64 0] 37 (0, 0))).heap[w.heap.size + 1]? = some (.cells #[.slice none 0 0, .slice none 0 0, .int .i64 0, .int .i64 0] 37 (0, 0)) by rw [← World.size_alloc w (.cells #[.slice none 0 0, .slice none 0 0, .int .i64 0, .int .i64 0] 37 (0, 0))]; exact blk_new _ _)
  go_enter Tryz.func76, Tryz.ntmps76
  go_wp2_with (first | (go_at_call 96; refine (equalNode_nil _ _).mono ?_; rintro e w2 ⟨rfl, hK2⟩; have KW := Lib.hid (KW.out.trans hK2); have XW := Lib.hid (blk_keep hK2 XW.out trivial); have x0 := (blk_cell XW.out 0).trans rfl; have x1 := (blk_cell XW.out 1).trans rfl; have x2 := (blk_cell XW.out 2).trans rfl; have x3 := (blk_cell XW.out 3).trans rfl; have YW := Lib.hid (blk_keep hK2 YW.out trivial); have y0 := (blk_cell YW.out 0).trans rfl; have y1 := (blk_cell YW.out 1).trans rfl; have y2 := (blk_cell YW.out 2).trans rfl; have y3 := (blk_cell YW.out 3).trans rfl; clear hK2) | (go_at_call 100; refine (equalEdge_nil _ _).mono ?_; rintro e w2 ⟨rfl, hK2⟩; have KW := Lib.hid (KW.out.trans hK2); have XW := Lib.hid (blk_keep hK2 XW.out trivial); have x0 := (blk_cell XW.out 0).trans rfl; have x1 := (blk_cell XW.out 1).trans rfl; have x2 := (blk_cell XW.out 2).trans rfl; have x3 := (blk_cell XW.out 3).trans rfl; have YW := Lib.hid (blk_keep hK2 YW.out trivial); have y0 := (blk_cell YW.out 0).trans rfl; have y1 := (blk_cell YW.out 1).trans rfl; have y2 := (blk_cell YW.out 2).trans rfl; have y3 := (blk_cell YW.out 3).trans rfl; clear hK2))
  go_ret
  exact ⟨rfl, KW.out⟩
set_option maxRecDepth 20000 in
theorem leads_nil (v : Value) (d : Option Addr) (c : Nat) (w : World) : Calls Tryz.prog 66 #[.agg #[.slice none 0 0, .slice none 0 0, .int .i64 0, .int .i64 0], v, .slice d 0 c, .agg #[.slice none 0 0, .slice none 0 0, .int .i64 0, .int .i64 0]] w (Tells true w) := by
  have KW := Lib.hid (((Keep.refl Any w).alloc (.cells #[.slice none 0 0, .slice none 0 0, .int .i64 0, .int .i64 0] 37 (0, 0))).alloc (.cells #[.slice none 0 0, .slice none 0 0, .int .i64 0, .int .i64 0] 37 (0, 0)))
  have XW := Lib.hid (blk_alloc (blk_new w (.cells #[.slice none 0 0, .slice none 0 0, .int .i64 0, .int .i64 0] 37 (0, 0))) (.cells #[.slice none 0 0, .slice none 0 0, .int .i64 0, .int .i64 0] 37 (0, 0)))
  have YW := Lib.hid (show ((w.alloc (.cells #[.slice none 0 0, .slice none 0 0, .int .i64 0, .int .i64 0] 37 (0, 0))).alloc (.cells #[.slice none 0 0, .slice none 0 0, .int .i64 0, .int .i64 0] 37 (0, 0))).heap[w.heap.size + 1]? = some (.cells #[.slice none 0 0, .slice none 0 0, .int .i64 0, .int .i64 0] 37 (0, 0)) by rw [← World.size_alloc w (.cells #[.slice none 0 0, .slice none 0 0, .int .i64 0, .int .i64 0] 37 (0, 0))]; exact blk_new _ _)
  go_enter Tryz.func66, Tryz.ntmps66
  go_wp2
  go_loopg [14] 1 (fun g i wz => i = .int .i64 0 ∧ g = 1 ∧ wz.heap[w.heap.size]? = some (.cells #[.slice none 0 0, .slice none 0 0, .int .i64 0, .int .i64 0] 37 (0, 0)) ∧ wz.heap[w.heap.size + 1]? = some (.cells #[.slice none 0 0, .slice none 0 0, .int .i64 0, .int .i64 0] 37 (0, 0)) ∧ Keep Any w wz)
  case atStart => exact ⟨rfl, rfl, XW.out, YW.out, KW.out⟩
  case round =>
    obtain ⟨rfl, hg, hx, hy, hK⟩ := hrel
    have XL := Lib.hid hx
    have YL := Lib.hid hy
    have KL := Lib.hid hK
    clear hx hy hK hg
    have x0 := (blk_cell XL.out 0).trans rfl
    have x1 := (blk_cell XL.out 1).trans rfl
    have x2 := (blk_cell XL.out 2).trans rfl
    have x3 := (blk_cell XL.out 3).trans rfl
    have y0 := (blk_cell YL.out 0).trans rfl
    have y1 := (blk_cell YL.out 1).trans rfl
    have y2 := (blk_cell YL.out 2).trans rfl
    have y3 := (blk_cell YL.out 3).trans rfl
    go_wp2_with (go_at_call 76; refine (graphSame_nil _).mono ?_; rintro e w2 ⟨rfl, hK2⟩)
    go_ret
    exact ⟨rfl, KL.out.trans hK2⟩
set_option maxRecDepth 20000 in
set_option maxHeartbeats 2000000 in
theorem storeOk_fresh (l : List Ru) (a d : Option Addr) (c e : Nat) (w : World) (hs : Rus w Any (.slice a l.length c) l) (hg : RulesGood l) : Calls Tryz.prog 48 #[.agg #[.slice none 0 0, .slice none 0 0, .int .i64 0, .int .i64 0, .slice a l.length c, .int .i64 0, .slice d 0 e, .slice none 0 0, .int .i64 0]] w (Tells true w) := by
  have RH := Lib.hid (fun w' (k : Keep Any w w') => rulesHold_nil l _ w' (Rus.keep hs k) hg)
  have KW := Lib.hid ((Keep.refl Any w).alloc (.cells #[.slice none 0 0, .slice none 0 0, .int .i64 0, .int .i64 0, .slice a l.length c, .int .i64 0, .slice d 0 e, .slice none 0 0, .int .i64 0] 41 (0, 0)))
  have BX := Lib.hid (blk_new w (.cells #[.slice none 0 0, .slice none 0 0, .int .i64 0, .int .i64 0, .slice a l.length c, .int .i64 0, .slice d 0 e, .slice none 0 0, .int .i64 0] 41 (0, 0)))
  have x0 := (blk_cell BX.out 0).trans rfl
  have x1 := (blk_cell BX.out 1).trans rfl
  have x2 := (blk_cell BX.out 2).trans rfl
  have x3 := (blk_cell BX.out 3).trans rfl
  have x4 := (blk_cell BX.out 4).trans rfl
  have x5 := (blk_cell BX.out 5).trans rfl
  have x6 := (blk_cell BX.out 6).trans rfl
  have x7 := (blk_cell BX.out 7).trans rfl
  have x8 := (blk_cell BX.out 8).trans rfl
  clear hs
  go_enter Tryz.func48, Tryz.ntmps48
  go_wp2_with (go_at_call 65; refine (RH.out _ KW.out).mono ?_; rintro e w2 ⟨rfl, hK2⟩; have KW := Lib.hid (KW.out.trans hK2); have BX := Lib.hid (blk_keep hK2 BX.out trivial); have x0 := (blk_cell BX.out 0).trans rfl; have x1 := (blk_cell BX.out 1).trans rfl; have x2 := (blk_cell BX.out 2).trans rfl; have x3 := (blk_cell BX.out 3).trans rfl; have x4 := (blk_cell BX.out 4).trans rfl; have x5 := (blk_cell BX.out 5).trans rfl; have x6 := (blk_cell BX.out 6).trans rfl; have x7 := (blk_cell BX.out 7).trans rfl; have x8 := (blk_cell BX.out 8).trans rfl; clear hK2)
  go_loopg [58] 1 (fun g i wz => i = .int .i64 0 ∧ g = 1 ∧ wz.heap[w.heap.size]? = some (.cells #[.slice none 0 0, .slice none 0 0, .int .i64 0, .int .i64 0, .slice a l.length c, .int .i64 0, .slice d 0 e, .slice none 0 0, .int .i64 0] 41 (0, 0)) ∧ Keep Any w wz)
  case atStart => exact ⟨rfl, rfl, BX.out, KW.out⟩
  case round =>
    obtain ⟨rfl, hg, hx, hK⟩ := hrel
    have XL := Lib.hid hx
    have KL := Lib.hid hK
    clear hx hK hg
    have z0 := (blk_cell XL.out 0).trans rfl
    have z1 := (blk_cell XL.out 1).trans rfl
    have z2 := (blk_cell XL.out 2).trans rfl
    have z3 := (blk_cell XL.out 3).trans rfl
    have z4 := (blk_cell XL.out 4).trans rfl
    have z5 := (blk_cell XL.out 5).trans rfl
    have z6 := (blk_cell XL.out 6).trans rfl
    have z7 := (blk_cell XL.out 7).trans rfl
    have z8 := (blk_cell XL.out 8).trans rfl
    go_wp2_with (go_at_call 66; refine (leads_nil _ _ _ _).mono ?_; rintro e w2 ⟨rfl, hK2⟩)
    go_ret
    exact ⟨rfl, KL.out.trans hK2⟩
end Go.Proofs.YtngghnakbhoiaaaGreatDoor

/- What the program's FrameGet computes. For every text of at most 2^62 bytes. -/
namespace Go.Proofs.YtngghnakbhoiaaaGreatDoor
open Go.RowKit
set_option linter.unusedVariables false

def Fr (w : World) (b : Nat) (t : ByteArray) (a s : Int) (bd : ByteArray) (l : Int) : Prop :=
  w.heap[b]? = some (.cells #[.string t, .int .i64 a, .int .i64 s, .string bd, .int .i64 l] 124 (0, 0))

theorem isFigure_calls (c : Int) (w : World) : Calls Tryz.prog 53 #[.int .u8 c] w fun e w' => e = .returned (.bool (decide (48 ≤ c) && decide (c ≤ 57))) ∧ w = w' := by
  go_enter Tryz.func53, Tryz.ntmps53
  go_wp2 <;> (go_ret; refine ⟨?_, rfl⟩; simp [*])
  omega

def lookV : Nat → Value
  | 0 => .nilFunc
  | 1 => .func (.func 67) #[] #[]
  | 2 => .func (.func 78) #[] #[]
  | _ => .func (.func 102) #[] #[]
/-- Where the reading of a frame stands: what is to look next (0: nothing), at most m looks from the end. -/
def St (t : ByteArray) (b u m : Nat) (w : World) : Prop :=
  (u = 0 ∧ ∃ (a s : Int) (bd : ByteArray) (l : Int), Fr w b t a s bd l ∧ frameGet t = (bd, l)) ∨
  (∃ (a s : Nat), Fr w b t a s ⟨#[]⟩ 0 ∧ a ≤ t.size ∧ s ≤ 6000 ∧
    ((u = 1 ∧ a = 0 ∧ s = 0 ∧ t.size + 3 < m) ∨ (u = 2 ∧ frameGet t = frMore t a s ∧ t.size - a + 2 < m) ∨ (u = 3 ∧ frameGet t = frBody t a s ∧ 1 < m)))
def Looked (t : ByteArray) (b m : Nat) (w : World) (e : Ending) (w' : World) : Prop := ∃ u, u ≤ 3 ∧ e = .returned (lookV u) ∧ St t b u (m - 1) w' ∧ Keep (But b) w w'
theorem keep_drewN (b : Nat) (w : World) (n : Nat) : Keep (But b) w (w.drewN n) := (Keep.refl _ _).drewN n
theorem keep_set1 (b : Nat) (w : World) (n i : Nat) (u : Value) : Keep (But b) w ((w.drewN n).setCell ⟨b, i, none⟩ u) := ((Keep.refl _ _).drewN n).set _ _ fun _ h => h rfl
theorem keep_set2 (b : Nat) (w : World) (n i j : Nat) (u v : Value) : Keep (But b) w (((w.drewN n).setCell ⟨b, i, none⟩ u).setCell ⟨b, j, none⟩ v) := (keep_set1 b w n i u).set _ _ fun _ h => h rfl

theorem keep_set3 (b : Nat) (w : World) (n i j k : Nat) (u v x : Value) : Keep (But b) w ((((w.drewN n).setCell ⟨b, i, none⟩ u).setCell ⟨b, j, none⟩ v).setCell ⟨b, k, none⟩ x) := (keep_set2 b w n i j u v).set _ _ fun _ h => h rfl
theorem St.body {t : ByteArray} {b m : Nat} {w : World} (h : St t b 3 m w) : ∃ a s : Nat, Fr w b t a s ⟨#[]⟩ 0 ∧ a ≤ t.size ∧ s ≤ 6000 ∧ frameGet t = frBody t a s ∧ 1 < m := by
  rcases h with ⟨h, _⟩ | ⟨a, s, h, ha, hs, ⟨h3, _⟩ | ⟨h3, _⟩ | ⟨_, h4, h5⟩⟩ <;> first | omega | exact ⟨a, s, h, ha, hs, h4, h5⟩
theorem St.more {t : ByteArray} {b m : Nat} {w : World} (h : St t b 2 m w) : ∃ a s : Nat, Fr w b t a s ⟨#[]⟩ 0 ∧ a ≤ t.size ∧ s ≤ 6000 ∧ frameGet t = frMore t a s ∧ t.size - a + 2 < m := by
  rcases h with ⟨h, _⟩ | ⟨a, s, h, ha, hs, ⟨h3, _⟩ | ⟨_, h4, h5⟩ | ⟨h3, _⟩⟩ <;> first | omega | exact ⟨a, s, h, ha, hs, h4, h5⟩
theorem St.one {t : ByteArray} {b m : Nat} {w : World} (h : St t b 1 m w) : Fr w b t 0 0 ⟨#[]⟩ 0 ∧ t.size + 3 < m := by
  rcases h with ⟨h, _⟩ | ⟨a, s, h, ha, hs, ⟨_, h4, h5, h6⟩ | ⟨h3, _⟩ | ⟨h3, _⟩⟩ <;> first | omega | (subst h4 h5; exact ⟨h, h6⟩)
theorem St.pos {t : ByteArray} {b u m : Nat} {w : World} (h : St t b u m w) (hu : u ≠ 0) : 1 < m := by
  rcases h with ⟨h, _⟩ | ⟨a, s, _, _, _, h | h | h⟩ <;> omega
theorem frameBody_calls (b : Nat) (t : ByteArray) (m : Nat) (w : World) (h : St t b 3 m w) (ht : t.size ≤ 4611686018427387904) :
    Calls Tryz.prog 102 #[.pointer (some ⟨b, 0, none⟩)] w (Looked t b m w) := by
  obtain ⟨a, s, h, ha, hs, hF, hm⟩ := h.body
  have HF := Lib.hid hF
  have HT := Lib.hid h
  clear hF
  have h0 : w.cell? ⟨b, 0, none⟩ = some (.string t) := (blk_cell h 0).trans rfl
  have h1 : w.cell? ⟨b, 1, none⟩ = some (.int .i64 a) := (blk_cell h 1).trans rfl
  have h2 : w.cell? ⟨b, 2, none⟩ = some (.int .i64 s) := (blk_cell h 2).trans rfl
  have h3 : w.cell? ⟨b, 3, none⟩ = some (.string ⟨#[]⟩) := (blk_cell h 3).trans rfl
  have h4 : w.cell? ⟨b, 4, none⟩ = some (.int .i64 0) := (blk_cell h 4).trans rfl
  have f3 := blk_frozen h 3
  have f4 := blk_frozen h 4
  clear h
  by_cases c1 : t.size ≤ a + s
  · go_enter Tryz.func102, Tryz.ntmps102
    go_wp2
    go_quiet (fail)
    go_wp2
    go_ret
    exact ⟨0, by omega, rfl, .inl ⟨rfl, a, s, _, _, blk_set HT.out 4 _, by rw [HF.out]; simp [frBody, c1]⟩, keep_set1 ..⟩
  · have q0 : (0 : Int) ≤ (a : Int) := by omega
    have q1 : (a : Int) ≤ (a : Int) + (s : Int) := by omega
    have q2 : (a : Int) + (s : Int) ≤ (t.size : Int) := by omega
    have e1 := at_eq t (a + s) (by omega)
    go_enter Tryz.func102, Tryz.ntmps102
    go_wp2
    go_quiet (fail)
    go_wp2
    · have hq : (((at_ t (a + s) : Nat) : Int) != 10) = true := by assumption
      go_ret
      exact ⟨0, by omega, rfl, .inl ⟨rfl, a, s, _, _, blk_set HT.out 4 _, by
        rw [HF.out]; simp only [frBody]; rw [if_neg c1, if_pos (by intro h; simp [h] at hq)]⟩, keep_set1 ..⟩
    · have hq : (((at_ t (a + s) : Nat) : Int) != 10) = false := by assumption
      go_region
      go_wp2
      go_ret
      exact ⟨0, by omega, rfl, .inl ⟨rfl, a, s, _, _, blk_set (blk_set HT.out 3 _) 4 _, by
        rw [HF.out]; simp only [frBody]; rw [if_neg c1, if_neg (by intro h; exact h (by simp at hq; omega))]⟩, keep_set2 ..⟩

theorem frameMore_calls (b : Nat) (t : ByteArray) (m : Nat) (w : World) (h : St t b 2 m w) (ht : t.size ≤ 4611686018427387904) :
    Calls Tryz.prog 78 #[.pointer (some ⟨b, 0, none⟩)] w (Looked t b m w) := by
  obtain ⟨a, s, h, ha, hs, hF, hm⟩ := h.more
  have HF := Lib.hid hF
  have HT := Lib.hid h
  clear hF
  have h0 : w.cell? ⟨b, 0, none⟩ = some (.string t) := (blk_cell h 0).trans rfl
  have h1 : w.cell? ⟨b, 1, none⟩ = some (.int .i64 a) := (blk_cell h 1).trans rfl
  have h2 : w.cell? ⟨b, 2, none⟩ = some (.int .i64 s) := (blk_cell h 2).trans rfl
  have h4 : w.cell? ⟨b, 4, none⟩ = some (.int .i64 0) := (blk_cell h 4).trans rfl
  have f1 := blk_frozen h 1
  have f2 := blk_frozen h 2
  have f4 := blk_frozen h 4
  clear h
  by_cases c1 : a = t.size
  · have hd : (((a : Nat) : Int) == ((t.size : Nat) : Int)) = true := by simp [c1]
    have C1 := Lib.hid c1
    clear c1
    go_enter Tryz.func78, Tryz.ntmps78
    go_wp2
    go_quiet (fail)
    go_wp2
    go_ret
    exact ⟨0, by omega, rfl, .inl ⟨rfl, a, s, _, _, blk_set HT.out 4 _, by rw [HF.out, frMore]; simp [C1.out]⟩, keep_set1 ..⟩
  · have hd : (((a : Nat) : Int) == ((t.size : Nat) : Int)) = false := by simp; omega
    have q0 : (0 : Int) ≤ (a : Int) := by omega
    have q1 : (a : Int) < (t.size : Int) := by omega
    have e1 := at_eq t a (by omega)
    go_enter Tryz.func78, Tryz.ntmps78
    go_wp2
    go_quiet (fail)
    go_wp2
    go_quiet (fail)
    go_wp2
    · have g : (((at_ t a : Nat) : Int) == 58) = true := by assumption
      go_ret
      exact ⟨3, by omega, rfl, .inr ⟨a + 1, s, blk_set HT.out 1 _, by omega, hs, .inr (.inr ⟨rfl, by rw [HF.out, frMore_colon (by omega) (by simp at g; omega)], by omega⟩)⟩, keep_set1 ..⟩
    · have g : (((at_ t a : Nat) : Int) == 58) = false := by assumption
      have gs : (((s : Nat) : Int) == 0) = true := by assumption
      go_ret
      exact ⟨0, by omega, rfl, .inl ⟨rfl, _, _, _, _, blk_set (blk_set HT.out 1 _) 4 _, by rw [HF.out, frMore_bad (by omega) (by simp at g; omega) (.inr (by simp at gs; omega))]⟩, keep_set2 ..⟩
    · have gz : (((s : Nat) : Int) == 0) = false := by assumption
      have g0 : (48 : Int) ≤ ((at_ t a : Nat) : Int) := by assumption
      have g1 : ((at_ t a : Nat) : Int) ≤ (57 : Int) := by assumption
      have gs : (6000 : Int) < ((s : Nat) : Int) * 10 + (((at_ t a : Nat) : Int) - 48) := by assumption
      go_ret
      exact ⟨0, by omega, rfl, .inl ⟨rfl, _, _, _, _, blk_set (blk_set (blk_set HT.out 1 _) 2 _) 4 _, by rw [HF.out, frMore_big (by omega) (by omega) (by omega) (by simp at gz; omega) (by omega)]⟩, keep_set3 ..⟩
    · have gz : (((s : Nat) : Int) == 0) = false := by assumption
      have g0 : (48 : Int) ≤ ((at_ t a : Nat) : Int) := by assumption
      have g1 : ((at_ t a : Nat) : Int) ≤ (57 : Int) := by assumption
      have gs : ((s : Nat) : Int) * 10 + (((at_ t a : Nat) : Int) - 48) ≤ 6000 := by assumption
      have ge : ((s : Nat) : Int) * 10 + (((at_ t a : Nat) : Int) - 48) = ((s * 10 + (at_ t a - 48) : Nat) : Int) := by omega
      go_ret
      rw [ge]
      exact ⟨2, by omega, rfl, .inr ⟨a + 1, s * 10 + (at_ t a - 48), blk_set (blk_set HT.out 1 _) 2 _, by omega, by omega, .inr (.inl ⟨rfl, by rw [HF.out, frMore_go (by omega) (by omega) (by omega) (by simp at gz; omega) (by omega)], by omega⟩)⟩, keep_set2 ..⟩
    all_goals
      have g : (((at_ t a : Nat) : Int) == 58) = false := by assumption
      have gs : ((at_ t a : Nat) : Int) < 48 ∨ 57 < ((at_ t a : Nat) : Int) := by first | exact .inl (by assumption) | exact .inr (by assumption)
      go_ret
      exact ⟨0, by omega, rfl, .inl ⟨rfl, _, _, _, _, blk_set (blk_set HT.out 1 _) 4 _, by rw [HF.out, frMore_bad (by omega) (by simp at g; omega) (.inl (by omega))]⟩, keep_set2 ..⟩

theorem frameSize_calls (b : Nat) (t : ByteArray) (m : Nat) (w : World) (h : St t b 1 m w) (ht : t.size ≤ 4611686018427387904) :
    Calls Tryz.prog 67 #[.pointer (some ⟨b, 0, none⟩)] w (Looked t b m w) := by
  obtain ⟨h, hm⟩ := h.one
  have HT := Lib.hid h
  have h0 : w.cell? ⟨b, 0, none⟩ = some (.string t) := (blk_cell h 0).trans rfl
  have h1 : w.cell? ⟨b, 1, none⟩ = some (.int .i64 0) := (blk_cell h 1).trans rfl
  have h2 : w.cell? ⟨b, 2, none⟩ = some (.int .i64 0) := (blk_cell h 2).trans rfl
  have h4 : w.cell? ⟨b, 4, none⟩ = some (.int .i64 0) := (blk_cell h 4).trans rfl
  have f1 := blk_frozen h 1
  have f2 := blk_frozen h 2
  have f4 := blk_frozen h 4
  clear h
  by_cases c1 : t.size = 0
  · have hd : (t.toList == ([] : List UInt8)) = true := empty_true t c1
    have C1 := Lib.hid c1
    clear c1
    go_enter Tryz.func67, Tryz.ntmps67
    go_wp2
    go_ret
    exact ⟨0, by omega, rfl, .inl ⟨rfl, _, _, _, _, blk_set HT.out 4 _, by simp [frameGet, C1.out]⟩, (Keep.refl _ _).set _ _ fun _ h => h rfl⟩
  · have hd : (t.toList == ([] : List UInt8)) = false := empty_false t c1
    have q1 : 0 < t.size := by omega
    have e1 := at_eq t 0 (by omega)
    go_enter Tryz.func67, Tryz.ntmps67
    go_wp2
    · have g0 : (48 : Int) ≤ ((at_ t 0 : Nat) : Int) := by assumption
      have g1 : (!decide (((at_ t 0 : Nat) : Int) ≤ (57 : Int))) = true := by assumption
      go_ret
      exact ⟨0, by omega, rfl, .inl ⟨rfl, _, _, _, _, blk_set HT.out 4 _, by simp at g1; simp only [frameGet]; rw [if_neg c1, if_pos (by simp [fig]; omega)]⟩, (Keep.refl _ _).set _ _ fun _ h => h rfl⟩
    · have g0 : (48 : Int) ≤ ((at_ t 0 : Nat) : Int) := by assumption
      have g1 : (!decide (((at_ t 0 : Nat) : Int) ≤ (57 : Int))) = false := by assumption
      have ge : (((at_ t 0 : Nat) : Int) - 48) % 256 = ((at_ t 0 - 48 : Nat) : Int) := by simp at g1; omega
      go_ret
      rw [ge]
      exact ⟨2, by omega, rfl, .inr ⟨1, at_ t 0 - 48, blk_set (blk_set HT.out 2 _) 1 _, by omega, by simp at g1; omega, .inr (.inl ⟨rfl, by simp at g1; simp only [frameGet]; rw [if_neg c1, if_neg (by simp [fig]; omega)], by omega⟩)⟩, ((Keep.refl _ _).set _ _ fun _ h => h rfl).set _ _ fun _ h => h rfl⟩
    · have g0 : ((at_ t 0 : Nat) : Int) < 48 := by assumption
      go_ret
      exact ⟨0, by omega, rfl, .inl ⟨rfl, _, _, _, _, blk_set HT.out 4 _, by simp only [frameGet]; rw [if_neg c1, if_pos (by simp [fig]; omega)]⟩, (Keep.refl _ _).set _ _ fun _ h => h rfl⟩

theorem look_nil (w : World) : (binOp BinOp.neq 126 Value.nilFunc Value.nilFunc).run Tryz.prog w = .ok (.bool false) w := by kernel_rfl
theorem look_func (w : World) (f : Nat) : (binOp BinOp.neq 126 (.func (.func f) #[] #[]) Value.nilFunc).run Tryz.prog w = .ok (.bool true) w := by kernel_rfl
def GotFrame (t : ByteArray) (w : World) (e : Ending) (w' : World) : Prop := e = .returned (.tuple #[.string (frameGet t).1, .int .i64 (frameGet t).2]) ∧ Keep Any w w'
theorem frameGet_calls (t : ByteArray) (w : World) (ht : t.size ≤ 4611686018427387904) :
    Calls Tryz.prog 49 #[.string t] w (GotFrame t w) := by
  go_enter Tryz.func49, Tryz.ntmps49
  go_wp2
  go_loopg [5] (t.size + 4) (fun k v wr => ∃ u, u ≤ 3 ∧ v = lookV u ∧ St t w.heap.size u k wr ∧ Keep Any w wr)
  case atStart => exact ⟨1, by omega, rfl, .inr ⟨0, 0, blk_new _ _, by omega, by omega, .inl ⟨rfl, rfl, rfl, by omega⟩⟩, (Keep.refl _ _).alloc _⟩
  case round =>
    have qn := look_nil
    have qf := look_func
    obtain ⟨u, hu, rfl, hS0, hK⟩ := hrel
    have hS := Lib.hid hS0
    rcases (show u = 0 ∨ u = 1 ∨ u = 2 ∨ u = 3 by omega) with rfl | rfl | rfl | rfl
    · rcases hS0 with ⟨_, a, s, bd, l, h, hf⟩ | ⟨a, s, h, _, _, h3⟩
      · have h3 : wr.cell? ⟨w.heap.size, 3, none⟩ = some (.string bd) := (blk_cell h 3).trans rfl
        have h4 : wr.cell? ⟨w.heap.size, 4, none⟩ = some (.int .i64 l) := (blk_cell h 4).trans rfl
        have HF := Lib.hid hf
        clear hf h
        simp only [lookV]
        go_wp2
        go_quiet (fail)
        go_wp2
        go_ret2
        exact ⟨by rw [HF.out]; rfl, hK.drewN _⟩
      · omega
    all_goals (clear hS0; simp only [lookV])
    · go_wp2_with (go_at_call 67; refine (frameSize_calls _ _ _ _ hS.out ht).mono ?_; rintro e w1 ⟨u1, hu1, rfl, hS1, hK1⟩; have HS1 := Lib.hid hS1; clear hS1)
      go_roundg (gk - 1)
      case rel => exact ⟨u1, hu1, rfl, HS1.out, hK.then hK1 fun i hi _ => by show i ≠ _; omega⟩
      case measure => have := St.pos hS.out (by omega); omega
    · go_wp2_with (go_at_call 78; refine (frameMore_calls _ _ _ _ hS.out ht).mono ?_; rintro e w1 ⟨u1, hu1, rfl, hS1, hK1⟩; have HS1 := Lib.hid hS1; clear hS1)
      go_roundg (gk - 1)
      case rel => exact ⟨u1, hu1, rfl, HS1.out, hK.then hK1 fun i hi _ => by show i ≠ _; omega⟩
      case measure => have := St.pos hS.out (by omega); omega
    · go_wp2_with (go_at_call 102; refine (frameBody_calls _ _ _ _ hS.out ht).mono ?_; rintro e w1 ⟨u1, hu1, rfl, hS1, hK1⟩; have HS1 := Lib.hid hS1; clear hS1)
      go_roundg (gk - 1)
      case rel => exact ⟨u1, hu1, rfl, HS1.out, hK.then hK1 fun i hi _ => by show i ≠ _; omega⟩
      case measure => have := St.pos hS.out (by omega); omega
end Go.Proofs.YtngghnakbhoiaaaGreatDoor

/- A slice that a call makes and fills, place by place. No condition. -/
namespace Go.Proofs.YtngghnakbhoiaaaGreatDoor
open Go.RowKit
set_option linter.unusedVariables false

/-- make([]T, n) -/
theorem make_run {P : Program} (t e : TypeId) (z : Value) (size bytes : Nat) (ht : P.underlying t = some (.slice e)) (hinfo : (P.info? e).map (fun i => (i.zero, i.size, i.bytes)) = some (some z, size, bytes)) (n : Nat) (hb : bytes * n ≤ 281474976710656) (hn : n ≤ 9223372036854775807) :
    ∀ W : World, (Instr.makeSlice t (.int .i64 (n : Int)) (.int .i64 (n : Int))).run P W = .ok (.slice (some ⟨W.heap.size, 0, none⟩) n n) (W.alloc (.cells (madeCells z.cells (n * size)) e)) := by
  intro W
  obtain ⟨i, hi, hzz⟩ := Option.map_eq_some_iff.1 hinfo
  simp only [Prod.mk.injEq] at hzz
  obtain ⟨hz, hs, hb'⟩ := hzz
  subst hs
  have h1 : (i.bytes : Int) * (n : Int) ≤ 281474976710656 := by
    have h : ((i.bytes * n : Nat) : Int) ≤ 281474976710656 := by rw [hb']; omega
    rwa [Int.natCast_mul] at h
  have hr := run_make (P := P) W t e i z ht hi hz .i64 .i64 n n (by omega) (Int.le_refl _) h1 (by omega)
  simpa using hr
/-- The first k of l's elements lie in block g, which has room for n. -/
def Fill {α : Type} (sz : Nat) (R : α → List Value → Prop) (w : World) (g : Nat) (T : TypeId) (n : Nat) (l : List α) (k : Nat) : Prop :=
  ∃ cur, w.heap[g]? = some (.cells cur T (0, 0)) ∧ cur.size = n * sz ∧ ∀ j x, j < k → l[j]? = some x → ∃ cs, R x cs ∧ cs.length = sz ∧ ∀ i u, cs[i]? = some u → cur[j * sz + i]? = some u
theorem Fill.made {α : Type} {sz : Nat} {R : α → List Value → Prop} {T : TypeId} {n : Nat} {l : List α} (w : World) (z : Array Value) : Fill sz R (w.alloc (.cells (madeCells z (n * sz)) T)) w.heap.size T n l 0 :=
  ⟨_, blk_new _ _, size_madeCells _ _, fun j x hj => by omega⟩
theorem Fill.keep {α : Type} {sz : Nat} {R R' : α → List Value → Prop} {w w' : World} {g : Nat} {T : TypeId} {n k : Nat} {l : List α} {ok : Nat → Prop} (h : Fill sz R w g T n l k) (hk : Keep ok w w') (ho : ok g) (hR : ∀ x cs, R x cs → R' x cs) : Fill sz R' w' g T n l k := by
  obtain ⟨cur, hb, hs, hf⟩ := h
  exact ⟨cur, blk_keep hk hb ho, hs, fun j x hj hx => by obtain ⟨cs, h1, h2, h3⟩ := hf j x hj hx; exact ⟨cs, hR x cs h1, h2, h3⟩⟩
theorem Fill.lt {α : Type} {sz : Nat} {R : α → List Value → Prop} {w : World} {g : Nat} {T : TypeId} {n k : Nat} {l : List α} (h : Fill sz R w g T n l k) : g < w.heap.size := by obtain ⟨cur, hb, _⟩ := h; exact blk_lt hb
theorem Fill.cell {α : Type} {sz : Nat} {R : α → List Value → Prop} {w w' : World} {g : Nat} {T : TypeId} {n k : Nat} {l : List α} {ok : Nat → Prop} (h : Fill sz R w g T n l k) (hk : Keep ok w w') (ho : ok g) (o : Nat) (hl : o < n * sz) : ∃ v, w'.cell? ⟨g, o, none⟩ = some v := by
  obtain ⟨cur, hb, hs, _⟩ := h
  exact ⟨_, (blk_cell (blk_keep hk hb ho) o).trans (Array.getElem?_eq_getElem (by omega))⟩
theorem Fill.free {α : Type} {sz : Nat} {R : α → List Value → Prop} {w w' : World} {g : Nat} {T : TypeId} {n k : Nat} {l : List α} {ok : Nat → Prop} (h : Fill sz R w g T n l k) (hk : Keep ok w w') (ho : ok g) (o : Nat) : w'.frozen? ⟨g, o, none⟩ = false := by
  obtain ⟨cur, hb, _⟩ := h
  exact blk_frozen (blk_keep hk hb ho) o
/-- One more: what stands at its place; ahead of it nothing has turned. -/
theorem Fill.snoc {α : Type} {sz : Nat} {R R' : α → List Value → Prop} {w w' : World} {g : Nat} {T : TypeId} {n k : Nat} {l : List α} {x : α} {cs : List Value} (h : Fill sz R w g T n l k) (hR : ∀ x cs, R x cs → R' x cs) (hx : l[k]? = some x) (hc : R' x cs) (hl : cs.length = sz)
    (hw : ∀ cur, w.heap[g]? = some (.cells cur T (0, 0)) → cur.size = n * sz → ∃ cur', w'.heap[g]? = some (.cells cur' T (0, 0)) ∧ cur'.size = cur.size ∧ (∀ i, i < k * sz → cur'[i]? = cur[i]?) ∧ ∀ i u, cs[i]? = some u → cur'[k * sz + i]? = some u) : Fill sz R' w' g T n l (k + 1) := by
  obtain ⟨cur, hb, hs, hf⟩ := h
  obtain ⟨cur', hb', hs', h1, h2⟩ := hw cur hb hs
  refine ⟨cur', hb', hs'.trans hs, fun j y hj hy => ?_⟩
  rcases Nat.lt_succ_iff_lt_or_eq.1 hj with hj | rfl
  · obtain ⟨ds, g1, g2, g3⟩ := hf j y hj hy
    refine ⟨ds, hR y ds g1, g2, fun i u hu => ?_⟩
    have hi : i < sz := by rw [← g2]; exact (List.getElem?_eq_some_iff.1 hu).1
    rw [h1 _ (by calc j * sz + i < j * sz + sz := by omega
                      _ = (j + 1) * sz := by rw [Nat.add_mul, Nat.one_mul]
                      _ ≤ k * sz := Nat.mul_le_mul_right _ hj)]
    exact g3 i u hu
  · rw [hx] at hy; cases hy
    exact ⟨cs, hc, hl, h2⟩
theorem Fill.slice {α : Type} {sz : Nat} {R : α → List Value → Prop} {w : World} {g : Nat} {T : TypeId} {l : List α} (h : Fill sz R w g T l.length l l.length) (hn : l.length ≤ 9223372036854775807) {ok : Nat → Prop} (ho : ok g) : Sl sz R w ok (.slice (some ⟨g, 0, none⟩) l.length l.length) l := by
  obtain ⟨cur, hb, hs, hf⟩ := h
  refine ⟨_, _, rfl, Nat.le_refl _, hn, fun _ => ⟨_, rfl, ho, fun j x hx => ?_⟩⟩
  obtain ⟨cs, h1, h2, h3⟩ := hf j x (List.getElem?_eq_some_iff.1 hx).1 hx
  refine ⟨cs, h1, h2, fun i u hu => ?_⟩
  have e : (⟨g, 0, none⟩ : Addr).add (j * sz + i) = ⟨g, j * sz + i, none⟩ := by unfold Addr.add; split <;> simp_all
  rw [e, blk_cell hb]
  exact h3 i u hu
end Go.Proofs.YtngghnakbhoiaaaGreatDoor

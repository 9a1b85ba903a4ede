/- The laws' comparison (as..) of servers: of two that hold the same, and have nothing in them, it says yes. ServerNew of the program. -/
import Derived.Test.YtngghnakbhoiaaaGreatDoorMLawSvBegin5
import Derived.Laws.StructEq
import Derived.StillTailTactics
import Derived.Deep.RegionHeld3
import Derived.Deep.RegionLaw
/- The laws' comparison (as..) of servers: of two that hold the same, and have nothing in them, it says yes. -/
namespace Go.Proofs.YtngghnakbhoiaaaGreatDoor
open Go.RowKit
set_option linter.unusedVariables false
set_option linter.unusedSimpArgs false
theorem Sl.len_le {α : Type} {sz : Nat} {R : α → List Value → Prop} {w : World} {ok : Nat → Prop} {v : Value} {l : List α} (h : Sl sz R w ok v l) : l.length ≤ 9223372036854775807 := by
  obtain ⟨a, c, e, h1, h2, _⟩ := h; omega
theorem asAsks_nil (a b : Option Addr) (c d : Nat) (w : World) : Calls Tryz.prog 27 #[.slice a 0 c, .slice b 0 d] w (Tells true w) := by
  go_enter Tryz.func27, Tryz.ntmps27
  go_wp2
  go_loopg [5] 1 (fun g i wr => i = .int .i64 0 ∧ g = 1 ∧ w = wr)
  case atStart => exact ⟨rfl, rfl, rfl⟩
  case round =>
    obtain ⟨rfl, hg, rfl⟩ := hrel
    go_wp2
    go_ret
    exact ⟨rfl, Keep.refl _ _⟩
set_option maxRecDepth 20000 in
set_option maxHeartbeats 2000000 in
theorem asGraph_calls  (w : World) :
    Calls Tryz.prog 26 #[.agg #[.slice none 0 0, .slice none 0 0, .int .i64 0, .int .i64 0], .agg #[.slice none 0 0, .slice none 0 0, .int .i64 0, .int .i64 0]] w (Tells true w) := by
  have KW := Lib.hid (((Keep.refl Any w).alloc (.cells #[.slice none 0 0, .slice none 0 0, .int .i64 0, .int .i64 0] 37 (0, 0))).alloc (.cells #[.slice none 0 0, .slice none 0 0, .int .i64 0, .int .i64 0] 37 (0, 0)))
  have XW := Lib.hid (blk_alloc (blk_new w (.cells #[.slice none 0 0, .slice none 0 0, .int .i64 0, .int .i64 0] 37 (0, 0))) (.cells #[.slice none 0 0, .slice none 0 0, .int .i64 0, .int .i64 0] 37 (0, 0)))
  have YW := Lib.hid (show ((w.alloc (.cells #[.slice none 0 0, .slice none 0 0, .int .i64 0, .int .i64 0] 37 (0, 0))).alloc (.cells #[.slice none 0 0, .slice none 0 0, .int .i64 0, .int .i64 0] 37 (0, 0))).heap[w.heap.size + 1]? = some (.cells #[.slice none 0 0, .slice none 0 0, .int .i64 0, .int .i64 0] 37 (0, 0)) by rw [← World.size_alloc w (.cells #[.slice none 0 0, .slice none 0 0, .int .i64 0, .int .i64 0] 37 (0, 0))]; exact blk_new _ _)
  go_enter Tryz.func26, Tryz.ntmps26
  go_wp2
  go_loopg [5] 1 (fun g i wr => i = .int .i64 0 ∧ g = 1 ∧ wr.heap[w.heap.size]? = some (.cells #[.slice none 0 0, .slice none 0 0, .int .i64 0, .int .i64 0] 37 (0, 0)) ∧ wr.heap[w.heap.size + 1]? = some (.cells #[.slice none 0 0, .slice none 0 0, .int .i64 0, .int .i64 0] 37 (0, 0)) ∧ Keep Any w wr)
  case atStart => exact ⟨rfl, rfl, XW.out, YW.out, KW.out⟩
  case round =>
    obtain ⟨rfl, hg, hx, hy, hK⟩ := hrel
    have XL := Lib.hid hx
    have YL := Lib.hid hy
    have KL := Lib.hid hK
    clear hx hy hK hg
    have x0 := (blk_cell XL.out 0).trans rfl
    have x1 := (blk_cell XL.out 1).trans rfl
    have x2 := (blk_cell XL.out 2).trans rfl
    have x3 := (blk_cell XL.out 3).trans rfl
    have y0 := (blk_cell YL.out 0).trans rfl
    have y1 := (blk_cell YL.out 1).trans rfl
    have y2 := (blk_cell YL.out 2).trans rfl
    have y3 := (blk_cell YL.out 3).trans rfl
    go_wp2
    obtain ⟨wz, hwz⟩ : ∃ wz, wz = wr := ⟨_, rfl⟩
    subst hwz
    go_loopg [6] 1 (fun g i wr => i = .int .i64 0 ∧ g = 1 ∧ wr.heap[w.heap.size]? = some (.cells #[.slice none 0 0, .slice none 0 0, .int .i64 0, .int .i64 0] 37 (0, 0)) ∧ wr.heap[w.heap.size + 1]? = some (.cells #[.slice none 0 0, .slice none 0 0, .int .i64 0, .int .i64 0] 37 (0, 0)) ∧ Keep Any w wr)
    case atStart => exact ⟨rfl, rfl, XL.out, YL.out, KL.out⟩
    case round =>
      obtain ⟨rfl, hg, hx, hy, hK⟩ := hrel
      have XL := Lib.hid hx
      have YL := Lib.hid hy
      have KL := Lib.hid hK
      clear hx hy hK hg
      have x0 := (blk_cell XL.out 0).trans rfl
      have x1 := (blk_cell XL.out 1).trans rfl
      have x2 := (blk_cell XL.out 2).trans rfl
      have x3 := (blk_cell XL.out 3).trans rfl
      have y0 := (blk_cell YL.out 0).trans rfl
      have y1 := (blk_cell YL.out 1).trans rfl
      have y2 := (blk_cell YL.out 2).trans rfl
      have y3 := (blk_cell YL.out 3).trans rfl
      go_wp2
      go_ret
      exact ⟨rfl, KL.out⟩
set_option maxRecDepth 20000 in
set_option maxHeartbeats 2000000 in
theorem asTable_calls  (w : World) :
    Calls Tryz.prog 57 #[.agg #[.slice none 0 0, .slice none 0 0], .agg #[.slice none 0 0, .slice none 0 0]] w (Tells true w) := by
  have KW := Lib.hid (((Keep.refl Any w).alloc (.cells #[.slice none 0 0, .slice none 0 0] 58 (0, 0))).alloc (.cells #[.slice none 0 0, .slice none 0 0] 58 (0, 0)))
  have XW := Lib.hid (blk_alloc (blk_new w (.cells #[.slice none 0 0, .slice none 0 0] 58 (0, 0))) (.cells #[.slice none 0 0, .slice none 0 0] 58 (0, 0)))
  have YW := Lib.hid (show ((w.alloc (.cells #[.slice none 0 0, .slice none 0 0] 58 (0, 0))).alloc (.cells #[.slice none 0 0, .slice none 0 0] 58 (0, 0))).heap[w.heap.size + 1]? = some (.cells #[.slice none 0 0, .slice none 0 0] 58 (0, 0)) by rw [← World.size_alloc w (.cells #[.slice none 0 0, .slice none 0 0] 58 (0, 0))]; exact blk_new _ _)
  go_enter Tryz.func57, Tryz.ntmps57
  go_wp2_with (go_at_call 62; refine (asStrs_calls [] _ _ _ (Sl.nil' none) (Sl.nil' none)).mono ?_; rintro e w2 ⟨rfl, hK2⟩; have KW := Lib.hid (KW.out.trans hK2); have XW := Lib.hid (blk_keep hK2 XW.out trivial); have x0 := (blk_cell XW.out 0).trans rfl; have x1 := (blk_cell XW.out 1).trans rfl; have YW := Lib.hid (blk_keep hK2 YW.out trivial); have y0 := (blk_cell YW.out 0).trans rfl; have y1 := (blk_cell YW.out 1).trans rfl; clear hK2)
  go_loopg [5] 1 (fun g i wr => i = .int .i64 0 ∧ g = 1 ∧ wr.heap[w.heap.size]? = some (.cells #[.slice none 0 0, .slice none 0 0] 58 (0, 0)) ∧ wr.heap[w.heap.size + 1]? = some (.cells #[.slice none 0 0, .slice none 0 0] 58 (0, 0)) ∧ Keep Any w wr)
  case atStart => exact ⟨rfl, rfl, XW.out, YW.out, KW.out⟩
  case round =>
    obtain ⟨rfl, hg, hx, hy, hK⟩ := hrel
    have XL := Lib.hid hx
    have YL := Lib.hid hy
    have KL := Lib.hid hK
    clear hx hy hK hg
    have x0 := (blk_cell XL.out 0).trans rfl
    have x1 := (blk_cell XL.out 1).trans rfl
    have y0 := (blk_cell YL.out 0).trans rfl
    have y1 := (blk_cell YL.out 1).trans rfl
    go_wp2
    go_ret
    exact ⟨rfl, KL.out⟩
set_option maxRecDepth 20000 in
set_option maxHeartbeats 2000000 in
theorem asTalk_calls  (w : World) :
    Calls Tryz.prog 41 #[.agg #[.int .i64 0, .int .i64 (-1), .slice none 0 0, .slice none 0 0, .int .i64 0], .agg #[.int .i64 0, .int .i64 (-1), .slice none 0 0, .slice none 0 0, .int .i64 0]] w (Tells true w) := by
  have KW := Lib.hid (((Keep.refl Any w).alloc (.cells #[.int .i64 0, .int .i64 (-1), .slice none 0 0, .slice none 0 0, .int .i64 0] 60 (0, 0))).alloc (.cells #[.int .i64 0, .int .i64 (-1), .slice none 0 0, .slice none 0 0, .int .i64 0] 60 (0, 0)))
  have XW := Lib.hid (blk_alloc (blk_new w (.cells #[.int .i64 0, .int .i64 (-1), .slice none 0 0, .slice none 0 0, .int .i64 0] 60 (0, 0))) (.cells #[.int .i64 0, .int .i64 (-1), .slice none 0 0, .slice none 0 0, .int .i64 0] 60 (0, 0)))
  have YW := Lib.hid (show ((w.alloc (.cells #[.int .i64 0, .int .i64 (-1), .slice none 0 0, .slice none 0 0, .int .i64 0] 60 (0, 0))).alloc (.cells #[.int .i64 0, .int .i64 (-1), .slice none 0 0, .slice none 0 0, .int .i64 0] 60 (0, 0))).heap[w.heap.size + 1]? = some (.cells #[.int .i64 0, .int .i64 (-1), .slice none 0 0, .slice none 0 0, .int .i64 0] 60 (0, 0)) by rw [← World.size_alloc w (.cells #[.int .i64 0, .int .i64 (-1), .slice none 0 0, .slice none 0 0, .int .i64 0] 60 (0, 0))]; exact blk_new _ _)
  go_enter Tryz.func41, Tryz.ntmps41
  go_wp2_with (go_at_call 57; refine (asTable_calls _).mono ?_; rintro e w2 ⟨rfl, hK2⟩; have KW := Lib.hid (KW.out.trans hK2); have XW := Lib.hid (blk_keep hK2 XW.out trivial); have x0 := (blk_cell XW.out 0).trans rfl; have x1 := (blk_cell XW.out 1).trans rfl; have x2 := (blk_cell XW.out 2).trans rfl; have x3 := (blk_cell XW.out 3).trans rfl; have x4 := (blk_cell XW.out 4).trans rfl; have YW := Lib.hid (blk_keep hK2 YW.out trivial); have y0 := (blk_cell YW.out 0).trans rfl; have y1 := (blk_cell YW.out 1).trans rfl; have y2 := (blk_cell YW.out 2).trans rfl; have y3 := (blk_cell YW.out 3).trans rfl; have y4 := (blk_cell YW.out 4).trans rfl; clear hK2)
  go_ret
  exact ⟨rfl, KW.out⟩
set_option maxRecDepth 20000 in
set_option maxHeartbeats 2000000 in
theorem asLink_calls  (w : World) :
    Calls Tryz.prog 23 #[.agg #[.int .i64 0, .int .i64 (-1), .slice none 0 0, .slice none 0 0, .int .i64 0, .int .i64 (-1), .string ⟨#[]⟩], .agg #[.int .i64 0, .int .i64 (-1), .slice none 0 0, .slice none 0 0, .int .i64 0, .int .i64 (-1), .string ⟨#[]⟩]] w (Tells true w) := by
  have KW := Lib.hid (((Keep.refl Any w).alloc (.cells #[.int .i64 0, .int .i64 (-1), .slice none 0 0, .slice none 0 0, .int .i64 0, .int .i64 (-1), .string ⟨#[]⟩] 62 (0, 0))).alloc (.cells #[.int .i64 0, .int .i64 (-1), .slice none 0 0, .slice none 0 0, .int .i64 0, .int .i64 (-1), .string ⟨#[]⟩] 62 (0, 0)))
  have XW := Lib.hid (blk_alloc (blk_new w (.cells #[.int .i64 0, .int .i64 (-1), .slice none 0 0, .slice none 0 0, .int .i64 0, .int .i64 (-1), .string ⟨#[]⟩] 62 (0, 0))) (.cells #[.int .i64 0, .int .i64 (-1), .slice none 0 0, .slice none 0 0, .int .i64 0, .int .i64 (-1), .string ⟨#[]⟩] 62 (0, 0)))
  have YW := Lib.hid (show ((w.alloc (.cells #[.int .i64 0, .int .i64 (-1), .slice none 0 0, .slice none 0 0, .int .i64 0, .int .i64 (-1), .string ⟨#[]⟩] 62 (0, 0))).alloc (.cells #[.int .i64 0, .int .i64 (-1), .slice none 0 0, .slice none 0 0, .int .i64 0, .int .i64 (-1), .string ⟨#[]⟩] 62 (0, 0))).heap[w.heap.size + 1]? = some (.cells #[.int .i64 0, .int .i64 (-1), .slice none 0 0, .slice none 0 0, .int .i64 0, .int .i64 (-1), .string ⟨#[]⟩] 62 (0, 0)) by rw [← World.size_alloc w (.cells #[.int .i64 0, .int .i64 (-1), .slice none 0 0, .slice none 0 0, .int .i64 0, .int .i64 (-1), .string ⟨#[]⟩] 62 (0, 0))]; exact blk_new _ _)
  go_enter Tryz.func23, Tryz.ntmps23
  go_wp2_with (go_at_call 41; refine (asTalk_calls _).mono ?_; rintro e w2 ⟨rfl, hK2⟩; have KW := Lib.hid (KW.out.trans hK2); have XW := Lib.hid (blk_keep hK2 XW.out trivial); have x0 := (blk_cell XW.out 0).trans rfl; have x1 := (blk_cell XW.out 1).trans rfl; have x2 := (blk_cell XW.out 2).trans rfl; have x3 := (blk_cell XW.out 3).trans rfl; have x4 := (blk_cell XW.out 4).trans rfl; have x5 := (blk_cell XW.out 5).trans rfl; have x6 := (blk_cell XW.out 6).trans rfl; have YW := Lib.hid (blk_keep hK2 YW.out trivial); have y0 := (blk_cell YW.out 0).trans rfl; have y1 := (blk_cell YW.out 1).trans rfl; have y2 := (blk_cell YW.out 2).trans rfl; have y3 := (blk_cell YW.out 3).trans rfl; have y4 := (blk_cell YW.out 4).trans rfl; have y5 := (blk_cell YW.out 5).trans rfl; have y6 := (blk_cell YW.out 6).trans rfl; clear hK2)
  go_ret
  exact ⟨rfl, KW.out⟩
set_option maxRecDepth 20000 in
set_option maxHeartbeats 2000000 in
theorem asStore_calls (l : List Ru) (a1 a2 d1 d2 : Option Addr) (c1 c2 e1 e2 : Nat) (w : World) (h1 : Rus w Any (.slice a1 l.length c1) l) (h2 : Rus w Any (.slice a2 l.length c2) l) :
    Calls Tryz.prog 9 #[.agg #[.slice none 0 0, .slice none 0 0, .int .i64 0, .int .i64 0, .slice a1 l.length c1, .int .i64 0, .slice d1 0 e1, .slice none 0 0, .int .i64 0], .agg #[.slice none 0 0, .slice none 0 0, .int .i64 0, .int .i64 0, .slice a2 l.length c2, .int .i64 0, .slice d2 0 e2, .slice none 0 0, .int .i64 0]] w (Tells true w) := by
  have H1 := Lib.hid h1
  have H2 := Lib.hid h2
  have LM := Sl.len_le h1
  clear h1 h2
  have KW := Lib.hid (((Keep.refl Any w).alloc (.cells #[.slice none 0 0, .slice none 0 0, .int .i64 0, .int .i64 0, .slice a1 l.length c1, .int .i64 0, .slice d1 0 e1, .slice none 0 0, .int .i64 0] 41 (0, 0))).alloc (.cells #[.slice none 0 0, .slice none 0 0, .int .i64 0, .int .i64 0, .slice a2 l.length c2, .int .i64 0, .slice d2 0 e2, .slice none 0 0, .int .i64 0] 41 (0, 0)))
  have XW := Lib.hid (blk_alloc (blk_new w (.cells #[.slice none 0 0, .slice none 0 0, .int .i64 0, .int .i64 0, .slice a1 l.length c1, .int .i64 0, .slice d1 0 e1, .slice none 0 0, .int .i64 0] 41 (0, 0))) (.cells #[.slice none 0 0, .slice none 0 0, .int .i64 0, .int .i64 0, .slice a2 l.length c2, .int .i64 0, .slice d2 0 e2, .slice none 0 0, .int .i64 0] 41 (0, 0)))
  have YW := Lib.hid (show ((w.alloc (.cells #[.slice none 0 0, .slice none 0 0, .int .i64 0, .int .i64 0, .slice a1 l.length c1, .int .i64 0, .slice d1 0 e1, .slice none 0 0, .int .i64 0] 41 (0, 0))).alloc (.cells #[.slice none 0 0, .slice none 0 0, .int .i64 0, .int .i64 0, .slice a2 l.length c2, .int .i64 0, .slice d2 0 e2, .slice none 0 0, .int .i64 0] 41 (0, 0))).heap[w.heap.size + 1]? = some (.cells #[.slice none 0 0, .slice none 0 0, .int .i64 0, .int .i64 0, .slice a2 l.length c2, .int .i64 0, .slice d2 0 e2, .slice none 0 0, .int .i64 0] 41 (0, 0)) by rw [← World.size_alloc w (.cells #[.slice none 0 0, .slice none 0 0, .int .i64 0, .int .i64 0, .slice a1 l.length c1, .int .i64 0, .slice d1 0 e1, .slice none 0 0, .int .i64 0] 41 (0, 0))]; exact blk_new _ _)
  go_enter Tryz.func9, Tryz.ntmps9
  go_wp2_with (first | (go_at_call 26; refine (asGraph_calls _).mono ?_; rintro e w2 ⟨rfl, hK2⟩; have KW := Lib.hid (KW.out.trans hK2); have XW := Lib.hid (blk_keep hK2 XW.out trivial); have x0 := (blk_cell XW.out 0).trans rfl; have x1 := (blk_cell XW.out 1).trans rfl; have x2 := (blk_cell XW.out 2).trans rfl; have x3 := (blk_cell XW.out 3).trans rfl; have x4 := (blk_cell XW.out 4).trans rfl; have x5 := (blk_cell XW.out 5).trans rfl; have x6 := (blk_cell XW.out 6).trans rfl; have x7 := (blk_cell XW.out 7).trans rfl; have x8 := (blk_cell XW.out 8).trans rfl; have YW := Lib.hid (blk_keep hK2 YW.out trivial); have y0 := (blk_cell YW.out 0).trans rfl; have y1 := (blk_cell YW.out 1).trans rfl; have y2 := (blk_cell YW.out 2).trans rfl; have y3 := (blk_cell YW.out 3).trans rfl; have y4 := (blk_cell YW.out 4).trans rfl; have y5 := (blk_cell YW.out 5).trans rfl; have y6 := (blk_cell YW.out 6).trans rfl; have y7 := (blk_cell YW.out 7).trans rfl; have y8 := (blk_cell YW.out 8).trans rfl; clear hK2) | (go_at_call 27; refine (asAsks_nil _ _ _ _ _).mono ?_; rintro e w2 ⟨rfl, hK2⟩; have KW := Lib.hid (KW.out.trans hK2); have XW := Lib.hid (blk_keep hK2 XW.out trivial); have x0 := (blk_cell XW.out 0).trans rfl; have x1 := (blk_cell XW.out 1).trans rfl; have x2 := (blk_cell XW.out 2).trans rfl; have x3 := (blk_cell XW.out 3).trans rfl; have x4 := (blk_cell XW.out 4).trans rfl; have x5 := (blk_cell XW.out 5).trans rfl; have x6 := (blk_cell XW.out 6).trans rfl; have x7 := (blk_cell XW.out 7).trans rfl; have x8 := (blk_cell XW.out 8).trans rfl; have YW := Lib.hid (blk_keep hK2 YW.out trivial); have y0 := (blk_cell YW.out 0).trans rfl; have y1 := (blk_cell YW.out 1).trans rfl; have y2 := (blk_cell YW.out 2).trans rfl; have y3 := (blk_cell YW.out 3).trans rfl; have y4 := (blk_cell YW.out 4).trans rfl; have y5 := (blk_cell YW.out 5).trans rfl; have y6 := (blk_cell YW.out 6).trans rfl; have y7 := (blk_cell YW.out 7).trans rfl; have y8 := (blk_cell YW.out 8).trans rfl; clear hK2))
  go_loopg [5] (l.length + 1) (fun g i wr => ∃ k : Nat, k ≤ l.length ∧ i = .int .i64 k ∧ g = l.length + 1 - k ∧ wr.heap[w.heap.size]? = some (.cells #[.slice none 0 0, .slice none 0 0, .int .i64 0, .int .i64 0, .slice a1 l.length c1, .int .i64 0, .slice d1 0 e1, .slice none 0 0, .int .i64 0] 41 (0, 0)) ∧ wr.heap[w.heap.size + 1]? = some (.cells #[.slice none 0 0, .slice none 0 0, .int .i64 0, .int .i64 0, .slice a2 l.length c2, .int .i64 0, .slice d2 0 e2, .slice none 0 0, .int .i64 0] 41 (0, 0)) ∧ Keep Any w wr)
  case atStart => exact ⟨0, by omega, rfl, rfl, XW.out, YW.out, KW.out⟩
  case round =>
    obtain ⟨k, hk, rfl, hg, hx, hy, hK⟩ := hrel
    have XL := Lib.hid hx
    have YL := Lib.hid hy
    have KL := Lib.hid hK
    have HG := Lib.hid hg
    clear hx hy hK hg
    have x0 := (blk_cell XL.out 0).trans rfl
    have x1 := (blk_cell XL.out 1).trans rfl
    have x2 := (blk_cell XL.out 2).trans rfl
    have x3 := (blk_cell XL.out 3).trans rfl
    have x4 := (blk_cell XL.out 4).trans rfl
    have x5 := (blk_cell XL.out 5).trans rfl
    have x6 := (blk_cell XL.out 6).trans rfl
    have x7 := (blk_cell XL.out 7).trans rfl
    have x8 := (blk_cell XL.out 8).trans rfl
    have y0 := (blk_cell YL.out 0).trans rfl
    have y1 := (blk_cell YL.out 1).trans rfl
    have y2 := (blk_cell YL.out 2).trans rfl
    have y3 := (blk_cell YL.out 3).trans rfl
    have y4 := (blk_cell YL.out 4).trans rfl
    have y5 := (blk_cell YL.out 5).trans rfl
    have y6 := (blk_cell YL.out 6).trans rfl
    have y7 := (blk_cell YL.out 7).trans rfl
    have y8 := (blk_cell YL.out 8).trans rfl
    by_cases hlt : k < l.length
    · have hx : l[k]? = some l[k] := List.getElem?_eq_getElem hlt
      obtain ⟨ad, rfl, _, _, p0, p1⟩ := rus_at H1.out KL.out hx
      obtain ⟨ad', rfl, _, _, q0, q1⟩ := rus_at H2.out KL.out hx
      generalize l[k] = x at *
      have k0 : (0 : Int) ≤ (k : Int) := by omega
      have k1 : (k : Int) < (l.length : Int) := by omega
      have b1 : (x.label.toList == x.label.toList) = true := by simp
      have b2 : (x.name.toList == x.name.toList) = true := by simp
      clear hx
      go_wp2
      go_quiet (fail)
      go_wp2
      go_roundg (gk - 1)
      case rel => exact ⟨k + 1, by omega, by go_num, by have := HG.out; omega, XL.out, YL.out, KL.out.drewN _⟩
      case measure => have := HG.out; omega
    · go_wp2
      obtain ⟨wz, hwz⟩ : ∃ wz, wz = wr := ⟨_, rfl⟩
      subst hwz
      go_loopg [6] 1 (fun g i wr => i = .int .i64 0 ∧ g = 1 ∧ wr.heap[w.heap.size]? = some (.cells #[.slice none 0 0, .slice none 0 0, .int .i64 0, .int .i64 0, .slice a1 l.length c1, .int .i64 0, .slice d1 0 e1, .slice none 0 0, .int .i64 0] 41 (0, 0)) ∧ wr.heap[w.heap.size + 1]? = some (.cells #[.slice none 0 0, .slice none 0 0, .int .i64 0, .int .i64 0, .slice a2 l.length c2, .int .i64 0, .slice d2 0 e2, .slice none 0 0, .int .i64 0] 41 (0, 0)) ∧ Keep Any w wr)
      case atStart => exact ⟨rfl, rfl, XL.out, YL.out, KL.out⟩
      case round =>
        obtain ⟨rfl, hg, hx, hy, hK⟩ := hrel
        have XL := Lib.hid hx
        have YL := Lib.hid hy
        have KL := Lib.hid hK
        clear hx hy hK hg
        have x0 := (blk_cell XL.out 0).trans rfl
        have x1 := (blk_cell XL.out 1).trans rfl
        have x2 := (blk_cell XL.out 2).trans rfl
        have x3 := (blk_cell XL.out 3).trans rfl
        have x4 := (blk_cell XL.out 4).trans rfl
        have x5 := (blk_cell XL.out 5).trans rfl
        have x6 := (blk_cell XL.out 6).trans rfl
        have x7 := (blk_cell XL.out 7).trans rfl
        have x8 := (blk_cell XL.out 8).trans rfl
        have y0 := (blk_cell YL.out 0).trans rfl
        have y1 := (blk_cell YL.out 1).trans rfl
        have y2 := (blk_cell YL.out 2).trans rfl
        have y3 := (blk_cell YL.out 3).trans rfl
        have y4 := (blk_cell YL.out 4).trans rfl
        have y5 := (blk_cell YL.out 5).trans rfl
        have y6 := (blk_cell YL.out 6).trans rfl
        have y7 := (blk_cell YL.out 7).trans rfl
        have y8 := (blk_cell YL.out 8).trans rfl
        go_wp2
        go_ret
        exact ⟨rfl, KL.out⟩
set_option maxRecDepth 20000 in
set_option maxHeartbeats 2000000 in
theorem asServer_calls (lh : List Hm) (lk : List Unit) (a1 a2 b1 b2 : Option Addr) (c1 c2 d1 d2 : Nat) (w : World) (h1 : Hos w (.slice a1 lh.length c1) lh) (h2 : Hos w (.slice a2 lh.length c2) lh) (h3 : Lks w (.slice b1 lk.length d1) lk) (h4 : Lks w (.slice b2 lk.length d2) lk) :
    Calls Tryz.prog 7 #[.agg #[.slice a1 lh.length c1, .slice b1 lk.length d1], .agg #[.slice a2 lh.length c2, .slice b2 lk.length d2]] w (Tells true w) := by
  have H1 := Lib.hid h1
  have H2 := Lib.hid h2
  have H3 := Lib.hid h3
  have H4 := Lib.hid h4
  have LM := Sl.len_le h1
  have LN := Sl.len_le h3
  clear h1 h2 h3 h4
  have KW := Lib.hid (((Keep.refl Any w).alloc (.cells #[.slice a1 lh.length c1, .slice b1 lk.length d1] 30 (0, 0))).alloc (.cells #[.slice a2 lh.length c2, .slice b2 lk.length d2] 30 (0, 0)))
  have XW := Lib.hid (blk_alloc (blk_new w (.cells #[.slice a1 lh.length c1, .slice b1 lk.length d1] 30 (0, 0))) (.cells #[.slice a2 lh.length c2, .slice b2 lk.length d2] 30 (0, 0)))
  have YW := Lib.hid (show ((w.alloc (.cells #[.slice a1 lh.length c1, .slice b1 lk.length d1] 30 (0, 0))).alloc (.cells #[.slice a2 lh.length c2, .slice b2 lk.length d2] 30 (0, 0))).heap[w.heap.size + 1]? = some (.cells #[.slice a2 lh.length c2, .slice b2 lk.length d2] 30 (0, 0)) by rw [← World.size_alloc w (.cells #[.slice a1 lh.length c1, .slice b1 lk.length d1] 30 (0, 0))]; exact blk_new _ _)
  go_enter Tryz.func7, Tryz.ntmps7
  go_wp2
  go_loopg [5] (lh.length + 1) (fun g i wr => ∃ k : Nat, k ≤ lh.length ∧ i = .int .i64 k ∧ g = lh.length + 1 - k ∧ wr.heap[w.heap.size]? = some (.cells #[.slice a1 lh.length c1, .slice b1 lk.length d1] 30 (0, 0)) ∧ wr.heap[w.heap.size + 1]? = some (.cells #[.slice a2 lh.length c2, .slice b2 lk.length d2] 30 (0, 0)) ∧ Keep Any w wr)
  case atStart => exact ⟨0, by omega, rfl, rfl, XW.out, YW.out, KW.out⟩
  case round =>
    obtain ⟨k, hk, rfl, hg, hx, hy, hK⟩ := hrel
    have XL := Lib.hid hx
    have YL := Lib.hid hy
    have KL := Lib.hid hK
    have HG := Lib.hid hg
    clear hx hy hK hg
    have x0 := (blk_cell XL.out 0).trans rfl
    have x1 := (blk_cell XL.out 1).trans rfl
    have y0 := (blk_cell YL.out 0).trans rfl
    have y1 := (blk_cell YL.out 1).trans rfl
    by_cases hlt : k < lh.length
    · have hx : lh[k]? = some lh[k] := List.getElem?_eq_getElem hlt
      obtain ⟨ad, ra1, rd1, rc1, rfl, _, hr1, p0, p1, p2, p3, p4, p5, p6, p7, p8, p9⟩ := hos_at H1.out KL.out hx
      obtain ⟨ad', ra2, rd2, rc2, rfl, _, hr2, q0, q1, q2, q3, q4, q5, q6, q7, q8, q9⟩ := hos_at H2.out KL.out hx
      have HR1 := Lib.hid hr1
      have HR2 := Lib.hid hr2
      generalize lh[k] = x at *
      have k0 : (0 : Int) ≤ (k : Int) := by omega
      have k1 : (k : Int) < (lh.length : Int) := by omega
      have b1 : (x.1.toList != x.1.toList) = false := by simp
      clear hx hr1 hr2
      go_wp2
      go_still_tail 26, (by kernel_rfl)
      change wpList _ _ _ _ _ wr.drew
      go_wp2_with (go_at_call 9; refine (asStore_calls x.2 _ _ _ _ _ _ _ _ _ (Rus.keep HR1.out ((Keep.refl _ _).drew)) (Rus.keep HR2.out ((Keep.refl _ _).drew))).mono ?_; rintro e w2 ⟨rfl, hK2⟩)
      go_roundg (gk - 1)
      case rel => exact ⟨k + 1, by omega, by go_num, by have := HG.out; omega, blk_keep hK2 XL.out trivial, blk_keep hK2 YL.out trivial, KL.out.drew.trans hK2⟩
      case measure => have := HG.out; omega
    · go_wp2
      obtain ⟨wz, hwz⟩ : ∃ wz, wz = wr := ⟨_, rfl⟩
      subst hwz
      go_loopg [6] (lk.length + 1) (fun g i wr => ∃ k : Nat, k ≤ lk.length ∧ i = .int .i64 k ∧ g = lk.length + 1 - k ∧ wr.heap[w.heap.size]? = some (.cells #[.slice a1 lh.length c1, .slice b1 lk.length d1] 30 (0, 0)) ∧ wr.heap[w.heap.size + 1]? = some (.cells #[.slice a2 lh.length c2, .slice b2 lk.length d2] 30 (0, 0)) ∧ Keep Any w wr)
      case atStart => exact ⟨0, by omega, rfl, rfl, XL.out, YL.out, KL.out⟩
      case round =>
        obtain ⟨j, hj, rfl, hg, hx, hy, hK⟩ := hrel
        have XL := Lib.hid hx
        have YL := Lib.hid hy
        have KL := Lib.hid hK
        have HG := Lib.hid hg
        clear hx hy hK hg
        have x0 := (blk_cell XL.out 0).trans rfl
        have x1 := (blk_cell XL.out 1).trans rfl
        have y0 := (blk_cell YL.out 0).trans rfl
        have y1 := (blk_cell YL.out 1).trans rfl
        by_cases hlj : j < lk.length
        · obtain ⟨ad, rfl, p0, p1, p2, p3, p4, p5, p6⟩ := lks_at H3.out KL.out hlj
          obtain ⟨ad', rfl, q0, q1, q2, q3, q4, q5, q6⟩ := lks_at H4.out KL.out hlj
          have k0 : (0 : Int) ≤ (j : Int) := by omega
          have k1 : (j : Int) < (lk.length : Int) := by omega
          go_wp2
          go_still_tail 10, (by kernel_rfl)
          change wpList _ _ _ _ _ wr.drew
          go_wp2_with (go_at_call 23; refine (asLink_calls _).mono ?_; rintro e w2 ⟨rfl, hK2⟩)
          go_roundg (gk - 1)
          case rel => exact ⟨j + 1, by omega, by go_num, by have := HG.out; omega, blk_keep hK2 XL.out trivial, blk_keep hK2 YL.out trivial, KL.out.drew.trans hK2⟩
          case measure => have := HG.out; omega
        · go_wp2
          go_ret
          exact ⟨rfl, KL.out⟩
end Go.Proofs.YtngghnakbhoiaaaGreatDoor

/- ServerNew of the program. -/
namespace Go.Proofs.YtngghnakbhoiaaaGreatDoor
open Go.RowKit
set_option linter.unusedVariables false
set_option linter.unusedSimpArgs false
def NamesGood (l : List ByteArray) : Prop := Good (fun t => nameOk t = true) l l.length
def ServerGood (names : List ByteArray) (rules : List Ru) (n : Int) : Prop := 1 ≤ names.length ∧ names.length ≤ 3 ∧ NamesGood names ∧ 1 ≤ n ∧ n ≤ 3 ∧ RulesGood rules
/-- a server that begins: homes with the rules, links to which nobody talked; or nothing -/
def ServerR (names : List ByteArray) (rules : List Ru) (n : Int) (w : World) (e : Ending) (w' : World) : Prop :=
  ∃ (b : Bool) (hs ls : Value) (m : Nat), (b = true ↔ ServerGood names rules n) ∧ e = .returned (.tuple #[.agg #[hs, ls], .bool b]) ∧ SHos w' (Mid' w.heap.size m) hs (if b then names.map (·, rules) else []) ∧
    SLks w' (Mid' m w'.heap.size) ls (if b then List.replicate n.toNat () else []) ∧ (w.heap.size ≤ m ∧ m ≤ w'.heap.size) ∧ Keep Any w w'
theorem ServerR.no {names : List ByteArray} {rules : List Ru} {n : Int} {w w' : World} (h : ¬ ServerGood names rules n) (k : Keep Any w w') : ServerR names rules n w (.returned (.tuple #[.agg #[.slice none 0 0, .slice none 0 0], .bool false])) w' :=
  ⟨false, _, _, w'.heap.size, by simp [h], rfl, SSl.nil, SSl.nil, ⟨k.size, Nat.le_refl _⟩, k⟩
theorem SSl.keep' {w w' : World} {ok : Nat → Prop} {v : Value} {l : List Hm} (h : SHos w ok v l) (k : Keep Any w w') : SHos w' ok v l := SSl.keep h (fun _ _ _ _ h k => SHo.keep h k) k.any
theorem at2' {w : World} {g : Nat} {T : TypeId} {a b : Value} (h : w.heap[g]? = some (.cells #[a, b] T (0, 0))) : w.cell? ⟨g, 0, none⟩ = some a ∧ w.cell? ⟨g, 1, none⟩ = some b := ⟨(blk_cell h 0).trans rfl, (blk_cell h 1).trans rfl⟩
set_option maxHeartbeats 8000000 in
set_option maxRecDepth 20000 in
theorem serverNew_calls (names : List ByteArray) (v : Value) (rules : List Ru) (rs : Value) (n : Int) (hn : I64 n) (w : World) (hs : Strs w Any v names) (hr : Rus w Any rs rules) (hl : rules.length ≤ 1048576) :
    Calls Tryz.prog 5 #[v, rs, .int .i64 n] w (ServerR names rules n w) := by
  have HS := Lib.hid hs
  have NA := Lib.hid (fun w' (k : Keep Any w w') => namesAlone_calls names v w' (Strs.keep hs k))
  have SN := Lib.hid (fun w' (k : Keep Any w w') => storeNew_calls rules rs w' (Rus.keep hr k) hl)
  have LN := Lib.hid (fun w' => (show Calls Tryz.prog 16 #[] w' (fun e w'' => e = .returned (.agg #[.int .i64 0, .int .i64 (-1), .slice none 0 0, .slice none 0 0, .int .i64 0, .int .i64 (-1), .string ⟨#[]⟩]) ∧ Keep Any w' w'') from linkNew_calls w'))
  obtain ⟨a, c, rfl, hc, hm, _⟩ := hs
  obtain ⟨ra, rc, rfl, _, _, _⟩ := hr
  go_enter Tryz.func5, Tryz.ntmps5
  go_upto_region 1 with fail
  go_cut [33] from 13 to 33 (fun x wc => ∃ b : Bool, x = .bool b ∧ (b = false ↔ (1 ≤ names.length ∧ names.length ≤ 3 ∧ NamesGood names ∧ 1 ≤ n ∧ n ≤ 3)) ∧ Keep Any (w.alloc (.cells #[.slice none 0 0, .slice none 0 0] 30 (0, 0))) wc)
  case first =>
    have K1 := Lib.hid ((Keep.refl Any w).alloc (.cells #[.slice none 0 0, .slice none 0 0] 30 (0, 0)))
    by_cases h1 : (names.length : Int) < 1
    · go_wp2
      go_meet
      exact ⟨true, rfl, by simp; omega, Keep.refl _ _⟩
    by_cases h2 : (3 : Int) < (names.length : Int)
    · go_wp2
      go_meet
      exact ⟨true, rfl, by simp; omega, Keep.refl _ _⟩
    go_wp2_with fail
    refine (NA.out _ K1.out).mono ?_
    rintro e w2 ⟨b, rfl, hb, hK⟩
    have HB := Lib.hid hb
    have K2 := Lib.hid hK
    clear hb hK
    cases b
    · go_wp2
      go_meet
      exact ⟨true, rfl, by have h := HB.out; simp only [NamesGood]; simp at h; simp [h], K2.out⟩
    by_cases h3 : n < 1
    · go_wp2
      go_meet
      exact ⟨true, rfl, by simp; omega, K2.out⟩
    by_cases h4 : 3 < n
    · go_wp2
      go_meet
      exact ⟨true, rfl, by simp; omega, K2.out⟩
    go_wp2
    go_meet
    exact ⟨false, by simp [h3, h4], by have h := HB.out; simp only [true_iff] at h; exact ⟨fun _ => ⟨by omega, by omega, h, by omega, by omega⟩, fun _ => rfl⟩, K2.out⟩
  case rest =>
    obtain ⟨b, rfl, hb, hK⟩ := hcut
    have HB := Lib.hid hb
    have K1 := Lib.hid (((Keep.refl Any w).alloc _).trans hK)
    have B1 := Lib.hid (blk_keep hK (blk_new _ _) trivial)
    clear hb hK
    obtain ⟨r0, r1⟩ := at2' B1.out
    have f0 := blk_frozen B1.out 0
    have f1 := blk_frozen B1.out 1
    have zr := blk_lt B1.out
    cases b
    case true =>
      go_wp2
      refine bodyPost_ret (v := .tuple #[.agg #[.slice none 0 0, .slice none 0 0], .bool false]) (by simp [results, Tryz.results5, go_sem, r0, r1, f0, f1, zr]) rfl (ServerR.no (fun h => by have hb := HB.out; obtain ⟨g1, g2, g3, g4, g5, g6⟩ := h; simp at hb; exact absurd g5 (by have := hb g1 g2 g3 g4; omega)) ?_)
      have hz := Nat.le_refl w.heap.size
      repeat (first | (with_reducible exact K1.out) | (with_reducible refine kset_b' hz ?_))
    case false =>
      have HG := Lib.hid (HB.out.1 rfl)
      have ZZ := Lib.hid (show w.heap.size < wc.heap.size from zr)
      clear r0 r1 f0 f1 zr
      obtain ⟨i0, hi, hzz⟩ := Option.map_eq_some_iff.1 infoHo
      simp only [Prod.mk.injEq] at hzz
      obtain ⟨hz0, hz1, hz2⟩ := hzz
      go_wp2
      go_loopg [37] (names.length + 1) (fun g i wr => ∃ (k top : Nat) (hv : Value) (css : List (List Value)), k ≤ names.length ∧ i = .int .i64 k ∧ g = names.length + 1 - k ∧ wr.heap[w.heap.size]? = some (.cells #[.slice none 0 0, .slice none 0 0] 30 (0, 0)) ∧ wr.heap[wc.heap.size]? = some (.cells #[hv, .slice none 0 0] 30 (0, 0)) ∧ SRow 10 SHo wr (wc.heap.size + 1) top 46 hv ((names.take k).map (·, rules)) css ∧ (0 < k → RulesGood rules) ∧ Keep Any w wr)
      case atStart => exact ⟨0, wc.heap.size + 1, _, [], by omega, rfl, rfl, blk_alloc B1.out _, blk_new _ _, SRow.nil _ _ _ _ (Nat.le_refl _) (by simp), fun h => absurd h (by omega), K1.out.alloc _⟩
      case round =>
        obtain ⟨k, top, hv, css, hk, rfl, hg, hZ, hN, hR, hGo, hK⟩ := hrel
        have HGK := Lib.hid hg
        have HZ := Lib.hid hZ
        have HN := Lib.hid hN
        have HR := Lib.hid hR
        have HGo := Lib.hid hGo
        have HK := Lib.hid hK
        clear hg hZ hN hR hGo hK
        have HLE := Lib.hid (show ((names.take k).map fun x => ((x, rules) : Hm)).length = k by rw [List.length_map, List.length_take]; omega)
        obtain ⟨ah, ch, hv', _⟩ := HR.out.form'
        rw [HLE.out] at hv'
        subst hv'
        by_cases hlt : k < names.length
        · have hx : names[k]? = some names[k] := List.getElem?_eq_getElem hlt
          have HTK := Lib.hid (show (names.take (k + 1)).map (fun x => ((x, rules) : Hm)) = (names.take k).map (fun x => ((x, rules) : Hm)) ++ [(names[k], rules)] by rw [List.take_add_one, List.map_append, hx]; rfl)
          obtain ⟨ad, rfl, hf, c0⟩ := strs_at HS.out HK.out hx
          have HF := Lib.hid hf
          generalize names[k] = x at *
          clear hx hf
          have k0 : (0 : Int) ≤ (k : Int) := by omega
          have k1 : (k : Int) < (names.length : Int) := by omega
          have kc : (k : Int) ≤ (c : Int) := by omega
          go_wp2_with fail
          refine (SN.out _ HK.out).mono ?_
          rintro e w3 ⟨b, rs3, hb, rfl, hS, hK⟩
          have HB3 := Lib.hid hb
          have S3 := Lib.hid hS
          have K3 := Lib.hid (HK.out.trans hK)
          have N3 := Lib.hid (blk_keep hK HN.out trivial)
          have B3 := Lib.hid (blk_keep hK HZ.out trivial)
          have R3 := Lib.hid (SRow.keep (R := SHo) (fun h k => SHo.keep h k) HR.out hK)
          have Z3 := Lib.hid hK.size
          clear hb hS hK
          cases b
          · obtain ⟨a3, c3, rfl⟩ : ∃ a' c', rs3 = .slice a' 0 c' := by obtain ⟨a', c', e, _⟩ := S3.out; exact ⟨a', c', e⟩
            obtain ⟨r0, r1⟩ := at2' B3.out
            have f0 := blk_frozen B3.out 0
            have f1 := blk_frozen B3.out 1
            have zr := blk_lt B3.out
            go_wp2
            (try simp only [Exit.inBlock, Exit.then])
            refine bodyPost_ret (v := .tuple #[.agg #[.slice none 0 0, .slice none 0 0], .bool false]) (by simp [results, Tryz.results5, go_sem, r0, r1, f0, f1, zr]) rfl (ServerR.no (fun h => by have hb := HB3.out; simp at hb; exact hb h.2.2.2.2.2) ?_)
            have hz := Nat.le_refl w.heap.size
            repeat (first | (with_reducible exact K3.out) | (with_reducible refine Keep.alloc ?_ _) | (with_reducible refine kset_b' hz ?_))
          · obtain ⟨a3, c3, rfl⟩ : ∃ a' c', rs3 = .slice a' rules.length c' := by obtain ⟨a', c', e, _⟩ := S3.out; exact ⟨a', c', e⟩
            obtain ⟨n0, n1⟩ := at2' N3.out
            have fn0 := blk_frozen N3.out 0
            have zn := blk_lt N3.out
            have R3' := Lib.hid (SRow.keep (R := SHo) (fun h k => SHo.keep h k) R3.out (((Keep.refl Any w3).alloc (.cells #[.slice none 0 0, .slice none 0 0, .int .i64 0, .int .i64 0, .slice a3 rules.length c3, .int .i64 0, .slice none 0 0, .slice none 0 0, .int .i64 0] 41)).alloc (.cells ([.string x, .slice none 0 0, .slice none 0 0, .int .i64 0, .int .i64 0, .slice a3 rules.length c3, .int .i64 0, .slice none 0 0, .slice none 0 0, .int .i64 0] : List Value).toArray 46)))
            have HX3 := Lib.hid (show SHo ((w3.alloc (.cells #[.slice none 0 0, .slice none 0 0, .int .i64 0, .int .i64 0, .slice a3 rules.length c3, .int .i64 0, .slice none 0 0, .slice none 0 0, .int .i64 0] 41)).alloc (.cells ([.string x, .slice none 0 0, .slice none 0 0, .int .i64 0, .int .i64 0, .slice a3 rules.length c3, .int .i64 0, .slice none 0 0, .slice none 0 0, .int .i64 0] : List Value).toArray 46)) (Mid' wr.heap.size w3.heap.size) (x, rules) [.string x, .slice none 0 0, .slice none 0 0, .int .i64 0, .int .i64 0, .slice a3 rules.length c3, .int .i64 0, .slice none 0 0, .slice none 0 0, .int .i64 0] from ⟨_, none, rfl, HF.out, SRus.keep S3.out (((Keep.refl _ w3).alloc _).alloc _)⟩)
            go_wp2_with (at_builtin; refine wpList_append_lies _ rfl (.tmp 50) (.tmp 54) 27 rfl (wc.heap.size + 1) 46 i0 _ 10 168 Tryz.underlying27 hi hz0 hz1 hz2 rfl (by decide) (.slice ah k ch) k css.flatten rfl (by have h := R3'.out.own; rw [HLE.out] at h; exact h) ⟨w3.heap.size + 1, 0, none⟩ 1 1 [.string x, .slice none 0 0, .slice none 0 0, .int .i64 0, .int .i64 0, .slice a3 rules.length c3, .int .i64 0, .slice none 0 0, .slice none 0 0, .int .i64 0] rfl rfl (new_cells' _ _ _ (by simp)) (by simp [Value.oneCell']) (by omega) (by have := HG.out.2.1; unfold maxLen; omega) (by have := HG.out.2.1; omega) (by have := R3'.out.top_le'; omega) _ rfl ?_; intro gB cap w6 hown hgrow hblk hlt6; have R6 := Lib.hid (SRow.snoc (R := SHo) (v' := .slice (some ⟨gB, 0, none⟩) (k + 1) cap) (fun h k => SHo.keep h k) R3'.out (by rw [HLE.out]; exact hown) hgrow (hblk.elim (fun h => .inl h.symm) fun h => .inr (congrArg some (h.trans (by simp)))) HX3.out rfl (fun i hi => ⟨Nat.le_trans HR.out.top_le'.2 hi.1, by have := hi.2; simp; omega⟩)); have HB6 := Lib.hid (fun i (hi : (Value.slice ah k ch).ownBlock = some i) => (R3'.out.own.lt i hi).1); have K6 := Lib.hid (((K3.out.alloc _).alloc _).grown hgrow (fun i hi hlt => by have := HB6.out i hi; have := ZZ.out; omega)); have N6 := Lib.hid ((hgrow.block _ (by have := blk_lt N3.out; simp; omega) (fun e => by have := HB6.out _ e.symm; omega)).trans (blk_alloc (blk_alloc N3.out _) _)); have Z6 := Lib.hid ((hgrow.block _ (by have := blk_lt B3.out; simp; omega) (fun e => by have := HB6.out _ e.symm; have := ZZ.out; omega)).trans (blk_alloc (blk_alloc B3.out _) _)); obtain ⟨n0, n1⟩ := at2' N6.out; have fn0 := blk_frozen N6.out 0; have fn1 := blk_frozen N6.out 1; have zn := blk_lt N6.out; clear hown hgrow hblk hlt6)
            go_roundg (gk - 1)
            case rel => exact ⟨k + 1, _, _, _, by omega, by go_num, by have := HGK.out; omega, blk_far Z6.out _ _ (show w.heap.size ≠ wc.heap.size by have := ZZ.out; omega), (blk_set N6.out 0 _).trans rfl, by rw [HTK.out]; exact SRow.setc (R := SHo) (fun h k => SHo.keep h k) R6.out (Nat.lt_succ_self _), fun _ => (by simpa using HB3.out), K6.out.set _ _ (fun h _ => by have h : wc.heap.size < w.heap.size := h; have := ZZ.out; omega)⟩
            case measure => have := HGK.out; omega
        · obtain rfl : k = names.length := by omega
          have k1 : ¬ (names.length : Int) < (names.length : Int) := by omega
          obtain ⟨wz, hwz⟩ : ∃ wz, wz = wr := ⟨_, rfl⟩
          subst hwz
          have HH := Lib.hid (show SHos wz (Mid' (wc.heap.size + 1) wz.heap.size) (.slice ah names.length ch) (names.map fun x => ((x, rules) : Hm)) from by have h := HR.out.slice (ok := Mid' (wc.heap.size + 1) wz.heap.size) (fun i h1 h2 => ⟨h1, h2⟩); rwa [List.take_length] at h)
          have ZW := Lib.hid (show w.heap.size < wc.heap.size ∧ wc.heap.size < wz.heap.size from ⟨ZZ.out, blk_lt HN.out⟩)
          have HGR := Lib.hid (HGo.out (by have := HG.out.1; omega))
          obtain ⟨i1, hi1, hyy⟩ := Option.map_eq_some_iff.1 infoLk
          simp only [Prod.mk.injEq] at hyy
          obtain ⟨hy0, hy1, hy2⟩ := hyy
          have hn1 := HG.out.2.2.2.1
          have hn3 := HG.out.2.2.2.2
          go_wp2
          go_loopg [59] (n.toNat + 1) (fun g i wr => ∃ (j top : Nat) (lv : Value) (cssL : List (List Value)), j ≤ n.toNat ∧ i = .int .i64 j ∧ g = n.toNat + 1 - j ∧ wr.heap[w.heap.size]? = some (.cells #[.slice none 0 0, .slice none 0 0] 30 (0, 0)) ∧ wr.heap[wc.heap.size]? = some (.cells #[.slice ah names.length ch, lv] 30 (0, 0)) ∧ SRow 7 SLk wr wz.heap.size top 62 lv (List.replicate j ()) cssL ∧ SHos wr (Mid' (wc.heap.size + 1) wz.heap.size) (.slice ah names.length ch) (names.map fun x => ((x, rules) : Hm)) ∧ Keep Any w wr)
          case atStart => exact ⟨0, wz.heap.size, _, [], by omega, rfl, rfl, HZ.out, HN.out, SRow.nil _ _ _ _ (Nat.le_refl _) (Nat.le_refl _), HH.out, HK.out⟩
          case round =>
            obtain ⟨j, topL, lv, cssL, hj, rfl, hg, hZ, hN, hR, hH, hK⟩ := hrel
            have HGJ := Lib.hid hg
            have HZ2 := Lib.hid hZ
            have HN2 := Lib.hid hN
            have HR2 := Lib.hid hR
            have HH2 := Lib.hid hH
            have HK2 := Lib.hid hK
            clear hg hZ hN hR hH hK
            have HLJ := Lib.hid (show (List.replicate j ()).length = j by simp)
            obtain ⟨al, cl, hv', _⟩ := HR2.out.form'
            rw [HLJ.out] at hv'
            subst hv'
            obtain ⟨m0, m1⟩ := at2' HN2.out
            have fm1 := blk_frozen HN2.out 1
            have zm := blk_lt HN2.out
            by_cases hlt : (j : Int) < n
            · go_wp2
              go_region_law (first | (go_simp; go_at_call 16; refine (LN.out _).mono ?_; rintro e w5 ⟨rfl, hK⟩; have K5 := Lib.hid ((Keep.refl Any wr).drew.trans hK); have N5 := Lib.hid (blk_keep K5.out HN2.out trivial); have B5 := Lib.hid (blk_keep K5.out HZ2.out trivial); have R5 := Lib.hid (SRow.keep (R := SLk) (fun h k => SLk.keep h k) (SRow.keep (R := SLk) (fun h k => SLk.keep h k) HR2.out K5.out) ((Keep.refl Any w5).alloc (.cells ([.int .i64 0, .int .i64 (-1), .slice none 0 0, .slice none 0 0, .int .i64 0, .int .i64 (-1), .string ⟨#[]⟩] : List Value).toArray 62))); have H5 := Lib.hid (SSl.keep' HH2.out K5.out); obtain ⟨n0, n1⟩ := at2' N5.out; have fn1 := blk_frozen N5.out 1; have zn := blk_lt N5.out; clear hK) | (refine step_append_lies _ rfl (.tmp 62) (.tmp 64) 28 rfl wz.heap.size 62 i1 _ 7 96 Tryz.underlying28 hi1 hy0 hy1 hy2 rfl (by decide) (.slice al j cl) j cssL.flatten rfl (by have h := R5.out.own; rw [HLJ.out] at h; exact h) ⟨w5.heap.size, 0, none⟩ 1 1 [.int .i64 0, .int .i64 (-1), .slice none 0 0, .slice none 0 0, .int .i64 0, .int .i64 (-1), .string ⟨#[]⟩] rfl rfl (new_cells' _ _ _ rfl) (by simp [Value.oneCell']) (by omega) (by unfold maxLen; omega) (by omega) (by have := R5.out.top_le'; omega) _ rfl ?_; intro gB cap w6 hown hgrow hblk hlt6; have R6 := Lib.hid (SRow.snoc (R := SLk) (x := ()) (gx := fun _ => False) (v' := .slice (some ⟨gB, 0, none⟩) (j + 1) cap) (fun h k => SLk.keep h k) R5.out (by rw [HLJ.out]; exact hown) hgrow (hblk.elim (fun h => .inl h.symm) fun h => .inr (congrArg some (h.trans (by simp)))) (show SLk _ _ _ [.int .i64 0, .int .i64 (-1), .slice none 0 0, .slice none 0 0, .int .i64 0, .int .i64 (-1), .string ⟨#[]⟩] from rfl) rfl (fun i hi => hi.elim)); have HB6 := Lib.hid (fun i (hi : (Value.slice al j cl).ownBlock = some i) => (R5.out.own.lt i hi).1); have K6 := Lib.hid (((HK2.out.trans K5.out).alloc _).grown hgrow (fun i hi hlt => by have := HB6.out i hi; have := ZW.out; omega)); have N6 := Lib.hid ((hgrow.block _ (by have := blk_lt N5.out; simp; omega) (fun e => by have := HB6.out _ e.symm; have := ZW.out; omega)).trans (blk_alloc N5.out _)); have Z6 := Lib.hid ((hgrow.block _ (by have := blk_lt B5.out; simp; omega) (fun e => by have := HB6.out _ e.symm; have := ZW.out; omega)).trans (blk_alloc B5.out _)); have H6 := Lib.hid (SSl.keep H5.out (fun _ _ _ _ h k => SHo.keep h k) (((Keep.refl _ _).alloc _).grown hgrow (fun i hi _ hk => by have := HB6.out i hi; have := hk.2; omega))); obtain ⟨n0, n1⟩ := at2' N6.out; have fn1 := blk_frozen N6.out 1; have zn := blk_lt N6.out; clear hown hgrow hblk hlt6))
              all_goals
                go_wp2
                go_roundg (gk - 1)
                case rel => exact ⟨j + 1, _, _, _, by omega, by go_num, by have := HGJ.out; omega, blk_far Z6.out _ _ (show w.heap.size ≠ wc.heap.size by have := ZZ.out; omega), (blk_set N6.out 1 _).trans rfl, by rw [List.replicate_succ']; exact SRow.setc (R := SLk) (fun h k => SLk.keep h k) R6.out ZW.out.2, SSl.keep H6.out (fun _ _ _ _ h k => SHo.keep h k) ((Keep.refl _ _).set _ _ (fun _ h => Nat.not_succ_le_self _ h.1)), K6.out.set _ _ (fun h _ => by have h : wc.heap.size < w.heap.size := h; have := ZZ.out; omega)⟩
                case measure => have := HGJ.out; omega
            · obtain rfl : n = (j : Int) := by omega
              obtain ⟨r0, r1⟩ := at2' HZ2.out
              have f0 := blk_frozen HZ2.out 0
              have f1 := blk_frozen HZ2.out 1
              have zr := blk_lt HZ2.out
              go_wp2
              refine bodyPost_ret (v := .tuple #[.agg #[.slice ah names.length ch, .slice al j cl], .bool true]) (by simp [results, Tryz.results5, go_sem, r0, r1, f0, f1, zr]) rfl ⟨true, _, _, wz.heap.size, ⟨fun _ => ⟨HG.out.1, HG.out.2.1, HG.out.2.2.1, HG.out.2.2.2.1, HG.out.2.2.2.2, HGR.out⟩, fun _ => rfl⟩, rfl, ?_, ?_, ⟨by have := ZW.out; omega, by have := HR2.out.top_le'; simp only [World.size_setCell]; omega⟩, ?_⟩
              · refine SSl.mono (ok := Mid' (wc.heap.size + 1) wz.heap.size) (SSl.keep HH2.out (fun _ _ _ _ h k => SHo.keep h k) ?_) (fun k h => ⟨by have := h.1; have := ZZ.out; omega, h.2⟩)
                have hb : ¬ Mid' (wc.heap.size + 1) wz.heap.size w.heap.size := fun h => by have := h.1; have := ZZ.out; omega
                repeat (first | (with_reducible exact Keep.refl _ _) | (with_reducible refine kset_x hb ?_))
              · have e : (if true = true then List.replicate (j : Int).toNat () else []) = List.replicate j () := by simp
                rw [e]
                exact (SRow.setc (R := SLk) (fun h k => SLk.keep h k) (SRow.setc (R := SLk) (fun h k => SLk.keep h k) HR2.out (Nat.lt_trans ZW.out.1 ZW.out.2)) (Nat.lt_trans ZW.out.1 ZW.out.2)).slice (fun i h1 h2 => ⟨h1, h2⟩)
              · have hz := Nat.le_refl w.heap.size
                repeat (first | (with_reducible exact HK2.out) | (with_reducible refine kset_b' hz ?_))
end Go.Proofs.YtngghnakbhoiaaaGreatDoor

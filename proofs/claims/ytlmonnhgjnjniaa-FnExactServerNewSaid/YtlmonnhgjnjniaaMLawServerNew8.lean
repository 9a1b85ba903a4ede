/- The laws' own comparison of servers: of two that hold the same it says yes. -/
import Derived.Test.YtlmonnhgjnjniaaMLawServerNew4
/- The laws' own comparison of servers: of two that hold the same it says yes. -/
namespace Go.Proofs.Ytlmonnhgjnjniaa
open Go.RowKit
set_option linter.unusedVariables false
set_option linter.unusedSimpArgs false
theorem eqNodeS_nil (a b : Option Addr) (c d : Nat) (w : World) : Calls Try.prog 86 #[.slice a 0 c, .slice b 0 d] w (Tells true w) := by
  go_enter Try.func86, Try.ntmps86
  go_wp2
  go_loopg [5] 1 (fun g i wr => i = .int .i64 0 ∧ g = 1 ∧ w = wr)
  case atStart => exact ⟨rfl, rfl, rfl⟩
  case round =>
    obtain ⟨rfl, hg, rfl⟩ := hrel
    go_wp2
    go_ret
    exact ⟨rfl, Keep.refl _ _⟩
theorem eqEdgeS_nil (a b : Option Addr) (c d : Nat) (w : World) : Calls Try.prog 87 #[.slice a 0 c, .slice b 0 d] w (Tells true w) := by
  go_enter Try.func87, Try.ntmps87
  go_wp2
  go_loopg [5] 1 (fun g i wr => i = .int .i64 0 ∧ g = 1 ∧ w = wr)
  case atStart => exact ⟨rfl, rfl, rfl⟩
  case round =>
    obtain ⟨rfl, hg, rfl⟩ := hrel
    go_wp2
    go_ret
    exact ⟨rfl, Keep.refl _ _⟩
theorem eqAskS_nil (a b : Option Addr) (c d : Nat) (w : World) : Calls Try.prog 82 #[.slice a 0 c, .slice b 0 d] w (Tells true w) := by
  go_enter Try.func82, Try.ntmps82
  go_wp2
  go_loopg [5] 1 (fun g i wr => i = .int .i64 0 ∧ g = 1 ∧ w = wr)
  case atStart => exact ⟨rfl, rfl, rfl⟩
  case round =>
    obtain ⟨rfl, hg, rfl⟩ := hrel
    go_wp2
    go_ret
    exact ⟨rfl, Keep.refl _ _⟩
theorem eqTxS_nil (a b : Option Addr) (c d : Nat) (w : World) : Calls Try.prog 83 #[.slice a 0 c, .slice b 0 d] w (Tells true w) := by
  go_enter Try.func83, Try.ntmps83
  go_wp2
  go_loopg [5] 1 (fun g i wr => i = .int .i64 0 ∧ g = 1 ∧ w = wr)
  case atStart => exact ⟨rfl, rfl, rfl⟩
  case round =>
    obtain ⟨rfl, hg, rfl⟩ := hrel
    go_wp2
    go_ret
    exact ⟨rfl, Keep.refl _ _⟩
theorem eqValueSS_nil (a b : Option Addr) (c d : Nat) (w : World) : Calls Try.prog 90 #[.slice a 0 c, .slice b 0 d] w (Tells true w) := by
  go_enter Try.func90, Try.ntmps90
  go_wp2
  go_loopg [5] 1 (fun g i wr => i = .int .i64 0 ∧ g = 1 ∧ w = wr)
  case atStart => exact ⟨rfl, rfl, rfl⟩
  case round =>
    obtain ⟨rfl, hg, rfl⟩ := hrel
    go_wp2
    go_ret
    exact ⟨rfl, Keep.refl _ _⟩
theorem Sl.nil' {α : Type} {sz : Nat} {R : α → List Value → Prop} {w : World} {ok : Nat → Prop} (a : Option Addr) : Sl sz R w ok (.slice a 0 0) ([] : List α) := ⟨a, 0, rfl, Nat.le_refl _, by decide, fun h => absurd rfl h⟩
set_option maxHeartbeats 2000000 in
theorem eqGraph_calls  (w : World) :
    Calls Try.prog 81 #[.agg #[.slice none 0 0, .slice none 0 0, .int .i64 0, .int .i64 0], .agg #[.slice none 0 0, .slice none 0 0, .int .i64 0, .int .i64 0]] w (Tells true w) := by
  have KW := Lib.hid (((Keep.refl Any w).alloc (.cells #[.slice none 0 0, .slice none 0 0, .int .i64 0, .int .i64 0] 47 (0, 0))).alloc (.cells #[.slice none 0 0, .slice none 0 0, .int .i64 0, .int .i64 0] 47 (0, 0)))
  have XW := Lib.hid (blk_alloc (blk_new w (.cells #[.slice none 0 0, .slice none 0 0, .int .i64 0, .int .i64 0] 47 (0, 0))) (.cells #[.slice none 0 0, .slice none 0 0, .int .i64 0, .int .i64 0] 47 (0, 0)))
  have YW := Lib.hid (show ((w.alloc (.cells #[.slice none 0 0, .slice none 0 0, .int .i64 0, .int .i64 0] 47 (0, 0))).alloc (.cells #[.slice none 0 0, .slice none 0 0, .int .i64 0, .int .i64 0] 47 (0, 0))).heap[w.heap.size + 1]? = some (.cells #[.slice none 0 0, .slice none 0 0, .int .i64 0, .int .i64 0] 47 (0, 0)) by rw [← World.size_alloc w (.cells #[.slice none 0 0, .slice none 0 0, .int .i64 0, .int .i64 0] 47 (0, 0))]; exact blk_new _ _)
  go_enter Try.func81, Try.ntmps81
  go_wp2_with (first | (go_at_call 86; refine (eqNodeS_nil _ _ _ _ _).mono ?_; rintro e w2 ⟨rfl, hK⟩; have KW := Lib.hid (KW.out.trans hK); have XW := Lib.hid (blk_keep hK XW.out trivial); have YW := Lib.hid (blk_keep hK YW.out trivial); have x0 := (blk_cell XW.out 0).trans rfl; have x1 := (blk_cell XW.out 1).trans rfl; have x2 := (blk_cell XW.out 2).trans rfl; have x3 := (blk_cell XW.out 3).trans rfl; have y0 := (blk_cell YW.out 0).trans rfl; have y1 := (blk_cell YW.out 1).trans rfl; have y2 := (blk_cell YW.out 2).trans rfl; have y3 := (blk_cell YW.out 3).trans rfl; clear hK) | (go_at_call 87; refine (eqEdgeS_nil _ _ _ _ _).mono ?_; rintro e w2 ⟨rfl, hK⟩; have KW := Lib.hid (KW.out.trans hK); have XW := Lib.hid (blk_keep hK XW.out trivial); have YW := Lib.hid (blk_keep hK YW.out trivial); have x0 := (blk_cell XW.out 0).trans rfl; have x1 := (blk_cell XW.out 1).trans rfl; have x2 := (blk_cell XW.out 2).trans rfl; have x3 := (blk_cell XW.out 3).trans rfl; have y0 := (blk_cell YW.out 0).trans rfl; have y1 := (blk_cell YW.out 1).trans rfl; have y2 := (blk_cell YW.out 2).trans rfl; have y3 := (blk_cell YW.out 3).trans rfl; clear hK))
  go_ret
  exact ⟨rfl, KW.out⟩
set_option maxHeartbeats 2000000 in
theorem eqTable_calls  (w : World) :
    Calls Try.prog 84 #[.agg #[.slice none 0 0, .slice none 0 0], .agg #[.slice none 0 0, .slice none 0 0]] w (Tells true w) := by
  have KW := Lib.hid (((Keep.refl Any w).alloc (.cells #[.slice none 0 0, .slice none 0 0] 62 (0, 0))).alloc (.cells #[.slice none 0 0, .slice none 0 0] 62 (0, 0)))
  have XW := Lib.hid (blk_alloc (blk_new w (.cells #[.slice none 0 0, .slice none 0 0] 62 (0, 0))) (.cells #[.slice none 0 0, .slice none 0 0] 62 (0, 0)))
  have YW := Lib.hid (show ((w.alloc (.cells #[.slice none 0 0, .slice none 0 0] 62 (0, 0))).alloc (.cells #[.slice none 0 0, .slice none 0 0] 62 (0, 0))).heap[w.heap.size + 1]? = some (.cells #[.slice none 0 0, .slice none 0 0] 62 (0, 0)) by rw [← World.size_alloc w (.cells #[.slice none 0 0, .slice none 0 0] 62 (0, 0))]; exact blk_new _ _)
  go_enter Try.func84, Try.ntmps84
  go_wp2_with (first | (go_at_call 11; refine (eqStrs_calls [] _ _ _ (Sl.nil' none) (Sl.nil' none)).mono ?_; rintro e w2 ⟨rfl, hK⟩; have KW := Lib.hid (KW.out.trans hK); have XW := Lib.hid (blk_keep hK XW.out trivial); have YW := Lib.hid (blk_keep hK YW.out trivial); have x0 := (blk_cell XW.out 0).trans rfl; have x1 := (blk_cell XW.out 1).trans rfl; have y0 := (blk_cell YW.out 0).trans rfl; have y1 := (blk_cell YW.out 1).trans rfl; clear hK) | (go_at_call 90; refine (eqValueSS_nil _ _ _ _ _).mono ?_; rintro e w2 ⟨rfl, hK⟩; have KW := Lib.hid (KW.out.trans hK); have XW := Lib.hid (blk_keep hK XW.out trivial); have YW := Lib.hid (blk_keep hK YW.out trivial); have x0 := (blk_cell XW.out 0).trans rfl; have x1 := (blk_cell XW.out 1).trans rfl; have y0 := (blk_cell YW.out 0).trans rfl; have y1 := (blk_cell YW.out 1).trans rfl; clear hK))
  go_ret
  exact ⟨rfl, KW.out⟩
set_option maxHeartbeats 2000000 in
theorem eqTalk_calls  (w : World) :
    Calls Try.prog 69 #[.agg #[.int .i64 0, .int .i64 (-1), .slice none 0 0, .slice none 0 0, .int .i64 0], .agg #[.int .i64 0, .int .i64 (-1), .slice none 0 0, .slice none 0 0, .int .i64 0]] w (Tells true w) := by
  have KW := Lib.hid (((Keep.refl Any w).alloc (.cells #[.int .i64 0, .int .i64 (-1), .slice none 0 0, .slice none 0 0, .int .i64 0] 64 (0, 0))).alloc (.cells #[.int .i64 0, .int .i64 (-1), .slice none 0 0, .slice none 0 0, .int .i64 0] 64 (0, 0)))
  have XW := Lib.hid (blk_alloc (blk_new w (.cells #[.int .i64 0, .int .i64 (-1), .slice none 0 0, .slice none 0 0, .int .i64 0] 64 (0, 0))) (.cells #[.int .i64 0, .int .i64 (-1), .slice none 0 0, .slice none 0 0, .int .i64 0] 64 (0, 0)))
  have YW := Lib.hid (show ((w.alloc (.cells #[.int .i64 0, .int .i64 (-1), .slice none 0 0, .slice none 0 0, .int .i64 0] 64 (0, 0))).alloc (.cells #[.int .i64 0, .int .i64 (-1), .slice none 0 0, .slice none 0 0, .int .i64 0] 64 (0, 0))).heap[w.heap.size + 1]? = some (.cells #[.int .i64 0, .int .i64 (-1), .slice none 0 0, .slice none 0 0, .int .i64 0] 64 (0, 0)) by rw [← World.size_alloc w (.cells #[.int .i64 0, .int .i64 (-1), .slice none 0 0, .slice none 0 0, .int .i64 0] 64 (0, 0))]; exact blk_new _ _)
  go_enter Try.func69, Try.ntmps69
  go_wp2_with (first | (go_at_call 84; refine (eqTable_calls _).mono ?_; rintro e w2 ⟨rfl, hK⟩; have KW := Lib.hid (KW.out.trans hK); have XW := Lib.hid (blk_keep hK XW.out trivial); have YW := Lib.hid (blk_keep hK YW.out trivial); have x0 := (blk_cell XW.out 0).trans rfl; have x1 := (blk_cell XW.out 1).trans rfl; have x2 := (blk_cell XW.out 2).trans rfl; have x3 := (blk_cell XW.out 3).trans rfl; have x4 := (blk_cell XW.out 4).trans rfl; have y0 := (blk_cell YW.out 0).trans rfl; have y1 := (blk_cell YW.out 1).trans rfl; have y2 := (blk_cell YW.out 2).trans rfl; have y3 := (blk_cell YW.out 3).trans rfl; have y4 := (blk_cell YW.out 4).trans rfl; clear hK))
  go_ret
  exact ⟨rfl, KW.out⟩
set_option maxHeartbeats 2000000 in
theorem eqLink_calls  (w : World) :
    Calls Try.prog 47 #[.agg #[.int .i64 0, .int .i64 (-1), .slice none 0 0, .slice none 0 0, .int .i64 0, .int .i64 (-1), .string ⟨#[]⟩], .agg #[.int .i64 0, .int .i64 (-1), .slice none 0 0, .slice none 0 0, .int .i64 0, .int .i64 (-1), .string ⟨#[]⟩]] w (Tells true w) := by
  have KW := Lib.hid (((Keep.refl Any w).alloc (.cells #[.int .i64 0, .int .i64 (-1), .slice none 0 0, .slice none 0 0, .int .i64 0, .int .i64 (-1), .string ⟨#[]⟩] 66 (0, 0))).alloc (.cells #[.int .i64 0, .int .i64 (-1), .slice none 0 0, .slice none 0 0, .int .i64 0, .int .i64 (-1), .string ⟨#[]⟩] 66 (0, 0)))
  have XW := Lib.hid (blk_alloc (blk_new w (.cells #[.int .i64 0, .int .i64 (-1), .slice none 0 0, .slice none 0 0, .int .i64 0, .int .i64 (-1), .string ⟨#[]⟩] 66 (0, 0))) (.cells #[.int .i64 0, .int .i64 (-1), .slice none 0 0, .slice none 0 0, .int .i64 0, .int .i64 (-1), .string ⟨#[]⟩] 66 (0, 0)))
  have YW := Lib.hid (show ((w.alloc (.cells #[.int .i64 0, .int .i64 (-1), .slice none 0 0, .slice none 0 0, .int .i64 0, .int .i64 (-1), .string ⟨#[]⟩] 66 (0, 0))).alloc (.cells #[.int .i64 0, .int .i64 (-1), .slice none 0 0, .slice none 0 0, .int .i64 0, .int .i64 (-1), .string ⟨#[]⟩] 66 (0, 0))).heap[w.heap.size + 1]? = some (.cells #[.int .i64 0, .int .i64 (-1), .slice none 0 0, .slice none 0 0, .int .i64 0, .int .i64 (-1), .string ⟨#[]⟩] 66 (0, 0)) by rw [← World.size_alloc w (.cells #[.int .i64 0, .int .i64 (-1), .slice none 0 0, .slice none 0 0, .int .i64 0, .int .i64 (-1), .string ⟨#[]⟩] 66 (0, 0))]; exact blk_new _ _)
  go_enter Try.func47, Try.ntmps47
  go_wp2_with (first | (go_at_call 69; refine (eqTalk_calls _).mono ?_; rintro e w2 ⟨rfl, hK⟩; have KW := Lib.hid (KW.out.trans hK); have XW := Lib.hid (blk_keep hK XW.out trivial); have YW := Lib.hid (blk_keep hK YW.out trivial); have x0 := (blk_cell XW.out 0).trans rfl; have x1 := (blk_cell XW.out 1).trans rfl; have x2 := (blk_cell XW.out 2).trans rfl; have x3 := (blk_cell XW.out 3).trans rfl; have x4 := (blk_cell XW.out 4).trans rfl; have x5 := (blk_cell XW.out 5).trans rfl; have x6 := (blk_cell XW.out 6).trans rfl; have y0 := (blk_cell YW.out 0).trans rfl; have y1 := (blk_cell YW.out 1).trans rfl; have y2 := (blk_cell YW.out 2).trans rfl; have y3 := (blk_cell YW.out 3).trans rfl; have y4 := (blk_cell YW.out 4).trans rfl; have y5 := (blk_cell YW.out 5).trans rfl; have y6 := (blk_cell YW.out 6).trans rfl; clear hK))
  go_ret
  exact ⟨rfl, KW.out⟩
set_option maxHeartbeats 2000000 in
theorem eqStore_calls (l : List Ru) (a1 a2 d1 d2 : Option Addr) (c1 c2 : Nat) (w : World) (h1 : Rus w Any (.slice a1 l.length c1) l) (h2 : Rus w Any (.slice a2 l.length c2) l) :
    Calls Try.prog 68 #[.agg #[.slice none 0 0, .slice none 0 0, .int .i64 0, .int .i64 0, .slice a1 l.length c1, .int .i64 0, .slice d1 0 0, .slice none 0 0, .int .i64 0], .agg #[.slice none 0 0, .slice none 0 0, .int .i64 0, .int .i64 0, .slice a2 l.length c2, .int .i64 0, .slice d2 0 0, .slice none 0 0, .int .i64 0]] w (Tells true w) := by
  have H1 := Lib.hid h1
  have H2 := Lib.hid h2
  clear h1 h2
  have KW := Lib.hid (((Keep.refl Any w).alloc (.cells #[.slice none 0 0, .slice none 0 0, .int .i64 0, .int .i64 0, .slice a1 l.length c1, .int .i64 0, .slice d1 0 0, .slice none 0 0, .int .i64 0] 51 (0, 0))).alloc (.cells #[.slice none 0 0, .slice none 0 0, .int .i64 0, .int .i64 0, .slice a2 l.length c2, .int .i64 0, .slice d2 0 0, .slice none 0 0, .int .i64 0] 51 (0, 0)))
  have XW := Lib.hid (blk_alloc (blk_new w (.cells #[.slice none 0 0, .slice none 0 0, .int .i64 0, .int .i64 0, .slice a1 l.length c1, .int .i64 0, .slice d1 0 0, .slice none 0 0, .int .i64 0] 51 (0, 0))) (.cells #[.slice none 0 0, .slice none 0 0, .int .i64 0, .int .i64 0, .slice a2 l.length c2, .int .i64 0, .slice d2 0 0, .slice none 0 0, .int .i64 0] 51 (0, 0)))
  have YW := Lib.hid (show ((w.alloc (.cells #[.slice none 0 0, .slice none 0 0, .int .i64 0, .int .i64 0, .slice a1 l.length c1, .int .i64 0, .slice d1 0 0, .slice none 0 0, .int .i64 0] 51 (0, 0))).alloc (.cells #[.slice none 0 0, .slice none 0 0, .int .i64 0, .int .i64 0, .slice a2 l.length c2, .int .i64 0, .slice d2 0 0, .slice none 0 0, .int .i64 0] 51 (0, 0))).heap[w.heap.size + 1]? = some (.cells #[.slice none 0 0, .slice none 0 0, .int .i64 0, .int .i64 0, .slice a2 l.length c2, .int .i64 0, .slice d2 0 0, .slice none 0 0, .int .i64 0] 51 (0, 0)) by rw [← World.size_alloc w (.cells #[.slice none 0 0, .slice none 0 0, .int .i64 0, .int .i64 0, .slice a1 l.length c1, .int .i64 0, .slice d1 0 0, .slice none 0 0, .int .i64 0] 51 (0, 0))]; exact blk_new _ _)
  go_enter Try.func68, Try.ntmps68
  go_wp2_with (first | (go_at_call 81; refine (eqGraph_calls _).mono ?_; rintro e w2 ⟨rfl, hK⟩; have KW := Lib.hid (KW.out.trans hK); have XW := Lib.hid (blk_keep hK XW.out trivial); have YW := Lib.hid (blk_keep hK YW.out trivial); have x0 := (blk_cell XW.out 0).trans rfl; have x1 := (blk_cell XW.out 1).trans rfl; have x2 := (blk_cell XW.out 2).trans rfl; have x3 := (blk_cell XW.out 3).trans rfl; have x4 := (blk_cell XW.out 4).trans rfl; have x5 := (blk_cell XW.out 5).trans rfl; have x6 := (blk_cell XW.out 6).trans rfl; have x7 := (blk_cell XW.out 7).trans rfl; have x8 := (blk_cell XW.out 8).trans rfl; have y0 := (blk_cell YW.out 0).trans rfl; have y1 := (blk_cell YW.out 1).trans rfl; have y2 := (blk_cell YW.out 2).trans rfl; have y3 := (blk_cell YW.out 3).trans rfl; have y4 := (blk_cell YW.out 4).trans rfl; have y5 := (blk_cell YW.out 5).trans rfl; have y6 := (blk_cell YW.out 6).trans rfl; have y7 := (blk_cell YW.out 7).trans rfl; have y8 := (blk_cell YW.out 8).trans rfl; clear hK) | (go_at_call 12; refine (eqRules_calls l _ _ _ (Rus.keep H1.out KW.out) (Rus.keep H2.out KW.out)).mono ?_; rintro e w2 ⟨rfl, hK⟩; have KW := Lib.hid (KW.out.trans hK); have XW := Lib.hid (blk_keep hK XW.out trivial); have YW := Lib.hid (blk_keep hK YW.out trivial); have x0 := (blk_cell XW.out 0).trans rfl; have x1 := (blk_cell XW.out 1).trans rfl; have x2 := (blk_cell XW.out 2).trans rfl; have x3 := (blk_cell XW.out 3).trans rfl; have x4 := (blk_cell XW.out 4).trans rfl; have x5 := (blk_cell XW.out 5).trans rfl; have x6 := (blk_cell XW.out 6).trans rfl; have x7 := (blk_cell XW.out 7).trans rfl; have x8 := (blk_cell XW.out 8).trans rfl; have y0 := (blk_cell YW.out 0).trans rfl; have y1 := (blk_cell YW.out 1).trans rfl; have y2 := (blk_cell YW.out 2).trans rfl; have y3 := (blk_cell YW.out 3).trans rfl; have y4 := (blk_cell YW.out 4).trans rfl; have y5 := (blk_cell YW.out 5).trans rfl; have y6 := (blk_cell YW.out 6).trans rfl; have y7 := (blk_cell YW.out 7).trans rfl; have y8 := (blk_cell YW.out 8).trans rfl; clear hK) | (go_at_call 82; refine (eqAskS_nil _ _ _ _ _).mono ?_; rintro e w2 ⟨rfl, hK⟩; have KW := Lib.hid (KW.out.trans hK); have XW := Lib.hid (blk_keep hK XW.out trivial); have YW := Lib.hid (blk_keep hK YW.out trivial); have x0 := (blk_cell XW.out 0).trans rfl; have x1 := (blk_cell XW.out 1).trans rfl; have x2 := (blk_cell XW.out 2).trans rfl; have x3 := (blk_cell XW.out 3).trans rfl; have x4 := (blk_cell XW.out 4).trans rfl; have x5 := (blk_cell XW.out 5).trans rfl; have x6 := (blk_cell XW.out 6).trans rfl; have x7 := (blk_cell XW.out 7).trans rfl; have x8 := (blk_cell XW.out 8).trans rfl; have y0 := (blk_cell YW.out 0).trans rfl; have y1 := (blk_cell YW.out 1).trans rfl; have y2 := (blk_cell YW.out 2).trans rfl; have y3 := (blk_cell YW.out 3).trans rfl; have y4 := (blk_cell YW.out 4).trans rfl; have y5 := (blk_cell YW.out 5).trans rfl; have y6 := (blk_cell YW.out 6).trans rfl; have y7 := (blk_cell YW.out 7).trans rfl; have y8 := (blk_cell YW.out 8).trans rfl; clear hK) | (go_at_call 83; refine (eqTxS_nil _ _ _ _ _).mono ?_; rintro e w2 ⟨rfl, hK⟩; have KW := Lib.hid (KW.out.trans hK); have XW := Lib.hid (blk_keep hK XW.out trivial); have YW := Lib.hid (blk_keep hK YW.out trivial); have x0 := (blk_cell XW.out 0).trans rfl; have x1 := (blk_cell XW.out 1).trans rfl; have x2 := (blk_cell XW.out 2).trans rfl; have x3 := (blk_cell XW.out 3).trans rfl; have x4 := (blk_cell XW.out 4).trans rfl; have x5 := (blk_cell XW.out 5).trans rfl; have x6 := (blk_cell XW.out 6).trans rfl; have x7 := (blk_cell XW.out 7).trans rfl; have x8 := (blk_cell XW.out 8).trans rfl; have y0 := (blk_cell YW.out 0).trans rfl; have y1 := (blk_cell YW.out 1).trans rfl; have y2 := (blk_cell YW.out 2).trans rfl; have y3 := (blk_cell YW.out 3).trans rfl; have y4 := (blk_cell YW.out 4).trans rfl; have y5 := (blk_cell YW.out 5).trans rfl; have y6 := (blk_cell YW.out 6).trans rfl; have y7 := (blk_cell YW.out 7).trans rfl; have y8 := (blk_cell YW.out 8).trans rfl; clear hK))
  go_ret
  exact ⟨rfl, KW.out⟩
set_option maxHeartbeats 2000000 in
theorem eqHome_calls (x : ByteArray) (l : List Ru) (a1 a2 d1 d2 : Option Addr) (c1 c2 : Nat) (w : World) (h1 : Rus w Any (.slice a1 l.length c1) l) (h2 : Rus w Any (.slice a2 l.length c2) l) :
    Calls Try.prog 46 #[.agg #[.string x, .slice none 0 0, .slice none 0 0, .int .i64 0, .int .i64 0, .slice a1 l.length c1, .int .i64 0, .slice d1 0 0, .slice none 0 0, .int .i64 0], .agg #[.string x, .slice none 0 0, .slice none 0 0, .int .i64 0, .int .i64 0, .slice a2 l.length c2, .int .i64 0, .slice d2 0 0, .slice none 0 0, .int .i64 0]] w (Tells true w) := by
  have H1 := Lib.hid h1
  have H2 := Lib.hid h2
  clear h1 h2
  have b1 : (x.toList != x.toList) = false := by simp
  have KW := Lib.hid (((Keep.refl Any w).alloc (.cells #[.string x, .slice none 0 0, .slice none 0 0, .int .i64 0, .int .i64 0, .slice a1 l.length c1, .int .i64 0, .slice d1 0 0, .slice none 0 0, .int .i64 0] 58 (0, 0))).alloc (.cells #[.string x, .slice none 0 0, .slice none 0 0, .int .i64 0, .int .i64 0, .slice a2 l.length c2, .int .i64 0, .slice d2 0 0, .slice none 0 0, .int .i64 0] 58 (0, 0)))
  have XW := Lib.hid (blk_alloc (blk_new w (.cells #[.string x, .slice none 0 0, .slice none 0 0, .int .i64 0, .int .i64 0, .slice a1 l.length c1, .int .i64 0, .slice d1 0 0, .slice none 0 0, .int .i64 0] 58 (0, 0))) (.cells #[.string x, .slice none 0 0, .slice none 0 0, .int .i64 0, .int .i64 0, .slice a2 l.length c2, .int .i64 0, .slice d2 0 0, .slice none 0 0, .int .i64 0] 58 (0, 0)))
  have YW := Lib.hid (show ((w.alloc (.cells #[.string x, .slice none 0 0, .slice none 0 0, .int .i64 0, .int .i64 0, .slice a1 l.length c1, .int .i64 0, .slice d1 0 0, .slice none 0 0, .int .i64 0] 58 (0, 0))).alloc (.cells #[.string x, .slice none 0 0, .slice none 0 0, .int .i64 0, .int .i64 0, .slice a2 l.length c2, .int .i64 0, .slice d2 0 0, .slice none 0 0, .int .i64 0] 58 (0, 0))).heap[w.heap.size + 1]? = some (.cells #[.string x, .slice none 0 0, .slice none 0 0, .int .i64 0, .int .i64 0, .slice a2 l.length c2, .int .i64 0, .slice d2 0 0, .slice none 0 0, .int .i64 0] 58 (0, 0)) by rw [← World.size_alloc w (.cells #[.string x, .slice none 0 0, .slice none 0 0, .int .i64 0, .int .i64 0, .slice a1 l.length c1, .int .i64 0, .slice d1 0 0, .slice none 0 0, .int .i64 0] 58 (0, 0))]; exact blk_new _ _)
  go_enter Try.func46, Try.ntmps46
  go_wp2_with (first | (go_at_call 68; refine (eqStore_calls l _ _ _ _ _ _ _ (Rus.keep H1.out KW.out) (Rus.keep H2.out KW.out)).mono ?_; rintro e w2 ⟨rfl, hK⟩; have KW := Lib.hid (KW.out.trans hK); have XW := Lib.hid (blk_keep hK XW.out trivial); have YW := Lib.hid (blk_keep hK YW.out trivial); have x0 := (blk_cell XW.out 0).trans rfl; have x1 := (blk_cell XW.out 1).trans rfl; have x2 := (blk_cell XW.out 2).trans rfl; have x3 := (blk_cell XW.out 3).trans rfl; have x4 := (blk_cell XW.out 4).trans rfl; have x5 := (blk_cell XW.out 5).trans rfl; have x6 := (blk_cell XW.out 6).trans rfl; have x7 := (blk_cell XW.out 7).trans rfl; have x8 := (blk_cell XW.out 8).trans rfl; have x9 := (blk_cell XW.out 9).trans rfl; have y0 := (blk_cell YW.out 0).trans rfl; have y1 := (blk_cell YW.out 1).trans rfl; have y2 := (blk_cell YW.out 2).trans rfl; have y3 := (blk_cell YW.out 3).trans rfl; have y4 := (blk_cell YW.out 4).trans rfl; have y5 := (blk_cell YW.out 5).trans rfl; have y6 := (blk_cell YW.out 6).trans rfl; have y7 := (blk_cell YW.out 7).trans rfl; have y8 := (blk_cell YW.out 8).trans rfl; have y9 := (blk_cell YW.out 9).trans rfl; clear hK))
  go_ret
  exact ⟨rfl, KW.out⟩
/-- homes, their parts wherever -/
def HoR (w : World) (h : Hm) (cs : List Value) : Prop := ∃ (a1 d1 : Option Addr) (c1 : Nat), cs = [.string h.1, .slice none 0 0, .slice none 0 0, .int .i64 0, .int .i64 0, .slice a1 h.2.length c1, .int .i64 0, .slice d1 0 0, .slice none 0 0, .int .i64 0] ∧ Fits h.1 ∧ Rus w Any (.slice a1 h.2.length c1) h.2
abbrev Hos (w : World) (v : Value) (l : List Hm) : Prop := Sl 10 (HoR w) w Any v l
theorem SHos.hos {w : World} {ok : Nat → Prop} {v : Value} {l : List Hm} (h : SHos w ok v l) : Hos w v l := Sl.mono (SSl.sl (R' := HoR w) h fun g x cs _ hg h => by
  obtain ⟨rs, d, rfl, h1, h2⟩ := h
  obtain ⟨a1, c1, e, _⟩ := id h2
  subst e
  exact ⟨a1, d, c1, rfl, h1, Sl.mono (SRus.rus h2) (fun _ _ _ h => h) (fun _ _ _ => trivial) (by decide)⟩) (fun _ _ _ h => h) (fun _ _ _ => trivial) (by decide)
theorem Hos.keep {w w' : World} {v : Value} {l : List Hm} (h : Hos w v l) (k : Keep Any w w') : Hos w' v l := Sl.keep h (fun _ _ _ h => by obtain ⟨a1, d, c1, h1, h2, h3⟩ := h; exact ⟨a1, d, c1, h1, h2, h3.keep k⟩) k
theorem hos_at {w w' : World} {a : Option Addr} {n c : Nat} {l : List Hm} (h : Hos w (.slice a n c) l) (k : Keep Any w w') {j : Nat} {x : Hm} (hx : l[j]? = some x) :
    ∃ ad a1 d1 c1, a = some ad ∧ Fits x.1 ∧ Rus w' Any (.slice a1 x.2.length c1) x.2 ∧ w'.cell? (ad.add (j * 10)) = some (.string x.1) ∧ w'.cell? ⟨(ad.add (j * 10)).block, (ad.add (j * 10)).off + 1, none⟩ = some (.slice none 0 0) ∧ w'.cell? ⟨(ad.add (j * 10)).block, (ad.add (j * 10)).off + 2, none⟩ = some (.slice none 0 0) ∧ w'.cell? ⟨(ad.add (j * 10)).block, (ad.add (j * 10)).off + 3, none⟩ = some (.int .i64 0) ∧ w'.cell? ⟨(ad.add (j * 10)).block, (ad.add (j * 10)).off + 4, none⟩ = some (.int .i64 0) ∧ w'.cell? ⟨(ad.add (j * 10)).block, (ad.add (j * 10)).off + 5, none⟩ = some (.slice a1 x.2.length c1) ∧ w'.cell? ⟨(ad.add (j * 10)).block, (ad.add (j * 10)).off + 6, none⟩ = some (.int .i64 0) ∧ w'.cell? ⟨(ad.add (j * 10)).block, (ad.add (j * 10)).off + 7, none⟩ = some (.slice d1 0 0) ∧ w'.cell? ⟨(ad.add (j * 10)).block, (ad.add (j * 10)).off + 8, none⟩ = some (.slice none 0 0) ∧ w'.cell? ⟨(ad.add (j * 10)).block, (ad.add (j * 10)).off + 9, none⟩ = some (.int .i64 0) := by
  obtain ⟨a', c', e, h1, h2, h3⟩ := h
  cases e
  obtain ⟨ad, rfl, hb, hf⟩ := h3 (fun e => by rw [e] at hx; cases hx)
  obtain ⟨cs, ⟨a1, d1, c1, rfl, hF, hG⟩, _, hc⟩ := hf j x hx
  have h0 := (hc.keep k hb) 0 _ rfl
  refine ⟨ad, a1, d1, c1, rfl, hF, hG.keep k, by simpa using h0, ?_, ?_, ?_, ?_, ?_, ?_, ?_, ?_, ?_⟩
  all_goals first | (have h1 := (hc.keep k hb) 1 _ rfl; rw [add_field _ _ _ (by decide)] at h1; exact h1) | (have h1 := (hc.keep k hb) 2 _ rfl; rw [add_field _ _ _ (by decide)] at h1; exact h1) | (have h1 := (hc.keep k hb) 3 _ rfl; rw [add_field _ _ _ (by decide)] at h1; exact h1) | (have h1 := (hc.keep k hb) 4 _ rfl; rw [add_field _ _ _ (by decide)] at h1; exact h1) | (have h1 := (hc.keep k hb) 5 _ rfl; rw [add_field _ _ _ (by decide)] at h1; exact h1) | (have h1 := (hc.keep k hb) 6 _ rfl; rw [add_field _ _ _ (by decide)] at h1; exact h1) | (have h1 := (hc.keep k hb) 7 _ rfl; rw [add_field _ _ _ (by decide)] at h1; exact h1) | (have h1 := (hc.keep k hb) 8 _ rfl; rw [add_field _ _ _ (by decide)] at h1; exact h1) | (have h1 := (hc.keep k hb) 9 _ rfl; rw [add_field _ _ _ (by decide)] at h1; exact h1)
/-- links to which nobody talked -/
abbrev Lks (w : World) (v : Value) (l : List Unit) : Prop := Sl 7 (fun _ cs => cs = lkCells) w Any v l
theorem SLks.lks {w : World} {ok : Nat → Prop} {v : Value} {l : List Unit} (h : SLks w ok v l) : Lks w v l := Sl.mono (SSl.sl (R' := fun _ cs => cs = lkCells) h fun g x cs _ hg h => h) (fun _ _ _ h => h) (fun _ _ _ => trivial) (by decide)
theorem Lks.keep {w w' : World} {v : Value} {l : List Unit} (h : Lks w v l) (k : Keep Any w w') : Lks w' v l := Sl.keep h (fun _ _ _ h => h) k
theorem lks_at {w w' : World} {a : Option Addr} {n c : Nat} {l : List Unit} (h : Lks w (.slice a n c) l) (k : Keep Any w w') {j : Nat} (hx : j < l.length) :
    ∃ ad, a = some ad ∧ w'.cell? (ad.add (j * 7)) = some (.int .i64 0) ∧ w'.cell? ⟨(ad.add (j * 7)).block, (ad.add (j * 7)).off + 1, none⟩ = some (.int .i64 (-1)) ∧ w'.cell? ⟨(ad.add (j * 7)).block, (ad.add (j * 7)).off + 2, none⟩ = some (.slice none 0 0) ∧ w'.cell? ⟨(ad.add (j * 7)).block, (ad.add (j * 7)).off + 3, none⟩ = some (.slice none 0 0) ∧ w'.cell? ⟨(ad.add (j * 7)).block, (ad.add (j * 7)).off + 4, none⟩ = some (.int .i64 0) ∧ w'.cell? ⟨(ad.add (j * 7)).block, (ad.add (j * 7)).off + 5, none⟩ = some (.int .i64 (-1)) ∧ w'.cell? ⟨(ad.add (j * 7)).block, (ad.add (j * 7)).off + 6, none⟩ = some (.string ⟨#[]⟩) := by
  obtain ⟨a', c', e, h1, h2, h3⟩ := h
  cases e
  obtain ⟨ad, rfl, hb, hf⟩ := h3 (fun e => by rw [e] at hx; simp at hx)
  obtain ⟨cs, rfl, _, hc⟩ := hf j _ (List.getElem?_eq_getElem hx)
  have h0 := (hc.keep k hb) 0 _ rfl
  refine ⟨ad, rfl, by simpa using h0, ?_, ?_, ?_, ?_, ?_, ?_⟩
  all_goals first | (have h1 := (hc.keep k hb) 1 _ rfl; rw [add_field _ _ _ (by decide)] at h1; exact h1) | (have h1 := (hc.keep k hb) 2 _ rfl; rw [add_field _ _ _ (by decide)] at h1; exact h1) | (have h1 := (hc.keep k hb) 3 _ rfl; rw [add_field _ _ _ (by decide)] at h1; exact h1) | (have h1 := (hc.keep k hb) 4 _ rfl; rw [add_field _ _ _ (by decide)] at h1; exact h1) | (have h1 := (hc.keep k hb) 5 _ rfl; rw [add_field _ _ _ (by decide)] at h1; exact h1) | (have h1 := (hc.keep k hb) 6 _ rfl; rw [add_field _ _ _ (by decide)] at h1; exact h1)
set_option maxHeartbeats 2000000 in
theorem eqHomeS_calls (l : List Hm) (s t : Value) (w : World) (hs : Hos w s l) (ht : Hos w t l) : Calls Try.prog 28 #[s, t] w (Tells true w) := by
  have HS := Lib.hid hs
  have HT := Lib.hid ht
  obtain ⟨ad, c, rfl, hc, hm, _⟩ := hs
  obtain ⟨ad', c', rfl, hc', hm', _⟩ := ht
  have hl : (((l.length : Nat) : Int) != ((l.length : Nat) : Int)) = false := by simp
  go_enter Try.func28, Try.ntmps28
  go_wp2
  go_loopg [5] (l.length + 1) (fun g i wr => ∃ k : Nat, k ≤ l.length ∧ i = .int .i64 k ∧ g = l.length + 1 - k ∧ Keep Any w wr)
  case atStart => exact ⟨0, by omega, rfl, rfl, Keep.refl _ _⟩
  case round =>
    obtain ⟨k, hk, rfl, hg, hK⟩ := hrel
    have HG := Lib.hid hg
    have HK := Lib.hid hK
    clear hg hK
    by_cases hlt : k < l.length
    · have hx : l[k]? = some l[k] := List.getElem?_eq_getElem hlt
      obtain ⟨ad, a1, d1, c1, rfl, _, hr1, p0, p1, p2, p3, p4, p5, p6, p7, p8, p9⟩ := hos_at HS.out HK.out hx
      obtain ⟨ad', a2, d2, c2, rfl, _, hr2, q0, q1, q2, q3, q4, q5, q6, q7, q8, q9⟩ := hos_at HT.out HK.out hx
      have HR1 := Lib.hid hr1
      have HR2 := Lib.hid hr2
      clear hr1 hr2 hx
      generalize l[k] = x at *
      have k0 : (0 : Int) ≤ (k : Int) := by omega
      have k1 : (k : Int) < (l.length : Int) := by omega
      go_wp2
      go_region_with (go_at_call 46; refine (eqHome_calls _ _ _ _ _ _ _ _ _ (Rus.keep HR1.out ((Keep.refl _ _).drew)) (Rus.keep HR2.out ((Keep.refl _ _).drew))).mono ?_; rintro e w2 ⟨rfl, hK2⟩)
      all_goals
        go_wp2
        go_roundg (gk - 1)
        case rel => exact ⟨k + 1, by omega, by go_num, by have := HG.out; omega, HK.out.drew.trans hK2⟩
        case measure => have := HG.out; omega
    · go_wp2
      go_ret
      exact ⟨rfl, HK.out⟩
set_option maxHeartbeats 2000000 in
theorem eqLinkS_calls (l : List Unit) (s t : Value) (w : World) (hs : Lks w s l) (ht : Lks w t l) : Calls Try.prog 29 #[s, t] w (Tells true w) := by
  have HS := Lib.hid hs
  have HT := Lib.hid ht
  obtain ⟨ad, c, rfl, hc, hm, _⟩ := hs
  obtain ⟨ad', c', rfl, hc', hm', _⟩ := ht
  have hl : (((l.length : Nat) : Int) != ((l.length : Nat) : Int)) = false := by simp
  go_enter Try.func29, Try.ntmps29
  go_wp2
  go_loopg [5] (l.length + 1) (fun g i wr => ∃ k : Nat, k ≤ l.length ∧ i = .int .i64 k ∧ g = l.length + 1 - k ∧ Keep Any w wr)
  case atStart => exact ⟨0, by omega, rfl, rfl, Keep.refl _ _⟩
  case round =>
    obtain ⟨k, hk, rfl, hg, hK⟩ := hrel
    have HG := Lib.hid hg
    have HK := Lib.hid hK
    clear hg hK
    by_cases hlt : k < l.length
    · have hx := hlt
      obtain ⟨ad, rfl, p0, p1, p2, p3, p4, p5, p6⟩ := lks_at HS.out HK.out hlt
      obtain ⟨ad', rfl, q0, q1, q2, q3, q4, q5, q6⟩ := lks_at HT.out HK.out hlt
      have k0 : (0 : Int) ≤ (k : Int) := by omega
      have k1 : (k : Int) < (l.length : Int) := by omega
      go_wp2
      go_region_with (go_at_call 47; refine (eqLink_calls _).mono ?_; rintro e w2 ⟨rfl, hK2⟩)
      all_goals
        go_wp2
        go_roundg (gk - 1)
        case rel => exact ⟨k + 1, by omega, by go_num, by have := HG.out; omega, HK.out.drew.trans hK2⟩
        case measure => have := HG.out; omega
    · go_wp2
      go_ret
      exact ⟨rfl, HK.out⟩
set_option maxHeartbeats 2000000 in
theorem eqServer_calls (lh : List Hm) (lk : List Unit) (a1 a2 b1 b2 : Option Addr) (c1 c2 d1 d2 : Nat) (w : World) (h1 : Hos w (.slice a1 lh.length c1) lh) (h2 : Hos w (.slice a2 lh.length c2) lh) (h3 : Lks w (.slice b1 lk.length d1) lk) (h4 : Lks w (.slice b2 lk.length d2) lk) :
    Calls Try.prog 10 #[.agg #[.slice a1 lh.length c1, .slice b1 lk.length d1], .agg #[.slice a2 lh.length c2, .slice b2 lk.length d2]] w (Tells true w) := by
  have H1 := Lib.hid h1
  have H2 := Lib.hid h2
  have H3 := Lib.hid h3
  have H4 := Lib.hid h4
  clear h1 h2 h3 h4
  have KW := Lib.hid (((Keep.refl Any w).alloc (.cells #[.slice a1 lh.length c1, .slice b1 lk.length d1] 29 (0, 0))).alloc (.cells #[.slice a2 lh.length c2, .slice b2 lk.length d2] 29 (0, 0)))
  have XW := Lib.hid (blk_alloc (blk_new w (.cells #[.slice a1 lh.length c1, .slice b1 lk.length d1] 29 (0, 0))) (.cells #[.slice a2 lh.length c2, .slice b2 lk.length d2] 29 (0, 0)))
  have YW := Lib.hid (show ((w.alloc (.cells #[.slice a1 lh.length c1, .slice b1 lk.length d1] 29 (0, 0))).alloc (.cells #[.slice a2 lh.length c2, .slice b2 lk.length d2] 29 (0, 0))).heap[w.heap.size + 1]? = some (.cells #[.slice a2 lh.length c2, .slice b2 lk.length d2] 29 (0, 0)) by rw [← World.size_alloc w (.cells #[.slice a1 lh.length c1, .slice b1 lk.length d1] 29 (0, 0))]; exact blk_new _ _)
  go_enter Try.func10, Try.ntmps10
  go_wp2_with (first | (go_at_call 28; refine (eqHomeS_calls lh _ _ _ (Hos.keep H1.out KW.out) (Hos.keep H2.out KW.out)).mono ?_; rintro e w2 ⟨rfl, hK⟩; have KW := Lib.hid (KW.out.trans hK); have XW := Lib.hid (blk_keep hK XW.out trivial); have YW := Lib.hid (blk_keep hK YW.out trivial); have x0 := (blk_cell XW.out 0).trans rfl; have x1 := (blk_cell XW.out 1).trans rfl; have y0 := (blk_cell YW.out 0).trans rfl; have y1 := (blk_cell YW.out 1).trans rfl; clear hK) | (go_at_call 29; refine (eqLinkS_calls lk _ _ _ (Lks.keep H3.out KW.out) (Lks.keep H4.out KW.out)).mono ?_; rintro e w2 ⟨rfl, hK⟩; have KW := Lib.hid (KW.out.trans hK); have XW := Lib.hid (blk_keep hK XW.out trivial); have YW := Lib.hid (blk_keep hK YW.out trivial); have x0 := (blk_cell XW.out 0).trans rfl; have x1 := (blk_cell XW.out 1).trans rfl; have y0 := (blk_cell YW.out 0).trans rfl; have y1 := (blk_cell YW.out 1).trans rfl; clear hK))
  go_ret
  exact ⟨rfl, KW.out⟩
end Go.Proofs.Ytlmonnhgjnjniaa

/- The program's ServerOk of a server to which nobody talked yet: yes. ServerNew of the reference. -/
import Derived.Test.YtngghnakbhoiaaaGreatDoorMLawSvBegin7
import Derived.Test.YtngghnakbhoiaaaGreatDoorMLawSvBegin3
import Derived.Test.YtngghnakbhoiaaaGreatDoorMLawSvBegin5
import Derived.Test.YtngghnakbhoiaaaGreatDoorMLawSvBegin6
/- The program's ServerOk of a server to which nobody talked yet: yes. -/
namespace Go.Proofs.YtngghnakbhoiaaaGreatDoor
open Go.RowKit
set_option linter.unusedVariables false
set_option linter.unusedSimpArgs false
set_option maxRecDepth 20000 in
theorem talkFits_nil (w : World) : Calls Tryz.prog 50 #[.agg #[.slice none 0 0, .slice none 0 0, .int .i64 0, .int .i64 0, .slice none 0 0, .int .i64 0, .slice none 0 0, .slice none 0 0, .int .i64 0], .agg #[.int .i64 0, .int .i64 (-1), .slice none 0 0, .slice none 0 0, .int .i64 0]] w (Tells true w) := by
  go_enter Tryz.func50, Tryz.ntmps50
  go_wp2
  go_ret
  exact ⟨rfl, by repeat (first | exact Keep.refl _ _ | apply Keep.drewN | apply Keep.drew | apply Keep.alloc)⟩
set_option maxRecDepth 20000 in
theorem linkFits_new (v : Value) (w : World) : Calls Tryz.prog 29 #[v, .agg #[.int .i64 0, .int .i64 (-1), .slice none 0 0, .slice none 0 0, .int .i64 0, .int .i64 (-1), .string ⟨#[]⟩]] w (Tells true w) := by
  have KW := Lib.hid ((Keep.refl Any w).alloc (.cells #[.int .i64 0, .int .i64 (-1), .slice none 0 0, .slice none 0 0, .int .i64 0, .int .i64 (-1), .string ⟨#[]⟩] 62 (0, 0)))
  have BX := Lib.hid (blk_new w (.cells #[.int .i64 0, .int .i64 (-1), .slice none 0 0, .slice none 0 0, .int .i64 0, .int .i64 (-1), .string ⟨#[]⟩] 62 (0, 0)))
  have x0 := (blk_cell BX.out 0).trans rfl
  have x1 := (blk_cell BX.out 1).trans rfl
  have x2 := (blk_cell BX.out 2).trans rfl
  have x3 := (blk_cell BX.out 3).trans rfl
  have x4 := (blk_cell BX.out 4).trans rfl
  have x5 := (blk_cell BX.out 5).trans rfl
  have x6 := (blk_cell BX.out 6).trans rfl
  have FG := Lib.hid (fun w => (frameGet_calls ⟨#[]⟩ w (by decide)).mono fun e w' h => (show e = .returned (.tuple #[.string ⟨#[]⟩, .int .i64 0]) ∧ Keep Any w w' from h))
  go_enter Tryz.func29, Tryz.ntmps29
  go_wp2_with (first | (go_at_call 49; refine (FG.out _).mono ?_; rintro e w2 ⟨rfl, hK2⟩; have KW := Lib.hid (KW.out.trans hK2); have BX := Lib.hid (blk_keep hK2 BX.out trivial); have x0 := (blk_cell BX.out 0).trans rfl; have x1 := (blk_cell BX.out 1).trans rfl; have x2 := (blk_cell BX.out 2).trans rfl; have x3 := (blk_cell BX.out 3).trans rfl; have x4 := (blk_cell BX.out 4).trans rfl; have x5 := (blk_cell BX.out 5).trans rfl; have x6 := (blk_cell BX.out 6).trans rfl; clear hK2) | (go_at_call 50; refine (talkFits_nil _).mono ?_; rintro e w2 ⟨rfl, hK2⟩; have KW := Lib.hid (KW.out.trans hK2); have BX := Lib.hid (blk_keep hK2 BX.out trivial); have x0 := (blk_cell BX.out 0).trans rfl; have x1 := (blk_cell BX.out 1).trans rfl; have x2 := (blk_cell BX.out 2).trans rfl; have x3 := (blk_cell BX.out 3).trans rfl; have x4 := (blk_cell BX.out 4).trans rfl; have x5 := (blk_cell BX.out 5).trans rfl; have x6 := (blk_cell BX.out 6).trans rfl; clear hK2))
  go_ret
  exact ⟨rfl, KW.out⟩
set_option maxRecDepth 20000 in
set_option maxHeartbeats 4000000 in
theorem homesOk_fresh (lh : List Hm) (v : Value) (w : World) (hs : Hos w v lh) (h1 : 1 ≤ lh.length) (h3 : lh.length ≤ 3) (hn : NamesGood (lh.map (·.1))) (hr : ∀ x, x ∈ lh → RulesGood x.2) : Calls Tryz.prog 28 #[v] w (Tells true w) := by
  have HS := Lib.hid hs
  have HN := Lib.hid hn
  have HR := Lib.hid hr
  have NA := Lib.hid (fun v' w' (k : Strs w' Any v' (lh.map (·.1))) => (namesAlone_calls (lh.map (·.1)) v' w' k).mono fun e w'' h => (show Tells true w' e w'' from by obtain ⟨b, h1, h2, h3⟩ := h; exact ⟨by rw [h1, h2.2 HN.out], h3⟩))
  obtain ⟨a, c, rfl, _, _, _⟩ := hs
  clear hn hr
  go_enter Tryz.func28, Tryz.ntmps28
  go_wp2
  go_loopg [3, 18] (lh.length + 1) (fun g o i wz => ∃ k : Nat, k ≤ lh.length ∧ i = .int .i64 k ∧ g = lh.length + 1 - k ∧ OwnS wz w.heap.size o ((lh.take k).map (·.1)) ∧ (∀ x, x ∈ (lh.take k).map (·.1) → Fits x) ∧ Keep Any w wz)
  case atStart => exact ⟨0, by omega, rfl, rfl, World.ownsRow_nil .., (fun x hx => by simp at hx), Keep.refl _ _⟩
  case round =>
    obtain ⟨k, hk, rfl, hg, ho, hf, hK⟩ := hrel
    have OL := Lib.hid ho
    have FL := Lib.hid hf
    have KL := Lib.hid hK
    have HG := Lib.hid hg
    clear ho hf hK hg
    by_cases hlt : k < lh.length
    · have hx : lh[k]? = some lh[k] := List.getElem?_eq_getElem hlt
      obtain ⟨ad, a1, d1, c1, rfl, hF, _, p0, p1, p2, p3, p4, p5, p6, p7, p8, p9⟩ := hos_at HS.out KL.out hx
      have HX := Lib.hid hx
      have TX := Lib.hid (show (lh.take (k + 1)).map (·.1) = (lh.take k).map (·.1) ++ [lh[k].1] by rw [List.take_succ_eq_append_getElem hlt, List.map_append]; rfl)
      have XF := Lib.hid hF
      have ln : ((lh.take k).map (·.1)).length = k := by rw [List.length_map, List.length_take]; omega
      have LN := Lib.hid ln
      generalize lh[k] = x at *
      have ZL := Lib.hid KL.out.size
      clear hx hF ln
      go_wp2_with (at_builtin; refine wpList_append_ex _ rfl (.tmp 22) (.tmp 25) 23 rfl _ _ rfl rfl (app_strs _ _ w.heap.size _ ((lh.take k).map (·.1)) (OL.out.keepA (((Keep.refl Any wr).alloc _).alloc _)) (by have := ZL.out; simp only [World.size_alloc]; omega) _ [x.1] (strs_litF [x.1] rfl (blk_new1 _ _ _) trivial (by simp) (fun y hy => by rw [List.mem_singleton.1 hy]; exact XF.out)) (by rw [LN.out]; simp only [List.length_cons, List.length_nil]; omega)) ?_; intro va wa ha; have OA := Lib.hid ha.1; have KA := Lib.hid (((KL.out.alloc (.cells #[.string x.1, .slice none 0 0, .slice none 0 0, .int .i64 0, .int .i64 0, .slice a1 x.2.length c1, .int .i64 0, .slice d1 0 0, .slice none 0 0, .int .i64 0] 46 (0, 0))).alloc (.cells #[.string x.1] 9 (0, 0))).grown ha.2.1 (fun i hi hlt => by have := (World.ownsRow.lt OL.out i hi).1; omega)); clear ha)
      go_roundg (gk - 1)
      case rel => exact ⟨k + 1, by omega, by go_num, by have := HG.out; omega, by rw [TX.out]; exact OA.out, by rw [TX.out]; intro y hy; rcases List.mem_append.1 hy with h | h; exact FL.out y h; rw [List.mem_singleton.1 h]; exact XF.out, KA.out⟩
      case measure => have := HG.out; omega
    · obtain rfl : k = lh.length := by omega
      have e1 : lh.take lh.length = lh := List.take_length
      have SL := Lib.hid (show Strs wr Any _ (lh.map (·.1)) from OwnS.strs (by have := OL.out; rw [e1] at this; exact this) (by have := FL.out; rw [e1] at this; exact this) (fun _ _ _ => trivial))
      clear e1
      go_wp2_with (go_at_call 15; refine (NA.out _ _ SL.out).mono ?_; rintro e w2 ⟨rfl, hK2⟩; have K2 := Lib.hid (KL.out.trans hK2); clear hK2)
      obtain ⟨wy, hwy⟩ : ∃ wy, wy = wr := ⟨_, rfl⟩
      go_loopg [33] (lh.length + 1) (fun g i wz => ∃ k : Nat, k ≤ lh.length ∧ i = .int .i64 k ∧ g = lh.length + 1 - k ∧ Keep Any w wz)
      case atStart => exact ⟨0, by omega, rfl, rfl, K2.out⟩
      case round =>
        obtain ⟨j, hj, rfl, hg, hK⟩ := hrel
        have KM := Lib.hid hK
        have HG := Lib.hid hg
        clear hK hg
        by_cases hlt : j < lh.length
        · have hx : lh[j]? = some lh[j] := List.getElem?_eq_getElem hlt
          obtain ⟨ad, a1, d1, c1, rfl, _, hq, p0, p1, p2, p3, p4, p5, p6, p7, p8, p9⟩ := hos_at HS.out KM.out hx
          have HQ := Lib.hid hq
          have GX := Lib.hid (HR.out _ (List.mem_of_getElem? hx))
          generalize lh[j] = x at *
          clear hx hq
          go_wp2_with (go_at_call 48; refine (storeOk_fresh x.2 _ _ _ _ _ (Rus.keep HQ.out ((Keep.refl Any wr).alloc _)) GX.out).mono ?_; rintro e w3 ⟨rfl, hK3⟩)
          go_roundg (gk - 1)
          case rel => exact ⟨j + 1, by omega, by go_num, by have := HG.out; omega, (KM.out.alloc _).trans hK3⟩
          case measure => have := HG.out; omega
        · go_wp2
          go_ret
          exact ⟨rfl, KM.out⟩
set_option maxRecDepth 20000 in
set_option maxHeartbeats 4000000 in
theorem serverOk_fresh (lh : List Hm) (lk : List Unit) (ha la : Option Addr) (hc lc : Nat) (w : World) (hs : Hos w (.slice ha lh.length hc) lh) (hk : Lks w (.slice la lk.length lc) lk) (h1 : 1 ≤ lh.length) (h3 : lh.length ≤ 3) (k1 : 1 ≤ lk.length) (k3 : lk.length ≤ 3)
    (hn : NamesGood (lh.map (·.1))) (hr : ∀ x, x ∈ lh → RulesGood x.2) : Calls Tryz.prog 10 #[.agg #[.slice ha lh.length hc, .slice la lk.length lc]] w (Tells true w) := by
  have HS := Lib.hid hs
  have HK := Lib.hid hk
  have HO := Lib.hid (fun w' (k : Keep Any w w') => homesOk_fresh lh _ w' (Hos.keep hs k) h1 h3 hn hr)
  have KW := Lib.hid ((Keep.refl Any w).alloc (.cells #[.slice ha lh.length hc, .slice la lk.length lc] 30 (0, 0)))
  have BX := Lib.hid (blk_new w (.cells #[.slice ha lh.length hc, .slice la lk.length lc] 30 (0, 0)))
  have x0 := (blk_cell BX.out 0).trans rfl
  have x1 := (blk_cell BX.out 1).trans rfl
  have MR := make_run (P := Tryz.prog) 77 80 (.slice none 0 0) 1 24 Tryz.underlying77 (by kernel_rfl) lh.length (by omega) (by omega)
  simp only [Value.cells, Nat.mul_one] at MR
  have MC := Lib.hid (fun (w' : World) (U : Nat) (h : w'.heap[U]? = some (.cells (madeCells #[.slice none 0 0] lh.length) 80 (0, 0))) (j : Nat) (hj : j < lh.length) => (show w'.cell? ⟨U, j, none⟩ = some (.slice none 0 0) by
    rw [blk_cell h, ← Array.getElem?_toList, toList_madeCells_one, List.getElem?_replicate, if_pos hj]))
  have b0 : decide ((lk.length : Int) < 1) = false := by rw [decide_eq_false_iff_not]; omega
  have b1 : decide ((3 : Int) < (lk.length : Int)) = false := by rw [decide_eq_false_iff_not]; omega
  clear hn hr hs hk
  go_enter Tryz.func10, Tryz.ntmps10
  go_wp2_with (go_at_call 28; refine (HO.out _ KW.out).mono ?_; rintro e w2 ⟨rfl, hK2⟩; have KW := Lib.hid (KW.out.trans hK2); have BX := Lib.hid (blk_keep hK2 BX.out trivial); have x0 := (blk_cell BX.out 0).trans rfl; have x1 := (blk_cell BX.out 1).trans rfl; clear hK2; have zx := blk_lt BX.out)
  have KM := Lib.hid (KW.out.alloc (.cells (madeCells #[.slice none 0 0] lh.length) 80 (0, 0)))
  have XM := Lib.hid (blk_alloc BX.out (.cells (madeCells #[.slice none 0 0] lh.length) 80 (0, 0)))
  have UM := Lib.hid (blk_new w2 (.cells (madeCells #[.slice none 0 0] lh.length) 80 (0, 0)))
  generalize w2.heap.size = U at *
  go_loopg [31] (lk.length + 1) (fun g i wz => ∃ k : Nat, k ≤ lk.length ∧ i = .int .i64 k ∧ g = lk.length + 1 - k ∧ wz.heap[w.heap.size]? = some (.cells #[.slice ha lh.length hc, .slice la lk.length lc] 30 (0, 0)) ∧ wz.heap[U]? = some (.cells (madeCells #[.slice none 0 0] lh.length) 80 (0, 0)) ∧ Keep Any w wz)
  case atStart => exact ⟨0, by omega, rfl, rfl, XM.out, UM.out, KM.out⟩
  case round =>
    obtain ⟨k, hk, rfl, hg, hx, hu, hK⟩ := hrel
    have XL := Lib.hid hx
    have UL := Lib.hid hu
    have KL := Lib.hid hK
    have HG := Lib.hid hg
    clear hx hu hK hg
    have z0 := (blk_cell XL.out 0).trans rfl
    have z1 := (blk_cell XL.out 1).trans rfl
    have zl := blk_lt XL.out
    by_cases hlt : k < lk.length
    · obtain ⟨ad, rfl, p0, p1, p2, p3, p4, p5, p6⟩ := lks_at HK.out KL.out hlt
      go_wp2_with (go_at_call 29; refine (linkFits_new _ _).mono ?_; rintro e w3 ⟨rfl, hK3⟩; have K3 := Lib.hid ((KL.out.alloc _).trans hK3); have X3 := Lib.hid (blk_keep hK3 (blk_alloc XL.out _) trivial); have U3 := Lib.hid (blk_keep hK3 (blk_alloc UL.out _) trivial); have L3 := Lib.hid (blk_keep hK3 (blk_new wr (.cells #[.int .i64 0, .int .i64 (-1), .slice none 0 0, .slice none 0 0, .int .i64 0, .int .i64 (-1), .string ⟨#[]⟩] 62 (0, 0))) trivial); have q0 := (blk_cell L3.out 1).trans rfl; clear hK3)
      go_roundg (gk - 1)
      case rel => exact ⟨k + 1, by omega, by go_num, by have := HG.out; omega, X3.out, U3.out, K3.out⟩
      case measure => have := HG.out; omega
    · go_wp2
      obtain ⟨wy, hwy⟩ : ∃ wy, wy = wr := ⟨_, rfl⟩
      go_loopg [71] (lh.length + 1) (fun g i wz => ∃ k : Nat, k ≤ lh.length ∧ i = .int .i64 k ∧ g = lh.length + 1 - k ∧ wz.heap[U]? = some (.cells (madeCells #[.slice none 0 0] lh.length) 80 (0, 0)) ∧ Keep Any w wz)
      case atStart => exact ⟨0, by omega, rfl, rfl, UL.out, KL.out⟩
      case round =>
        obtain ⟨j, hj, rfl, hg, hu, hK⟩ := hrel
        have UN := Lib.hid hu
        have KN := Lib.hid hK
        have HG := Lib.hid hg
        clear hu hK hg
        by_cases hlj : j < lh.length
        · have hx : lh[j]? = some lh[j] := List.getElem?_eq_getElem hlj
          obtain ⟨ad, a1, d1, c1, rfl, _, _, p0, p1, p2, p3, p4, p5, p6, p7, p8, p9⟩ := hos_at HS.out KN.out hx
          generalize lh[j] = x at *
          have cU := MC.out _ U (blk_alloc UN.out (.cells #[.string x.1, .slice none 0 0, .slice none 0 0, .int .i64 0, .int .i64 0, .slice a1 x.2.length c1, .int .i64 0, .slice d1 0 0, .slice none 0 0, .int .i64 0] 46 (0, 0))) j hlj
          have zu := blk_lt UN.out
          have j0 : (0 : Int) ≤ (j : Int) := by omega
          have j1 : (j : Int) < (lh.length : Int) := by omega
          clear hx
          go_wp2
          go_quiet (fail)
          go_wp2
          go_roundg (gk - 1)
          case rel => exact ⟨j + 1, by omega, by go_num, by have := HG.out; omega, blk_alloc UN.out _, (KN.out.alloc _).drewN _⟩
          case measure => have := HG.out; omega
        · go_wp2
          go_ret
          exact ⟨rfl, KN.out⟩
end Go.Proofs.YtngghnakbhoiaaaGreatDoor

/- ServerNew of the reference. -/
namespace Go.Proofs.YtngghnakbhoiaaaGreatDoor
open Go.RowKit
set_option linter.unusedVariables false
set_option linter.unusedSimpArgs false
theorem l7Copy_calls' (l : List Ru) (a0 : Option Addr) (c0 : Nat) (ok : Nat → Prop) (hl : l.length ≤ 1048576) (w : World) (hs : SRus w ok (.slice a0 l.length c0) l) :
    Calls Tryz.prog 20 #[.agg #[.slice none 0 0, .slice none 0 0, .int .i64 0, .int .i64 0, .slice a0 l.length c0, .int .i64 0, .slice none 0 0, .slice none 0 0, .int .i64 0]] w fun e w' => ∃ (a5 : Option Addr) (c5 : Nat) (d5 : Option Addr), e = .returned (.agg #[.slice none 0 0, .slice none 0 0, .int .i64 0, .int .i64 0, .slice a5 l.length c5, .int .i64 0, .slice d5 0 0, .slice none 0 0, .int .i64 0]) ∧ SRus w' (Mid' w.heap.size w'.heap.size) (.slice a5 l.length c5) l ∧ Keep Any w w' :=
  (l7Copy_calls l _ w (Sl.mono hs.rus (fun _ _ _ h => h) (fun _ _ _ => trivial) (by decide)) hl).mono fun e w' h => by
    obtain ⟨rs, d, h1, h2, h3⟩ := h
    obtain ⟨a5, c5, e5, _⟩ := id h2
    subst e5
    exact ⟨a5, c5, d, h1, h2, h3⟩
set_option maxHeartbeats 8000000 in
set_option maxRecDepth 20000 in
theorem specServerNew_calls (names : List ByteArray) (v : Value) (rules : List Ru) (rs : Value) (n : Int) (hn : I64 n) (w : World) (hs : Strs w Any v names) (hr : Rus w Any rs rules) (hl : rules.length ≤ 1048576) (hnl : names.length ≤ 1048576) :
    Calls Tryz.prog 6 #[v, rs, .int .i64 n] w (ServerR names rules n w) := by
  have HS := Lib.hid hs
  have SN := Lib.hid (fun w' (k : Keep Any w w') => specStoreNew_calls rules rs w' (Rus.keep hr k) hl)
  have NL := Lib.hid (fun x w' hx => l2Name_calls x w' hx)
  have CO := Lib.hid (fun x w' (k : Keep Any w w') => l6Column_calls names x v w' (Strs.keep hs k))
  have LI := Lib.hid (fun n a b w' => l1In_calls n a b w')
  have LN := Lib.hid (fun w' => (show Calls Tryz.prog 22 #[] w' (fun e w'' => e = .returned (.agg #[.int .i64 0, .int .i64 (-1), .slice none 0 0, .slice none 0 0, .int .i64 0, .int .i64 (-1), .string ⟨#[]⟩]) ∧ Keep Any w' w'') from l10New_calls w'))
  obtain ⟨a, c, rfl, hc, hm, _⟩ := hs
  obtain ⟨ra, rc, rfl, _, _, _⟩ := hr
  go_enter Tryz.func6, Tryz.ntmps6
  go_wp2_with fail
  refine (SN.out _ ((Keep.refl _ _).alloc _)).mono ?_
  rintro e w2 ⟨bo, rs0, hbo, rfl, hS, hK⟩
  have HBO := Lib.hid hbo
  obtain ⟨l0, hl0⟩ : ∃ l0, l0 = (if bo then rules else []) := ⟨_, rfl⟩
  rw [← hl0] at hS
  have HL0 := Lib.hid hl0
  have HL0s := Lib.hid (show l0.length ≤ 1048576 by rw [hl0]; split; exact hl; simp)
  obtain ⟨a0, c0, e0, _⟩ := id hS
  subst e0
  have S2 := Lib.hid hS
  have K2 := Lib.hid (((Keep.refl Any w).alloc _).trans hK)
  have B2 := Lib.hid (blk_keep hK (blk_new _ _) trivial)
  have LC := Lib.hid (fun w' (h : SRus w' (Mid' (w.heap.size + 1) w2.heap.size) (.slice a0 l0.length c0) l0) => l7Copy_calls' l0 a0 c0 _ HL0s.out w' h)
  have ZZ := Lib.hid (show w.heap.size < w2.heap.size from blk_lt B2.out)
  clear hbo hl0 hS hK
  obtain ⟨i0, hi, hzz⟩ := Option.map_eq_some_iff.1 infoHo
  simp only [Prod.mk.injEq] at hzz
  obtain ⟨hz0, hz1, hz2⟩ := hzz
  go_wp2
  go_loopg [11] (names.length + 1) (fun g i wr => ∃ (k top : Nat) (hv : Value) (css : List (List Value)), k ≤ names.length ∧ i = .int .i64 k ∧ g = names.length + 1 - k ∧ wr.heap[w.heap.size]? = some (.cells #[.slice none 0 0, .slice none 0 0] 30 (0, 0)) ∧ wr.heap[w2.heap.size]? = some (.cells #[.slice none 0 0, .slice none 0 0, .int .i64 0, .int .i64 0, .slice a0 l0.length c0, .int .i64 0, .slice none 0 0, .slice none 0 0, .int .i64 0] 41 (0, 0)) ∧ wr.heap[w2.heap.size + 1]? = some (.cells #[hv, .slice none 0 0] 30 (0, 0)) ∧ SRow 10 SHo wr (w2.heap.size + 2) top 46 hv ((names.take k).map fun x => ((x, l0) : Hm)) css ∧ Good (fun t => nameOk t = true) names k ∧ SRus wr (Mid' (w.heap.size + 1) w2.heap.size) (.slice a0 l0.length c0) l0 ∧ Keep Any w wr)
  case atStart => exact ⟨0, w2.heap.size + 2, _, [], by omega, rfl, rfl, blk_alloc (blk_alloc B2.out _) _, blk_alloc (blk_new _ _) _, (show (World.alloc (w2.alloc _) _).heap[w2.heap.size + 1]? = _ by rw [← World.size_alloc w2]; exact blk_new _ _), SRow.nil _ _ _ _ (Nat.le_refl _) (by simp), Good.zero, SRus.keep (SSl.mono S2.out (fun k h => ⟨by have := h.1; simp at this; omega, h.2⟩)) (((Keep.refl _ _).alloc _).alloc _), (K2.out.alloc _).alloc _⟩
  case round =>
    obtain ⟨k, top, hv, css, hk, rfl, hg, hZ, hT, hN, hR, hGo, hS, hK⟩ := hrel
    have HGK := Lib.hid hg
    have HZ := Lib.hid hZ
    have HT := Lib.hid hT
    have HN := Lib.hid hN
    have HR := Lib.hid hR
    have HGo := Lib.hid hGo
    have HSR := Lib.hid hS
    have HK := Lib.hid hK
    clear hg hZ hT hN hR hGo hS hK
    have HLE := Lib.hid (show ((names.take k).map fun x => ((x, l0) : Hm)).length = k by rw [List.length_map, List.length_take]; omega)
    obtain ⟨ah, ch, hv', _⟩ := HR.out.form'
    rw [HLE.out] at hv'
    subst hv'
    by_cases hlt : k < names.length
    · have hx : names[k]? = some names[k] := List.getElem?_eq_getElem hlt
      have HTK := Lib.hid (show (names.take (k + 1)).map (fun x => ((x, l0) : Hm)) = (names.take k).map (fun x => ((x, l0) : Hm)) ++ [(names[k], l0)] by rw [List.take_add_one, List.map_append, hx]; rfl)
      have HX := Lib.hid hx
      obtain ⟨ad, rfl, hf, cX⟩ := strs_at HS.out HK.out hx
      have HF := Lib.hid hf
      generalize names[k] = x at *
      clear hx hf
      have k0 : (0 : Int) ≤ (k : Int) := by omega
      have k1 : (k : Int) < (names.length : Int) := by omega
      have kc : (k : Int) ≤ (c : Int) := by omega
      go_upto_region 6 with fail
      go_cut [40] from 25 to 40 (fun v wc => ∃ b : Bool, v = .bool b ∧ (b = false ↔ (nameOk x = true ∧ x ∉ names.take k)) ∧ Keep Any wr wc)
      case first =>
        go_wp2_with fail
        refine (NL.out x _ HF.out).mono ?_
        rintro e w3 ⟨rfl, hK⟩
        have K3 := Lib.hid hK
        have cX3 := hK.cell cX trivial
        clear hK
        rcases hok : nameOk x with _ | _
        · go_wp2
          go_meet
          exact ⟨true, rfl, ⟨fun e => (by cases e), fun e => by rw [hok] at e; cases e.1⟩, K3.out⟩
        · go_wp2_with fail
          refine (CO.out x _ (HK.out.trans K3.out)).mono ?_
          rintro e w4 ⟨m, rfl, hF, hK⟩
          have HM := Lib.hid (hF.own HX.out)
          have K4 := Lib.hid (K3.out.trans hK)
          have hbd := hF.bd
          clear hF hK
          by_cases hmk : m = (k : Int)
          · subst hmk
            go_wp2
            go_meet
            exact ⟨false, by simp, ⟨fun _ => ⟨hok, by simpa using HM.out⟩, fun _ => rfl⟩, K4.out⟩
          · have hmb : (m == (k : Int)) = false := by simp [hmk]
            go_wp2
            go_meet
            exact ⟨true, by simp [hmk], ⟨fun e => (by cases e), fun e => absurd (HM.out.2 e.2) hmk⟩, K4.out⟩
      case rest =>
        obtain ⟨b, rfl, hb, hK⟩ := hcut
        obtain ⟨wm, hwm⟩ : ∃ wm, wm = wc := ⟨_, rfl⟩
        subst hwm
        have HBB := Lib.hid hb
        have KM := Lib.hid (HK.out.trans hK)
        have NM := Lib.hid (blk_keep hK HN.out trivial)
        have BM := Lib.hid (blk_keep hK HZ.out trivial)
        have TM := Lib.hid (blk_keep hK HT.out trivial)
        have RM := Lib.hid (SRow.keep (R := SHo) (fun h k => SHo.keep h k) HR.out hK)
        have SM := Lib.hid (SRus.keep HSR.out hK.any)
        have cXM := hK.cell cX trivial
        clear hb hK
        cases b
        case true =>
          obtain ⟨r0, r1⟩ := at2' BM.out
          have f0 := blk_frozen BM.out 0
          have f1 := blk_frozen BM.out 1
          have zr := blk_lt BM.out
          go_wp2
          (try simp only [Exit.inBlock, Exit.then])
          refine bodyPost_ret (v := .tuple #[.agg #[.slice none 0 0, .slice none 0 0], .bool false]) (by simp [results, Tryz.results6, go_sem, r0, r1, f0, f1, zr]) rfl (ServerR.no (fun h => by have hb := HBB.out; simp at hb; have hg := h.2.2.1 k x hlt HX.out; exact absurd (hb hg.1) (by simpa using hg.2)) ?_)
          have hz := Nat.le_refl w.heap.size
          repeat (first | (with_reducible exact KM.out) | (with_reducible refine Keep.alloc ?_ _) | (with_reducible refine kset_b' hz ?_))
        case false =>
          have KD := Lib.hid (KM.out.drew)
          have ND := Lib.hid (show wm.drew.heap[w2.heap.size + 1]? = _ from NM.out)
          have BD := Lib.hid (show wm.drew.heap[w.heap.size]? = _ from BM.out)
          have TD := Lib.hid (show wm.drew.heap[w2.heap.size]? = _ from TM.out)
          have RD := Lib.hid (SRow.keep (R := SHo) (fun h k => SHo.keep h k) RM.out ((Keep.refl Any wm).drew))
          have SD := Lib.hid (SRus.keep SM.out ((Keep.refl _ wm).drew))
          have cD := ((Keep.refl Any wm).drew).cell cXM trivial
          obtain ⟨n0, n1⟩ := at2' NM.out
          have fn0 := blk_frozen NM.out 0
          have zn := blk_lt NM.out
          obtain ⟨t0, t1, t2, t3, t4, t5, t6, t7, t8⟩ := at9 TM.out
          go_wp2
          go_region_law (first | (go_simp; go_at_call 20; refine (LC.out _ SD.out).mono ?_; rintro e w5 ⟨a5, c5, d5, rfl, hS, hK⟩; have K5 := Lib.hid (KD.out.trans hK); have N5 := Lib.hid (blk_keep hK ND.out trivial); have B5 := Lib.hid (blk_keep hK BD.out trivial); have T5 := Lib.hid (blk_keep hK TD.out trivial); have S5 := Lib.hid (SRus.keep SD.out hK.any); have R5 := Lib.hid (SRow.keep (R := SHo) (fun h k => SHo.keep h k) (SRow.keep (R := SHo) (fun h k => SHo.keep h k) RD.out hK) ((Keep.refl Any w5).alloc (.cells ([.string x, .slice none 0 0, .slice none 0 0, .int .i64 0, .int .i64 0, .slice a5 l0.length c5, .int .i64 0, .slice d5 0 0, .slice none 0 0, .int .i64 0] : List Value).toArray 46))); have HX5 := Lib.hid (show SHo (w5.alloc (.cells ([.string x, .slice none 0 0, .slice none 0 0, .int .i64 0, .int .i64 0, .slice a5 l0.length c5, .int .i64 0, .slice d5 0 0, .slice none 0 0, .int .i64 0] : List Value).toArray 46)) (Mid' (wm.drew).heap.size w5.heap.size) (x, l0) [.string x, .slice none 0 0, .slice none 0 0, .int .i64 0, .int .i64 0, .slice a5 l0.length c5, .int .i64 0, .slice d5 0 0, .slice none 0 0, .int .i64 0] from ⟨_, d5, rfl, HF.out, SRus.keep hS ((Keep.refl _ w5).alloc _)⟩); have c05 := hK.cell cD trivial; obtain ⟨n0, n1⟩ := at2' N5.out; have fn0 := blk_frozen N5.out 0; have zn := blk_lt N5.out; clear hS hK) | (refine step_append_lies _ rfl (.tmp 43) (.tmp 51) 27 rfl (w2.heap.size + 2) 46 i0 _ 10 168 Tryz.underlying27 hi hz0 hz1 hz2 rfl (by decide) (.slice ah k ch) k css.flatten rfl (by have h := R5.out.own; rw [HLE.out] at h; exact h) ⟨w5.heap.size, 0, none⟩ 1 1 [.string x, .slice none 0 0, .slice none 0 0, .int .i64 0, .int .i64 0, .slice a5 l0.length c5, .int .i64 0, .slice d5 0 0, .slice none 0 0, .int .i64 0] rfl rfl (new_cells' _ _ _ rfl) (by simp [Value.oneCell']) (by omega) (by unfold maxLen; omega) (by omega) (by have := R5.out.top_le'; omega) _ rfl ?_; intro gB cap w6 hown hgrow hblk hlt6; have R6 := Lib.hid (SRow.snoc (R := SHo) (v' := .slice (some ⟨gB, 0, none⟩) (k + 1) cap) (fun h k => SHo.keep h k) R5.out (by rw [HLE.out]; exact hown) hgrow (hblk.elim (fun h => .inl h.symm) fun h => .inr (congrArg some (h.trans (by simp)))) HX5.out rfl (fun i hi => ⟨Nat.le_trans RD.out.top_le'.2 hi.1, by have := hi.2; simp; omega⟩)); have HB6 := Lib.hid (fun i (hi : (Value.slice ah k ch).ownBlock = some i) => (R5.out.own.lt i hi).1); have K6 := Lib.hid ((K5.out.alloc _).grown hgrow (fun i hi hlt => by have := HB6.out i hi; have := ZZ.out; omega)); have N6 := Lib.hid ((hgrow.block _ (by have := blk_lt N5.out; simp; omega) (fun e => by have := HB6.out _ e.symm; omega)).trans (blk_alloc N5.out _)); have Z6 := Lib.hid ((hgrow.block _ (by have := blk_lt B5.out; simp; omega) (fun e => by have := HB6.out _ e.symm; have := ZZ.out; omega)).trans (blk_alloc B5.out _)); have T6 := Lib.hid ((hgrow.block _ (by have := blk_lt T5.out; simp; omega) (fun e => by have := HB6.out _ e.symm; omega)).trans (blk_alloc T5.out _)); have S6 := Lib.hid (SRus.keep S5.out (((Keep.refl _ _).alloc _).grown hgrow (fun i hi _ hk => by have := HB6.out i hi; have := hk.2; omega))); obtain ⟨n0, n1⟩ := at2' N6.out; have fn0 := blk_frozen N6.out 0; have zn := blk_lt N6.out; clear hown hgrow hblk hlt6))
          all_goals
            go_wp2
            go_roundg (gk - 1)
            case rel =>
              have hgd : nameOk x = true ∧ x ∉ names.take k := by simpa using HBB.out
              exact ⟨k + 1, _, _, _, by omega, by go_num, by have := HGK.out; omega, blk_far Z6.out _ _ (show w.heap.size ≠ w2.heap.size + 1 by have := ZZ.out; omega), blk_far T6.out _ _ (show w2.heap.size ≠ w2.heap.size + 1 by omega), (blk_set N6.out 0 _).trans rfl, by rw [HTK.out]; exact SRow.setc (R := SHo) (fun h k => SHo.keep h k) R6.out (Nat.lt_succ_self _), Good.succ HGo.out HX.out hgd.1 hgd.2, SRus.keep S6.out (kset_x (fun h => by have := h.2; omega) (Keep.refl _ _)), K6.out.set _ _ (fun h _ => by have h : w2.heap.size + 1 < w.heap.size := h; have := ZZ.out; omega)⟩
            case measure => have := HGK.out; omega
    · obtain rfl : k = names.length := by omega
      have k1 : ¬ (names.length : Int) < (names.length : Int) := by omega
      obtain ⟨wz, hwz⟩ : ∃ wz, wz = wr := ⟨_, rfl⟩
      subst hwz
      have HH0 := Lib.hid (show SHos wz (Mid' (w2.heap.size + 2) wz.heap.size) (.slice ah names.length ch) (names.map fun x => ((x, l0) : Hm)) from by have h := HR.out.slice (ok := Mid' (w2.heap.size + 2) wz.heap.size) (fun i h1 h2 => ⟨h1, h2⟩); rwa [List.take_length] at h)
      have ZW := Lib.hid (show w.heap.size < w2.heap.size + 1 ∧ w2.heap.size + 1 < wz.heap.size from ⟨by have := ZZ.out; omega, blk_lt HN.out⟩)
      go_upto_region 9 with fail
      go_cut [66] from 54 to 66 (fun v wc => ∃ b : Bool, v = .bool b ∧ (b = false ↔ (bo = true ∧ inR names.length 1 3 = true ∧ inR n 1 3 = true)) ∧ wz = wc)
      case first =>
        cases bo
        · go_wp2
          go_meet
          exact ⟨true, rfl, ⟨fun e => (by cases e), fun e => by cases e.1⟩, rfl⟩
        rcases h1 : inR names.length 1 3 with _ | _
        · have H1 := Lib.hid h1
          clear h1
          go_wp2_with (go_at_call 21; refine (LI.out _ _ _ _).mono ?_; rintro e w4 ⟨rfl, rfl⟩; rw [H1.out])
          go_meet
          exact ⟨true, rfl, ⟨fun e => (by cases e), fun e => (by have h := e.2.1; rw [H1.out] at h; cases h)⟩, rfl⟩
        rcases h2 : inR n 1 3 with _ | _
        · have H1 := Lib.hid h1
          have H2 := Lib.hid h2
          clear h1 h2
          go_wp2_with (go_at_call 21; refine (LI.out _ _ _ _).mono ?_; rintro e w4 ⟨rfl, rfl⟩; first | rw [H1.out] | rw [H2.out])
          go_meet
          exact ⟨true, rfl, ⟨fun e => (by cases e), fun e => (by have h := e.2.2; rw [H2.out] at h; cases h)⟩, rfl⟩
        · have H1 := Lib.hid h1
          have H2 := Lib.hid h2
          clear h1 h2
          go_wp2_with (go_at_call 21; refine (LI.out _ _ _ _).mono ?_; rintro e w4 ⟨rfl, rfl⟩; first | rw [H1.out] | rw [H2.out])
          go_meet
          exact ⟨false, rfl, by simp [H1.out, H2.out], rfl⟩
      case rest =>
        obtain ⟨b, rfl, hb, rfl⟩ := hcut
        have HBB := Lib.hid hb
        clear hb
        cases b
        case true =>
          obtain ⟨r0, r1⟩ := at2' HZ.out
          have f0 := blk_frozen HZ.out 0
          have f1 := blk_frozen HZ.out 1
          have zr := blk_lt HZ.out
          go_wp2
          (try simp only [Exit.inBlock, Exit.then])
          refine bodyPost_ret (v := .tuple #[.agg #[.slice none 0 0, .slice none 0 0], .bool false]) (by simp [results, Tryz.results6, go_sem, r0, r1, f0, f1, zr]) rfl (ServerR.no (fun h => by have hb := HBB.out; have hbo := HBO.out.2 h.2.2.2.2.2; have e1 : inR names.length 1 3 = true := (by have h1 := h.1; have h2 := h.2.1; simp [inR]; omega); have e2 : inR n 1 3 = true := (by have h1 := h.2.2.2.1; have h2 := h.2.2.2.2.1; simp [inR]; omega); simp [hbo, e1, e2] at hb) ?_)
          have hz := Nat.le_refl w.heap.size
          repeat (first | (with_reducible exact HK.out) | (with_reducible refine Keep.alloc ?_ _) | (with_reducible refine kset_b' hz ?_))
        case false =>
          obtain ⟨hbo, he1, he2⟩ := HBB.out.1 rfl
          simp only [inR, Bool.and_eq_true, decide_eq_true_eq] at he1 he2
          have HL0R := Lib.hid (show l0 = rules by rw [HL0.out, hbo]; rfl)
          have HH := Lib.hid (show SHos wz (Mid' (w2.heap.size + 2) wz.heap.size) (.slice ah names.length ch) (names.map fun x => ((x, rules) : Hm)) from by rw [← HL0R.out]; exact HH0.out)
          have HGD := Lib.hid (show ServerGood names rules n from ⟨by omega, by omega, HGo.out, he2.1, he2.2, HBO.out.1 hbo⟩)
          obtain ⟨i1, hi1, hyy⟩ := Option.map_eq_some_iff.1 infoLk
          simp only [Prod.mk.injEq] at hyy
          obtain ⟨hy0, hy1, hy2⟩ := hyy
          have hn1 := he2.1
          have hn3 := he2.2
          clear hbo he1 he2
          go_wp2
          go_loopg [12] (n.toNat + 1) (fun g i wr => ∃ (j top : Nat) (lv : Value) (cssL : List (List Value)), j ≤ n.toNat ∧ i = .int .i64 j ∧ g = n.toNat + 1 - j ∧ wr.heap[w.heap.size]? = some (.cells #[.slice none 0 0, .slice none 0 0] 30 (0, 0)) ∧ wr.heap[w2.heap.size + 1]? = some (.cells #[.slice ah names.length ch, lv] 30 (0, 0)) ∧ SRow 7 SLk wr wz.heap.size top 62 lv (List.replicate j ()) cssL ∧ SHos wr (Mid' (w2.heap.size + 2) wz.heap.size) (.slice ah names.length ch) (names.map fun x => ((x, rules) : Hm)) ∧ Keep Any w wr)
          case atStart => exact ⟨0, wz.heap.size, _, [], by omega, rfl, rfl, HZ.out, HN.out, SRow.nil _ _ _ _ (Nat.le_refl _) (Nat.le_refl _), HH.out, HK.out⟩
          case round =>
            obtain ⟨j, topL, lv, cssL, hj, rfl, hg, hZ, hN, hR, hH, hK⟩ := hrel
            have HGJ := Lib.hid hg
            have HZ2 := Lib.hid hZ
            have HN2 := Lib.hid hN
            have HR2 := Lib.hid hR
            have HH2 := Lib.hid hH
            have HK2 := Lib.hid hK
            clear hg hZ hN hR hH hK
            have HLJ := Lib.hid (show (List.replicate j ()).length = j by simp)
            obtain ⟨al, cl, hv', _⟩ := HR2.out.form'
            rw [HLJ.out] at hv'
            subst hv'
            obtain ⟨m0, m1⟩ := at2' HN2.out
            have fm1 := blk_frozen HN2.out 1
            have zm := blk_lt HN2.out
            by_cases hlt : (j : Int) < n
            · go_wp2
              go_region_law (first | (go_simp; go_at_call 22; refine (LN.out _).mono ?_; rintro e w5 ⟨rfl, hK⟩; have K5 := Lib.hid ((Keep.refl Any wr).drew.trans hK); have N5 := Lib.hid (blk_keep K5.out HN2.out trivial); have B5 := Lib.hid (blk_keep K5.out HZ2.out trivial); have R5 := Lib.hid (SRow.keep (R := SLk) (fun h k => SLk.keep h k) (SRow.keep (R := SLk) (fun h k => SLk.keep h k) HR2.out K5.out) ((Keep.refl Any w5).alloc (.cells ([.int .i64 0, .int .i64 (-1), .slice none 0 0, .slice none 0 0, .int .i64 0, .int .i64 (-1), .string ⟨#[]⟩] : List Value).toArray 62))); have H5 := Lib.hid (SSl.keep' HH2.out K5.out); obtain ⟨n0, n1⟩ := at2' N5.out; have fn1 := blk_frozen N5.out 1; have zn := blk_lt N5.out; clear hK) | (refine step_append_lies _ rfl (.tmp 74) (.tmp 76) 28 rfl wz.heap.size 62 i1 _ 7 96 Tryz.underlying28 hi1 hy0 hy1 hy2 rfl (by decide) (.slice al j cl) j cssL.flatten rfl (by have h := R5.out.own; rw [HLJ.out] at h; exact h) ⟨w5.heap.size, 0, none⟩ 1 1 [.int .i64 0, .int .i64 (-1), .slice none 0 0, .slice none 0 0, .int .i64 0, .int .i64 (-1), .string ⟨#[]⟩] rfl rfl (new_cells' _ _ _ rfl) (by simp [Value.oneCell']) (by omega) (by unfold maxLen; omega) (by omega) (by have := R5.out.top_le'; omega) _ rfl ?_; intro gB cap w6 hown hgrow hblk hlt6; have R6 := Lib.hid (SRow.snoc (R := SLk) (x := ()) (gx := fun _ => False) (v' := .slice (some ⟨gB, 0, none⟩) (j + 1) cap) (fun h k => SLk.keep h k) R5.out (by rw [HLJ.out]; exact hown) hgrow (hblk.elim (fun h => .inl h.symm) fun h => .inr (congrArg some (h.trans (by simp)))) (show SLk _ _ _ [.int .i64 0, .int .i64 (-1), .slice none 0 0, .slice none 0 0, .int .i64 0, .int .i64 (-1), .string ⟨#[]⟩] from rfl) rfl (fun i hi => hi.elim)); have HB6 := Lib.hid (fun i (hi : (Value.slice al j cl).ownBlock = some i) => (R5.out.own.lt i hi).1); have K6 := Lib.hid (((HK2.out.trans K5.out).alloc _).grown hgrow (fun i hi hlt => by have := HB6.out i hi; have := ZW.out; omega)); have N6 := Lib.hid ((hgrow.block _ (by have := blk_lt N5.out; simp; omega) (fun e => by have := HB6.out _ e.symm; have := ZW.out; omega)).trans (blk_alloc N5.out _)); have Z6 := Lib.hid ((hgrow.block _ (by have := blk_lt B5.out; simp; omega) (fun e => by have := HB6.out _ e.symm; have := ZW.out; omega)).trans (blk_alloc B5.out _)); have H6 := Lib.hid (SSl.keep H5.out (fun _ _ _ _ h k => SHo.keep h k) (((Keep.refl _ _).alloc _).grown hgrow (fun i hi _ hk => by have := HB6.out i hi; have := hk.2; omega))); obtain ⟨n0, n1⟩ := at2' N6.out; have fn1 := blk_frozen N6.out 1; have zn := blk_lt N6.out; clear hown hgrow hblk hlt6))
              all_goals
                go_wp2
                go_roundg (gk - 1)
                case rel => exact ⟨j + 1, _, _, _, by omega, by go_num, by have := HGJ.out; omega, blk_far Z6.out _ _ (show w.heap.size ≠ w2.heap.size + 1 by have := ZZ.out; omega), (blk_set N6.out 1 _).trans rfl, by rw [List.replicate_succ']; exact SRow.setc (R := SLk) (fun h k => SLk.keep h k) R6.out ZW.out.2, SSl.keep H6.out (fun _ _ _ _ h k => SHo.keep h k) ((Keep.refl _ _).set _ _ (fun _ h => Nat.not_succ_le_self _ h.1)), K6.out.set _ _ (fun h _ => by have h : w2.heap.size + 1 < w.heap.size := h; have := ZZ.out; omega)⟩
                case measure => have := HGJ.out; omega
            · obtain rfl : n = (j : Int) := by omega
              obtain ⟨r0, r1⟩ := at2' HZ2.out
              have f0 := blk_frozen HZ2.out 0
              have f1 := blk_frozen HZ2.out 1
              have zr := blk_lt HZ2.out
              go_wp2
              refine bodyPost_ret (v := .tuple #[.agg #[.slice ah names.length ch, .slice al j cl], .bool true]) (by simp [results, Tryz.results6, go_sem, r0, r1, f0, f1, zr]) rfl ⟨true, _, _, wz.heap.size, ⟨fun _ => HGD.out, fun _ => rfl⟩, rfl, ?_, ?_, ⟨by have := ZW.out; omega, by have := HR2.out.top_le'; simp only [World.size_setCell]; omega⟩, ?_⟩
              · refine SSl.mono (ok := Mid' (w2.heap.size + 2) wz.heap.size) (SSl.keep HH2.out (fun _ _ _ _ h k => SHo.keep h k) ?_) (fun k h => ⟨by have := h.1; have := ZZ.out; omega, h.2⟩)
                have hb : ¬ Mid' (w2.heap.size + 2) wz.heap.size w.heap.size := fun h => by have := h.1; have := ZZ.out; omega
                repeat (first | (with_reducible exact Keep.refl _ _) | (with_reducible refine kset_x hb ?_))
              · have e : (if true = true then List.replicate (j : Int).toNat () else []) = List.replicate j () := by simp
                rw [e]
                exact (SRow.setc (R := SLk) (fun h k => SLk.keep h k) (SRow.setc (R := SLk) (fun h k => SLk.keep h k) HR2.out (Nat.lt_trans ZW.out.1 ZW.out.2)) (Nat.lt_trans ZW.out.1 ZW.out.2)).slice (fun i h1 h2 => ⟨h1, h2⟩)
              · have hz := Nat.le_refl w.heap.size
                repeat (first | (with_reducible exact HK2.out) | (with_reducible refine kset_b' hz ?_))
end Go.Proofs.YtngghnakbhoiaaaGreatDoor

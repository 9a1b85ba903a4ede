/- A store that begins: nothing but the rules, in memory of its own. StoreNew of the program and of the reference: a store with the rules, if they are good. Lists of texts that grow: what an append of texts leaves. No condition. -/
import Derived.Test.YtngghnakbhoiaaaGreatDoorMLawSvBegin2
import Derived.Test.YtngghnakbhoiaaaGreatDoorMLawSvBegin1
import Derived.Deep.RegionLaw
import Derived.Test.YtngghnakbhoiaaaGreatDoorMLawSvBegin0
/- A store that begins: nothing but the rules, in memory of its own. -/
namespace Go.Proofs.YtngghnakbhoiaaaGreatDoor
open Go.RowKit
set_option linter.unusedVariables false
set_option linter.unusedSimpArgs false
/-- a store into a block that is new since -/
theorem kset_b' {ok : Nat → Prop} {a w : World} {X o : Nat} {u : Value} (hX : a.heap.size ≤ X) (h : Keep ok a w) : Keep ok a (w.setCell ⟨X, o, none⟩ u) := h.set _ _ fun hl _ => by have hl : X < a.heap.size := hl; omega
theorem kset_o' {a w : World} {n X o : Nat} {u : Value} (hX : X < n) (h : Keep (fun k => n ≤ k) a w) : Keep (fun k => n ≤ k) a (w.setCell ⟨X, o, none⟩ u) := h.set _ _ fun _ hl => by have hl : n ≤ X := hl; omega
/-! rules of one's own -/
def SRu (_ : World) (_ : Nat → Prop) (r : Ru) (cs : List Value) : Prop := RuR r cs
abbrev SRus (w : World) (ok : Nat → Prop) (v : Value) (l : List Ru) : Prop := SSl 2 SRu w ok v l
theorem SRus.keep {w w' : World} {ok : Nat → Prop} {v : Value} {l : List Ru} (h : SRus w ok v l) (k : Keep ok w w') : SRus w' ok v l := SSl.keep h (fun _ _ _ _ h _ => h) k
theorem SRus.rus {w : World} {ok : Nat → Prop} {v : Value} {l : List Ru} (h : SRus w ok v l) : Rus w ok v l := SSl.sl h fun g x cs _ hg h => h
def ruCells (r : Ru) : List Value := [.string r.label, .string r.name]
def ruFlat (l : List Ru) : List Value := (l.map ruCells).flatten
theorem ruFlat_len : ∀ l : List Ru, (ruFlat l).length = l.length * 2
  | [] => rfl
  | x :: l => by
    have := ruFlat_len l
    simp only [ruFlat, List.map_cons, List.flatten_cons, List.length_append, List.length_cons, ruCells, List.length_nil] at *
    omega
theorem ruFlat_get : ∀ {l : List Ru} {j : Nat} {u : Value}, (ruFlat l)[j]? = some u → ∃ i o x, j = i * 2 + o ∧ l[i]? = some x ∧ (ruCells x)[o]? = some u
  | [], j, u, h => by simp [ruFlat] at h
  | x :: l, j, u, h => by
    have e : ruFlat (x :: l) = ruCells x ++ ruFlat l := rfl
    rw [e] at h
    by_cases hj : j < 2
    · rw [List.getElem?_append_left (by simpa [ruCells] using hj)] at h
      exact ⟨0, j, x, by omega, rfl, h⟩
    · rw [List.getElem?_append_right (by simp [ruCells]; omega)] at h
      obtain ⟨i, o, y, h1, h2, h3⟩ := ruFlat_get h
      exact ⟨i + 1, o, y, by simp [ruCells] at h1; omega, h2, h3⟩
theorem rus_news {w : World} {ok : Nat → Prop} {ad : Addr} {n c : Nat} {l : List Ru} (h : Rus w ok (.slice (some ad) n c) l) : ∀ j u, (ruFlat l)[j]? = some u → w.cell? (ad.add j) = some u := fun j u hu => by
  obtain ⟨i, o, x, rfl, hx, ho⟩ := ruFlat_get hu
  obtain ⟨a', c', e, h1, h2, h3⟩ := h
  cases e
  obtain ⟨ad, e, hb, hf⟩ := h3 (fun e => by rw [e] at hx; cases hx)
  cases e
  obtain ⟨cs, ⟨rfl, _⟩, _, hc⟩ := hf i x hx
  exact hc o u ho
theorem rus_fits {w : World} {ok : Nat → Prop} {v : Value} {l : List Ru} (h : Rus w ok v l) : ∀ x, x ∈ l → Fits x.label ∧ Fits x.name := fun x hx => by
  obtain ⟨j, hj⟩ := List.getElem?_of_mem hx
  obtain ⟨a', c', e, h1, h2, h3⟩ := h
  obtain ⟨ad, e, hb, hf⟩ := h3 (fun e => by rw [e] at hj; cases hj)
  obtain ⟨cs, ⟨_, h⟩, _⟩ := hf j x hj
  exact h
theorem rus_own {w : World} {base : Nat} {T : TypeId} {v : Value} {l : List Ru} {ok : Nat → Prop} (h : w.ownsRow base T 2 v l.length (ruFlat l)) (hf : ∀ x, x ∈ l → Fits x.label ∧ Fits x.name) (ho : ∀ k, base ≤ k → k < w.heap.size → ok k) : SRus w ok v l := by
  rcases h.2 with ⟨rfl, h0⟩ | ⟨g, cap, cur, rfl, hb, hg, hnc, hm, hs, ht⟩
  · obtain rfl : l = [] := List.eq_nil_of_length_eq_zero h0
    exact SSl.nil
  · refine ⟨_, cap, rfl, hnc, by unfold maxLen at hm; omega, fun hn => ⟨g, T, cur, fun _ _ => False, rfl, ho g hb (blk_lt hg), hg, fun _ _ h => h.elim, fun _ _ _ _ h => h.elim, fun j x hx => ⟨ruCells x, ⟨rfl, hf x (List.mem_of_getElem? hx)⟩, rfl, fun i u hu => ?_⟩⟩⟩
    have h1 : (ruFlat l)[j * 2 + i]? = some u := flatten_at (fun c hc => by obtain ⟨y, _, rfl⟩ := List.mem_map.1 hc; rfl) (by rw [List.getElem?_map, hx]; rfl) hu
    rw [← ht, List.getElem?_take] at h1
    split at h1
    · simpa using h1
    · cases h1
theorem infoRu : (Tryz.prog.info? 73).map (fun i => (i.zero, i.size, i.bytes)) = some (some (.agg #[.string ⟨#[]⟩, .string ⟨#[]⟩]), 2, 32) := by kernel_rfl
theorem at9 {w : World} {g : Nat} {T : TypeId} {a b c d e f h i j : Value} (hh : w.heap[g]? = some (.cells #[a, b, c, d, e, f, h, i, j] T (0, 0))) : w.cell? ⟨g, 0, none⟩ = some a ∧ w.cell? ⟨g, 1, none⟩ = some b ∧ w.cell? ⟨g, 2, none⟩ = some c ∧ w.cell? ⟨g, 3, none⟩ = some d ∧ w.cell? ⟨g, 4, none⟩ = some e ∧ w.cell? ⟨g, 5, none⟩ = some f ∧ w.cell? ⟨g, 6, none⟩ = some h ∧ w.cell? ⟨g, 7, none⟩ = some i ∧ w.cell? ⟨g, 8, none⟩ = some j :=
  ⟨(blk_cell hh 0).trans rfl, (blk_cell hh 1).trans rfl, (blk_cell hh 2).trans rfl, (blk_cell hh 3).trans rfl, (blk_cell hh 4).trans rfl, (blk_cell hh 5).trans rfl, (blk_cell hh 6).trans rfl, (blk_cell hh 7).trans rfl, (blk_cell hh 8).trans rfl⟩
theorem fr9 {w : World} {g : Nat} {T : TypeId} {cs : Array Value} (hh : w.heap[g]? = some (.cells cs T (0, 0))) : w.frozen? ⟨g, 0, none⟩ = false ∧ w.frozen? ⟨g, 1, none⟩ = false ∧ w.frozen? ⟨g, 2, none⟩ = false ∧ w.frozen? ⟨g, 3, none⟩ = false ∧ w.frozen? ⟨g, 4, none⟩ = false ∧ w.frozen? ⟨g, 5, none⟩ = false ∧ w.frozen? ⟨g, 6, none⟩ = false ∧ w.frozen? ⟨g, 7, none⟩ = false ∧ w.frozen? ⟨g, 8, none⟩ = false :=
  ⟨blk_frozen hh 0, blk_frozen hh 1, blk_frozen hh 2, blk_frozen hh 3, blk_frozen hh 4, blk_frozen hh 5, blk_frozen hh 6, blk_frozen hh 7, blk_frozen hh 8⟩
abbrev Mid' (a b k : Nat) : Prop := a ≤ k ∧ k < b
theorem SRus.mid {w : World} {ok : Nat → Prop} {n : Nat} {v : Value} {l : List Ru} (h : SRus w ok v l) (hn : ∀ k, ok k → n ≤ k) : SRus w (Mid' n w.heap.size) v l := by
  obtain ⟨a, c, rfl, h1, h2, h3⟩ := h
  refine ⟨a, c, rfl, h1, h2, fun hl => ?_⟩
  obtain ⟨b, T, cur, g, rfl, hb, hh, _, _, hf⟩ := h3 hl
  exact ⟨b, T, cur, fun _ _ => False, rfl, ⟨hn b hb, blk_lt hh⟩, hh, fun _ _ h => h.elim, fun _ _ _ _ h => h.elim, hf⟩
/-- rules behind an empty slice of one's own: by its run -/
theorem append_rus (w : World) (ty : TypeId) (sa : Option Addr) (base : Nat) (ho : w.ownsRow base 73 2 (.slice sa 0 0) 0 []) (hbase : base ≤ w.heap.size) (l : List Ru) (a : Option Addr) (c : Nat) (hs : Rus w Any (.slice a l.length c) l) (hl : l.length ≤ 1048576) :
    ∃ v' w', (Builtin.append_ #[24, 24] ty #[.slice sa 0 0, .slice a l.length c]).run Tryz.prog w = .ok v' w' ∧ w'.ownsRow base 73 2 v' l.length (ruFlat l) ∧ w.grownBy w' (Value.slice sa 0 0).ownBlock := by
  obtain ⟨i0, hi, hzz⟩ := Option.map_eq_some_iff.1 infoRu
  simp only [Prod.mk.injEq] at hzz
  obtain ⟨hz0, hz1, hz2⟩ := hzz
  by_cases hl0 : l.length = 0
  · obtain rfl : l = [] := List.eq_nil_of_length_eq_zero hl0
    exact ⟨_, w, run_append_zero (P := Tryz.prog) w 24 ty 73 i0 _ Tryz.underlying24 hi hz0 sa a c, ho, ⟨rfl, rfl, rfl, Nat.le_refl _, fun _ _ _ => rfl⟩⟩
  · obtain ⟨a', c', e, h1, h2, h3⟩ := hs
    obtain ⟨ad, rfl, _⟩ := h3 (fun e => hl0 (by rw [e]; rfl))
    cases e
    obtain ⟨v', w', hr, k2, k3, _⟩ := run_append_own (P := Tryz.prog) w base 24 ty 73 i0 _ 2 32 Tryz.underlying24 hi hz0 hz1 hz2 rfl (by decide) (.slice sa 0 0) 0 [] ho ad l.length c (ruFlat l) (ruFlat_len l) (rus_news ⟨_, _, rfl, h1, h2, h3⟩)
      (fun u hu => by
        obtain ⟨j, hj⟩ := List.getElem?_of_mem hu
        obtain ⟨i, o, x, _, _, ho⟩ := ruFlat_get hj
        rcases o with _ | _ | o
        · cases ho; rfl
        · cases ho; rfl
        · simp [ruCells] at ho)
      (by unfold maxLen; omega) (by omega) hbase
    exact ⟨v', w', hr, by simpa using k2, k3⟩
theorem set9 {w : World} {g : Nat} {T : TypeId} {a b c d e f h i j a' b' c' d' e' f' h' i' j' : Value} (hh : w.heap[g]? = some (.cells #[a, b, c, d, e, f, h, i, j] T (0, 0))) :
    (((((((((w.setCell ⟨g, 0, none⟩ a').setCell ⟨g, 1, none⟩ b').setCell ⟨g, 2, none⟩ c').setCell ⟨g, 3, none⟩ d').setCell ⟨g, 4, none⟩ e').setCell ⟨g, 5, none⟩ f').setCell ⟨g, 6, none⟩ h').setCell ⟨g, 7, none⟩ i').setCell ⟨g, 8, none⟩ j').heap[g]? = some (.cells #[a', b', c', d', e', f', h', i', j'] T (0, 0)) :=
  by
    have h0 := blk_set (blk_set (blk_set hh 0 a') 1 b') 2 c'
    have h1 := blk_set (blk_set (blk_set h0 3 d') 4 e') 5 f'
    have h2 := blk_set (blk_set (blk_set h1 6 h') 7 i') 8 j'
    simpa using h2
/-- a store with nothing but rules -/
def GotSt (l : List Ru) (w : World) (e : Ending) (w' : World) : Prop := ∃ rs : Value, e = .returned (.agg #[.slice none 0 0, .slice none 0 0, .int .i64 0, .int .i64 0, rs, .int .i64 0, .slice none 0 0, .slice none 0 0, .int .i64 0]) ∧ SRus w' (Mid' w.heap.size w'.heap.size) rs l ∧ Keep Any w w'
set_option maxHeartbeats 4000000 in
set_option maxRecDepth 20000 in
theorem cloneStore_calls (l : List Ru) (rs : Value) (w : World) (hs : Rus w Any rs l) (hl : l.length ≤ 1048576) :
    Calls Tryz.prog 25 #[.agg #[.slice none 0 0, .slice none 0 0, .int .i64 0, .int .i64 0, rs, .int .i64 0, .slice none 0 0, .slice none 0 0, .int .i64 0]] w (GotSt l w) := by
  have HS := Lib.hid hs
  have FI := Lib.hid (rus_fits hs)
  have CG := Lib.hid (fun w => cloneGraph_nil none none 0 0 w)
  have CA := Lib.hid (fun w => cloneAsks_nil none 0 w)
  obtain ⟨ad, c, rfl, hc, hm, _⟩ := hs
  go_enter Tryz.func25, Tryz.ntmps25
  go_wp2
  have K0 := Lib.hid (show Keep Any w ((w.alloc (.cells #[.slice none 0 0, .slice none 0 0, .int .i64 0, .int .i64 0, .slice ad l.length c, .int .i64 0, .slice none 0 0, .slice none 0 0, .int .i64 0] 41 (0, 0))).alloc (.cells #[.slice none 0 0, .slice none 0 0, .int .i64 0, .int .i64 0, .slice none 0 0, .int .i64 0, .slice none 0 0, .slice none 0 0, .int .i64 0] 41 (0, 0))) from ((Keep.refl _ _).alloc _).alloc _)
  have B0 := Lib.hid (blk_alloc (blk_new w (.cells #[.slice none 0 0, .slice none 0 0, .int .i64 0, .int .i64 0, .slice ad l.length c, .int .i64 0, .slice none 0 0, .slice none 0 0, .int .i64 0] 41 (0, 0))) (.cells #[.slice none 0 0, .slice none 0 0, .int .i64 0, .int .i64 0, .slice none 0 0, .int .i64 0, .slice none 0 0, .slice none 0 0, .int .i64 0] 41 (0, 0)))
  have R0 := Lib.hid (blk_new (w.alloc (.cells #[.slice none 0 0, .slice none 0 0, .int .i64 0, .int .i64 0, .slice ad l.length c, .int .i64 0, .slice none 0 0, .slice none 0 0, .int .i64 0] 41 (0, 0))) (.cells #[.slice none 0 0, .slice none 0 0, .int .i64 0, .int .i64 0, .slice none 0 0, .int .i64 0, .slice none 0 0, .slice none 0 0, .int .i64 0] 41 (0, 0)))
  rw [World.size_alloc] at R0
  generalize ((w.alloc (.cells #[.slice none 0 0, .slice none 0 0, .int .i64 0, .int .i64 0, .slice ad l.length c, .int .i64 0, .slice none 0 0, .slice none 0 0, .int .i64 0] 41 (0, 0))).alloc (.cells #[.slice none 0 0, .slice none 0 0, .int .i64 0, .int .i64 0, .slice none 0 0, .int .i64 0, .slice none 0 0, .slice none 0 0, .int .i64 0] 41 (0, 0))) = wx at *
  obtain ⟨x0, x1, x2, x3, x4, x5, x6, x7, x8⟩ := at9 B0.out
  go_cut [3] from 6 to 16 (fun v wc => ∃ O : Nat, v = .pointer (some ⟨O, 0, none⟩) ∧ wc.heap[O]? = some (.cells #[.slice none 0 0, .slice none 0 0, .int .i64 0, .int .i64 0, .slice none 0 0, .int .i64 0, .slice none 0 0, .slice none 0 0, .int .i64 0] 41 (0, 0)) ∧ wx.heap.size ≤ O ∧ Keep Any wx wc)
  case first =>
    have KX := Lib.hid (show Keep Any wx wx.drew from (Keep.refl _ _).drew)
    have KR := Lib.hid (Keep.refl Any wx)
    have hz0 := Lib.hid (Nat.le_refl wx.heap.size)
    have SK := Lib.hid (fun w' (h : Keep Any wx w') => (⟨h, h.cell x0 trivial, h.cell x1 trivial, h.cell x2 trivial, h.cell x3 trivial, h.cell x5 trivial, h.cell x6 trivial, h.cell x8 trivial⟩ : Keep Any wx w' ∧ w'.cell? ⟨w.heap.size, 0, none⟩ = some (.slice none 0 0) ∧ w'.cell? ⟨w.heap.size, 1, none⟩ = some (.slice none 0 0) ∧ w'.cell? ⟨w.heap.size, 2, none⟩ = some (.int .i64 0) ∧ w'.cell? ⟨w.heap.size, 3, none⟩ = some (.int .i64 0) ∧ w'.cell? ⟨w.heap.size, 5, none⟩ = some (.int .i64 0) ∧ w'.cell? ⟨w.heap.size, 6, none⟩ = some (.slice none 0 0) ∧ w'.cell? ⟨w.heap.size, 8, none⟩ = some (.int .i64 0)))
    clear x0 x1 x2 x3 x4 x5 x6 x7 x8
    first | (go_region_held3 (fun w' => Keep Any wx w' ∧ w'.cell? ⟨w.heap.size, 0, none⟩ = some (.slice none 0 0) ∧ w'.cell? ⟨w.heap.size, 1, none⟩ = some (.slice none 0 0) ∧ w'.cell? ⟨w.heap.size, 2, none⟩ = some (.int .i64 0) ∧ w'.cell? ⟨w.heap.size, 3, none⟩ = some (.int .i64 0) ∧ w'.cell? ⟨w.heap.size, 5, none⟩ = some (.int .i64 0) ∧ w'.cell? ⟨w.heap.size, 6, none⟩ = some (.slice none 0 0) ∧ w'.cell? ⟨w.heap.size, 8, none⟩ = some (.int .i64 0)) ((refine SK.out _ ?_; repeat (first | (with_reducible exact KX.out) | (with_reducible exact HK7.out) | (with_reducible exact HK6.out) | (with_reducible exact KR.out) | (with_reducible refine Keep.drew ?_) | (with_reducible refine Keep.alloc ?_ _) | (with_reducible refine kset_b' hz0.out ?_) | (with_reducible refine kset_b' hz6.out ?_) | (with_reducible refine kset_b' hz7.out ?_)))) (first | (go_at_call 43; refine (CG.out _).mono ?_; rintro e w6 ⟨rfl, hK6⟩; first | (have N6 := blk_keep hK6 (show ((wx.alloc _).drew).heap[wx.heap.size]? = _ from blk_new wx _) trivial; have HK6 := Lib.hid (((Keep.refl Any wx).alloc _).drew.trans hK6)) | (have N6 := True.intro; have HK6 := Lib.hid (KX.out.trans hK6)); have hz6 := Lib.hid HK6.out.size; clear hK6) | (go_at_call 44; refine (CA.out _).mono ?_; rintro e w7 ⟨rfl, hK7⟩; first | (have N7 := blk_keep hK7 N6 trivial; obtain ⟨n0, n1, n2, n3, n4, n5, n6, n7, n8⟩ := at9 N7; obtain ⟨f0, f1, f2, f3, f4, f5, f6, f7, f8⟩ := fr9 N7; have zn := blk_lt N7; have HK7 := Lib.hid (HK6.out.trans hK7)) | (have N7 := blk_keep hK7 (blk_new w6 _) trivial; obtain ⟨n0, n1, n2, n3, n4, n5, n6, n7, n8⟩ := at9 N7; obtain ⟨f0, f1, f2, f3, f4, f5, f6, f7, f8⟩ := fr9 N7; have zn := blk_lt N7; have HK7 := Lib.hid ((HK6.out.alloc _).trans hK7)) | (have HK7 := Lib.hid (HK6.out.trans hK7)); have hz7 := Lib.hid HK7.out.size; clear hK7))) | fail
    · go_wp2
      go_meet
      exact ⟨_, rfl, blk_new _ _, hz7.out, HK7.out.alloc _⟩
    all_goals
      go_wp2
      go_meet
      first | (exact ⟨_, rfl, by rw [set9 N7], hz6.out, by repeat (first | (with_reducible exact HK7.out) | (with_reducible refine kset_b' hz6.out ?_))⟩) | (exact ⟨_, rfl, by rw [set9 N7], hz0.out, by repeat (first | (with_reducible exact HK7.out) | (with_reducible refine kset_b' hz0.out ?_))⟩)
  case rest =>
    obtain ⟨O, rfl, hO, hOx, hK⟩ := hcut
    have KC := Lib.hid (K0.out.trans hK)
    have BC := Lib.hid (blk_keep hK B0.out trivial)
    have RC := Lib.hid (blk_keep hK R0.out trivial)
    have OC := Lib.hid hO
    have zw := K0.out.size
    have hsx := blk_lt R0.out
    have HOw := Lib.hid (show w.heap.size + 1 < O by omega)
    obtain ⟨x0, x1, x2, x3, x4, x5, x6, x7, x8⟩ := at9 BC.out
    obtain ⟨n0, n1, n2, n3, n4, n5, n6, n7, n8⟩ := at9 hO
    obtain ⟨f0, f1, f2, f3, f4, f5, f6, f7, f8⟩ := fr9 hO
    have zn := blk_lt hO
    have zb := blk_lt BC.out
    clear hO hK
    obtain ⟨v', w9, hr, hown, hg⟩ := append_rus wc 24 none wc.heap.size (World.ownsRow_nil ..) (Nat.le_refl _) l ad c (Rus.keep HS.out KC.out) hl
    obtain ⟨a', c', rfl⟩ : ∃ a' c', v' = .slice a' l.length c' := by
      rcases hown.2 with ⟨e, h0⟩ | ⟨g, cap, cur, e, _⟩
      · exact ⟨none, 0, by rw [e, h0]⟩
      · exact ⟨_, cap, e⟩
    have K9 := Lib.hid ((Keep.refl Any wc).grown hg (fun k e => by cases e))
    have RU9 := Lib.hid (rus_own (ok := fun k => wc.heap.size ≤ k) hown FI.out (fun k h _ => h))
    have HR := Lib.hid hr
    have B9 := Lib.hid (blk_keep K9.out BC.out trivial)
    have R9 := Lib.hid (blk_keep K9.out RC.out trivial)
    have O9 := Lib.hid (blk_keep K9.out OC.out trivial)
    have Z9 := Lib.hid (show O < wc.heap.size from blk_lt OC.out)
    have Z9' := Lib.hid hown
    clear hr hg hown
    go_wp2_with (at_builtin; refine wpList_append_by _ rfl _ _ 24 rfl (.slice none 0 0) (.slice ad l.length c) _ w9 rfl rfl HR.out ?_; clear x0 x1 x2 x3 x4 x5 x6 x7 x8 n0 n1 n2 n3 n4 n5 n6 n7 n8 f0 f1 f2 f3 f4 f5 f6 f7 f8 zn zb; obtain ⟨x0, x1, x2, x3, x4, x5, x6, x7, x8⟩ := at9 B9.out; obtain ⟨n0, n1, n2, n3, n4, n5, n6, n7, n8⟩ := at9 O9.out; obtain ⟨f0, f1, f2, f3, f4, f5, f6, f7, f8⟩ := fr9 O9.out; have zn := blk_lt O9.out; have zb := blk_lt B9.out; have hne : ¬ O = w.heap.size := (by have := HOw.out; omega); have hne' : ¬ w.heap.size = O := (by have := HOw.out; omega))
    go_loopg [26] 1 (fun g x wr => x = .int .i64 0 ∧ g = 1 ∧ w9.setCell ⟨O, 4, none⟩ (.slice a' l.length c') = wr)
    case atStart => exact ⟨rfl, rfl, rfl⟩
    case round =>
      obtain ⟨rfl, hg, rfl⟩ := hrel
      have OQ := Lib.hid (show (w9.setCell ⟨O, 4, none⟩ (.slice a' l.length c')).heap[O]? = some (.cells #[.slice none 0 0, .slice none 0 0, .int .i64 0, .int .i64 0, .slice a' l.length c', .int .i64 0, .slice none 0 0, .slice none 0 0, .int .i64 0] 41 (0, 0)) from (blk_set O9.out 4 _).trans rfl)
      have RQ := Lib.hid (show (w9.setCell ⟨O, 4, none⟩ (.slice a' l.length c')).heap[w.heap.size + 1]? = _ from blk_far R9.out _ _ (show w.heap.size + 1 ≠ O by have := HOw.out; omega))
      have KQ := Lib.hid (show Keep Any w (w9.setCell ⟨O, 4, none⟩ (.slice a' l.length c')) from (KC.out.trans K9.out).set _ _ (fun h _ => by have h : O < w.heap.size := h; have := HOw.out; omega))
      have SQ := Lib.hid (show SRus (w9.setCell ⟨O, 4, none⟩ (.slice a' l.length c')) (fun k => wc.heap.size ≤ k) (.slice a' l.length c') l from SRus.keep RU9.out ((Keep.refl _ _).set _ _ (fun _ h => by have h : wc.heap.size ≤ O := h; have := Z9.out; omega)))
      generalize w9.setCell ⟨O, 4, none⟩ (.slice a' l.length c') = wq at *
      clear x0 x1 x2 x3 x4 x5 x6 x7 x8 n0 n1 n2 n3 n4 n5 n6 n7 n8 f0 f1 f2 f3 f4 f5 f6 f7 f8 zn zb
      obtain ⟨n0, n1, n2, n3, n4, n5, n6, n7, n8⟩ := at9 OQ.out
      obtain ⟨r0, r1, r2, r3, r4, r5, r6, r7, r8⟩ := at9 RQ.out
      obtain ⟨f0, f1, f2, f3, f4, f5, f6, f7, f8⟩ := fr9 RQ.out
      have zr := blk_lt RQ.out
      go_wp2
      refine bodyPost_ret (v := .agg #[.slice none 0 0, .slice none 0 0, .int .i64 0, .int .i64 0, .slice a' l.length c', .int .i64 0, .slice none 0 0, .slice none 0 0, .int .i64 0]) (by simp [results, Tryz.results25, go_sem, r0, r1, r2, r3, r4, r5, r6, r7, r8, f0, f1, f2, f3, f4, f5, f6, f7, f8, zr]) rfl ⟨_, rfl, ?_, ?_⟩
      · refine SRus.mid (n := w.heap.size) (SRus.keep SQ.out ?_) (fun k h => Nat.le_trans KC.out.size h)
        have hb : w.heap.size + 1 < wc.heap.size := by have := HOw.out; have := Z9.out; omega
        repeat (first | (with_reducible exact Keep.refl _ _) | (with_reducible refine kset_o' hb ?_))
      · have hz := Nat.le_succ w.heap.size
        repeat (first | (with_reducible exact KQ.out) | (with_reducible refine kset_b' hz ?_))
end Go.Proofs.YtngghnakbhoiaaaGreatDoor

/- StoreNew of the program and of the reference: a store with the rules, if they are good. -/
namespace Go.Proofs.YtngghnakbhoiaaaGreatDoor
open Go.RowKit
set_option linter.unusedVariables false
set_option linter.unusedSimpArgs false
section
variable {P : Program} (w : World)
theorem step_append_ex {ops : Array Oper} {o : Oper} {a : Act} {K : Act → World → Prop} {Q : Exit → Act → World → Prop} {E : Prop} {R : Value → World → Prop} (hgd : o.guard = none) (s x : Operand) (t : TypeId)
    (ho : o.op = .call { callee := .builtin .append, args := #[s, x], argTypes := #[t, t] }) (v y : Value) (hs : a.eval s = v) (hx : a.eval x = y)
    (hr : ∃ v' w', (Builtin.append_ #[t, t] o.type #[v, y]).run P w = .ok v' w' ∧ R v' w') (h : ∀ v' w', R v' w' → K (a.put o.dst v') w') : if Region.wanted o (yielded ops a.tmps) = true then Oper.wp P o a w K Q else E := by
  obtain ⟨v', w', h1, h2⟩ := hr
  exact step_append_by w hgd s x t ho v y v' w' hs hx h1 (h v' w' h2)
end
/-- what an append of rules behind nothing leaves -/
def RuApp (w : World) (l : List Ru) (v' : Value) (w' : World) : Prop := ∃ a' c', v' = .slice a' l.length c' ∧ SRus w' (fun k => w.heap.size ≤ k) v' l ∧ Keep Any w w'
theorem append_rus2 (w : World) (ty : TypeId) (sa : Option Addr) (l : List Ru) (a : Option Addr) (c : Nat) (hs : Rus w Any (.slice a l.length c) l) (hl : l.length ≤ 1048576) :
    ∃ v' w', (Builtin.append_ #[24, 24] ty #[.slice sa 0 0, .slice a l.length c]).run Tryz.prog w = .ok v' w' ∧ RuApp w l v' w' := by
  obtain ⟨i0, hi, hzz⟩ := Option.map_eq_some_iff.1 infoRu
  simp only [Prod.mk.injEq] at hzz
  obtain ⟨hz0, hz1, hz2⟩ := hzz
  have hf := rus_fits hs
  by_cases hl0 : l.length = 0
  · obtain rfl : l = [] := List.eq_nil_of_length_eq_zero hl0
    exact ⟨_, w, run_append_zero (P := Tryz.prog) w 24 ty 73 i0 _ Tryz.underlying24 hi hz0 sa a c, sa, 0, rfl, ⟨_, _, rfl, Nat.le_refl _, by decide, fun h => absurd rfl h⟩, Keep.refl _ _⟩
  · cases sa with
    | none =>
      obtain ⟨v', w', hr, hown, hg⟩ := append_rus w ty none w.heap.size (World.ownsRow_nil ..) (Nat.le_refl _) l a c hs hl
      refine ⟨v', w', hr, ?_⟩
      obtain ⟨a', c', rfl⟩ : ∃ a' c', v' = .slice a' l.length c' := by
        rcases hown.2 with ⟨e, h0⟩ | ⟨g, cap, cur, e, _⟩
        · exact ⟨none, 0, by rw [e, h0]⟩
        · exact ⟨_, cap, e⟩
      exact ⟨a', c', rfl, rus_own hown hf (fun k h _ => h), (Keep.refl _ _).grown hg (fun k e => by cases e)⟩
    | some sa =>
      obtain ⟨v', w', hr, hown, hg⟩ := append_rus w ty none w.heap.size (World.ownsRow_nil ..) (Nat.le_refl _) l a c hs hl
      have heq : (Builtin.append_ #[24, 24] ty #[.slice (some sa) 0 0, .slice a l.length c]).run Tryz.prog w = (Builtin.append_ #[24, 24] ty #[.slice none 0 0, .slice a l.length c]).run Tryz.prog w := by
        obtain ⟨a', c', e, h1, h2, h3⟩ := hs
        obtain ⟨ad, rfl, _⟩ := h3 (fun e => hl0 (by rw [e]; rfl))
        cases e
        have hnews := rus_news ⟨_, _, rfl, h1, h2, h3⟩
        have hlen : (ruFlat l).length = l.length * i0.size := by rw [hz1]; exact ruFlat_len l
        rw [run_append_grow (P := Tryz.prog) w 24 ty 73 i0 _ Tryz.underlying24 hi hz0 sa 0 0 [] (by simp) (by simp) ad l.length c (ruFlat l) hlen hnews (by omega) (by omega) (by rw [Nat.zero_add, nextslicecap_zero (by omega), hz2]; omega),
          run_append_nil (P := Tryz.prog) w 24 ty 73 i0 _ Tryz.underlying24 hi hz0 ad l.length c (ruFlat l) hlen hnews (by omega) (by omega) (by rw [hz2]; omega)]
        simp
      refine ⟨v', w', heq.trans hr, ?_⟩
      obtain ⟨a', c', rfl⟩ : ∃ a' c', v' = .slice a' l.length c' := by
        rcases hown.2 with ⟨e, h0⟩ | ⟨g, cap, cur, e, _⟩
        · exact ⟨none, 0, by rw [e, h0]⟩
        · exact ⟨_, cap, e⟩
      exact ⟨a', c', rfl, rus_own hown hf (fun k h _ => h), (Keep.refl _ _).grown hg (fun k e => by cases e)⟩
/-- a store, and whether the rules are good -/
def GotStB (l : List Ru) (w : World) (e : Ending) (w' : World) : Prop := ∃ (b : Bool) (rs : Value), (b = true ↔ RulesGood l) ∧ e = .returned (.tuple #[.agg #[.slice none 0 0, .slice none 0 0, .int .i64 0, .int .i64 0, rs, .int .i64 0, .slice none 0 0, .slice none 0 0, .int .i64 0], .bool b]) ∧ SRus w' (Mid' w.heap.size w'.heap.size) rs (if b then l else []) ∧ Keep Any w w'
set_option maxHeartbeats 1000000 in
set_option maxRecDepth 20000 in
theorem storeNew_calls (l : List Ru) (rs : Value) (w : World) (hs : Rus w Any rs l) (hl : l.length ≤ 1048576) : Calls Tryz.prog 8 #[rs] w (GotStB l w) := by
  have RO := Lib.hid (fun w' (k : Keep Any w w') => rulesOk_calls l rs w' (Rus.keep hs k))
  have CS := Lib.hid (fun w' (k : Keep Any w w') => cloneStore_calls l rs w' (Rus.keep hs k) hl)
  obtain ⟨ad, c, rfl, hc, hm, _⟩ := hs
  go_enter Tryz.func8, Tryz.ntmps8
  go_wp2_with fail
  refine (RO.out _ ((Keep.refl _ _).alloc _)).mono ?_
  rintro e w2 ⟨b, rfl, hb, hK⟩
  have HB := Lib.hid hb
  have K2 := Lib.hid (((Keep.refl Any w).alloc _).trans hK)
  have B2 := Lib.hid (blk_keep hK (blk_new _ _) trivial)
  clear hb hK
  cases b
  · obtain ⟨r0, r1, r2, r3, r4, r5, r6, r7, r8⟩ := at9 B2.out
    obtain ⟨f0, f1, f2, f3, f4, f5, f6, f7, f8⟩ := fr9 B2.out
    have zr := blk_lt B2.out
    go_wp2
    refine bodyPost_ret (v := .tuple #[.agg #[.slice none 0 0, .slice none 0 0, .int .i64 0, .int .i64 0, .slice none 0 0, .int .i64 0, .slice none 0 0, .slice none 0 0, .int .i64 0], .bool false]) (by simp [results, Tryz.results8, go_sem, r0, r1, r2, r3, r4, r5, r6, r7, r8, f0, f1, f2, f3, f4, f5, f6, f7, f8, zr]) rfl ⟨false, _, by have h := HB.out; simpa using h, rfl, SSl.nil, ?_⟩
    have hz := Nat.le_refl w.heap.size
    repeat (first | (with_reducible exact K2.out) | (with_reducible refine kset_b' hz ?_))
  · go_wp2_with fail
    refine (CS.out _ K2.out).mono ?_
    rintro e w3 ⟨rs, rfl, hS, hK⟩
    have S3 := Lib.hid hS
    have K3 := Lib.hid (K2.out.trans hK)
    have B3 := Lib.hid (blk_keep hK B2.out trivial)
    clear hS hK
    obtain ⟨r0, r1, r2, r3, r4, r5, r6, r7, r8⟩ := at9 B3.out
    obtain ⟨f0, f1, f2, f3, f4, f5, f6, f7, f8⟩ := fr9 B3.out
    have zr := blk_lt B3.out
    obtain ⟨a', c', rfl⟩ : ∃ a' c', rs = .slice a' l.length c' := by obtain ⟨a', c', e, _⟩ := S3.out; exact ⟨a', c', e⟩
    go_wp2
    refine bodyPost_ret (v := .tuple #[.agg #[.slice none 0 0, .slice none 0 0, .int .i64 0, .int .i64 0, .slice a' l.length c', .int .i64 0, .slice none 0 0, .slice none 0 0, .int .i64 0], .bool true]) (by simp [results, Tryz.results8, go_sem, r0, r1, r2, r3, r4, r5, r6, r7, r8, f0, f1, f2, f3, f4, f5, f6, f7, f8, zr]) rfl ⟨true, _, by have h := HB.out; simpa using h, rfl, ?_, ?_⟩
    · refine SRus.mid (ok := fun k => w2.heap.size ≤ k) (n := w.heap.size) (SRus.keep (SSl.mono S3.out (fun k h => h.1)) ?_) (fun k h => Nat.le_trans K2.out.size h)
      have hb : w.heap.size < w2.heap.size := blk_lt B2.out
      repeat (first | (with_reducible exact Keep.refl _ _) | (with_reducible refine kset_o' hb ?_))
    · have hz := Nat.le_refl w.heap.size
      repeat (first | (with_reducible exact K3.out) | (with_reducible refine kset_b' hz ?_))
set_option maxHeartbeats 1000000 in
set_option maxRecDepth 20000 in
theorem specStoreNew_calls (l : List Ru) (rs : Value) (w : World) (hs : Rus w Any rs l) (hl : l.length ≤ 1048576) : Calls Tryz.prog 17 #[rs] w (GotStB l w) := by
  have RO := Lib.hid (fun w' (k : Keep Any w w') => specRulesOk_calls l rs w' (Rus.keep hs k))
  have HS := Lib.hid hs
  obtain ⟨ad, c, rfl, hc, hm, _⟩ := hs
  go_enter Tryz.func17, Tryz.ntmps17
  go_wp2_with fail
  refine (RO.out _ ((Keep.refl _ _).alloc _)).mono ?_
  rintro e w2 ⟨b, rfl, hb, hK⟩
  have HB := Lib.hid hb
  have K2 := Lib.hid (((Keep.refl Any w).alloc _).trans hK)
  have B2 := Lib.hid (blk_keep hK (blk_new _ _) trivial)
  clear hb hK
  cases b
  · obtain ⟨r0, r1, r2, r3, r4, r5, r6, r7, r8⟩ := at9 B2.out
    obtain ⟨f0, f1, f2, f3, f4, f5, f6, f7, f8⟩ := fr9 B2.out
    have zr := blk_lt B2.out
    go_wp2
    refine bodyPost_ret (v := .tuple #[.agg #[.slice none 0 0, .slice none 0 0, .int .i64 0, .int .i64 0, .slice none 0 0, .int .i64 0, .slice none 0 0, .slice none 0 0, .int .i64 0], .bool false]) (by simp [results, Tryz.results17, go_sem, r0, r1, r2, r3, r4, r5, r6, r7, r8, f0, f1, f2, f3, f4, f5, f6, f7, f8, zr]) rfl ⟨false, _, by have h := HB.out; simpa using h, rfl, SSl.nil, ?_⟩
    have hz := Nat.le_refl w.heap.size
    repeat (first | (with_reducible exact K2.out) | (with_reducible refine kset_b' hz ?_))
  · obtain ⟨v', w3, hr, a', c', rfl, hS, hK⟩ := append_rus2 (w2.alloc (.cells #[] 73 (0, 0))) 24 (some ⟨w2.heap.size, 0, none⟩) l ad c (Rus.keep HS.out (K2.out.alloc _)) hl
    have HR := Lib.hid hr
    have S3 := Lib.hid hS
    have K3 := Lib.hid ((K2.out.alloc _).trans hK)
    have B3 := Lib.hid (blk_keep hK (blk_alloc B2.out _) trivial)
    have Z3 := Lib.hid (show w2.heap.size ≤ (w2.alloc (.cells #[] 73 (0, 0))).heap.size by simp)
    clear hr hS hK
    go_wp2_with (at_builtin; refine wpList_append_by _ rfl _ _ 24 rfl (.slice (some ⟨w2.heap.size, 0, none⟩) 0 0) (.slice ad l.length c) _ w3 rfl rfl HR.out ?_; obtain ⟨r0, r1, r2, r3, r4, r5, r6, r7, r8⟩ := at9 B3.out; obtain ⟨f0, f1, f2, f3, f4, f5, f6, f7, f8⟩ := fr9 B3.out; have zr := blk_lt B3.out)
    refine bodyPost_ret (v := .tuple #[.agg #[.slice none 0 0, .slice none 0 0, .int .i64 0, .int .i64 0, .slice a' l.length c', .int .i64 0, .slice none 0 0, .slice none 0 0, .int .i64 0], .bool true]) (by simp [results, Tryz.results17, go_sem, r0, r1, r2, r3, r4, r5, r6, r7, r8, f0, f1, f2, f3, f4, f5, f6, f7, f8, zr]) rfl ⟨true, _, by have h := HB.out; simpa using h, rfl, ?_, ?_⟩
    · refine SRus.mid (ok := fun k => w2.heap.size ≤ k) (n := w.heap.size) (SRus.keep (SSl.mono S3.out (fun k h => Nat.le_trans Z3.out h)) ?_) (fun k h => Nat.le_trans K2.out.size h)
      have hb : w.heap.size < w2.heap.size := blk_lt B2.out
      repeat (first | (with_reducible exact Keep.refl _ _) | (with_reducible refine kset_o' hb ?_))
    · have hz := Nat.le_refl w.heap.size
      repeat (first | (with_reducible exact K3.out) | (with_reducible refine kset_b' hz ?_))
end Go.Proofs.YtngghnakbhoiaaaGreatDoor

/- Lists of texts that grow: what an append of texts leaves. No condition. -/
namespace Go.Proofs.YtngghnakbhoiaaaGreatDoor
open Go.RowKit
set_option linter.unusedVariables false
set_option linter.unusedSimpArgs false
theorem infoStr : (Tryz.prog.info? 9).map (fun i => (i.zero, i.size, i.bytes)) = some (some (.string ⟨#[]⟩), 1, 16) := by kernel_rfl
/-- a list of texts in a row of one's own -/
def OwnS (w : World) (base : Nat) (v : Value) (l : List ByteArray) : Prop := w.ownsRow base 9 1 v l.length (l.map Value.string)
theorem OwnS.strs {w : World} {base : Nat} {v : Value} {l : List ByteArray} {ok : Nat → Prop} (h : OwnS w base v l) (hf : ∀ x, x ∈ l → Fits x) (ho : ∀ k, base ≤ k → k < w.heap.size → ok k) : Strs w ok v l := by
  rcases h.2 with ⟨rfl, h0⟩ | ⟨g, cap, cur, rfl, hb, hg, hnc, hm, hs, ht⟩
  · obtain rfl : l = [] := List.eq_nil_of_length_eq_zero h0
    exact ⟨none, 0, rfl, Nat.le_refl _, by decide, fun h => absurd rfl h⟩
  · refine ⟨_, cap, rfl, hnc, by unfold maxLen at hm; omega, fun hn => ⟨_, rfl, ho g hb (blk_lt hg), fun j x hx => ⟨[.string x], ⟨rfl, hf x (List.mem_of_getElem? hx)⟩, rfl, fun i u hu => ?_⟩⟩⟩
    cases i with
    | succ i => cases hu
    | zero =>
      cases hu
      have h1 : (l.map Value.string)[j]? = some (.string x) := by rw [List.getElem?_map, hx]; rfl
      rw [← ht, List.getElem?_take] at h1
      split at h1
      · have e : (⟨g, 0, none⟩ : Addr).add (j * 1 + 0) = ⟨g, j, none⟩ := by unfold Addr.add; split <;> simp_all
        rw [e, blk_cell hg]
        simpa using h1
      · cases h1
theorem OwnS.new {w : World} {base b : Nat} {T : TypeId} (hT : T = 9) (hb : base ≤ b) (h : w.heap[b]? = some (.cells #[] T (0, 0))) : OwnS w base (.slice (some ⟨b, 0, none⟩) 0 0) [] := by
  subst hT
  exact ⟨rfl, .inr ⟨b, 0, #[], rfl, hb, h, Nat.le_refl _, by decide, rfl, rfl⟩⟩
section
variable {P : Program} (w : World)
theorem wpList_append_ex {ops : Array Oper} {rest : List Oper} {o : Oper} {a : Act} {Q : Exit → Act → World → Prop} {R : Value → World → Prop} (hgd : o.guard = none) (s x : Operand) (t : TypeId)
    (ho : o.op = .call { callee := .builtin .append, args := #[s, x], argTypes := #[t, t] }) (v y : Value) (hs : a.eval s = v) (hx : a.eval x = y)
    (hr : ∃ v' w', (Builtin.append_ #[t, t] o.type #[v, y]).run P w = .ok v' w' ∧ R v' w') (h : ∀ v' w', R v' w' → wpList P ops Q rest (a.put o.dst v') w') : wpList P ops Q (o :: rest) a w := by
  obtain ⟨v', w', h1, h2⟩ := hr
  exact wpList_append_by w hgd s x t ho v y v' w' hs hx h1 (h v' w' h2)
theorem run_append_none (t ty e : TypeId) (i : TypeInfo) (z : Value) (ht : P.underlying t = some (.slice e)) (hi : P.info? e = some i) (hz : i.zero = some z) (sa : Option Addr) (n cp : Nat) (hle : n ≤ cp) (a : Option Addr) (c : Nat) :
    (Builtin.append_ #[t, t] ty #[.slice sa n cp, .slice a 0 c]).run P w = .ok (.slice sa n cp) w := by
  cases a with
  | none => cases sa <;> simp [Builtin.append_, run_underlying ht, sizeOf, typeInfo, zeroValue, hi, hz, Builtin.lenOf, run_firstCells_none, storeCells, hle]
  | some a =>
    have hf := run_firstCells_some (P := P) w i.size 0 a 0 c [] (by simp) (by simp)
    cases sa <;> simp [Builtin.append_, run_underlying ht, sizeOf, typeInfo, zeroValue, hi, hz, Builtin.lenOf, hf, storeCells, hle]
end
def AppS (w : World) (base : Nat) (v : Value) (l : List ByteArray) (v' : Value) (w' : World) : Prop := OwnS w' base v' l ∧ w.grownBy w' v.ownBlock ∧ (v'.ownBlock = v.ownBlock ∨ v'.ownBlock = some w.heap.size)
theorem app_strs (w : World) (ty : TypeId) (base : Nat) (v : Value) (l1 : List ByteArray) (hown : OwnS w base v l1) (hbase : base ≤ w.heap.size) (y : Value) (l2 : List ByteArray) (hs : Strs w Any y l2) (hl : l1.length + l2.length ≤ 1000000) :
    ∃ v' w', (Builtin.append_ #[23, 23] ty #[v, y]).run Tryz.prog w = .ok v' w' ∧ AppS w base v (l1 ++ l2) v' w' := by
  obtain ⟨i0, hi, hzz⟩ := Option.map_eq_some_iff.1 infoStr
  simp only [Prod.mk.injEq] at hzz
  obtain ⟨hz0, hz1, hz2⟩ := hzz
  obtain ⟨a, c, rfl, h1, h2, h3⟩ := hs
  by_cases hn : l2 = []
  · subst hn
    have hg : w.grownBy w v.ownBlock := (Keep.refl Any w).grownBy0 _
    rcases hown.2 with ⟨rfl, h0⟩ | ⟨g, cap, cur, rfl, hb, hh, hnc, hm, hs, ht⟩
    · exact ⟨_, w, run_append_none (P := Tryz.prog) w _ ty _ i0 _ Tryz.underlying23 hi hz0 none 0 0 (Nat.le_refl _) a c, by rw [List.append_nil]; exact hown, hg, .inl rfl⟩
    · exact ⟨_, w, run_append_none (P := Tryz.prog) w _ ty _ i0 _ Tryz.underlying23 hi hz0 _ _ cap hnc a c, by rw [List.append_nil]; exact hown, hg, .inl rfl⟩
  · obtain ⟨ad, rfl, _, hf⟩ := h3 hn
    have hlen : 0 < l2.length := List.length_pos_iff.2 hn
    obtain ⟨v', w', hr, ho, hg, hb⟩ := run_append_sep (P := Tryz.prog) w base 23 ty 9 i0 _ 1 16 Tryz.underlying23 hi hz0 hz1 hz2 rfl (by decide) v l1.length _ hown ad l2.length c (l2.map Value.string) (by simp) (fun j u hu => by
      rw [List.getElem?_map] at hu
      obtain ⟨x, hx, rfl⟩ := Option.map_eq_some_iff.1 hu
      obtain ⟨cs, ⟨rfl, _⟩, _, hc⟩ := hf j x hx
      have := hc 0 _ rfl
      simpa using this) (fun u hu => by obtain ⟨x, _, rfl⟩ := List.mem_map.1 hu; rfl) (by unfold maxLen; omega) (by omega) hbase hlen
    refine ⟨v', w', hr, ?_, hg, hb⟩
    unfold OwnS
    rw [List.length_append, List.map_append]
    exact ho
theorem strs_fits {w : World} {ok : Nat → Prop} {v : Value} {l : List ByteArray} (h : Strs w ok v l) : ∀ x, x ∈ l → Fits x := fun x hx => by
  obtain ⟨j, hj⟩ := List.getElem?_of_mem hx
  obtain ⟨a', c', e, h1, h2, h3⟩ := h
  obtain ⟨ad, e, hb, hf⟩ := h3 (fun e => by rw [e] at hj; cases hj)
  obtain ⟨cs, ⟨_, h⟩, _⟩ := hf j x hj
  exact h
theorem blk_new1 (w : World) (o p : Obj) : ((w.alloc o).alloc p).heap[w.heap.size + 1]? = some p := by rw [← World.size_alloc w o]; exact blk_new _ _
/-- texts of a literal -/
theorem strs_litF {w : World} {ok : Nat → Prop} {b : Nat} {T : TypeId} {cs : Array Value} (l : List ByteArray) (hcs : cs = (l.map Value.string).toArray) (h : w.heap[b]? = some (.cells cs T (0, 0))) (hb : ok b) (hl : l.length ≤ 1000) (hf : ∀ x, x ∈ l → Fits x) : Strs w ok (.slice (some ⟨b, 0, none⟩) l.length l.length) l := by
  subst hcs
  refine ⟨_, _, rfl, Nat.le_refl _, by omega, fun _ => ⟨_, rfl, hb, fun j x hx => ⟨[.string x], ⟨rfl, hf x (List.mem_of_getElem? hx)⟩, rfl, fun i u hu => ?_⟩⟩⟩
  cases i with
  | succ i => cases hu
  | zero =>
    cases hu
    have e : (⟨b, 0, none⟩ : Addr).add (j * 1 + 0) = ⟨b, j, none⟩ := by unfold Addr.add; split <;> simp_all
    rw [e, blk_cell h]
    simp [hx]
theorem strs_lit {w : World} {ok : Nat → Prop} {b : Nat} {T : TypeId} {cs : Array Value} (l : List ByteArray) (hcs : cs = (l.map Value.string).toArray) (h : w.heap[b]? = some (.cells cs T (0, 0))) (hb : ok b) (hl : l.length ≤ 1000) (hf : ∀ x, x ∈ l → x.size ≤ 1000) : Strs w ok (.slice (some ⟨b, 0, none⟩) l.length l.length) l :=
  strs_litF l hcs h hb hl fun x hx => by have := hf x hx; unfold Fits; omega
theorem OwnS.keepA {w w' : World} {base : Nat} {v : Value} {l : List ByteArray} (h : OwnS w base v l) (k : Keep Any w w') : OwnS w' base v l :=
  World.ownsRow.kept (row := none) h (k.grownBy0 none) (by cases hv : v.ownBlock with | none => exact .inl rfl | some b => exact .inr (by simp))
end Go.Proofs.YtngghnakbhoiaaaGreatDoor

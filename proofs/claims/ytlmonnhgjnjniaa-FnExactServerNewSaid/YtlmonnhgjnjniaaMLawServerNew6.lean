/- Marks in homes and links, written. -/
import Derived.Test.YtlmonnhgjnjniaaMLawServerNew5
/- Marks in homes and links, written. -/
namespace Go.Proofs.Ytlmonnhgjnjniaa
open Go.RowKit
set_option linter.unusedVariables false
set_option linter.unusedSimpArgs false
/-- a part of a block: what it holds there; all else as it was -/
def PartAt (w : World) (b : Nat) (T : TypeId) (o : Nat) (cur0 : Array Value) (vs : List Value) : Prop :=
  ∃ cur, w.heap[b]? = some (.cells cur T (0, 0)) ∧ (∀ i, i < o ∨ o + vs.length ≤ i → cur[i]? = cur0[i]?) ∧ ∀ i u, vs[i]? = some u → cur[o + i]? = some u
theorem PartAt.keep {w w' : World} {b o : Nat} {T : TypeId} {cur0 : Array Value} {vs : List Value} {ok : Nat → Prop} (h : PartAt w b T o cur0 vs) (k : Keep ok w w') (hb : ok b) : PartAt w' b T o cur0 vs := by
  obtain ⟨cur, h1, h2, h3⟩ := h
  exact ⟨cur, blk_keep k h1 hb, h2, h3⟩
theorem PartAt.set {w : World} {b o : Nat} {T : TypeId} {cur0 : Array Value} {vs : List Value} (h : PartAt w b T o cur0 vs) (i : Nat) (hi : i < vs.length) (u : Value) : PartAt (w.setCell ⟨b, o + i, none⟩ u) b T o cur0 (vs.set i u) := by
  obtain ⟨cur, h1, h2, h3⟩ := h
  have hc := h3 i _ (List.getElem?_eq_getElem hi)
  have hlt := (Array.getElem?_eq_some_iff.1 hc).1
  refine ⟨_, blk_set h1 (o + i) u, fun j hj => ?_, fun j v hv => ?_⟩
  · rw [List.length_set] at hj
    rw [Array.getElem?_setIfInBounds_ne (by omega)]
    exact h2 j hj
  · rw [List.getElem?_set] at hv
    by_cases e : i = j
    · subst e
      rw [if_pos rfl, if_pos hi] at hv
      cases hv
      exact Array.getElem?_setIfInBounds_self_of_lt hlt
    · rw [if_neg e] at hv
      rw [Array.getElem?_setIfInBounds_ne (by omega)]
      exact h3 j v hv
theorem PartAt.cell {w : World} {b o : Nat} {T : TypeId} {cur0 : Array Value} {vs : List Value} (h : PartAt w b T o cur0 vs) (i : Nat) {u : Value} (hi : vs[i]? = some u) : w.cell? ⟨b, o + i, none⟩ = some u := by
  obtain ⟨cur, h1, h2, h3⟩ := h
  exact (blk_cell h1 _).trans (h3 i u hi)
theorem PartAt.free {w : World} {b o : Nat} {T : TypeId} {cur0 : Array Value} {vs : List Value} (h : PartAt w b T o cur0 vs) (i : Nat) : w.frozen? ⟨b, o + i, none⟩ = false := by
  obtain ⟨cur, h1, h2, h3⟩ := h
  exact blk_frozen h1 _
theorem PartAt.lt {w : World} {b o : Nat} {T : TypeId} {cur0 : Array Value} {vs : List Value} (h : PartAt w b T o cur0 vs) : b < w.heap.size := by
  obtain ⟨cur, h1, h2, h3⟩ := h
  exact blk_lt h1
structure Hd where
  nm : ByteArray
  i1 : Int
  i2 : Int
  i3 : Int
  i4 : Int
  rules : List Ru
def SHd (w : World) (ok : Nat → Prop) (h : Hd) (cs : List Value) : Prop := ∃ (a d : Option Addr) (c : Nat), cs = [.string h.nm, .slice none 0 0, .slice none 0 0, .int .i64 h.i1, .int .i64 h.i2, .slice a h.rules.length c, .int .i64 h.i3, .slice d 0 0, .slice none 0 0, .int .i64 h.i4] ∧ Fits h.nm ∧ SRus w ok (.slice a h.rules.length c) h.rules
theorem SHd.keep {w w' : World} {ok : Nat → Prop} {h : Hd} {cs : List Value} (x : SHd w ok h cs) (k : Keep ok w w') : SHd w' ok h cs := by
  obtain ⟨a, d, c, h1, h2, h3⟩ := x; exact ⟨a, d, c, h1, h2, h3.keep k⟩
abbrev SHds (w : World) (ok : Nat → Prop) (v : Value) (l : List Hd) : Prop := SSl 10 SHd w ok v l
def hd0 (h : Hm) : Hd := ⟨h.1, 0, 0, 0, 0, h.2⟩
theorem SHos.hds {w : World} {ok : Nat → Prop} {v : Value} {l : List Hm} (h : SHos w ok v l) : SHds w ok v (l.map hd0) := by
  obtain ⟨a, c, rfl, h1, h2, h3⟩ := h
  refine ⟨a, c, by rw [List.length_map], by rw [List.length_map]; exact h1, h2, fun hn => ?_⟩
  obtain ⟨b, T, cur, g, rfl, hb, hh, hsub, hdis, hf⟩ := h3 (fun e => hn (by rw [e]; rfl))
  refine ⟨b, T, cur, g, rfl, hb, hh, hsub, hdis, fun j x hx => ?_⟩
  rw [List.getElem?_map] at hx
  obtain ⟨y, hy, rfl⟩ := Option.map_eq_some_iff.1 hx
  obtain ⟨cs, ⟨rs, d, rfl, k1, k2⟩, k3, k4⟩ := hf j y hy
  obtain ⟨a1, c1, e, _⟩ := id k2
  subst e
  exact ⟨_, ⟨a1, d, c1, rfl, k1, k2⟩, k3, k4⟩
/-- a home marked: n rules in each -/
def hmk (k n : Nat) (j : Nat) (x : Hd) : Hd := ⟨mtx (k + j * (5 + 2 * n)), ((k + j * (5 + 2 * n) : Nat) : Int) + 1, ((k + j * (5 + 2 * n) : Nat) : Int) + 1 + 1, ((k + j * (5 + 2 * n) + 3 + 2 * n : Nat) : Int), ((k + j * (5 + 2 * n) + 3 + 2 * n : Nat) : Int) + 1, rmks (k + j * (5 + 2 * n) + 3) x.rules⟩
theorem markStringS_nil (a : Option Addr) (c : Nat) (n : Int) (w : World) : Calls Try.prog 13 #[.slice a 0 c, .int .i64 n] w fun e w' => e = .returned (.int .i64 n) ∧ Keep Any w w' := by
  go_enter Try.func13, Try.ntmps13
  go_wp2
  go_loopg [1, 5] 1 (fun g x i wr => x = .int .i64 n ∧ i = .int .i64 0 ∧ g = 1 ∧ w = wr)
  case atStart => exact ⟨rfl, rfl, rfl, rfl⟩
  case round =>
    obtain ⟨rfl, rfl, hg, rfl⟩ := hrel
    go_wp2
    go_ret
    exact ⟨rfl, Keep.refl _ _⟩
theorem heldStringS_nil (a : Option Addr) (c : Nat) (n : Int) (w : World) : Calls Try.prog 58 #[.slice a 0 c, .int .i64 n] w fun e w' => e = .returned (.int .i64 n) ∧ Keep Any w w' := by
  go_enter Try.func58, Try.ntmps58
  go_wp2
  go_loopg [1, 5] 1 (fun g x i wr => x = .int .i64 n ∧ i = .int .i64 0 ∧ g = 1 ∧ w = wr)
  case atStart => exact ⟨rfl, rfl, rfl, rfl⟩
  case round =>
    obtain ⟨rfl, rfl, hg, rfl⟩ := hrel
    go_wp2
    go_ret
    exact ⟨rfl, Keep.refl _ _⟩
set_option maxHeartbeats 16000000 in
set_option maxRecDepth 20000 in
theorem markHomes_calls (l : List Hd) (n : Nat) (s : Value) (m : Int) (k : Nat) (w : World) (ok : Nat → Prop) (hm' : m = k) (hs : SHds w ok s l) (hall : ∀ x, x ∈ l → x.rules.length = n) (hk : 1 ≤ k) (hb : k + l.length * (5 + 2 * n) ≤ 4611686018427387904) :
    Calls Try.prog 32 #[s, .int .i64 m] w fun e w' => e = .returned (.int .i64 (k + l.length * (5 + 2 * n) : Nat)) ∧ SHds w' ok s (l.mapIdx (hmk k n)) ∧ Keep (Not' ok) w w' := by
  have HS0 := Lib.hid hs
  have MT := Lib.hid markText_int
  subst hm'
  obtain ⟨a, c, rfl, hc, hm, _⟩ := hs
  go_enter Try.func32, Try.ntmps32
  go_wp2
  go_loopg [1, 5] (l.length + 1) (fun g x y wr => ∃ j : Nat, j ≤ l.length ∧ x = .int .i64 (k + j * (5 + 2 * n) : Nat) ∧ y = .int .i64 j ∧ g = l.length + 1 - j ∧ SHds wr ok (.slice a l.length c) (upTo (hmk k n) l j) ∧ Keep (Not' ok) w wr)
  case atStart => exact ⟨0, by omega, by simp, rfl, rfl, by rw [upTo_zero]; exact HS0.out, Keep.refl _ _⟩
  case round =>
    obtain ⟨j, hj, rfl, rfl, hg, hS, hK⟩ := hrel
    have HG := Lib.hid hg
    have HS := Lib.hid hS
    have HK := Lib.hid hK
    clear hg hS hK
    obtain ⟨q, hq⟩ : ∃ q, k + j * (5 + 2 * n) = q := ⟨_, rfl⟩
    have HQ := Lib.hid hq
    have hq1 : 1 ≤ q := by omega
    rw [hq]
    by_cases hlt : j < l.length
    · have hqb : q + 5 + 2 * n ≤ 4611686018427387904 := by
        have h1 : (j + 1) * (5 + 2 * n) ≤ l.length * (5 + 2 * n) := Nat.mul_le_mul_right _ hlt
        rw [Nat.add_mul, Nat.one_mul] at h1
        omega
      clear hq
      have hx : l[j]? = some l[j] := List.getElem?_eq_getElem hlt
      have HX := Lib.hid hx
      have HN := Lib.hid (hall _ (List.mem_of_getElem? hx))
      obtain ⟨b, T, cur, gj, cs, rfl, hob, hsub, hblk, hR, hcl, hcs, hlens⟩ := SSl.lens (R := SHd) (fun h k => h.keep k) HS.out (upTo_at hx)
      generalize l[j] = x at *
      obtain ⟨a', d, c', rfl, hF, hSR⟩ := hR
      rw [HN.out] at hSR
      have HSR := Lib.hid hSR
      have HL := Lib.hid hlens
      have HSUB := Lib.hid hsub
      rw [HN.out] at hcs
      have A0 := Lib.hid (show PartAt wr b T (j * 10) cur [.string x.nm, .slice none 0 0, .slice none 0 0, .int .i64 x.i1, .int .i64 x.i2, .slice a' n c', .int .i64 x.i3, .slice d 0 0, .slice none 0 0, .int .i64 x.i4] from ⟨cur, hblk, fun _ _ => rfl, hcs⟩)
      have zb := blk_lt hblk
      clear hblk hcs hcl hlens hsub hSR hx
      obtain ⟨r, hr⟩ : ∃ r, q + 3 + 2 * n = r := ⟨_, rfl⟩
      have HR := Lib.hid hr
      have MR := Lib.hid (fun w' (h : SRus w' gj (.slice a' x.rules.length c') x.rules) => markRules_calls x.rules _ ((q : Int) + 1 + 1 + 1) (q + 3) w' gj (by omega) h (by omega) (by rw [HN.out]; omega))
      simp only [HN.out, hr] at MR
      go_wp2_with fail
      refine (MT.out _ q _ (by omega) (by omega) (by omega)).mono ?_
      rintro e w1 ⟨rfl, hK1⟩
      have A1 := Lib.hid (show PartAt w1 b T (j * 10) cur [.string x.nm, .slice none 0 0, .slice none 0 0, .int .i64 x.i1, .int .i64 x.i2, .slice a' n c', .int .i64 x.i3, .slice d 0 0, .slice none 0 0, .int .i64 x.i4] from (A0.out).keep hK1 trivial)
      have y0 : w1.cell? ⟨b, j * 10, none⟩ = some (.string x.nm) := A1.out.cell 0 rfl
      have f0 : w1.frozen? ⟨b, j * 10, none⟩ = false := A1.out.free 0
      have y1 : w1.cell? ⟨b, j * 10 + 1, none⟩ = some (.slice none 0 0) := A1.out.cell 1 rfl
      have f1 : w1.frozen? ⟨b, j * 10 + 1, none⟩ = false := A1.out.free 1
      have y2 : w1.cell? ⟨b, j * 10 + 2, none⟩ = some (.slice none 0 0) := A1.out.cell 2 rfl
      have f2 : w1.frozen? ⟨b, j * 10 + 2, none⟩ = false := A1.out.free 2
      have y3 : w1.cell? ⟨b, j * 10 + 3, none⟩ = some (.int .i64 x.i1) := A1.out.cell 3 rfl
      have f3 : w1.frozen? ⟨b, j * 10 + 3, none⟩ = false := A1.out.free 3
      have y4 : w1.cell? ⟨b, j * 10 + 4, none⟩ = some (.int .i64 x.i2) := A1.out.cell 4 rfl
      have f4 : w1.frozen? ⟨b, j * 10 + 4, none⟩ = false := A1.out.free 4
      have y5 : w1.cell? ⟨b, j * 10 + 5, none⟩ = some (.slice a' n c') := A1.out.cell 5 rfl
      have f5 : w1.frozen? ⟨b, j * 10 + 5, none⟩ = false := A1.out.free 5
      have y6 : w1.cell? ⟨b, j * 10 + 6, none⟩ = some (.int .i64 x.i3) := A1.out.cell 6 rfl
      have f6 : w1.frozen? ⟨b, j * 10 + 6, none⟩ = false := A1.out.free 6
      have y7 : w1.cell? ⟨b, j * 10 + 7, none⟩ = some (.slice d 0 0) := A1.out.cell 7 rfl
      have f7 : w1.frozen? ⟨b, j * 10 + 7, none⟩ = false := A1.out.free 7
      have y8 : w1.cell? ⟨b, j * 10 + 8, none⟩ = some (.slice none 0 0) := A1.out.cell 8 rfl
      have f8 : w1.frozen? ⟨b, j * 10 + 8, none⟩ = false := A1.out.free 8
      have y9 : w1.cell? ⟨b, j * 10 + 9, none⟩ = some (.int .i64 x.i4) := A1.out.cell 9 rfl
      have f9 : w1.frozen? ⟨b, j * 10 + 9, none⟩ = false := A1.out.free 9
      have zb : b < w1.heap.size := A1.out.lt
      have K1 := Lib.hid hK1
      go_wp2_with fail
      refine (markNodeS_nil _ _ _ _).mono ?_
      rintro e w2 ⟨rfl, hK2⟩
      have A2 := Lib.hid (show PartAt w2 b T (j * 10) cur [.string (mtx q), .slice none 0 0, .slice none 0 0, .int .i64 x.i1, .int .i64 x.i2, .slice a' n c', .int .i64 x.i3, .slice d 0 0, .slice none 0 0, .int .i64 x.i4] from (((A1.out).set 0 (by simp) (.string (mtx q)))).keep hK2 trivial)
      clear y0 f0 y1 f1 y2 f2 y3 f3 y4 f4 y5 f5 y6 f6 y7 f7 y8 f8 y9 f9 zb
      have y0 : w2.cell? ⟨b, j * 10, none⟩ = some (.string (mtx q)) := A2.out.cell 0 rfl
      have f0 : w2.frozen? ⟨b, j * 10, none⟩ = false := A2.out.free 0
      have y1 : w2.cell? ⟨b, j * 10 + 1, none⟩ = some (.slice none 0 0) := A2.out.cell 1 rfl
      have f1 : w2.frozen? ⟨b, j * 10 + 1, none⟩ = false := A2.out.free 1
      have y2 : w2.cell? ⟨b, j * 10 + 2, none⟩ = some (.slice none 0 0) := A2.out.cell 2 rfl
      have f2 : w2.frozen? ⟨b, j * 10 + 2, none⟩ = false := A2.out.free 2
      have y3 : w2.cell? ⟨b, j * 10 + 3, none⟩ = some (.int .i64 x.i1) := A2.out.cell 3 rfl
      have f3 : w2.frozen? ⟨b, j * 10 + 3, none⟩ = false := A2.out.free 3
      have y4 : w2.cell? ⟨b, j * 10 + 4, none⟩ = some (.int .i64 x.i2) := A2.out.cell 4 rfl
      have f4 : w2.frozen? ⟨b, j * 10 + 4, none⟩ = false := A2.out.free 4
      have y5 : w2.cell? ⟨b, j * 10 + 5, none⟩ = some (.slice a' n c') := A2.out.cell 5 rfl
      have f5 : w2.frozen? ⟨b, j * 10 + 5, none⟩ = false := A2.out.free 5
      have y6 : w2.cell? ⟨b, j * 10 + 6, none⟩ = some (.int .i64 x.i3) := A2.out.cell 6 rfl
      have f6 : w2.frozen? ⟨b, j * 10 + 6, none⟩ = false := A2.out.free 6
      have y7 : w2.cell? ⟨b, j * 10 + 7, none⟩ = some (.slice d 0 0) := A2.out.cell 7 rfl
      have f7 : w2.frozen? ⟨b, j * 10 + 7, none⟩ = false := A2.out.free 7
      have y8 : w2.cell? ⟨b, j * 10 + 8, none⟩ = some (.slice none 0 0) := A2.out.cell 8 rfl
      have f8 : w2.frozen? ⟨b, j * 10 + 8, none⟩ = false := A2.out.free 8
      have y9 : w2.cell? ⟨b, j * 10 + 9, none⟩ = some (.int .i64 x.i4) := A2.out.cell 9 rfl
      have f9 : w2.frozen? ⟨b, j * 10 + 9, none⟩ = false := A2.out.free 9
      have zb : b < w2.heap.size := A2.out.lt
      have K2 := Lib.hid hK2
      go_wp2_with fail
      refine (markEdgeS_nil _ _ _ _).mono ?_
      rintro e w3 ⟨rfl, hK3⟩
      have A3 := Lib.hid (show PartAt w3 b T (j * 10) cur [.string (mtx q), .slice none 0 0, .slice none 0 0, .int .i64 x.i1, .int .i64 x.i2, .slice a' n c', .int .i64 x.i3, .slice d 0 0, .slice none 0 0, .int .i64 x.i4] from (A2.out).keep hK3 trivial)
      clear y0 f0 y1 f1 y2 f2 y3 f3 y4 f4 y5 f5 y6 f6 y7 f7 y8 f8 y9 f9 zb
      have y0 : w3.cell? ⟨b, j * 10, none⟩ = some (.string (mtx q)) := A3.out.cell 0 rfl
      have f0 : w3.frozen? ⟨b, j * 10, none⟩ = false := A3.out.free 0
      have y1 : w3.cell? ⟨b, j * 10 + 1, none⟩ = some (.slice none 0 0) := A3.out.cell 1 rfl
      have f1 : w3.frozen? ⟨b, j * 10 + 1, none⟩ = false := A3.out.free 1
      have y2 : w3.cell? ⟨b, j * 10 + 2, none⟩ = some (.slice none 0 0) := A3.out.cell 2 rfl
      have f2 : w3.frozen? ⟨b, j * 10 + 2, none⟩ = false := A3.out.free 2
      have y3 : w3.cell? ⟨b, j * 10 + 3, none⟩ = some (.int .i64 x.i1) := A3.out.cell 3 rfl
      have f3 : w3.frozen? ⟨b, j * 10 + 3, none⟩ = false := A3.out.free 3
      have y4 : w3.cell? ⟨b, j * 10 + 4, none⟩ = some (.int .i64 x.i2) := A3.out.cell 4 rfl
      have f4 : w3.frozen? ⟨b, j * 10 + 4, none⟩ = false := A3.out.free 4
      have y5 : w3.cell? ⟨b, j * 10 + 5, none⟩ = some (.slice a' n c') := A3.out.cell 5 rfl
      have f5 : w3.frozen? ⟨b, j * 10 + 5, none⟩ = false := A3.out.free 5
      have y6 : w3.cell? ⟨b, j * 10 + 6, none⟩ = some (.int .i64 x.i3) := A3.out.cell 6 rfl
      have f6 : w3.frozen? ⟨b, j * 10 + 6, none⟩ = false := A3.out.free 6
      have y7 : w3.cell? ⟨b, j * 10 + 7, none⟩ = some (.slice d 0 0) := A3.out.cell 7 rfl
      have f7 : w3.frozen? ⟨b, j * 10 + 7, none⟩ = false := A3.out.free 7
      have y8 : w3.cell? ⟨b, j * 10 + 8, none⟩ = some (.slice none 0 0) := A3.out.cell 8 rfl
      have f8 : w3.frozen? ⟨b, j * 10 + 8, none⟩ = false := A3.out.free 8
      have y9 : w3.cell? ⟨b, j * 10 + 9, none⟩ = some (.int .i64 x.i4) := A3.out.cell 9 rfl
      have f9 : w3.frozen? ⟨b, j * 10 + 9, none⟩ = false := A3.out.free 9
      have zb : b < w3.heap.size := A3.out.lt
      have K3 := Lib.hid hK3
      clear hK1 hK2 hK3
      have KG := Lib.hid (show Keep gj wr w3 from ((((K1.out.any).set _ _ (fun _ h => (HSUB.out _ h).2 rfl)).trans K2.out.any).trans K3.out.any))
      have KN := Lib.hid (show Keep (fun k => k ≠ b ∧ ¬ gj k) wr w3 from ((((K1.out.any).set _ _ (fun _ h => h.1 rfl)).trans K2.out.any).trans K3.out.any))
      go_wp2_with fail
      refine (MR.out _ (SRus.keep HSR.out ((KG.out.set _ _ (fun _ h => (HSUB.out _ h).2 rfl)).set _ _ (fun _ h => (HSUB.out _ h).2 rfl)))).mono ?_
      rintro e w4 ⟨rfl, hS4, hK4⟩
      have A4 := Lib.hid (show PartAt w4 b T (j * 10) cur [.string (mtx q), .slice none 0 0, .slice none 0 0, .int .i64 ((q : Int) + 1), .int .i64 ((q : Int) + 1 + 1), .slice a' n c', .int .i64 x.i3, .slice d 0 0, .slice none 0 0, .int .i64 x.i4] from (((((A3.out).set 3 (by simp) (.int .i64 ((q : Int) + 1)))).set 4 (by simp) (.int .i64 ((q : Int) + 1 + 1)))).keep hK4 (fun h => (HSUB.out b h).2 rfl))
      clear y0 f0 y1 f1 y2 f2 y3 f3 y4 f4 y5 f5 y6 f6 y7 f7 y8 f8 y9 f9 zb
      have y0 : w4.cell? ⟨b, j * 10, none⟩ = some (.string (mtx q)) := A4.out.cell 0 rfl
      have f0 : w4.frozen? ⟨b, j * 10, none⟩ = false := A4.out.free 0
      have y1 : w4.cell? ⟨b, j * 10 + 1, none⟩ = some (.slice none 0 0) := A4.out.cell 1 rfl
      have f1 : w4.frozen? ⟨b, j * 10 + 1, none⟩ = false := A4.out.free 1
      have y2 : w4.cell? ⟨b, j * 10 + 2, none⟩ = some (.slice none 0 0) := A4.out.cell 2 rfl
      have f2 : w4.frozen? ⟨b, j * 10 + 2, none⟩ = false := A4.out.free 2
      have y3 : w4.cell? ⟨b, j * 10 + 3, none⟩ = some (.int .i64 ((q : Int) + 1)) := A4.out.cell 3 rfl
      have f3 : w4.frozen? ⟨b, j * 10 + 3, none⟩ = false := A4.out.free 3
      have y4 : w4.cell? ⟨b, j * 10 + 4, none⟩ = some (.int .i64 ((q : Int) + 1 + 1)) := A4.out.cell 4 rfl
      have f4 : w4.frozen? ⟨b, j * 10 + 4, none⟩ = false := A4.out.free 4
      have y5 : w4.cell? ⟨b, j * 10 + 5, none⟩ = some (.slice a' n c') := A4.out.cell 5 rfl
      have f5 : w4.frozen? ⟨b, j * 10 + 5, none⟩ = false := A4.out.free 5
      have y6 : w4.cell? ⟨b, j * 10 + 6, none⟩ = some (.int .i64 x.i3) := A4.out.cell 6 rfl
      have f6 : w4.frozen? ⟨b, j * 10 + 6, none⟩ = false := A4.out.free 6
      have y7 : w4.cell? ⟨b, j * 10 + 7, none⟩ = some (.slice d 0 0) := A4.out.cell 7 rfl
      have f7 : w4.frozen? ⟨b, j * 10 + 7, none⟩ = false := A4.out.free 7
      have y8 : w4.cell? ⟨b, j * 10 + 8, none⟩ = some (.slice none 0 0) := A4.out.cell 8 rfl
      have f8 : w4.frozen? ⟨b, j * 10 + 8, none⟩ = false := A4.out.free 8
      have y9 : w4.cell? ⟨b, j * 10 + 9, none⟩ = some (.int .i64 x.i4) := A4.out.cell 9 rfl
      have f9 : w4.frozen? ⟨b, j * 10 + 9, none⟩ = false := A4.out.free 9
      have zb : b < w4.heap.size := A4.out.lt
      have S4 := Lib.hid hS4
      have KW := Lib.hid (show Keep (fun k => k ≠ b ∧ ¬ gj k) wr w4 from ((KN.out.set _ _ (fun _ h => h.1 rfl)).set _ _ (fun _ h => h.1 rfl)).trans (hK4.mono fun _ _ h => h.2))
      clear hS4 hK4
      go_wp2_with fail
      refine (markAskS_nil _ _ _ _).mono ?_
      rintro e w5 ⟨rfl, hK5⟩
      have A5 := Lib.hid (show PartAt w5 b T (j * 10) cur [.string (mtx q), .slice none 0 0, .slice none 0 0, .int .i64 ((q : Int) + 1), .int .i64 ((q : Int) + 1 + 1), .slice a' n c', .int .i64 r, .slice d 0 0, .slice none 0 0, .int .i64 x.i4] from (((A4.out).set 6 (by simp) (.int .i64 r))).keep hK5 trivial)
      clear y0 f0 y1 f1 y2 f2 y3 f3 y4 f4 y5 f5 y6 f6 y7 f7 y8 f8 y9 f9 zb
      have y0 : w5.cell? ⟨b, j * 10, none⟩ = some (.string (mtx q)) := A5.out.cell 0 rfl
      have f0 : w5.frozen? ⟨b, j * 10, none⟩ = false := A5.out.free 0
      have y1 : w5.cell? ⟨b, j * 10 + 1, none⟩ = some (.slice none 0 0) := A5.out.cell 1 rfl
      have f1 : w5.frozen? ⟨b, j * 10 + 1, none⟩ = false := A5.out.free 1
      have y2 : w5.cell? ⟨b, j * 10 + 2, none⟩ = some (.slice none 0 0) := A5.out.cell 2 rfl
      have f2 : w5.frozen? ⟨b, j * 10 + 2, none⟩ = false := A5.out.free 2
      have y3 : w5.cell? ⟨b, j * 10 + 3, none⟩ = some (.int .i64 ((q : Int) + 1)) := A5.out.cell 3 rfl
      have f3 : w5.frozen? ⟨b, j * 10 + 3, none⟩ = false := A5.out.free 3
      have y4 : w5.cell? ⟨b, j * 10 + 4, none⟩ = some (.int .i64 ((q : Int) + 1 + 1)) := A5.out.cell 4 rfl
      have f4 : w5.frozen? ⟨b, j * 10 + 4, none⟩ = false := A5.out.free 4
      have y5 : w5.cell? ⟨b, j * 10 + 5, none⟩ = some (.slice a' n c') := A5.out.cell 5 rfl
      have f5 : w5.frozen? ⟨b, j * 10 + 5, none⟩ = false := A5.out.free 5
      have y6 : w5.cell? ⟨b, j * 10 + 6, none⟩ = some (.int .i64 r) := A5.out.cell 6 rfl
      have f6 : w5.frozen? ⟨b, j * 10 + 6, none⟩ = false := A5.out.free 6
      have y7 : w5.cell? ⟨b, j * 10 + 7, none⟩ = some (.slice d 0 0) := A5.out.cell 7 rfl
      have f7 : w5.frozen? ⟨b, j * 10 + 7, none⟩ = false := A5.out.free 7
      have y8 : w5.cell? ⟨b, j * 10 + 8, none⟩ = some (.slice none 0 0) := A5.out.cell 8 rfl
      have f8 : w5.frozen? ⟨b, j * 10 + 8, none⟩ = false := A5.out.free 8
      have y9 : w5.cell? ⟨b, j * 10 + 9, none⟩ = some (.int .i64 x.i4) := A5.out.cell 9 rfl
      have f9 : w5.frozen? ⟨b, j * 10 + 9, none⟩ = false := A5.out.free 9
      have zb : b < w5.heap.size := A5.out.lt
      have K5 := Lib.hid hK5
      go_wp2_with fail
      refine (markTxS_nil _ _ _ _).mono ?_
      rintro e w6 ⟨rfl, hK6⟩
      have A6 := Lib.hid (show PartAt w6 b T (j * 10) cur [.string (mtx q), .slice none 0 0, .slice none 0 0, .int .i64 ((q : Int) + 1), .int .i64 ((q : Int) + 1 + 1), .slice a' n c', .int .i64 r, .slice d 0 0, .slice none 0 0, .int .i64 x.i4] from (A5.out).keep hK6 trivial)
      clear y0 f0 y1 f1 y2 f2 y3 f3 y4 f4 y5 f5 y6 f6 y7 f7 y8 f8 y9 f9 zb
      have y0 : w6.cell? ⟨b, j * 10, none⟩ = some (.string (mtx q)) := A6.out.cell 0 rfl
      have f0 : w6.frozen? ⟨b, j * 10, none⟩ = false := A6.out.free 0
      have y1 : w6.cell? ⟨b, j * 10 + 1, none⟩ = some (.slice none 0 0) := A6.out.cell 1 rfl
      have f1 : w6.frozen? ⟨b, j * 10 + 1, none⟩ = false := A6.out.free 1
      have y2 : w6.cell? ⟨b, j * 10 + 2, none⟩ = some (.slice none 0 0) := A6.out.cell 2 rfl
      have f2 : w6.frozen? ⟨b, j * 10 + 2, none⟩ = false := A6.out.free 2
      have y3 : w6.cell? ⟨b, j * 10 + 3, none⟩ = some (.int .i64 ((q : Int) + 1)) := A6.out.cell 3 rfl
      have f3 : w6.frozen? ⟨b, j * 10 + 3, none⟩ = false := A6.out.free 3
      have y4 : w6.cell? ⟨b, j * 10 + 4, none⟩ = some (.int .i64 ((q : Int) + 1 + 1)) := A6.out.cell 4 rfl
      have f4 : w6.frozen? ⟨b, j * 10 + 4, none⟩ = false := A6.out.free 4
      have y5 : w6.cell? ⟨b, j * 10 + 5, none⟩ = some (.slice a' n c') := A6.out.cell 5 rfl
      have f5 : w6.frozen? ⟨b, j * 10 + 5, none⟩ = false := A6.out.free 5
      have y6 : w6.cell? ⟨b, j * 10 + 6, none⟩ = some (.int .i64 r) := A6.out.cell 6 rfl
      have f6 : w6.frozen? ⟨b, j * 10 + 6, none⟩ = false := A6.out.free 6
      have y7 : w6.cell? ⟨b, j * 10 + 7, none⟩ = some (.slice d 0 0) := A6.out.cell 7 rfl
      have f7 : w6.frozen? ⟨b, j * 10 + 7, none⟩ = false := A6.out.free 7
      have y8 : w6.cell? ⟨b, j * 10 + 8, none⟩ = some (.slice none 0 0) := A6.out.cell 8 rfl
      have f8 : w6.frozen? ⟨b, j * 10 + 8, none⟩ = false := A6.out.free 8
      have y9 : w6.cell? ⟨b, j * 10 + 9, none⟩ = some (.int .i64 x.i4) := A6.out.cell 9 rfl
      have f9 : w6.frozen? ⟨b, j * 10 + 9, none⟩ = false := A6.out.free 9
      have zb : b < w6.heap.size := A6.out.lt
      have K6 := Lib.hid hK6
      clear hK5 hK6
      go_wp2
      go_roundg (gk - 1)
      case rel =>
        have AF := ((A6.out).set 9 (by simp) (.int .i64 ((r : Int) + 1)))
        obtain ⟨cur', m1, m2, m3⟩ := AF
        have KF := (((KW.out.set _ _ (fun _ h => h.1 rfl)).trans K5.out.any).trans K6.out.any).set ⟨b, j * 10 + 9, none⟩ (.int .i64 ((r : Int) + 1)) (fun _ h => h.1 rfl)
        refine ⟨j + 1, by omega, ?_, by go_num, by have := HG.out; omega, ?_, HK.out.then KF fun i _ hi => ⟨fun e => hi (e ▸ hob), fun h => hi (HSUB.out i h).1⟩⟩
        · refine congrArg (Value.int .i64) ?_
          have h2 := HQ.out
          have h3 := HR.out
          have h4 : (j + 1) * (5 + 2 * n) = j * (5 + 2 * n) + (5 + 2 * n) := by rw [Nat.add_mul, Nat.one_mul]
          rw [h4]
          generalize j * (5 + 2 * n) = t at *
          push_cast
          omega
        · rw [← upTo_set HX.out]
          refine HL.out _ cur' (hmk k n j x) [.string (mtx q), .slice none 0 0, .slice none 0 0, .int .i64 ((q : Int) + 1), .int .i64 ((q : Int) + 1 + 1), .slice a' n c', .int .i64 r, .slice d 0 0, .slice none 0 0, .int .i64 ((r : Int) + 1)] m1 m2 ⟨a', d, c', ?_, mtx_fits _ (by have := HQ.out; omega), ?_⟩ rfl m3 KF
          · simp only [hmk, rmks_len, HN.out, HQ.out, HR.out]
          · have hS := SRus.keep S4.out ((((Keep.refl _ w4).set ⟨b, j * 10 + 6, none⟩ (.int .i64 r) (fun _ h => (HSUB.out _ h).2 rfl)).trans K5.out.any).trans K6.out.any)
            have hS := SRus.keep hS ((Keep.refl _ w6).set ⟨b, j * 10 + 9, none⟩ (.int .i64 ((r : Int) + 1)) (fun _ h => (HSUB.out _ h).2 rfl))
            simpa only [hmk, rmks_len, HN.out, HQ.out] using hS
      case measure => have := HG.out; omega
    · have HJ := Lib.hid (show j = l.length by omega)
      clear hq
      go_wp2
      go_ret
      exact ⟨ret_int (by have := HQ.out; rw [HJ.out] at this; omega), by have := HS.out; rw [HJ.out, upTo_all] at this; exact this, HK.out⟩

structure Ld where
  mode : Int
  tx : Int
  at_ : Int
  home : Int
  left : ByteArray
def SLd (_ : World) (_ : Nat → Prop) (h : Ld) (cs : List Value) : Prop := cs = [.int .i64 h.mode, .int .i64 h.tx, .slice none 0 0, .slice none 0 0, .int .i64 h.at_, .int .i64 h.home, .string h.left] ∧ Fits h.left
abbrev SLds (w : World) (ok : Nat → Prop) (v : Value) (l : List Ld) : Prop := SSl 7 SLd w ok v l
def ld0 (_ : Unit) : Ld := ⟨0, -1, 0, -1, ⟨#[]⟩⟩
theorem SLks.lds {w : World} {ok : Nat → Prop} {v : Value} {l : List Unit} (h : SLks w ok v l) : SLds w ok v (l.map ld0) := by
  obtain ⟨a, c, rfl, h1, h2, h3⟩ := h
  refine ⟨a, c, by rw [List.length_map], by rw [List.length_map]; exact h1, h2, fun hn => ?_⟩
  obtain ⟨b, T, cur, g, rfl, hb, hh, hsub, hdis, hf⟩ := h3 (fun e => hn (by rw [e]; rfl))
  refine ⟨b, T, cur, g, rfl, hb, hh, hsub, hdis, fun j x hx => ?_⟩
  rw [List.getElem?_map] at hx
  obtain ⟨y, hy, rfl⟩ := Option.map_eq_some_iff.1 hx
  obtain ⟨cs, rfl, k3, k4⟩ := hf j y hy
  exact ⟨_, ⟨rfl, (by unfold Fits ld0; decide)⟩, k3, k4⟩
def lmk (k : Nat) (j : Nat) (_ : Ld) : Ld := ⟨((k + 5 * j : Nat) : Int), ((k + 5 * j : Nat) : Int) + 1, ((k + 5 * j : Nat) : Int) + 1 + 1, ((k + 5 * j : Nat) : Int) + 1 + 1 + 1, mtx (k + 5 * j + 4)⟩
set_option maxHeartbeats 8000000 in
set_option maxRecDepth 20000 in
theorem markLinks_calls (l : List Ld) (s : Value) (m : Int) (k : Nat) (w : World) (ok : Nat → Prop) (hm' : m = k) (hs : SLds w ok s l) (hk : 1 ≤ k) (hb : k + 5 * l.length ≤ 4611686018427387904) :
    Calls Try.prog 33 #[s, .int .i64 m] w fun e w' => e = .returned (.int .i64 (k + 5 * l.length : Nat)) ∧ SLds w' ok s (l.mapIdx (lmk k)) ∧ Keep (Not' ok) w w' := by
  have HS0 := Lib.hid hs
  have MT := Lib.hid markText_int
  subst hm'
  obtain ⟨a, c, rfl, hc, hm, _⟩ := hs
  go_enter Try.func33, Try.ntmps33
  go_wp2
  go_loopg [1, 5] (l.length + 1) (fun g x y wr => ∃ j : Nat, j ≤ l.length ∧ x = .int .i64 (k + 5 * j : Nat) ∧ y = .int .i64 j ∧ g = l.length + 1 - j ∧ SLds wr ok (.slice a l.length c) (upTo (lmk k) l j) ∧ Keep (Not' ok) w wr)
  case atStart => exact ⟨0, by omega, by simp, rfl, rfl, by rw [upTo_zero]; exact HS0.out, Keep.refl _ _⟩
  case round =>
    obtain ⟨j, hj, rfl, rfl, hg, hS, hK⟩ := hrel
    have HG := Lib.hid hg
    have HS := Lib.hid hS
    have HK := Lib.hid hK
    clear hg hS hK
    obtain ⟨q, hq⟩ : ∃ q, k + 5 * j = q := ⟨_, rfl⟩
    have HQ := Lib.hid hq
    have hq1 : 1 ≤ q := by omega
    rw [hq]
    by_cases hlt : j < l.length
    · have hqb : q + 5 ≤ 4611686018427387904 := by omega
      clear hq
      have hx : l[j]? = some l[j] := List.getElem?_eq_getElem hlt
      have HX := Lib.hid hx
      obtain ⟨b, T, cur, gj, cs, rfl, hob, hsub, hblk, hR, hcl, hcs, hlens⟩ := SSl.lens (R := SLd) (fun h k => h) HS.out (upTo_at hx)
      generalize l[j] = x at *
      obtain ⟨rfl, hF⟩ := hR
      have HL := Lib.hid hlens
      have A0 := Lib.hid (show PartAt wr b T (j * 7) cur [.int .i64 x.mode, .int .i64 x.tx, .slice none 0 0, .slice none 0 0, .int .i64 x.at_, .int .i64 x.home, .string x.left] from ⟨cur, hblk, fun _ _ => rfl, hcs⟩)
      clear hblk hcs hcl hlens hsub hx
      have y0 : wr.cell? ⟨b, j * 7, none⟩ = some (.int .i64 x.mode) := A0.out.cell 0 rfl
      have f0 : wr.frozen? ⟨b, j * 7, none⟩ = false := A0.out.free 0
      have y1 : wr.cell? ⟨b, j * 7 + 1, none⟩ = some (.int .i64 x.tx) := A0.out.cell 1 rfl
      have f1 : wr.frozen? ⟨b, j * 7 + 1, none⟩ = false := A0.out.free 1
      have y2 : wr.cell? ⟨b, j * 7 + 2, none⟩ = some (.slice none 0 0) := A0.out.cell 2 rfl
      have f2 : wr.frozen? ⟨b, j * 7 + 2, none⟩ = false := A0.out.free 2
      have y3 : wr.cell? ⟨b, j * 7 + 3, none⟩ = some (.slice none 0 0) := A0.out.cell 3 rfl
      have f3 : wr.frozen? ⟨b, j * 7 + 3, none⟩ = false := A0.out.free 3
      have y4 : wr.cell? ⟨b, j * 7 + 4, none⟩ = some (.int .i64 x.at_) := A0.out.cell 4 rfl
      have f4 : wr.frozen? ⟨b, j * 7 + 4, none⟩ = false := A0.out.free 4
      have y5 : wr.cell? ⟨b, j * 7 + 5, none⟩ = some (.int .i64 x.home) := A0.out.cell 5 rfl
      have f5 : wr.frozen? ⟨b, j * 7 + 5, none⟩ = false := A0.out.free 5
      have y6 : wr.cell? ⟨b, j * 7 + 6, none⟩ = some (.string x.left) := A0.out.cell 6 rfl
      have f6 : wr.frozen? ⟨b, j * 7 + 6, none⟩ = false := A0.out.free 6
      have zb : b < wr.heap.size := A0.out.lt
      go_wp2_with fail
      refine (markStringS_nil _ _ _ _).mono ?_
      rintro e w1 ⟨rfl, hK1⟩
      have A1 := Lib.hid (show PartAt w1 b T (j * 7) cur [.int .i64 q, .int .i64 ((q : Int) + 1), .slice none 0 0, .slice none 0 0, .int .i64 x.at_, .int .i64 x.home, .string x.left] from (((((A0.out).set 0 (by simp) (.int .i64 q))).set 1 (by simp) (.int .i64 ((q : Int) + 1)))).keep hK1 trivial)
      clear y0 f0 y1 f1 y2 f2 y3 f3 y4 f4 y5 f5 y6 f6 zb
      have y0 : w1.cell? ⟨b, j * 7, none⟩ = some (.int .i64 q) := A1.out.cell 0 rfl
      have f0 : w1.frozen? ⟨b, j * 7, none⟩ = false := A1.out.free 0
      have y1 : w1.cell? ⟨b, j * 7 + 1, none⟩ = some (.int .i64 ((q : Int) + 1)) := A1.out.cell 1 rfl
      have f1 : w1.frozen? ⟨b, j * 7 + 1, none⟩ = false := A1.out.free 1
      have y2 : w1.cell? ⟨b, j * 7 + 2, none⟩ = some (.slice none 0 0) := A1.out.cell 2 rfl
      have f2 : w1.frozen? ⟨b, j * 7 + 2, none⟩ = false := A1.out.free 2
      have y3 : w1.cell? ⟨b, j * 7 + 3, none⟩ = some (.slice none 0 0) := A1.out.cell 3 rfl
      have f3 : w1.frozen? ⟨b, j * 7 + 3, none⟩ = false := A1.out.free 3
      have y4 : w1.cell? ⟨b, j * 7 + 4, none⟩ = some (.int .i64 x.at_) := A1.out.cell 4 rfl
      have f4 : w1.frozen? ⟨b, j * 7 + 4, none⟩ = false := A1.out.free 4
      have y5 : w1.cell? ⟨b, j * 7 + 5, none⟩ = some (.int .i64 x.home) := A1.out.cell 5 rfl
      have f5 : w1.frozen? ⟨b, j * 7 + 5, none⟩ = false := A1.out.free 5
      have y6 : w1.cell? ⟨b, j * 7 + 6, none⟩ = some (.string x.left) := A1.out.cell 6 rfl
      have f6 : w1.frozen? ⟨b, j * 7 + 6, none⟩ = false := A1.out.free 6
      have zb : b < w1.heap.size := A1.out.lt
      have K1 := Lib.hid hK1
      go_wp2_with fail
      refine (markValueSS_nil _ _ _ _).mono ?_
      rintro e w2 ⟨rfl, hK2⟩
      have A2 := Lib.hid (show PartAt w2 b T (j * 7) cur [.int .i64 q, .int .i64 ((q : Int) + 1), .slice none 0 0, .slice none 0 0, .int .i64 x.at_, .int .i64 x.home, .string x.left] from (A1.out).keep hK2 trivial)
      clear y0 f0 y1 f1 y2 f2 y3 f3 y4 f4 y5 f5 y6 f6 zb
      have y0 : w2.cell? ⟨b, j * 7, none⟩ = some (.int .i64 q) := A2.out.cell 0 rfl
      have f0 : w2.frozen? ⟨b, j * 7, none⟩ = false := A2.out.free 0
      have y1 : w2.cell? ⟨b, j * 7 + 1, none⟩ = some (.int .i64 ((q : Int) + 1)) := A2.out.cell 1 rfl
      have f1 : w2.frozen? ⟨b, j * 7 + 1, none⟩ = false := A2.out.free 1
      have y2 : w2.cell? ⟨b, j * 7 + 2, none⟩ = some (.slice none 0 0) := A2.out.cell 2 rfl
      have f2 : w2.frozen? ⟨b, j * 7 + 2, none⟩ = false := A2.out.free 2
      have y3 : w2.cell? ⟨b, j * 7 + 3, none⟩ = some (.slice none 0 0) := A2.out.cell 3 rfl
      have f3 : w2.frozen? ⟨b, j * 7 + 3, none⟩ = false := A2.out.free 3
      have y4 : w2.cell? ⟨b, j * 7 + 4, none⟩ = some (.int .i64 x.at_) := A2.out.cell 4 rfl
      have f4 : w2.frozen? ⟨b, j * 7 + 4, none⟩ = false := A2.out.free 4
      have y5 : w2.cell? ⟨b, j * 7 + 5, none⟩ = some (.int .i64 x.home) := A2.out.cell 5 rfl
      have f5 : w2.frozen? ⟨b, j * 7 + 5, none⟩ = false := A2.out.free 5
      have y6 : w2.cell? ⟨b, j * 7 + 6, none⟩ = some (.string x.left) := A2.out.cell 6 rfl
      have f6 : w2.frozen? ⟨b, j * 7 + 6, none⟩ = false := A2.out.free 6
      have zb : b < w2.heap.size := A2.out.lt
      have K2 := Lib.hid hK2
      go_wp2_with fail
      refine (MT.out _ (q + 4) _ (by omega) (by omega) (by omega)).mono ?_
      rintro e w3 ⟨rfl, hK3⟩
      have A3 := Lib.hid (show PartAt w3 b T (j * 7) cur [.int .i64 q, .int .i64 ((q : Int) + 1), .slice none 0 0, .slice none 0 0, .int .i64 ((q : Int) + 1 + 1), .int .i64 ((q : Int) + 1 + 1 + 1), .string x.left] from (((((A2.out).set 4 (by simp) (.int .i64 ((q : Int) + 1 + 1)))).set 5 (by simp) (.int .i64 ((q : Int) + 1 + 1 + 1)))).keep hK3 trivial)
      clear y0 f0 y1 f1 y2 f2 y3 f3 y4 f4 y5 f5 y6 f6 zb
      have y0 : w3.cell? ⟨b, j * 7, none⟩ = some (.int .i64 q) := A3.out.cell 0 rfl
      have f0 : w3.frozen? ⟨b, j * 7, none⟩ = false := A3.out.free 0
      have y1 : w3.cell? ⟨b, j * 7 + 1, none⟩ = some (.int .i64 ((q : Int) + 1)) := A3.out.cell 1 rfl
      have f1 : w3.frozen? ⟨b, j * 7 + 1, none⟩ = false := A3.out.free 1
      have y2 : w3.cell? ⟨b, j * 7 + 2, none⟩ = some (.slice none 0 0) := A3.out.cell 2 rfl
      have f2 : w3.frozen? ⟨b, j * 7 + 2, none⟩ = false := A3.out.free 2
      have y3 : w3.cell? ⟨b, j * 7 + 3, none⟩ = some (.slice none 0 0) := A3.out.cell 3 rfl
      have f3 : w3.frozen? ⟨b, j * 7 + 3, none⟩ = false := A3.out.free 3
      have y4 : w3.cell? ⟨b, j * 7 + 4, none⟩ = some (.int .i64 ((q : Int) + 1 + 1)) := A3.out.cell 4 rfl
      have f4 : w3.frozen? ⟨b, j * 7 + 4, none⟩ = false := A3.out.free 4
      have y5 : w3.cell? ⟨b, j * 7 + 5, none⟩ = some (.int .i64 ((q : Int) + 1 + 1 + 1)) := A3.out.cell 5 rfl
      have f5 : w3.frozen? ⟨b, j * 7 + 5, none⟩ = false := A3.out.free 5
      have y6 : w3.cell? ⟨b, j * 7 + 6, none⟩ = some (.string x.left) := A3.out.cell 6 rfl
      have f6 : w3.frozen? ⟨b, j * 7 + 6, none⟩ = false := A3.out.free 6
      have zb : b < w3.heap.size := A3.out.lt
      have K3 := Lib.hid hK3
      clear hK1 hK2 hK3
      go_wp2
      go_roundg (gk - 1)
      case rel =>
        obtain ⟨cur', m1, m2, m3⟩ := (A3.out).set 6 (by simp) (.string (mtx (q + 4)))
        have KF := (((((((Keep.refl (fun k => k ≠ b ∧ ¬ gj k) wr).set _ _ (fun _ h => h.1 rfl)).set _ _ (fun _ h => h.1 rfl)).trans K1.out.any).trans K2.out.any).set _ _ (fun _ h => h.1 rfl)).set _ _ (fun _ h => h.1 rfl)).trans K3.out.any |>.set ⟨b, j * 7 + 6, none⟩ (.string (mtx (q + 4))) (fun _ h => h.1 rfl)
        refine ⟨j + 1, by omega, ?_, by go_num, by have := HG.out; omega, ?_, HK.out.then (((((((((Keep.refl (fun k => k ≠ b) wr).set _ _ (fun _ h => h rfl)).set _ _ (fun _ h => h rfl)).trans K1.out.any).trans K2.out.any).set _ _ (fun _ h => h rfl)).set _ _ (fun _ h => h rfl)).trans K3.out.any).set _ _ (fun _ h => h rfl)) fun i _ hi => fun e => hi (e ▸ hob)⟩
        · refine congrArg (Value.int .i64) ?_
          have h2 := HQ.out
          push_cast
          omega
        · rw [← upTo_set HX.out]
          refine HL.out _ cur' (lmk k j x) [.int .i64 q, .int .i64 ((q : Int) + 1), .slice none 0 0, .slice none 0 0, .int .i64 ((q : Int) + 1 + 1), .int .i64 ((q : Int) + 1 + 1 + 1), .string (mtx (q + 4))] m1 m2 ⟨?_, mtx_fits _ (by have := HQ.out; omega)⟩ rfl m3 KF
          simp only [lmk, HQ.out]
      case measure => have := HG.out; omega
    · have HJ := Lib.hid (show j = l.length by omega)
      clear hq
      go_wp2
      go_ret
      exact ⟨ret_int (by have := HQ.out; rw [HJ.out] at this; omega), by have := HS.out; rw [HJ.out, upTo_all] at this; exact this, HK.out⟩
end Go.Proofs.Ytlmonnhgjnjniaa

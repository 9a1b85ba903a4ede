/- Marks written into values and cells of one's own, and read again. Marks read again: each place holds what was written. Marks in cells (a name and a value) and in what is said, written and read again. Marks in cells and in what is said, read again. -/
import Derived.Test.YtjgnnobfaphkeaaDoorMLawMsgGet14
import Derived.Test.YtjgnnobfaphkeaaDoorMLawMsgGet4
import Derived.Test.YtjgnnobfaphkeaaDoorMLawMsgGet12
import Derived.Deep.RegionHeld3
/- Marks written into values and cells of one's own, and read again. -/
namespace Go.Proofs.YtjgnnobfaphkeaaDoor
open Go.RowKit
set_option linter.unusedVariables false
set_option linter.unusedSimpArgs false
/-- the figures of n ahead of l -/
def txtOf (n : Nat) (l : List UInt8) : List UInt8 := if n = 0 then l else Lib.decDigits n ++ l
theorem txtOf_step {n : Nat} (h : 0 < n) (l : List UInt8) : txtOf (n / 10) (UInt8.ofNat (48 + n % 10) :: l) = txtOf n l := by
  unfold txtOf
  rw [if_neg (show ¬ n = 0 by omega)]
  by_cases hn : n < 10
  · rw [if_pos (by omega), dec_small hn, Nat.mod_eq_of_lt hn]; rfl
  · rw [if_neg (by omega), dec_big hn, List.append_assoc]; rfl
theorem txtOf_len (n : Nat) (l : List UInt8) : l.length ≤ (txtOf n l).length := by
  unfold txtOf; split <;> simp
set_option maxRecDepth 20000 in
theorem markText_calls (k : Nat) (w : World) (h0 : 1 ≤ k) (h1 : k ≤ 9223372036854775807) : Calls Tryd.prog 75 #[.int .i64 k] w fun e w' => e = .returned (.string (mtx k)) ∧ Keep Any w w' := by
  have kc := one_byte
  have hlen := dec_len k (by omega)
  have b0 : decide ((k : Int) ≤ 0) = false := by rw [decide_eq_false_iff_not]; omega
  have b1 : (0 : Int) < (k : Int) := by omega
  go_enter Tryd.func75, Tryd.ntmps75
  go_wp2
  go_loopg [0, 3] (k + 1) (fun g x y wr => ∃ (n : Nat) (l : List UInt8), n ≤ k ∧ x = .int .i64 n ∧ y = .string ⟨l.toArray⟩ ∧ n < g ∧ txtOf n l = Lib.decDigits k ∧ l.length ≤ 20 ∧ Keep Any w wr)
  case atStart => exact ⟨k, [], Nat.le_refl _, rfl, rfl, by omega, by unfold txtOf; rw [if_neg (by omega), List.append_nil], by simp, Keep.refl _ _⟩
  case round =>
    obtain ⟨n, l, hn, rfl, rfl, hg, ht, hl, hK⟩ := hrel
    have HG := Lib.hid hg
    have HT := Lib.hid ht
    clear hg ht b0 b1
    by_cases hz : 0 < n
    · have c1 : (0 : Int) < (n : Int) := by omega
      go_wp2
      go_roundg (gk - 1)
      case rel =>
        refine ⟨n / 10, UInt8.ofNat (48 + n % 10) :: l, by omega, by go_num, ?_, by have := HG.out; omega, by rw [txtOf_step hz, HT.out], ?_, hK.alloc _⟩
        · rw [UInt8.ofNat_add]
          exact congrArg Value.string (bytes_app [48 + UInt8.ofNat (n % 10)] l)
        · have := txtOf_len (n / 10) (UInt8.ofNat (48 + n % 10) :: l)
          rw [txtOf_step hz, HT.out] at this
          omega
      case measure => have := HG.out; omega
    · have HZ := Lib.hid (show n = 0 by omega)
      go_wp2
      go_ret
      have e : l = Lib.decDigits k := by have := HT.out; rw [HZ.out] at this; exact this
      exact ⟨congrArg (fun s => Ending.returned (.string s)) (by rw [e]; exact bytes_app [109] _), hK⟩
theorem markText_int (n : Int) (k : Nat) (w : World) (hn : n = k) (h0 : 1 ≤ k) (h1 : k ≤ 9223372036854775807) : Calls Tryd.prog 75 #[.int .i64 n] w fun e w' => e = .returned (.string (mtx k)) ∧ Keep Any w w' := by
  subst hn; exact markText_calls k w h0 h1
theorem svs_lens {w : World} {ok : Nat → Prop} {a : Option Addr} {n c : Nat} {l : List V} (h : SVs w ok (.slice a n c) l) {j : Nat} {x : V} (hx : l[j]? = some x) :
    ∃ (b : Nat) (T : TypeId) (cur : Array Value) (gj : Nat → Prop) (a' : Option Addr) (c' : Nat), a = some ⟨b, 0, none⟩ ∧ ok b ∧ (∀ k, gj k → ok k ∧ k ≠ b) ∧ w.heap[b]? = some (.cells cur T (0, 0)) ∧ j * 4 + 4 ≤ cur.size ∧
      cur[j * 4]? = some (.int .i64 x.kind) ∧ cur[j * 4 + 1]? = some (.int .i64 x.num) ∧ cur[j * 4 + 2]? = some (.string x.text) ∧ cur[j * 4 + 3]? = some (.slice a' x.list.length c') ∧ SVs w gj (.slice a' x.list.length c') x.list ∧
      ∀ (w' : World) (cur' : Array Value) (y : V), w'.heap[b]? = some (.cells cur' T (0, 0)) → (∀ i, i < j * 4 ∨ j * 4 + 4 ≤ i → cur'[i]? = cur[i]?) → cur'[j * 4]? = some (.int .i64 y.kind) → cur'[j * 4 + 1]? = some (.int .i64 y.num) → cur'[j * 4 + 2]? = some (.string y.text) → cur'[j * 4 + 3]? = some (.slice a' y.list.length c') →
        I64 y.kind → I64 y.num → Fits y.text → SVs w' gj (.slice a' y.list.length c') y.list → Keep (fun k => k ≠ b ∧ ¬ gj k) w w' → SVs w' ok (.slice a n c) (l.set j y) := by
  obtain ⟨b, T, cur, gj, cs, h1, h2, h3, h4, h5, h6, h7, h8⟩ := SSl.lens (R := SV) (fun h k => h.keep k) h hx
  obtain ⟨s, rfl, k1, k2, k3, k4⟩ := SV.iff.1 h5
  obtain ⟨a', c', rfl, k5⟩ := k4
  have h9 := h7 3 _ rfl
  refine ⟨b, T, cur, gj, a', c', h1, h2, h3, h4, by have := (Array.getElem?_eq_some_iff.1 h9).1; omega, h7 0 _ rfl, h7 1 _ rfl, h7 2 _ rfl, h9, ⟨a', c', rfl, k5⟩, fun w' cur' y m1 m2 m3 m4 m5 m6 m7 m8 m9 m10 m11 => ?_⟩
  refine h8 w' cur' y [.int .i64 y.kind, .int .i64 y.num, .string y.text, .slice a' y.list.length c'] m1 m2 (SV.iff.2 ⟨_, rfl, m7, m8, m9, m10⟩) rfl (fun i u hu => ?_) m11
  rcases i with _ | _ | _ | _ | i
  · cases hu; exact m3
  · cases hu; exact m4
  · cases hu; exact m5
  · cases hu; exact m6
  · cases hu
abbrev Not' (ok : Nat → Prop) (k : Nat) : Prop := ¬ ok k
/-- marked from k on; where the next begins -/
def MarkVs (l : List V) : Prop := ∀ (s : Value) (n : Int) (k : Nat) (w : World) (ok : Nat → Prop), n = k → SVs w ok s l → (∀ i, ok i → i < w.heap.size) → 1 ≤ k → k + 3 * V.ws l ≤ 4611686018427387904 →
  Calls Tryd.prog 76 #[s, .int .i64 n] w fun e w' => e = .returned (.int .i64 (k + 3 * V.ws l : Nat)) ∧ SVs w' ok s (V.mks k l) ∧ Keep (Not' ok) w w'
theorem set3 {cur : Array Value} {o : Nat} {u v x : Value} (h : o + 4 ≤ cur.size) : (∀ i, i < o ∨ o + 4 ≤ i → (((cur.setIfInBounds o u).setIfInBounds (o + 1) v).setIfInBounds (o + 2) x)[i]? = cur[i]?) ∧
    (((cur.setIfInBounds o u).setIfInBounds (o + 1) v).setIfInBounds (o + 2) x)[o]? = some u ∧ (((cur.setIfInBounds o u).setIfInBounds (o + 1) v).setIfInBounds (o + 2) x)[o + 1]? = some v ∧
    (((cur.setIfInBounds o u).setIfInBounds (o + 1) v).setIfInBounds (o + 2) x)[o + 2]? = some x ∧ (((cur.setIfInBounds o u).setIfInBounds (o + 1) v).setIfInBounds (o + 2) x)[o + 3]? = cur[o + 3]? := by
  refine ⟨fun i hi => ?_, ?_, ?_, ?_, ?_⟩
  · rw [Array.getElem?_setIfInBounds_ne (by omega), Array.getElem?_setIfInBounds_ne (by omega), Array.getElem?_setIfInBounds_ne (by omega)]
  · rw [Array.getElem?_setIfInBounds_ne (by omega), Array.getElem?_setIfInBounds_ne (by omega)]
    exact Array.getElem?_setIfInBounds_self_of_lt (by omega)
  · rw [Array.getElem?_setIfInBounds_ne (by omega)]
    exact Array.getElem?_setIfInBounds_self_of_lt (by simp; omega)
  · exact Array.getElem?_setIfInBounds_self_of_lt (by simp; omega)
  · rw [Array.getElem?_setIfInBounds_ne (by omega), Array.getElem?_setIfInBounds_ne (by omega), Array.getElem?_setIfInBounds_ne (by omega)]
theorem set2 {cur : Array Value} {o : Nat} {u v : Value} (i : Nat) (hi : i ≠ o ∧ i ≠ o + 1) : ((cur.setIfInBounds o u).setIfInBounds (o + 1) v)[i]? = cur[i]? := by
  rw [Array.getElem?_setIfInBounds_ne (by omega), Array.getElem?_setIfInBounds_ne (by omega)]
set_option maxHeartbeats 2000000 in
set_option maxRecDepth 20000 in
theorem markVs_of (l : List V) (ih : ∀ x, x ∈ l → MarkVs x.list) : MarkVs l := by
  intro s n k w ok hn hs hok hk hb
  have IH := Lib.hid ih
  have HS0 := Lib.hid hs
  have MT := Lib.hid markText_int
  have HOK := Lib.hid hok
  subst hn
  clear ih hok
  obtain ⟨a, c, rfl, hc, hm, _⟩ := hs
  go_enter Tryd.func76, Tryd.ntmps76
  go_wp2
  go_loopg [1, 5] (l.length + 1) (fun g x y wr => ∃ j : Nat, j ≤ l.length ∧ x = .int .i64 (k + 3 * V.ws (l.take j) : Nat) ∧ y = .int .i64 j ∧ g = l.length + 1 - j ∧ SVs wr ok (.slice a l.length c) (V.upto k l j) ∧ Keep (Not' ok) w wr)
  case atStart => exact ⟨0, by omega, by simp [V.ws], rfl, rfl, by rw [V.upto_zero]; exact HS0.out, Keep.refl _ _⟩
  case round =>
    obtain ⟨j, hj, rfl, rfl, hg, hS, hK⟩ := hrel
    have HG := Lib.hid hg
    have HS := Lib.hid hS
    have HK := Lib.hid hK
    clear hg hS hK
    obtain ⟨q, hq⟩ : ∃ q, k + 3 * V.ws (l.take j) = q := ⟨_, rfl⟩
    have HQ := Lib.hid hq
    have hqb : q ≤ 4611686018427387904 := by have := V.ws_take_le l j; omega
    have hq1 : 1 ≤ q := by omega
    rw [hq]
    clear hq
    by_cases hlt : j < l.length
    · have hx : l[j]? = some l[j] := List.getElem?_eq_getElem hlt
      have HX := Lib.hid hx
      obtain ⟨b, T, cur, gj, a', c', rfl, hob, hsub, hblk, hsz, hc0, hc1, hc2, hc3, hsv, hlens⟩ := svs_lens HS.out (V.upto_at hx)
      have HW := Lib.hid (V.ws_take_succ hx)
      have hwle := V.ws_take_le l (j + 1)
      have hxw := V.w_eq l[j]
      have IX := Lib.hid (IH.out l[j] (List.mem_of_getElem? hx))
      have hqx : q + 3 * l[j].w ≤ 4611686018427387904 := by have := HW.out; have := HQ.out; omega
      have HXW := Lib.hid hxw
      have hqx2 : q + 3 + 3 * V.ws l[j].list ≤ 4611686018427387904 := by omega
      clear hxw hx
      generalize l[j] = x at *
      have HB := Lib.hid hblk
      have HSV := Lib.hid hsv
      have HL := Lib.hid hlens
      have HSUB := Lib.hid hsub
      have HC2 := Lib.hid hc2
      have HC3 := Lib.hid hc3
      have y0 : wr.cell? ⟨b, j * 4, none⟩ = some (.int .i64 x.kind) := (blk_cell hblk _).trans hc0
      have y1 : wr.cell? ⟨b, j * 4 + 1, none⟩ = some (.int .i64 x.num) := (blk_cell hblk _).trans hc1
      have f0 := blk_frozen hblk (j * 4)
      have f1 := blk_frozen hblk (j * 4 + 1)
      have zb := blk_lt hblk
      clear hblk hsv hlens hsub hc0 hc1 hc2 hc3
      go_wp2_with (first | (go_at_call 75; refine (MT.out _ (q + 2) _ (by omega) (by omega) (by omega)).mono ?_; rintro e w2 ⟨rfl, hK2⟩; have HK2 := Lib.hid hK2; have HB2 := Lib.hid (blk_keep hK2 (blk_set (blk_set HB.out (j * 4) _) (j * 4 + 1) _) trivial); have y2 : w2.cell? ⟨b, j * 4 + 2, none⟩ = some (.string x.text) := (blk_cell HB2.out _).trans ((set2 _ (by omega)).trans HC2.out); have y3 : w2.cell? ⟨b, j * 4 + 3, none⟩ = some (.slice a' x.list.length c') := (blk_cell HB2.out _).trans ((set2 _ (by omega)).trans HC3.out); have f2 := blk_frozen HB2.out (j * 4 + 2); have zb2 := blk_lt HB2.out; clear hK2 y0 y1 f0 f1) | (go_at_call 76; refine (IX.out _ _ (q + 3) _ gj (by omega) (SVs.keep HSV.out (((((Keep.refl _ _).set _ _ (fun _ h => (HSUB.out _ h).2 rfl)).set _ _ (fun _ h => (HSUB.out _ h).2 rfl)).trans HK2.out.any).set _ _ (fun _ h => (HSUB.out _ h).2 rfl))) (fun i hi => by have h1 := HOK.out i (HSUB.out i hi).1; have h2 := HK.out.size; have h3 := HK2.out.size; simp at h3 ⊢; omega) (by omega) hqx2).mono ?_; rintro e w3 ⟨rfl, hS3, hK3⟩; have HS3 := Lib.hid hS3; have HK3 := Lib.hid hK3; have HB3 := Lib.hid (blk_keep hK3 (blk_set HB2.out (j * 4 + 2) _) (fun h => (HSUB.out b h).2 rfl)); clear hS3 hK3))
      have s3 := set3 (u := .int .i64 q) (v := .int .i64 ((q : Int) + 1)) (x := .string (mtx (q + 2))) hsz
      have S3 := Lib.hid s3
      have KW := Lib.hid (show Keep (fun k => k ≠ b ∧ ¬ gj k) wr w3 from (((((Keep.refl _ _).set _ _ (fun _ h => h.1 rfl)).set _ _ (fun _ h => h.1 rfl)).trans HK2.out.any).set _ _ (fun _ h => h.1 rfl)).trans (HK3.out.mono fun _ _ h => h.2))
      clear s3 y2 y3 f2
      go_roundg (gk - 1)
      case rel =>
        refine ⟨j + 1, by omega, ?_, by go_num, by have := HG.out; omega, ?_, HK.out.then KW.out fun i _ hi => ⟨fun e => hi (e ▸ hob), fun h => hi (HSUB.out i h).1⟩⟩
        · refine congrArg (Value.int .i64) ?_
          have h1 := HW.out
          have h2 := HQ.out
          have h3 := HXW.out
          push_cast
          omega
        · rw [← V.upto_set HX.out, HQ.out, V.mk_eq]
          refine HL.out w3 _ ⟨q, ((q + 1 : Nat) : Int), mtx (q + 2), V.mks (q + 3) x.list⟩ HB3.out S3.out.1 S3.out.2.1 (S3.out.2.2.1.trans (by go_num)) S3.out.2.2.2.1 (S3.out.2.2.2.2.trans (by rw [HC3.out]; simp only [V.mks_len])) ⟨by show (-9223372036854775808 : Int) ≤ (q : Int); omega, by show (q : Int) ≤ 9223372036854775807; omega⟩ ⟨by show (-9223372036854775808 : Int) ≤ ((q + 1 : Nat) : Int); omega, by show ((q + 1 : Nat) : Int) ≤ 9223372036854775807; omega⟩ (mtx_fits _ (by omega)) (by simp only [V.mks_len]; exact HS3.out) KW.out
      case measure => have := HG.out; omega
    · have HJ := Lib.hid (show j = l.length by omega)
      go_wp2
      go_ret
      exact ⟨ret_int (by have := HQ.out; rw [HJ.out, List.take_length] at this; omega), by have := HS.out; rw [HJ.out, V.upto_all] at this; exact this, HK.out⟩
end Go.Proofs.YtjgnnobfaphkeaaDoor

/- Marks read again: each place holds what was written. -/
namespace Go.Proofs.YtjgnnobfaphkeaaDoor
open Go.RowKit
set_option linter.unusedVariables false
set_option linter.unusedSimpArgs false
theorem markVs_all (n : Nat) : ∀ l, V.ws l = n → MarkVs l := by
  induction n using Nat.strongRecOn with
  | _ n ih =>
    intro l hl
    refine markVs_of l fun x hx => ih (V.ws x.list) ?_ x.list rfl
    obtain ⟨j, hj, rfl⟩ := List.getElem_of_mem hx
    have := V.ws_get (List.getElem?_eq_getElem hj)
    have := V.w_eq l[j]
    omega
theorem markVs_calls (l : List V) : MarkVs l := markVs_all _ l rfl
/-- what was marked from k on is held -/
def HeldVs (l : List V) : Prop := ∀ (s : Value) (n : Int) (k : Nat) (w : World), n = k → Vals w Any s (V.mks k l) → 1 ≤ k → k + 3 * V.ws l ≤ 4611686018427387904 →
  Calls Tryd.prog 77 #[s, .int .i64 n] w (Num (k + 3 * V.ws l : Nat) w)
set_option maxHeartbeats 2000000 in
set_option maxRecDepth 20000 in
theorem heldVs_of (l : List V) (ih : ∀ x, x ∈ l → HeldVs x.list) : HeldVs l := by
  intro s n k w hn hs hk hb
  have IH := Lib.hid ih
  have HS := Lib.hid hs
  have MT := Lib.hid markText_int
  subst hn
  clear ih
  obtain ⟨ad, c, rfl, hc, hm, _⟩ := hs
  rw [V.mks_len] at *
  go_enter Tryd.func77, Tryd.ntmps77
  go_wp2
  go_loopg [1, 5] (l.length + 1) (fun g x y wr => ∃ j : Nat, j ≤ l.length ∧ x = .int .i64 (k + 3 * V.ws (l.take j) : Nat) ∧ y = .int .i64 j ∧ g = l.length + 1 - j ∧ Keep Any w wr)
  case atStart => exact ⟨0, by omega, by simp [V.ws], rfl, rfl, Keep.refl _ _⟩
  case round =>
    obtain ⟨j, hj, rfl, rfl, hg, hK⟩ := hrel
    have HG := Lib.hid hg
    have HK := Lib.hid hK
    clear hg hK
    obtain ⟨q, hq⟩ : ∃ q, k + 3 * V.ws (l.take j) = q := ⟨_, rfl⟩
    have HQ := Lib.hid hq
    have hqb : q ≤ 4611686018427387904 := by have := V.ws_take_le l j; omega
    have hq1 : 1 ≤ q := by omega
    rw [hq]
    clear hq
    by_cases hlt : j < l.length
    · have hx : l[j]? = some l[j] := List.getElem?_eq_getElem hlt
      have HX := Lib.hid hx
      have hmx := V.mks_at (k := k) hx
      rw [HQ.out, V.mk_eq] at hmx
      obtain ⟨ad, sa, sc, rfl, hvx, c0, c1, c2, c3⟩ := vals_at HS.out HK.out hmx
      have HW := Lib.hid (V.ws_take_succ hx)
      have hwle := V.ws_take_le l (j + 1)
      have hxw := V.w_eq l[j]
      have IX := Lib.hid (IH.out l[j] (List.mem_of_getElem? hx))
      have hqx : q + 3 * l[j].w ≤ 4611686018427387904 := by have := HW.out; have := HQ.out; omega
      have HXW := Lib.hid hxw
      have hqx2 : q + 3 + 3 * V.ws l[j].list ≤ 4611686018427387904 := by omega
      clear hxw hx hmx
      generalize l[j] = x at *
      obtain ⟨vs, ve, _, _, _, hvl⟩ := VR.iff.1 hvx
      simp only [V.mks_len, List.cons.injEq, and_true, true_and] at c3 hvx c1 ve
      subst ve
      rw [show ((q + 1 : Nat) : Int) = (q : Int) + 1 by omega] at c1
      have HVL := Lib.hid hvl
      clear hvx hvl
      have e0 : ((q : Int) != (q : Int)) = false := by simp
      have e1 : ((q : Int) + 1 != (q : Int) + 1) = false := by simp
      have e2 : ((mtx (q + 2)).toList != (mtx (q + 2)).toList) = false := by simp
      have C2 := Lib.hid c2
      have C3 := Lib.hid c3
      go_wp2
      go_region_with (go_at_call 75; refine (MT.out _ (q + 2) _ (by omega) (by omega) (by omega)).mono ?_; rintro e w2 ⟨rfl, hK2⟩; have c2' := hK2.cell (p := ⟨(ad.add (j * 4)).block, (ad.add (j * 4)).off + 2, none⟩) C2.out trivial; have c3' := hK2.cell (p := ⟨(ad.add (j * 4)).block, (ad.add (j * 4)).off + 3, none⟩) C3.out trivial; have HK2 := Lib.hid hK2; clear hK2)
      all_goals
        go_wp2_with (go_at_call 77; refine (IX.out _ _ (q + 3) _ (by omega) (Vals.keep HVL.out ((Keep.refl Any wr).drew.trans HK2.out)) (by omega) hqx2).mono ?_; rintro e w3 ⟨rfl, hK3⟩; have HK3 := Lib.hid hK3; clear hK3)
        go_roundg (gk - 1)
        case rel =>
          refine ⟨j + 1, by omega, ?_, by go_num, by have := HG.out; omega, HK.out.trans (((Keep.refl Any wr).drew.trans HK2.out).trans HK3.out)⟩
          refine congrArg (Value.int .i64) ?_
          have h1 := HW.out
          have h2 := HQ.out
          have h3 := HXW.out
          push_cast
          omega
        case measure => have := HG.out; omega
    · have HJ := Lib.hid (show j = l.length by omega)
      go_wp2
      go_ret
      exact ⟨ret_int (by have := HQ.out; rw [HJ.out, List.take_length] at this; omega), HK.out⟩
theorem heldVs_all (n : Nat) : ∀ l, V.ws l = n → HeldVs l := by
  induction n using Nat.strongRecOn with
  | _ n ih =>
    intro l hl
    refine heldVs_of l fun x hx => ih (V.ws x.list) ?_ x.list rfl
    obtain ⟨j, hj, rfl⟩ := List.getElem_of_mem hx
    have := V.ws_get (List.getElem?_eq_getElem hj)
    have := V.w_eq l[j]
    omega
theorem heldVs_calls (l : List V) : HeldVs l := heldVs_all _ l rfl
end Go.Proofs.YtjgnnobfaphkeaaDoor

/- Marks in cells (a name and a value) and in what is said, written and read again. -/
namespace Go.Proofs.YtjgnnobfaphkeaaDoor
open Go.RowKit
set_option linter.unusedVariables false
set_option linter.unusedSimpArgs false
theorem sces_lens {w : World} {ok : Nat → Prop} {a : Option Addr} {n c : Nat} {l : List Ce} (h : SCes w ok (.slice a n c) l) {j : Nat} {x : Ce} (hx : l[j]? = some x) :
    ∃ (b : Nat) (T : TypeId) (cur : Array Value) (gj : Nat → Prop) (a' : Option Addr) (c' : Nat), a = some ⟨b, 0, none⟩ ∧ ok b ∧ (∀ k, gj k → ok k ∧ k ≠ b) ∧ w.heap[b]? = some (.cells cur T (0, 0)) ∧ j * 5 + 5 ≤ cur.size ∧
      cur[j * 5]? = some (.string x.name) ∧ cur[j * 5 + 1]? = some (.int .i64 x.val.kind) ∧ cur[j * 5 + 2]? = some (.int .i64 x.val.num) ∧ cur[j * 5 + 3]? = some (.string x.val.text) ∧ cur[j * 5 + 4]? = some (.slice a' x.val.list.length c') ∧ SVs w gj (.slice a' x.val.list.length c') x.val.list ∧
      ∀ (w' : World) (cur' : Array Value) (y : Ce), w'.heap[b]? = some (.cells cur' T (0, 0)) → (∀ i, i < j * 5 ∨ j * 5 + 5 ≤ i → cur'[i]? = cur[i]?) → cur'[j * 5]? = some (.string y.name) → cur'[j * 5 + 1]? = some (.int .i64 y.val.kind) → cur'[j * 5 + 2]? = some (.int .i64 y.val.num) → cur'[j * 5 + 3]? = some (.string y.val.text) → cur'[j * 5 + 4]? = some (.slice a' y.val.list.length c') →
        Fits y.name → I64 y.val.kind → I64 y.val.num → Fits y.val.text → SVs w' gj (.slice a' y.val.list.length c') y.val.list → Keep (fun k => k ≠ b ∧ ¬ gj k) w w' → SCes w' ok (.slice a n c) (l.set j y) := by
  obtain ⟨b, T, cur, gj, cs, h1, h2, h3, h4, h5, h6, h7, h8⟩ := SSl.lens (R := SCe) (fun h k => h.keep k) h hx
  obtain ⟨d, rfl, k0, hv⟩ := h5
  obtain ⟨s, rfl, k1, k2, k3, k4⟩ := SV.iff.1 hv
  obtain ⟨a', c', rfl, k5⟩ := k4
  have h9 := h7 4 _ rfl
  refine ⟨b, T, cur, gj, a', c', h1, h2, h3, h4, by have := (Array.getElem?_eq_some_iff.1 h9).1; omega, h7 0 _ rfl, h7 1 _ rfl, h7 2 _ rfl, h7 3 _ rfl, h9, ⟨a', c', rfl, k5⟩, fun w' cur' y m1 m2 m0 m3 m4 m5 m6 mf m7 m8 m9 m10 m11 => ?_⟩
  refine h8 w' cur' y [.string y.name, .int .i64 y.val.kind, .int .i64 y.val.num, .string y.val.text, .slice a' y.val.list.length c'] m1 m2 ⟨_, rfl, mf, SV.iff.2 ⟨_, rfl, m7, m8, m9, m10⟩⟩ rfl (fun i u hu => ?_) m11
  rcases i with _ | _ | _ | _ | _ | i
  · cases hu; exact m0
  · cases hu; exact m3
  · cases hu; exact m4
  · cases hu; exact m5
  · cases hu; exact m6
  · cases hu
theorem set4 {cur : Array Value} {o : Nat} {t u v x : Value} (h : o + 5 ≤ cur.size) : (∀ i, i < o ∨ o + 5 ≤ i → ((((cur.setIfInBounds o t).setIfInBounds (o + 1) u).setIfInBounds (o + 2) v).setIfInBounds (o + 3) x)[i]? = cur[i]?) ∧
    ((((cur.setIfInBounds o t).setIfInBounds (o + 1) u).setIfInBounds (o + 2) v).setIfInBounds (o + 3) x)[o]? = some t ∧ ((((cur.setIfInBounds o t).setIfInBounds (o + 1) u).setIfInBounds (o + 2) v).setIfInBounds (o + 3) x)[o + 1]? = some u ∧
    ((((cur.setIfInBounds o t).setIfInBounds (o + 1) u).setIfInBounds (o + 2) v).setIfInBounds (o + 3) x)[o + 2]? = some v ∧ ((((cur.setIfInBounds o t).setIfInBounds (o + 1) u).setIfInBounds (o + 2) v).setIfInBounds (o + 3) x)[o + 3]? = some x ∧
    ((((cur.setIfInBounds o t).setIfInBounds (o + 1) u).setIfInBounds (o + 2) v).setIfInBounds (o + 3) x)[o + 4]? = cur[o + 4]? := by
  refine ⟨fun i hi => ?_, ?_, ?_, ?_, ?_, ?_⟩
  · rw [Array.getElem?_setIfInBounds_ne (by omega), Array.getElem?_setIfInBounds_ne (by omega), Array.getElem?_setIfInBounds_ne (by omega), Array.getElem?_setIfInBounds_ne (by omega)]
  · rw [Array.getElem?_setIfInBounds_ne (by omega), Array.getElem?_setIfInBounds_ne (by omega), Array.getElem?_setIfInBounds_ne (by omega)]
    exact Array.getElem?_setIfInBounds_self_of_lt (by omega)
  · rw [Array.getElem?_setIfInBounds_ne (by omega), Array.getElem?_setIfInBounds_ne (by omega)]
    exact Array.getElem?_setIfInBounds_self_of_lt (by simp; omega)
  · rw [Array.getElem?_setIfInBounds_ne (by omega)]
    exact Array.getElem?_setIfInBounds_self_of_lt (by simp; omega)
  · exact Array.getElem?_setIfInBounds_self_of_lt (by simp; omega)
  · rw [Array.getElem?_setIfInBounds_ne (by omega), Array.getElem?_setIfInBounds_ne (by omega), Array.getElem?_setIfInBounds_ne (by omega), Array.getElem?_setIfInBounds_ne (by omega)]
theorem set3' {cur : Array Value} {o : Nat} {t u v : Value} (i : Nat) (hi : i ≠ o ∧ i ≠ o + 1 ∧ i ≠ o + 2) : (((cur.setIfInBounds o t).setIfInBounds (o + 1) u).setIfInBounds (o + 2) v)[i]? = cur[i]? := by
  rw [Array.getElem?_setIfInBounds_ne (by omega), Array.getElem?_setIfInBounds_ne (by omega), Array.getElem?_setIfInBounds_ne (by omega)]
set_option maxHeartbeats 4000000 in
set_option maxRecDepth 20000 in
theorem markCes_calls (l : List Ce) (s : Value) (n : Int) (k : Nat) (w : World) (ok : Nat → Prop) (hn : n = k) (hs : SCes w ok s l) (hok : ∀ i, ok i → i < w.heap.size) (hk : 1 ≤ k) (hb : k + Ce.ws l ≤ 4611686018427387904) :
    Calls Tryd.prog 51 #[s, .int .i64 n] w fun e w' => e = .returned (.int .i64 (k + Ce.ws l : Nat)) ∧ SCes w' ok s (Ce.mks k l) ∧ Keep (Not' ok) w w' := by
  have HS0 := Lib.hid hs
  have MT := Lib.hid markText_int
  have HOK := Lib.hid hok
  subst hn
  clear hok
  obtain ⟨a, c, rfl, hc, hm, _⟩ := hs
  go_enter Tryd.func51, Tryd.ntmps51
  go_wp2
  go_loopg [1, 5] (l.length + 1) (fun g x y wr => ∃ j : Nat, j ≤ l.length ∧ x = .int .i64 (k + Ce.ws (l.take j) : Nat) ∧ y = .int .i64 j ∧ g = l.length + 1 - j ∧ SCes wr ok (.slice a l.length c) (Ce.upto k l j) ∧ Keep (Not' ok) w wr)
  case atStart => exact ⟨0, by omega, by simp [Ce.ws], rfl, rfl, by rw [Ce.upto_zero]; exact HS0.out, Keep.refl _ _⟩
  case round =>
    obtain ⟨j, hj, rfl, rfl, hg, hS, hK⟩ := hrel
    have HG := Lib.hid hg
    have HS := Lib.hid hS
    have HK := Lib.hid hK
    clear hg hS hK
    obtain ⟨q, hq⟩ : ∃ q, k + Ce.ws (l.take j) = q := ⟨_, rfl⟩
    have HQ := Lib.hid hq
    have hqb : q ≤ 4611686018427387904 := by have := Ce.ws_take_le l j; omega
    have hq1 : 1 ≤ q := by omega
    rw [hq]
    clear hq
    by_cases hlt : j < l.length
    · have hx : l[j]? = some l[j] := List.getElem?_eq_getElem hlt
      have HX := Lib.hid hx
      obtain ⟨b, T, cur, gj, a', c', rfl, hob, hsub, hblk, hsz, hc0, hc1, hc2, hc3, hc4, hsv, hlens⟩ := sces_lens HS.out (Ce.upto_at hx)
      have HW := Lib.hid (Ce.ws_take_succ hx)
      have hwle := Ce.ws_take_le l (j + 1)
      have hxw : l[j].w = 3 * V.ws l[j].val.list + 4 := by rw [Ce.w, V.w_eq]; omega
      have IX := Lib.hid (markVs_calls l[j].val.list)
      have hqx : q + l[j].w ≤ 4611686018427387904 := by have := HW.out; have := HQ.out; omega
      have HXW := Lib.hid hxw
      have hqx2 : q + 4 + 3 * V.ws l[j].val.list ≤ 4611686018427387904 := by omega
      clear hxw hx
      generalize l[j] = x at *
      have HB := Lib.hid hblk
      have HSV := Lib.hid hsv
      have HL := Lib.hid hlens
      have HSUB := Lib.hid hsub
      have HC0 := Lib.hid hc0
      have HC1 := Lib.hid hc1
      have HC2 := Lib.hid hc2
      have HC3 := Lib.hid hc3
      have HC4 := Lib.hid hc4
      have zb := blk_lt hblk
      clear hblk hsv hlens hsub hc0 hc1 hc2 hc3 hc4
      go_wp2_with fail
      refine (MT.out _ q _ (by omega) (by omega) (by omega)).mono ?_
      rintro e w1 ⟨rfl, hK1⟩
      have HK1 := Lib.hid hK1
      have HB1 := Lib.hid (blk_keep hK1 HB.out trivial)
      have y0 : w1.cell? ⟨b, j * 5, none⟩ = some (.string x.name) := (blk_cell HB1.out _).trans HC0.out
      have y1 : w1.cell? ⟨b, j * 5 + 1, none⟩ = some (.int .i64 x.val.kind) := (blk_cell HB1.out _).trans HC1.out
      have y2 : w1.cell? ⟨b, j * 5 + 2, none⟩ = some (.int .i64 x.val.num) := (blk_cell HB1.out _).trans HC2.out
      have f0 := blk_frozen HB1.out (j * 5)
      have f1 := blk_frozen HB1.out (j * 5 + 1)
      have f2 := blk_frozen HB1.out (j * 5 + 2)
      have zb1 := blk_lt HB1.out
      clear hK1
      go_wp2_with fail
      refine (MT.out _ (q + 3) _ (by omega) (by omega) (by omega)).mono ?_
      rintro e w2 ⟨rfl, hK2⟩
      have HK2 := Lib.hid hK2
      have HB2 := Lib.hid (blk_keep hK2 (blk_set (blk_set (blk_set HB1.out (j * 5) _) (j * 5 + 1) _) (j * 5 + 2) _) trivial)
      have y3 : w2.cell? ⟨b, j * 5 + 3, none⟩ = some (.string x.val.text) := (blk_cell HB2.out _).trans ((set3' _ (by omega)).trans HC3.out)
      have y4 : w2.cell? ⟨b, j * 5 + 4, none⟩ = some (.slice a' x.val.list.length c') := (blk_cell HB2.out _).trans ((set3' _ (by omega)).trans HC4.out)
      have f3 := blk_frozen HB2.out (j * 5 + 3)
      have zb2 := blk_lt HB2.out
      clear hK2 y0 y1 y2 f0 f1 f2
      have KG := Lib.hid (show Keep gj wr w2 from ((((HK1.out.any).set _ _ (fun _ h => (HSUB.out _ h).2 rfl)).set _ _ (fun _ h => (HSUB.out _ h).2 rfl)).set _ _ (fun _ h => (HSUB.out _ h).2 rfl)).trans HK2.out.any)
      have KN := Lib.hid (show Keep (fun k => k ≠ b ∧ ¬ gj k) wr w2 from ((((HK1.out.any).set _ _ (fun _ h => h.1 rfl)).set _ _ (fun _ h => h.1 rfl)).set _ _ (fun _ h => h.1 rfl)).trans HK2.out.any)
      go_wp2_with fail
      refine (IX.out _ _ (q + 4) _ gj (by omega) (SVs.keep HSV.out (KG.out.set _ _ (fun _ h => (HSUB.out _ h).2 rfl))) (fun i hi => by have h1 := HOK.out i (HSUB.out i hi).1; have h2 := HK.out.size; have h3 := KG.out.size; simp; omega) (by omega) hqx2).mono ?_
      rintro e w3 ⟨rfl, hS3, hK3⟩
      have HS3 := Lib.hid hS3
      have HB3 := Lib.hid (blk_keep hK3 (blk_set HB2.out (j * 5 + 3) _) (fun h => (HSUB.out b h).2 rfl))
      have KW := Lib.hid (show Keep (fun k => k ≠ b ∧ ¬ gj k) wr w3 from (KN.out.set _ _ (fun _ h => h.1 rfl)).trans (hK3.mono fun _ _ h => h.2))
      have s4 := set4 (t := .string (mtx q)) (u := .int .i64 ((q : Int) + 1)) (v := .int .i64 ((q : Int) + 1 + 1)) (x := .string (mtx (q + 3))) hsz
      have S4 := Lib.hid s4
      clear s4 y3 y4 f3 hS3 hK3
      go_wp2
      go_roundg (gk - 1)
      case rel =>
        refine ⟨j + 1, by omega, ?_, by go_num, by have := HG.out; omega, ?_, HK.out.then KW.out fun i _ hi => ⟨fun e => hi (e ▸ hob), fun h => hi (HSUB.out i h).1⟩⟩
        · refine congrArg (Value.int .i64) ?_
          have h1 := HW.out
          have h2 := HQ.out
          have h3 := HXW.out
          push_cast
          omega
        · rw [← Ce.upto_set HX.out, HQ.out, Ce.mk', V.mk_eq]
          refine HL.out w3 _ ⟨mtx q, ⟨((q + 1 : Nat) : Int), ((q + 1 + 1 : Nat) : Int), mtx (q + 1 + 2), V.mks (q + 1 + 3) x.val.list⟩⟩ HB3.out S4.out.1 S4.out.2.1 (S4.out.2.2.1.trans (by go_num)) (S4.out.2.2.2.1.trans (by go_num)) S4.out.2.2.2.2.1 (S4.out.2.2.2.2.2.trans (by rw [HC4.out]; simp only [V.mks_len])) (mtx_fits _ (by omega)) ⟨by show (-9223372036854775808 : Int) ≤ ((q + 1 : Nat) : Int); omega, by show ((q + 1 : Nat) : Int) ≤ 9223372036854775807; omega⟩ ⟨by show (-9223372036854775808 : Int) ≤ ((q + 1 + 1 : Nat) : Int); omega, by show ((q + 1 + 1 : Nat) : Int) ≤ 9223372036854775807; omega⟩ (mtx_fits _ (by omega)) (by simp only [V.mks_len]; exact HS3.out) KW.out
      case measure => have := HG.out; omega
    · have HJ := Lib.hid (show j = l.length by omega)
      go_wp2
      go_ret
      exact ⟨ret_int (by have := HQ.out; rw [HJ.out, List.take_length] at this; omega), by have := HS.out; rw [HJ.out, Ce.upto_all] at this; exact this, HK.out⟩
end Go.Proofs.YtjgnnobfaphkeaaDoor

/- Marks in cells and in what is said, read again. -/
namespace Go.Proofs.YtjgnnobfaphkeaaDoor
open Go.RowKit
set_option linter.unusedVariables false
set_option linter.unusedSimpArgs false
set_option maxHeartbeats 4000000 in
set_option maxRecDepth 20000 in
theorem heldCes_calls (l : List Ce) (s : Value) (n : Int) (k : Nat) (w : World) (hn : n = k) (hs : Ces w Any s (Ce.mks k l)) (hk : 1 ≤ k) (hb : k + Ce.ws l ≤ 4611686018427387904) :
    Calls Tryd.prog 52 #[s, .int .i64 n] w (Num (k + Ce.ws l : Nat) w) := by
  have HS := Lib.hid hs
  have MT := Lib.hid markText_int
  subst hn
  obtain ⟨ad, c, rfl, hc, hm, _⟩ := hs
  rw [Ce.mks_len] at *
  go_enter Tryd.func52, Tryd.ntmps52
  go_wp2
  go_loopg [1, 5] (l.length + 1) (fun g x y wr => ∃ j : Nat, j ≤ l.length ∧ x = .int .i64 (k + Ce.ws (l.take j) : Nat) ∧ y = .int .i64 j ∧ g = l.length + 1 - j ∧ Keep Any w wr)
  case atStart => exact ⟨0, by omega, by simp [Ce.ws], rfl, rfl, Keep.refl _ _⟩
  case round =>
    obtain ⟨j, hj, rfl, rfl, hg, hK⟩ := hrel
    have HG := Lib.hid hg
    have HK := Lib.hid hK
    clear hg hK
    obtain ⟨q, hq⟩ : ∃ q, k + Ce.ws (l.take j) = q := ⟨_, rfl⟩
    have HQ := Lib.hid hq
    have hqb : q ≤ 4611686018427387904 := by have := Ce.ws_take_le l j; omega
    have hq1 : 1 ≤ q := by omega
    rw [hq]
    clear hq
    by_cases hlt : j < l.length
    · have hx : l[j]? = some l[j] := List.getElem?_eq_getElem hlt
      have HX := Lib.hid hx
      have hmx := Ce.mks_at (k := k) hx
      rw [HQ.out, Ce.mk', V.mk_eq] at hmx
      obtain ⟨ad, sa, sc, rfl, hnm, hvx, c0, c1, c2, c3, c4⟩ := ces_at HS.out HK.out hmx
      have HW := Lib.hid (Ce.ws_take_succ hx)
      have hwle := Ce.ws_take_le l (j + 1)
      have hxw : l[j].w = 3 * V.ws l[j].val.list + 4 := by rw [Ce.w, V.w_eq]; omega
      have IX := Lib.hid (heldVs_calls l[j].val.list)
      have hqx : q + l[j].w ≤ 4611686018427387904 := by have := HW.out; have := HQ.out; omega
      have HXW := Lib.hid hxw
      have hqx2 : q + 4 + 3 * V.ws l[j].val.list ≤ 4611686018427387904 := by omega
      clear hxw hx hmx
      generalize l[j] = x at *
      obtain ⟨vs, ve, _, _, _, hvl⟩ := VR.iff.1 hvx
      simp only [V.mks_len, List.cons.injEq, and_true, true_and] at c4 hvx c1 c2 ve
      subst ve
      rw [show ((q + 1 : Nat) : Int) = (q : Int) + 1 by omega] at c1
      rw [show ((q + 1 + 1 : Nat) : Int) = (q : Int) + 1 + 1 by omega] at c2
      rw [show q + 1 + 2 = q + 3 by omega] at c3
      have HVL := Lib.hid hvl
      clear hvx hvl
      have e0 : ((mtx q).toList != (mtx q).toList) = false := by simp
      have e1 : ((q : Int) + 1 != (q : Int) + 1) = false := by simp
      have e3 : ((q : Int) + 1 + 1 != (q : Int) + 1 + 1) = false := by simp
      have e2 : ((mtx (q + 3)).toList != (mtx (q + 3)).toList) = false := by simp
      have o0 : ad.block < wr.heap.size := by have := World.block_lt_of_cell? wr _ c0; rwa [add_block] at this
      have kr : Keep Any wr wr.drew := (Keep.refl _ _).drew
      have SK := Lib.hid (fun w' (h : Keep Any wr w') => (⟨h, h.cell c0 trivial, h.cell c1 trivial, h.cell c2 trivial, h.cell c3 trivial, h.cell c4 trivial⟩ : Keep Any wr w' ∧ w'.cell? (ad.add (j * 5)) = some (.string (mtx q)) ∧ w'.cell? ⟨(ad.add (j * 5)).block, (ad.add (j * 5)).off + 1, none⟩ = some (.int .i64 ((q : Int) + 1)) ∧ w'.cell? ⟨(ad.add (j * 5)).block, (ad.add (j * 5)).off + 2, none⟩ = some (.int .i64 ((q : Int) + 1 + 1)) ∧
        w'.cell? ⟨(ad.add (j * 5)).block, (ad.add (j * 5)).off + 3, none⟩ = some (.string (mtx (q + 3))) ∧ w'.cell? ⟨(ad.add (j * 5)).block, (ad.add (j * 5)).off + 4, none⟩ = some (.slice sa x.val.list.length sc)))
      go_wp2
      go_region_held3 (fun w' => Keep Any wr w' ∧ w'.cell? (ad.add (j * 5)) = some (.string (mtx q)) ∧ w'.cell? ⟨(ad.add (j * 5)).block, (ad.add (j * 5)).off + 1, none⟩ = some (.int .i64 ((q : Int) + 1)) ∧ w'.cell? ⟨(ad.add (j * 5)).block, (ad.add (j * 5)).off + 2, none⟩ = some (.int .i64 ((q : Int) + 1 + 1)) ∧
        w'.cell? ⟨(ad.add (j * 5)).block, (ad.add (j * 5)).off + 3, none⟩ = some (.string (mtx (q + 3))) ∧ w'.cell? ⟨(ad.add (j * 5)).block, (ad.add (j * 5)).off + 4, none⟩ = some (.slice sa x.val.list.length sc))
        (first | (go_split_ands; exact SK.out _ (Keep.trans (by first | assumption | exact Keep.drew (by assumption)) hK5)) | go_keep)
        ((go_at_call 75; refine (MT.out _ q _ (by omega) (by omega) (by omega)).mono ?_; rintro e w5 ⟨rfl, hK5⟩))
      go_split_ands
      clear kr
      rename Keep Any wr _ => kr5
      have kr := kr5.drew
      go_wp2
      go_region_held3 (fun w' => Keep Any wr w' ∧ w'.cell? (ad.add (j * 5)) = some (.string (mtx q)) ∧ w'.cell? ⟨(ad.add (j * 5)).block, (ad.add (j * 5)).off + 1, none⟩ = some (.int .i64 ((q : Int) + 1)) ∧ w'.cell? ⟨(ad.add (j * 5)).block, (ad.add (j * 5)).off + 2, none⟩ = some (.int .i64 ((q : Int) + 1 + 1)) ∧
        w'.cell? ⟨(ad.add (j * 5)).block, (ad.add (j * 5)).off + 3, none⟩ = some (.string (mtx (q + 3))) ∧ w'.cell? ⟨(ad.add (j * 5)).block, (ad.add (j * 5)).off + 4, none⟩ = some (.slice sa x.val.list.length sc))
        (first | (go_split_ands; exact SK.out _ (Keep.trans (by first | assumption | exact Keep.drew (by assumption)) hK5)) | go_keep)
        ((go_at_call 75; refine (MT.out _ (q + 3) _ (by omega) (by omega) (by omega)).mono ?_; rintro e w5 ⟨rfl, hK5⟩))
      clear kr kr5
      go_split_ands
      rename Keep Any wr _ => kr
      have KR := Lib.hid kr
      go_wp2_with (go_at_call 77; refine (IX.out _ _ (q + 4) _ (by omega) (Vals.keep HVL.out KR.out) (by omega) hqx2).mono ?_; rintro e w3 ⟨rfl, hK3⟩; have HK3 := Lib.hid hK3; clear hK3)
      go_roundg (gk - 1)
      case rel =>
        refine ⟨j + 1, by omega, ?_, by go_num, by have := HG.out; omega, HK.out.trans (KR.out.trans HK3.out)⟩
        refine congrArg (Value.int .i64) ?_
        have h1 := HW.out
        have h2 := HQ.out
        have h3 := HXW.out
        push_cast
        omega
      case measure => have := HG.out; omega
    · have HJ := Lib.hid (show j = l.length by omega)
      go_wp2
      go_ret
      exact ⟨ret_int (by have := HQ.out; rw [HJ.out, List.take_length] at this; omega), HK.out⟩
theorem cells4' {w : World} {g : Nat} {T : TypeId} {a b c d : Value} (h : w.heap[g]? = some (.cells #[a, b, c, d] T (0, 0))) : w.cell? ⟨g, 2, none⟩ = some c := (blk_cell h 2).trans rfl
theorem markMsg_calls (m : Ms) (a : Option Addr) (c : Nat) (n : Int) (k : Nat) (w : World) (ok : Nat → Prop) (hn : n = k) (hs : SCes w ok (.slice a m.given.length c) m.given) (hok : ∀ i, ok i → i < w.heap.size) (hk : 1 ≤ k) (hb : k + Ce.ws m.given ≤ 4611686018427387904) :
    Calls Tryd.prog 21 #[.agg #[.int .i64 m.kind, .string m.text, .slice a m.given.length c, .int .i64 m.num], .int .i64 n] w fun e w' => e = .returned (.int .i64 (k + Ce.ws m.given : Nat)) ∧ SCes w' ok (.slice a m.given.length c) (Ce.mks k m.given) ∧ Keep (Not' ok) w w' := by
  have HS := Lib.hid hs
  have HOK := Lib.hid hok
  subst hn
  clear hs hok
  have IX := Lib.hid (markCes_calls m.given)
  go_enter Tryd.func21, Tryd.ntmps21
  go_wp2_with (go_at_call 51; refine (IX.out _ _ k _ ok rfl (SCes.keep HS.out ((Keep.refl _ _).alloc _)) (fun i hi => by have := HOK.out i hi; simp; omega) hk hb).mono ?_; rintro e w2 ⟨rfl, hS2, hK2⟩; have HS2 := Lib.hid hS2; clear hS2)
  go_ret
  exact ⟨rfl, HS2.out, ((Keep.refl _ _).alloc _).trans hK2⟩
theorem heldMsg_calls (m : Ms) (a : Option Addr) (c : Nat) (n : Int) (k : Nat) (w : World) (hn : n = k) (hs : Ces w Any (.slice a m.given.length c) (Ce.mks k m.given)) (hk : 1 ≤ k) (hb : k + Ce.ws m.given ≤ 4611686018427387904) :
    Calls Tryd.prog 22 #[.agg #[.int .i64 m.kind, .string m.text, .slice a m.given.length c, .int .i64 m.num], .int .i64 n] w (Num (k + Ce.ws m.given : Nat) w) := by
  have HS := Lib.hid hs
  subst hn
  clear hs
  have IX := Lib.hid (heldCes_calls m.given)
  go_enter Tryd.func22, Tryd.ntmps22
  go_wp2_with (go_at_call 52; refine (IX.out _ _ k _ rfl (Ces.keep HS.out ((Keep.refl _ _).alloc _)) hk hb).mono ?_; rintro e w2 ⟨rfl, hK2⟩)
  go_ret
  exact ⟨rfl, ((Keep.refl _ _).alloc _).trans hK2⟩
end Go.Proofs.YtjgnnobfaphkeaaDoor

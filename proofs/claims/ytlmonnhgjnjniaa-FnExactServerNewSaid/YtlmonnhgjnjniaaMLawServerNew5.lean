/- A mark's text. Marks in texts, written and read again. Marks in rules, written and read again; none in what is empty. -/
import Derived.Test.YtlmonnhgjnjniaaMLawServerNew4
import Derived.Test.YtlmonnhgjnjniaaMLawServerNew2
import Derived.Deep.RegionHeld3
/- A mark's text. -/
namespace Go.Proofs.Ytlmonnhgjnjniaa
open Go.RowKit
set_option linter.unusedVariables false
set_option linter.unusedSimpArgs false
/-- the figures of n ahead of l -/
def txtOf (n : Nat) (l : List UInt8) : List UInt8 := if n = 0 then l else Lib.decDigits n ++ l
theorem txtOf_step {n : Nat} (h : 0 < n) (l : List UInt8) : txtOf (n / 10) (UInt8.ofNat (48 + n % 10) :: l) = txtOf n l := by
  unfold txtOf
  rw [if_neg (show ¬ n = 0 by omega)]
  by_cases hn : n < 10
  · rw [if_pos (by omega), dec_small hn, Nat.mod_eq_of_lt hn]; rfl
  · rw [if_neg (by omega), dec_big hn, List.append_assoc]; rfl
theorem txtOf_len (n : Nat) (l : List UInt8) : l.length ≤ (txtOf n l).length := by
  unfold txtOf; split <;> simp
set_option maxRecDepth 20000 in
theorem markText_calls (k : Nat) (w : World) (h0 : 1 ≤ k) (h1 : k ≤ 9223372036854775807) : Calls Try.prog 31 #[.int .i64 k] w fun e w' => e = .returned (.string (mtx k)) ∧ Keep Any w w' := by
  have kc := one_byte
  have hlen := dec_len k (by omega)
  have b0 : decide ((k : Int) ≤ 0) = false := by rw [decide_eq_false_iff_not]; omega
  have b1 : (0 : Int) < (k : Int) := by omega
  go_enter Try.func31, Try.ntmps31
  go_wp2
  go_loopg [0, 3] (k + 1) (fun g x y wr => ∃ (n : Nat) (l : List UInt8), n ≤ k ∧ x = .int .i64 n ∧ y = .string ⟨l.toArray⟩ ∧ n < g ∧ txtOf n l = Lib.decDigits k ∧ l.length ≤ 20 ∧ Keep Any w wr)
  case atStart => exact ⟨k, [], Nat.le_refl _, rfl, rfl, by omega, by unfold txtOf; rw [if_neg (by omega), List.append_nil], by simp, Keep.refl _ _⟩
  case round =>
    obtain ⟨n, l, hn, rfl, rfl, hg, ht, hl, hK⟩ := hrel
    have HG := Lib.hid hg
    have HT := Lib.hid ht
    clear hg ht b0 b1
    by_cases hz : 0 < n
    · have c1 : (0 : Int) < (n : Int) := by omega
      go_wp2
      go_roundg (gk - 1)
      case rel =>
        refine ⟨n / 10, UInt8.ofNat (48 + n % 10) :: l, by omega, by go_num, ?_, by have := HG.out; omega, by rw [txtOf_step hz, HT.out], ?_, hK.alloc _⟩
        · rw [UInt8.ofNat_add]
          exact congrArg Value.string (bytes_app [48 + UInt8.ofNat (n % 10)] l)
        · have := txtOf_len (n / 10) (UInt8.ofNat (48 + n % 10) :: l)
          rw [txtOf_step hz, HT.out] at this
          omega
      case measure => have := HG.out; omega
    · have HZ := Lib.hid (show n = 0 by omega)
      go_wp2
      go_ret
      have e : l = Lib.decDigits k := by have := HT.out; rw [HZ.out] at this; exact this
      exact ⟨congrArg (fun s => Ending.returned (.string s)) (by rw [e]; exact bytes_app [109] _), hK⟩
theorem markText_int (n : Int) (k : Nat) (w : World) (hn : n = k) (h0 : 1 ≤ k) (h1 : k ≤ 9223372036854775807) : Calls Try.prog 31 #[.int .i64 n] w fun e w' => e = .returned (.string (mtx k)) ∧ Keep Any w w' := by
  subst hn; exact markText_calls k w h0 h1
abbrev Not' (ok : Nat → Prop) (k : Nat) : Prop := ¬ ok k
end Go.Proofs.Ytlmonnhgjnjniaa

/- Marks in texts, written and read again. -/
namespace Go.Proofs.Ytlmonnhgjnjniaa
open Go.RowKit
set_option linter.unusedVariables false
set_option linter.unusedSimpArgs false
def tmks : Nat → List ByteArray → List ByteArray
  | _, [] => []
  | k, _ :: l => mtx k :: tmks (k + 1) l
theorem tmks_len (l : List ByteArray) : ∀ k, (tmks k l).length = l.length := by
  induction l with
  | nil => intro k; rfl
  | cons x l ih => intro k; rw [tmks, List.length_cons, List.length_cons, ih]
theorem tmks_at : ∀ (l : List ByteArray) (k j : Nat), j < l.length → (tmks k l)[j]? = some (mtx (k + j))
  | [], _, _, h => by simp at h
  | x :: l, k, 0, _ => by rw [tmks]; rfl
  | x :: l, k, j + 1, h => by
    rw [tmks, List.getElem?_cons_succ, tmks_at l (k + 1) j (by simp only [List.length_cons] at h; omega), show k + 1 + j = k + (j + 1) by omega]
/-- the list when the first j are marked -/
def tupto (k : Nat) (l : List ByteArray) (j : Nat) : List ByteArray := (tmks k l).take j ++ l.drop j
theorem tupto_zero (k : Nat) (l : List ByteArray) : tupto k l 0 = l := by simp [tupto]
theorem tupto_all (k : Nat) (l : List ByteArray) : tupto k l l.length = tmks k l := by rw [tupto, List.drop_length, List.append_nil, List.take_of_length_le (by rw [tmks_len]; omega)]
theorem tupto_at {k : Nat} {l : List ByteArray} {j : Nat} (h : j < l.length) : (tupto k l j)[j]? = some l[j] := by
  rw [tupto, List.getElem?_append_right (by rw [List.length_take]; omega), List.length_take, tmks_len, List.getElem?_drop, show j + (j - min j l.length) = j by omega]
  exact List.getElem?_eq_getElem h
theorem tupto_set {k : Nat} {l : List ByteArray} {j : Nat} (h : j < l.length) : (tupto k l j).set j (mtx (k + j)) = tupto k l (j + 1) := by
  have e : l.drop j = l[j] :: l.drop (j + 1) := List.drop_eq_getElem_cons h
  have hl : ((tmks k l).take j).length = j := by rw [List.length_take, tmks_len]; omega
  rw [tupto, tupto, e, List.take_add_one, tmks_at l k j h, Option.toList_some, List.set_append_right _ _ (by omega), hl, Nat.sub_self, List.set_cons_zero, List.append_assoc]
  rfl
theorem sstrs_lens {w : World} {ok : Nat → Prop} {a : Option Addr} {n c : Nat} {l : List ByteArray} (h : SStrs w ok (.slice a n c) l) {j : Nat} {x : ByteArray} (hx : l[j]? = some x) :
    ∃ (b : Nat) (T : TypeId) (cur : Array Value), a = some ⟨b, 0, none⟩ ∧ ok b ∧ w.heap[b]? = some (.cells cur T (0, 0)) ∧ j < cur.size ∧ cur[j]? = some (.string x) ∧
      ∀ (w' : World) (y : ByteArray), w'.heap[b]? = some (.cells (cur.setIfInBounds j (.string y)) T (0, 0)) → Fits y → Keep (fun k => k ≠ b) w w' → SStrs w' ok (.slice a n c) (l.set j y) := by
  obtain ⟨b, T, cur, gj, cs, h1, h2, h3, h4, h5, h6, h7, h8⟩ := SSl.lens (R := SStr) (fun h _ => h) h hx
  obtain ⟨rfl, k0⟩ := h5
  have h9 := h7 0 _ rfl
  rw [Nat.mul_one, Nat.add_zero] at h9
  have hj := (Array.getElem?_eq_some_iff.1 h9).1
  refine ⟨b, T, cur, h1, h2, h4, hj, h9, fun w' y m1 m2 m3 => ?_⟩
  refine h8 w' _ y [.string y] m1 (fun i hi => by rw [Array.getElem?_setIfInBounds_ne (by omega)]) ⟨rfl, m2⟩ rfl (fun i u hu => ?_) (m3.mono fun _ _ h => h.1)
  rcases i with _ | i
  · cases hu; rw [Nat.mul_one, Nat.add_zero]; exact Array.getElem?_setIfInBounds_self_of_lt hj
  · cases hu
set_option maxHeartbeats 4000000 in
set_option maxRecDepth 20000 in
theorem markStrs_calls (l : List ByteArray) (s : Value) (n : Int) (k : Nat) (w : World) (ok : Nat → Prop) (hn : n = k) (hs : SStrs w ok s l) (hk : 1 ≤ k) (hb : k + l.length ≤ 4611686018427387904) :
    Calls Try.prog 13 #[s, .int .i64 n] w fun e w' => e = .returned (.int .i64 (k + l.length : Nat)) ∧ SStrs w' ok s (tmks k l) ∧ Keep (Not' ok) w w' := by
  have HS0 := Lib.hid hs
  have MT := Lib.hid markText_int
  subst hn
  obtain ⟨a, c, rfl, hc, hm, _⟩ := hs
  go_enter Try.func13, Try.ntmps13
  go_wp2
  go_loopg [1, 5] (l.length + 1) (fun g x y wr => ∃ j : Nat, j ≤ l.length ∧ x = .int .i64 (k + j : Nat) ∧ y = .int .i64 j ∧ g = l.length + 1 - j ∧ SStrs wr ok (.slice a l.length c) (tupto k l j) ∧ Keep (Not' ok) w wr)
  case atStart => exact ⟨0, by omega, rfl, rfl, rfl, by rw [tupto_zero]; exact HS0.out, Keep.refl _ _⟩
  case round =>
    obtain ⟨j, hj, rfl, rfl, hg, hS, hK⟩ := hrel
    have HG := Lib.hid hg
    have HS := Lib.hid hS
    have HK := Lib.hid hK
    clear hg hS hK
    by_cases hlt : j < l.length
    · obtain ⟨b, T, cur, rfl, hob, hblk, hsz, hc0, hlens⟩ := sstrs_lens HS.out (tupto_at hlt)
      have HB := Lib.hid hblk
      have HL := Lib.hid hlens
      have HC0 := Lib.hid hc0
      have zb := blk_lt hblk
      clear hblk hlens hc0
      generalize l[j] = x at *
      go_wp2_with (go_at_call 31; refine (MT.out _ (k + j) _ (by omega) (by omega) (by omega)).mono ?_; rintro e w1 ⟨rfl, hK1⟩; have HK1 := Lib.hid hK1; have HB1 := Lib.hid (blk_keep hK1 HB.out trivial); have y0 : w1.cell? ⟨b, j, none⟩ = some (.string x) := (blk_cell HB1.out _).trans HC0.out; have f0 := blk_frozen HB1.out j; have zb1 := blk_lt HB1.out; clear hK1)
      go_roundg (gk - 1)
      case rel =>
        refine ⟨j + 1, by omega, by go_num, by go_num, by have := HG.out; omega, ?_, HK.out.then ((HK1.out.any (ok := fun k => k ≠ b)).set _ _ (fun _ h => h rfl)) fun i _ hi => fun e => hi (e ▸ hob)⟩
        rw [← tupto_set hlt]
        exact HL.out _ (mtx (k + j)) (blk_set HB1.out j _) (mtx_fits _ (by omega)) ((HK1.out.any).set _ _ (fun _ h => h rfl))
      case measure => have := HG.out; omega
    · have HJ := Lib.hid (show j = l.length by omega)
      go_wp2
      go_ret
      exact ⟨ret_int (by rw [HJ.out]), by have := HS.out; rw [HJ.out, tupto_all] at this; exact this, HK.out⟩
set_option maxHeartbeats 4000000 in
set_option maxRecDepth 20000 in
theorem heldStrs_calls (l : List ByteArray) (s : Value) (n : Int) (k : Nat) (w : World) (hn : n = k) (hs : Strs w Any s (tmks k l)) (hk : 1 ≤ k) (hb : k + l.length ≤ 4611686018427387904) :
    Calls Try.prog 58 #[s, .int .i64 n] w (Num (k + l.length : Nat) w) := by
  have HS := Lib.hid hs
  have MT := Lib.hid markText_int
  subst hn
  obtain ⟨ad, c, rfl, hc, hm, _⟩ := hs
  rw [tmks_len] at *
  go_enter Try.func58, Try.ntmps58
  go_wp2
  go_loopg [1, 5] (l.length + 1) (fun g x y wr => ∃ j : Nat, j ≤ l.length ∧ x = .int .i64 (k + j : Nat) ∧ y = .int .i64 j ∧ g = l.length + 1 - j ∧ Keep Any w wr)
  case atStart => exact ⟨0, by omega, rfl, rfl, rfl, Keep.refl _ _⟩
  case round =>
    obtain ⟨j, hj, rfl, rfl, hg, hK⟩ := hrel
    have HG := Lib.hid hg
    have HK := Lib.hid hK
    clear hg hK
    by_cases hlt : j < l.length
    · obtain ⟨ad, rfl, hnm, c0⟩ := strs_at HS.out HK.out (tmks_at l k j hlt)
      have e0 : ((mtx (k + j)).toList != (mtx (k + j)).toList) = false := by simp
      have C0 := Lib.hid c0
      go_wp2
      go_region_with (go_at_call 31; refine (MT.out _ (k + j) _ (by omega) (by omega) (by omega)).mono ?_; rintro e w2 ⟨rfl, hK2⟩; have c0' := hK2.cell (p := ad.add j) C0.out trivial; have HK2 := Lib.hid hK2; clear hK2)
      all_goals
        go_wp2
        go_roundg (gk - 1)
        case rel => exact ⟨j + 1, by omega, by go_num, by go_num, by have := HG.out; omega, HK.out.trans ((Keep.refl Any wr).drew.trans HK2.out)⟩
        case measure => have := HG.out; omega
    · have HJ := Lib.hid (show j = l.length by omega)
      go_wp2
      go_ret
      exact ⟨ret_int (by rw [HJ.out]), HK.out⟩
end Go.Proofs.Ytlmonnhgjnjniaa

/- Marks in rules, written and read again; none in what is empty. -/
namespace Go.Proofs.Ytlmonnhgjnjniaa
open Go.RowKit
set_option linter.unusedVariables false
set_option linter.unusedSimpArgs false
/-! the first j of a list turned -/
def upTo {α : Type} (f : Nat → α → α) (l : List α) (j : Nat) : List α := l.mapIdx fun i x => if i < j then f i x else x
theorem upTo_len {α : Type} (f : Nat → α → α) (l : List α) (j : Nat) : (upTo f l j).length = l.length := by simp [upTo]
theorem upTo_zero {α : Type} (f : Nat → α → α) (l : List α) : upTo f l 0 = l := by
  refine List.ext_getElem? fun i => ?_
  simp [upTo, List.getElem?_mapIdx]
theorem upTo_all {α : Type} (f : Nat → α → α) (l : List α) : upTo f l l.length = l.mapIdx f := by
  refine List.ext_getElem? fun i => ?_
  simp only [upTo, List.getElem?_mapIdx]
  cases h : l[i]? with
  | none => rfl
  | some x => have := (List.getElem?_eq_some_iff.1 h).1; simp [this]
theorem upTo_at {α : Type} {f : Nat → α → α} {l : List α} {j : Nat} {x : α} (h : l[j]? = some x) : (upTo f l j)[j]? = some x := by
  simp [upTo, List.getElem?_mapIdx, h]
theorem upTo_set {α : Type} {f : Nat → α → α} {l : List α} {j : Nat} {x : α} (h : l[j]? = some x) : (upTo f l j).set j (f j x) = upTo f l (j + 1) := by
  refine List.ext_getElem? fun i => ?_
  have hj := (List.getElem?_eq_some_iff.1 h).1
  rw [List.getElem?_set]
  by_cases e : j = i
  · subst e
    rw [if_pos rfl, upTo_len, if_pos hj]
    simp [upTo, List.getElem?_mapIdx, h]
  · rw [if_neg e]
    simp only [upTo, List.getElem?_mapIdx]
    cases l[i]? with
    | none => rfl
    | some y =>
      have : (i < j) ↔ (i < j + 1) := by omega
      simp only [Option.map_some, this]
theorem mapIdx_at {α : Type} {f : Nat → α → α} {l : List α} {j : Nat} {x : α} (h : l[j]? = some x) : (l.mapIdx f)[j]? = some (f j x) := by simp [List.getElem?_mapIdx, h]
def rmk (k : Nat) (j : Nat) (_ : Ru) : Ru := ⟨mtx (k + 2 * j), mtx (k + 2 * j + 1)⟩
def rmks (k : Nat) (l : List Ru) : List Ru := l.mapIdx (rmk k)
theorem rmks_len (k : Nat) (l : List Ru) : (rmks k l).length = l.length := by simp [rmks]
theorem srus_lens {w : World} {ok : Nat → Prop} {a : Option Addr} {n c : Nat} {l : List Ru} (h : SRus w ok (.slice a n c) l) {j : Nat} {x : Ru} (hx : l[j]? = some x) :
    ∃ (b : Nat) (T : TypeId) (cur : Array Value), a = some ⟨b, 0, none⟩ ∧ ok b ∧ w.heap[b]? = some (.cells cur T (0, 0)) ∧ j * 2 + 2 ≤ cur.size ∧ cur[j * 2]? = some (.string x.label) ∧ cur[j * 2 + 1]? = some (.string x.name) ∧
      ∀ (w' : World) (y : Ru), w'.heap[b]? = some (.cells ((cur.setIfInBounds (j * 2) (.string y.label)).setIfInBounds (j * 2 + 1) (.string y.name)) T (0, 0)) → Fits y.label → Fits y.name → Keep (fun k => k ≠ b) w w' → SRus w' ok (.slice a n c) (l.set j y) := by
  obtain ⟨b, T, cur, gj, cs, h1, h2, h3, h4, h5, h6, h7, h8⟩ := SSl.lens (R := SRu) (fun h _ => h) h hx
  obtain ⟨rfl, k0⟩ := h5
  have h9 := h7 0 _ rfl
  have h10 := h7 1 _ rfl
  rw [Nat.add_zero] at h9
  have hj := (Array.getElem?_eq_some_iff.1 h10).1
  refine ⟨b, T, cur, h1, h2, h4, by omega, h9, h10, fun w' y m1 m2 m3 m4 => ?_⟩
  refine h8 w' _ y [.string y.label, .string y.name] m1 (fun i hi => by rw [Array.getElem?_setIfInBounds_ne (by omega), Array.getElem?_setIfInBounds_ne (by omega)]) ⟨rfl, m2, m3⟩ rfl (fun i u hu => ?_) (m4.mono fun _ _ h => h.1)
  rcases i with _ | _ | i
  · cases hu; rw [Nat.add_zero, Array.getElem?_setIfInBounds_ne (by omega)]; exact Array.getElem?_setIfInBounds_self_of_lt (by omega)
  · cases hu; exact Array.getElem?_setIfInBounds_self_of_lt (by simp; omega)
  · cases hu
set_option maxHeartbeats 4000000 in
set_option maxRecDepth 20000 in
theorem markRules_calls (l : List Ru) (s : Value) (n : Int) (k : Nat) (w : World) (ok : Nat → Prop) (hn : n = k) (hs : SRus w ok s l) (hk : 1 ≤ k) (hb : k + 2 * l.length ≤ 4611686018427387904) :
    Calls Try.prog 14 #[s, .int .i64 n] w fun e w' => e = .returned (.int .i64 (k + 2 * l.length : Nat)) ∧ SRus w' ok s (rmks k l) ∧ Keep (Not' ok) w w' := by
  have HS0 := Lib.hid hs
  have MT := Lib.hid markText_int
  subst hn
  obtain ⟨a, c, rfl, hc, hm, _⟩ := hs
  go_enter Try.func14, Try.ntmps14
  go_wp2
  go_loopg [1, 5] (l.length + 1) (fun g x y wr => ∃ j : Nat, j ≤ l.length ∧ x = .int .i64 (k + 2 * j : Nat) ∧ y = .int .i64 j ∧ g = l.length + 1 - j ∧ SRus wr ok (.slice a l.length c) (upTo (rmk k) l j) ∧ Keep (Not' ok) w wr)
  case atStart => exact ⟨0, by omega, rfl, rfl, rfl, by rw [upTo_zero]; exact HS0.out, Keep.refl _ _⟩
  case round =>
    obtain ⟨j, hj, rfl, rfl, hg, hS, hK⟩ := hrel
    have HG := Lib.hid hg
    have HS := Lib.hid hS
    have HK := Lib.hid hK
    clear hg hS hK
    obtain ⟨q, hq⟩ : ∃ q, k + 2 * j = q := ⟨_, rfl⟩
    have HQ := Lib.hid hq
    have hqb : q ≤ 4611686018427387904 := by omega
    have hq1 : 1 ≤ q := by omega
    rw [hq]
    by_cases hlt : j < l.length
    · have hqb2 : q + 2 ≤ 4611686018427387904 := by omega
      clear hq
      have hx : l[j]? = some l[j] := List.getElem?_eq_getElem hlt
      have HX := Lib.hid hx
      obtain ⟨b, T, cur, rfl, hob, hblk, hsz, hc0, hc1, hlens⟩ := srus_lens HS.out (upTo_at hx)
      have HB := Lib.hid hblk
      have HL := Lib.hid hlens
      have HC0 := Lib.hid hc0
      have HC1 := Lib.hid hc1
      have zb := blk_lt hblk
      clear hblk hlens hc0 hc1 hx
      generalize l[j] = x at *
      go_wp2_with fail
      refine (MT.out _ q _ (by omega) (by omega) (by omega)).mono ?_
      rintro e w1 ⟨rfl, hK1⟩
      have HK1 := Lib.hid hK1
      have HB1 := Lib.hid (blk_keep hK1 HB.out trivial)
      have y0 : w1.cell? ⟨b, j * 2, none⟩ = some (.string x.label) := (blk_cell HB1.out _).trans HC0.out
      have f0 := blk_frozen HB1.out (j * 2)
      have zb1 := blk_lt HB1.out
      clear hK1
      go_wp2_with fail
      refine (MT.out _ (q + 1) _ (by omega) (by omega) (by omega)).mono ?_
      rintro e w2 ⟨rfl, hK2⟩
      have HK2 := Lib.hid hK2
      have HB2 := Lib.hid (blk_keep hK2 (blk_set HB1.out (j * 2) _) trivial)
      have y1 : w2.cell? ⟨b, j * 2 + 1, none⟩ = some (.string x.name) := (blk_cell HB2.out _).trans ((Array.getElem?_setIfInBounds_ne (by omega)).trans HC1.out)
      have f1 := blk_frozen HB2.out (j * 2 + 1)
      have zb2 := blk_lt HB2.out
      clear hK2 y0 f0
      have KN := Lib.hid (show Keep (fun k => k ≠ b) wr w2 from (((HK1.out.any).set _ _ (fun _ h => h rfl))).trans HK2.out.any)
      go_wp2
      go_roundg (gk - 1)
      case rel =>
        refine ⟨j + 1, by omega, ?_, by go_num, by have := HG.out; omega, ?_, HK.out.then (KN.out.set _ _ (fun _ h => h rfl)) fun i _ hi => fun e => hi (e ▸ hob)⟩
        · refine congrArg (Value.int .i64) ?_
          have h2 := HQ.out
          push_cast
          omega
        · rw [← upTo_set HX.out]
          exact HL.out _ (rmk k j x) (by rw [rmk, HQ.out]; exact blk_set HB2.out (j * 2 + 1) _) (mtx_fits _ (by have := HQ.out; omega)) (mtx_fits _ (by have := HQ.out; omega)) (KN.out.set _ _ (fun _ h => h rfl))
      case measure => have := HG.out; omega
    · have HJ := Lib.hid (show j = l.length by omega)
      clear hq
      go_wp2
      go_ret
      exact ⟨ret_int (by have := HQ.out; rw [HJ.out] at this; omega), by have := HS.out; rw [HJ.out, upTo_all] at this; exact this, HK.out⟩
set_option maxHeartbeats 4000000 in
set_option maxRecDepth 20000 in
theorem heldRules_calls (l : List Ru) (s : Value) (n : Int) (k : Nat) (w : World) (hn : n = k) (hs : Rus w Any s (rmks k l)) (hk : 1 ≤ k) (hb : k + 2 * l.length ≤ 4611686018427387904) :
    Calls Try.prog 55 #[s, .int .i64 n] w (Num (k + 2 * l.length : Nat) w) := by
  have HS := Lib.hid hs
  have MT := Lib.hid markText_int
  subst hn
  obtain ⟨ad, c, rfl, hc, hm, _⟩ := hs
  rw [rmks_len] at *
  go_enter Try.func55, Try.ntmps55
  go_wp2
  go_loopg [1, 5] (l.length + 1) (fun g x y wr => ∃ j : Nat, j ≤ l.length ∧ x = .int .i64 (k + 2 * j : Nat) ∧ y = .int .i64 j ∧ g = l.length + 1 - j ∧ Keep Any w wr)
  case atStart => exact ⟨0, by omega, rfl, rfl, rfl, Keep.refl _ _⟩
  case round =>
    obtain ⟨j, hj, rfl, rfl, hg, hK⟩ := hrel
    have HG := Lib.hid hg
    have HK := Lib.hid hK
    clear hg hK
    obtain ⟨q, hq⟩ : ∃ q, k + 2 * j = q := ⟨_, rfl⟩
    have HQ := Lib.hid hq
    have hqb : q ≤ 4611686018427387904 := by omega
    have hq1 : 1 ≤ q := by omega
    rw [hq]
    by_cases hlt : j < l.length
    · have hqb2 : q + 2 ≤ 4611686018427387904 := by omega
      obtain ⟨ad, rfl, _, _, c0, c1⟩ := rus_at HS.out HK.out (mapIdx_at (f := rmk k) (List.getElem?_eq_getElem hlt))
      have C0 := Lib.hid (show wr.cell? (ad.add (j * 2)) = some (.string (mtx q)) by rw [← hq]; exact c0)
      have C1 := Lib.hid (show wr.cell? ⟨(ad.add (j * 2)).block, (ad.add (j * 2)).off + 1, none⟩ = some (.string (mtx (q + 1))) by rw [← hq]; exact c1)
      clear hq c0 c1
      have c0 := C0.out
      have e0 : ((mtx q).toList != (mtx q).toList) = false := by simp
      have e1 : ((mtx (q + 1)).toList != (mtx (q + 1)).toList) = false := by simp
      have k0 : (0 : Int) ≤ (j : Int) := by omega
      have k1 : (j : Int) < (l.length : Int) := by omega
      go_wp2
      go_cut [19] from 12 to 19 (fun v wc => v = .bool false ∧ Keep Any wr wc)
      case first =>
        go_region_with (go_at_call 31; refine (MT.out _ q _ (by omega) (by omega) (by omega)).mono ?_; rintro e w2 ⟨rfl, hK2⟩; have c0' := hK2.cell (p := ad.add (j * 2)) C0.out trivial; have HK2 := Lib.hid hK2; clear hK2)
        all_goals
          go_wp2
          go_meet
          exact ⟨rfl, (Keep.refl Any wr).drew.trans HK2.out⟩
      case rest =>
        obtain ⟨rfl, hKc⟩ := hcut
        have KC := Lib.hid hKc
        have D1 := Lib.hid (hKc.cell C1.out trivial)
        have d1 := D1.out
        clear hKc c0
        go_wp2
        go_region_with (go_at_call 31; refine (MT.out _ (q + 1) _ (by omega) (by omega) (by omega)).mono ?_; rintro e w2 ⟨rfl, hK2⟩; have d1' := hK2.cell D1.out trivial; have HK2 := Lib.hid hK2; clear hK2)
        all_goals
          go_wp2
          go_roundg (gk - 1)
          case rel => exact ⟨j + 1, by omega, (by refine congrArg (Value.int .i64) ?_; have h2 := HQ.out; push_cast; omega), by go_num, by have := HG.out; omega, HK.out.trans (KC.out.trans ((Keep.refl Any wc).drew.trans HK2.out))⟩
          case measure => have := HG.out; omega
    · have HJ := Lib.hid (show j = l.length by omega)
      clear hq
      go_wp2
      go_ret
      exact ⟨ret_int (by have := HQ.out; rw [HJ.out] at this; omega), HK.out⟩
theorem markNodeS_nil (a : Option Addr) (c : Nat) (n : Int) (w : World) : Calls Try.prog 48 #[.slice a 0 c, .int .i64 n] w fun e w' => e = .returned (.int .i64 n) ∧ Keep Any w w' := by
  go_enter Try.func48, Try.ntmps48
  go_wp2
  go_loopg [1, 5] 1 (fun g x i wr => x = .int .i64 n ∧ i = .int .i64 0 ∧ g = 1 ∧ w = wr)
  case atStart => exact ⟨rfl, rfl, rfl, rfl⟩
  case round =>
    obtain ⟨rfl, rfl, hg, rfl⟩ := hrel
    go_wp2
    go_ret
    exact ⟨rfl, Keep.refl _ _⟩
theorem markEdgeS_nil (a : Option Addr) (c : Nat) (n : Int) (w : World) : Calls Try.prog 49 #[.slice a 0 c, .int .i64 n] w fun e w' => e = .returned (.int .i64 n) ∧ Keep Any w w' := by
  go_enter Try.func49, Try.ntmps49
  go_wp2
  go_loopg [1, 5] 1 (fun g x i wr => x = .int .i64 n ∧ i = .int .i64 0 ∧ g = 1 ∧ w = wr)
  case atStart => exact ⟨rfl, rfl, rfl, rfl⟩
  case round =>
    obtain ⟨rfl, rfl, hg, rfl⟩ := hrel
    go_wp2
    go_ret
    exact ⟨rfl, Keep.refl _ _⟩
theorem markAskS_nil (a : Option Addr) (c : Nat) (n : Int) (w : World) : Calls Try.prog 50 #[.slice a 0 c, .int .i64 n] w fun e w' => e = .returned (.int .i64 n) ∧ Keep Any w w' := by
  go_enter Try.func50, Try.ntmps50
  go_wp2
  go_loopg [1, 5] 1 (fun g x i wr => x = .int .i64 n ∧ i = .int .i64 0 ∧ g = 1 ∧ w = wr)
  case atStart => exact ⟨rfl, rfl, rfl, rfl⟩
  case round =>
    obtain ⟨rfl, rfl, hg, rfl⟩ := hrel
    go_wp2
    go_ret
    exact ⟨rfl, Keep.refl _ _⟩
theorem markTxS_nil (a : Option Addr) (c : Nat) (n : Int) (w : World) : Calls Try.prog 51 #[.slice a 0 c, .int .i64 n] w fun e w' => e = .returned (.int .i64 n) ∧ Keep Any w w' := by
  go_enter Try.func51, Try.ntmps51
  go_wp2
  go_loopg [1, 5] 1 (fun g x i wr => x = .int .i64 n ∧ i = .int .i64 0 ∧ g = 1 ∧ w = wr)
  case atStart => exact ⟨rfl, rfl, rfl, rfl⟩
  case round =>
    obtain ⟨rfl, rfl, hg, rfl⟩ := hrel
    go_wp2
    go_ret
    exact ⟨rfl, Keep.refl _ _⟩
theorem markValueSS_nil (a : Option Addr) (c : Nat) (n : Int) (w : World) : Calls Try.prog 52 #[.slice a 0 c, .int .i64 n] w fun e w' => e = .returned (.int .i64 n) ∧ Keep Any w w' := by
  go_enter Try.func52, Try.ntmps52
  go_wp2
  go_loopg [1, 5] 1 (fun g x i wr => x = .int .i64 n ∧ i = .int .i64 0 ∧ g = 1 ∧ w = wr)
  case atStart => exact ⟨rfl, rfl, rfl, rfl⟩
  case round =>
    obtain ⟨rfl, rfl, hg, rfl⟩ := hrel
    go_wp2
    go_ret
    exact ⟨rfl, Keep.refl _ _⟩
theorem heldNodeS_nil (a : Option Addr) (c : Nat) (n : Int) (w : World) : Calls Try.prog 53 #[.slice a 0 c, .int .i64 n] w fun e w' => e = .returned (.int .i64 n) ∧ Keep Any w w' := by
  go_enter Try.func53, Try.ntmps53
  go_wp2
  go_loopg [1, 5] 1 (fun g x i wr => x = .int .i64 n ∧ i = .int .i64 0 ∧ g = 1 ∧ w = wr)
  case atStart => exact ⟨rfl, rfl, rfl, rfl⟩
  case round =>
    obtain ⟨rfl, rfl, hg, rfl⟩ := hrel
    go_wp2
    go_ret
    exact ⟨rfl, Keep.refl _ _⟩
theorem heldEdgeS_nil (a : Option Addr) (c : Nat) (n : Int) (w : World) : Calls Try.prog 54 #[.slice a 0 c, .int .i64 n] w fun e w' => e = .returned (.int .i64 n) ∧ Keep Any w w' := by
  go_enter Try.func54, Try.ntmps54
  go_wp2
  go_loopg [1, 5] 1 (fun g x i wr => x = .int .i64 n ∧ i = .int .i64 0 ∧ g = 1 ∧ w = wr)
  case atStart => exact ⟨rfl, rfl, rfl, rfl⟩
  case round =>
    obtain ⟨rfl, rfl, hg, rfl⟩ := hrel
    go_wp2
    go_ret
    exact ⟨rfl, Keep.refl _ _⟩
theorem heldAskS_nil (a : Option Addr) (c : Nat) (n : Int) (w : World) : Calls Try.prog 56 #[.slice a 0 c, .int .i64 n] w fun e w' => e = .returned (.int .i64 n) ∧ Keep Any w w' := by
  go_enter Try.func56, Try.ntmps56
  go_wp2
  go_loopg [1, 5] 1 (fun g x i wr => x = .int .i64 n ∧ i = .int .i64 0 ∧ g = 1 ∧ w = wr)
  case atStart => exact ⟨rfl, rfl, rfl, rfl⟩
  case round =>
    obtain ⟨rfl, rfl, hg, rfl⟩ := hrel
    go_wp2
    go_ret
    exact ⟨rfl, Keep.refl _ _⟩
theorem heldTxS_nil (a : Option Addr) (c : Nat) (n : Int) (w : World) : Calls Try.prog 57 #[.slice a 0 c, .int .i64 n] w fun e w' => e = .returned (.int .i64 n) ∧ Keep Any w w' := by
  go_enter Try.func57, Try.ntmps57
  go_wp2
  go_loopg [1, 5] 1 (fun g x i wr => x = .int .i64 n ∧ i = .int .i64 0 ∧ g = 1 ∧ w = wr)
  case atStart => exact ⟨rfl, rfl, rfl, rfl⟩
  case round =>
    obtain ⟨rfl, rfl, hg, rfl⟩ := hrel
    go_wp2
    go_ret
    exact ⟨rfl, Keep.refl _ _⟩
theorem heldValueSS_nil (a : Option Addr) (c : Nat) (n : Int) (w : World) : Calls Try.prog 59 #[.slice a 0 c, .int .i64 n] w fun e w' => e = .returned (.int .i64 n) ∧ Keep Any w w' := by
  go_enter Try.func59, Try.ntmps59
  go_wp2
  go_loopg [1, 5] 1 (fun g x i wr => x = .int .i64 n ∧ i = .int .i64 0 ∧ g = 1 ∧ w = wr)
  case atStart => exact ⟨rfl, rfl, rfl, rfl⟩
  case round =>
    obtain ⟨rfl, rfl, hg, rfl⟩ := hrel
    go_wp2
    go_ret
    exact ⟨rfl, Keep.refl _ _⟩
end Go.Proofs.Ytlmonnhgjnjniaa

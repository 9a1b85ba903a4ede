/- Marks: what a law writes into each place of an answer, one number behind the other. No condition. Marks written into values and cells of one's own, and read again. Marks read again: each place holds what was written. Marks in texts and in a reply, written and read again. -/
import Derived.Test.YtlmonnhgjnjniaaDoorMLawReplyGet2
import Derived.Test.YtlmonnhgjnjniaaDoorMLawReplyGet1
import Derived.Test.YtlmonnhgjnjniaaDoorMLawReplyGet9
import Derived.Deep.RegionHeld3
/- Marks: what a law writes into each place of an answer, one number behind the other. No condition. -/
namespace Go.Proofs.YtlmonnhgjnjniaaDoor
open Go.RowKit
set_option linter.unusedVariables false
def mtx (k : Nat) : ByteArray := ⟨(109 :: Lib.decDigits k).toArray⟩
theorem mtx_fits (k : Nat) (h : k < 18446744073709551616) : Fits (mtx k) := by
  have := dec_len k h
  unfold Fits mtx
  rw [Lib.size_eq]
  simp only [List.length_cons]; omega
mutual
def V.mk' : Nat → V → V
  | k, ⟨_, _, _, l⟩ => ⟨k, ((k + 1 : Nat) : Int), mtx (k + 2), V.mks (k + 3) l⟩
def V.mks : Nat → List V → List V
  | _, [] => []
  | k, x :: l => V.mk' k x :: V.mks (k + 3 * x.w) l
end
theorem V.mk_eq (k : Nat) (v : V) : V.mk' k v = ⟨k, ((k + 1 : Nat) : Int), mtx (k + 2), V.mks (k + 3) v.list⟩ := by cases v; rw [V.mk']
theorem V.mks_len (l : List V) : ∀ k, (V.mks k l).length = l.length := by
  induction l with
  | nil => intro k; rw [V.mks]
  | cons x l ih => intro k; rw [V.mks, List.length_cons, List.length_cons, ih]
theorem V.ws_app (a b : List V) : V.ws (a ++ b) = V.ws a + V.ws b := by
  induction a with
  | nil => rw [List.nil_append, V.ws]; omega
  | cons x a ih => rw [List.cons_append, V.ws, V.ws, ih]; omega
theorem V.mks_app (a b : List V) : ∀ k, V.mks k (a ++ b) = V.mks k a ++ V.mks (k + 3 * V.ws a) b := by
  induction a with
  | nil => intro k; simp [V.mks, V.ws]
  | cons x a ih => intro k; rw [List.cons_append, V.mks, V.mks, ih, List.cons_append, V.ws, show k + 3 * x.w + 3 * V.ws a = k + 3 * (x.w + V.ws a) by omega]
/-- the list when the first j are marked -/
def V.upto (k : Nat) (l : List V) (j : Nat) : List V := V.mks k (l.take j) ++ l.drop j
theorem V.ws_take_succ {l : List V} {j : Nat} {x : V} (h : l[j]? = some x) : V.ws (l.take (j + 1)) = V.ws (l.take j) + x.w := by
  rw [List.take_add_one, h, V.ws_app]; simp [V.ws]
theorem V.ws_take_le (l : List V) (j : Nat) : V.ws (l.take j) ≤ V.ws l := by
  have := V.ws_app (l.take j) (l.drop j)
  rw [List.take_append_drop] at this; omega
theorem V.upto_zero (k : Nat) (l : List V) : V.upto k l 0 = l := by simp [V.upto, V.mks]
theorem V.upto_all (k : Nat) (l : List V) : V.upto k l l.length = V.mks k l := by simp [V.upto]
theorem V.upto_len (k : Nat) (l : List V) (j : Nat) : (V.upto k l j).length = l.length := by simp only [V.upto, List.length_append, V.mks_len, List.length_take, List.length_drop]; omega
theorem V.upto_at {k : Nat} {l : List V} {j : Nat} {x : V} (h : l[j]? = some x) : (V.upto k l j)[j]? = some x := by
  have hj := (List.getElem?_eq_some_iff.1 h).1
  rw [V.upto, List.getElem?_append_right (by rw [V.mks_len, List.length_take]; omega), V.mks_len, List.length_take, List.getElem?_drop]
  rw [show j + (j - min j l.length) = j by omega]; exact h
theorem V.upto_set {k : Nat} {l : List V} {j : Nat} {x : V} (h : l[j]? = some x) : (V.upto k l j).set j (V.mk' (k + 3 * V.ws (l.take j)) x) = V.upto k l (j + 1) := by
  have hj := (List.getElem?_eq_some_iff.1 h).1
  have e : l.drop j = x :: l.drop (j + 1) := by rw [List.drop_eq_getElem_cons hj, (List.getElem?_eq_some_iff.1 h).2]
  have hl : (V.mks k (l.take j)).length = j := by rw [V.mks_len, List.length_take]; omega
  rw [V.upto, V.upto, e, List.take_add_one, h, Option.toList_some, V.mks_app, List.set_append_right _ _ (by omega), hl, Nat.sub_self, List.set_cons_zero, List.append_assoc]
  rfl
theorem V.mks_at {k : Nat} {l : List V} {j : Nat} {x : V} (h : l[j]? = some x) : (V.mks k l)[j]? = some (V.mk' (k + 3 * V.ws (l.take j)) x) := by
  have hj := (List.getElem?_eq_some_iff.1 h).1
  have e : l = l.take j ++ x :: l.drop (j + 1) := by
    rw [← (List.getElem?_eq_some_iff.1 h).2, ← List.drop_eq_getElem_cons hj, List.take_append_drop]
  have hl : (V.mks k (l.take j)).length = j := by rw [V.mks_len, List.length_take]; omega
  have e2 : V.mks k l = V.mks k (l.take j) ++ V.mks (k + 3 * V.ws (l.take j)) (x :: l.drop (j + 1)) := by
    conv => lhs; rw [e]
    rw [V.mks_app]
  rw [e2, List.getElem?_append_right (by omega), hl, Nat.sub_self, V.mks]
  rfl
/-! cells -/
def Ce.w (c : Ce) : Nat := 3 * c.val.w + 1
def Ce.ws : List Ce → Nat
  | [] => 0
  | c :: l => c.w + Ce.ws l
def Ce.mk' (k : Nat) (c : Ce) : Ce := ⟨mtx k, V.mk' (k + 1) c.val⟩
def Ce.mks : Nat → List Ce → List Ce
  | _, [] => []
  | k, c :: l => Ce.mk' k c :: Ce.mks (k + c.w) l
theorem Ce.mks_len (l : List Ce) : ∀ k, (Ce.mks k l).length = l.length := by
  induction l with
  | nil => intro k; rfl
  | cons x l ih => intro k; rw [Ce.mks, List.length_cons, List.length_cons, ih]
theorem Ce.ws_app (a b : List Ce) : Ce.ws (a ++ b) = Ce.ws a + Ce.ws b := by
  induction a with
  | nil => rw [List.nil_append, Ce.ws]; omega
  | cons x a ih => rw [List.cons_append, Ce.ws, Ce.ws, ih]; omega
theorem Ce.mks_app (a b : List Ce) : ∀ k, Ce.mks k (a ++ b) = Ce.mks k a ++ Ce.mks (k + Ce.ws a) b := by
  induction a with
  | nil => intro k; simp [Ce.mks, Ce.ws]
  | cons x a ih => intro k; rw [List.cons_append, Ce.mks, Ce.mks, ih, List.cons_append, Ce.ws, show k + x.w + Ce.ws a = k + (x.w + Ce.ws a) by omega]
def Ce.upto (k : Nat) (l : List Ce) (j : Nat) : List Ce := Ce.mks k (l.take j) ++ l.drop j
theorem Ce.ws_take_succ {l : List Ce} {j : Nat} {x : Ce} (h : l[j]? = some x) : Ce.ws (l.take (j + 1)) = Ce.ws (l.take j) + x.w := by
  rw [List.take_add_one, h, Ce.ws_app]; simp [Ce.ws]
theorem Ce.ws_take_le (l : List Ce) (j : Nat) : Ce.ws (l.take j) ≤ Ce.ws l := by
  have := Ce.ws_app (l.take j) (l.drop j)
  rw [List.take_append_drop] at this; omega
theorem Ce.upto_zero (k : Nat) (l : List Ce) : Ce.upto k l 0 = l := by simp [Ce.upto, Ce.mks]
theorem Ce.upto_all (k : Nat) (l : List Ce) : Ce.upto k l l.length = Ce.mks k l := by simp [Ce.upto]
theorem Ce.upto_len (k : Nat) (l : List Ce) (j : Nat) : (Ce.upto k l j).length = l.length := by simp only [Ce.upto, List.length_append, Ce.mks_len, List.length_take, List.length_drop]; omega
theorem Ce.upto_at {k : Nat} {l : List Ce} {j : Nat} {x : Ce} (h : l[j]? = some x) : (Ce.upto k l j)[j]? = some x := by
  have hj := (List.getElem?_eq_some_iff.1 h).1
  rw [Ce.upto, List.getElem?_append_right (by rw [Ce.mks_len, List.length_take]; omega), Ce.mks_len, List.length_take, List.getElem?_drop]
  rw [show j + (j - min j l.length) = j by omega]; exact h
theorem Ce.upto_set {k : Nat} {l : List Ce} {j : Nat} {x : Ce} (h : l[j]? = some x) : (Ce.upto k l j).set j (Ce.mk' (k + Ce.ws (l.take j)) x) = Ce.upto k l (j + 1) := by
  have hj := (List.getElem?_eq_some_iff.1 h).1
  have e : l.drop j = x :: l.drop (j + 1) := by rw [List.drop_eq_getElem_cons hj, (List.getElem?_eq_some_iff.1 h).2]
  have hl : (Ce.mks k (l.take j)).length = j := by rw [Ce.mks_len, List.length_take]; omega
  rw [Ce.upto, Ce.upto, e, List.take_add_one, h, Option.toList_some, Ce.mks_app, List.set_append_right _ _ (by omega), hl, Nat.sub_self, List.set_cons_zero, List.append_assoc]
  rfl
theorem Ce.mks_at {k : Nat} {l : List Ce} {j : Nat} {x : Ce} (h : l[j]? = some x) : (Ce.mks k l)[j]? = some (Ce.mk' (k + Ce.ws (l.take j)) x) := by
  have hj := (List.getElem?_eq_some_iff.1 h).1
  have e : l = l.take j ++ x :: l.drop (j + 1) := by
    rw [← (List.getElem?_eq_some_iff.1 h).2, ← List.drop_eq_getElem_cons hj, List.take_append_drop]
  have hl : (Ce.mks k (l.take j)).length = j := by rw [Ce.mks_len, List.length_take]; omega
  have e2 : Ce.mks k l = Ce.mks k (l.take j) ++ Ce.mks (k + Ce.ws (l.take j)) (x :: l.drop (j + 1)) := by
    conv => lhs; rw [e]
    rw [Ce.mks_app]
  rw [e2, List.getElem?_append_right (by omega), hl, Nat.sub_self, Ce.mks]
  rfl
end Go.Proofs.YtlmonnhgjnjniaaDoor

/- Marks written into values and cells of one's own, and read again. -/
namespace Go.Proofs.YtlmonnhgjnjniaaDoor
open Go.RowKit
set_option linter.unusedVariables false
set_option linter.unusedSimpArgs false
/-- the figures of n ahead of l -/
def txtOf (n : Nat) (l : List UInt8) : List UInt8 := if n = 0 then l else Lib.decDigits n ++ l
theorem txtOf_step {n : Nat} (h : 0 < n) (l : List UInt8) : txtOf (n / 10) (UInt8.ofNat (48 + n % 10) :: l) = txtOf n l := by
  unfold txtOf
  rw [if_neg (show ¬ n = 0 by omega)]
  by_cases hn : n < 10
  · rw [if_pos (by omega), dec_small hn, Nat.mod_eq_of_lt hn]; rfl
  · rw [if_neg (by omega), dec_big hn, List.append_assoc]; rfl
theorem txtOf_len (n : Nat) (l : List UInt8) : l.length ≤ (txtOf n l).length := by
  unfold txtOf; split <;> simp
set_option maxRecDepth 20000 in
theorem markText_calls (k : Nat) (w : World) (h0 : 1 ≤ k) (h1 : k ≤ 9223372036854775807) : Calls Tryd.prog 55 #[.int .i64 k] w fun e w' => e = .returned (.string (mtx k)) ∧ Keep Any w w' := by
  have kc := one_byte
  have hlen := dec_len k (by omega)
  have b0 : decide ((k : Int) ≤ 0) = false := by rw [decide_eq_false_iff_not]; omega
  have b1 : (0 : Int) < (k : Int) := by omega
  go_enter Tryd.func55, Tryd.ntmps55
  go_wp2
  go_loopg [0, 3] (k + 1) (fun g x y wr => ∃ (n : Nat) (l : List UInt8), n ≤ k ∧ x = .int .i64 n ∧ y = .string ⟨l.toArray⟩ ∧ n < g ∧ txtOf n l = Lib.decDigits k ∧ l.length ≤ 20 ∧ Keep Any w wr)
  case atStart => exact ⟨k, [], Nat.le_refl _, rfl, rfl, by omega, by unfold txtOf; rw [if_neg (by omega), List.append_nil], by simp, Keep.refl _ _⟩
  case round =>
    obtain ⟨n, l, hn, rfl, rfl, hg, ht, hl, hK⟩ := hrel
    have HG := Lib.hid hg
    have HT := Lib.hid ht
    clear hg ht b0 b1
    by_cases hz : 0 < n
    · have c1 : (0 : Int) < (n : Int) := by omega
      go_wp2
      go_roundg (gk - 1)
      case rel =>
        refine ⟨n / 10, UInt8.ofNat (48 + n % 10) :: l, by omega, by go_num, ?_, by have := HG.out; omega, by rw [txtOf_step hz, HT.out], ?_, hK.alloc _⟩
        · rw [UInt8.ofNat_add]
          exact congrArg Value.string (bytes_app [48 + UInt8.ofNat (n % 10)] l)
        · have := txtOf_len (n / 10) (UInt8.ofNat (48 + n % 10) :: l)
          rw [txtOf_step hz, HT.out] at this
          omega
      case measure => have := HG.out; omega
    · have HZ := Lib.hid (show n = 0 by omega)
      go_wp2
      go_ret
      have e : l = Lib.decDigits k := by have := HT.out; rw [HZ.out] at this; exact this
      exact ⟨congrArg (fun s => Ending.returned (.string s)) (by rw [e]; exact bytes_app [109] _), hK⟩
theorem markText_int (n : Int) (k : Nat) (w : World) (hn : n = k) (h0 : 1 ≤ k) (h1 : k ≤ 9223372036854775807) : Calls Tryd.prog 55 #[.int .i64 n] w fun e w' => e = .returned (.string (mtx k)) ∧ Keep Any w w' := by
  subst hn; exact markText_calls k w h0 h1
theorem svs_lens {w : World} {ok : Nat → Prop} {a : Option Addr} {n c : Nat} {l : List V} (h : SVs w ok (.slice a n c) l) {j : Nat} {x : V} (hx : l[j]? = some x) :
    ∃ (b : Nat) (T : TypeId) (cur : Array Value) (gj : Nat → Prop) (a' : Option Addr) (c' : Nat), a = some ⟨b, 0, none⟩ ∧ ok b ∧ (∀ k, gj k → ok k ∧ k ≠ b) ∧ w.heap[b]? = some (.cells cur T (0, 0)) ∧ j * 4 + 4 ≤ cur.size ∧
      cur[j * 4]? = some (.int .i64 x.kind) ∧ cur[j * 4 + 1]? = some (.int .i64 x.num) ∧ cur[j * 4 + 2]? = some (.string x.text) ∧ cur[j * 4 + 3]? = some (.slice a' x.list.length c') ∧ SVs w gj (.slice a' x.list.length c') x.list ∧
      ∀ (w' : World) (cur' : Array Value) (y : V), w'.heap[b]? = some (.cells cur' T (0, 0)) → (∀ i, i < j * 4 ∨ j * 4 + 4 ≤ i → cur'[i]? = cur[i]?) → cur'[j * 4]? = some (.int .i64 y.kind) → cur'[j * 4 + 1]? = some (.int .i64 y.num) → cur'[j * 4 + 2]? = some (.string y.text) → cur'[j * 4 + 3]? = some (.slice a' y.list.length c') →
        I64 y.kind → I64 y.num → Fits y.text → SVs w' gj (.slice a' y.list.length c') y.list → Keep (fun k => k ≠ b ∧ ¬ gj k) w w' → SVs w' ok (.slice a n c) (l.set j y) := by
  obtain ⟨b, T, cur, gj, cs, h1, h2, h3, h4, h5, h6, h7, h8⟩ := SSl.lens (R := SV) (fun h k => h.keep k) h hx
  obtain ⟨s, rfl, k1, k2, k3, k4⟩ := SV.iff.1 h5
  obtain ⟨a', c', rfl, k5⟩ := k4
  have h9 := h7 3 _ rfl
  refine ⟨b, T, cur, gj, a', c', h1, h2, h3, h4, by have := (Array.getElem?_eq_some_iff.1 h9).1; omega, h7 0 _ rfl, h7 1 _ rfl, h7 2 _ rfl, h9, ⟨a', c', rfl, k5⟩, fun w' cur' y m1 m2 m3 m4 m5 m6 m7 m8 m9 m10 m11 => ?_⟩
  refine h8 w' cur' y [.int .i64 y.kind, .int .i64 y.num, .string y.text, .slice a' y.list.length c'] m1 m2 (SV.iff.2 ⟨_, rfl, m7, m8, m9, m10⟩) rfl (fun i u hu => ?_) m11
  rcases i with _ | _ | _ | _ | i
  · cases hu; exact m3
  · cases hu; exact m4
  · cases hu; exact m5
  · cases hu; exact m6
  · cases hu
abbrev Not' (ok : Nat → Prop) (k : Nat) : Prop := ¬ ok k
/-- marked from k on; where the next begins -/
def MarkVs (l : List V) : Prop := ∀ (s : Value) (n : Int) (k : Nat) (w : World) (ok : Nat → Prop), n = k → SVs w ok s l → (∀ i, ok i → i < w.heap.size) → 1 ≤ k → k + 3 * V.ws l ≤ 4611686018427387904 →
  Calls Tryd.prog 28 #[s, .int .i64 n] w fun e w' => e = .returned (.int .i64 (k + 3 * V.ws l : Nat)) ∧ SVs w' ok s (V.mks k l) ∧ Keep (Not' ok) w w'
theorem set3 {cur : Array Value} {o : Nat} {u v x : Value} (h : o + 4 ≤ cur.size) : (∀ i, i < o ∨ o + 4 ≤ i → (((cur.setIfInBounds o u).setIfInBounds (o + 1) v).setIfInBounds (o + 2) x)[i]? = cur[i]?) ∧
    (((cur.setIfInBounds o u).setIfInBounds (o + 1) v).setIfInBounds (o + 2) x)[o]? = some u ∧ (((cur.setIfInBounds o u).setIfInBounds (o + 1) v).setIfInBounds (o + 2) x)[o + 1]? = some v ∧
    (((cur.setIfInBounds o u).setIfInBounds (o + 1) v).setIfInBounds (o + 2) x)[o + 2]? = some x ∧ (((cur.setIfInBounds o u).setIfInBounds (o + 1) v).setIfInBounds (o + 2) x)[o + 3]? = cur[o + 3]? := by
  refine ⟨fun i hi => ?_, ?_, ?_, ?_, ?_⟩
  · rw [Array.getElem?_setIfInBounds_ne (by omega), Array.getElem?_setIfInBounds_ne (by omega), Array.getElem?_setIfInBounds_ne (by omega)]
  · rw [Array.getElem?_setIfInBounds_ne (by omega), Array.getElem?_setIfInBounds_ne (by omega)]
    exact Array.getElem?_setIfInBounds_self_of_lt (by omega)
  · rw [Array.getElem?_setIfInBounds_ne (by omega)]
    exact Array.getElem?_setIfInBounds_self_of_lt (by simp; omega)
  · exact Array.getElem?_setIfInBounds_self_of_lt (by simp; omega)
  · rw [Array.getElem?_setIfInBounds_ne (by omega), Array.getElem?_setIfInBounds_ne (by omega), Array.getElem?_setIfInBounds_ne (by omega)]
theorem set2 {cur : Array Value} {o : Nat} {u v : Value} (i : Nat) (hi : i ≠ o ∧ i ≠ o + 1) : ((cur.setIfInBounds o u).setIfInBounds (o + 1) v)[i]? = cur[i]? := by
  rw [Array.getElem?_setIfInBounds_ne (by omega), Array.getElem?_setIfInBounds_ne (by omega)]
set_option maxHeartbeats 2000000 in
set_option maxRecDepth 20000 in
theorem markVs_of (l : List V) (ih : ∀ x, x ∈ l → MarkVs x.list) : MarkVs l := by
  intro s n k w ok hn hs hok hk hb
  have IH := Lib.hid ih
  have HS0 := Lib.hid hs
  have MT := Lib.hid markText_int
  have HOK := Lib.hid hok
  subst hn
  clear ih hok
  obtain ⟨a, c, rfl, hc, hm, _⟩ := hs
  go_enter Tryd.func28, Tryd.ntmps28
  go_wp2
  go_loopg [1, 5] (l.length + 1) (fun g x y wr => ∃ j : Nat, j ≤ l.length ∧ x = .int .i64 (k + 3 * V.ws (l.take j) : Nat) ∧ y = .int .i64 j ∧ g = l.length + 1 - j ∧ SVs wr ok (.slice a l.length c) (V.upto k l j) ∧ Keep (Not' ok) w wr)
  case atStart => exact ⟨0, by omega, by simp [V.ws], rfl, rfl, by rw [V.upto_zero]; exact HS0.out, Keep.refl _ _⟩
  case round =>
    obtain ⟨j, hj, rfl, rfl, hg, hS, hK⟩ := hrel
    have HG := Lib.hid hg
    have HS := Lib.hid hS
    have HK := Lib.hid hK
    clear hg hS hK
    obtain ⟨q, hq⟩ : ∃ q, k + 3 * V.ws (l.take j) = q := ⟨_, rfl⟩
    have HQ := Lib.hid hq
    have hqb : q ≤ 4611686018427387904 := by have := V.ws_take_le l j; omega
    have hq1 : 1 ≤ q := by omega
    rw [hq]
    clear hq
    by_cases hlt : j < l.length
    · have hx : l[j]? = some l[j] := List.getElem?_eq_getElem hlt
      have HX := Lib.hid hx
      obtain ⟨b, T, cur, gj, a', c', rfl, hob, hsub, hblk, hsz, hc0, hc1, hc2, hc3, hsv, hlens⟩ := svs_lens HS.out (V.upto_at hx)
      have HW := Lib.hid (V.ws_take_succ hx)
      have hwle := V.ws_take_le l (j + 1)
      have hxw := V.w_eq l[j]
      have IX := Lib.hid (IH.out l[j] (List.mem_of_getElem? hx))
      have hqx : q + 3 * l[j].w ≤ 4611686018427387904 := by have := HW.out; have := HQ.out; omega
      have HXW := Lib.hid hxw
      have hqx2 : q + 3 + 3 * V.ws l[j].list ≤ 4611686018427387904 := by omega
      clear hxw hx
      generalize l[j] = x at *
      have HB := Lib.hid hblk
      have HSV := Lib.hid hsv
      have HL := Lib.hid hlens
      have HSUB := Lib.hid hsub
      have HC2 := Lib.hid hc2
      have HC3 := Lib.hid hc3
      have y0 : wr.cell? ⟨b, j * 4, none⟩ = some (.int .i64 x.kind) := (blk_cell hblk _).trans hc0
      have y1 : wr.cell? ⟨b, j * 4 + 1, none⟩ = some (.int .i64 x.num) := (blk_cell hblk _).trans hc1
      have f0 := blk_frozen hblk (j * 4)
      have f1 := blk_frozen hblk (j * 4 + 1)
      have zb := blk_lt hblk
      clear hblk hsv hlens hsub hc0 hc1 hc2 hc3
      go_wp2_with (first | (go_at_call 55; refine (MT.out _ (q + 2) _ (by omega) (by omega) (by omega)).mono ?_; rintro e w2 ⟨rfl, hK2⟩; have HK2 := Lib.hid hK2; have HB2 := Lib.hid (blk_keep hK2 (blk_set (blk_set HB.out (j * 4) _) (j * 4 + 1) _) trivial); have y2 : w2.cell? ⟨b, j * 4 + 2, none⟩ = some (.string x.text) := (blk_cell HB2.out _).trans ((set2 _ (by omega)).trans HC2.out); have y3 : w2.cell? ⟨b, j * 4 + 3, none⟩ = some (.slice a' x.list.length c') := (blk_cell HB2.out _).trans ((set2 _ (by omega)).trans HC3.out); have f2 := blk_frozen HB2.out (j * 4 + 2); have zb2 := blk_lt HB2.out; clear hK2 y0 y1 f0 f1) | (go_at_call 28; refine (IX.out _ _ (q + 3) _ gj (by omega) (SVs.keep HSV.out (((((Keep.refl _ _).set _ _ (fun _ h => (HSUB.out _ h).2 rfl)).set _ _ (fun _ h => (HSUB.out _ h).2 rfl)).trans HK2.out.any).set _ _ (fun _ h => (HSUB.out _ h).2 rfl))) (fun i hi => by have h1 := HOK.out i (HSUB.out i hi).1; have h2 := HK.out.size; have h3 := HK2.out.size; simp at h3 ⊢; omega) (by omega) hqx2).mono ?_; rintro e w3 ⟨rfl, hS3, hK3⟩; have HS3 := Lib.hid hS3; have HK3 := Lib.hid hK3; have HB3 := Lib.hid (blk_keep hK3 (blk_set HB2.out (j * 4 + 2) _) (fun h => (HSUB.out b h).2 rfl)); clear hS3 hK3))
      have s3 := set3 (u := .int .i64 q) (v := .int .i64 ((q : Int) + 1)) (x := .string (mtx (q + 2))) hsz
      have S3 := Lib.hid s3
      have KW := Lib.hid (show Keep (fun k => k ≠ b ∧ ¬ gj k) wr w3 from (((((Keep.refl _ _).set _ _ (fun _ h => h.1 rfl)).set _ _ (fun _ h => h.1 rfl)).trans HK2.out.any).set _ _ (fun _ h => h.1 rfl)).trans (HK3.out.mono fun _ _ h => h.2))
      clear s3 y2 y3 f2
      go_roundg (gk - 1)
      case rel =>
        refine ⟨j + 1, by omega, ?_, by go_num, by have := HG.out; omega, ?_, HK.out.then KW.out fun i _ hi => ⟨fun e => hi (e ▸ hob), fun h => hi (HSUB.out i h).1⟩⟩
        · refine congrArg (Value.int .i64) ?_
          have h1 := HW.out
          have h2 := HQ.out
          have h3 := HXW.out
          push_cast
          omega
        · rw [← V.upto_set HX.out, HQ.out, V.mk_eq]
          refine HL.out w3 _ ⟨q, ((q + 1 : Nat) : Int), mtx (q + 2), V.mks (q + 3) x.list⟩ HB3.out S3.out.1 S3.out.2.1 (S3.out.2.2.1.trans (by go_num)) S3.out.2.2.2.1 (S3.out.2.2.2.2.trans (by rw [HC3.out]; simp only [V.mks_len])) ⟨by show (-9223372036854775808 : Int) ≤ (q : Int); omega, by show (q : Int) ≤ 9223372036854775807; omega⟩ ⟨by show (-9223372036854775808 : Int) ≤ ((q + 1 : Nat) : Int); omega, by show ((q + 1 : Nat) : Int) ≤ 9223372036854775807; omega⟩ (mtx_fits _ (by omega)) (by simp only [V.mks_len]; exact HS3.out) KW.out
      case measure => have := HG.out; omega
    · have HJ := Lib.hid (show j = l.length by omega)
      go_wp2
      go_ret
      exact ⟨ret_int (by have := HQ.out; rw [HJ.out, List.take_length] at this; omega), by have := HS.out; rw [HJ.out, V.upto_all] at this; exact this, HK.out⟩
end Go.Proofs.YtlmonnhgjnjniaaDoor

/- Marks read again: each place holds what was written. -/
namespace Go.Proofs.YtlmonnhgjnjniaaDoor
open Go.RowKit
set_option linter.unusedVariables false
set_option linter.unusedSimpArgs false
theorem markVs_all (n : Nat) : ∀ l, V.ws l = n → MarkVs l := by
  induction n using Nat.strongRecOn with
  | _ n ih =>
    intro l hl
    refine markVs_of l fun x hx => ih (V.ws x.list) ?_ x.list rfl
    obtain ⟨j, hj, rfl⟩ := List.getElem_of_mem hx
    have := V.ws_get (List.getElem?_eq_getElem hj)
    have := V.w_eq l[j]
    omega
theorem markVs_calls (l : List V) : MarkVs l := markVs_all _ l rfl
/-- what was marked from k on is held -/
def HeldVs (l : List V) : Prop := ∀ (s : Value) (n : Int) (k : Nat) (w : World), n = k → Vals w Any s (V.mks k l) → 1 ≤ k → k + 3 * V.ws l ≤ 4611686018427387904 →
  Calls Tryd.prog 30 #[s, .int .i64 n] w (Num (k + 3 * V.ws l : Nat) w)
set_option maxHeartbeats 2000000 in
set_option maxRecDepth 20000 in
theorem heldVs_of (l : List V) (ih : ∀ x, x ∈ l → HeldVs x.list) : HeldVs l := by
  intro s n k w hn hs hk hb
  have IH := Lib.hid ih
  have HS := Lib.hid hs
  have MT := Lib.hid markText_int
  subst hn
  clear ih
  obtain ⟨ad, c, rfl, hc, hm, _⟩ := hs
  rw [V.mks_len] at *
  go_enter Tryd.func30, Tryd.ntmps30
  go_wp2
  go_loopg [1, 5] (l.length + 1) (fun g x y wr => ∃ j : Nat, j ≤ l.length ∧ x = .int .i64 (k + 3 * V.ws (l.take j) : Nat) ∧ y = .int .i64 j ∧ g = l.length + 1 - j ∧ Keep Any w wr)
  case atStart => exact ⟨0, by omega, by simp [V.ws], rfl, rfl, Keep.refl _ _⟩
  case round =>
    obtain ⟨j, hj, rfl, rfl, hg, hK⟩ := hrel
    have HG := Lib.hid hg
    have HK := Lib.hid hK
    clear hg hK
    obtain ⟨q, hq⟩ : ∃ q, k + 3 * V.ws (l.take j) = q := ⟨_, rfl⟩
    have HQ := Lib.hid hq
    have hqb : q ≤ 4611686018427387904 := by have := V.ws_take_le l j; omega
    have hq1 : 1 ≤ q := by omega
    rw [hq]
    clear hq
    by_cases hlt : j < l.length
    · have hx : l[j]? = some l[j] := List.getElem?_eq_getElem hlt
      have HX := Lib.hid hx
      have hmx := V.mks_at (k := k) hx
      rw [HQ.out, V.mk_eq] at hmx
      obtain ⟨ad, sa, sc, rfl, hvx, c0, c1, c2, c3⟩ := vals_at HS.out HK.out hmx
      have HW := Lib.hid (V.ws_take_succ hx)
      have hwle := V.ws_take_le l (j + 1)
      have hxw := V.w_eq l[j]
      have IX := Lib.hid (IH.out l[j] (List.mem_of_getElem? hx))
      have hqx : q + 3 * l[j].w ≤ 4611686018427387904 := by have := HW.out; have := HQ.out; omega
      have HXW := Lib.hid hxw
      have hqx2 : q + 3 + 3 * V.ws l[j].list ≤ 4611686018427387904 := by omega
      clear hxw hx hmx
      generalize l[j] = x at *
      obtain ⟨vs, ve, _, _, _, hvl⟩ := VR.iff.1 hvx
      simp only [V.mks_len, List.cons.injEq, and_true, true_and] at c3 hvx c1 ve
      subst ve
      rw [show ((q + 1 : Nat) : Int) = (q : Int) + 1 by omega] at c1
      have HVL := Lib.hid hvl
      clear hvx hvl
      have e0 : ((q : Int) != (q : Int)) = false := by simp
      have e1 : ((q : Int) + 1 != (q : Int) + 1) = false := by simp
      have e2 : ((mtx (q + 2)).toList != (mtx (q + 2)).toList) = false := by simp
      have C2 := Lib.hid c2
      have C3 := Lib.hid c3
      go_wp2
      go_region_with (go_at_call 55; refine (MT.out _ (q + 2) _ (by omega) (by omega) (by omega)).mono ?_; rintro e w2 ⟨rfl, hK2⟩; have c2' := hK2.cell (p := ⟨(ad.add (j * 4)).block, (ad.add (j * 4)).off + 2, none⟩) C2.out trivial; have c3' := hK2.cell (p := ⟨(ad.add (j * 4)).block, (ad.add (j * 4)).off + 3, none⟩) C3.out trivial; have HK2 := Lib.hid hK2; clear hK2)
      all_goals
        go_wp2_with (go_at_call 30; refine (IX.out _ _ (q + 3) _ (by omega) (Vals.keep HVL.out ((Keep.refl Any wr).drew.trans HK2.out)) (by omega) hqx2).mono ?_; rintro e w3 ⟨rfl, hK3⟩; have HK3 := Lib.hid hK3; clear hK3)
        go_roundg (gk - 1)
        case rel =>
          refine ⟨j + 1, by omega, ?_, by go_num, by have := HG.out; omega, HK.out.trans (((Keep.refl Any wr).drew.trans HK2.out).trans HK3.out)⟩
          refine congrArg (Value.int .i64) ?_
          have h1 := HW.out
          have h2 := HQ.out
          have h3 := HXW.out
          push_cast
          omega
        case measure => have := HG.out; omega
    · have HJ := Lib.hid (show j = l.length by omega)
      go_wp2
      go_ret
      exact ⟨ret_int (by have := HQ.out; rw [HJ.out, List.take_length] at this; omega), HK.out⟩
theorem heldVs_all (n : Nat) : ∀ l, V.ws l = n → HeldVs l := by
  induction n using Nat.strongRecOn with
  | _ n ih =>
    intro l hl
    refine heldVs_of l fun x hx => ih (V.ws x.list) ?_ x.list rfl
    obtain ⟨j, hj, rfl⟩ := List.getElem_of_mem hx
    have := V.ws_get (List.getElem?_eq_getElem hj)
    have := V.w_eq l[j]
    omega
theorem heldVs_calls (l : List V) : HeldVs l := heldVs_all _ l rfl
end Go.Proofs.YtlmonnhgjnjniaaDoor

/- Marks in texts and in a reply, written and read again. -/
namespace Go.Proofs.YtlmonnhgjnjniaaDoor
open Go.RowKit
set_option linter.unusedVariables false
set_option linter.unusedSimpArgs false
def tmks : Nat → List ByteArray → List ByteArray
  | _, [] => []
  | k, _ :: l => mtx k :: tmks (k + 1) l
theorem tmks_len (l : List ByteArray) : ∀ k, (tmks k l).length = l.length := by
  induction l with
  | nil => intro k; rfl
  | cons x l ih => intro k; rw [tmks, List.length_cons, List.length_cons, ih]
theorem tmks_at : ∀ (l : List ByteArray) (k j : Nat), j < l.length → (tmks k l)[j]? = some (mtx (k + j))
  | [], _, _, h => by simp at h
  | x :: l, k, 0, _ => by rw [tmks]; rfl
  | x :: l, k, j + 1, h => by
    rw [tmks, List.getElem?_cons_succ, tmks_at l (k + 1) j (by simp only [List.length_cons] at h; omega), show k + 1 + j = k + (j + 1) by omega]
/-- the list when the first j are marked -/
def tupto (k : Nat) (l : List ByteArray) (j : Nat) : List ByteArray := (tmks k l).take j ++ l.drop j
theorem tupto_zero (k : Nat) (l : List ByteArray) : tupto k l 0 = l := by simp [tupto]
theorem tupto_all (k : Nat) (l : List ByteArray) : tupto k l l.length = tmks k l := by rw [tupto, List.drop_length, List.append_nil, List.take_of_length_le (by rw [tmks_len]; omega)]
theorem tupto_at {k : Nat} {l : List ByteArray} {j : Nat} (h : j < l.length) : (tupto k l j)[j]? = some l[j] := by
  rw [tupto, List.getElem?_append_right (by rw [List.length_take]; omega), List.length_take, tmks_len, List.getElem?_drop, show j + (j - min j l.length) = j by omega]
  exact List.getElem?_eq_getElem h
theorem tupto_set {k : Nat} {l : List ByteArray} {j : Nat} (h : j < l.length) : (tupto k l j).set j (mtx (k + j)) = tupto k l (j + 1) := by
  have e : l.drop j = l[j] :: l.drop (j + 1) := List.drop_eq_getElem_cons h
  have hl : ((tmks k l).take j).length = j := by rw [List.length_take, tmks_len]; omega
  rw [tupto, tupto, e, List.take_add_one, tmks_at l k j h, Option.toList_some, List.set_append_right _ _ (by omega), hl, Nat.sub_self, List.set_cons_zero, List.append_assoc]
  rfl
theorem sstrs_lens {w : World} {ok : Nat → Prop} {a : Option Addr} {n c : Nat} {l : List ByteArray} (h : SStrs w ok (.slice a n c) l) {j : Nat} {x : ByteArray} (hx : l[j]? = some x) :
    ∃ (b : Nat) (T : TypeId) (cur : Array Value), a = some ⟨b, 0, none⟩ ∧ ok b ∧ w.heap[b]? = some (.cells cur T (0, 0)) ∧ j < cur.size ∧ cur[j]? = some (.string x) ∧
      ∀ (w' : World) (y : ByteArray), w'.heap[b]? = some (.cells (cur.setIfInBounds j (.string y)) T (0, 0)) → Fits y → Keep (fun k => k ≠ b) w w' → SStrs w' ok (.slice a n c) (l.set j y) := by
  obtain ⟨b, T, cur, gj, cs, h1, h2, h3, h4, h5, h6, h7, h8⟩ := SSl.lens (R := SStr) (fun h _ => h) h hx
  obtain ⟨rfl, k0⟩ := h5
  have h9 := h7 0 _ rfl
  rw [Nat.mul_one, Nat.add_zero] at h9
  have hj := (Array.getElem?_eq_some_iff.1 h9).1
  refine ⟨b, T, cur, h1, h2, h4, hj, h9, fun w' y m1 m2 m3 => ?_⟩
  refine h8 w' _ y [.string y] m1 (fun i hi => by rw [Array.getElem?_setIfInBounds_ne (by omega)]) ⟨rfl, m2⟩ rfl (fun i u hu => ?_) (m3.mono fun _ _ h => h.1)
  rcases i with _ | i
  · cases hu; rw [Nat.mul_one, Nat.add_zero]; exact Array.getElem?_setIfInBounds_self_of_lt hj
  · cases hu
set_option maxHeartbeats 4000000 in
set_option maxRecDepth 20000 in
theorem markStrs_calls (l : List ByteArray) (s : Value) (n : Int) (k : Nat) (w : World) (ok : Nat → Prop) (hn : n = k) (hs : SStrs w ok s l) (hk : 1 ≤ k) (hb : k + l.length ≤ 4611686018427387904) :
    Calls Tryd.prog 27 #[s, .int .i64 n] w fun e w' => e = .returned (.int .i64 (k + l.length : Nat)) ∧ SStrs w' ok s (tmks k l) ∧ Keep (Not' ok) w w' := by
  have HS0 := Lib.hid hs
  have MT := Lib.hid markText_int
  subst hn
  obtain ⟨a, c, rfl, hc, hm, _⟩ := hs
  go_enter Tryd.func27, Tryd.ntmps27
  go_wp2
  go_loopg [1, 5] (l.length + 1) (fun g x y wr => ∃ j : Nat, j ≤ l.length ∧ x = .int .i64 (k + j : Nat) ∧ y = .int .i64 j ∧ g = l.length + 1 - j ∧ SStrs wr ok (.slice a l.length c) (tupto k l j) ∧ Keep (Not' ok) w wr)
  case atStart => exact ⟨0, by omega, rfl, rfl, rfl, by rw [tupto_zero]; exact HS0.out, Keep.refl _ _⟩
  case round =>
    obtain ⟨j, hj, rfl, rfl, hg, hS, hK⟩ := hrel
    have HG := Lib.hid hg
    have HS := Lib.hid hS
    have HK := Lib.hid hK
    clear hg hS hK
    by_cases hlt : j < l.length
    · obtain ⟨b, T, cur, rfl, hob, hblk, hsz, hc0, hlens⟩ := sstrs_lens HS.out (tupto_at hlt)
      have HB := Lib.hid hblk
      have HL := Lib.hid hlens
      have HC0 := Lib.hid hc0
      have zb := blk_lt hblk
      clear hblk hlens hc0
      generalize l[j] = x at *
      go_wp2_with (go_at_call 55; refine (MT.out _ (k + j) _ (by omega) (by omega) (by omega)).mono ?_; rintro e w1 ⟨rfl, hK1⟩; have HK1 := Lib.hid hK1; have HB1 := Lib.hid (blk_keep hK1 HB.out trivial); have y0 : w1.cell? ⟨b, j, none⟩ = some (.string x) := (blk_cell HB1.out _).trans HC0.out; have f0 := blk_frozen HB1.out j; have zb1 := blk_lt HB1.out; clear hK1)
      go_roundg (gk - 1)
      case rel =>
        refine ⟨j + 1, by omega, by go_num, by go_num, by have := HG.out; omega, ?_, HK.out.then ((HK1.out.any (ok := fun k => k ≠ b)).set _ _ (fun _ h => h rfl)) fun i _ hi => fun e => hi (e ▸ hob)⟩
        rw [← tupto_set hlt]
        exact HL.out _ (mtx (k + j)) (blk_set HB1.out j _) (mtx_fits _ (by omega)) ((HK1.out.any).set _ _ (fun _ h => h rfl))
      case measure => have := HG.out; omega
    · have HJ := Lib.hid (show j = l.length by omega)
      go_wp2
      go_ret
      exact ⟨ret_int (by rw [HJ.out]), by have := HS.out; rw [HJ.out, tupto_all] at this; exact this, HK.out⟩
set_option maxHeartbeats 4000000 in
set_option maxRecDepth 20000 in
theorem heldStrs_calls (l : List ByteArray) (s : Value) (n : Int) (k : Nat) (w : World) (hn : n = k) (hs : Strs w Any s (tmks k l)) (hk : 1 ≤ k) (hb : k + l.length ≤ 4611686018427387904) :
    Calls Tryd.prog 29 #[s, .int .i64 n] w (Num (k + l.length : Nat) w) := by
  have HS := Lib.hid hs
  have MT := Lib.hid markText_int
  subst hn
  obtain ⟨ad, c, rfl, hc, hm, _⟩ := hs
  rw [tmks_len] at *
  go_enter Tryd.func29, Tryd.ntmps29
  go_wp2
  go_loopg [1, 5] (l.length + 1) (fun g x y wr => ∃ j : Nat, j ≤ l.length ∧ x = .int .i64 (k + j : Nat) ∧ y = .int .i64 j ∧ g = l.length + 1 - j ∧ Keep Any w wr)
  case atStart => exact ⟨0, by omega, rfl, rfl, rfl, Keep.refl _ _⟩
  case round =>
    obtain ⟨j, hj, rfl, rfl, hg, hK⟩ := hrel
    have HG := Lib.hid hg
    have HK := Lib.hid hK
    clear hg hK
    by_cases hlt : j < l.length
    · obtain ⟨ad, rfl, hnm, c0⟩ := strs_at HS.out HK.out (tmks_at l k j hlt)
      have e0 : ((mtx (k + j)).toList != (mtx (k + j)).toList) = false := by simp
      have C0 := Lib.hid c0
      go_wp2
      go_region_with (go_at_call 55; refine (MT.out _ (k + j) _ (by omega) (by omega) (by omega)).mono ?_; rintro e w2 ⟨rfl, hK2⟩; have c0' := hK2.cell (p := ad.add j) C0.out trivial; have HK2 := Lib.hid hK2; clear hK2)
      all_goals
        go_wp2
        go_roundg (gk - 1)
        case rel => exact ⟨j + 1, by omega, by go_num, by go_num, by have := HG.out; omega, HK.out.trans ((Keep.refl Any wr).drew.trans HK2.out)⟩
        case measure => have := HG.out; omega
    · have HJ := Lib.hid (show j = l.length by omega)
      go_wp2
      go_ret
      exact ⟨ret_int (by rw [HJ.out]), HK.out⟩
theorem markReply_calls (r : Rp) (s1 s2 : Value) (n : Int) (k : Nat) (w : World) (ok1 ok2 : Nat → Prop) (hn : n = k) (h1 : SStrs w ok1 s1 r.names) (h2 : SVs w ok2 s2 r.row) (hd : ∀ i, ok1 i → ¬ ok2 i) (ho1 : ∀ i, ok1 i → i < w.heap.size) (ho2 : ∀ i, ok2 i → i < w.heap.size) (hk : 1 ≤ k) (hb : k + r.names.length + 3 * V.ws r.row ≤ 4611686018427387904) :
    Calls Tryd.prog 8 #[.agg #[.int .i64 r.kind, s1, s2, .int .i64 r.code, .bool r.more], .int .i64 n] w fun e w' => e = .returned (.int .i64 (k + r.names.length + 3 * V.ws r.row : Nat)) ∧ SStrs w' ok1 s1 (tmks k r.names) ∧ SVs w' ok2 s2 (V.mks (k + r.names.length) r.row) ∧ Keep (fun i => ¬ ok1 i ∧ ¬ ok2 i) w w' := by
  have H1 := Lib.hid h1
  have H2 := Lib.hid h2
  have HD := Lib.hid hd
  have O1 := Lib.hid ho1
  have O2 := Lib.hid ho2
  subst hn
  obtain ⟨a1, c1, rfl, _⟩ := h1
  obtain ⟨a2, c2, rfl, _⟩ := h2
  clear hd ho1 ho2
  have I1 := Lib.hid (markStrs_calls r.names)
  have I2 := Lib.hid (markVs_calls r.row)
  go_enter Tryd.func8, Tryd.ntmps8
  go_wp2_with (first | (go_at_call 27; refine (I1.out _ _ k _ ok1 rfl (SStrs.keep H1.out ((Keep.refl _ _).alloc _)) hk (by omega)).mono ?_; rintro e w2 ⟨rfl, hS2, hK2⟩; have S2 := Lib.hid hS2; have HK2 := Lib.hid hK2; have B2 := Lib.hid (blk_keep hK2 (blk_new _ _) (fun h => Nat.lt_irrefl _ (O1.out _ h))); obtain ⟨y0, y1, y2, y3, y4⟩ := at5 B2.out; have x0 := blk_lt B2.out; clear hS2 hK2) | (go_at_call 28; refine (I2.out _ _ (k + r.names.length) _ ok2 (by omega) (SVs.keep H2.out (((Keep.refl _ _).alloc _).trans (HK2.out.mono fun i _ hi h => HD.out i h hi))) (fun i hi => by have h1 := O2.out i hi; have h2 := HK2.out.size; rw [World.size_alloc] at h2; omega) (by omega) (by omega)).mono ?_; rintro e w3 ⟨rfl, hS3, hK3⟩; have S3 := Lib.hid hS3; have HK3 := Lib.hid hK3; clear hS3 hK3))
  go_ret
  exact ⟨rfl, SStrs.keep S2.out (HK3.out.mono fun i _ hi => HD.out i hi), S3.out, (((Keep.refl _ _).alloc _).trans (HK2.out.mono fun i _ hi => hi.1)).trans (HK3.out.mono fun i _ hi => hi.2)⟩
theorem heldReply_calls (r : Rp) (s1 s2 : Value) (n : Int) (k : Nat) (w : World) (hn : n = k) (h1 : Strs w Any s1 (tmks k r.names)) (h2 : Vals w Any s2 (V.mks (k + r.names.length) r.row)) (hk : 1 ≤ k) (hb : k + r.names.length + 3 * V.ws r.row ≤ 4611686018427387904) :
    Calls Tryd.prog 9 #[.agg #[.int .i64 r.kind, s1, s2, .int .i64 r.code, .bool r.more], .int .i64 n] w (Num (k + r.names.length + 3 * V.ws r.row : Nat) w) := by
  have H1 := Lib.hid h1
  have H2 := Lib.hid h2
  subst hn
  obtain ⟨a1, c1, rfl, _⟩ := h1
  obtain ⟨a2, c2, rfl, _⟩ := h2
  have I1 := Lib.hid (heldStrs_calls r.names)
  have I2 := Lib.hid (heldVs_calls r.row)
  go_enter Tryd.func9, Tryd.ntmps9
  go_wp2_with (first | (go_at_call 29; refine (I1.out _ _ k _ rfl (Strs.keep H1.out ((Keep.refl _ _).alloc _)) hk (by omega)).mono ?_; rintro e w2 ⟨rfl, hK2⟩; have HK2 := Lib.hid hK2; have B2 := Lib.hid (blk_keep hK2 (blk_new _ _) trivial); obtain ⟨y0, y1, y2, y3, y4⟩ := at5 B2.out; have x0 := blk_lt B2.out; clear hK2) | (go_at_call 30; refine (I2.out _ _ (k + r.names.length) _ (by omega) (Vals.keep H2.out (((Keep.refl _ _).alloc _).trans HK2.out)) (by omega) (by omega)).mono ?_; rintro e w3 ⟨rfl, hK3⟩; have HK3 := Lib.hid hK3; clear hK3))
  go_ret
  exact ⟨rfl, (((Keep.refl _ _).alloc _).trans HK2.out).trans HK3.out⟩
end Go.Proofs.YtlmonnhgjnjniaaDoor

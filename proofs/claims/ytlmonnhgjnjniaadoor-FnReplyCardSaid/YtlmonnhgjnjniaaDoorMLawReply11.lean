/- The drawing of numbers out of bytes: a number from 0 to n-1 comes of each pick, whatever the bytes. One of a list of texts, one of a list of numbers, drawn. A text many times: some text of bounded size. An own slice stays where another's block is written. A plain value drawn. -/
import Derived.Test.YtlmonnhgjnjniaaDoorMLawReply3
import Derived.Test.YtlmonnhgjnjniaaDoorMLawReply5
import Derived.Test.YtlmonnhgjnjniaaDoorMLawReply7
import Derived.Deep.AppendLies
import Derived.Deep.RegionLaw
/- The drawing of numbers out of bytes: a number from 0 to n-1 comes of each pick, whatever the bytes. -/
namespace Go.Proofs.YtlmonnhgjnjniaaDoor
open Go.RowKit
set_option linter.unusedVariables false
set_option linter.unusedSimpArgs false
/-- n bytes that can be read, none of them in the block b -/
def Byt (w : World) (b : Nat) (s : Value) (n : Nat) : Prop :=
  ∃ (a : Option Addr) (c : Nat), s = .slice a n c ∧ n ≤ c ∧ c ≤ 9223372036854775807 ∧ (0 < n → ∃ ad : Addr, a = some ad ∧ ad.block ≠ b ∧ ∀ i, i < n → ∃ x : Nat, x < 256 ∧ w.cell? (ad.add i) = some (.int .u8 x))
/-- the reader of them, in its own block -/
def Rdr (w : World) (b : Nat) (s : Value) (n p : Nat) : Prop := w.heap[b]? = some (.cells #[s, .int .i64 p] 74 (0, 0)) ∧ Byt w b s n
theorem Byt.keep {w w' : World} {b : Nat} {s : Value} {n : Nat} (h : Byt w b s n) (k : Keep (But b) w w') : Byt w' b s n := by
  obtain ⟨a, c, rfl, h1, h2, h3⟩ := h
  refine ⟨a, c, rfl, h1, h2, fun hn => ?_⟩
  obtain ⟨ad, rfl, hb, hf⟩ := h3 hn
  refine ⟨ad, rfl, hb, fun i hi => ?_⟩
  obtain ⟨x, hx, hc⟩ := hf i hi
  exact ⟨x, hx, k.cell hc (by rw [add_block]; exact hb)⟩
theorem xor_i64_nat (a b : Nat) (ha : a < 4611686018427387904) (hb : b < 4611686018427387904) : bits .xor .i64 (a : Int) (b : Int) = ((a ^^^ b : Nat) : Int) := by
  have hx : a ^^^ b < 2 ^ 62 := Nat.xor_lt_two_pow (by omega) (by omega)
  have h1 : (BitVec.ofInt 64 (a : Int)).toNat = a := by
    rw [BitVec.ofInt_natCast, BitVec.toNat_ofNat]; exact Nat.mod_eq_of_lt (by omega)
  have h2 : (BitVec.ofInt 64 (b : Int)).toNat = b := by
    rw [BitVec.ofInt_natCast, BitVec.toNat_ofNat]; exact Nat.mod_eq_of_lt (by omega)
  show IntKind.i64.wrap ((BitVec.ofInt 64 (a : Int) ^^^ BitVec.ofInt 64 (b : Int)).toNat : Int) = _
  rw [BitVec.toNat_xor, h1, h2]
  simp [IntKind.wrap, IntKind.bits, IntKind.signed]
  omega
theorem xor_shift (X : Int) (h0 : 0 ≤ X) (h1 : X < 4611686018427387904) : 0 ≤ bits .xor .i64 X (X / 64) := by
  obtain ⟨n, rfl⟩ := Int.eq_ofNat_of_zero_le h0
  have e : ((n : Int) / 64) = ((n / 64 : Nat) : Int) := by omega
  rw [e, xor_i64_nat n (n / 64) (by omega) (by omega)]
  omega
/-- a number was picked -/
def Picked (k : Int) (w : World) (b : Nat) (s : Value) (n p : Nat) (e : Ending) (w' : World) : Prop :=
  ∃ j : Int, e = .returned (.int .i64 j) ∧ 0 ≤ j ∧ (1 ≤ k → j < k) ∧ Rdr w' b s n (p + 1) ∧ Keep (But b) w w'
set_option maxHeartbeats 4000000 in
set_option maxRecDepth 20000 in
theorem pick_calls (k : Int) (w : World) (b : Nat) (s : Value) (n p : Nat) (h : Rdr w b s n p) (hn : n ≤ 2000) (hp : p ≤ 1000000) (hk : -1000000 ≤ k ∧ k ≤ 1000000) :
    Calls Tryd.prog 56 #[.pointer (some ⟨b, 0, none⟩), .int .i64 k] w (Picked k w b s n p) := by
  obtain ⟨hb, hs⟩ := h
  have HB := Lib.hid hb
  have HS := Lib.hid hs
  have y0 : w.cell? ⟨b, 0, none⟩ = some s := (blk_cell hb 0).trans rfl
  have y1 : w.cell? ⟨b, 1, none⟩ = some (.int .i64 p) := (blk_cell hb 1).trans rfl
  have f0 := blk_frozen hb 0
  have f1 := blk_frozen hb 1
  have zb := blk_lt hb
  have hR := Lib.hid (show ∀ w', Keep (But b) (w.setCell ⟨b, 1, none⟩ (.int .i64 ((p : Int) + 1))) w' → w'.heap[b]? = (w.setCell ⟨b, 1, none⟩ (.int .i64 ((p : Int) + 1))).heap[b]? → Rdr w' b s n (p + 1) ∧ Keep (But b) w w' from fun w' hk he => by
    have k1 : Keep (But b) w w' := ((Keep.refl _ _).set _ _ (fun _ h => h rfl)).trans hk
    exact ⟨⟨he.trans ((blk_set hb 1 _).trans rfl), hs.keep k1⟩, k1⟩)
  obtain ⟨a, c, rfl, h1, h2, h3⟩ := hs
  clear hb
  by_cases hk1 : k < 1
  · go_enter Tryd.func56, Tryd.ntmps56
    go_wp2
    go_ret
    exact ⟨0, rfl, by omega, fun h => by omega, hR.out _ (Keep.refl _ _) rfl⟩
  by_cases hn0 : n = 0
  · have q0 : ((n : Int) == 0) = true := by rw [hn0]; rfl
    clear hn0
    go_enter Tryd.func56, Tryd.ntmps56
    go_wp2
    go_ret
    exact ⟨0, rfl, by omega, fun h => by omega, hR.out _ (Keep.refl _ _) rfl⟩
  have q0 : ((n : Int) == 0) = false := by rw [beq_eq_false_iff_ne]; omega
  obtain ⟨ad, rfl, had, hf⟩ := h3 (by omega)
  have HF := Lib.hid hf
  have HAD := Lib.hid had
  clear hf h3
  by_cases hpn : p < n
  · obtain ⟨x, hx, hc⟩ := HF.out p hpn
    have hc2 := ((Keep.refl (But b) w).set ⟨b, 1, none⟩ (.int .i64 ((p : Int) + 1)) (fun _ h => h rfl)).cell hc (show But b _ by rw [add_block]; exact had)
    have cc : (p : Int) < (n : Int) := by omega
    clear hc had
    go_enter Tryd.func56, Tryd.ntmps56
    go_wp2
    go_ret
    exact ⟨(x : Int) % k, rfl, Int.emod_nonneg _ (by omega), fun _ => Int.emod_lt_of_pos _ (by omega), hR.out _ (Keep.refl _ _) rfl⟩
  · have cc : ¬ (p : Int) < (n : Int) := by omega
    obtain ⟨i1, hi1⟩ : ∃ i : Nat, i = p % n := ⟨_, rfl⟩
    obtain ⟨i2, hi2⟩ : ∃ i : Nat, i = (p * 7 + 3) % n := ⟨_, rfl⟩
    have l1 : i1 < n := hi1 ▸ Nat.mod_lt _ (by omega)
    have l2 : i2 < n := hi2 ▸ Nat.mod_lt _ (by omega)
    obtain ⟨x1, hx1, hc1⟩ := HF.out i1 l1
    obtain ⟨x2, hx2, hc2⟩ := HF.out i2 l2
    have hd1 := ((Keep.refl (But b) w).set ⟨b, 1, none⟩ (.int .i64 ((p : Int) + 1)) (fun _ h => h rfl)).cell hc1 (show But b _ by rw [add_block]; exact had)
    have hd2 := ((Keep.refl (But b) w).set ⟨b, 1, none⟩ (.int .i64 ((p : Int) + 1)) (fun _ h => h rfl)).cell hc2 (show But b _ by rw [add_block]; exact had)
    have e1 : (p : Int) % (n : Int) = (i1 : Int) := by rw [hi1]; rfl
    have e2 : ((p : Int) * 7 + 3) % (n : Int) = (i2 : Int) := by rw [hi2]; push_cast; rfl
    have n0 : (n : Int) ≠ 0 := by omega
    obtain ⟨i3, hi3⟩ : ∃ i : Nat, i = p / n := ⟨_, rfl⟩
    have l3 : i3 ≤ p := hi3 ▸ Nat.div_le_self _ _
    have e3 : (p : Int) / (n : Int) = (i3 : Int) := by rw [hi3]; push_cast; rfl
    clear hi3
    clear hc1 hc2 had hi1 hi2
    go_enter Tryd.func56, Tryd.ntmps56
    go_wp2
    go_quiet (fail)
    go_wp2
    go_ret
    exact ⟨_, rfl, Int.tmod_nonneg _ (xor_shift _ (by omega) (by omega)), fun _ => Int.tmod_lt_of_pos _ (by omega), hR.out _ ((Keep.refl _ _).drewN _) rfl⟩
end Go.Proofs.YtlmonnhgjnjniaaDoor

/- One of a list of texts, one of a list of numbers, drawn. -/
namespace Go.Proofs.YtlmonnhgjnjniaaDoor
open Go.RowKit
set_option linter.unusedVariables false
set_option linter.unusedSimpArgs false
set_option maxRecDepth 20000 in
theorem of_calls (l : List ByteArray) (v : Value) (w : World) (b : Nat) (s : Value) (n p : Nat) (h : Rdr w b s n p) (hn : n ≤ 2000) (hp : p ≤ 1000000) (hl : 1 ≤ l.length) (hl2 : l.length ≤ 1000) (hv : Strs w (But b) v l) :
    Calls Tryd.prog 67 #[.pointer (some ⟨b, 0, none⟩), v] w fun e w' => ∃ x, x ∈ l ∧ e = .returned (.string x) ∧ Rdr w' b s n (p + 1) ∧ Keep (But b) w w' := by
  have HV := Lib.hid hv
  have PK := Lib.hid (pick_calls (l.length : Int) w b s n p h hn hp (by omega))
  obtain ⟨a, c, rfl, h1, h2, _⟩ := hv
  clear h
  go_enter Tryd.func67, Tryd.ntmps67
  go_wp2_with fail
  refine PK.out.mono ?_
  rintro e w2 ⟨j, rfl, j0, j1, hR2, hK2⟩
  have j2 := j1 (by omega)
  obtain ⟨i, rfl⟩ := Int.eq_ofNat_of_zero_le j0
  have hi : i < l.length := by omega
  obtain ⟨ad, rfl, hx, hc⟩ := strs_at HV.out hK2 (List.getElem?_eq_getElem hi)
  have R2 := Lib.hid hR2
  have K2 := Lib.hid hK2
  have HM := Lib.hid (show l[i] ∈ l from List.getElem_mem hi)
  generalize l[i] = x at *
  clear hR2 hK2 j1
  go_wp2
  go_ret
  exact ⟨x, HM.out, rfl, R2.out, K2.out⟩
/-- numbers that can be read, none in the block b -/
def Ints (w : World) (b : Nat) (v : Value) (l : List Int) : Prop := ∃ (ad : Addr) (c : Nat), v = .slice (some ad) l.length c ∧ l.length ≤ c ∧ c ≤ 9223372036854775807 ∧ ad.block ≠ b ∧ ∀ i x, l[i]? = some x → w.cell? (ad.add i) = some (.int .i64 x)
set_option maxRecDepth 20000 in
theorem one_calls (l : List Int) (v : Value) (w : World) (b : Nat) (s : Value) (n p : Nat) (h : Rdr w b s n p) (hn : n ≤ 2000) (hp : p ≤ 1000000) (hl : 1 ≤ l.length) (hl2 : l.length ≤ 1000) (hv : Ints w b v l) :
    Calls Tryd.prog 91 #[.pointer (some ⟨b, 0, none⟩), v] w fun e w' => ∃ x, x ∈ l ∧ e = .returned (.int .i64 x) ∧ Rdr w' b s n (p + 1) ∧ Keep (But b) w w' := by
  have PK := Lib.hid (pick_calls (l.length : Int) w b s n p h hn hp (by omega))
  obtain ⟨ad, c, rfl, h1, h2, h3, h4⟩ := hv
  have H4 := Lib.hid h4
  have H3 := Lib.hid h3
  clear h h4 h3
  go_enter Tryd.func91, Tryd.ntmps91
  go_wp2_with fail
  refine PK.out.mono ?_
  rintro e w2 ⟨j, rfl, j0, j1, hR2, hK2⟩
  have j2 := j1 (by omega)
  obtain ⟨i, rfl⟩ := Int.eq_ofNat_of_zero_le j0
  have hi : i < l.length := by omega
  have hc := hK2.cell (H4.out i _ (List.getElem?_eq_getElem hi)) (show But b _ by rw [add_block]; exact H3.out)
  have R2 := Lib.hid hR2
  have K2 := Lib.hid hK2
  have HM := Lib.hid (show l[i] ∈ l from List.getElem_mem hi)
  generalize l[i] = x at *
  clear hR2 hK2 j1
  go_wp2
  go_ret
  exact ⟨x, HM.out, rfl, R2.out, K2.out⟩
set_option maxRecDepth 20000 in
theorem l1Open_calls (v : Value) (n : Nat) (w : World) (hv : Byt w w.heap.size v n) : Calls Tryd.prog 32 #[v] w fun e w' => ∃ (s : Value) (m : Nat), m ≤ 2000 ∧ e = .returned (.pointer (some ⟨w.heap.size, 0, none⟩)) ∧ Rdr w' w.heap.size s m 0 ∧ Keep Any w w' := by
  obtain ⟨a, c, rfl, h1, h2, h3⟩ := hv
  have H3 := Lib.hid h3
  clear h3
  by_cases hn : 2000 < n
  · have c1 : (2000 : Int) < (n : Int) := by omega
    obtain ⟨ad, rfl, hb, hf⟩ := H3.out (by omega)
    have HF := Lib.hid hf
    have HB := Lib.hid hb
    clear hb hf
    go_enter Tryd.func32, Tryd.ntmps32
    go_wp2
    go_ret
    exact ⟨.slice (some ad) 2000 c, 2000, by omega, rfl, ⟨blk_new _ _, some ad, c, rfl, by omega, h2, fun _ => ⟨ad, rfl, HB.out, fun i hi => by obtain ⟨x, hx, hc⟩ := HF.out i (by omega); exact ⟨x, hx, ((Keep.refl Any w).alloc _).cell hc trivial⟩⟩⟩, (Keep.refl _ _).alloc _⟩
  · have c1 : ¬ (2000 : Int) < (n : Int) := by omega
    go_enter Tryd.func32, Tryd.ntmps32
    go_wp2
    go_ret
    exact ⟨.slice a n c, n, by omega, rfl, ⟨blk_new _ _, a, c, rfl, h1, h2, fun hn => by obtain ⟨ad, rfl, hb, hf⟩ := H3.out hn; exact ⟨ad, rfl, hb, fun i hi => by obtain ⟨x, hx, hc⟩ := hf i hi; exact ⟨x, hx, ((Keep.refl Any w).alloc _).cell hc trivial⟩⟩⟩, (Keep.refl _ _).alloc _⟩
end Go.Proofs.YtlmonnhgjnjniaaDoor

/- A text many times: some text of bounded size. -/
namespace Go.Proofs.YtlmonnhgjnjniaaDoor
open Go.RowKit
set_option linter.unusedVariables false
set_option linter.unusedSimpArgs false
set_option maxRecDepth 20000 in
theorem l1Many_calls (t : ByteArray) (n : Nat) (w : World) (hb : t.size * n ≤ 1000000) (hn : n ≤ 1000000) (ht : t.size ≤ 1000000) : Calls Tryd.prog 90 #[.string t, .int .i64 n] w fun e w' => ∃ x : ByteArray, x.size ≤ 1000000 ∧ e = .returned (.string x) ∧ Keep Any w w' := by
  go_enter Tryd.func90, Tryd.ntmps90
  go_wp2
  go_loopg [0, 1, 5] (n + 1) (fun g x y z wr => ∃ (s o : ByteArray) (m : Nat), x = .string s ∧ y = .int .i64 m ∧ z = .string o ∧ m < g ∧ m ≤ n ∧ o.size + s.size * m ≤ 1000000 ∧ Keep Any w wr)
  case atStart => exact ⟨t, ⟨#[]⟩, n, rfl, rfl, rfl, by omega, by omega, by have e : (⟨#[]⟩ : ByteArray).size = 0 := rfl; omega, Keep.refl _ _⟩
  case round =>
    obtain ⟨s, o, m, rfl, rfl, rfl, hg, hm, hs, hK⟩ := hrel
    have HK := Lib.hid hK
    clear hK
    by_cases h0 : 0 < m
    · have c0 : (0 : Int) < (m : Int) := by omega
      have hs1 : s.size ≤ s.size * m := Nat.le_mul_of_pos_right _ h0
      have nn : ¬ 9223372036854775807 < s.size + s.size := by omega
      have n2 : ¬ 9223372036854775807 < o.size + s.size := by omega
      have HS := Lib.hid hs
      have e1 : m = 2 * (m / 2) + m % 2 := by omega
      have E1 := Lib.hid (show s.size * m = (s.size + s.size) * (m / 2) + s.size * (m % 2) from (congrArg (s.size * ·) e1).trans (by rw [Nat.mul_add, ← Nat.mul_assoc, Nat.mul_two]))
      clear hs e1
      by_cases h1 : m % 2 = 1
      · have q1 : (((m : Int) % 2) == 1) = true := by rw [beq_iff_eq]; omega
        have H1 := Lib.hid h1
        clear h1
        go_wp2
        go_roundg (gk - 1)
        case rel => exact ⟨s ++ s, o ++ s, m / 2, rfl, by go_num, rfl, by omega, by omega, by rw [ByteArray.size_append, ByteArray.size_append]; have h1 := E1.out; rw [H1.out, Nat.mul_one] at h1; have := HS.out; omega, HK.out⟩
        case measure => omega
      · have q1 : (((m : Int) % 2) == 1) = false := by rw [beq_eq_false_iff_ne]; omega
        have H1 := Lib.hid (show m % 2 = 0 by omega)
        clear h1
        go_wp2
        go_roundg (gk - 1)
        case rel => exact ⟨s ++ s, o, m / 2, rfl, by go_num, rfl, by omega, by omega, by rw [ByteArray.size_append]; have h1 := E1.out; rw [H1.out, Nat.mul_zero] at h1; have := HS.out; omega, HK.out⟩
        case measure => omega
    · go_wp2
      go_ret
      exact ⟨o, by omega, rfl, HK.out⟩
end Go.Proofs.YtlmonnhgjnjniaaDoor

/- An own slice stays where another's block is written. -/
namespace Go.Proofs.YtlmonnhgjnjniaaDoor
open Go.RowKit
set_option linter.unusedVariables false
set_option linter.unusedSimpArgs false
theorem SRow.keepB {α : Type} {sz : Nat} {R : World → (Nat → Prop) → α → List Value → Prop} {w w' : World} {base top b : Nat} {T : TypeId} {v : Value} {l : List α} {css : List (List Value)} (hk : ∀ {w w' ok x cs}, R w ok x cs → Keep ok w w' → R w' ok x cs)
    (h : SRow sz R w base top T v l css) (k : Keep (But b) w w') (hb : b < base) : SRow sz R w' base top T v l css := by
  have hlt := fun i hi => (h.own.lt i hi).1
  obtain ⟨g, h1, h2, h3, h4, h5, h6, h7, h8, h9⟩ := h
  exact ⟨g, h1, h2.kept (row := some b) k.grownBy (by cases hv : v.ownBlock with | none => exact .inl rfl | some i => exact .inr (by intro e; cases e; have := hlt b hv; omega)), h3, fun j x cs hx hc => hk (h4 j x cs hx hc) (k.mono fun i _ hi => by have := (h5 j i hi).1; show i ≠ b; omega), h5, h6, h7, Nat.le_trans h8 k.size, h9⟩
theorem rowV_keepB {w w' : World} {base top b : Nat} {T : TypeId} {v : Value} {l : List V} {css : List (List Value)} (h : SRow 4 SV w base top T v l css) (k : Keep (But b) w w') (hb : b < base) : SRow 4 SV w' base top T v l css := SRow.keepB (R := SV) (fun h k => SV.keep h k) h k hb
/-- a value was drawn, with at most c picks -/
def Drawn (c : Nat) (w : World) (b : Nat) (s : Value) (n p : Nat) (e : Ending) (w' : World) : Prop :=
  ∃ (v : V) (a : Option Addr) (m : Nat) (p' : Nat), e = .returned (.agg #[.int .i64 v.kind, .int .i64 v.num, .string v.text, .slice a v.list.length m]) ∧ SV w' (Mid w.heap.size w'.heap.size) v [.int .i64 v.kind, .int .i64 v.num, .string v.text, .slice a v.list.length m] ∧
    p ≤ p' ∧ p' ≤ p + c ∧ Rdr w' b s n p' ∧ Keep (But b) w w'
def cost : Nat → Nat
  | 0 => 4
  | d + 1 => 4 + 4 * cost d
def PlainD (d : Nat) : Prop := ∀ (w : World) (b : Nat) (s : Value) (n p : Nat), Rdr w b s n p → n ≤ 2000 → p + cost d ≤ 1000000 → Calls Tryd.prog 76 #[.pointer (some ⟨b, 0, none⟩), .int .i64 d] w (Drawn (cost d) w b s n p)
def ValueD (d : Nat) : Prop := ∀ (w : World) (b : Nat) (s : Value) (n p : Nat), Rdr w b s n p → n ≤ 2000 → p + 2 * cost d ≤ 1000000 → Calls Tryd.prog 57 #[.pointer (some ⟨b, 0, none⟩), .int .i64 d] w (Drawn (2 * cost d) w b s n p)
/-- a block of texts is a slice of one's own -/
theorem strs_blkD {w : World} {ok : Nat → Prop} {b : Nat} {T : TypeId} {l : List ByteArray} (hh : w.heap[b]? = some (.cells ((l.map Value.string).toArray) T (0, 0))) (hb : ok b) (hl : l.length ≤ 9223372036854775807) (hf : ∀ x, x ∈ l → Fits x) :
    SStrs w ok (.slice (some ⟨b, 0, none⟩) l.length l.length) l :=
  ⟨_, _, rfl, Nat.le_refl _, hl, fun _ => ⟨b, T, _, fun _ _ => False, rfl, hb, hh, fun _ _ h => h.elim, fun _ _ _ _ h => h.elim, fun j x hx =>
    ⟨[.string x], ⟨rfl, hf x (List.mem_of_getElem? hx)⟩, rfl, fun i u hu => by
      cases i with
      | zero => cases hu; simp [hx]
      | succ i => cases hu⟩⟩⟩
end Go.Proofs.YtlmonnhgjnjniaaDoor

/- A plain value drawn. -/
namespace Go.Proofs.YtlmonnhgjnjniaaDoor
open Go.RowKit
set_option linter.unusedVariables false
set_option linter.unusedSimpArgs false
theorem Rdr.keep {w w' : World} {b : Nat} {s : Value} {n p : Nat} (h : Rdr w b s n p) (k : Keep Any w w') : Rdr w' b s n p := ⟨blk_keep k h.1 trivial, h.2.keep k.any⟩
theorem Rdr.lt {w : World} {b : Nat} {s : Value} {n p : Nat} (h : Rdr w b s n p) : b < w.heap.size := blk_lt h.1
set_option maxHeartbeats 4000000 in
set_option maxRecDepth 20000 in
theorem plain_of (d : Nat) (hd : d ≤ 10) (ih : ∀ e, d = e + 1 → PlainD e) : PlainD d := by
  intro w b s n p hr hn hp
  have HR := Lib.hid hr
  have hb := hr.lt
  have hc4 : 4 ≤ cost d := by cases d <;> simp [cost]
  have PK := Lib.hid (fun (k : Int) (w : World) (p : Nat) h hp hk => pick_calls k w b s n p h hn hp hk)
  clear hr
  go_enter Tryd.func76, Tryd.ntmps76
  go_wp2_with fail
  refine (PK.out 6 _ p (HR.out.keep ((Keep.refl _ _).alloc _)) (by omega) (by omega)).mono ?_
  rintro e w2 ⟨j, rfl, j0, j1, hR2, hK2⟩
  have j2 := j1 (by omega)
  have R2 := Lib.hid hR2
  have K2 := Lib.hid (((Keep.refl (But b) w).alloc _).trans hK2)
  have Z2 := Lib.hid (show w.heap.size + 1 ≤ w2.heap.size by have := hK2.size; rwa [World.size_alloc] at this)
  have B2 := Lib.hid (blk_keep hK2 (blk_new _ _) (show w.heap.size ≠ b by omega))
  clear hR2 hK2 j1
  obtain rfl | rfl | rfl | rfl | rfl | rfl : j = 0 ∨ j = 1 ∨ j = 2 ∨ j = 3 ∨ j = 4 ∨ j = 5 := by omega
  · have LB := Lib.hid (fun b w => (l1Bool_calls b w).mono fun e w' h => (⟨if b then 1 else 0, by split <;> omega, by split <;> omega, h.1, h.2⟩ : ∃ z : Int, 0 ≤ z ∧ z ≤ 1 ∧ e = .returned (.agg #[.int .i64 1, .int .i64 z, .string ⟨#[]⟩, .slice none 0 0]) ∧ Keep Any w w'))
    go_wp2_with fail
    refine (PK.out 2 _ (p + 1) R2.out (by omega) (by omega)).mono ?_
    rintro e w3 ⟨j, rfl, j0, j1, hR3, hK3⟩
    have R3 := Lib.hid hR3
    have K3 := Lib.hid (K2.out.trans hK3)
    have Z3 := Lib.hid (Nat.le_trans Z2.out hK3.size)
    have B3 := Lib.hid (blk_keep hK3 B2.out (show w.heap.size ≠ b by omega))
    clear hR3 hK3 j1
    go_wp2_with fail
    refine (LB.out _ _).mono ?_
    rintro e w4 ⟨z, z0, z1, rfl, hK4⟩
    have R4 := Lib.hid (R3.out.keep hK4)
    have K4 := Lib.hid (K3.out.trans hK4.any)
    have B4 := Lib.hid (blk_keep hK4 B3.out trivial)
    have Z4 := Lib.hid (Nat.le_trans Z3.out hK4.size)
    clear hK4
    obtain ⟨y0, y1, y2, y3⟩ := at4 B4.out
    have f0 := blk_frozen B4.out 0
    have f1 := blk_frozen B4.out 1
    have f2 := blk_frozen B4.out 2
    have f3 := blk_frozen B4.out 3
    have x0 := blk_lt B4.out
    go_wp2
    refine bodyPost_ret (v := .agg #[.int .i64 1, .int .i64 z, .string ⟨#[]⟩, .slice none 0 0]) (by simp [results, Tryd.results76, go_sem, y0, y1, y2, y3, f0, f1, f2, f3, x0]) rfl ?_
    have hK : ∀ w', Keep (But b) w w' → w'.heap[b]? = w4.heap[b]? → Rdr w' b s n (p + 1 + 1) ∧ Keep (But b) w w' := fun w' h e => ⟨⟨e.trans R4.out.1, HR.out.2.keep h⟩, h⟩
    refine ⟨⟨1, z, ⟨#[]⟩, []⟩, none, 0, p + 1 + 1, rfl, SV_flat _ _ _ _ _ ?_ ?_ ?_, by omega, by omega, hK _ ?_ ?_⟩
    · exact ⟨by decide, by decide⟩
    · exact ⟨by show (-9223372036854775808 : Int) ≤ z; omega, by show z ≤ 9223372036854775807; omega⟩
    · exact fits_nil
    · repeat (first | (with_reducible exact K4.out) | (with_reducible refine Keep.alloc ?_ _) | (refine Keep.set ?_ _ _ (fun h _ => Nat.lt_irrefl _ h)))
    · repeat (first | rfl | (refine (Below.heap_setCell _ _ _ _ (show b ≠ w.heap.size by omega)).trans ?_) | (refine (Below.heap_alloc _ _ _ (by have := Z4.out; omega)).trans ?_))
  · have MN := Lib.hid (fun w => l1Many_calls ⟨#[116]⟩ 16 w (by decide) (by decide) (by decide))
    have OF := Lib.hid (fun (w : World) (l : List ByteArray) v h hl hl2 hv => of_calls l v w b s n (p + 1) h hn (by omega) hl hl2 hv)
    go_wp2_with fail
    refine (MN.out _).mono ?_
    rintro e w3 ⟨x, hx, rfl, hK3⟩
    have R3 := Lib.hid (R2.out.keep hK3)
    have K3 := Lib.hid (K2.out.trans hK3.any)
    have Z3 := Lib.hid (Nat.le_trans Z2.out hK3.size)
    have B3 := Lib.hid (blk_keep hK3 B2.out trivial)
    clear hK3
    go_wp2_with fail
    refine (OF.out _ [⟨#[]⟩, ⟨#[97]⟩, ⟨#[98]⟩, ⟨#[116, 119, 111, 32, 119, 111, 114, 100, 115]⟩, x] _ (R3.out.keep ((Keep.refl _ _).alloc _)) (by simp) (by simp) (SStrs.strs (strs_blkD (ok := But b) (blk_new _ _) (show w3.heap.size ≠ b by have := Z3.out; omega) (by simp) (fun y hy => by
      simp only [List.mem_cons, List.not_mem_nil, or_false] at hy
      unfold Fits
      rcases hy with rfl | rfl | rfl | rfl | rfl
      · decide
      · decide
      · decide
      · decide
      · omega)))).mono ?_
    rintro e w4 ⟨z, hz, rfl, hR4, hK4⟩
    have z0 : Fits z := by
      simp only [List.mem_cons, List.not_mem_nil, or_false] at hz
      unfold Fits
      rcases hz with rfl | rfl | rfl | rfl | rfl
      · decide
      · decide
      · decide
      · decide
      · omega
    have R4 := Lib.hid hR4
    have K4 := Lib.hid ((K3.out.alloc _).trans hK4)
    have B4 := Lib.hid (blk_keep hK4 (blk_alloc B3.out _) (show w.heap.size ≠ b by omega))
    have Z4 := Lib.hid (show w.heap.size + 1 ≤ w4.heap.size by have h1 := hK4.size; rw [World.size_alloc] at h1; have := Z3.out; omega)
    clear hR4 hK4 hz
    obtain ⟨y0, y1, y2, y3⟩ := at4 B4.out
    have f0 := blk_frozen B4.out 0
    have f1 := blk_frozen B4.out 1
    have f2 := blk_frozen B4.out 2
    have f3 := blk_frozen B4.out 3
    have x0 := blk_lt B4.out
    go_wp2
    refine bodyPost_ret (v := .agg #[.int .i64 3, .int .i64 0, .string z, .slice none 0 0]) (by simp [results, Tryd.results76, go_sem, y0, y1, y2, y3, f0, f1, f2, f3, x0]) rfl ?_
    have hK : ∀ w', Keep (But b) w w' → w'.heap[b]? = w4.heap[b]? → Rdr w' b s n (p + 1 + 1) ∧ Keep (But b) w w' := fun w' h e => ⟨⟨e.trans R4.out.1, HR.out.2.keep h⟩, h⟩
    refine ⟨⟨3, 0, z, []⟩, none, 0, p + 1 + 1, rfl, SV_flat _ _ _ _ _ ?_ ?_ ?_, by omega, by omega, hK _ ?_ ?_⟩
    · exact ⟨by decide, by decide⟩
    · exact ⟨by decide, by decide⟩
    · exact z0
    · repeat (first | (with_reducible exact K4.out) | (with_reducible refine Keep.alloc ?_ _) | (refine Keep.set ?_ _ _ (fun h _ => Nat.lt_irrefl _ h)))
    · repeat (first | rfl | (refine (Below.heap_setCell _ _ _ _ (show b ≠ w.heap.size by omega)).trans ?_) | (refine (Below.heap_alloc _ _ _ (by have := Z4.out; omega)).trans ?_))
  · have MN := Lib.hid (fun w => l1Many_calls ⟨#[116]⟩ 16 w (by decide) (by decide) (by decide))
    have OF := Lib.hid (fun (w : World) (l : List ByteArray) v h hl hl2 hv => of_calls l v w b s n (p + 1) h hn (by omega) hl hl2 hv)
    go_wp2_with fail
    refine (MN.out _).mono ?_
    rintro e w3 ⟨x, hx, rfl, hK3⟩
    have R3 := Lib.hid (R2.out.keep hK3)
    have K3 := Lib.hid (K2.out.trans hK3.any)
    have Z3 := Lib.hid (Nat.le_trans Z2.out hK3.size)
    have B3 := Lib.hid (blk_keep hK3 B2.out trivial)
    clear hK3
    go_wp2_with fail
    refine (OF.out _ [⟨#[]⟩, ⟨#[97]⟩, ⟨#[98]⟩, ⟨#[116, 119, 111, 32, 119, 111, 114, 100, 115]⟩, x] _ (R3.out.keep ((Keep.refl _ _).alloc _)) (by simp) (by simp) (SStrs.strs (strs_blkD (ok := But b) (blk_new _ _) (show w3.heap.size ≠ b by have := Z3.out; omega) (by simp) (fun y hy => by
      simp only [List.mem_cons, List.not_mem_nil, or_false] at hy
      unfold Fits
      rcases hy with rfl | rfl | rfl | rfl | rfl
      · decide
      · decide
      · decide
      · decide
      · omega)))).mono ?_
    rintro e w4 ⟨z, hz, rfl, hR4, hK4⟩
    have z0 : Fits z := by
      simp only [List.mem_cons, List.not_mem_nil, or_false] at hz
      unfold Fits
      rcases hz with rfl | rfl | rfl | rfl | rfl
      · decide
      · decide
      · decide
      · decide
      · omega
    have R4 := Lib.hid hR4
    have K4 := Lib.hid ((K3.out.alloc _).trans hK4)
    have B4 := Lib.hid (blk_keep hK4 (blk_alloc B3.out _) (show w.heap.size ≠ b by omega))
    have Z4 := Lib.hid (show w.heap.size + 1 ≤ w4.heap.size by have h1 := hK4.size; rw [World.size_alloc] at h1; have := Z3.out; omega)
    clear hR4 hK4 hz
    obtain ⟨y0, y1, y2, y3⟩ := at4 B4.out
    have f0 := blk_frozen B4.out 0
    have f1 := blk_frozen B4.out 1
    have f2 := blk_frozen B4.out 2
    have f3 := blk_frozen B4.out 3
    have x0 := blk_lt B4.out
    go_wp2
    refine bodyPost_ret (v := .agg #[.int .i64 3, .int .i64 0, .string z, .slice none 0 0]) (by simp [results, Tryd.results76, go_sem, y0, y1, y2, y3, f0, f1, f2, f3, x0]) rfl ?_
    have hK : ∀ w', Keep (But b) w w' → w'.heap[b]? = w4.heap[b]? → Rdr w' b s n (p + 1 + 1) ∧ Keep (But b) w w' := fun w' h e => ⟨⟨e.trans R4.out.1, HR.out.2.keep h⟩, h⟩
    refine ⟨⟨3, 0, z, []⟩, none, 0, p + 1 + 1, rfl, SV_flat _ _ _ _ _ ?_ ?_ ?_, by omega, by omega, hK _ ?_ ?_⟩
    · exact ⟨by decide, by decide⟩
    · exact ⟨by decide, by decide⟩
    · exact z0
    · repeat (first | (with_reducible exact K4.out) | (with_reducible refine Keep.alloc ?_ _) | (refine Keep.set ?_ _ _ (fun h _ => Nat.lt_irrefl _ h)))
    · repeat (first | rfl | (refine (Below.heap_setCell _ _ _ _ (show b ≠ w.heap.size by omega)).trans ?_) | (refine (Below.heap_alloc _ _ _ (by have := Z4.out; omega)).trans ?_))
  · by_cases hd1 : d ≤ 1
    · have c1 : ¬ (1 : Int) < (d : Int) := by omega
      have ON := Lib.hid (fun (w : World) (l : List Int) v h hl hl2 hv => one_calls l v w b s n (p + 1) h hn (by omega) hl hl2 hv)
      go_wp2_with fail
      refine (ON.out _ [0, 1, 2, 3, -1, 7, 1000000000] _ (R2.out.keep ((Keep.refl _ _).alloc _)) (by decide) (by decide) ⟨⟨w2.heap.size, 0, none⟩, 7, rfl, by decide, by decide, (show w2.heap.size ≠ b by have := Z2.out; omega), fun i x hx => new_cells w2 ([0, 1, 2, 3, -1, 7, 1000000000].map (Value.int .i64)) _ rfl i _ (by rw [List.getElem?_map, hx]; rfl)⟩).mono ?_
      rintro e w4 ⟨z, hz, rfl, hR4, hK4⟩
      have z0 : -1 ≤ z ∧ z ≤ 1000000000 := by simp only [List.mem_cons, List.not_mem_nil, or_false] at hz; omega
      have R4 := Lib.hid hR4
      have K4 := Lib.hid ((K2.out.alloc _).trans hK4)
      have B4 := Lib.hid (blk_keep hK4 (blk_alloc B2.out _) (show w.heap.size ≠ b by omega))
      have Z4 := Lib.hid (show w.heap.size + 1 ≤ w4.heap.size by have h1 := hK4.size; rw [World.size_alloc] at h1; have := Z2.out; omega)
      clear hR4 hK4 hz
      obtain ⟨y0, y1, y2, y3⟩ := at4 B4.out
      have f0 := blk_frozen B4.out 0
      have f1 := blk_frozen B4.out 1
      have f2 := blk_frozen B4.out 2
      have f3 := blk_frozen B4.out 3
      have x0 := blk_lt B4.out
      go_wp2
      refine bodyPost_ret (v := .agg #[.int .i64 2, .int .i64 z, .string ⟨#[]⟩, .slice none 0 0]) (by simp [results, Tryd.results76, go_sem, y0, y1, y2, y3, f0, f1, f2, f3, x0]) rfl ?_
      have hK : ∀ w', Keep (But b) w w' → w'.heap[b]? = w4.heap[b]? → Rdr w' b s n (p + 1 + 1) ∧ Keep (But b) w w' := fun w' h e => ⟨⟨e.trans R4.out.1, HR.out.2.keep h⟩, h⟩
      refine ⟨⟨2, z, ⟨#[]⟩, []⟩, none, 0, p + 1 + 1, rfl, SV_flat _ _ _ _ _ ?_ ?_ ?_, by omega, by omega, hK _ ?_ ?_⟩
      · exact ⟨by decide, by decide⟩
      · exact ⟨by show (-9223372036854775808 : Int) ≤ z; omega, by show z ≤ 9223372036854775807; omega⟩
      · exact fits_nil
      · repeat (first | (with_reducible exact K4.out) | (with_reducible refine Keep.alloc ?_ _) | (refine Keep.set ?_ _ _ (fun h _ => Nat.lt_irrefl _ h)))
      · repeat (first | rfl | (refine (Below.heap_setCell _ _ _ _ (show b ≠ w.heap.size by omega)).trans ?_) | (refine (Below.heap_alloc _ _ _ (by have := Z4.out; omega)).trans ?_))
    · obtain ⟨d1, hd2⟩ : ∃ e, d = e + 1 := ⟨d - 1, by omega⟩
      have IH := Lib.hid (ih d1 hd2)
      have HD := Lib.hid (show IntKind.i64.wrap ((d : Int) - 1) = (d1 : Int) by rw [IntWalk.i64_in _ ⟨by omega, by omega⟩]; omega)
      have hcc : 4 + 4 * cost d1 ≤ cost d := by rw [hd2]; exact Nat.le_refl _
      have c1 : (1 : Int) < (d : Int) := by omega
      clear hd2
      obtain ⟨i0, hi, hzz⟩ := Option.map_eq_some_iff.1 infoValR
      simp only [Prod.mk.injEq] at hzz
      obtain ⟨hz0, hz1, hz2⟩ := hzz
      go_wp2_with fail
      refine (PK.out 4 _ (p + 1) (R2.out.keep ((Keep.refl _ _).alloc _)) (by omega) (by omega)).mono ?_
      rintro e w3 ⟨j, rfl, j0, j1, hR3, hK3⟩
      have j2 := j1 (by omega)
      obtain ⟨m, rfl⟩ := Int.eq_ofNat_of_zero_le j0
      have R3 := Lib.hid hR3
      have K3 := Lib.hid ((K2.out.alloc _).trans hK3)
      have Z3 := Lib.hid (show w2.heap.size + 1 ≤ w3.heap.size by have h1 := hK3.size; rwa [World.size_alloc] at h1)
      have B3 := Lib.hid (blk_keep hK3 (blk_alloc B2.out _) (show w.heap.size ≠ b by omega))
      have N3 := Lib.hid (blk_keep hK3 (blk_new _ _) (show w2.heap.size ≠ b by have := Z2.out; omega))
      clear hR3 hK3 j1
      go_wp2
      go_loopg [6] (m + 1) (fun g x wr => ∃ (k : Nat) (acc : List V) (css : List (List Value)) (top p' : Nat) (v : Value), k + acc.length ≤ 3 ∧ x = .int .i64 k ∧ g = k + 1 ∧ wr.heap[w.heap.size]? = some (.cells #[.int .i64 0, .int .i64 0, .string ⟨#[]⟩, .slice none 0 0] 39 (0, 0)) ∧ wr.heap[w2.heap.size]? = some (.cells #[.int .i64 4, .int .i64 0, .string ⟨#[]⟩, v] 39 (0, 0)) ∧
        SRow 4 SV wr (w2.heap.size + 1) top 39 v acc css ∧ Rdr wr b s n p' ∧ p ≤ p' ∧ p' ≤ p + 2 + acc.length * (cost d1) ∧ Keep (But b) w wr)
      case atStart => exact ⟨m, [], [], w2.heap.size + 1, p + 1 + 1, .slice none 0 0, by simp; omega, rfl, rfl, B3.out, N3.out, SRow.nil _ _ _ _ (Nat.le_refl _) Z3.out, R3.out, by omega, by omega, K3.out⟩
      case round =>
        obtain ⟨k, acc, css, top, p', v, hka, rfl, hg, hz, hn1, hS, hRr, hp1, hp2, hK⟩ := hrel
        have HG := Lib.hid hg
        have HZ := Lib.hid hz
        have HN := Lib.hid hn1
        have HS := Lib.hid hS
        have HK := Lib.hid hK
        have HRr := Lib.hid hRr
        obtain ⟨av, cv, rfl, hnil⟩ := hS.form
        obtain ⟨r0, r1, r2, r3⟩ := at4 hz
        have f0 := blk_frozen hz 0
        have f1 := blk_frozen hz 1
        have f2 := blk_frozen hz 2
        have f3 := blk_frozen hz 3
        obtain ⟨n0, n1, n2, n3⟩ := at4 hn1
        have g3 := blk_frozen hn1 3
        have z0 := blk_lt hz
        have z1 := blk_lt hn1
        have HC3 : acc.length * (cost d1) ≤ 3 * (cost d1) := Nat.mul_le_mul_right _ (by omega)
        have HC := Lib.hid (show acc.length * (cost d1) ≤ 2 * (cost d1) ∨ k = 0 by
          by_cases h : k = 0
          · exact .inr h
          · exact .inl (Nat.mul_le_mul_right _ (by omega)))
        clear hg hz hn1 hS hK hRr hnil
        by_cases h0 : 0 < k
        · have c0 : (0 : Int) < (k : Int) := by omega
          have HDo := HD.out
          have hpc : p' + (cost d1) ≤ 1000000 := by rcases HC.out with h | h <;> omega
          have HKD := Lib.hid ((Keep.refl (But b) wr).drew)
          have HRD := Lib.hid (show Rdr wr.drew b s n p' from ⟨HRr.out.1, HRr.out.2.keep ((Keep.refl (But b) wr).drew)⟩)
          go_wp2
          go_region_law (first | (go_simp; go_at_call 76; refine (IH.out _ _ _ _ _ HRD.out hn hpc).mono ?_; rintro e w5 ⟨v1, a1, m1, p1, rfl, hSv, hq1, hq2, hR5, hK5⟩; have HS5 := Lib.hid (rowV_keepB HS.out (HKD.out.trans hK5) (show b < w2.heap.size + 1 by have := Z2.out; omega)); have HV5 := Lib.hid hSv; have R5 := Lib.hid hR5; have K5 := Lib.hid (HKD.out.trans hK5); have N5 := Lib.hid (blk_keep K5.out HN.out (show w2.heap.size ≠ b by have := Z2.out; omega)); have n5 := (blk_cell N5.out 3).trans rfl; have g5 := blk_frozen N5.out 3; have z5 := blk_lt N5.out; clear hSv hR5 hK5) | (refine step_append_lies _ rfl (.tmp 35) (.tmp 40) 23 rfl (w2.heap.size + 1) 39 i0 _ 4 56 Tryd.underlying23 hi hz0 hz1 hz2 rfl (by decide) (.slice av acc.length cv) acc.length css.flatten (by simp [Act.eval, Act.put]) (rowV_keep HS5.out ((Keep.refl _ _).alloc _)).own ⟨w5.heap.size, 0, none⟩ 1 1 [.int .i64 v1.kind, .int .i64 v1.num, .string v1.text, .slice a1 v1.list.length m1] (by simp [Act.eval, Act.put]) rfl (new_cells _ _ _ rfl) (by simp [Value.oneCell']) (by omega) (by unfold maxLen; omega) (by omega) (by have := HS5.out.base_le; simp; omega) _ rfl ?_; intro gB cap w6 hown hgrow hblk hlt; have HS6 := Lib.hid (rowV_snoc (rowV_keep HS5.out ((Keep.refl _ _).alloc _)) hown hgrow (hblk.elim (fun h => .inl h.symm) fun h => .inr (congrArg some h)) (HV5.out.keep ((Keep.refl _ _).alloc _)) (fun i hi => ⟨Nat.le_trans HS.out.top_le hi.1, by have := hi.2; simp; omega⟩)); have HB5 := Lib.hid (show ∀ k, (Value.slice av acc.length cv).ownBlock = some k → w2.heap.size + 1 ≤ k from fun k hk => (HS.out.own.lt k hk).1); have K6 := Lib.hid (((HK.out.trans K5.out).alloc _).grown hgrow (fun i hi hlt => by have := HB5.out i hi; have := Z2.out; omega)); have ZZ := K5.out.size; have N6 := Lib.hid ((hgrow.block _ (by have := blk_lt HN.out; simp; omega) (fun e => by have := HB5.out _ e.symm; omega)).trans (blk_alloc N5.out _)); have Z6 := Lib.hid ((hgrow.block _ (by have := blk_lt HZ.out; simp; omega) (fun e => by have := HB5.out _ e.symm; have := Z2.out; omega)).trans (blk_alloc (blk_keep K5.out HZ.out (show w.heap.size ≠ b by omega)) _)); have R6 := Lib.hid ((hgrow.block b (by have := blk_lt HZ.out; simp; omega) (fun e => by have := HB5.out _ e.symm; have := Z2.out; omega)).trans (blk_alloc R5.out.1 _)); have n6 := (blk_cell N6.out 3).trans rfl; have g6 := blk_frozen N6.out 3; have z6 := blk_lt N6.out; clear hown hgrow hblk ZZ))
          all_goals
            go_wp2
            go_roundg (gk - 1)
            case rel => exact ⟨k - 1, acc ++ [v1], _, w6.heap.size, p1, .slice (some ⟨gB, 0, none⟩) (acc.length + 1) cap, by rw [List.length_append, List.length_singleton]; omega, by go_num, by have := HG.out; omega, blk_far Z6.out _ _ (show w.heap.size ≠ w2.heap.size by have := Z2.out; omega), (blk_set N6.out 3 _).trans rfl, rowV_set HS6.out (by omega), ⟨(Below.heap_setCell _ _ _ _ (show b ≠ w2.heap.size by have := Z2.out; omega)).trans R6.out, HR.out.2.keep (K6.out.set _ _ (fun h _ => by have h : w2.heap.size < w.heap.size := h; have := Z2.out; omega))⟩, by omega, by rw [List.length_append, List.length_singleton, Nat.add_mul, Nat.one_mul]; omega, K6.out.set _ _ (fun h _ => by have h : w2.heap.size < w.heap.size := h; have := Z2.out; omega)⟩
            case measure => have := HG.out; omega
        · have h0' : ¬ (0 : Int) < (k : Int) := by omega
          go_wp2
          refine bodyPost_ret (v := .agg #[.int .i64 4, .int .i64 0, .string ⟨#[]⟩, .slice av acc.length cv]) (by simp [results, Tryd.results76, go_sem, r0, r1, r2, r3, f0, f1, f2, f3, z0]) rfl ?_
          refine ⟨⟨4, 0, ⟨#[]⟩, acc⟩, av, cv, p', rfl, (SV.iff.2 ⟨_, rfl, (show I64 4 from ⟨by decide, by decide⟩), (show I64 0 from ⟨by decide, by decide⟩), fits_nil, SSl.mono (SVs.keep (HS.out.slice (ok := Mid (w2.heap.size + 1) wr.heap.size) fun i h1 h2 => ⟨h1, h2⟩) (w' := _) (by repeat (first | (with_reducible exact Keep.refl _ _) | (refine Keep.set ?_ _ _ (fun _ h => by have h1 := h.1; have h1 : w2.heap.size + 1 ≤ w.heap.size := h1; have := Z2.out; omega))))) fun i hi => ⟨by have := hi.1; have := Z2.out; omega, by simpa using hi.2⟩⟩), hp1, by omega, ⟨?_, HR.out.2.keep ?_⟩, ?_⟩
          · repeat (first | exact HRr.out.1 | (refine (Below.heap_setCell _ _ _ _ (show b ≠ w.heap.size by omega)).trans ?_))
          · have hK1 := HK.out
            repeat (first | (with_reducible exact hK1) | (refine Keep.set ?_ _ _ (fun h _ => Nat.lt_irrefl _ h)))
          · have hK1 := HK.out
            repeat (first | (with_reducible exact hK1) | (refine Keep.set ?_ _ _ (fun h _ => Nat.lt_irrefl _ h)))
  · have ON := Lib.hid (fun (w : World) (l : List Int) v h hl hl2 hv => one_calls l v w b s n (p + 1) h hn (by omega) hl hl2 hv)
    go_wp2_with fail
    refine (ON.out _ [0, 1, 2, 3, -1, 7, 1000000000] _ (R2.out.keep ((Keep.refl _ _).alloc _)) (by decide) (by decide) ⟨⟨w2.heap.size, 0, none⟩, 7, rfl, by decide, by decide, (show w2.heap.size ≠ b by have := Z2.out; omega), fun i x hx => new_cells w2 ([0, 1, 2, 3, -1, 7, 1000000000].map (Value.int .i64)) _ rfl i _ (by rw [List.getElem?_map, hx]; rfl)⟩).mono ?_
    rintro e w4 ⟨z, hz, rfl, hR4, hK4⟩
    have z0 : -1 ≤ z ∧ z ≤ 1000000000 := by simp only [List.mem_cons, List.not_mem_nil, or_false] at hz; omega
    have R4 := Lib.hid hR4
    have K4 := Lib.hid ((K2.out.alloc _).trans hK4)
    have B4 := Lib.hid (blk_keep hK4 (blk_alloc B2.out _) (show w.heap.size ≠ b by omega))
    have Z4 := Lib.hid (show w.heap.size + 1 ≤ w4.heap.size by have h1 := hK4.size; rw [World.size_alloc] at h1; have := Z2.out; omega)
    clear hR4 hK4 hz
    obtain ⟨y0, y1, y2, y3⟩ := at4 B4.out
    have f0 := blk_frozen B4.out 0
    have f1 := blk_frozen B4.out 1
    have f2 := blk_frozen B4.out 2
    have f3 := blk_frozen B4.out 3
    have x0 := blk_lt B4.out
    go_wp2
    refine bodyPost_ret (v := .agg #[.int .i64 2, .int .i64 z, .string ⟨#[]⟩, .slice none 0 0]) (by simp [results, Tryd.results76, go_sem, y0, y1, y2, y3, f0, f1, f2, f3, x0]) rfl ?_
    have hK : ∀ w', Keep (But b) w w' → w'.heap[b]? = w4.heap[b]? → Rdr w' b s n (p + 1 + 1) ∧ Keep (But b) w w' := fun w' h e => ⟨⟨e.trans R4.out.1, HR.out.2.keep h⟩, h⟩
    refine ⟨⟨2, z, ⟨#[]⟩, []⟩, none, 0, p + 1 + 1, rfl, SV_flat _ _ _ _ _ ?_ ?_ ?_, by omega, by omega, hK _ ?_ ?_⟩
    · exact ⟨by decide, by decide⟩
    · exact ⟨by show (-9223372036854775808 : Int) ≤ z; omega, by show z ≤ 9223372036854775807; omega⟩
    · exact fits_nil
    · repeat (first | (with_reducible exact K4.out) | (with_reducible refine Keep.alloc ?_ _) | (refine Keep.set ?_ _ _ (fun h _ => Nat.lt_irrefl _ h)))
    · repeat (first | rfl | (refine (Below.heap_setCell _ _ _ _ (show b ≠ w.heap.size by omega)).trans ?_) | (refine (Below.heap_alloc _ _ _ (by have := Z4.out; omega)).trans ?_))
  · have ON := Lib.hid (fun (w : World) (l : List Int) v h hl hl2 hv => one_calls l v w b s n (p + 1) h hn (by omega) hl hl2 hv)
    go_wp2_with fail
    refine (ON.out _ [0, 1, 2, 3, -1, 7, 1000000000] _ (R2.out.keep ((Keep.refl _ _).alloc _)) (by decide) (by decide) ⟨⟨w2.heap.size, 0, none⟩, 7, rfl, by decide, by decide, (show w2.heap.size ≠ b by have := Z2.out; omega), fun i x hx => new_cells w2 ([0, 1, 2, 3, -1, 7, 1000000000].map (Value.int .i64)) _ rfl i _ (by rw [List.getElem?_map, hx]; rfl)⟩).mono ?_
    rintro e w4 ⟨z, hz, rfl, hR4, hK4⟩
    have z0 : -1 ≤ z ∧ z ≤ 1000000000 := by simp only [List.mem_cons, List.not_mem_nil, or_false] at hz; omega
    have R4 := Lib.hid hR4
    have K4 := Lib.hid ((K2.out.alloc _).trans hK4)
    have B4 := Lib.hid (blk_keep hK4 (blk_alloc B2.out _) (show w.heap.size ≠ b by omega))
    have Z4 := Lib.hid (show w.heap.size + 1 ≤ w4.heap.size by have h1 := hK4.size; rw [World.size_alloc] at h1; have := Z2.out; omega)
    clear hR4 hK4 hz
    obtain ⟨y0, y1, y2, y3⟩ := at4 B4.out
    have f0 := blk_frozen B4.out 0
    have f1 := blk_frozen B4.out 1
    have f2 := blk_frozen B4.out 2
    have f3 := blk_frozen B4.out 3
    have x0 := blk_lt B4.out
    go_wp2
    refine bodyPost_ret (v := .agg #[.int .i64 2, .int .i64 z, .string ⟨#[]⟩, .slice none 0 0]) (by simp [results, Tryd.results76, go_sem, y0, y1, y2, y3, f0, f1, f2, f3, x0]) rfl ?_
    have hK : ∀ w', Keep (But b) w w' → w'.heap[b]? = w4.heap[b]? → Rdr w' b s n (p + 1 + 1) ∧ Keep (But b) w w' := fun w' h e => ⟨⟨e.trans R4.out.1, HR.out.2.keep h⟩, h⟩
    refine ⟨⟨2, z, ⟨#[]⟩, []⟩, none, 0, p + 1 + 1, rfl, SV_flat _ _ _ _ _ ?_ ?_ ?_, by omega, by omega, hK _ ?_ ?_⟩
    · exact ⟨by decide, by decide⟩
    · exact ⟨by show (-9223372036854775808 : Int) ≤ z; omega, by show z ≤ 9223372036854775807; omega⟩
    · exact fits_nil
    · repeat (first | (with_reducible exact K4.out) | (with_reducible refine Keep.alloc ?_ _) | (refine Keep.set ?_ _ _ (fun h _ => Nat.lt_irrefl _ h)))
    · repeat (first | rfl | (refine (Below.heap_setCell _ _ _ _ (show b ≠ w.heap.size by omega)).trans ?_) | (refine (Below.heap_alloc _ _ _ (by have := Z4.out; omega)).trans ?_))
theorem plain_all : ∀ d, d ≤ 10 → PlainD d
  | 0, h => plain_of 0 h fun e he => by cases he
  | d + 1, h => plain_of (d + 1) h fun e he => by cases he; exact plain_all d (by omega)
end Go.Proofs.YtlmonnhgjnjniaaDoor

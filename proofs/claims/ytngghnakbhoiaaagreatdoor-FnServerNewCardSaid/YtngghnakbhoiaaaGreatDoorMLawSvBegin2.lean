/- Which texts are names: the program's test, for every text. Which texts are names: the reference's test, for every text. Which rules and names are ok, none twice: the program's and the reference's RulesOk, namesAlone. For every list. Copies of a graph with nothing in it, of no questions: nothing again. What an append does, by its run; nothing behind nothing. No condition. -/
import Derived.Test.YtngghnakbhoiaaaGreatDoorMLawSvBegin0
import Derived.Test.YtngghnakbhoiaaaGreatDoorMLawSvBegin1
import Derived.Deep.RegionHeld3
import Derived.Laws.StructEq
import Derived.Laws.AppendOwn
/- Which texts are names: the program's test, for every text. -/
namespace Go.Proofs.YtngghnakbhoiaaaGreatDoor
open Go.RowKit
set_option linter.unusedVariables false
set_option linter.unusedSimpArgs false


theorem isFig_calls (c : Nat) (w : World) : Calls Tryz.prog 53 #[.int .u8 c] w (Quiet (fig c) w) := by
  go_enter Tryz.func53, Tryz.ntmps53
  go_wp2 <;> (go_ret; exact ⟨ret_bool (by rw [fig, Bool.eq_iff_iff]; simp [*] <;> omega), rfl⟩)
theorem isLetter_calls (c : Nat) (w : World) : Calls Tryz.prog 52 #[.int .u8 c] w (Quiet (letter c) w) := by
  go_enter Tryz.func52, Tryz.ntmps52
  go_wp2 <;> (go_ret; exact ⟨ret_bool (by rw [letter, Bool.eq_iff_iff]; simp [*] <;> omega), rfl⟩)

set_option maxHeartbeats 1000000 in
theorem nameOk_calls (t : ByteArray) (w : World) (hs : t.size ≤ 9223372036854775807) : Calls Tryz.prog 33 #[.string t] w (Quiet (nameOk t) w) := by
  have IL := Lib.hid isLetter_calls
  have IF := Lib.hid isFig_calls
  by_cases h0 : t.size = 0
  · have hd := empty_true t h0
    have hr : nameOk t = false := by rw [nameOk, shape_long (.inl h0)]; rfl
    have HR := Lib.hid hr
    clear hr h0
    go_enter Tryz.func33, Tryz.ntmps33
    go_wp2
    go_ret
    exact ⟨ret_bool HR.out.symm, rfl⟩
  have hd := empty_false t h0
  by_cases h8 : 8 < t.size
  · have hr : nameOk t = false := by rw [nameOk, shape_long (.inr h8)]; rfl
    have HR := Lib.hid hr
    clear hr
    go_enter Tryz.func33, Tryz.ntmps33
    go_wp2
    go_ret
    exact ⟨ret_bool HR.out.symm, rfl⟩
  have q1 : 0 < t.size := by omega
  have e1 := at_eq t 0 q1
  rcases hl : letter (at_ t 0) with _ | _
  · have hr : nameOk t = false := by rw [nameOk, shape_bad q1 hl (.inr rfl)]; rfl
    have HR := Lib.hid hr
    have HL := Lib.hid hl
    clear hr hl
    go_enter Tryz.func33, Tryz.ntmps33
    go_wp2_with (go_at_call 52; refine (IL.out _ _).mono ?_; rintro e w' ⟨rfl, rfl⟩; rw [HL.out])
    go_ret
    exact ⟨ret_bool HR.out.symm, rfl⟩
  · have HL := Lib.hid hl
    clear hl
    go_enter Tryz.func33, Tryz.ntmps33
    go_wp2_with (go_at_call 52; refine (IL.out _ _).mono ?_; rintro e w' ⟨rfl, rfl⟩; rw [HL.out])
    go_loop [3] (fun i => ∃ k : Nat, 1 ≤ k ∧ k ≤ t.size ∧ i = .int .i64 k ∧ ∀ j, j < k → letter (at_ t j) = true ∨ fig (at_ t j) = true) (fun i => t.size - (intOf i).toNat)
    case atStart => exact ⟨1, by omega, by omega, rfl, fun j hj => .inl (by rw [show j = 0 by omega]; exact HL.out)⟩
    case round =>
      obtain ⟨k, hk1, hk, rfl, hg⟩ := hrel
      have HG := Lib.hid hg
      clear hg e1
      by_cases hlt : k < t.size
      · have e2 := at_eq t k hlt
        rcases hl : letter (at_ t k) with _ | _ <;> rcases hf : fig (at_ t k) with _ | _
        · have hr : nameOk t = false := by rw [nameOk, shape_bad hlt hl (.inl hf)]; rfl
          have HR := Lib.hid hr
          have H2 := Lib.hid hl
          have H3 := Lib.hid hf
          clear hr hl hf
          go_wp2_with (first | (go_at_call 52; refine (IL.out _ _).mono ?_; rintro e w' ⟨rfl, rfl⟩; rw [H2.out]) | (go_at_call 53; refine (IF.out _ _).mono ?_; rintro e w' ⟨rfl, rfl⟩; rw [H3.out]))
          go_ret
          exact ⟨ret_bool HR.out.symm, rfl⟩
        all_goals
          have H2 := Lib.hid hl
          have H3 := Lib.hid hf
          clear hl hf
          go_wp2_with (first | (go_at_call 52; refine (IL.out _ _).mono ?_; rintro e w' ⟨rfl, rfl⟩; rw [H2.out]) | (go_at_call 53; refine (IF.out _ _).mono ?_; rintro e w' ⟨rfl, rfl⟩; rw [H3.out]))
          go_round
          case rel => exact ⟨k + 1, by omega, by omega, by go_num, fun j hj => by rcases Nat.lt_succ_iff_lt_or_eq.1 hj with hj | rfl; exact HG.out j hj; first | exact .inl H2.out | exact .inr H3.out⟩
          case measure => simp [intOf]; omega
      · have hsh := shape_good q1 (by omega) HL.out (fun j hj => HG.out j (by omega))
        have HS := Lib.hid hsh
        clear hsh
        go_wp2
        all_goals
          go_ret
          go_light
          have hsh := HS.out
          refine ⟨ret_bool ?_, rfl⟩
          first | (simp [nameOk, hsh, kept, words, *]; done) | (exfalso; simp_all; done)
end Go.Proofs.YtngghnakbhoiaaaGreatDoor

/- Which texts are names: the reference's test, for every text. -/
namespace Go.Proofs.YtngghnakbhoiaaaGreatDoor
open Go.RowKit
set_option linter.unusedVariables false
set_option linter.unusedSimpArgs false

def inR (n a b : Int) : Bool := decide (a ≤ n) && decide (n ≤ b)
theorem l1In_calls (n a b : Int) (w : World) : Calls Tryz.prog 21 #[.int .i64 n, .int .i64 a, .int .i64 b] w (Quiet (inR n a b) w) := by
  go_enter Tryz.func21, Tryz.ntmps21
  go_wp2 <;> (go_ret; exact ⟨ret_bool (by rw [inR, Bool.eq_iff_iff]; simp [*] <;> omega), rfl⟩)
theorem l2Letter_calls (c : Nat) (w : World) : Calls Tryz.prog 37 #[.int .u8 c] w (Quiet (letter c) w) := by
  go_enter Tryz.func37, Tryz.ntmps37
  go_wp2 <;> (go_ret; exact ⟨ret_bool (by rw [letter, Bool.eq_iff_iff]; simp [*] <;> omega), rfl⟩)

theorem l2Kept_calls (t : ByteArray) (w : World) : Calls Tryz.prog 38 #[.string t] w (Tells (kept t) w) := by
  go_enter Tryz.func38, Tryz.ntmps38
  go_wp2
  go_loopg [4] 30 (fun g i wr => ∃ k : Nat, k ≤ 29 ∧ i = .int .i64 k ∧ g = 30 - k ∧ (∀ j x, j < k → words[j]? = some x → t.toList ≠ x) ∧ wr.heap[w.heap.size]? = some (.cells (words.map fun l => Value.string ⟨l.toArray⟩).toArray 9 (0, 0)) ∧ Keep Any w wr)
  case atStart => exact ⟨0, by omega, rfl, rfl, fun j x hj => by omega, blk_new _ _, (Keep.refl _ _).alloc _⟩
  case round =>
    obtain ⟨k, hk, rfl, hg, hall, hb, hK⟩ := hrel
    have HG := Lib.hid hg
    have HA := Lib.hid hall
    have HB := Lib.hid hb
    by_cases hlt : k < 29
    · have hx : words[k]? = some (words[k]'hlt) := List.getElem?_eq_getElem hlt
      have hc : wr.cell? ⟨w.heap.size, k, none⟩ = some (.string ⟨(words[k]'hlt).toArray⟩) := by
        rw [blk_cell hb, List.getElem?_toArray, List.getElem?_map, hx]; rfl
      generalize words[k]'hlt = x at *
      have HX := Lib.hid hx
      clear hg hall hb hx
      rcases hq : x == t.toList with _ | _
      · have hq2 : t.toList ≠ x := fun h => by rw [h] at hq; simp at hq
        have HQ := Lib.hid hq2
        clear hq2
        go_wp2
        go_roundg (gk - 1)
        case rel => exact ⟨k + 1, by omega, by go_num, by have := HG.out; omega, fun j y hj hy => by rcases Nat.lt_succ_iff_lt_or_eq.1 hj with hj | rfl; exact HA.out j y hj hy; rw [HX.out] at hy; cases hy; exact HQ.out, HB.out, hK⟩
        case measure => have := HG.out; omega
      · have hr : kept t = true := List.any_eq_true.2 ⟨x, List.mem_of_getElem? HX.out, by rw [beq_iff_eq] at hq ⊢; exact hq.symm⟩
        have HR := Lib.hid hr
        clear hr
        go_wp2
        go_ret
        exact ⟨ret_bool HR.out.symm, hK⟩
    · have hr : kept t = false := List.any_eq_false.2 fun x hx => by
        obtain ⟨j, hj, rfl⟩ := List.getElem_of_mem hx
        simpa using hall j _ (by have : words.length = 29 := rfl; omega) (List.getElem?_eq_getElem hj)
      have HR := Lib.hid hr
      clear hr hall hb hg
      go_wp2
      go_ret
      exact ⟨ret_bool HR.out.symm, hK⟩

set_option maxHeartbeats 1000000 in
theorem l2Name_calls (t : ByteArray) (w : World) (hs : t.size ≤ 9223372036854775807) : Calls Tryz.prog 18 #[.string t] w (Tells (nameOk t) w) := by
  have IL := Lib.hid l2Letter_calls
  have IK := Lib.hid l2Kept_calls
  have II := Lib.hid l1In_calls
  go_enter Tryz.func18, Tryz.ntmps18
  go_wp2
  go_outline
  go_loop [3] (fun i => ∃ k : Nat, k ≤ t.size ∧ i = .int .i64 k ∧ ∀ j, j < k → letter (at_ t j) = true ∨ (0 < j ∧ fig (at_ t j) = true)) (fun i => t.size - (intOf i).toNat)
  case atStart => exact ⟨0, by omega, rfl, fun j hj => by omega⟩
  case round =>
    obtain ⟨k, hk, rfl, hg⟩ := hrel
    have HG := Lib.hid hg
    clear hg
    by_cases hlt : k < t.size
    · have e2 := at_eq t k hlt
      rcases hl : letter (at_ t k) with _ | _
      · have HL := Lib.hid hl
        by_cases hf : k = 0 ∨ fig (at_ t k) = false
        · have hr : nameOk t = false := by rw [nameOk, shape_bad hlt hl hf.symm]; rfl
          have HR := Lib.hid hr
          have hf' : (((k : Nat) : Int) == 0) = true ∨ ((((k : Nat) : Int) == 0) = false ∧ (at_ t k < 48 ∨ 57 < at_ t k)) := by
            rcases hf with h | h
            · left; simp [h]
            · by_cases h0 : k = 0
              · left; simp [h0]
              · right; refine ⟨by simp; omega, ?_⟩; simp only [fig, Bool.and_eq_false_iff, decide_eq_false_iff_not] at h; omega
          clear hr hl hf
          rcases hf' with b | ⟨b, b1 | b1⟩
          all_goals
            go_wp2_with (go_at_call 37; refine (IL.out _ _).mono ?_; rintro e w' ⟨rfl, rfl⟩; rw [HL.out])
            all_goals
              go_ret
              exact ⟨ret_bool HR.out.symm, Keep.refl _ _⟩
        · have b : (((k : Nat) : Int) == 0) = false := by simp; omega
          have hfig : fig (at_ t k) = true := by rcases h : fig (at_ t k) with _ | _; exact absurd (.inr h) hf; rfl
          obtain ⟨b1, b2⟩ : 48 ≤ at_ t k ∧ at_ t k ≤ 57 := by simpa [fig] using hfig
          have HF := Lib.hid hfig
          have k0 : 0 < k := by omega
          clear hl hf hfig
          go_wp2_with (go_at_call 37; refine (IL.out _ _).mono ?_; rintro e w' ⟨rfl, rfl⟩; rw [HL.out])
          go_round
          case rel => exact ⟨k + 1, by omega, by go_num, fun j hj => by rcases Nat.lt_succ_iff_lt_or_eq.1 hj with hj | rfl; exact HG.out j hj; exact .inr ⟨k0, HF.out⟩⟩
          case measure => simp [intOf]; omega
      · have HL := Lib.hid hl
        clear hl
        go_wp2_with (go_at_call 37; refine (IL.out _ _).mono ?_; rintro e w' ⟨rfl, rfl⟩; rw [HL.out])
        go_round
        case rel => exact ⟨k + 1, by omega, by go_num, fun j hj => by rcases Nat.lt_succ_iff_lt_or_eq.1 hj with hj | rfl; exact HG.out j hj; exact .inl HL.out⟩
        case measure => simp [intOf]; omega
    · by_cases hz : 1 ≤ t.size ∧ t.size ≤ 8
      · obtain ⟨z1, z2⟩ := hz
        have hsh := shape_good z1 z2 (by rcases HG.out 0 (by omega) with h | h; exact h; omega) (fun j hj => by rcases HG.out j (by omega) with h | h; exact .inl h; exact .inr h.2)
        have hr : nameOk t = !kept t := by rw [nameOk, hsh]; rfl
        have HR := Lib.hid hr
        clear hr hsh
        rcases hq : kept t with _ | _
        all_goals
          have HQ := Lib.hid hq
          clear hq
          go_wp2_with (first | (go_at_call 21; refine (II.out _ _ _ _).mono ?_; rintro e w' ⟨rfl, rfl⟩; rw [show inR t.size 1 8 = true by simp [inR]; omega]) | (go_at_call 38; refine (IK.out _ _).mono ?_; rintro e w' ⟨rfl, hK⟩; rw [HQ.out]))
          go_ret
          exact ⟨ret_bool (by rw [HR.out, HQ.out]; rfl), hK⟩
      · have hz' : t.size = 0 ∨ 8 < t.size := by omega
        have hr : nameOk t = false := by rw [nameOk, shape_long hz']; rfl
        have HR := Lib.hid hr
        clear hr hz
        have hz2 : t.size ≤ 0 ∨ 8 < t.size := by omega
        clear hz'
        rcases hz2 with h | h
        all_goals
          go_wp2
          go_ret
          exact ⟨ret_bool HR.out.symm, Keep.refl _ _⟩
end Go.Proofs.YtngghnakbhoiaaaGreatDoor

/- Which rules and names are ok, none twice: the program's and the reference's RulesOk, namesAlone. For every list. -/
namespace Go.Proofs.YtngghnakbhoiaaaGreatDoor
open Go.RowKit
set_option linter.unusedVariables false
set_option linter.unusedSimpArgs false
/-- each is ok, and none is ahead -/
def Good {α : Type} (ok : α → Prop) (l : List α) (n : Nat) : Prop := ∀ i x, i < n → l[i]? = some x → ok x ∧ x ∉ l.take i
theorem Good.zero {α : Type} {ok : α → Prop} {l : List α} : Good ok l 0 := fun i x h => by omega
theorem Good.succ {α : Type} {ok : α → Prop} {l : List α} {k : Nat} {x : α} (h : Good ok l k) (hx : l[k]? = some x) (h1 : ok x) (h2 : x ∉ l.take k) : Good ok l (k + 1) := fun i y hi hy => by
  rcases Nat.lt_succ_iff_lt_or_eq.1 hi with hi | rfl
  · exact h i y hi hy
  · rw [hx] at hy; cases hy; exact ⟨h1, h2⟩
theorem Good.not {α : Type} {ok : α → Prop} {l : List α} {k n : Nat} {x : α} (hx : l[k]? = some x) (hk : k < n) (h : ¬ (ok x ∧ x ∉ l.take k)) : ¬ Good ok l n := fun hg => h (hg k x hk hx)
def okR (r : Ru) : Prop := nameOk r.label = true ∧ nameOk r.name = true
def RulesGood (l : List Ru) : Prop := l.length ≤ 3 ∧ Good okR l l.length
def Says (p : Prop) (w : World) (e : Ending) (w' : World) : Prop := ∃ b : Bool, e = .returned (.bool b) ∧ (b = true ↔ p) ∧ Keep Any w w'
theorem Says.no {p : Prop} {w w' : World} (h : ¬ p) (k : Keep Any w w') : Says p w (.returned (.bool false)) w' := ⟨false, rfl, by simp [h], k⟩
theorem Says.yes {p : Prop} {w w' : World} (h : p) (k : Keep Any w w') : Says p w (.returned (.bool true)) w' := ⟨true, rfl, by simp [h], k⟩
theorem strs_take {w : World} {ok : Nat → Prop} {ad : Addr} {n c : Nat} {l : List ByteArray} (h : Strs w ok (.slice (some ad) n c) l) {k : Nat} (hk : k ≤ l.length) : Strs w ok (.slice (some ad) k c) (l.take k) := by
  obtain ⟨a', c', e, h1, h2, h3⟩ := h
  cases e
  refine ⟨_, c, by rw [List.length_take, Nat.min_eq_left hk], by rw [List.length_take]; omega, h2, fun hn => ?_⟩
  obtain ⟨ad, e, hb, hf⟩ := h3 (fun e => hn (by rw [e, List.take_nil]))
  cases e
  exact ⟨_, rfl, hb, fun j x hx => hf j x (by rw [List.getElem?_take] at hx; split at hx; exact hx; cases hx)⟩
theorem rus_take {w : World} {ok : Nat → Prop} {ad : Addr} {n c : Nat} {l : List Ru} (h : Rus w ok (.slice (some ad) n c) l) {k : Nat} (hk : k ≤ l.length) : Rus w ok (.slice (some ad) k c) (l.take k) := by
  obtain ⟨a', c', e, h1, h2, h3⟩ := h
  cases e
  refine ⟨_, c, by rw [List.length_take, Nat.min_eq_left hk], by rw [List.length_take]; omega, h2, fun hn => ?_⟩
  obtain ⟨ad, e, hb, hf⟩ := h3 (fun e => hn (by rw [e, List.take_nil]))
  cases e
  exact ⟨_, rfl, hb, fun j x hx => hf j x (by rw [List.getElem?_take] at hx; split at hx; exact hx; cases hx)⟩
theorem namesAlone_calls (l : List ByteArray) (v : Value) (w : World) (hs : Strs w Any v l) : Calls Tryz.prog 15 #[v] w (Says (Good (fun t => nameOk t = true) l l.length) w) := by
  have HS := Lib.hid hs
  have CO := Lib.hid (fun l x v w h => containsStr_calls l x v w h)
  have NO := Lib.hid (fun t w h => nameOk_calls t w h)
  obtain ⟨a, c, rfl, hc, hm, _⟩ := hs
  go_enter Tryz.func15, Tryz.ntmps15
  go_wp2
  go_loopg [7] (l.length + 1) (fun g i wr => ∃ k : Nat, k ≤ l.length ∧ i = .int .i64 k ∧ g = l.length + 1 - k ∧ Good (fun t => nameOk t = true) l k ∧ Keep Any w wr)
  case atStart => exact ⟨0, by omega, rfl, rfl, Good.zero, Keep.refl _ _⟩
  case round =>
    obtain ⟨k, hk, rfl, hg, hN, hK⟩ := hrel
    have HG := Lib.hid hg
    have HN := Lib.hid hN
    have HK := Lib.hid hK
    clear hg hN hK
    by_cases hlt : k < l.length
    · have hx : l[k]? = some l[k] := List.getElem?_eq_getElem hlt
      obtain ⟨ad, rfl, hf, c0⟩ := strs_at HS.out HK.out hx
      have HX := Lib.hid hx
      have HF := Lib.hid hf
      generalize l[k] = y at *
      clear hx hf
      have k0 : (0 : Int) ≤ (k : Int) := by omega
      have k1 : (k : Int) < (l.length : Int) := by omega
      have kc : (k : Int) ≤ (c : Int) := by omega
      have HT := Lib.hid (strs_take (Strs.keep HS.out HK.out) hk)
      rcases hok : nameOk y with _ | _
      · have HO := Lib.hid hok
        clear hok
        go_wp2_with (go_at_call 33; refine (NO.out y _ HF.out).mono ?_; rintro e w2 ⟨rfl, rfl⟩; rw [HO.out])
        go_ret
        exact Says.no (Good.not HX.out hlt (fun h => by rw [HO.out] at h; exact absurd h.1 (by decide))) HK.out
      · have HO := Lib.hid hok
        clear hok
        go_wp2_with fail
        refine (NO.out y _ HF.out).mono ?_
        rintro e w2 ⟨rfl, rfl⟩
        rw [HO.out]
        go_wp2_with fail
        refine (CO.out _ _ _ _ HT.out).mono ?_
        rintro e w3 ⟨b, rfl, hb, hK3⟩
        have HB := Lib.hid hb
        have HK3 := Lib.hid hK3
        clear hb hK3
        cases b
        · go_wp2
          go_roundg (gk - 1)
          case rel => exact ⟨k + 1, by omega, by go_num, by have := HG.out; omega, HN.out.succ HX.out HO.out (fun h => by have := HB.out.2 h; cases this), HK.out.trans HK3.out⟩
          case measure => have := HG.out; omega
        · go_wp2
          go_ret
          exact Says.no (Good.not HX.out hlt (fun h => h.2 (by have h := HB.out; simpa using h))) (HK.out.trans HK3.out)
    · have HE := Lib.hid (show k = l.length by omega)
      go_wp2
      go_ret
      exact Says.yes (by have h := HN.out; rwa [HE.out] at h) HK.out
theorem ru_cases (x y : Ru) : (x = y ∧ (x.label.toList == y.label.toList) = true ∧ (x.name.toList == y.name.toList) = true) ∨ (¬ x = y ∧ (x.label.toList == y.label.toList) = false) ∨ (¬ x = y ∧ (x.label.toList == y.label.toList) = true ∧ (x.name.toList == y.name.toList) = false) := by
  by_cases h1 : x.label = y.label
  · by_cases h2 : x.name = y.name
    · exact .inl ⟨Ru.ext' h1 h2, str_same.2 h1, str_same.2 h2⟩
    · exact .inr (.inr ⟨fun e => h2 (by rw [e]), str_same.2 h1, str_diff h2⟩)
  · exact .inr (.inl ⟨fun e => h1 (by rw [e]), str_diff h1⟩)
theorem indexRu_calls (l : List Ru) (x : Ru) (v : Value) (w : World) (hs : Rus w Any v l) : Calls Tryz.prog 58 #[v, .agg #[.string x.label, .string x.name]] w (Found l x w) := by
  have HS := Lib.hid hs
  obtain ⟨ad, c, rfl, hc, hm, _⟩ := hs
  go_enter Tryz.func58, Tryz.ntmps58
  go_wp2
  go_loopg [8] (l.length + 1) (fun g i wr => ∃ k : Nat, k ≤ l.length ∧ i = .int .i64 k ∧ g = l.length + 1 - k ∧ x ∉ l.take k ∧ Keep Any (w.alloc (.cells #[.string x.label, .string x.name] 73 (0, 0))) wr)
  case atStart => exact ⟨0, by omega, rfl, rfl, by simp, Keep.refl _ _⟩
  case round =>
    obtain ⟨k, hk, rfl, hg, hN, hK⟩ := hrel
    have HG := Lib.hid hg
    have HN := Lib.hid hN
    have HK := Lib.hid hK
    have HW := Lib.hid (((Keep.refl Any w).alloc _).trans hK)
    have HB := Lib.hid (blk_keep hK (blk_new _ _) trivial)
    have x0 := (blk_cell HB.out 0).trans rfl
    have x1 := (blk_cell HB.out 1).trans rfl
    clear hg hN hK
    by_cases hlt : k < l.length
    · have hx : l[k]? = some l[k] := List.getElem?_eq_getElem hlt
      obtain ⟨ad, rfl, _, _, c0, c1⟩ := rus_at HS.out HW.out hx
      have HX := Lib.hid hx
      generalize l[k] = y at *
      clear hx
      have k0 : (0 : Int) ≤ (k : Int) := by omega
      have k1 : (k : Int) < (l.length : Int) := by omega
      rcases ru_cases x y with ⟨hxy, q1, q2⟩ | ⟨hxy, q1⟩ | ⟨hxy, q1, q2⟩
      · have HXY := Lib.hid hxy
        clear hxy
        go_wp2
        go_quiet (fail)
        go_wp2
        go_ret
        exact ⟨k, rfl, .inr ⟨k, rfl, by rw [HXY.out]; exact HX.out, HN.out⟩, HW.out.drewN _⟩
      · have HXY := Lib.hid hxy
        clear hxy
        go_wp2
        go_quiet (fail)
        go_wp2
        go_roundg (gk - 1)
        case rel => exact ⟨k + 1, by omega, by go_num, by have := HG.out; omega, take_next HN.out HX.out HXY.out, HK.out.drewN _⟩
        case measure => have := HG.out; omega
      · have HXY := Lib.hid hxy
        clear hxy
        go_wp2
        go_quiet (fail)
        go_wp2
        go_roundg (gk - 1)
        case rel => exact ⟨k + 1, by omega, by go_num, by have := HG.out; omega, take_next HN.out HX.out HXY.out, HK.out.drewN _⟩
        case measure => have := HG.out; omega
    · have HE := Lib.hid (show k = l.length by omega)
      go_wp2
      go_ret
      exact ⟨-1, rfl, .inl ⟨rfl, by have h := HN.out; rwa [HE.out, List.take_length] at h⟩, HW.out⟩
theorem containsRu_calls (l : List Ru) (x : Ru) (v : Value) (w : World) (hs : Rus w Any v l) : Calls Tryz.prog 42 #[v, .agg #[.string x.label, .string x.name]] w (Among l x w) := by
  have IX := Lib.hid (indexRu_calls l x v _ (Rus.keep hs ((Keep.refl Any w).alloc (.cells #[.string x.label, .string x.name] 73 (0, 0)))))
  obtain ⟨ad, c, rfl, hc, hm, _⟩ := hs
  go_enter Tryz.func42, Tryz.ntmps42
  go_wp2_with fail
  refine IX.out.mono ?_
  rintro e w2 ⟨n, rfl, hF, hK⟩
  have HF := Lib.hid hF
  have HK := Lib.hid (((Keep.refl Any w).alloc _).trans hK)
  have hbd := hF.bd
  clear hF hK
  go_wp2
  go_ret
  exact ⟨decide (0 ≤ n), rfl, by rw [decide_eq_true_eq]; exact HF.out.mem, HK.out⟩
set_option maxHeartbeats 1000000 in
set_option maxRecDepth 20000 in
theorem rulesOk_calls (l : List Ru) (v : Value) (w : World) (hs : Rus w Any v l) : Calls Tryz.prog 24 #[v] w (Says (RulesGood l) w) := by
  have HS := Lib.hid hs
  have CO := Lib.hid (fun l x v w h => containsRu_calls l x v w h)
  have NO := Lib.hid (fun t w h => nameOk_calls t w h)
  obtain ⟨a, c, rfl, hc, hm, _⟩ := hs
  by_cases hl : 3 < l.length
  · have c1 : (3 : Int) < (l.length : Int) := by omega
    have HL := Lib.hid hl
    clear hl
    go_enter Tryz.func24, Tryz.ntmps24
    go_wp2
    go_ret
    exact Says.no (fun h => by have h1 := h.1; have h2 := HL.out; omega) (Keep.refl _ _)
  have HL := Lib.hid (show l.length ≤ 3 by omega)
  go_enter Tryz.func24, Tryz.ntmps24
  go_wp2
  go_loopg [10] (l.length + 1) (fun g i wr => ∃ k : Nat, k ≤ l.length ∧ i = .int .i64 k ∧ g = l.length + 1 - k ∧ Good okR l k ∧ Keep Any w wr)
  case atStart => exact ⟨0, by omega, rfl, rfl, Good.zero, Keep.refl _ _⟩
  case round =>
    obtain ⟨k, hk, rfl, hg, hN, hK⟩ := hrel
    have HG := Lib.hid hg
    have HN := Lib.hid hN
    have HK := Lib.hid hK
    clear hg hN hK
    by_cases hlt : k < l.length
    · have hx : l[k]? = some l[k] := List.getElem?_eq_getElem hlt
      obtain ⟨ad, rfl, hf, hf2, c0, c1⟩ := rus_at HS.out HK.out hx
      have HX := Lib.hid hx
      have HF := Lib.hid hf
      have HF2 := Lib.hid hf2
      generalize l[k] = y at *
      clear hx hf hf2
      have k0 : (0 : Int) ≤ (k : Int) := by omega
      have k1 : (k : Int) < (l.length : Int) := by omega
      have kc : (k : Int) ≤ (c : Int) := by omega
      have HT := Lib.hid (rus_take (Rus.keep HS.out HK.out) hk)
      rcases hok : nameOk y.label with _ | _
      · have HO := Lib.hid hok
        have NL := Lib.hid (fun w => (NO.out y.label w HF.out).mono fun e w' h => (show e = .returned (.bool false) ∧ w' = w from ⟨by rw [h.1, hok], h.2.symm⟩))
        clear hok
        go_wp2
        go_quiet (first | (go_at_call 33; with_reducible refine Calls.quiet_of_same (NL.out _)))
        go_wp2
        go_ret
        exact Says.no (fun hg => Good.not (ok := okR) HX.out hlt (fun h => by have h1 := h.1.1; rw [HO.out] at h1; cases h1) hg.2) ((HK.out.alloc _).drewN _)
      · have HO := Lib.hid hok
        have NL := Lib.hid (fun w => (NO.out y.label w HF.out).mono fun e w' h => (show e = .returned (.bool true) ∧ w' = w from ⟨by rw [h.1, hok], h.2.symm⟩))
        clear hok
        rcases hok2 : nameOk y.name with _ | _
        · have HO2 := Lib.hid hok2
          have NN := Lib.hid (fun w => (NO.out y.name w HF2.out).mono fun e w' h => (show e = .returned (.bool false) ∧ w' = w from ⟨by rw [h.1, hok2], h.2.symm⟩))
          clear hok2
          go_wp2
          go_quiet (first | (go_at_call 33; with_reducible refine Calls.quiet_of_same (NL.out _)) | (go_at_call 33; with_reducible refine Calls.quiet_of_same (NN.out _)))
          go_wp2
          go_ret
          exact Says.no (fun hg => Good.not (ok := okR) HX.out hlt (fun h => by have h1 := h.1.2; rw [HO2.out] at h1; cases h1) hg.2) ((HK.out.alloc _).drewN _)
        · have HO2 := Lib.hid hok2
          have NN := Lib.hid (fun w => (NO.out y.name w HF2.out).mono fun e w' h => (show e = .returned (.bool true) ∧ w' = w from ⟨by rw [h.1, hok2], h.2.symm⟩))
          clear hok2
          go_wp2
          have KR := Lib.hid (show Keep Any wr (wr.alloc (.cells #[.string y.label, .string y.name] 73 (0, 0))) from (Keep.refl _ _).alloc _)
          have HB := Lib.hid (blk_new wr (.cells #[.string y.label, .string y.name] 73 (0, 0)))
          generalize wr.alloc (.cells #[.string y.label, .string y.name] 73 (0, 0)) = wx at *
          have x0 := (blk_cell HB.out 0).trans rfl
          have x1 := (blk_cell HB.out 1).trans rfl
          have kx : Keep Any wx wx.drew := (Keep.refl _ _).drew
          have SK := Lib.hid (fun w' (h : Keep Any wx w') => (⟨h, h.cell x0 trivial, h.cell x1 trivial⟩ : Keep Any wx w' ∧ w'.cell? ⟨wr.heap.size, 0, none⟩ = some (.string y.label) ∧ w'.cell? ⟨wr.heap.size, 1, none⟩ = some (.string y.name)))
          first | (go_region_held3 (fun w' => Keep Any wx w' ∧ w'.cell? ⟨wr.heap.size, 0, none⟩ = some (.string y.label) ∧ w'.cell? ⟨wr.heap.size, 1, none⟩ = some (.string y.name)) (first | (go_split_ands; exact SK.out _ (Keep.trans (by first | assumption | exact Keep.drew (by assumption)) hK6)) | go_keep) (first | (go_at_call 33; (with_reducible refine (NL.out _).mono ?_); rintro e w6 ⟨rfl, rfl⟩) | (go_at_call 33; (with_reducible refine (NN.out _).mono ?_); rintro e w6 ⟨rfl, rfl⟩) | (go_at_call 42; refine (CO.out _ y _ _ (Rus.keep HT.out (KR.out.trans (by first | assumption | exact Keep.drew (by assumption) | (go_split_ands; first | assumption | exact Keep.drew (by assumption)))))).mono ?_; rintro e w6 ⟨b, rfl, hb, hK6⟩))) | fail
          have HB6 := Lib.hid hb
          have KW6 := Lib.hid ((HK.out.trans KR.out).trans ((Keep.refl Any wx).drew.trans hK6))
          clear hb hK6 x0 x1 kx
          cases b
          · go_wp2
            go_roundg (gk - 1)
            case rel => exact ⟨k + 1, by omega, by go_num, by have := HG.out; omega, HN.out.succ HX.out ⟨HO.out, HO2.out⟩ (fun h => by have := HB6.out.2 h; cases this), KW6.out⟩
            case measure => have := HG.out; omega
          · go_wp2
            go_ret
            exact Says.no (fun hg => Good.not (ok := okR) HX.out hlt (fun h => h.2 (by have h := HB6.out; simpa using h)) hg.2) KW6.out
    · have HE := Lib.hid (show k = l.length by omega)
      go_wp2
      go_ret
      exact Says.yes (by have h := HN.out; rw [HE.out] at h; exact ⟨HL.out, h⟩) HK.out
set_option maxHeartbeats 2000000 in
set_option maxRecDepth 20000 in
theorem specRulesOk_calls (l : List Ru) (v : Value) (w : World) (hs : Rus w Any v l) : Calls Tryz.prog 36 #[v] w (Says (RulesGood l) w) := by
  have HS := Lib.hid hs
  have NO := Lib.hid (fun t w h => l2Name_calls t w h)
  obtain ⟨a, c, rfl, hc, hm, _⟩ := hs
  go_enter Tryz.func36, Tryz.ntmps36
  go_wp2
  go_loopg [3] (l.length + 1) (fun g i wr => ∃ k : Nat, k ≤ l.length ∧ i = .int .i64 k ∧ g = l.length + 1 - k ∧ Good okR l k ∧ Keep Any w wr)
  case atStart => exact ⟨0, by omega, rfl, rfl, Good.zero, Keep.refl _ _⟩
  case round =>
    obtain ⟨k, hk, rfl, hg, hN, hK⟩ := hrel
    have HG := Lib.hid hg
    have HN := Lib.hid hN
    have HK := Lib.hid hK
    clear hg hN hK
    by_cases hlt : k < l.length
    · have hx : l[k]? = some l[k] := List.getElem?_eq_getElem hlt
      obtain ⟨ad, rfl, hf, hf2, c0, c1⟩ := rus_at HS.out HK.out hx
      have HX := Lib.hid hx
      have HF := Lib.hid hf
      have HF2 := Lib.hid hf2
      generalize l[k] = y at *
      clear hx hf hf2
      have k0 : (0 : Int) ≤ (k : Int) := by omega
      have k1 : (k : Int) < (l.length : Int) := by omega
      have C0 := Lib.hid c0
      have C1 := Lib.hid c1
      go_wp2_with fail
      refine (NO.out y.label _ HF.out).mono ?_
      rintro e w2 ⟨rfl, hK2⟩
      have c1 := hK2.cell C1.out trivial
      have c0 := hK2.cell C0.out trivial
      have K2 := Lib.hid (HK.out.trans hK2)
      clear hK2
      rcases hok : nameOk y.label with _ | _
      · have HO := Lib.hid hok
        clear hok
        go_wp2
        go_ret
        exact Says.no (fun hg => Good.not (ok := okR) HX.out hlt (fun h => by have h1 := h.1.1; rw [HO.out] at h1; cases h1) hg.2) K2.out
      · have HO := Lib.hid hok
        clear hok
        go_wp2_with fail
        refine (NO.out y.name _ HF2.out).mono ?_
        rintro e w3 ⟨rfl, hK3⟩
        have c0' := hK3.cell c0 trivial
        have c1' := hK3.cell c1 trivial
        have K3 := Lib.hid (K2.out.trans hK3)
        clear hK3
        rcases hok2 : nameOk y.name with _ | _
        · have HO2 := Lib.hid hok2
          clear hok2
          go_wp2
          go_ret
          exact Says.no (fun hg => Good.not (ok := okR) HX.out hlt (fun h => by have h1 := h.1.2; rw [HO2.out] at h1; cases h1) hg.2) K3.out
        · have HO2 := Lib.hid hok2
          clear hok2
          obtain ⟨g0, hg0⟩ : ∃ g0, g0 = gk := ⟨_, rfl⟩
          have HG0 := Lib.hid hg0
          clear hg0
          go_wp2
          go_loopg [4] (k + 1) (fun g i wq => ∃ j : Nat, j ≤ k ∧ i = .int .i64 j ∧ g = k + 1 - j ∧ y ∉ l.take j ∧ Keep Any w3 wq)
          case atStart => exact ⟨0, by omega, rfl, rfl, by simp, Keep.refl _ _⟩
          case round =>
            obtain ⟨j, hj, rfl, hgj, hNj, hKj⟩ := hrel
            have HGJ := Lib.hid hgj
            have HNJ := Lib.hid hNj
            have HKJ := Lib.hid (K3.out.trans hKj)
            have HKJ3 := Lib.hid hKj
            have d0 := hKj.cell c0' trivial
            have d1 := hKj.cell c1' trivial
            clear hgj hNj hKj
            by_cases hjk : j < k
            · have hz : l[j]? = some l[j] := List.getElem?_eq_getElem (by omega)
              obtain ⟨ad', e', hf3, hf4, z0, z1⟩ := rus_at HS.out HKJ.out hz
              cases e'
              have HZ := Lib.hid hz
              generalize l[j] = z at *
              clear hz hf3 hf4
              have j0 : (0 : Int) ≤ (j : Int) := by omega
              have j1 : (j : Int) < (l.length : Int) := by omega
              rcases ru_cases z y with ⟨hxy, q1, q2⟩ | ⟨hxy, q1⟩ | ⟨hxy, q1, q2⟩
              · have HXY := Lib.hid hxy
                clear hxy
                go_wp2
                go_quiet (fail)
                go_wp2
                go_ret
                exact Says.no (fun hg => Good.not (ok := okR) HX.out hlt (fun h => h.2 (List.mem_of_getElem? (i := j) (by rw [List.getElem?_take, if_pos hjk, ← HXY.out]; exact HZ.out))) hg.2) (HKJ.out.drewN _)
              · have HXY := Lib.hid hxy
                clear hxy
                go_wp2
                go_quiet (fail)
                go_wp2
                go_roundg (gk - 1)
                case rel => exact ⟨j + 1, by omega, by go_num, by have := HGJ.out; omega, take_next HNJ.out HZ.out (fun e => HXY.out e.symm), HKJ3.out.drewN _⟩
                case measure => have := HGJ.out; omega
              · have HXY := Lib.hid hxy
                clear hxy
                go_wp2
                go_quiet (fail)
                go_wp2
                go_roundg (gk - 1)
                case rel => exact ⟨j + 1, by omega, by go_num, by have := HGJ.out; omega, take_next HNJ.out HZ.out (fun e => HXY.out e.symm), HKJ3.out.drewN _⟩
                case measure => have := HGJ.out; omega
            · have HE := Lib.hid (show j = k by omega)
              go_wp2
              go_roundg (g0 - 1)
              case rel => exact ⟨k + 1, by omega, by go_num, by have := HG.out; have := HG0.out; omega, HN.out.succ HX.out ⟨HO.out, HO2.out⟩ (by have h := HNJ.out; rwa [HE.out] at h), HKJ.out⟩
              case measure => have := HG.out; have := HG0.out; omega
    · have HE := Lib.hid (show k = l.length by omega)
      go_wp2
      go_ret
      exact ⟨decide ((l.length : Int) ≤ 3), rfl, by rw [decide_eq_true_eq]; exact ⟨fun h => ⟨by omega, by have h2 := HN.out; rwa [HE.out] at h2⟩, fun h => by have := h.1; omega⟩, HK.out⟩
end Go.Proofs.YtngghnakbhoiaaaGreatDoor

/- Copies of a graph with nothing in it, of no questions: nothing again. -/
namespace Go.Proofs.YtngghnakbhoiaaaGreatDoor
open Go.RowKit
set_option linter.unusedVariables false
set_option linter.unusedSimpArgs false
theorem at4' {w : World} {g : Nat} {T : TypeId} {a b c d : Value} (h : w.heap[g]? = some (.cells #[a, b, c, d] T (0, 0))) : w.cell? ⟨g, 0, none⟩ = some a ∧ w.cell? ⟨g, 1, none⟩ = some b ∧ w.cell? ⟨g, 2, none⟩ = some c ∧ w.cell? ⟨g, 3, none⟩ = some d :=
  ⟨(blk_cell h 0).trans rfl, (blk_cell h 1).trans rfl, (blk_cell h 2).trans rfl, (blk_cell h 3).trans rfl⟩
def GraphZ (w : World) (e : Ending) (w' : World) : Prop := e = .returned (.agg #[.slice none 0 0, .slice none 0 0, .int .i64 0, .int .i64 0]) ∧ Keep Any w w'
set_option maxHeartbeats 1000000 in
set_option maxRecDepth 20000 in
theorem cloneGraph_nil (a1 a2 : Option Addr) (c1 c2 : Nat) (w : World) : Calls Tryz.prog 43 #[.agg #[.slice a1 0 c1, .slice a2 0 c2, .int .i64 0, .int .i64 0]] w (GraphZ w) := by
  go_enter Tryz.func43, Tryz.ntmps43
  go_wp2
  go_loopg [25] 1 (fun g x wr => x = .int .i64 0 ∧ g = 1 ∧ wr.heap[w.heap.size]? = some (.cells #[.slice a1 0 c1, .slice a2 0 c2, .int .i64 0, .int .i64 0] 37 (0, 0)) ∧ wr.heap[w.heap.size + 1]? = some (.cells #[.slice none 0 0, .slice none 0 0, .int .i64 0, .int .i64 0] 37 (0, 0)) ∧ wr.heap[w.heap.size + 2]? = some (.cells #[.slice none 0 0, .slice none 0 0, .int .i64 0, .int .i64 0] 37 (0, 0)) ∧ Keep Any w wr)
  case atStart => exact ⟨rfl, rfl, blk_alloc (blk_alloc (blk_new _ _) _) _, blk_alloc (by simpa using blk_new (w.alloc _) _) _, by simpa using blk_new ((w.alloc _).alloc _) _, (((Keep.refl _ _).alloc _).alloc _).alloc _⟩
  case round =>
    obtain ⟨rfl, hg, h1, h2, h3, hK⟩ := hrel
    have H1 := Lib.hid h1
    have H2 := Lib.hid h2
    have H3 := Lib.hid h3
    have HK := Lib.hid hK
    obtain ⟨x0, x1, x2, x3⟩ := at4' h1
    clear h1 h2 h3 hK
    go_wp2
    go_loopg [56] 1 (fun g x wq => x = .int .i64 0 ∧ g = 1 ∧ wr = wq)
    case atStart => exact ⟨rfl, rfl, rfl⟩
    case round =>
      obtain ⟨rfl, hg, rfl⟩ := hrel
      obtain ⟨y0, y1, y2, y3⟩ := at4' H3.out
      obtain ⟨r0, r1, r2, r3⟩ := at4' H2.out
      have f0 := blk_frozen H2.out 0
      have f1 := blk_frozen H2.out 1
      have f2 := blk_frozen H2.out 2
      have f3 := blk_frozen H2.out 3
      have z2 := blk_lt H2.out
      go_wp2
      refine bodyPost_ret (v := .agg #[.slice none 0 0, .slice none 0 0, .int .i64 0, .int .i64 0]) (by simp [results, Tryz.results43, go_sem, r0, r1, r2, r3, f0, f1, f2, f3, z2]) rfl ⟨rfl, ?_⟩
      repeat (first | (with_reducible exact HK.out) | (refine Keep.set ?_ _ _ (fun h _ => by have h : w.heap.size + 1 < w.heap.size := h; omega)))
theorem cloneAsks_nil (a : Option Addr) (c : Nat) (w : World) : Calls Tryz.prog 44 #[.slice a 0 c] w fun e w' => e = .returned (.slice none 0 0) ∧ Keep Any w w' := by
  go_enter Tryz.func44, Tryz.ntmps44
  go_wp2
  go_ret
  exact ⟨rfl, Keep.refl _ _⟩
set_option maxHeartbeats 1000000 in
set_option maxRecDepth 20000 in
theorem l2Copy_nil (a1 a2 : Option Addr) (c1 c2 : Nat) (w : World) : Calls Tryz.prog 39 #[.agg #[.slice a1 0 c1, .slice a2 0 c2, .int .i64 0, .int .i64 0]] w (GraphZ w) := by
  go_enter Tryz.func39, Tryz.ntmps39
  go_wp2
  go_loopg [4] 1 (fun g x wr => x = .int .i64 0 ∧ g = 1 ∧ wr.heap[w.heap.size]? = some (.cells #[.slice a1 0 c1, .slice a2 0 c2, .int .i64 0, .int .i64 0] 37 (0, 0)) ∧ wr.heap[w.heap.size + 1]? = some (.cells #[.slice none 0 0, .slice none 0 0, .int .i64 0, .int .i64 0] 37 (0, 0)) ∧ wr.heap[w.heap.size + 2]? = some (.cells #[.slice none 0 0, .slice none 0 0, .int .i64 0, .int .i64 0] 37 (0, 0)) ∧ Keep Any w wr)
  case atStart => exact ⟨rfl, rfl, blk_alloc (blk_alloc (blk_new _ _) _) _, blk_alloc (by simpa using blk_new (w.alloc _) _) _, by simpa using blk_new ((w.alloc _).alloc _) _, (((Keep.refl _ _).alloc _).alloc _).alloc _⟩
  case round =>
    obtain ⟨rfl, hg, h1, h2, h3, hK⟩ := hrel
    have H1 := Lib.hid h1
    have H2 := Lib.hid h2
    have H3 := Lib.hid h3
    have HK := Lib.hid hK
    obtain ⟨x0, x1, x2, x3⟩ := at4' h1
    clear h1 h2 h3 hK
    go_wp2
    go_loopg [6] 1 (fun g x wq => x = .int .i64 0 ∧ g = 1 ∧ wr = wq)
    case atStart => exact ⟨rfl, rfl, rfl⟩
    case round =>
      obtain ⟨rfl, hg, rfl⟩ := hrel
      obtain ⟨y0, y1, y2, y3⟩ := at4' H3.out
      obtain ⟨r0, r1, r2, r3⟩ := at4' H2.out
      have f0 := blk_frozen H2.out 0
      have f1 := blk_frozen H2.out 1
      have f2 := blk_frozen H2.out 2
      have f3 := blk_frozen H2.out 3
      have z2 := blk_lt H2.out
      go_wp2
      refine bodyPost_ret (v := .agg #[.slice none 0 0, .slice none 0 0, .int .i64 0, .int .i64 0]) (by simp [results, Tryz.results39, go_sem, r0, r1, r2, r3, f0, f1, f2, f3, z2]) rfl ⟨rfl, ?_⟩
      repeat (first | (with_reducible exact HK.out) | (refine Keep.set ?_ _ _ (fun h _ => by have h : w.heap.size + 1 < w.heap.size := h; omega)))
theorem l7Asks_nil (a : Option Addr) (c : Nat) (w : World) : Calls Tryz.prog 40 #[.slice a 0 c] w fun e w' => ∃ a', e = .returned (.slice a' 0 0) ∧ Keep Any w w' := by
  go_enter Tryz.func40, Tryz.ntmps40
  go_wp2
  go_loopg [4, 3] 1 (fun g x y wr => x = .int .i64 0 ∧ y = .slice (some ⟨w.heap.size, 0, none⟩) 0 0 ∧ g = 1 ∧ Keep Any w wr)
  case atStart => exact ⟨rfl, rfl, rfl, (Keep.refl _ _).alloc _⟩
  case round =>
    obtain ⟨rfl, rfl, hg, hK⟩ := hrel
    have HK := Lib.hid hK
    clear hK
    go_wp2
    go_ret
    exact ⟨_, rfl, HK.out⟩
end Go.Proofs.YtngghnakbhoiaaaGreatDoor

/- What an append does, by its run; nothing behind nothing. No condition. -/
namespace Go.Proofs.YtngghnakbhoiaaaGreatDoor
open Go.RowKit
set_option linter.unusedVariables false
set_option linter.unusedSimpArgs false
section
variable {P : Program} (w : World)
theorem run_append_zero (t ty e : TypeId) (i : TypeInfo) (z : Value) (ht : P.underlying t = some (.slice e)) (hi : P.info? e = some i) (hz : i.zero = some z) (sa : Option Addr) (a : Option Addr) (c : Nat) :
    (Builtin.append_ #[t, t] ty #[.slice sa 0 0, .slice a 0 c]).run P w = .ok (.slice sa 0 0) w := by
  cases a with
  | none => cases sa <;> simp [Builtin.append_, run_underlying ht, sizeOf, typeInfo, zeroValue, hi, hz, Builtin.lenOf, run_firstCells_none, storeCells]
  | some a =>
    have hf := run_firstCells_some (P := P) w i.size 0 a 0 c [] (by simp) (by simp)
    cases sa <;> simp [Builtin.append_, run_underlying ht, sizeOf, typeInfo, zeroValue, hi, hz, Builtin.lenOf, hf, storeCells]
theorem wp_append_by {o : Oper} {a : Act} {K : Act → World → Prop} {Q : Exit → Act → World → Prop} (s x : Operand) (t : TypeId)
    (ho : o.op = .call { callee := .builtin .append, args := #[s, x], argTypes := #[t, t] }) (v y v' : Value) (w' : World) (hs : a.eval s = v) (hx : a.eval x = y)
    (hr : (Builtin.append_ #[t, t] o.type #[v, y]).run P w = .ok v' w') (h : K (a.put o.dst v') w') : o.wp P a w K Q := by
  unfold Oper.wp execOp
  simp only [ho, resolve, invoke, builtin, Sem.run_bind, Sem.run_pure, Result.andThen_ok, List.map_toArray, List.map_cons, List.map_nil, hs, hx, hr]
  exact h
theorem wpList_append_by {ops : Array Oper} {rest : List Oper} {o : Oper} {a : Act} {Q : Exit → Act → World → Prop} (hgd : o.guard = none) (s x : Operand) (t : TypeId)
    (ho : o.op = .call { callee := .builtin .append, args := #[s, x], argTypes := #[t, t] }) (v y v' : Value) (w' : World) (hs : a.eval s = v) (hx : a.eval x = y)
    (hr : (Builtin.append_ #[t, t] o.type #[v, y]).run P w = .ok v' w') (h : wpList P ops Q rest (a.put o.dst v') w') : wpList P ops Q (o :: rest) a w :=
  wpList_plain hgd fun _ hK => wp_append_by w s x t ho v y v' w' hs hx hr (hK _ _ h)
theorem step_append_by {ops : Array Oper} {o : Oper} {a : Act} {K : Act → World → Prop} {Q : Exit → Act → World → Prop} {E : Prop} (hgd : o.guard = none) (s x : Operand) (t : TypeId)
    (ho : o.op = .call { callee := .builtin .append, args := #[s, x], argTypes := #[t, t] }) (v y v' : Value) (w' : World) (hs : a.eval s = v) (hx : a.eval x = y)
    (hr : (Builtin.append_ #[t, t] o.type #[v, y]).run P w = .ok v' w') (h : K (a.put o.dst v') w') : if Region.wanted o (yielded ops a.tmps) = true then Oper.wp P o a w K Q else E := by
  have hw : Region.wanted o (yielded ops a.tmps) = true := by simp [Region.wanted, hgd]
  rw [if_pos hw]
  exact wp_append_by w s x t ho v y v' w' hs hx hr h
end
end Go.Proofs.YtngghnakbhoiaaaGreatDoor

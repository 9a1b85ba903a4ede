/- Which texts are names: the reference's test, for every text. -/
import Derived.Test.YtjgnnobfaphkeaaDoorNameWalk
namespace Go.Proofs.YtjgnnobfaphkeaaDoor
open Go.RowKit
set_option linter.unusedVariables false
set_option linter.unusedSimpArgs false

def inR (n a b : Int) : Bool := decide (a ≤ n) && decide (n ≤ b)
theorem l1In_calls (n a b : Int) (w : World) : Calls Tryd.prog 46 #[.int .i64 n, .int .i64 a, .int .i64 b] w (Quiet (inR n a b) w) := by
  go_enter Tryd.func46, Tryd.ntmps46
  go_wp2 <;> (go_ret; exact ⟨ret_bool (by rw [inR, Bool.eq_iff_iff]; simp [*] <;> omega), rfl⟩)
theorem l2Letter_calls (c : Nat) (w : World) : Calls Tryd.prog 79 #[.int .u8 c] w (Quiet (letter c) w) := by
  go_enter Tryd.func79, Tryd.ntmps79
  go_wp2 <;> (go_ret; exact ⟨ret_bool (by rw [letter, Bool.eq_iff_iff]; simp [*] <;> omega), rfl⟩)

theorem l2Kept_calls (t : ByteArray) (w : World) : Calls Tryd.prog 80 #[.string t] w (Tells (kept t) w) := by
  go_enter Tryd.func80, Tryd.ntmps80
  go_wp2
  go_loopg [4] 30 (fun g i wr => ∃ k : Nat, k ≤ 29 ∧ i = .int .i64 k ∧ g = 30 - k ∧ (∀ j x, j < k → words[j]? = some x → t.toList ≠ x) ∧ wr.heap[w.heap.size]? = some (.cells (words.map fun l => Value.string ⟨l.toArray⟩).toArray 9 (0, 0)) ∧ Keep Any w wr)
  case atStart => exact ⟨0, by omega, rfl, rfl, fun j x hj => by omega, blk_new _ _, (Keep.refl _ _).alloc _⟩
  case round =>
    obtain ⟨k, hk, rfl, hg, hall, hb, hK⟩ := hrel
    have HG := Lib.hid hg
    have HA := Lib.hid hall
    have HB := Lib.hid hb
    by_cases hlt : k < 29
    · have hx : words[k]? = some (words[k]'hlt) := List.getElem?_eq_getElem hlt
      have hc : wr.cell? ⟨w.heap.size, k, none⟩ = some (.string ⟨(words[k]'hlt).toArray⟩) := by
        rw [blk_cell hb, List.getElem?_toArray, List.getElem?_map, hx]; rfl
      generalize words[k]'hlt = x at *
      have HX := Lib.hid hx
      clear hg hall hb hx
      rcases hq : x == t.toList with _ | _
      · have hq2 : t.toList ≠ x := fun h => by rw [h] at hq; simp at hq
        have HQ := Lib.hid hq2
        clear hq2
        go_wp2
        go_roundg (gk - 1)
        case rel => exact ⟨k + 1, by omega, by go_num, by have := HG.out; omega, fun j y hj hy => by rcases Nat.lt_succ_iff_lt_or_eq.1 hj with hj | rfl; exact HA.out j y hj hy; rw [HX.out] at hy; cases hy; exact HQ.out, HB.out, hK⟩
        case measure => have := HG.out; omega
      · have hr : kept t = true := List.any_eq_true.2 ⟨x, List.mem_of_getElem? HX.out, by rw [beq_iff_eq] at hq ⊢; exact hq.symm⟩
        have HR := Lib.hid hr
        clear hr
        go_wp2
        go_ret
        exact ⟨ret_bool HR.out.symm, hK⟩
    · have hr : kept t = false := List.any_eq_false.2 fun x hx => by
        obtain ⟨j, hj, rfl⟩ := List.getElem_of_mem hx
        simpa using hall j _ (by have : words.length = 29 := rfl; omega) (List.getElem?_eq_getElem hj)
      have HR := Lib.hid hr
      clear hr hall hb hg
      go_wp2
      go_ret
      exact ⟨ret_bool HR.out.symm, hK⟩

set_option maxHeartbeats 1000000 in
theorem l2Name_calls (t : ByteArray) (w : World) (hs : t.size ≤ 9223372036854775807) : Calls Tryd.prog 55 #[.string t] w (Tells (nameOk t) w) := by
  have IL := Lib.hid l2Letter_calls
  have IK := Lib.hid l2Kept_calls
  have II := Lib.hid l1In_calls
  go_enter Tryd.func55, Tryd.ntmps55
  go_wp2
  go_outline
  go_loop [3] (fun i => ∃ k : Nat, k ≤ t.size ∧ i = .int .i64 k ∧ ∀ j, j < k → letter (at_ t j) = true ∨ (0 < j ∧ fig (at_ t j) = true)) (fun i => t.size - (intOf i).toNat)
  case atStart => exact ⟨0, by omega, rfl, fun j hj => by omega⟩
  case round =>
    obtain ⟨k, hk, rfl, hg⟩ := hrel
    have HG := Lib.hid hg
    clear hg
    by_cases hlt : k < t.size
    · have e2 := at_eq t k hlt
      rcases hl : letter (at_ t k) with _ | _
      · have HL := Lib.hid hl
        by_cases hf : k = 0 ∨ fig (at_ t k) = false
        · have hr : nameOk t = false := by rw [nameOk, shape_bad hlt hl hf.symm]; rfl
          have HR := Lib.hid hr
          have hf' : (((k : Nat) : Int) == 0) = true ∨ ((((k : Nat) : Int) == 0) = false ∧ (at_ t k < 48 ∨ 57 < at_ t k)) := by
            rcases hf with h | h
            · left; simp [h]
            · by_cases h0 : k = 0
              · left; simp [h0]
              · right; refine ⟨by simp; omega, ?_⟩; simp only [fig, Bool.and_eq_false_iff, decide_eq_false_iff_not] at h; omega
          clear hr hl hf
          rcases hf' with b | ⟨b, b1 | b1⟩
          all_goals
            go_wp2_with (go_at_call 79; refine (IL.out _ _).mono ?_; rintro e w' ⟨rfl, rfl⟩; rw [HL.out])
            all_goals
              go_ret
              exact ⟨ret_bool HR.out.symm, Keep.refl _ _⟩
        · have b : (((k : Nat) : Int) == 0) = false := by simp; omega
          have hfig : fig (at_ t k) = true := by rcases h : fig (at_ t k) with _ | _; exact absurd (.inr h) hf; rfl
          obtain ⟨b1, b2⟩ : 48 ≤ at_ t k ∧ at_ t k ≤ 57 := by simpa [fig] using hfig
          have HF := Lib.hid hfig
          have k0 : 0 < k := by omega
          clear hl hf hfig
          go_wp2_with (go_at_call 79; refine (IL.out _ _).mono ?_; rintro e w' ⟨rfl, rfl⟩; rw [HL.out])
          go_round
          case rel => exact ⟨k + 1, by omega, by go_num, fun j hj => by rcases Nat.lt_succ_iff_lt_or_eq.1 hj with hj | rfl; exact HG.out j hj; exact .inr ⟨k0, HF.out⟩⟩
          case measure => simp [intOf]; omega
      · have HL := Lib.hid hl
        clear hl
        go_wp2_with (go_at_call 79; refine (IL.out _ _).mono ?_; rintro e w' ⟨rfl, rfl⟩; rw [HL.out])
        go_round
        case rel => exact ⟨k + 1, by omega, by go_num, fun j hj => by rcases Nat.lt_succ_iff_lt_or_eq.1 hj with hj | rfl; exact HG.out j hj; exact .inl HL.out⟩
        case measure => simp [intOf]; omega
    · by_cases hz : 1 ≤ t.size ∧ t.size ≤ 8
      · obtain ⟨z1, z2⟩ := hz
        have hsh := shape_good z1 z2 (by rcases HG.out 0 (by omega) with h | h; exact h; omega) (fun j hj => by rcases HG.out j (by omega) with h | h; exact .inl h; exact .inr h.2)
        have hr : nameOk t = !kept t := by rw [nameOk, hsh]; rfl
        have HR := Lib.hid hr
        clear hr hsh
        rcases hq : kept t with _ | _
        all_goals
          have HQ := Lib.hid hq
          clear hq
          go_wp2_with (first | (go_at_call 46; refine (II.out _ _ _ _).mono ?_; rintro e w' ⟨rfl, rfl⟩; rw [show inR t.size 1 8 = true by simp [inR]; omega]) | (go_at_call 80; refine (IK.out _ _).mono ?_; rintro e w' ⟨rfl, hK⟩; rw [HQ.out]))
          go_ret
          exact ⟨ret_bool (by rw [HR.out, HQ.out]; rfl), hK⟩
      · have hz' : t.size = 0 ∨ 8 < t.size := by omega
        have hr : nameOk t = false := by rw [nameOk, shape_long hz']; rfl
        have HR := Lib.hid hr
        clear hr hz
        have hz2 : t.size ≤ 0 ∨ 8 < t.size := by omega
        clear hz'
        rcases hz2 with h | h
        all_goals
          go_wp2
          go_ret
          exact ⟨ret_bool HR.out.symm, Keep.refl _ _⟩
end Go.Proofs.YtjgnnobfaphkeaaDoor

/- Which texts are names: the program's test, for every text. -/
import Derived.Test.YtjgnnobfaphkeaaDoorBase
import Derived.Test.YtjgnnobfaphkeaaDoorNamePure
namespace Go.Proofs.YtjgnnobfaphkeaaDoor
open Go.RowKit
set_option linter.unusedVariables false
set_option linter.unusedSimpArgs false


theorem isFig_calls (c : Nat) (w : World) : Calls Tryd.prog 71 #[.int .u8 c] w (Quiet (fig c) w) := by
  go_enter Tryd.func71, Tryd.ntmps71
  go_wp2 <;> (go_ret; exact ⟨ret_bool (by rw [fig, Bool.eq_iff_iff]; simp [*] <;> omega), rfl⟩)
theorem isLetter_calls (c : Nat) (w : World) : Calls Tryd.prog 82 #[.int .u8 c] w (Quiet (letter c) w) := by
  go_enter Tryd.func82, Tryd.ntmps82
  go_wp2 <;> (go_ret; exact ⟨ret_bool (by rw [letter, Bool.eq_iff_iff]; simp [*] <;> omega), rfl⟩)

set_option maxHeartbeats 1000000 in
theorem nameOk_calls (t : ByteArray) (w : World) (hs : t.size ≤ 9223372036854775807) : Calls Tryd.prog 59 #[.string t] w (Quiet (nameOk t) w) := by
  have IL := Lib.hid isLetter_calls
  have IF := Lib.hid isFig_calls
  by_cases h0 : t.size = 0
  · have hd := empty_true t h0
    have hr : nameOk t = false := by rw [nameOk, shape_long (.inl h0)]; rfl
    have HR := Lib.hid hr
    clear hr h0
    go_enter Tryd.func59, Tryd.ntmps59
    go_wp2
    go_ret
    exact ⟨ret_bool HR.out.symm, rfl⟩
  have hd := empty_false t h0
  by_cases h8 : 8 < t.size
  · have hr : nameOk t = false := by rw [nameOk, shape_long (.inr h8)]; rfl
    have HR := Lib.hid hr
    clear hr
    go_enter Tryd.func59, Tryd.ntmps59
    go_wp2
    go_ret
    exact ⟨ret_bool HR.out.symm, rfl⟩
  have q1 : 0 < t.size := by omega
  have e1 := at_eq t 0 q1
  rcases hl : letter (at_ t 0) with _ | _
  · have hr : nameOk t = false := by rw [nameOk, shape_bad q1 hl (.inr rfl)]; rfl
    have HR := Lib.hid hr
    have HL := Lib.hid hl
    clear hr hl
    go_enter Tryd.func59, Tryd.ntmps59
    go_wp2_with (go_at_call 82; refine (IL.out _ _).mono ?_; rintro e w' ⟨rfl, rfl⟩; rw [HL.out])
    go_ret
    exact ⟨ret_bool HR.out.symm, rfl⟩
  · have HL := Lib.hid hl
    clear hl
    go_enter Tryd.func59, Tryd.ntmps59
    go_wp2_with (go_at_call 82; refine (IL.out _ _).mono ?_; rintro e w' ⟨rfl, rfl⟩; rw [HL.out])
    go_loop [3] (fun i => ∃ k : Nat, 1 ≤ k ∧ k ≤ t.size ∧ i = .int .i64 k ∧ ∀ j, j < k → letter (at_ t j) = true ∨ fig (at_ t j) = true) (fun i => t.size - (intOf i).toNat)
    case atStart => exact ⟨1, by omega, by omega, rfl, fun j hj => .inl (by rw [show j = 0 by omega]; exact HL.out)⟩
    case round =>
      obtain ⟨k, hk1, hk, rfl, hg⟩ := hrel
      have HG := Lib.hid hg
      clear hg e1
      by_cases hlt : k < t.size
      · have e2 := at_eq t k hlt
        rcases hl : letter (at_ t k) with _ | _ <;> rcases hf : fig (at_ t k) with _ | _
        · have hr : nameOk t = false := by rw [nameOk, shape_bad hlt hl (.inl hf)]; rfl
          have HR := Lib.hid hr
          have H2 := Lib.hid hl
          have H3 := Lib.hid hf
          clear hr hl hf
          go_wp2_with (first | (go_at_call 82; refine (IL.out _ _).mono ?_; rintro e w' ⟨rfl, rfl⟩; rw [H2.out]) | (go_at_call 71; refine (IF.out _ _).mono ?_; rintro e w' ⟨rfl, rfl⟩; rw [H3.out]))
          go_ret
          exact ⟨ret_bool HR.out.symm, rfl⟩
        all_goals
          have H2 := Lib.hid hl
          have H3 := Lib.hid hf
          clear hl hf
          go_wp2_with (first | (go_at_call 82; refine (IL.out _ _).mono ?_; rintro e w' ⟨rfl, rfl⟩; rw [H2.out]) | (go_at_call 71; refine (IF.out _ _).mono ?_; rintro e w' ⟨rfl, rfl⟩; rw [H3.out]))
          go_round
          case rel => exact ⟨k + 1, by omega, by omega, by go_num, fun j hj => by rcases Nat.lt_succ_iff_lt_or_eq.1 hj with hj | rfl; exact HG.out j hj; first | exact .inl H2.out | exact .inr H3.out⟩
          case measure => simp [intOf]; omega
      · have hsh := shape_good q1 (by omega) HL.out (fun j hj => HG.out j (by omega))
        have HS := Lib.hid hsh
        clear hsh
        go_wp2
        all_goals
          go_ret
          go_light
          have hsh := HS.out
          refine ⟨ret_bool ?_, rfl⟩
          first | (simp [nameOk, hsh, kept, words, *]; done) | (exfalso; simp_all; done)
end Go.Proofs.YtjgnnobfaphkeaaDoor

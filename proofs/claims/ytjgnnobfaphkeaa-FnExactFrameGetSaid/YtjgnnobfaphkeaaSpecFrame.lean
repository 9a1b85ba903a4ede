/- What the reference's FrameGet computes, and the number that figures are. For every text of at most 2^62 bytes. -/
import Derived.Test.YtjgnnobfaphkeaaProg
import Derived.Test.YtjgnnobfaphkeaaKeep
import Derived.Test.YtjgnnobfaphkeaaFramePure
import Derived.WalkKit
import Derived.KernelRfl
import Derived.Deep.QuietTactic
import Derived.BigQuiet
import Derived.BigRegion
import Derived.WideLaws
import Derived.Outline
import Derived.OwnWalk
import Derived.WalkSpells
import Derived.Lib.Hide
import Derived.Deep.LoopGhost
import Derived.Deep.DeepCutAuto
import Derived.Deep.CutBlock
namespace Go.Proofs.Ytjgnnobfaphkeaa
open Go.RowKit
set_option linter.unusedVariables false

theorem ret_int {k : IntKind} {a b : Int} (h : a = b) : Ending.returned (.int k a) = .returned (.int k b) := by rw [h]
def L1Num (t : ByteArray) (w : World) (e : Ending) (w' : World) : Prop := e = .returned (.int .i64 (l1Num t)) ∧ w = w'
theorem l1Num_calls (t : ByteArray) (w : World) (ht : t.size ≤ 4611686018427387904) :
    Calls Try.prog 12 #[.string t] w (L1Num t w) := by
  go_enter Try.func12, Try.ntmps12
  go_wp2
  go_loop [3, 4] (fun n i => ∃ k m : Nat, k ≤ t.size ∧ i = .int .i64 k ∧ n = .int .i64 m ∧ m < 10 ^ k ∧ k ≤ 10 ∧ numGo t 0 0 = numGo t k m) (fun _ i => t.size - (intOf i).toNat)
  case atStart => exact ⟨0, 0, by omega, rfl, rfl, by omega, by omega, rfl⟩
  case round =>
    obtain ⟨k, m, hk, rfl, rfl, hm, h10, hg⟩ := hrel
    have HG := Lib.hid hg
    clear hg
    have HM := Lib.hid hm
    have hm' : m ≤ 10000000000 := by
      have : 10 ^ k ≤ 10 ^ 10 := Nat.pow_le_pow_right (by omega) h10
      omega
    clear hm
    by_cases hlt : k < t.size
    · have e1 := at_eq t k hlt
      have e2 := at_lt t k
      go_wp2
      · go_ret
        exact ⟨ret_int (l1Num_none (by rw [HG.out, numGo_none (by omega) (by omega)])), rfl⟩
      · go_round
        case rel => exact ⟨k + 1, m * 10 + (at_ t k - 48), by omega, by go_num, by congr 1; omega, by rw [Nat.pow_succ]; have := HM.out; omega, by omega, by rw [HG.out, numGo_go (by omega) (by omega) (by omega) (by omega)]⟩
        case measure => simp [intOf]; omega
      all_goals
        go_ret
        exact ⟨ret_int (l1Num_none (by rw [HG.out, numGo_none (by omega) (by omega)])), rfl⟩
    · have hk' : k = t.size := by omega
      have HE := Lib.hid hk'
      clear hk'
      by_cases c0 : t.size = 0
      · have c1 := size_true t c0
        have C0 := Lib.hid c0
        clear c0
        go_wp2
        go_ret
        exact ⟨ret_int (l1Num_bad (by rw [HG.out, numGo_end (by omega)]) (.inl C0.out)), rfl⟩
      · have c1 := size_false t c0
        have c2 : ¬ t = ByteArray.empty := fun h => c0 (by rw [h]; rfl)
        have e1 := at_eq t 0 (by omega)
        by_cases c3 : 1 < t.size
        · by_cases c4 : at_ t 0 = 48
          · have c5 : (((at_ t 0 : Nat) : Int) == 48) = true := by simp [c4]
            have C4 := Lib.hid c4
            clear c4
            go_wp2
            go_ret
            exact ⟨ret_int (l1Num_bad (by rw [HG.out, numGo_end (by omega)]) (.inr ⟨c3, C4.out⟩)), rfl⟩
          · have c5 : (((at_ t 0 : Nat) : Int) == 48) = false := by simp; omega
            go_wp2
            go_ret
            exact ⟨ret_int (l1Num_some (by rw [HG.out, numGo_end (by omega)]) (by omega)), rfl⟩
        · go_wp2
          go_ret
          exact ⟨ret_int (l1Num_some (by rw [HG.out, numGo_end (by omega)]) (by omega)), rfl⟩

theorem l1Num_bd (t : ByteArray) : -1 ≤ l1Num t ∧ l1Num t ≤ 10000000000 := by
  have key : ∀ (d i n : Nat), t.size - i = d → (n < 10 ^ i ∧ i ≤ 10) → ∀ r, numGo t i n = some r → r ≤ 10000000000 := by
    intro d
    induction d with
    | zero =>
      intro i n hd hn r hr
      rw [numGo_end (by omega)] at hr
      cases hr
      have := Nat.pow_le_pow_right (show 0 < 10 by omega) hn.2
      omega
    | succ d ih =>
      intro i n hd hn r hr
      by_cases h : at_ t i < 48 ∨ 57 < at_ t i ∨ 10 ≤ i
      · rw [numGo_none (by omega) h] at hr; cases hr
      · rw [numGo_go (by omega) (by omega) (by omega) (by omega)] at hr
        exact ih (i + 1) _ (by omega) ⟨by rw [Nat.pow_succ]; omega, by omega⟩ r hr
  unfold l1Num
  split
  · omega
  · rename_i n hn
    have := key _ 0 0 rfl ⟨by omega, by omega⟩ n hn
    split <;> omega

def GotSpec (t : ByteArray) (w : World) (e : Ending) (w' : World) : Prop := e = .returned (.tuple #[.string (specFrame t).1, .int .i64 (specFrame t).2]) ∧ w = w'
theorem figs5_go {t : ByteArray} {k : Nat} (h : k < t.size) (h5 : k < 5) (h0 : 48 ≤ at_ t k) (h1 : at_ t k ≤ 57) : figs5 t k = figs5 t (k + 1) := by rw [figs5, dif_pos ⟨h, h5, h0, h1⟩]
theorem figs5_end {t : ByteArray} {k : Nat} (h : t.size ≤ k ∨ 5 ≤ k ∨ at_ t k < 48 ∨ 57 < at_ t k) : figs5 t k = k := by rw [figs5, dif_neg (by omega)]
theorem specFrame_eq {t : ByteArray} {k : Nat} (h : figs5 t 0 = k) : specFrame t = if 0 < k ∧ (l1Num (t.extract 0 k) < 0 ∨ 6000 < l1Num (t.extract 0 k)) then (⟨#[]⟩, -1) else if k = t.size then (⟨#[]⟩, 0) else if at_ t k ≠ 58 ∨ k = 0 then (⟨#[]⟩, -1)
  else if (t.size : Int) < k + l1Num (t.extract 0 k) + 2 then (⟨#[]⟩, 0) else if at_ t (k + (l1Num (t.extract 0 k)).toNat + 1) ≠ 10 then (⟨#[]⟩, -1) else (t.extract (k + 1) (k + 1 + (l1Num (t.extract 0 k)).toNat), k + l1Num (t.extract 0 k) + 2) := by
  rw [specFrame, h]
set_option maxHeartbeats 1000000 in
theorem specFrame_calls (t : ByteArray) (w : World) (ht : t.size ≤ 4611686018427387904) :
    Calls Try.prog 5 #[.string t] w (GotSpec t w) := by
  go_enter Try.func5, Try.ntmps5
  go_upto_block 0 with (fail)
  go_cut [4] (fun i wc => ∃ k : Nat, k ≤ t.size ∧ i = .int .i64 k ∧ k ≤ 5 ∧ figs5 t 0 = k ∧ w = wc)
  case first =>
    go_wp2
    go_loop [4] (fun i => ∃ k : Nat, k ≤ t.size ∧ i = .int .i64 k ∧ k ≤ 5 ∧ figs5 t 0 = figs5 t k) (fun i => t.size - (intOf i).toNat)
    case atStart => exact ⟨0, by omega, rfl, by omega, rfl⟩
    case round =>
      obtain ⟨k, hk, rfl, h5, hg⟩ := hrel
      have HG := Lib.hid hg
      clear hg
      have e2 := at_lt t k
      by_cases c1 : k < t.size ∧ k < 5 ∧ 48 ≤ at_ t k ∧ at_ t k ≤ 57
      · obtain ⟨c1, c2, c3, c4⟩ := c1
        have e1 := at_eq t k c1
        go_wp2
        go_round
        case rel => exact ⟨k + 1, by omega, by go_num, by omega, by rw [HG.out, figs5_go c1 c2 c3 c4]⟩
        case measure => simp [intOf]; omega
      · have HE : figs5 t 0 = k := (by rw [HG.out, figs5_end (by omega)])
        have HE' := Lib.hid HE
        have c2 : t.size ≤ k ∨ (k < t.size ∧ 5 ≤ k) ∨ (k < t.size ∧ k < 5 ∧ at_ t k < 48) ∨ (k < t.size ∧ k < 5 ∧ 57 < at_ t k) := by omega
        clear c1 HE
        have E1 : ∀ h : k < t.size, (t[k]'h).toNat = at_ t k := fun h => at_eq t k h
        rcases c2 with c2 | ⟨c2, c3⟩ | ⟨c2, c3, c4⟩ | ⟨c2, c3, c4⟩
        all_goals
          try have e1 := E1 c2
          clear E1
          go_wp2
          go_meet
          case rel => exact ⟨k, hk, rfl, h5, HE'.out, rfl⟩
  case rest =>
    obtain ⟨k, hk, rfl, h5, HE0, rfl⟩ := hcut
    have hx : (t.extract 0 k).size ≤ 4611686018427387904 := by rw [ByteArray.size_extract]; omega
    have hb := l1Num_bd (t.extract 0 k)
    have hq := specFrame_eq HE0
    generalize hN : l1Num (t.extract 0 k) = n at hb hq
    have HN := Lib.hid hN
    have HQ := Lib.hid hq
    have e2 := at_lt t k
    clear hN hq HE0
    by_cases a1 : 0 < k ∧ (n < 0 ∨ 6000 < n)
    · have hr : specFrame t = (⟨#[]⟩, -1) := by rw [HQ.out, if_pos a1]
      have HR := Lib.hid hr
      clear hr HQ
      obtain ⟨a1, a2 | a2⟩ := a1
      all_goals
        go_wp2_with (go_at_call 12; refine (l1Num_calls _ _ hx).mono ?_; rintro e w' ⟨rfl, rfl⟩; rw [HN.out])
        go_ret2
        exact ⟨by rw [HR.out]; rfl, rfl⟩
    by_cases a2 : k = t.size
    · have hr : specFrame t = (⟨#[]⟩, 0) := by rw [HQ.out, if_neg a1, if_pos a2]
      have HR := Lib.hid hr
      have b2 : (((k : Nat) : Int) == ((t.size : Nat) : Int)) = true := by simp [a2]
      have b3 : (k : Int) ≤ (t.size : Int) := by omega
      have b1 : k ≤ 0 ∨ (0 < k ∧ 0 ≤ n ∧ n ≤ 6000) := by omega
      clear hr HQ a2 a1
      rcases b1 with b1 | ⟨b1, b4, b5⟩
      all_goals
        go_wp2_with (go_at_call 12; refine (l1Num_calls _ _ hx).mono ?_; rintro e w' ⟨rfl, rfl⟩; rw [HN.out])
        all_goals
          go_ret2
          exact ⟨by rw [HR.out]; rfl, rfl⟩
    have b2 : (((k : Nat) : Int) == ((t.size : Nat) : Int)) = false := by rw [beq_eq_false_iff_ne]; omega
    have e1 := at_eq t k (by omega)
    by_cases a3 : k = 0
    · have hr : specFrame t = (⟨#[]⟩, -1) := by rw [HQ.out, if_neg a1, if_neg a2, if_pos (.inr a3)]
      have HR := Lib.hid hr
      have b6 : (((k : Nat) : Int) == 0) = true := by rw [beq_iff_eq]; omega
      have b1 : k ≤ 0 := by omega
      clear hr HQ a1 a3
      go_wp2_with (go_at_call 12; refine (l1Num_calls _ _ hx).mono ?_; rintro e w' ⟨rfl, rfl⟩; rw [HN.out])
      all_goals
        go_ret2
        exact ⟨by rw [HR.out]; rfl, rfl⟩
    obtain ⟨b1, b4, b5⟩ : 0 < k ∧ 0 ≤ n ∧ n ≤ 6000 := by omega
    have b6 : (((k : Nat) : Int) == 0) = false := by rw [beq_eq_false_iff_ne]; omega
    by_cases a4 : at_ t k ≠ 58
    · have hr : specFrame t = (⟨#[]⟩, -1) := by rw [HQ.out, if_neg a1, if_neg a2, if_pos (.inl a4)]
      have HR := Lib.hid hr
      have b7 : (((at_ t k : Nat) : Int) != 58) = true := by rw [bne_iff_ne]; omega
      clear hr HQ a1 a4
      go_wp2_with (go_at_call 12; refine (l1Num_calls _ _ hx).mono ?_; rintro e w' ⟨rfl, rfl⟩; rw [HN.out])
      all_goals
        go_ret2
        exact ⟨by rw [HR.out]; rfl, rfl⟩
    have b7 : (((at_ t k : Nat) : Int) != 58) = false := by rw [bne_eq_false_iff_eq]; omega
    by_cases a5 : (t.size : Int) < k + n + 2
    · have hr : specFrame t = (⟨#[]⟩, 0) := by rw [HQ.out, if_neg a1, if_neg a2, if_neg (by omega), if_pos a5]
      have HR := Lib.hid hr
      clear hr HQ a1 a4
      go_wp2_with (go_at_call 12; refine (l1Num_calls _ _ hx).mono ?_; rintro e w' ⟨rfl, rfl⟩; rw [HN.out])
      all_goals
        go_ret2
        exact ⟨by rw [HR.out]; rfl, rfl⟩
    obtain ⟨m, rfl⟩ := Int.eq_ofNat_of_zero_le b4
    have e3 := at_eq t (k + m + 1) (by omega)
    have e4 := at_lt t (k + m + 1)
    by_cases a6 : at_ t (k + m + 1) ≠ 10
    · have hr : specFrame t = (⟨#[]⟩, -1) := by rw [HQ.out, if_neg a1, if_neg a2, if_neg (by omega), if_neg a5]; exact if_pos a6
      have HR := Lib.hid hr
      have b8 : (((at_ t (k + m + 1) : Nat) : Int) != 10) = true := by rw [bne_iff_ne]; omega
      clear hr HQ a1 a4 a6
      go_wp2_with (go_at_call 12; refine (l1Num_calls _ _ hx).mono ?_; rintro e w' ⟨rfl, rfl⟩; rw [HN.out])
      all_goals
        go_ret2
        exact ⟨by rw [HR.out]; rfl, rfl⟩
    · have hr : specFrame t = (t.extract (k + 1) (k + 1 + m), (k : Int) + (m : Int) + 2) := by rw [HQ.out, if_neg a1, if_neg a2, if_neg (by omega), if_neg a5]; exact if_neg a6
      have HR := Lib.hid hr
      have b8 : (((at_ t (k + m + 1) : Nat) : Int) != 10) = false := by rw [bne_eq_false_iff_eq]; omega
      clear hr HQ a1 a4 a6
      go_wp2_with (go_at_call 12; refine (l1Num_calls _ _ hx).mono ?_; rintro e w' ⟨rfl, rfl⟩; rw [HN.out])
      all_goals
        go_ret2
        exact ⟨by rw [HR.out]; rfl, rfl⟩
end Go.Proofs.Ytjgnnobfaphkeaa

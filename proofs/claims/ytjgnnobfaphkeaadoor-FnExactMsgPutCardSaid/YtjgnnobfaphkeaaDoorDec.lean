/- A number in decimals: the reference's l1Dec writes what strconv.Itoa writes. For every int. -/
import Derived.Test.YtjgnnobfaphkeaaDoorBase
import Derived.Lib.ItoaNum
import Derived.Lib.ItoaLen
import Derived.Lib.ConvBytes
namespace Go.Proofs.YtjgnnobfaphkeaaDoor
open Go.RowKit
set_option linter.unusedVariables false

/-- string([]byte{x}) -/
theorem one_byte (W : World) (g : Nat) (x : Int) (h : W.cell? ⟨g, 0, none⟩ = some (.int .u8 x)) :
    (convert 63 9 (.slice (some ⟨g, 0, none⟩) 1 1)).run Tryd.prog W = .ok (.string ⟨#[UInt8.ofNat x.toNat]⟩) W := by
  refine (run_convert_bytes_arg W 63 5 Tryd.underlying63 Tryd.underlying5 g 0 1 1 [x] rfl (fun i hi => ?_) 9 Tryd.underlying9).trans rfl
  obtain rfl : i = 0 := by simpa using hi
  exact h
theorem dec_big {n : Nat} (h : ¬ n < 10) : Lib.decDigits n = Lib.decDigits (n / 10) ++ [UInt8.ofNat (48 + n % 10)] := by rw [Lib.decDigits, dif_neg h]
theorem dec_small {n : Nat} (h : n < 10) : Lib.decDigits n = [UInt8.ofNat (48 + n)] := by rw [Lib.decDigits, dif_pos h]
theorem dec_len (n : Nat) (h : n < 18446744073709551616) : (Lib.decDigits n).length ≤ 20 := by rw [Lib.decDigits_length]; exact Lib.nDigits_le20 n h
theorem bytes_app (l m : List UInt8) : (⟨l.toArray⟩ : ByteArray) ++ ⟨m.toArray⟩ = ⟨(l ++ m).toArray⟩ := by
  apply ByteArray.ext
  simp [ByteArray.data_append]
theorem dec_join {n : Nat} (h : ¬ n < 10) : (⟨(Lib.decDigits (n / 10)).toArray⟩ : ByteArray) ++ ⟨#[48 + UInt8.ofNat (n % 10)]⟩ = ⟨(Lib.decDigits n).toArray⟩ := by
  rw [dec_big h, ← bytes_app]
  simp [UInt8.ofNat_add]
set_option maxRecDepth 20000 in
theorem l1Dec_nat (n : Nat) : ∀ (w : World), n ≤ 9223372036854775807 →
    Calls Tryd.prog 23 #[.int .i64 n] w (Str (Lib.decDigits n) w) := by
  induction n using Nat.strongRecOn with
  | _ n ih =>
  intro w hn
  have HN := Lib.hid hn
  clear hn
  have b0 : decide ((n : Int) < -9223372036854775807) = false := by rw [decide_eq_false_iff_not]; omega
  have b1 : decide ((n : Int) < 0) = false := by rw [decide_eq_false_iff_not]; omega
  have kc := one_byte
  by_cases h : n < 10
  · go_enter Tryd.func23, Tryd.ntmps23
    go_wp2
    go_ret
    exact ⟨by rw [dec_small h]; rfl, (Keep.refl _ _).alloc _⟩
  · have IH := Lib.hid fun w => ih (n / 10) (by omega) w (by have := HN.out; omega)
    clear ih
    go_enter Tryd.func23, Tryd.ntmps23
    go_wp2
    have q1 : IntKind.i64.wrap ((n : Int) / 10) = ((n / 10 : Nat) : Int) := by have := HN.out; rw [IntWalk.i64_in _ ⟨by omega, by omega⟩]; omega
    have q2 : IntKind.u8.wrap (IntKind.i64.wrap (48 + (n : Int).tmod 10)) = ((48 + n % 10 : Nat) : Int) := by
      rw [Int.tmod_eq_emod_of_nonneg (by omega), IntWalk.i64_in _ ⟨by omega, by omega⟩, IntWalk.u8_in _ ⟨by omega, by omega⟩]; omega
    have hl := dec_len (n / 10) (by have := HN.out; omega)
    go_region_with (go_at_call 23; refine (IH.out _).mono ?_; rintro e w' ⟨rfl, hK⟩; obtain ⟨hc, hf⟩ := hK.cells)
    all_goals clear q1 q2
    all_goals go_wp2
    all_goals
      go_ret
      exact ⟨congrArg (fun s => Ending.returned (.string s)) (dec_join h), by first | exact ((Keep.refl _ _).drew.trans hK).alloc _ | exact ((Keep.refl _ _).alloc _).drew.trans hK⟩

theorem min_dec : Lib.itoa (-9223372036854775808) = [45, 57, 50, 50, 51, 51, 55, 50, 48, 51, 54, 56, 53, 52, 55, 55, 53, 56, 48, 56] := by
  simp [Lib.itoa, Lib.decDigits]
set_option maxRecDepth 20000 in
/-- For every int. -/
theorem l1Dec_calls (n : Int) (w : World) (h0 : -9223372036854775808 ≤ n) (h1 : n ≤ 9223372036854775807) :
    Calls Tryd.prog 23 #[.int .i64 n] w (Str (Lib.itoa n) w) := by
  by_cases h : 0 ≤ n
  · obtain ⟨m, rfl⟩ := Int.eq_ofNat_of_zero_le h
    have := l1Dec_nat m w (by omega)
    rwa [show Lib.itoa (m : Int) = Lib.decDigits m by simp only [Lib.itoa]; rw [if_neg (by omega)]; simp]
  · by_cases hm : n < -9223372036854775807
    · obtain rfl : n = -9223372036854775808 := by omega
      rw [min_dec]
      go_enter Tryd.func23, Tryd.ntmps23
      go_wp2
      go_ret
      exact ⟨rfl, Keep.refl _ _⟩
    · obtain ⟨m, rfl⟩ : ∃ m : Nat, n = -(m : Int) := ⟨n.natAbs, by omega⟩
      have IH := Lib.hid fun w => l1Dec_nat m w (by omega)
      have hl := dec_len m (by omega)
      have he : Lib.itoa (-(m : Int)) = 45 :: Lib.decDigits m := by simp only [Lib.itoa]; rw [if_pos (by omega), show (-(m : Int)).natAbs = m by omega]
      have HE := Lib.hid he
      have b0 : decide (-(m : Int) < -9223372036854775807) = false := by rw [decide_eq_false_iff_not]; omega
      have b1 : decide (-(m : Int) < 0) = true := by rw [decide_eq_true_iff]; omega
      have b2 : decide (9223372036854775807 < (m : Int)) = false := by rw [decide_eq_false_iff_not]; omega
      have b3 : decide (0 < (m : Int)) = true := by rw [decide_eq_true_iff]; omega
      have q1 : IntKind.i64.wrap (m : Int) = (m : Int) := IntWalk.i64_in _ ⟨by omega, by omega⟩
      have q2 : IntKind.i64.wrap (- -(m : Int)) = (m : Int) := by rw [Int.neg_neg]; exact q1
      have b4 : 0 < m := by omega
      clear he h0 h1 h hm
      go_enter Tryd.func23, Tryd.ntmps23
      go_wp2_with (go_at_call 23; refine (IH.out _).mono ?_; rintro e w' ⟨rfl, hK⟩)
      all_goals
        go_ret
        exact ⟨congrArg (fun s => Ending.returned (.string s)) (by rw [HE.out]; exact bytes_app [45] _), hK⟩
end Go.Proofs.YtjgnnobfaphkeaaDoor

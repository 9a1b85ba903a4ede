/- A frame's text: the program's FramePut and the reference's write the same. For every body. -/
import Derived.Test.YtjgnnobfaphkeaaDoorTab
namespace Go.Proofs.YtjgnnobfaphkeaaDoor
open Go.RowKit
set_option linter.unusedVariables false

def framePut (b : ByteArray) : List UInt8 := if 6000 < b.size then [] else Lib.itoa b.size ++ 58 :: b.data.toList ++ [10]
theorem itoa_len (n : Nat) (h : n ≤ 9223372036854775807) : (Lib.itoa n).length ≤ 20 := by
  simp only [Lib.itoa]; rw [if_neg (by omega)]; exact dec_len _ (by simp; omega)
theorem put_join (b : ByteArray) (l : List UInt8) : (⟨l.toArray⟩ : ByteArray) ++ ⟨#[58]⟩ ++ b ++ ⟨#[10]⟩ = ⟨(l ++ 58 :: b.data.toList ++ [10]).toArray⟩ := by
  apply ByteArray.ext
  simp [ByteArray.data_append]
theorem implFramePut_calls (b : ByteArray) (w : World) (ht : Tab w) :
    Calls Tryd.prog 8 #[.string b] w (Str (framePut b) w) := by
  have HT := Lib.hid ht
  clear ht
  by_cases h : 6000 < b.size
  · go_enter Tryd.func8, Tryd.ntmps8
    go_wp2
    go_ret
    exact ⟨by simp only [framePut]; rw [if_pos h]; rfl, Keep.refl _ _⟩
  · have IT := Lib.hid (itoa_calls b.size w (by omega) (by omega) HT.out)
    have hl := itoa_len b.size (by omega)
    go_enter Tryd.func8, Tryd.ntmps8
    go_wp2_with (go_at_call 24; refine IT.out.mono ?_; rintro e w' ⟨rfl, hK⟩)
    go_ret
    exact ⟨by simp only [framePut]; rw [if_neg h]; exact congrArg (fun s => Ending.returned (.string s)) (put_join b _), hK⟩
theorem specFramePut_calls (b : ByteArray) (w : World) :
    Calls Tryd.prog 7 #[.string b] w (Str (framePut b) w) := by
  by_cases h : 6000 < b.size
  · go_enter Tryd.func7, Tryd.ntmps7
    go_wp2
    go_ret
    exact ⟨by simp only [framePut]; rw [if_pos h]; rfl, Keep.refl _ _⟩
  · have IT := Lib.hid (l1Dec_calls b.size w (by omega) (by omega))
    have hl := itoa_len b.size (by omega)
    go_enter Tryd.func7, Tryd.ntmps7
    go_wp2_with (go_at_call 23; refine IT.out.mono ?_; rintro e w' ⟨rfl, hK⟩)
    go_ret
    exact ⟨by simp only [framePut]; rw [if_neg h]; exact congrArg (fun s => Ending.returned (.string s)) (put_join b _), hK⟩
end Go.Proofs.YtjgnnobfaphkeaaDoor

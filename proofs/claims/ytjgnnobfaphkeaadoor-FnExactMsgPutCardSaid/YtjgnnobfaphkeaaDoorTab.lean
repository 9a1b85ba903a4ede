/- strconv.Itoa by its contract, where Go's table of powers of ten is laid; and that the table stays. For every int. -/
import Derived.Test.YtjgnnobfaphkeaaDoorShelf
import Derived.Test.YtjgnnobfaphkeaaDoorDec
import Derived.Lib.LaidTab
import Derived.Stop.LaidErr
import Derived.MakeChecks
namespace Go.Proofs.YtjgnnobfaphkeaaDoor
open Go.RowKit
set_option linter.unusedVariables false

/-- Go's table of the powers of ten is there. -/
def Tab (w : World) : Prop := Lib.TabIs Tryd.prog w "internal/strconv.uint64pow10" .u64 Lib.pow10Tab
theorem gPow : Tryd.prog.globalNamed "internal/strconv.uint64pow10" = some 0 := by kernel_rfl
theorem Tab.lt {w : World} (h : Tab w) : 0 < w.heap.size := by
  unfold Tab Lib.TabIs World.var? at h
  rw [gPow] at h
  simp only [Option.bind_some] at h
  rcases Nat.lt_or_ge 0 w.heap.size with hl | hl
  · exact hl
  · rw [Array.getElem?_eq_none hl] at h; cases h
theorem Tab.keep {ok : Nat → Prop} {w w' : World} (h : Tab w) (k : Keep ok w w') (ho : ok 0) : Tab w' := by
  have hl := h.lt
  unfold Tab Lib.TabIs World.var? at h ⊢
  rw [gPow] at h ⊢
  simp only [Option.bind_some] at h ⊢
  rw [k.block _ hl ho]
  exact h
theorem keep_grow (w : World) (n : Nat) (os : Array Obj) : Keep Any w (Sort.grow (w.drewN n) os) :=
  ⟨rfl, rfl, rfl, by simp [Sort.grow], fun k hk _ => by simp only [Sort.grow, World.heap_drewN]; rw [Array.getElem?_append_left hk]⟩
theorem itoa_calls (n : Int) (w : World) (h0 : -9223372036854775808 ≤ n) (h1 : n ≤ 9223372036854775807) (ht : Tab w) :
    Calls Tryd.prog 24 #[.int .i64 n] w (Str (Lib.itoa n) w) :=
  (Tryd.strconv_Itoa n h0 h1 w ht).mono fun e w' ⟨he, k, os, hw⟩ => ⟨he, hw ▸ keep_grow w k os⟩
end Go.Proofs.YtjgnnobfaphkeaaDoor

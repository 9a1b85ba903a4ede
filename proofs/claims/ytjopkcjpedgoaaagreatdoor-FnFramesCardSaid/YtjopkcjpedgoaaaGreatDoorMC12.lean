/- The reference's small readers: a text up to a byte, what stands ahead of a comma or a bracket, an atom. For every text of at most 2^61 bytes. -/
import Derived.Test.YtjopkcjpedgoaaaGreatDoorMC1
import Derived.Test.YtjopkcjpedgoaaaGreatDoorMC7
/- The reference's small readers: a text up to a byte,what stands ahead of a comma or a bracket,an atom. For every text of at most 2^61 bytes. -/
namespace Go.Proofs.YtjopkcjpedgoaaaGreatDoor
open Go.RowKit
set_option linter.unusedVariables false
set_option linter.unusedSimpArgs false
theorem l1Bool_calls (b : Bool) (w : World) : Calls Tryz.prog 122 #[.bool b] w (IsYes b w) := by
  cases b
  · go_enter Tryz.func122,Tryz.ntmps122
    go_wp2
    refine bodyPost_ret (v := .agg #[.int .i64 1,.int .i64 0,.string ⟨#[]⟩,.slice none 0 0]) (by simp [results,Tryz.results122,go_sem]) rfl ⟨rfl,?_⟩
    exact (Keep.refl _ _).alloc _
  · go_enter Tryz.func122,Tryz.ntmps122
    go_wp2
    refine bodyPost_ret (v := .agg #[.int .i64 1,.int .i64 1,.string ⟨#[]⟩,.slice none 0 0]) (by simp [results,Tryz.results122,go_sem]) rfl ⟨rfl,?_⟩
    exact (Keep.refl _ _).alloc _
end Go.Proofs.YtjopkcjpedgoaaaGreatDoor

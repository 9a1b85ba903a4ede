/- Which messages have a form: the program's MsgOk. For every message. -/
import Derived.Test.YtjopkcjpedgoaaaGreatDoorMGLawMsg2
/- Which messages have a form: the program's MsgOk. For every message. -/
namespace Go.Proofs.YtjopkcjpedgoaaaGreatDoor
open Go.RowKit
set_option linter.unusedVariables false
set_option linter.unusedSimpArgs false
set_option maxRecDepth 20000
set_option maxHeartbeats 1000000
theorem msgOk_calls (m : Ms) (cs : List Value) (w : World) (hm : MR w Any m cs) : Calls Tryz.prog 30 #[.agg cs.toArray] w (Tells (okM m) w) := by
  obtain ⟨s,rfl,h1,h2,h3,h4⟩ := hm
  obtain ⟨kind,text,given,num⟩ := m
  simp only at *
  have IN := hyd nameOk_calls
  have IC := hyd (fun w' (h : Keep Any w w') => cellsOk_calls given s w' (Ces.keep h4 h))
  obtain ⟨ad,c,rfl,hc,hm,_⟩ := h4
  have zg : given = [] ∨ (given ≠ [] ∧ 0 < given.length) := by cases given with | nil => exact .inl rfl | cons x l => exact .inr ⟨by simp,by simp⟩
  by_cases k1 : kind = 1
  · subst k1
    rcases hq : nameOk text with _ | _
    all_goals
      have HQ := hyd hq
      clear hq
      rcases zg with rfl | ⟨zg',zg⟩
      all_goals
        go_enter Tryz.func30,Tryz.ntmps30
        go_wp2_with (go_at_call 49;refine (IN.out _ _ h3).mono ?_;rintro e w2 ⟨rfl,rfl⟩;rw [HQ.out])
        all_goals
          go_ret
          exact ⟨ret_bool (by simp [okM,HQ.out, *]),(Keep.refl _ _).alloc _⟩
  · by_cases k2 : kind = 2
    · subst k2
      rcases hq : okCells given with _ | _
      all_goals
        have HQ := hyd hq
        clear hq zg
        go_enter Tryz.func30,Tryz.ntmps30
        go_wp2_with (go_at_call 50;refine (IC.out _ ((Keep.refl _ _).alloc _)).mono ?_;rintro e w2 ⟨rfl,hK⟩;rw [HQ.out];have x3 := blk_cell (blk_keep hK (blk_new _ _) trivial) 3;simp only [List.getElem?_toArray,List.getElem?_cons_succ,List.getElem?_cons_zero] at x3)
        all_goals
          go_ret
          exact ⟨ret_bool (by simp [okM,HQ.out, *] <;> (intros;omega)),by first | exact (Keep.refl _ _).alloc _ | exact ((Keep.refl _ _).alloc _).trans hK⟩
    · by_cases k3 : kind = 3 ∨ (4 ≤ kind ∧ kind ≤ 9)
      · obtain rfl | rfl | rfl | rfl | rfl | rfl | rfl : kind = 3 ∨ kind = 4 ∨ kind = 5 ∨ kind = 6 ∨ kind = 7 ∨ kind = 8 ∨ kind = 9 := by omega
        all_goals
          clear k1 k2 k3 IN IC h1
          rcases zg with rfl | ⟨zg',zg⟩
        all_goals
          go_enter Tryz.func30,Tryz.ntmps30
          go_wp2
          all_goals
            go_ret
            exact ⟨ret_bool (by simp [okM, *] <;> (intros;omega)),(Keep.refl _ _).alloc _⟩
      · have e0 : okM ⟨kind,text,given,num⟩ = false := by simp only [okM];rw [if_neg k1,if_neg k2,if_neg (by omega),if_neg (by omega)]
        have E0 := hyd e0
        have z3 : kind ≠ 3 := by omega
        have z4 : kind ≠ 4 := by omega
        have z5 : kind ≠ 5 := by omega
        have z6 : kind ≠ 6 := by omega
        have z7 : kind ≠ 7 := by omega
        have z8 : kind ≠ 8 := by omega
        have z9 : kind ≠ 9 := by omega
        clear e0 k3 IN IC
        go_enter Tryz.func30,Tryz.ntmps30
        go_wp2
        go_ret
        exact ⟨ret_bool (by rw [E0.out]),(Keep.refl _ _).alloc _⟩
end Go.Proofs.YtjopkcjpedgoaaaGreatDoor

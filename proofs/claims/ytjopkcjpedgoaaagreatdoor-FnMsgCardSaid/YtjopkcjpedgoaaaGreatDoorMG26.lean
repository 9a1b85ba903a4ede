/- A name that is not there, drawn; props of a pattern. -/
import Derived.Test.YtjopkcjpedgoaaaGreatDoorMG25
import Derived.Test.YtjopkcjpedgoaaaGreatDoorMG8
import Derived.Test.YtjopkcjpedgoaaaGreatDoorMG17
/- A name that is not there,drawn;props of a pattern. -/
namespace Go.Proofs.YtjopkcjpedgoaaaGreatDoor
open Go.RowKit
set_option linter.unusedVariables false
set_option linter.unusedSimpArgs false
set_option maxRecDepth 20000
set_option maxHeartbeats 4000000
theorem infoI1 : (Tryz.prog.info? 3).map (·.size) = some 1 := by kernel_rfl
theorem infoS1 : (Tryz.prog.info? 9).map (·.size) = some 1 := by kernel_rfl
theorem infoSS : (Tryz.prog.info? 41).map (·.size) = some 1 := by kernel_rfl
theorem fresh_calls (ok : Nat → Prop) (g m : Nat) (w : World) (hok : ∀ k,ok k → k ≠ g) (h : Nms ok g m w) (hm : m ≤ 900) :
    Calls Tryz.prog 107 #[.pointer (some ⟨g,0,none⟩)] w fun e w' => ∃ x : ByteArray,x.size ≤ 100 ∧ e = .returned (.string x) ∧ Nms (fun k => ok k ∨ w.heap.size ≤ k) g (m + 1) w' ∧ Keep (But g) w w' := by
  obtain ⟨a,cp,l,c,hb,hs,hl,hsh,hc⟩ := h
  have zg := blk_lt hb
  have NS := hyd hs
  have SH := hyd hsh
  have LF := hyd (strs_fits hs)
  have NG := hyd hb
  have e1 : IntKind.i64.wrap ((c : Int) + 1) = ((c + 1 : Nat) : Int) := by rw [IntWalk.i64_in _ ⟨by omega,by omega⟩];push_cast;rfl
  have y1 := (blk_cell hb 1).trans rfl
  clear hs hsh hb
  go_enter Tryz.func107,Tryz.ntmps107
  go_wp2_with (first | ((with_reducible_and_instances refine at_store 3 (.tmp 11) (.tmp 9) ?_);refine wpList_store_in rfl 3 (.tmp 11) (.tmp 9) rfl g 1 112 _ (.int .i64 ((c + 1 : Nat) : Int)) #[.int .i64 ((c + 1 : Nat) : Int)] #[.slice a l.length cp,.int .i64 ((c + 1 : Nat) : Int)] (by simp [Act.eval,Act.put]) (by simp [Act.eval,Act.put]) rfl NG.out (by simp) infoI1 (by simp [Value.oneCell']) rfl ?_;intro w3 hb3 hk3;have NG := hyd hb3;have KW := hyd hk3;have NS := hyd (Strs.keep NS.out (hk3.mono (fun k _ hk => hok k hk)));clear y1 hb3 hk3;have y1 := (blk_cell NG.out 1).trans rfl) | (go_at_call 24;refine (l1Dec_some ((c + 1 : Nat) : Int) _ (by omega) (by omega)).mono ?_;rintro e w4 ⟨z1,hz1,rfl,hK2⟩;have n1 : ¬ 9223372036854775807 < 1 + z1.size := (by omega);have hF : Fits (⟨#[118]⟩ ++ z1) := (by unfold Fits;rw [ByteArray.size_append];have : (⟨#[118]⟩ : ByteArray).size = 1 := rfl;omega);have NG := hyd (blk_keep hK2 NG.out trivial);have NS := hyd (Strs.any (Strs.keep NS.out hK2.any));have KW := hyd (KW.out.trans hK2.any);have hz4 := KW.out.size;clear hK2;have y0 := (blk_cell NG.out 0).trans rfl;have zg4 := blk_lt NG.out) | (at_builtin;refine wpList_append_ex _ rfl (.tmp 19) (.tmp 23) 41 rfl (.slice (some ⟨w4.heap.size,0,none⟩) 0 0) (.slice a l.length cp) (by simp [Act.eval,Act.put]) (by simp [Act.eval,Act.put]) (app_strs _ _ w4.heap.size _ [] (OwnS.new rfl (Nat.le_refl _) (blk_new _ _)) (by simp) _ l (Strs.keep NS.out (by repeat (first | (with_reducible exact Keep.refl _ _) | (with_reducible refine Keep.alloc ?_ _) | (with_reducible refine Keep.drew ?_)))) (by rw [List.length_nil];omega)) ?_;intro v1 w5 h1;have O1 := hyd (show OwnS w5 w4.heap.size v1 l from h1.1);have K1 := hyd (Keep.grown (ok := Any) (a := w4) (by repeat (first | (with_reducible exact Keep.refl _ _) | (with_reducible refine Keep.alloc ?_ _) | (with_reducible refine Keep.drew ?_))) h1.2.1 (fun i hi hlt => by first | (simp [Value.ownBlock] at hi;done) | (simp [Value.ownBlock] at hi;omega)));clear h1) | (at_builtin;refine wpList_append_ex _ rfl (.tmp 24) (.tmp 26) 41 rfl v1 (.slice (some ⟨w5.heap.size,0,none⟩) 1 1) (by simp [Act.eval,Act.put]) (by simp [Act.eval,Act.put]) (app_one _ _ w4.heap.size _ l (⟨#[118]⟩ ++ z1) O1.out K1.out.size hF (by omega)) ?_;intro v2 w6 h2;obtain ⟨a2,c2,hv2⟩ := h2.1.form;subst hv2;have O2 := hyd h2.1;have K2 := hyd (K1.out.low h2.2 (Nat.le_refl _));have NG := hyd (blk_keep K2.out NG.out trivial);clear h2) | ((with_reducible_and_instances refine at_store 41 (.tmp 29) (.tmp 27) ?_);refine wpList_store_in rfl 41 (.tmp 29) (.tmp 27) rfl g 0 112 _ (.slice a2 (l ++ [⟨#[118]⟩ ++ z1]).length c2) #[.slice a2 (l ++ [⟨#[118]⟩ ++ z1]).length c2] #[.slice a2 (l ++ [⟨#[118]⟩ ++ z1]).length c2,.int .i64 ((c + 1 : Nat) : Int)] (by simp [Act.eval,Act.put]) (by simp [Act.eval,Act.put]) rfl NG.out (by simp) infoSS (by simp [Value.oneCell']) rfl ?_;intro w7 hb3 hk3))
  go_ret
  have hx : (⟨#[118]⟩ ++ z1 : ByteArray).size ≤ 100 := by rw [ByteArray.size_append];have : (⟨#[118]⟩ : ByteArray).size = 1 := rfl;omega
  refine ⟨_,hx,rfl,⟨a2,c2,l ++ [⟨#[118]⟩ ++ z1],c + 1,hb3,?_,by rw [List.length_append];simp;omega,fun y hy => ?_,by omega⟩,(KW.out.trans K2.out.any).trans hk3⟩
  · refine Sl.keep (OwnS.strs O2.out (fun y hy => ?_) (fun k hk _ => .inr (by omega))) (fun _ _ _ h => h) (hk3.mono fun k _ h => ?_)
    · rcases List.mem_append.1 hy with h | h
      · exact LF.out y h
      · rw [List.mem_singleton.1 h];exact hF
    · show k ≠ g
      rcases h with h | h
      · exact hok k h
      · omega
  · rcases List.mem_append.1 hy with h | h
    · exact SH.out y h
    · rw [List.mem_singleton.1 h];exact hx
end Go.Proofs.YtjopkcjpedgoaaaGreatDoor

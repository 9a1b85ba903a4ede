/- Which values are ok: the reference's test, for every value. -/
import Derived.Test.YtjopkcjpedgoaaaGreatDoorMG3
/- Which values are ok: the reference's test,for every value. -/
namespace Go.Proofs.YtjopkcjpedgoaaaGreatDoor
open Go.RowKit
set_option linter.unusedVariables false
set_option linter.unusedSimpArgs false
set_option maxRecDepth 20000
set_option maxHeartbeats 400000

theorem l1Text_calls (t : ByteArray) (w : World) (hs : Fits t) :
    Calls Tryz.prog 121 #[.string t] w (Quiet (textOk t) w) := by
  go_enter Tryz.func121,Tryz.ntmps121
  go_wp2
  unfold Fits at hs
  go_loop [3] (fun i => ∃ k : Nat,k ≤ t.size ∧ i = .int .i64 k ∧ ∀ j,j < k → ¬ badB t j) (fun i => t.size - (intOf i).toNat)
  case atStart => exact ⟨0,by omega,rfl,fun j hj => by omega⟩
  case round =>
    obtain ⟨k,hk,rfl,hg⟩ := hrel
    have HG := hyd hg
    clear hg
    by_cases hlt : k < t.size
    · have e1 := at_eq t k hlt
      have e2 := at_lt t k
      go_wp2
      · go_ret
        exact ⟨by rw [textOk_bad hlt (by unfold badB;have := ‹_ ∨ (((at_ t k : Nat) : Int) == 39) = true›;simp at this;omega)];rfl,rfl⟩
      · have g := ‹_ ∧ (((at_ t k : Nat) : Int) == 39) = false›
        go_round
        case rel => exact ⟨k + 1,by omega,by go_num,fun j hj => by rcases Nat.lt_succ_iff_lt_or_eq.1 hj with hj | rfl;exact HG.out j hj;unfold badB;simp at g;omega⟩
        case measure => simp [intOf];omega
      all_goals
        go_ret
        exact ⟨by rw [textOk_bad hlt (by unfold badB;omega)];rfl,rfl⟩
    · by_cases h16 : t.size ≤ 16
      · have hr := textOk_all h16 (fun j hj => HG.out j (by omega))
        have HR := hyd hr
        clear hr
        go_wp2
        go_ret
        exact ⟨by rw [HR.out];simp;omega,rfl⟩
      · go_wp2
        go_ret
        exact ⟨by rw [textOk_long (by omega)];simp;omega,rfl⟩

theorem l1Ok_list (d : Nat) (ih : ∀ (v : V) (cs : List Value) (w : World),VR w Any v cs → 1 ≤ d → d ≤ 3 → Calls Tryz.prog 97 #[.agg cs.toArray,.int .i64 d] w (Tells (okV d v) w))
    (num : Int) (text : ByteArray) (list : List V) (w : World) (a : Option Addr) (c : Nat) (h2 : I64 num) (h3 : Fits text) (hd : d + 1 ≤ 3) (hs : Sl 4 (VR w Any) w Any (.slice a list.length c) list) (hc : list.length ≤ 9223372036854775807) :
    Calls Tryz.prog 97 #[.agg #[.int .i64 4,.int .i64 num,.string text,.slice a list.length c],.int .i64 (d + 1 : Nat)] w (Tells (okV (d + 1) ⟨4,num,text,list⟩) w) := by
  have HS := hyd hs
  have IH := hyd ih
  clear hs ih
  have e0 : okV (d + 1) ⟨4,num,text,list⟩ = (num == 0 && (text.toList == ([] : List UInt8)) && decide ((list.length : Int) ≤ 6) && list.all (okV d)) := rfl
  have E0 := hyd e0
  clear e0
  by_cases hd1 : d = 0 ∧ list ≠ []
  · obtain ⟨rfl,hne⟩ := hd1
    obtain ⟨x,r,rfl⟩ := List.exists_cons_of_ne_nil hne
    have e1 : (x :: r).all (okV 0) = false := rfl
    have E1 := hyd e1
    have hl : (0 : Int) < (((x :: r).length : Nat) : Int) := by simp only [List.length_cons];omega
    generalize (x :: r) = list at *
    clear e1 hne IH HS
    by_cases ht : text.toList = []
    all_goals
      go_enter Tryz.func97,Tryz.ntmps97
      go_wp2
      go_loopg [6] 2 (fun g i wr => i = .int .i64 0 ∧ wr.heap[w.heap.size]? = some (.cells #[.int .i64 4,.int .i64 num,.string text,.slice a list.length c] 62 (0,0)) ∧ Keep Any w wr)
      case atStart => exact ⟨rfl,blk_new _ _,by repeat (first | exact Keep.refl _ _ | apply Keep.drewN | apply Keep.drew | apply Keep.alloc)⟩
      case round =>
        obtain ⟨rfl,hb,hK⟩ := hrel
        have b3 : wr.cell? ⟨w.heap.size,3,none⟩ = some (.slice a list.length c) := (blk_cell hb 3).trans rfl
        clear hb
        go_wp2
        go_ret
        exact ⟨congrArg (fun b => Ending.returned (.bool b)) (by rw [E0.out,E1.out];simp),hK⟩
  · have hd2 : 1 ≤ d ∨ list = [] := by
      by_cases h : list = []
      · exact .inr h
      · exact .inl (by have : ¬ d = 0 := fun e => hd1 ⟨e,h⟩;omega)
    clear hd1
    by_cases ht : text.toList = []
    all_goals
      go_enter Tryz.func97,Tryz.ntmps97
      go_wp2
      go_loopg [6] (list.length + 1) (fun g i wr => ∃ k : Nat,k ≤ list.length ∧ i = .int .i64 k ∧ g = list.length + 1 - k ∧ (∀ j x,j < k → list[j]? = some x → okV d x = true) ∧ wr.heap[w.heap.size]? = some (.cells #[.int .i64 4,.int .i64 num,.string text,.slice a list.length c] 62 (0,0)) ∧ Keep Any w wr)
      case atStart => exact ⟨0,by omega,rfl,rfl,fun j x hj => by omega,blk_new _ _,by repeat (first | exact Keep.refl _ _ | apply Keep.drewN | apply Keep.drew | apply Keep.alloc)⟩
      case round =>
        obtain ⟨k,hk,rfl,hg,hall,hb,hK⟩ := hrel
        have b1 : wr.cell? ⟨w.heap.size,1,none⟩ = some (.int .i64 num) := (blk_cell hb 1).trans rfl
        have b2 : wr.cell? ⟨w.heap.size,2,none⟩ = some (.string text) := (blk_cell hb 2).trans rfl
        have b3 : wr.cell? ⟨w.heap.size,3,none⟩ = some (.slice a list.length c) := (blk_cell hb 3).trans rfl
        have HB := hyd hb
        have HG := hyd hg
        have HA := hyd hall
        clear hg hall hb
        by_cases hlt : k < list.length
        · have hx : list[k]? = some list[k] := List.getElem?_eq_getElem hlt
          have hd3 : 1 ≤ d := by rcases hd2 with h | h;exact h;subst h;simp at hlt
          have HX := hyd hx
          obtain ⟨ad,sa,sc,rfl,hvx,c0,c1,c2,c3⟩ := vals_at HS.out hK hx
          generalize list[k] = x at *
          have HV := hyd hvx
          have D2 := hyd hd2
          clear hx hvx hd2
          go_wp2_with (go_at_call 97;refine (IH.out _ _ _ HV.out hd3 (by omega)).mono ?_;rintro e w2 ⟨rfl,hK2⟩;rcases hq : okV d x with _ | _ <;> (have HQ := hyd hq;clear hq))
          · have g : okV d x = false := HQ.out
            go_ret
            exact ⟨congrArg (fun b => Ending.returned (.bool b)) (by rw [E0.out,List.all_eq_false.2 ⟨x,List.mem_of_getElem? HX.out,by rw [g];decide⟩];simp),hK.trans hK2⟩
          · have g : okV d x = true := HQ.out
            go_roundg (gk - 1)
            case rel => exact ⟨k + 1,by omega,by go_num,by have := HG.out;omega,fun j y hj hy => by rcases Nat.lt_succ_iff_lt_or_eq.1 hj with hj | rfl;exact HA.out j y hj hy;rw [HX.out] at hy;cases hy;exact g,blk_keep hK2 HB.out trivial,hK.trans hK2⟩
            case measure => have := HG.out;omega
        · have e1 : list.all (okV d) = true := List.all_eq_true.2 fun x hx => by
            obtain ⟨j,hj,rfl⟩ := List.getElem_of_mem hx
            exact HA.out j _ (by omega) (List.getElem?_eq_getElem hj)
          have E1 := hyd e1
          have D2 := hyd hd2
          clear e1 hd2
          go_wp2
          all_goals
            go_ret
            exact ⟨congrArg (fun b => Ending.returned (.bool b)) (by rw [E0.out,E1.out];simp [*]),hK⟩

theorem okV_one (d : Nat) (num : Int) (text : ByteArray) (list : List V) : okV (d + 1) ⟨1,num,text,list⟩ = (decide (0 ≤ num) && decide (num ≤ 1) && V.bare ⟨1,num,text,list⟩) := by
  have : (num == 0 || num == 1) = (decide (0 ≤ num) && decide (num ≤ 1)) := by
    rw [Bool.eq_iff_iff];simp;omega
  simp only [okV,this];rfl
theorem l1Ok_calls (d : Nat) : ∀ (v : V) (cs : List Value) (w : World),VR w Any v cs → 1 ≤ d → d ≤ 3 →
    Calls Tryz.prog 97 #[.agg cs.toArray,.int .i64 d] w (Tells (okV d v) w) := by
  induction d with
  | zero => intro v cs w hv h1 hd;omega
  | succ d ih =>
  intro v cs w hv hd0 hd
  obtain ⟨s,rfl,h1,h2,h3,hs0⟩ := VR.iff.1 hv
  obtain ⟨kind,num,text,list⟩ := v
  have hs := hs0
  obtain ⟨a,c,rfl,hc,hm,_⟩ := hs
  simp only at *
  by_cases k0 : kind = 0
  · subst k0
    go_enter Tryz.func97,Tryz.ntmps97
    go_wp2
    all_goals
      go_ret
      exact ⟨congrArg (fun b => Ending.returned (.bool b)) (by simp [okV,V.bare, *] <;> (intros;omega)),by repeat (first | exact Keep.refl _ _ | apply Keep.drewN | apply Keep.drew | apply Keep.alloc)⟩
  by_cases k1 : kind = 1
  · subst k1
    go_enter Tryz.func97,Tryz.ntmps97
    go_wp2
    all_goals
      go_ret
      exact ⟨congrArg (fun b => Ending.returned (.bool b)) (by rw [okV_one];simp [V.bare, *] <;> (intros;omega)),by repeat (first | exact Keep.refl _ _ | apply Keep.drewN | apply Keep.drew | apply Keep.alloc)⟩
  by_cases k2 : kind = 2
  · subst k2
    go_enter Tryz.func97,Tryz.ntmps97
    go_wp2
    all_goals
      go_ret
      exact ⟨congrArg (fun b => Ending.returned (.bool b)) (by simp [okV,V.bare, *] <;> (intros;omega)),by repeat (first | exact Keep.refl _ _ | apply Keep.drewN | apply Keep.drew | apply Keep.alloc)⟩
  by_cases k5 : kind = 5
  · subst k5
    go_enter Tryz.func97,Tryz.ntmps97
    go_wp2
    all_goals
      go_ret
      exact ⟨congrArg (fun b => Ending.returned (.bool b)) (by simp [okV,V.bare, *] <;> (intros;omega)),by repeat (first | exact Keep.refl _ _ | apply Keep.drewN | apply Keep.drew | apply Keep.alloc)⟩
  by_cases k6 : kind = 6
  · subst k6
    go_enter Tryz.func97,Tryz.ntmps97
    go_wp2
    all_goals
      go_ret
      exact ⟨congrArg (fun b => Ending.returned (.bool b)) (by simp [okV,V.bare, *] <;> (intros;omega)),by repeat (first | exact Keep.refl _ _ | apply Keep.drewN | apply Keep.drew | apply Keep.alloc)⟩
  by_cases k3 : kind = 3
  · subst k3
    have TF := hyd (l1Text_calls text)
    go_enter Tryz.func97,Tryz.ntmps97
    go_wp2_with (go_at_call 121;refine (TF.out _ h3).mono ?_;rintro e w' ⟨rfl,rfl⟩)
    all_goals
      go_ret
      exact ⟨congrArg (fun b => Ending.returned (.bool b)) (by simp [okV,V.bare, *] <;> (intros;omega)),by repeat (first | exact Keep.refl _ _ | apply Keep.drewN | apply Keep.drew | apply Keep.alloc)⟩
  by_cases k4 : kind = 4
  · subst k4
    exact l1Ok_list d ih num text list w a c h2 h3 hd hs0 (by omega)
  · have b0 : (kind == 0) = false := by simpa using k0
    have b1 : (kind == 1) = false := by simpa using k1
    have b2 : (kind == 2) = false := by simpa using k2
    have b3 : (kind == 3) = false := by simpa using k3
    have b4 : (kind == 4) = false := by simpa using k4
    have b5 : (kind == 5) = false := by simpa using k5
    have b6 : (kind == 6) = false := by simpa using k6
    go_enter Tryz.func97,Tryz.ntmps97
    go_wp2
    all_goals
      go_ret
      exact ⟨congrArg (fun b => Ending.returned (.bool b)) (by simp [okV, *]),(Keep.refl _ _).alloc _⟩
end Go.Proofs.YtjopkcjpedgoaaaGreatDoor

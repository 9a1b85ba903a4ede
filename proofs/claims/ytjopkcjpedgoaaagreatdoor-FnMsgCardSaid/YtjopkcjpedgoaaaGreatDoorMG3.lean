/- Which values are ok: the program's and the reference's tests, for every value. -/
import Derived.Test.YtjopkcjpedgoaaaGreatDoorMG0
/- Which values are ok: the program's and the reference's tests,for every value. -/
namespace Go.Proofs.YtjopkcjpedgoaaaGreatDoor
open Go.RowKit
set_option linter.unusedVariables false
set_option linter.unusedSimpArgs false
set_option maxRecDepth 20000
set_option maxHeartbeats 400000


def badB (t : ByteArray) (k : Nat) : Prop := at_ t k < 32 ∨ 126 < at_ t k ∨ at_ t k = 39
theorem textOk_bad {t : ByteArray} {k : Nat} (h : k < t.size) (hb : badB t k) : textOk t = false := by
  rw [textOk,Bool.and_eq_false_iff]
  right
  rw [List.all_eq_false]
  have hl : k < t.data.toList.length := by rw [← Lib.size_eq];exact h
  refine ⟨t.data.toList[k],List.getElem_mem hl,?_⟩
  have e : (t.data.toList[k]).toNat = at_ t k := by rw [← at_eq t k h];rfl
  rw [e]
  unfold badB at hb
  simp
  omega
theorem textOk_all {t : ByteArray} (h : t.size ≤ 16) (hb : ∀ k,k < t.size → ¬ badB t k) : textOk t = true := by
  rw [textOk,Bool.and_eq_true]
  refine ⟨by simpa using h,?_⟩
  rw [List.all_eq_true]
  intro x hx
  obtain ⟨k,hk,rfl⟩ := List.getElem_of_mem hx
  have h' : k < t.size := by rw [Lib.size_eq];exact hk
  have e : (t.data.toList[k]).toNat = at_ t k := by rw [← at_eq t k h'];rfl
  rw [e]
  have := hb k h'
  unfold badB at this
  simp
  omega
theorem textOk_long {t : ByteArray} (h : 16 < t.size) : textOk t = false := by rw [textOk,Bool.and_eq_false_iff];left;simp;omega
theorem textFits_calls (t : ByteArray) (w : World) (hs : Fits t) :
    Calls Tryz.prog 115 #[.string t] w (Quiet (textOk t) w) := by
  by_cases h : 16 < t.size
  · go_enter Tryz.func115,Tryz.ntmps115
    go_wp2
    go_ret
    exact ⟨by rw [textOk_long h];rfl,rfl⟩
  · go_enter Tryz.func115,Tryz.ntmps115
    go_wp2
    go_loop [3] (fun i => ∃ k : Nat,k ≤ t.size ∧ i = .int .i64 k ∧ ∀ j,j < k → ¬ badB t j) (fun i => t.size - (intOf i).toNat)
    case atStart => exact ⟨0,by omega,rfl,fun j hj => by omega⟩
    case round =>
      obtain ⟨k,hk,rfl,hg⟩ := hrel
      have HG := hyd hg
      clear hg
      by_cases hlt : k < t.size
      · have e1 := at_eq t k hlt
        have e2 := at_lt t k
        go_wp2
        · go_ret
          exact ⟨by rw [textOk_bad hlt (by unfold badB;have := ‹_ ∨ (((at_ t k : Nat) : Int) == 39) = true›;simp at this;omega)];rfl,rfl⟩
        · have g := ‹_ ∧ (((at_ t k : Nat) : Int) == 39) = false›
          go_round
          case rel => exact ⟨k + 1,by omega,by go_num,fun j hj => by rcases Nat.lt_succ_iff_lt_or_eq.1 hj with hj | rfl;exact HG.out j hj;unfold badB;simp at g;omega⟩
          case measure => simp [intOf];omega
        all_goals
          go_ret
          exact ⟨by rw [textOk_bad hlt (by unfold badB;omega)];rfl,rfl⟩
      · have hr := textOk_all (by omega) (fun j hj => HG.out j (by omega))
        have HR := hyd hr
        clear hr
        go_wp2
        go_ret
        exact ⟨by rw [HR.out];rfl,rfl⟩
theorem valueFits_list (d : Nat) (ih : ∀ (v : V) (cs : List Value) (w : World),VR w Any v cs → d ≤ 3 → Calls Tryz.prog 91 #[.agg cs.toArray,.int .i64 d] w (Tells (okV d v) w))
    (num : Int) (text : ByteArray) (list : List V) (w : World) (a : Option Addr) (c : Nat) (h2 : I64 num) (h3 : Fits text) (hd : d + 1 ≤ 3) (hs : Sl 4 (VR w Any) w Any (.slice a list.length c) list) :
    Calls Tryz.prog 91 #[.agg #[.int .i64 4,.int .i64 num,.string text,.slice a list.length c],.int .i64 (d + 1 : Nat)] w (Tells (okV (d + 1) ⟨4,num,text,list⟩) w) := by
  have HS := hyd hs
  have IH := hyd ih
  clear hs ih
  by_cases hb : num = 0 ∧ text.toList = [] ∧ list.length ≤ 6
  · obtain ⟨rfl,ht,hl⟩ := hb
    have e0 : okV (d + 1) ⟨4,0,text,list⟩ = list.all (okV d) := by simp [okV, *];omega
    have E0 := hyd e0
    clear e0
    go_enter Tryz.func91,Tryz.ntmps91
    go_wp2
    go_loopg [126] (list.length + 1) (fun g i wr => ∃ k : Nat,k ≤ list.length ∧ i = .int .i64 k ∧ g = list.length + 1 - k ∧ (∀ j x,j < k → list[j]? = some x → okV d x = true) ∧ Keep Any w wr)
    case atStart => exact ⟨0,by omega,rfl,rfl,fun j x hj => by omega,by repeat (first | exact Keep.refl _ _ | apply Keep.drewN | apply Keep.drew | apply Keep.alloc)⟩
    case round =>
      obtain ⟨k,hk,rfl,hg,hall,hK⟩ := hrel
      have HG := hyd hg
      have HA := hyd hall
      clear hg hall
      by_cases hlt : k < list.length
      · have hx : list[k]? = some list[k] := List.getElem?_eq_getElem hlt
        have HX := hyd hx
        obtain ⟨ad,sa,sc,rfl,hvx,c0,c1,c2,c3⟩ := vals_at HS.out hK hx
        generalize list[k] = x at *
        have HV := hyd hvx
        clear hx hvx
        go_wp2_with (go_at_call 91;refine (IH.out _ _ _ (HV.out.keep ((Keep.refl _ _).alloc _)) (by omega)).mono ?_;rintro e w2 ⟨rfl,hK2⟩)
        · have g : okV d x = false := by simpa using ‹(!okV d x) = true›
          go_ret
          exact ⟨congrArg (fun b => Ending.returned (.bool b)) (by rw [E0.out];exact (List.all_eq_false.2 ⟨x,List.mem_of_getElem? HX.out,by rw [g];decide⟩).symm),(hK.alloc _).trans hK2⟩
        · have g : okV d x = true := by simpa using ‹(!okV d x) = false›
          go_roundg (gk - 1)
          case rel => exact ⟨k + 1,by omega,by go_num,by have := HG.out;omega,fun j y hj hy => by rcases Nat.lt_succ_iff_lt_or_eq.1 hj with hj | rfl;exact HA.out j y hj hy;rw [HX.out] at hy;cases hy;exact g,(hK.alloc _).trans hK2⟩
          case measure => have := HG.out;omega
      · have e1 : list.all (okV d) = true := List.all_eq_true.2 fun x hx => by
          obtain ⟨j,hj,rfl⟩ := List.getElem_of_mem hx
          exact HA.out j _ (by omega) (List.getElem?_eq_getElem hj)
        have E1 := hyd e1
        clear e1
        go_wp2
        go_ret
        exact ⟨congrArg (fun b => Ending.returned (.bool b)) (by rw [E0.out,E1.out]),hK⟩
  · have e0 : okV (d + 1) ⟨4,num,text,list⟩ = false := by simp [okV];intro a b c;exact absurd ⟨a,b,by omega⟩ hb
    have E0 := hyd e0
    clear e0
    have hb' : num ≠ 0 ∨ (num = 0 ∧ text.toList ≠ []) ∨ (num = 0 ∧ text.toList = [] ∧ 6 < list.length) := by
      by_cases a1 : num = 0 <;> by_cases a2 : text.toList = [] <;> simp_all <;> omega
    clear hb
    rcases hb' with a1 | ⟨a1,a2⟩ | ⟨a1,a2,a3⟩
    all_goals
      try subst a1
      go_enter Tryz.func91,Tryz.ntmps91
      go_wp2
      go_ret
      exact ⟨congrArg (fun b => Ending.returned (.bool b)) (by rw [E0.out]),by repeat (first | exact Keep.refl _ _ | apply Keep.drewN | apply Keep.drew | apply Keep.alloc)⟩
theorem valueFits_calls (d : Nat) : ∀ (v : V) (cs : List Value) (w : World),VR w Any v cs → d ≤ 3 →
    Calls Tryz.prog 91 #[.agg cs.toArray,.int .i64 d] w (Tells (okV d v) w) := by
  induction d with
  | zero =>
    intro v cs w hv hd
    go_enter Tryz.func91,Tryz.ntmps91
    go_wp2
    go_ret
    exact ⟨rfl,(Keep.refl _ _).alloc _⟩
  | succ d ih =>
  intro v cs w hv hd
  obtain ⟨s,rfl,h1,h2,h3,hs0⟩ := VR.iff.1 hv
  obtain ⟨kind,num,text,list⟩ := v
  have hs := hs0
  obtain ⟨a,c,rfl,hc,hm,_⟩ := hs
  simp only at *
  by_cases k0 : kind = 0
  · subst k0
    go_enter Tryz.func91,Tryz.ntmps91
    go_wp2
    all_goals
      go_ret
      exact ⟨congrArg (fun b => Ending.returned (.bool b)) (by simp [okV,V.bare, *] <;> (intros;omega)),by repeat (first | exact Keep.refl _ _ | apply Keep.drewN | apply Keep.drew | apply Keep.alloc)⟩
  by_cases k1 : kind = 1
  · subst k1
    go_enter Tryz.func91,Tryz.ntmps91
    go_wp2
    all_goals
      go_ret
      exact ⟨congrArg (fun b => Ending.returned (.bool b)) (by simp [okV,V.bare, *] <;> (intros;omega)),by repeat (first | exact Keep.refl _ _ | apply Keep.drewN | apply Keep.drew | apply Keep.alloc)⟩
  by_cases k2 : kind = 2
  · subst k2
    go_enter Tryz.func91,Tryz.ntmps91
    go_wp2
    all_goals
      go_ret
      exact ⟨congrArg (fun b => Ending.returned (.bool b)) (by simp [okV,V.bare, *] <;> (intros;omega)),by repeat (first | exact Keep.refl _ _ | apply Keep.drewN | apply Keep.drew | apply Keep.alloc)⟩
  by_cases k5 : kind = 5
  · subst k5
    go_enter Tryz.func91,Tryz.ntmps91
    go_wp2
    all_goals
      go_ret
      exact ⟨congrArg (fun b => Ending.returned (.bool b)) (by simp [okV,V.bare, *] <;> (intros;omega)),by repeat (first | exact Keep.refl _ _ | apply Keep.drewN | apply Keep.drew | apply Keep.alloc)⟩
  by_cases k6 : kind = 6
  · subst k6
    go_enter Tryz.func91,Tryz.ntmps91
    go_wp2
    all_goals
      go_ret
      exact ⟨congrArg (fun b => Ending.returned (.bool b)) (by simp [okV,V.bare, *] <;> (intros;omega)),by repeat (first | exact Keep.refl _ _ | apply Keep.drewN | apply Keep.drew | apply Keep.alloc)⟩

  by_cases k3 : kind = 3
  · subst k3
    have TF := hyd (textFits_calls text)
    go_enter Tryz.func91,Tryz.ntmps91
    go_wp2_with (go_at_call 115;refine (TF.out _ h3).mono ?_;rintro e w' ⟨rfl,rfl⟩)
    all_goals
      go_ret
      exact ⟨congrArg (fun b => Ending.returned (.bool b)) (by simp [okV,V.bare, *] <;> (intros;omega)),by repeat (first | exact Keep.refl _ _ | apply Keep.drewN | apply Keep.drew | apply Keep.alloc)⟩
  by_cases k4 : kind = 4
  · subst k4
    exact valueFits_list d ih num text list w a c h2 h3 hd hs0
  · have b0 : (kind == 0) = false := by simpa using k0
    have b1 : (kind == 1) = false := by simpa using k1
    have b2 : (kind == 2) = false := by simpa using k2
    have b3 : (kind == 3) = false := by simpa using k3
    have b4 : (kind == 4) = false := by simpa using k4
    have b5 : (kind == 5) = false := by simpa using k5
    have b6 : (kind == 6) = false := by simpa using k6
    go_enter Tryz.func91,Tryz.ntmps91
    go_wp2
    go_ret
    exact ⟨congrArg (fun b => Ending.returned (.bool b)) (by simp [okV, *]),(Keep.refl _ _).alloc _⟩
end Go.Proofs.YtjopkcjpedgoaaaGreatDoor

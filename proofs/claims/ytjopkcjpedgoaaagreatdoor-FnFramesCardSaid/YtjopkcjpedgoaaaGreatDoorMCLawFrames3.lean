/- Which lists of cells are ok: the reference's l4Cells. For every list. -/
import Derived.Test.YtjopkcjpedgoaaaGreatDoorMCLawFrames2
import Derived.Test.YtjopkcjpedgoaaaGreatDoorMC2
import Derived.Test.YtjopkcjpedgoaaaGreatDoorMC9
/- Which lists of cells are ok: the reference's l4Cells. For every list. -/
namespace Go.Proofs.YtjopkcjpedgoaaaGreatDoor
open Go.RowKit
set_option linter.unusedVariables false
set_option linter.unusedSimpArgs false
set_option maxRecDepth 20000
set_option maxHeartbeats 1000000
def placeOf (l : List Ce) (s : ByteArray) : Int := match l.findIdx? (fun d => decide (d.name = s)) with
  | some i => (i : Int)
  | none => -1
theorem bytes_eq {a b : ByteArray} : (a.toList == b.toList) = decide (a = b) := by
  rw [ByteArray.toList_eq,ByteArray.toList_eq,Bool.eq_iff_iff,beq_iff_eq,decide_eq_true_iff]
  constructor
  · intro h;exact ByteArray.ext (Array.toList_inj.1 h)
  · intro h;rw [h]
theorem place_hit {l : List Ce} {s : ByteArray} {k : Nat} {x : Ce} (hx : l[k]? = some x) (he : x.name = s) (hn : ∀ (j : Nat) (y : Ce),j < k → l[j]? = some y → y.name ≠ s) : placeOf l s = k := by
  have hk : k < l.length := (List.getElem?_eq_some_iff.1 hx).1
  have hv : l[k] = x := (List.getElem?_eq_some_iff.1 hx).2
  have : l.findIdx? (fun d => decide (d.name = s)) = some k := by
    rw [List.findIdx?_eq_some_iff_getElem]
    exact ⟨hk,by rw [hv];simpa using he,fun j hj => by simpa using hn j _ hj (List.getElem?_eq_getElem (by omega))⟩
  rw [placeOf,this]
theorem place_none {l : List Ce} {s : ByteArray} (hn : ∀ (j : Nat) (y : Ce),l[j]? = some y → y.name ≠ s) : placeOf l s = -1 := by
  have : l.findIdx? (fun d => decide (d.name = s)) = none := by
    rw [List.findIdx?_eq_none_iff]
    intro x hx
    obtain ⟨j,hj,rfl⟩ := List.getElem_of_mem hx
    simpa using hn j _ (List.getElem?_eq_getElem hj)
  rw [placeOf,this]
theorem place_own {l : List Ce} {k : Nat} {x : Ce} (hx : l[k]? = some x) : (placeOf l x.name != (k : Int)) = ((l.take k).any fun d => decide (d.name = x.name)) := by
  have hk : k < l.length := (List.getElem?_eq_some_iff.1 hx).1
  have hv : l[k] = x := (List.getElem?_eq_some_iff.1 hx).2
  cases hh : (l.take k).any fun d => decide (d.name = x.name) with
  | false =>
    rw [place_hit hx rfl fun j y hj hy e => ?_]
    · simp
    · rw [List.any_eq_false] at hh
      exact hh y (List.mem_of_getElem? (by rw [List.getElem?_take_of_lt hj];exact hy)) (by simpa using e)
  | true =>
    obtain ⟨y,hy,he⟩ := List.any_eq_true.1 hh
    obtain ⟨j,hj,rfl⟩ := List.getElem_of_mem hy
    have hjk : j < k := by rw [List.length_take] at hj;omega
    rw [List.getElem_take] at he
    cases hf : l.findIdx? (fun d => decide (d.name = x.name)) with
    | none =>
      rw [List.findIdx?_eq_none_iff] at hf
      have := hf l[j] (List.getElem_mem _)
      rw [this] at he;cases he
    | some i =>
      rw [List.findIdx?_eq_some_iff_getElem] at hf
      obtain ⟨hi,_,hlt⟩ := hf
      have hij : i ≤ j := by
        rcases Nat.lt_or_ge j i with h | h
        · have := hlt j h
          rw [he] at this;exact absurd rfl this
        · exact h
      have hf : l.findIdx? (fun d => decide (d.name = x.name)) = some i := by
        rw [List.findIdx?_eq_some_iff_getElem];exact ⟨hi,by assumption,hlt⟩
      rw [placeOf,hf]
      simp
      omega
theorem l4Cell_calls (l : List Ce) (s : Value) (t : ByteArray) (w : World) (hs : Ces w Any s l) : Calls Tryz.prog 75 #[s,.string t] w (Num (placeOf l t) w) := by
  have HS := hyd hs
  obtain ⟨ad,c,rfl,hc,hm,_⟩ := hs
  go_enter Tryz.func75,Tryz.ntmps75
  go_wp2
  go_loopg [5] (l.length + 1) (fun g i wr => ∃ k : Nat,k ≤ l.length ∧ i = .int .i64 k ∧ g = l.length + 1 - k ∧ (∀ (j : Nat) (y : Ce),j < k → l[j]? = some y → y.name ≠ t) ∧ Keep Any w wr)
  case atStart => exact ⟨0,by omega,rfl,rfl,fun j y hj => by omega,Keep.refl _ _⟩
  case round =>
    obtain ⟨k,hk,rfl,hg,hall,hK⟩ := hrel
    have HG := hyd hg
    have HA := hyd hall
    clear hg hall
    by_cases hlt : k < l.length
    · have hx : l[k]? = some l[k] := List.getElem?_eq_getElem hlt
      have HX := hyd hx
      obtain ⟨ad,sa,sc,rfl,hF,hvx,c0,c1,c2,c3,c4⟩ := ces_at HS.out hK hx
      generalize l[k] = x at *
      clear hx hvx
      by_cases he : x.name = t
      · have bq : (x.name.toList == t.toList) = true := by rw [bytes_eq];simpa using he
        have HE := hyd he
        clear he
        go_wp2
        go_ret
        exact ⟨ret_int (place_hit HX.out HE.out HA.out).symm,hK⟩
      · have bq : (x.name.toList == t.toList) = false := by rw [bytes_eq];simpa using he
        have HE := hyd he
        clear he
        go_wp2
        go_roundg (gk - 1)
        case rel => exact ⟨k + 1,by omega,by go_num,by have := HG.out;omega,fun j y hj hy => by rcases Nat.lt_succ_iff_lt_or_eq.1 hj with hj | rfl;exact HA.out j y hj hy;rw [HX.out] at hy;cases hy;exact HE.out,hK⟩
        case measure => have := HG.out;omega
    · go_wp2
      go_ret
      exact ⟨ret_int (place_none fun j y hy => HA.out j y (by have := (List.getElem?_eq_some_iff.1 hy).1;omega) hy).symm,hK⟩
theorem l4Cells_calls (l : List Ce) (s : Value) (w : World) (hs : Ces w Any s l) : Calls Tryz.prog 57 #[s] w (Tells (okCells l) w) := by
  have HS := hyd hs
  have IN := hyd l2Name_calls
  have IV := hyd specValueOk_calls
  have IP := hyd (fun t w' (h : Keep Any w w') => l4Cell_calls l s t w' (Ces.keep hs h))
  obtain ⟨ad,c,rfl,hc,hm,_⟩ := hs
  go_enter Tryz.func57,Tryz.ntmps57
  go_wp2
  go_loopg [3] (l.length + 1) (fun g i wr => ∃ k : Nat,k ≤ l.length ∧ i = .int .i64 k ∧ g = l.length + 1 - k ∧ (∀ j,j < k → cellGood l j = true) ∧ Keep Any w wr)
  case atStart => exact ⟨0,by omega,rfl,rfl,fun j hj => by omega,Keep.refl _ _⟩
  case round =>
    obtain ⟨k,hk,rfl,hg,hall,hK⟩ := hrel
    have HG := hyd hg
    have HA := hyd hall
    have HK := hyd hK
    clear hg hall
    by_cases hlt : k < l.length
    · have hx : l[k]? = some l[k] := List.getElem?_eq_getElem hlt
      have HX := hyd hx
      obtain ⟨ad,sa,sc,rfl,hF,hvx,c0,c1,c2,c3,c4⟩ := ces_at HS.out hK hx
      generalize l[k] = x at *
      have HV := hyd hvx
      have CG := hyd (cellGood_at hx)
      have PO := hyd (place_own hx)
      have AT := hyd (fun w' (h : Keep Any w w') => ces_at HS.out h hx)
      clear hx hvx hK
      rcases hq : nameOk x.name with _ | _
      · have HQ := hyd hq
        clear hq
        go_wp2_with (go_at_call 56;refine (IN.out _ _ hF).mono ?_;rintro e w2 ⟨rfl,hK1⟩;rw [HQ.out])
        go_ret
        exact ⟨ret_bool (by rw [okCells_bad hlt (by rw [CG.out,HQ.out];rfl)]),HK.out.trans hK1⟩
      · have HQ := hyd hq
        clear hq
        rcases hq2 : okV 3 x.val with _ | _
        · have HQ2 := hyd hq2
          clear hq2
          go_wp2_with (first | (go_at_call 56;refine (IN.out _ _ hF).mono ?_;rintro e w2 ⟨rfl,hK1⟩;rw [HQ.out];clear c0 c1 c2 c3 c4;have HK1 := hyd (HK.out.trans hK1);obtain ⟨ad1,sa1,sc1,e1,hF1,hvx1,c0,c1,c2,c3,c4⟩ := AT.out _ HK1.out;cases e1;have HV1 := hyd hvx1;clear hvx1 hK1) | (go_at_call 74;refine (IV.out _ _ _ HV1.out).mono ?_;rintro e w3 ⟨rfl,hK2⟩;rw [HQ2.out]))
          go_ret
          exact ⟨ret_bool (by rw [okCells_bad hlt (by rw [CG.out,HQ.out,HQ2.out];rfl)]),HK1.out.trans hK2⟩
        · have HQ2 := hyd hq2
          clear hq2
          rcases hq3 : (l.take k).any fun d => decide (d.name = x.name) with _ | _
          · have HQ3 := hyd hq3
            have bq : (placeOf l x.name != (k : Int)) = false := PO.out.trans hq3
            have GD := hyd (show cellGood l k = true by rw [CG.out,HQ.out,HQ2.out,hq3];rfl)
            clear hq3
            go_wp2_with (first | (go_at_call 56;refine (IN.out _ _ hF).mono ?_;rintro e w2 ⟨rfl,hK1⟩;rw [HQ.out];clear c0 c1 c2 c3 c4;have HK1 := hyd (HK.out.trans hK1);obtain ⟨ad1,sa1,sc1,e1,hF1,hvx1,c0,c1,c2,c3,c4⟩ := AT.out _ HK1.out;cases e1;have HV1 := hyd hvx1;clear hvx1 hK1) | (go_at_call 74;refine (IV.out _ _ _ HV1.out).mono ?_;rintro e w3 ⟨rfl,hK2⟩;rw [HQ2.out];clear c0 c1 c2 c3 c4;have HK2 := hyd (HK1.out.trans hK2);obtain ⟨ad2,sa2,sc2,e2,hF2,hvx2,c0,c1,c2,c3,c4⟩ := AT.out _ HK2.out;cases e2;clear hvx2 hK2) | (go_at_call 75;refine (IP.out _ _ HK2.out).mono ?_;rintro e w4 ⟨rfl,hK3⟩))
            go_roundg (gk - 1)
            case rel => exact ⟨k + 1,by omega,by go_num,by have := HG.out;omega,fun j hj => by rcases Nat.lt_succ_iff_lt_or_eq.1 hj with hj | rfl;exact HA.out j hj;exact GD.out,HK2.out.trans hK3⟩
            case measure => have := HG.out;omega
          · have HQ3 := hyd hq3
            have bq : (placeOf l x.name != (k : Int)) = true := PO.out.trans hq3
            clear hq3
            go_wp2_with (first | (go_at_call 56;refine (IN.out _ _ hF).mono ?_;rintro e w2 ⟨rfl,hK1⟩;rw [HQ.out];clear c0 c1 c2 c3 c4;have HK1 := hyd (HK.out.trans hK1);obtain ⟨ad1,sa1,sc1,e1,hF1,hvx1,c0,c1,c2,c3,c4⟩ := AT.out _ HK1.out;cases e1;have HV1 := hyd hvx1;clear hvx1 hK1) | (go_at_call 74;refine (IV.out _ _ _ HV1.out).mono ?_;rintro e w3 ⟨rfl,hK2⟩;rw [HQ2.out];clear c0 c1 c2 c3 c4;have HK2 := hyd (HK1.out.trans hK2);obtain ⟨ad2,sa2,sc2,e2,hF2,hvx2,c0,c1,c2,c3,c4⟩ := AT.out _ HK2.out;cases e2;clear hvx2 hK2) | (go_at_call 75;refine (IP.out _ _ HK2.out).mono ?_;rintro e w4 ⟨rfl,hK3⟩))
            go_ret
            exact ⟨ret_bool (by rw [okCells_bad hlt (by rw [CG.out,HQ.out,HQ2.out,HQ3.out];rfl)]),HK2.out.trans hK3⟩
    · obtain rfl : k = l.length := by omega
      have E1 := hyd (okCells_good HA.out)
      go_wp2
      go_ret
      exact ⟨ret_bool (by rw [E1.out]),HK.out⟩
end Go.Proofs.YtjopkcjpedgoaaaGreatDoor

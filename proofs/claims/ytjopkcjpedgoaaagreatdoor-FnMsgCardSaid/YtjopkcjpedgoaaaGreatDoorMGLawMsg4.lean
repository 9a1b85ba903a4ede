/- Which lists of cells are ok: the reference's l4Cells. For every list. strings.Cut at one byte: the text ahead of it and behind. For every text. The program's ValueGet: the value whose text it is. For every text of at most 2^61 bytes. The program's givenGet: the cells that a text tells, each behind a newline. For every text of at most 2^60 bytes. -/
import Derived.Test.YtjopkcjpedgoaaaGreatDoorMGLawMsg2
import Derived.Test.YtjopkcjpedgoaaaGreatDoorMG2
import Derived.Test.YtjopkcjpedgoaaaGreatDoorMG8
import Derived.Test.YtjopkcjpedgoaaaGreatDoorMG6
import Derived.Test.YtjopkcjpedgoaaaGreatDoorMG1
import Derived.Test.YtjopkcjpedgoaaaGreatDoorMGAt
/- Which lists of cells are ok: the reference's l4Cells. For every list. -/
namespace Go.Proofs.YtjopkcjpedgoaaaGreatDoor
open Go.RowKit
set_option linter.unusedVariables false
set_option linter.unusedSimpArgs false
set_option maxRecDepth 20000
set_option maxHeartbeats 1000000
def placeOf (l : List Ce) (s : ByteArray) : Int := match l.findIdx? (fun d => decide (d.name = s)) with
  | some i => (i : Int)
  | none => -1
theorem bytes_eq {a b : ByteArray} : (a.toList == b.toList) = decide (a = b) := by
  rw [ByteArray.toList_eq,ByteArray.toList_eq,Bool.eq_iff_iff,beq_iff_eq,decide_eq_true_iff]
  constructor
  · intro h;exact ByteArray.ext (Array.toList_inj.1 h)
  · intro h;rw [h]
theorem place_hit {l : List Ce} {s : ByteArray} {k : Nat} {x : Ce} (hx : l[k]? = some x) (he : x.name = s) (hn : ∀ (j : Nat) (y : Ce),j < k → l[j]? = some y → y.name ≠ s) : placeOf l s = k := by
  have hk : k < l.length := (List.getElem?_eq_some_iff.1 hx).1
  have hv : l[k] = x := (List.getElem?_eq_some_iff.1 hx).2
  have : l.findIdx? (fun d => decide (d.name = s)) = some k := by
    rw [List.findIdx?_eq_some_iff_getElem]
    exact ⟨hk,by rw [hv];simpa using he,fun j hj => by simpa using hn j _ hj (List.getElem?_eq_getElem (by omega))⟩
  rw [placeOf,this]
theorem place_none {l : List Ce} {s : ByteArray} (hn : ∀ (j : Nat) (y : Ce),l[j]? = some y → y.name ≠ s) : placeOf l s = -1 := by
  have : l.findIdx? (fun d => decide (d.name = s)) = none := by
    rw [List.findIdx?_eq_none_iff]
    intro x hx
    obtain ⟨j,hj,rfl⟩ := List.getElem_of_mem hx
    simpa using hn j _ (List.getElem?_eq_getElem hj)
  rw [placeOf,this]
theorem place_own {l : List Ce} {k : Nat} {x : Ce} (hx : l[k]? = some x) : (placeOf l x.name != (k : Int)) = ((l.take k).any fun d => decide (d.name = x.name)) := by
  have hk : k < l.length := (List.getElem?_eq_some_iff.1 hx).1
  have hv : l[k] = x := (List.getElem?_eq_some_iff.1 hx).2
  cases hh : (l.take k).any fun d => decide (d.name = x.name) with
  | false =>
    rw [place_hit hx rfl fun j y hj hy e => ?_]
    · simp
    · rw [List.any_eq_false] at hh
      exact hh y (List.mem_of_getElem? (by rw [List.getElem?_take_of_lt hj];exact hy)) (by simpa using e)
  | true =>
    obtain ⟨y,hy,he⟩ := List.any_eq_true.1 hh
    obtain ⟨j,hj,rfl⟩ := List.getElem_of_mem hy
    have hjk : j < k := by rw [List.length_take] at hj;omega
    rw [List.getElem_take] at he
    cases hf : l.findIdx? (fun d => decide (d.name = x.name)) with
    | none =>
      rw [List.findIdx?_eq_none_iff] at hf
      have := hf l[j] (List.getElem_mem _)
      rw [this] at he;cases he
    | some i =>
      rw [List.findIdx?_eq_some_iff_getElem] at hf
      obtain ⟨hi,_,hlt⟩ := hf
      have hij : i ≤ j := by
        rcases Nat.lt_or_ge j i with h | h
        · have := hlt j h
          rw [he] at this;exact absurd rfl this
        · exact h
      have hf : l.findIdx? (fun d => decide (d.name = x.name)) = some i := by
        rw [List.findIdx?_eq_some_iff_getElem];exact ⟨hi,by assumption,hlt⟩
      rw [placeOf,hf]
      simp
      omega
theorem l4Cell_calls (l : List Ce) (s : Value) (t : ByteArray) (w : World) (hs : Ces w Any s l) : Calls Tryz.prog 75 #[s,.string t] w (Num (placeOf l t) w) := by
  have HS := hyd hs
  obtain ⟨ad,c,rfl,hc,hm,_⟩ := hs
  go_enter Tryz.func75,Tryz.ntmps75
  go_wp2
  go_loopg [5] (l.length + 1) (fun g i wr => ∃ k : Nat,k ≤ l.length ∧ i = .int .i64 k ∧ g = l.length + 1 - k ∧ (∀ (j : Nat) (y : Ce),j < k → l[j]? = some y → y.name ≠ t) ∧ Keep Any w wr)
  case atStart => exact ⟨0,by omega,rfl,rfl,fun j y hj => by omega,Keep.refl _ _⟩
  case round =>
    obtain ⟨k,hk,rfl,hg,hall,hK⟩ := hrel
    have HG := hyd hg
    have HA := hyd hall
    clear hg hall
    by_cases hlt : k < l.length
    · have hx : l[k]? = some l[k] := List.getElem?_eq_getElem hlt
      have HX := hyd hx
      obtain ⟨ad,sa,sc,rfl,hF,hvx,c0,c1,c2,c3,c4⟩ := ces_at HS.out hK hx
      generalize l[k] = x at *
      clear hx hvx
      by_cases he : x.name = t
      · have bq : (x.name.toList == t.toList) = true := by rw [bytes_eq];simpa using he
        have HE := hyd he
        clear he
        go_wp2
        go_ret
        exact ⟨ret_int (place_hit HX.out HE.out HA.out).symm,hK⟩
      · have bq : (x.name.toList == t.toList) = false := by rw [bytes_eq];simpa using he
        have HE := hyd he
        clear he
        go_wp2
        go_roundg (gk - 1)
        case rel => exact ⟨k + 1,by omega,by go_num,by have := HG.out;omega,fun j y hj hy => by rcases Nat.lt_succ_iff_lt_or_eq.1 hj with hj | rfl;exact HA.out j y hj hy;rw [HX.out] at hy;cases hy;exact HE.out,hK⟩
        case measure => have := HG.out;omega
    · go_wp2
      go_ret
      exact ⟨ret_int (place_none fun j y hy => HA.out j y (by have := (List.getElem?_eq_some_iff.1 hy).1;omega) hy).symm,hK⟩
theorem l4Cells_calls (l : List Ce) (s : Value) (w : World) (hs : Ces w Any s l) : Calls Tryz.prog 57 #[s] w (Tells (okCells l) w) := by
  have HS := hyd hs
  have IN := hyd l2Name_calls
  have IV := hyd specValueOk_calls
  have IP := hyd (fun t w' (h : Keep Any w w') => l4Cell_calls l s t w' (Ces.keep hs h))
  obtain ⟨ad,c,rfl,hc,hm,_⟩ := hs
  go_enter Tryz.func57,Tryz.ntmps57
  go_wp2
  go_loopg [3] (l.length + 1) (fun g i wr => ∃ k : Nat,k ≤ l.length ∧ i = .int .i64 k ∧ g = l.length + 1 - k ∧ (∀ j,j < k → cellGood l j = true) ∧ Keep Any w wr)
  case atStart => exact ⟨0,by omega,rfl,rfl,fun j hj => by omega,Keep.refl _ _⟩
  case round =>
    obtain ⟨k,hk,rfl,hg,hall,hK⟩ := hrel
    have HG := hyd hg
    have HA := hyd hall
    have HK := hyd hK
    clear hg hall
    by_cases hlt : k < l.length
    · have hx : l[k]? = some l[k] := List.getElem?_eq_getElem hlt
      have HX := hyd hx
      obtain ⟨ad,sa,sc,rfl,hF,hvx,c0,c1,c2,c3,c4⟩ := ces_at HS.out hK hx
      generalize l[k] = x at *
      have HV := hyd hvx
      have CG := hyd (cellGood_at hx)
      have PO := hyd (place_own hx)
      have AT := hyd (fun w' (h : Keep Any w w') => ces_at HS.out h hx)
      clear hx hvx hK
      rcases hq : nameOk x.name with _ | _
      · have HQ := hyd hq
        clear hq
        go_wp2_with (go_at_call 56;refine (IN.out _ _ hF).mono ?_;rintro e w2 ⟨rfl,hK1⟩;rw [HQ.out])
        go_ret
        exact ⟨ret_bool (by rw [okCells_bad hlt (by rw [CG.out,HQ.out];rfl)]),HK.out.trans hK1⟩
      · have HQ := hyd hq
        clear hq
        rcases hq2 : okV 3 x.val with _ | _
        · have HQ2 := hyd hq2
          clear hq2
          go_wp2_with (first | (go_at_call 56;refine (IN.out _ _ hF).mono ?_;rintro e w2 ⟨rfl,hK1⟩;rw [HQ.out];clear c0 c1 c2 c3 c4;have HK1 := hyd (HK.out.trans hK1);obtain ⟨ad1,sa1,sc1,e1,hF1,hvx1,c0,c1,c2,c3,c4⟩ := AT.out _ HK1.out;cases e1;have HV1 := hyd hvx1;clear hvx1 hK1) | (go_at_call 74;refine (IV.out _ _ _ HV1.out).mono ?_;rintro e w3 ⟨rfl,hK2⟩;rw [HQ2.out]))
          go_ret
          exact ⟨ret_bool (by rw [okCells_bad hlt (by rw [CG.out,HQ.out,HQ2.out];rfl)]),HK1.out.trans hK2⟩
        · have HQ2 := hyd hq2
          clear hq2
          rcases hq3 : (l.take k).any fun d => decide (d.name = x.name) with _ | _
          · have HQ3 := hyd hq3
            have bq : (placeOf l x.name != (k : Int)) = false := PO.out.trans hq3
            have GD := hyd (show cellGood l k = true by rw [CG.out,HQ.out,HQ2.out,hq3];rfl)
            clear hq3
            go_wp2_with (first | (go_at_call 56;refine (IN.out _ _ hF).mono ?_;rintro e w2 ⟨rfl,hK1⟩;rw [HQ.out];clear c0 c1 c2 c3 c4;have HK1 := hyd (HK.out.trans hK1);obtain ⟨ad1,sa1,sc1,e1,hF1,hvx1,c0,c1,c2,c3,c4⟩ := AT.out _ HK1.out;cases e1;have HV1 := hyd hvx1;clear hvx1 hK1) | (go_at_call 74;refine (IV.out _ _ _ HV1.out).mono ?_;rintro e w3 ⟨rfl,hK2⟩;rw [HQ2.out];clear c0 c1 c2 c3 c4;have HK2 := hyd (HK1.out.trans hK2);obtain ⟨ad2,sa2,sc2,e2,hF2,hvx2,c0,c1,c2,c3,c4⟩ := AT.out _ HK2.out;cases e2;clear hvx2 hK2) | (go_at_call 75;refine (IP.out _ _ HK2.out).mono ?_;rintro e w4 ⟨rfl,hK3⟩))
            go_roundg (gk - 1)
            case rel => exact ⟨k + 1,by omega,by go_num,by have := HG.out;omega,fun j hj => by rcases Nat.lt_succ_iff_lt_or_eq.1 hj with hj | rfl;exact HA.out j hj;exact GD.out,HK2.out.trans hK3⟩
            case measure => have := HG.out;omega
          · have HQ3 := hyd hq3
            have bq : (placeOf l x.name != (k : Int)) = true := PO.out.trans hq3
            clear hq3
            go_wp2_with (first | (go_at_call 56;refine (IN.out _ _ hF).mono ?_;rintro e w2 ⟨rfl,hK1⟩;rw [HQ.out];clear c0 c1 c2 c3 c4;have HK1 := hyd (HK.out.trans hK1);obtain ⟨ad1,sa1,sc1,e1,hF1,hvx1,c0,c1,c2,c3,c4⟩ := AT.out _ HK1.out;cases e1;have HV1 := hyd hvx1;clear hvx1 hK1) | (go_at_call 74;refine (IV.out _ _ _ HV1.out).mono ?_;rintro e w3 ⟨rfl,hK2⟩;rw [HQ2.out];clear c0 c1 c2 c3 c4;have HK2 := hyd (HK1.out.trans hK2);obtain ⟨ad2,sa2,sc2,e2,hF2,hvx2,c0,c1,c2,c3,c4⟩ := AT.out _ HK2.out;cases e2;clear hvx2 hK2) | (go_at_call 75;refine (IP.out _ _ HK2.out).mono ?_;rintro e w4 ⟨rfl,hK3⟩))
            go_ret
            exact ⟨ret_bool (by rw [okCells_bad hlt (by rw [CG.out,HQ.out,HQ2.out,HQ3.out];rfl)]),HK2.out.trans hK3⟩
    · obtain rfl : k = l.length := by omega
      have E1 := hyd (okCells_good HA.out)
      go_wp2
      go_ret
      exact ⟨ret_bool (by rw [E1.out]),HK.out⟩

/- strings.Cut at one byte: the text ahead of it and behind. For every text. -/
theorem slIndexByte_calls (s : ByteArray) (c : Int) (w : World) : Calls Tryz.prog 117 #[.string s,.int .u8 c] w fun e w' => e = .returned (.int .i64 (Lib.indexByte s.data.toList c.toNat.toUInt8)) ∧ w = w' :=
  (Any.stringslite_IndexByte { Tryz.lays137 with } s c w).mono fun e w' ⟨h1,h2⟩ => ⟨h1,h2.symm⟩
theorem slIndex1_calls (s : ByteArray) (c : UInt8) (w : World) : Calls Tryz.prog 93 #[.string s,.string ⟨#[c]⟩] w fun e w' => e = .returned (.int .i64 (Lib.indexByte s.data.toList c)) ∧ w = w' := by
  have IX := hyd slIndexByte_calls
  by_cases h : s = ⟨#[c]⟩
  · subst h
    have e : Lib.indexByte (⟨#[c]⟩ : ByteArray).data.toList c = 0 := by simp [Lib.indexByte]
    rw [e]
    go_enter Tryz.func93,Tryz.ntmps93
    go_wp2
    go_ret
    exact ⟨rfl,rfl⟩
  · have hd : ((⟨#[c]⟩ : ByteArray).toList == s.toList) = false := by
      rw [beq_eq_false_iff_ne,ByteArray.toList_eq,ByteArray.toList_eq]
      exact fun e => h (ByteArray.ext (Array.ext' e.symm))
    have hd2 : (([c] : List UInt8) == s.toList) = false := by
      have e : (⟨#[c]⟩ : ByteArray).toList = [c] := by rw [ByteArray.toList_eq]
      rw [← e];exact hd
    go_enter Tryz.func93,Tryz.ntmps93
    go_wp2_with (go_at_call 117;refine (IX.out _ _ _).mono ?_;rintro e w' ⟨rfl,rfl⟩)
    go_ret
    exact ⟨rfl,rfl⟩
theorem cutAt_len {c : UInt8} {l x y : List UInt8} (h : cutAt c l = some (x,y)) : x.length + 1 + y.length = l.length := by
  rw [(cutAt_some h).1,List.length_append,List.length_cons];omega
theorem ahead_eq {s : ByteArray} {c : UInt8} {x y : List UInt8} (h : cutAt c s.data.toList = some (x,y)) : s.extract 0 x.length = ⟨x.toArray⟩ := by
  apply ByteArray.ext;apply Array.ext'
  rw [Lib.extract_data,(cutAt_some h).1,List.drop_zero,Nat.sub_zero,List.take_left]
theorem behind_eq {s : ByteArray} {c : UInt8} {x y : List UInt8} (h : cutAt c s.data.toList = some (x,y)) : s.extract (x.length + 1) s.size = ⟨y.toArray⟩ := by
  apply ByteArray.ext;apply Array.ext'
  rw [rest_data,(cutAt_some h).1,← List.drop_drop,List.drop_left];rfl
theorem slCut_some {s : ByteArray} {c : UInt8} {x y : List UInt8} (hs : s.size ≤ 2305843009213693952) (h : cutAt c s.data.toList = some (x,y)) (w : World) :
    Calls Tryz.prog 70 #[.string s,.string ⟨#[c]⟩] w fun e w' => e = .returned (.tuple #[.string ⟨x.toArray⟩,.string ⟨y.toArray⟩,.bool true]) ∧ Keep Any w w' := by
  have hi : Lib.indexByte s.data.toList c = (x.length : Int) := by rw [indexByte_cut,h]
  have IX := hyd (fun w => by have := slIndex1_calls s c w;rw [hi] at this;exact this)
  have hn : x.length + 1 ≤ s.size := by have := cutAt_len h;rw [← Lib.size_eq] at this;omega
  have HA := hyd (ahead_eq h)
  have HB := hyd (behind_eq h)
  clear hi h
  go_enter Tryz.func70,Tryz.ntmps70
  go_wp2_with (go_at_call 93;refine (IX.out _).mono ?_;rintro e w' ⟨rfl,rfl⟩)
  go_quiet (fail)
  go_wp2
  go_ret3
  exact ⟨by rw [← HA.out,← HB.out];rfl,(Keep.refl _ _).drewN _⟩
theorem slCut_none {s : ByteArray} {c : UInt8} (hs : s.size ≤ 2305843009213693952) (h : cutAt c s.data.toList = none) (w : World) :
    Calls Tryz.prog 70 #[.string s,.string ⟨#[c]⟩] w fun e w' => e = .returned (.tuple #[.string s,.string ⟨#[]⟩,.bool false]) ∧ Keep Any w w' := by
  have hi : Lib.indexByte s.data.toList c = -1 := by rw [indexByte_cut,h]
  have IX := hyd (fun w => by have := slIndex1_calls s c w;rw [hi] at this;exact this)
  clear hi h
  go_enter Tryz.func70,Tryz.ntmps70
  go_wp2_with (go_at_call 93;refine (IX.out _).mono ?_;rintro e w' ⟨rfl,rfl⟩)
  go_ret3
  exact ⟨rfl,Keep.refl _ _⟩
theorem cut_some {s : ByteArray} {c : UInt8} {x y : List UInt8} (hs : s.size ≤ 2305843009213693952) (h : cutAt c s.data.toList = some (x,y)) (w : World) :
    Calls Tryz.prog 54 #[.string s,.string ⟨#[c]⟩] w fun e w' => e = .returned (.tuple #[.string ⟨x.toArray⟩,.string ⟨y.toArray⟩,.bool true]) ∧ Keep Any w w' := by
  have IX := hyd (slCut_some hs h)
  clear h
  go_enter Tryz.func54,Tryz.ntmps54
  go_wp2_with (go_at_call 70;refine (IX.out _).mono ?_;rintro e w' ⟨rfl,hK⟩)
  go_ret3
  exact ⟨rfl,hK⟩
theorem cut_none {s : ByteArray} {c : UInt8} (hs : s.size ≤ 2305843009213693952) (h : cutAt c s.data.toList = none) (w : World) :
    Calls Tryz.prog 54 #[.string s,.string ⟨#[c]⟩] w fun e w' => e = .returned (.tuple #[.string s,.string ⟨#[]⟩,.bool false]) ∧ Keep Any w w' := by
  have IX := hyd (slCut_none hs h)
  clear h
  go_enter Tryz.func54,Tryz.ntmps54
  go_wp2_with (go_at_call 70;refine (IX.out _).mono ?_;rintro e w' ⟨rfl,hK⟩)
  go_ret3
  exact ⟨rfl,hK⟩

/- The program's ValueGet: the value whose text it is. For every text of at most 2^61 bytes. -/
set_option maxRecDepth 20000
set_option maxHeartbeats 2000000
theorem valGet_none1 {l : List UInt8} (h : rdV 3 l = none) : valGet l = none := by unfold valGet;rw [h]
theorem valGet_none2 {l r : List UInt8} {v : V} (h : rdV 3 l = some (v,r)) (hr : r ≠ []) : valGet l = none := by
  unfold valGet;rw [h]
  cases r with
  | nil => exact absurd rfl hr
  | cons b r => rfl
theorem valGet_some1 {l : List UInt8} {v : V} (h : rdV 3 l = some (v,[])) : valGet l = if okV 3 v = true ∧ v.put = l then some v else none := by unfold valGet;rw [h]
theorem put_str (v : V) (t : ByteArray) : v.put = t.data.toList ↔ (⟨v.put.toArray⟩ : ByteArray) = t := by
  constructor
  · intro h;rw [h,bytes_eta]
  · rintro rfl;simp
theorem valueGet_calls (t : ByteArray) (w : World) (ht : t.size ≤ 2305843009213693952) (hT : Tab w) : Calls Tryz.prog 55 #[.string t] w (GotVG (valGet t.data.toList) w) := by
  have HT := hyd hT
  clear hT
  obtain ⟨o,ho⟩ : ∃ o,o = valGet t.data.toList := ⟨_,rfl⟩
  rw [← ho]
  rcases hr : rdV 3 t.data.toList with _ | ⟨v1,r1⟩
  · rw [valGet_none1 hr] at ho
    have HO := hyd ho
    have RN := hyd (valueAt3.none' (t := t) (b := 0) (by omega) ht (by rw [List.drop_zero];exact hr))
    clear ho hr
    have q1 : ((-1 : Int) != (t.size : Int)) = true := by rw [bne_iff_ne];omega
    go_enter Tryz.func55,Tryz.ntmps55
    go_wp2_with (go_at_call 71;refine (RN.out _).mono ?_;rintro e w2 ⟨v,a2,c2,rfl,hK⟩;obtain ⟨hc,hf⟩ := hK.cells;have z0 : w.heap.size < w2.heap.size := (by have := hK.size;simp at this;omega))
    refine bodyPost_ret (v := .tuple #[.agg #[.int .i64 0,.int .i64 0,.string ⟨#[]⟩,.slice none 0 0],.bool false]) (by simp [results,Tryz.results55,go_sem,hc,hf,z0]) rfl ?_
    exact ⟨(by have hK1 := keep_a hK;repeat (first | (with_reducible exact hK1) | (refine Keep.set ?_ _ _ (fun h _ => Nat.lt_irrefl _ h)) | (refine Keep.alloc ?_ _))),.inl ⟨HO.out,rfl⟩⟩
  · by_cases hne : r1 = []
    · subst hne
      rw [valGet_some1 hr] at ho
      have RS := hyd (valueAt3.some' (t := t) (b := 0) (by omega) ht (by rw [List.drop_zero];exact hr))
      have VO := hyd (valueOk_calls v1)
      have PO := hyd (putOf_calls v1)
      clear hr
      rcases hok : okV 3 v1 with _ | _
      · rw [hok,if_neg (by simp)] at ho
        have HO := hyd ho
        have HOK := hyd hok
        clear ho hok
        go_enter Tryz.func55,Tryz.ntmps55
        go_wp2_with (first | (go_at_call 71;refine (RS.out _).mono ?_;rintro e w2 ⟨a2,c2,k,rfl,hK,hS2,hk,hkr⟩;have HS2 := hyd hS2;have HK2 := hyd (keep_a hK);have HZ := hyd (blk_keep hK (blk_new _ _) trivial);obtain ⟨hc,hf⟩ := hK.cells;have z0 : w.heap.size < w2.heap.size := (by have := hK.size;simp at this;omega);clear hS2;obtain rfl : k = t.size := (by have := drop_len t k;rw [hkr] at this;simp only [List.length_nil] at this;omega);clear hkr) | (go_at_call 67;refine (VO.out _ _ (HS2.out.vr.any.keep ((Keep.refl _ _).alloc _))).mono ?_;rintro e w4 ⟨rfl,hK4⟩;rw [HOK.out];have HK4 := hyd ((HK2.out.alloc _).trans hK4);have HA4 := hyd (((Keep.refl Any w2).alloc _).trans hK4);have HB4 := hyd (blk_keep hK4 (blk_new _ _) trivial);obtain ⟨x0,x1,x2,x3⟩ := at4 HB4.out;have HZ4 := hyd (blk_keep hK4 (blk_alloc HZ.out _) trivial);clear hc hf z0;obtain ⟨hc0,hc1,hc2,hc3⟩ := at4 HZ4.out;obtain ⟨hf0,hf1,hf2,hf3⟩ := fr4c HZ4.out;have z4 : w.heap.size < w4.heap.size := blk_lt HZ4.out;have z5 : w2.heap.size < w4.heap.size := blk_lt HB4.out))
        refine bodyPost_ret (v := .tuple #[.agg #[.int .i64 0,.int .i64 0,.string ⟨#[]⟩,.slice none 0 0],.bool false]) (by simp [results,Tryz.results55,go_sem,hc0,hc1,hc2,hc3,hf0,hf1,hf2,hf3,z4]) rfl ?_
        exact ⟨(by have hK1 := HK4.out;repeat (first | (with_reducible exact hK1) | (refine Keep.set ?_ _ _ (fun h _ => Nat.lt_irrefl _ h)) | (refine Keep.alloc ?_ _))),.inl ⟨HO.out,rfl⟩⟩
      · obtain ⟨p,hp⟩ : ∃ p,(⟨v1.put.toArray⟩ : ByteArray) = p := ⟨_,rfl⟩
        have HP := hyd (show Ending.returned (.string ⟨v1.put.toArray⟩) = .returned (.string p) by rw [hp])
        by_cases hpt : p = t
        · rw [hok,if_pos ⟨rfl,(put_str v1 t).2 (hp.trans hpt)⟩] at ho
          subst hpt
          have HO := hyd ho
          have HOK := hyd hok
          have b1 : (p.toList != p.toList) = false := by simp
          clear ho hok hp
          go_enter Tryz.func55,Tryz.ntmps55
          go_wp2_with (first | (go_at_call 71;refine (RS.out _).mono ?_;rintro e w2 ⟨a2,c2,k,rfl,hK,hS2,hk,hkr⟩;have HS2 := hyd hS2;have HK2 := hyd (keep_a hK);have HZ := hyd (blk_keep hK (blk_new _ _) trivial);obtain ⟨hc,hf⟩ := hK.cells;have z0 : w.heap.size < w2.heap.size := (by have := hK.size;simp at this;omega);clear hS2;obtain rfl : k = p.size := (by have := drop_len p k;rw [hkr] at this;simp only [List.length_nil] at this;omega);clear hkr) | (go_at_call 67;refine (VO.out _ _ (HS2.out.vr.any.keep ((Keep.refl _ _).alloc _))).mono ?_;rintro e w4 ⟨rfl,hK4⟩;rw [HOK.out];have HK4 := hyd ((HK2.out.alloc _).trans hK4);have HA4 := hyd (((Keep.refl Any w2).alloc _).trans hK4);have HB4 := hyd (blk_keep hK4 (blk_new _ _) trivial);obtain ⟨x0,x1,x2,x3⟩ := at4 HB4.out;have HZ4 := hyd (blk_keep hK4 (blk_alloc HZ.out _) trivial);clear hc hf z0;obtain ⟨hc0,hc1,hc2,hc3⟩ := at4 HZ4.out;obtain ⟨hf0,hf1,hf2,hf3⟩ := fr4c HZ4.out;have z4 : w.heap.size < w4.heap.size := blk_lt HZ4.out;have z5 : w2.heap.size < w4.heap.size := blk_lt HB4.out) | (go_at_call 32;refine (PO.out _ _ (HS2.out.vr.any.keep HA4.out) HOK.out (HT.out.keep HK4.out trivial)).mono ?_;rintro e w5 ⟨rfl,hK5⟩;rw [HP.out];have HK5 := hyd (HK4.out.trans hK5);have HA5 := hyd (HA4.out.trans hK5);have HB5 := hyd (blk_keep hK5 HB4.out trivial);obtain ⟨y0,y1,y2,y3⟩ := at4 HB5.out;have HZ5 := hyd (blk_keep hK5 HZ4.out trivial);clear hc0 hc1 hc2 hc3 hf0 hf1 hf2 hf3 x0 x1 x2 x3 z4 z5;obtain ⟨hc0,hc1,hc2,hc3⟩ := at4 HZ5.out;obtain ⟨hf0,hf1,hf2,hf3⟩ := fr4c HZ5.out;have z6 : w.heap.size < w5.heap.size := blk_lt HZ5.out;have z7 : w2.heap.size < w5.heap.size := blk_lt HB5.out))
          refine bodyPost_ret (v := .tuple #[.agg #[.int .i64 v1.kind,.int .i64 v1.num,.string v1.text,.slice a2 v1.list.length c2],.bool true]) (by simp [results,Tryz.results55,go_sem,hc0,hc1,hc2,hc3,hf0,hf1,hf2,hf3,z6]) rfl ?_
          refine ⟨(by have hK1 := HK5.out;repeat (first | (with_reducible exact hK1) | (refine Keep.set ?_ _ _ (fun h _ => Nat.lt_irrefl _ h)))),.inr ⟨v1,a2,c2,HO.out,rfl,?_⟩⟩
          refine SV.mono (SV.keep (HS2.out.keep HA5.out.any) (w' := _) ?_) fun j hj => ⟨by have h1 := hj.1;rw [World.size_alloc] at h1;omega,by have h2 := hj.2;have := HA5.out.size;simp;omega⟩
          repeat (first | (with_reducible exact Keep.refl _ _) | (refine Keep.set ?_ _ _ (fun _ h => by have h1 := h.1;rw [World.size_alloc] at h1;exact Nat.not_succ_le_self _ h1)))
        · rw [hok,if_neg (fun h => hpt (hp.symm.trans ((put_str v1 t).1 h.2)))] at ho
          have HO := hyd ho
          have HOK := hyd hok
          have b1 : (p.toList != t.toList) = true := by rw [bne_iff_ne,ByteArray.toList_eq,ByteArray.toList_eq];exact fun e => hpt (ByteArray.ext (Array.ext' e))
          have b2 : (p.toList == t.toList) = false := by rw [bne] at b1;simpa using b1
          have b3 : ¬ p.toList = t.toList := by simpa using b2
          clear ho hok hp
          go_enter Tryz.func55,Tryz.ntmps55
          go_wp2_with (first | (go_at_call 71;refine (RS.out _).mono ?_;rintro e w2 ⟨a2,c2,k,rfl,hK,hS2,hk,hkr⟩;have HS2 := hyd hS2;have HK2 := hyd (keep_a hK);have HZ := hyd (blk_keep hK (blk_new _ _) trivial);obtain ⟨hc,hf⟩ := hK.cells;have z0 : w.heap.size < w2.heap.size := (by have := hK.size;simp at this;omega);clear hS2;obtain rfl : k = t.size := (by have := drop_len t k;rw [hkr] at this;simp only [List.length_nil] at this;omega);clear hkr) | (go_at_call 67;refine (VO.out _ _ (HS2.out.vr.any.keep ((Keep.refl _ _).alloc _))).mono ?_;rintro e w4 ⟨rfl,hK4⟩;rw [HOK.out];have HK4 := hyd ((HK2.out.alloc _).trans hK4);have HA4 := hyd (((Keep.refl Any w2).alloc _).trans hK4);have HB4 := hyd (blk_keep hK4 (blk_new _ _) trivial);obtain ⟨x0,x1,x2,x3⟩ := at4 HB4.out;have HZ4 := hyd (blk_keep hK4 (blk_alloc HZ.out _) trivial);clear hc hf z0;obtain ⟨hc0,hc1,hc2,hc3⟩ := at4 HZ4.out;obtain ⟨hf0,hf1,hf2,hf3⟩ := fr4c HZ4.out;have z4 : w.heap.size < w4.heap.size := blk_lt HZ4.out;have z5 : w2.heap.size < w4.heap.size := blk_lt HB4.out) | (go_at_call 32;refine (PO.out _ _ (HS2.out.vr.any.keep HA4.out) HOK.out (HT.out.keep HK4.out trivial)).mono ?_;rintro e w5 ⟨rfl,hK5⟩;rw [HP.out];have HK5 := hyd (HK4.out.trans hK5);have HA5 := hyd (HA4.out.trans hK5);have HB5 := hyd (blk_keep hK5 HB4.out trivial);obtain ⟨y0,y1,y2,y3⟩ := at4 HB5.out;have HZ5 := hyd (blk_keep hK5 HZ4.out trivial);clear hc0 hc1 hc2 hc3 hf0 hf1 hf2 hf3 x0 x1 x2 x3 z4 z5;obtain ⟨hc0,hc1,hc2,hc3⟩ := at4 HZ5.out;obtain ⟨hf0,hf1,hf2,hf3⟩ := fr4c HZ5.out;have z6 : w.heap.size < w5.heap.size := blk_lt HZ5.out;have z7 : w2.heap.size < w5.heap.size := blk_lt HB5.out))
          refine bodyPost_ret (v := .tuple #[.agg #[.int .i64 0,.int .i64 0,.string ⟨#[]⟩,.slice none 0 0],.bool false]) (by simp [results,Tryz.results55,go_sem,hc0,hc1,hc2,hc3,hf0,hf1,hf2,hf3,z6]) rfl ?_
          exact ⟨(by have hK1 := HK5.out;repeat (first | (with_reducible exact hK1) | (refine Keep.set ?_ _ _ (fun h _ => Nat.lt_irrefl _ h)) | (refine Keep.alloc ?_ _))),.inl ⟨HO.out,rfl⟩⟩
    · rw [valGet_none2 hr hne] at ho
      have HO := hyd ho
      have RS := hyd (valueAt3.some' (t := t) (b := 0) (by omega) ht (by rw [List.drop_zero];exact hr))
      clear ho hr
      go_enter Tryz.func55,Tryz.ntmps55
      go_wp2_with ((go_at_call 71;refine (RS.out _).mono ?_;rintro e w2 ⟨a2,c2,k,rfl,hK,hS2,hk,hkr⟩;have HS2 := hyd hS2;have HK2 := hyd (keep_a hK);have HZ := hyd (blk_keep hK (blk_new _ _) trivial);obtain ⟨hc,hf⟩ := hK.cells;have z0 : w.heap.size < w2.heap.size := (by have := hK.size;simp at this;omega);clear hS2;have q1 : ((k : Int) != (t.size : Int)) = true := (by rw [bne_iff_ne];intro h;exact hne (List.eq_nil_of_length_eq_zero (by rw [← hkr,drop_len];omega)));clear hkr))
      refine bodyPost_ret (v := .tuple #[.agg #[.int .i64 0,.int .i64 0,.string ⟨#[]⟩,.slice none 0 0],.bool false]) (by simp [results,Tryz.results55,go_sem,hc,hf,z0]) rfl ?_
      exact ⟨(by have hK1 := keep_a hK;repeat (first | (with_reducible exact hK1) | (refine Keep.set ?_ _ _ (fun h _ => Nat.lt_irrefl _ h)) | (refine Keep.alloc ?_ _))),.inl ⟨HO.out,rfl⟩⟩

/- The program's givenGet: the cells that a text tells,each behind a newline. For every text of at most 2^60 bytes. -/
set_option maxRecDepth 20000
set_option maxHeartbeats 4000000
theorem cut_line {s : ByteArray} (hs : s.size ≤ 2305843009213693952) (w : World) :
    Calls Tryz.prog 54 #[.string s,.string ⟨#[10]⟩] w fun e w' => (∃ (y : ByteArray) (b : Bool),e = .returned (.tuple #[.string ⟨(lineOf s.data.toList).toArray⟩,.string y,.bool b])) ∧ Keep Any w w' := by
  have hl := lineOf_cut s.data.toList
  rcases h : cutAt 10 s.data.toList with _ | ⟨x,y⟩
  · rw [h] at hl
    refine (cut_none hs h w).mono fun e w' ⟨he,hw⟩ => ⟨⟨⟨#[]⟩,false,?_⟩,hw⟩
    rw [he,hl,bytes_eta]
  · rw [h] at hl
    refine (cut_some hs h w).mono fun e w' ⟨he,hw⟩ => ⟨⟨⟨y.toArray⟩,true,?_⟩,hw⟩
    rw [he,hl]
theorem valueGet_none {t : ByteArray} (ht : t.size ≤ 2305843009213693952) (h : valGet t.data.toList = none) (w : World) (hT : Tab w) : Calls Tryz.prog 55 #[.string t] w fun e w' =>
    e = .returned (.tuple #[.agg #[.int .i64 0,.int .i64 0,.string ⟨#[]⟩,.slice none 0 0],.bool false]) ∧ Keep Any w w' := (valueGet_calls t w ht hT).mono fun e w' ⟨hK,hz⟩ => by
  rcases hz with ⟨_,he⟩ | ⟨v,a,c,hn,_⟩
  · exact ⟨he,hK⟩
  · rw [h] at hn;cases hn
theorem valueGet_some {t : ByteArray} (ht : t.size ≤ 2305843009213693952) {v : V} (h : valGet t.data.toList = some v) (w : World) (hT : Tab w) : Calls Tryz.prog 55 #[.string t] w fun e w' =>
    ∃ (a : Option Addr) (c : Nat),e = .returned (.tuple #[.agg #[.int .i64 v.kind,.int .i64 v.num,.string v.text,.slice a v.list.length c],.bool true]) ∧ Keep Any w w' ∧ SV w' (Mid w.heap.size w'.heap.size) v [.int .i64 v.kind,.int .i64 v.num,.string v.text,.slice a v.list.length c] := (valueGet_calls t w ht hT).mono fun e w' ⟨hK,hz⟩ => by
  rcases hz with ⟨hn,_⟩ | ⟨v',a,c,hn,he,hS⟩
  · rw [h] at hn;cases hn
  · rw [h] at hn;cases hn;exact ⟨a,c,he,hK,hS⟩
theorem infoCell : (Tryz.prog.info? 64).map (fun i => (i.zero,i.size,i.bytes)) = some (some (.agg #[.string ⟨#[]⟩,.int .i64 0,.int .i64 0,.string ⟨#[]⟩,.slice none 0 0]),5,72) := by kernel_rfl
def GotGiven (o : Option (List Ce)) (w : World) (e : Ending) (w' : World) : Prop :=
  Keep Any w w' ∧ ((o = none ∧ e = .returned (.tuple #[.slice none 0 0,.bool false])) ∨
    ∃ (l : List Ce) (a : Option Addr) (c : Nat),o = some l ∧ e = .returned (.tuple #[.slice a l.length c,.bool true]) ∧ SCes w' (Mid w.heap.size w'.heap.size) (.slice a l.length c) l)
theorem gvs_end (f : Nat) : gvs f [] = some [] := by unfold gvs;simp
theorem gvs_full {l : List UInt8} (h : l ≠ []) : gvs 0 l = none := by unfold gvs;simp [h]
theorem gvs_head {f : Nat} {l : List UInt8} (h : l ≠ []) (h1 : ¬ l.headD 0 = 10) : gvs f l = none := by
  unfold gvs
  rw [if_neg h]
  cases f with
  | zero => rfl
  | succ f => exact if_neg h1
theorem gvs_cut {f : Nat} {l : List UInt8} (h : l ≠ []) (h1 : cutAt 61 (lineOf (l.drop 1)) = none) : gvs f l = none := by
  unfold gvs
  rw [if_neg h]
  cases f with
  | zero => rfl
  | succ f =>
    by_cases h0 : l.headD 0 = 10
    · simp only [h0,if_true,h1]
    · exact if_neg h0
theorem gvs_val {f : Nat} {l nm x : List UInt8} (h : l ≠ []) (h1 : cutAt 61 (lineOf (l.drop 1)) = some (nm,x)) (h2 : valGet x = none) : gvs f l = none := by
  unfold gvs
  rw [if_neg h]
  cases f with
  | zero => rfl
  | succ f =>
    by_cases h0 : l.headD 0 = 10
    · simp only [h0,if_true,h1,h2]
    · exact if_neg h0
theorem gvs_more {f : Nat} {l nm x : List UInt8} {v : V} (h : l ≠ []) (h0 : l.headD 0 = 10) (h1 : cutAt 61 (lineOf (l.drop 1)) = some (nm,x)) (h2 : valGet x = some v) :
    gvs (f + 1) l = (gvs f (l.drop (1 + (lineOf (l.drop 1)).length))).map fun g => ⟨⟨nm.toArray⟩,v⟩ :: g := by
  conv => lhs;unfold gvs
  rw [if_neg h]
  simp only [h0,if_true,h1,h2]
theorem valGet_nil : valGet [] = none := by unfold valGet;simp [rdV]
theorem givenGet_calls (t : ByteArray) (w : World) (ht : t.size ≤ 1152921504606846976) (hT : Tab w) : Calls Tryz.prog 36 #[.string t] w (GotGiven (gvs 5 t.data.toList) w) := by
  have HT := hyd hT
  clear hT
  obtain ⟨o,ho⟩ : ∃ o,o = gvs 5 t.data.toList := ⟨_,rfl⟩
  rw [← ho]
  have HO := hyd ho
  clear ho
  obtain ⟨i0,hi,hzz⟩ := Option.map_eq_some_iff.1 infoCell
  simp only [Prod.mk.injEq] at hzz
  obtain ⟨hz0,hz1,hz2⟩ := hzz
  go_enter Tryz.func36,Tryz.ntmps36
  go_wp2
  go_loopg [0,4] 6 (fun g x v wr => ∃ (s : ByteArray) (acc : List Ce) (css : List (List Value)) (top : Nat),x = .string s ∧ s.size ≤ t.size ∧ acc.length ≤ 5 ∧ g = 6 - acc.length ∧ SRow 5 SCe wr w.heap.size top 64 v acc css ∧ Keep Any w wr ∧ o = (gvs (5 - acc.length) s.data.toList).map (fun p => acc ++ p))
  case atStart => exact ⟨t,[],[],w.heap.size,rfl,Nat.le_refl _,by simp,rfl,SRow.nil _ _ _ _ (Nat.le_refl _) (Nat.le_refl _),Keep.refl _ _,by rw [HO.out];simp⟩
  case round =>
    obtain ⟨s,acc,css,top,rfl,hs,hl,hg,hS,hK,hr⟩ := hrel
    have HG := hyd hg
    have HR := hyd hr
    have HK := hyd hK
    obtain ⟨av,cv,rfl,hnil⟩ := hS.form
    have HS := hyd hS
    clear hg hr hS hnil hK
    by_cases h0 : s.size = 0
    · have hd : s.toList.isEmpty = true := by have := empty_true s h0;simpa using this
      have e0 : s.data.toList = [] := List.eq_nil_of_length_eq_zero (by rw [← Lib.size_eq];exact h0)
      have E0 := hyd e0
      clear e0 h0
      go_wp2
      go_ret2
      exact ⟨HK.out,.inr ⟨acc,av,cv,by rw [HR.out,E0.out,gvs_end];simp,rfl,HS.out.slice fun i h1 h2 => ⟨h1,h2⟩⟩⟩
    have hd : s.toList.isEmpty = false := by have := empty_false s h0;simpa using this
    have q1 : 0 < s.size := by omega
    have e1 := at_eq s 0 q1
    have E0 := hyd (show s.data.toList ≠ [] from fun h => h0 (by rw [Lib.size_eq,h];rfl))
    clear h0
    by_cases h5 : acc.length = 5
    · have q5 : ((acc.length : Int) == 5) = true := by rw [beq_iff_eq];omega
      have H5 := hyd h5
      clear h5
      go_wp2
      go_ret2
      exact ⟨HK.out,.inl ⟨by rw [HR.out,H5.out,Nat.sub_self,gvs_full E0.out];rfl,rfl⟩⟩
    have q5 : ((acc.length : Int) == 5) = false := by rw [beq_eq_false_iff_ne];omega
    by_cases h10 : s.data.toList.headD 0 = 10
    · have b10 : (((at_ s 0 : Nat) : Int) != 10) = false := by have := head_yes q1 (n := 10) rfl h10;rw [bne,this];rfl
      have H10 := hyd h10
      clear h10
      obtain ⟨lb,hlb⟩ : ∃ lb : ByteArray,(⟨(lineOf (s.data.toList.drop 1)).toArray⟩ : ByteArray) = lb := ⟨_,rfl⟩
      have hld : lb.data.toList = lineOf (s.data.toList.drop 1) := by rw [← hlb]
      have hls : 1 + lb.size ≤ s.size := by have := lineOf_le (s.data.toList.drop 1);rw [← hld,← Lib.size_eq,List.length_drop,← Lib.size_eq] at this;omega
      have LD := hyd hld
      have CL := hyd (fun w => by have := cut_line (s := s.extract 1 s.size) (by rw [ByteArray.size_extract];omega) w;rw [tail_data,hlb] at this;exact this)
      clear hld hlb
      rcases hc : cutAt 61 lb.data.toList with _ | ⟨nm,x⟩
      · have CN := hyd (cut_none (s := lb) (by omega) hc)
        have HC := hyd hc
        have VN := hyd (valueGet_none (t := ⟨#[]⟩) (by decide) valGet_nil)
        clear hc
        go_wp2_with (first | (go_at_call 54;first | ((with_reducible refine (CL.out _).mono ?_);rintro e wA ⟨⟨y,b,rfl⟩,hKA⟩;have HKA := hyd hKA;clear hKA) | ((with_reducible refine (CN.out _).mono ?_);rintro e wB ⟨rfl,hKB⟩;have HKB := hyd (HKA.out.trans hKB);clear hKB)) | (go_at_call 55;refine (VN.out _ (HT.out.keep (HK.out.trans HKB.out) trivial)).mono ?_;rintro e w2 ⟨rfl,hK2⟩))
        go_ret2
        exact ⟨(HK.out.trans (HKB.out.trans hK2)).alloc _,.inl ⟨by rw [HR.out,gvs_cut E0.out (by rw [← LD.out];exact HC.out)];rfl,rfl⟩⟩
      · obtain ⟨xb,hxb⟩ : ∃ xb : ByteArray,(⟨x.toArray⟩ : ByteArray) = xb := ⟨_,rfl⟩
        obtain ⟨nb,hnb⟩ : ∃ nb : ByteArray,(⟨nm.toArray⟩ : ByteArray) = nb := ⟨_,rfl⟩
        have hxd : xb.data.toList = x := by rw [← hxb]
        have hcl := cutAt_len hc
        have hxs : xb.size ≤ lb.size := by rw [Lib.size_eq xb,hxd,Lib.size_eq];omega
        have hns : nb.size ≤ lb.size := by rw [← hnb,Lib.size_eq lb,← hcl,Lib.size_eq];simp;omega
        have HC := hyd hc
        have HNB := hyd hnb
        have CN := hyd (fun w => by have := cut_some (s := lb) (by omega) hc w;rw [hxb,hnb] at this;exact this)
        clear hc hcl hxb hnb
        rcases hv : valGet xb.data.toList with _ | v1
        · have VN := hyd (valueGet_none (t := xb) (by omega) hv)
          have HV := hyd (show valGet x = none by rw [← hxd];exact hv)
          clear hv hxd
          go_wp2_with (first | (go_at_call 54;first | ((with_reducible refine (CL.out _).mono ?_);rintro e wA ⟨⟨y,b,rfl⟩,hKA⟩;have HKA := hyd hKA;clear hKA) | ((with_reducible refine (CN.out _).mono ?_);rintro e wB ⟨rfl,hKB⟩;have HKB := hyd (HKA.out.trans hKB);clear hKB)) | (go_at_call 55;refine (VN.out _ (HT.out.keep (HK.out.trans HKB.out) trivial)).mono ?_;rintro e w2 ⟨rfl,hK2⟩))
          go_ret2
          exact ⟨(HK.out.trans (HKB.out.trans hK2)).alloc _,.inl ⟨by rw [HR.out,gvs_val E0.out (by rw [← LD.out];exact HC.out) HV.out];rfl,rfl⟩⟩
        · have VN := hyd (valueGet_some (t := xb) (by omega) hv)
          have HV := hyd (show valGet x = some v1 by rw [← hxd];exact hv)
          clear hv hxd
          go_wp2_with (first | (go_at_call 54;first | ((with_reducible refine (CL.out _).mono ?_);rintro e wA ⟨⟨y,b,rfl⟩,hKA⟩;have HKA := hyd hKA;clear hKA) | ((with_reducible refine (CN.out _).mono ?_);rintro e wB ⟨rfl,hKB⟩;have HKB := hyd (HKA.out.trans hKB);clear hKB)) | (go_at_call 55;refine (VN.out _ (HT.out.keep (HK.out.trans HKB.out) trivial)).mono ?_;rintro e w2 ⟨a2,c2,rfl,hK2,hS2⟩;have HS2 := hyd hS2;have HK2 := hyd (HKB.out.trans hK2);clear hS2 hK2) | (at_builtin;refine wpList_append_sep _ rfl _ _ 28 rfl w.heap.size 64 i0 _ 5 72 Tryz.underlying28 hi hz0 hz1 hz2 rfl (by decide) (.slice av acc.length cv) acc.length css.flatten rfl (rowC_keep HS.out ((HK2.out.alloc _).alloc _)).own ⟨w2.heap.size + 1,0,none⟩ 1 1 [.string nb,.int .i64 v1.kind,.int .i64 v1.num,.string v1.text,.slice a2 v1.list.length c2] rfl rfl (new_cells _ _ _ (by simp)) (by simp [Value.oneCell']) (by unfold maxLen;omega) (by omega) (by have := HK.out.size;have := HK2.out.size;simp;omega) (by omega) ?_;intro v' w5 hown' hgrow hblk;have HS5 := hyd (rowC_snoc (x := ⟨nb,v1⟩) (rowC_keep HS.out ((HK2.out.alloc _).alloc _)) hown' hgrow hblk ⟨_,rfl,(show Fits nb by unfold Fits;omega),HS2.out.keep (((Keep.refl _ _).alloc _).alloc _)⟩ (fun i hi => ⟨Nat.le_trans (Nat.le_trans HS.out.top_le HKB.out.size) hi.1,by have := hi.2;simp;omega⟩));have HK5 := hyd ((((HK.out.trans HK2.out).alloc _).alloc _).grown hgrow (fun i hi hlt => by have := (HS.out.own.lt i hi).1;omega));clear hown' hgrow hblk))
          go_roundg (gk - 1)
          case rel => exact ⟨s.extract (1 + lb.size) s.size,acc ++ [⟨nb,v1⟩],_,w5.heap.size,rfl,by rw [ByteArray.size_extract];omega,by rw [List.length_append,List.length_singleton];omega,by have := HG.out;rw [List.length_append,List.length_singleton];omega,HS5.out,HK5.out,by
            rw [HR.out,show 5 - acc.length = (5 - (acc ++ [(⟨nb,v1⟩ : Ce)]).length) + 1 by rw [List.length_append,List.length_singleton];omega,gvs_more E0.out H10.out (by rw [← LD.out];exact HC.out) HV.out,Option.map_map,rest_data,← LD.out,← Lib.size_eq,HNB.out]
            congr 1
            funext p
            simp⟩
          case measure => have := HG.out;omega
    · have b10 : (((at_ s 0 : Nat) : Int) != 10) = true := by have := head_not q1 (n := 10) rfl h10;rw [bne,this];rfl
      have H10 := hyd h10
      clear h10
      go_wp2
      go_ret2
      exact ⟨HK.out,.inl ⟨by rw [HR.out,gvs_head E0.out H10.out];rfl,rfl⟩⟩
end Go.Proofs.YtjopkcjpedgoaaaGreatDoor

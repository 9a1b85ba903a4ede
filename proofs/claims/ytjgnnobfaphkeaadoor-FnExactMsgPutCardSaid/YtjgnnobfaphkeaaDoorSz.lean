/- How much texts and values weigh: the laws' own measures. Where one answers a number that is not below 0, all is at most what was left. -/
import Derived.Test.YtjgnnobfaphkeaaDoorBase
import Derived.Test.YtjgnnobfaphkeaaDoorKind
namespace Go.Proofs.YtjgnnobfaphkeaaDoor
open Go.RowKit
set_option linter.unusedVariables false
set_option linter.unusedSimpArgs false

def wStrs (l : List ByteArray) : Nat := (l.map (·.size)).sum + l.length
mutual
def V.sz : V → Nat
  | ⟨_, _, t, l⟩ => V.szs l + l.length + t.size
def V.szs : List V → Nat
  | [] => 0
  | x :: l => V.sz x + V.szs l
end
theorem V.sz_eq (v : V) : v.sz = V.szs v.list + v.list.length + v.text.size := by cases v; rw [V.sz]
/-- What is left behind n: the number, or -1 where it does not reach. -/
def left (a : Int) (n : Nat) : Int := if (n : Int) ≤ a then a - n else -1
def Left (a : Int) (n : Nat) (w : World) (e : Ending) (w' : World) : Prop := e = .returned (.int .i64 (left a n)) ∧ Keep Any w w'
theorem left_no {a : Int} {n : Nat} (h : a < n) : left a n = -1 := by unfold left; rw [if_neg (by omega)]
theorem left_yes {a : Int} {n : Nat} (h : (n : Int) ≤ a) : left a n = a - n := by unfold left; rw [if_pos h]
theorem left_bd {a : Int} {n : Nat} (h : a ≤ 1048576) : -1 ≤ left a n ∧ left a n ≤ 1048576 := by unfold left; split <;> omega
theorem sums_drop {α : Type} (f : α → Nat) (l : List α) (k : Nat) (x : α) (h : l[k]? = some x) : ((l.take (k + 1)).map f).sum = ((l.take k).map f).sum + f x ∧ ((l.take k).map f).sum + f x ≤ (l.map f).sum := by
  obtain ⟨hk, rfl⟩ := List.getElem?_eq_some_iff.1 h
  have e : l.take (k + 1) = l.take k ++ [l[k]] := by rw [List.take_succ_eq_append_getElem hk]
  have e1 : ((l.take (k + 1)).map f).sum = ((l.take k).map f).sum + f l[k] := by rw [e, List.map_append, List.sum_append]; simp
  refine ⟨e1, ?_⟩
  have h2 : (l.map f).sum = ((l.take (k + 1)).map f).sum + ((l.drop (k + 1)).map f).sum := by
    rw [← List.sum_append, ← List.map_append, List.take_append_drop]
  rw [h2, e1]; omega
theorem V.szs_sum (l : List V) : V.szs l = (l.map V.sz).sum := by
  induction l with
  | nil => rw [V.szs]; rfl
  | cons x l ih => rw [V.szs, ih]; simp

theorem szStrs_calls (l : List ByteArray) (s : Value) (a : Int) (w : World) (hs : Strs w Any s l) (h0 : 0 ≤ a) (h1 : a ≤ 1048576) :
    Calls Tryd.prog 25 #[s, .int .i64 a] w (Left a (wStrs l) w) := by
  have HS := Lib.hid hs
  obtain ⟨ad, c, rfl, hc, hm, _⟩ := hs
  by_cases hl : a < (l.length : Int)
  · have hr : left a (wStrs l) = -1 := left_no (by unfold wStrs; omega)
    have HR := Lib.hid hr
    clear hr
    go_enter Tryd.func25, Tryd.ntmps25
    go_wp2
    go_ret
    exact ⟨ret_int HR.out.symm, Keep.refl _ _⟩
  · go_enter Tryd.func25, Tryd.ntmps25
    go_wp2
    go_loopg [1, 5] (l.length + 1) (fun g v i wr => ∃ k m : Nat, k ≤ l.length ∧ i = .int .i64 k ∧ g = l.length + 1 - k ∧ m = ((l.take k).map (·.size)).sum ∧ v = .int .i64 (a - l.length - m) ∧ (m : Int) ≤ a - l.length ∧ w = wr)
    case atStart => exact ⟨0, 0, by omega, rfl, rfl, by simp, by simp, by omega, rfl⟩
    case round =>
      obtain ⟨k, m, hk, rfl, hg, hM, rfl, hb, rfl⟩ := hrel
      have HG := Lib.hid hg
      have HM := Lib.hid hM
      clear hg hM
      by_cases hlt : k < l.length
      · have hx : l[k]? = some l[k] := List.getElem?_eq_getElem hlt
        have hq := sums_drop (fun s : ByteArray => s.size) l k _ hx
        obtain ⟨ad, rfl, hF, c0⟩ := strs_at HS.out (Keep.refl _ _) hx
        generalize l[k] = x at *
        unfold Fits at hF
        have HQ := Lib.hid hq
        clear hx hq
        by_cases hz : a - l.length - m < (x.size : Int)
        · have hr : left a (wStrs l) = -1 := left_no (by unfold wStrs; have := HQ.out.2; have := HM.out; omega)
          have HR := Lib.hid hr
          clear hr
          go_wp2
          go_ret
          exact ⟨ret_int HR.out.symm, Keep.refl _ _⟩
        · go_wp2
          go_roundg (gk - 1)
          case rel => exact ⟨k + 1, m + x.size, by omega, by go_num, by have := HG.out; omega, by rw [HQ.out.1, HM.out], by congr 1; omega, by omega, rfl⟩
          case measure => have := HG.out; omega
      · have hr : left a (wStrs l) = a - l.length - m := by
          have e := HM.out
          rw [List.take_of_length_le (by omega)] at e
          rw [left_yes (by unfold wStrs; omega)]; unfold wStrs; omega
        have HR := Lib.hid hr
        clear hr
        go_wp2
        go_ret
        exact ⟨ret_int HR.out.symm, Keep.refl _ _⟩

/-- the values of one length of weight -/
def SzVals (l : List V) : Prop := ∀ (s : Value) (a : Int) (w : World), Vals w Any s l → 0 ≤ a → a ≤ 1048576 → Calls Tryd.prog 26 #[s, .int .i64 a] w (Left a (V.szs l + l.length) w)
def SzVal (v : V) : Prop := ∀ (cs : List Value) (a : Int) (w : World), VR w Any v cs → 0 ≤ a → a ≤ 1048576 → Calls Tryd.prog 54 #[.agg cs.toArray, .int .i64 a] w (Left a v.sz w)
theorem szVal_of (v : V) (ih : SzVals v.list) : SzVal v := by
  intro cs a w hv h0 h1
  obtain ⟨s, rfl, _, _, h3, hs⟩ := VR.iff.1 hv
  have hz := V.sz_eq v
  have HS := Lib.hid hs
  have IH := Lib.hid ih
  have HZ := Lib.hid hz
  unfold Fits at h3
  clear hs ih hv hz
  by_cases hl : a < (v.text.size : Int)
  · have hr : left a v.sz = -1 := left_no (by have := HZ.out; omega)
    have HR := Lib.hid hr
    clear hr
    go_enter Tryd.func54, Tryd.ntmps54
    go_wp2
    go_ret
    exact ⟨ret_int HR.out.symm, by repeat (first | exact Keep.refl _ _ | apply Keep.drewN | apply Keep.drew | apply Keep.alloc)⟩
  · by_cases hq : a - v.text.size < ((V.szs v.list + v.list.length : Nat) : Int)
    · have hr : left a v.sz = -1 := left_no (by have := HZ.out; omega)
      have HR := Lib.hid hr
      have hl2 : left (a - v.text.size) (V.szs v.list + v.list.length) = -1 := left_no hq
      have HL := Lib.hid hl2
      clear hr hl2
      go_enter Tryd.func54, Tryd.ntmps54
      go_wp2_with (go_at_call 26; refine (IH.out _ _ _ (Vals.keep HS.out ((Keep.refl _ _).alloc _)) (by omega) (by omega)).mono ?_; rintro e w2 ⟨rfl, hK⟩; rw [HL.out])
      go_ret
      exact ⟨ret_int HR.out.symm, ((Keep.refl _ _).alloc _).trans hK⟩
    · obtain ⟨n, hn⟩ : ∃ n, n = V.szs v.list + v.list.length := ⟨_, rfl⟩
      have hr : left a v.sz = a - v.text.size - (n : Int) := by rw [left_yes (by have := HZ.out; omega)]; have := HZ.out; omega
      have HR := Lib.hid hr
      have hl2 : left (a - v.text.size) (V.szs v.list + v.list.length) = a - v.text.size - (n : Int) := by rw [left_yes (by omega)]; omega
      have HL := Lib.hid hl2
      have hn' : (n : Int) ≤ a - v.text.size := by omega
      clear hr hl2 hn hq
      go_enter Tryd.func54, Tryd.ntmps54
      go_wp2_with (go_at_call 26; refine (IH.out _ _ _ (Vals.keep HS.out ((Keep.refl _ _).alloc _)) (by omega) (by omega)).mono ?_; rintro e w2 ⟨rfl, hK⟩; rw [HL.out])
      go_ret
      exact ⟨ret_int HR.out.symm, ((Keep.refl _ _).alloc _).trans hK⟩

theorem szVals_of (l : List V) (ih : ∀ x, x ∈ l → SzVal x) : SzVals l := by
  intro s a w hs h0 h1
  have HS := Lib.hid hs
  have IH := Lib.hid ih
  clear ih
  obtain ⟨ad, c, rfl, hc, hm, _⟩ := hs
  by_cases hl : a < (l.length : Int)
  · have hr : left a (V.szs l + l.length) = -1 := left_no (by omega)
    have HR := Lib.hid hr
    clear hr
    go_enter Tryd.func26, Tryd.ntmps26
    go_wp2
    go_ret
    exact ⟨ret_int HR.out.symm, Keep.refl _ _⟩
  · go_enter Tryd.func26, Tryd.ntmps26
    go_wp2
    go_loopg [1, 5] (l.length + 1) (fun g v i wr => ∃ k m : Nat, k ≤ l.length ∧ i = .int .i64 k ∧ g = l.length + 1 - k ∧ m = ((l.take k).map V.sz).sum ∧ v = .int .i64 (a - l.length - m) ∧ (m : Int) ≤ a - l.length ∧ Keep Any w wr)
    case atStart => exact ⟨0, 0, by omega, rfl, rfl, by simp, by simp, by omega, Keep.refl _ _⟩
    case round =>
      obtain ⟨k, m, hk, rfl, hg, hM, rfl, hb, hK⟩ := hrel
      have HG := Lib.hid hg
      have HM := Lib.hid hM
      clear hg hM
      by_cases hlt : k < l.length
      · have hx : l[k]? = some l[k] := List.getElem?_eq_getElem hlt
        have hq := sums_drop V.sz l k _ hx
        obtain ⟨ad, sa, sc, rfl, hvx, c0, c1, c2, c3⟩ := vals_at HS.out hK hx
        have IX := Lib.hid (IH.out _ (List.mem_of_getElem? hx))
        generalize l[k] = x at *
        have HQ := Lib.hid hq
        have HV := Lib.hid hvx
        clear hx hq hvx
        by_cases hz : a - l.length - m < (x.sz : Int)
        · have hr : left a (V.szs l + l.length) = -1 := left_no (by have := HQ.out.2; have := HM.out; rw [V.szs_sum]; omega)
          have HR := Lib.hid hr
          have hl2 : left (a - l.length - m) x.sz = -1 := left_no hz
          have HL := Lib.hid hl2
          clear hr hl2
          go_wp2_with (go_at_call 54; refine (IX.out _ _ _ HV.out (by omega) (by omega)).mono ?_; rintro e w2 ⟨rfl, hK2⟩; rw [HL.out])
          go_ret
          exact ⟨ret_int HR.out.symm, hK.trans hK2⟩
        · have hl2 : left (a - l.length - m) x.sz = a - l.length - m - x.sz := left_yes (by omega)
          have HL := Lib.hid hl2
          clear hl2
          go_wp2_with (go_at_call 54; refine (IX.out _ _ _ HV.out (by omega) (by omega)).mono ?_; rintro e w2 ⟨rfl, hK2⟩; rw [HL.out])
          go_roundg (gk - 1)
          case rel => exact ⟨k + 1, m + x.sz, by omega, by go_num, by have := HG.out; omega, by rw [HQ.out.1, HM.out], by congr 1; omega, by omega, hK.trans hK2⟩
          case measure => have := HG.out; omega
      · have hr : left a (V.szs l + l.length) = a - l.length - m := by
          have e := HM.out
          rw [List.take_of_length_le (by omega)] at e
          rw [V.szs_sum, left_yes (by omega)]; omega
        have HR := Lib.hid hr
        clear hr
        go_wp2
        go_ret
        exact ⟨ret_int HR.out.symm, hK⟩
theorem szVal_all (n : Nat) : ∀ v : V, v.w = n → SzVal v := by
  induction n using Nat.strongRecOn with
  | _ n ih => exact fun v hv => szVal_of v (szVals_of _ fun x hx => by
      obtain ⟨j, hj, rfl⟩ := List.getElem_of_mem hx
      exact ih _ (hv ▸ V.w_lt (List.getElem?_eq_getElem hj)) _ rfl)
theorem szVals_calls (l : List V) : SzVals l := szVals_of l fun x _ => szVal_all x.w x rfl
end Go.Proofs.YtjgnnobfaphkeaaDoor

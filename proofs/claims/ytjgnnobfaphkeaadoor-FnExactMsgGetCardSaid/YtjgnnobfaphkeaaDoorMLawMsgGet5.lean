/- A value's text: the program's putOf and rowPut, and the reference's l1Put, write the same. For every value that is ok. Which values are ok: the program's and the reference's tests, for every value. Which values are ok: the program's ValueOk. For every value. -/
import Derived.Test.YtjgnnobfaphkeaaDoorMLawMsgGet2
import Derived.Test.YtjgnnobfaphkeaaDoorMLawMsgGet4
import Derived.Test.YtjgnnobfaphkeaaDoorMLawMsgGet0
import Derived.Test.YtjgnnobfaphkeaaDoorMLawMsgGet1
/- A value's text: the program's putOf and rowPut, and the reference's l1Put, write the same. For every value that is ok. -/
namespace Go.Proofs.YtjgnnobfaphkeaaDoor
open Go.RowKit
set_option linter.unusedVariables false
set_option linter.unusedSimpArgs false

abbrev gT : Nat := 0
def PutOf (d : Nat) : Prop := ∀ (v : V) (cs : List Value) (w : World), VR w Any v cs → okV d v = true → Tab w → Calls Tryd.prog 41 #[.agg cs.toArray] w (Str v.put w)
theorem infoStrP : (Tryd.prog.info? 9).map (fun i => (i.zero, i.size, i.bytes)) = some (some (.string ⟨#[]⟩), 1, 16) := by kernel_rfl
theorem row_join (l : List UInt8) : (⟨#[91]⟩ : ByteArray) ++ ⟨l.toArray⟩ ++ ⟨#[93]⟩ = ⟨(91 :: (l ++ [93])).toArray⟩ := by
  apply ByteArray.ext
  simp [ByteArray.data_append]
set_option maxRecDepth 20000 in
theorem rowPut_of (d : Nat) (hd : d ≤ 3) (ih : PutOf d) (list : List V) (s : Value) (w : World) (hs : Vals w Any s list) (hl : list.length ≤ 6) (hok : ∀ x, x ∈ list → okV d x = true) (ht : Tab w) :
    Calls Tryd.prog 32 #[s] w (Str (rowTxt list) w) := by
  have HS := Lib.hid hs
  have HOK := Lib.hid hok
  have IH := Lib.hid ih
  have HT := Lib.hid ht
  clear ih ht hok
  obtain ⟨ad, c, rfl, hc, hm, _⟩ := hs
  have hmk := make_run (P := Tryd.prog) 24 9 _ 1 16 Tryd.underlying24 infoStrP list.length (by omega) (by omega)
  go_enter Tryd.func32, Tryd.ntmps32
  go_wp2
  go_loopg [11] (list.length + 1) (fun g i wr => ∃ k : Nat, k ≤ list.length ∧ i = .int .i64 k ∧ g = list.length + 1 - k ∧ Fill 1 (fun (x : V) cs => cs = [.string ⟨x.put.toArray⟩]) wr w.heap.size 9 list.length list k ∧ Keep Any w wr)
  case atStart => exact ⟨0, by omega, rfl, rfl, by simpa using Fill.made (sz := 1) w _, (Keep.refl _ _).alloc _⟩
  case round =>
    obtain ⟨k, hk, rfl, hg, hF, hK⟩ := hrel
    have HG := Lib.hid hg
    clear hg
    by_cases hlt : k < list.length
    · have hx : list[k]? = some list[k] := List.getElem?_eq_getElem hlt
      have HX := Lib.hid hx
      obtain ⟨ad, sa, sc, rfl, hvx, c0, c1, c2, c3⟩ := vals_at HS.out hK hx
      generalize list[k] = x at *
      have HV := Lib.hid hvx
      have HF := Lib.hid hF
      have HO := Lib.hid (HOK.out x (List.mem_of_getElem? HX.out))
      clear hx hvx hF
      go_wp2_with (go_at_call 41; refine (IH.out _ _ _ (HV.out.keep ((Keep.refl _ _).alloc _)) HO.out ((HT.out.keep hK trivial).keep ((Keep.refl Any _).alloc _) trivial)).mono ?_; rintro e w2 ⟨rfl, hK2⟩; have hK3 := ((Keep.refl _ _).alloc _).trans hK2; obtain ⟨v0, d0⟩ := HF.out.cell hK3 trivial k (by omega); have f0 := HF.out.free hK3 trivial k)
      go_roundg (gk - 1)
      case rel => exact ⟨k + 1, by omega, by go_num, by have := HG.out; omega, by
        refine (HF.out.keep hK3 trivial fun _ _ h => h).snoc (fun _ _ h => h) HX.out rfl rfl fun cur hb hs => ⟨_, blk_set hb k _, by simp, fun i hi => by rw [Array.getElem?_setIfInBounds_ne (by omega)], fun i u hu => ?_⟩
        obtain ⟨rfl, rfl⟩ : i = 0 ∧ .string ⟨x.put.toArray⟩ = u := by cases i with | zero => exact ⟨rfl, by simpa using hu⟩ | succ i => simp at hu
        rw [show k * 1 + 0 = k by omega, Array.getElem?_setIfInBounds_self_of_lt (by omega)], (hK.trans hK3).set _ _ (fun h => by have : w.heap.size < w.heap.size := h; omega)⟩
      case measure => have := HG.out; omega
    · obtain rfl : k = list.length := by omega
      have HF := Lib.hid hF
      have hb := join_len 1000000 (list.map V.put) fun x hx => by obtain ⟨y, hy, rfl⟩ := List.mem_map.1 hx; exact put_len3 (HOK.out y hy) hd
      have hb2 : (list.map V.put).length * (1000000 + 2) ≤ 6 * (1000000 + 2) := Nat.mul_le_mul_right _ (by simpa using hl)
      have hj : (Lib.join (list.map V.put) [44, 32]).length ≤ 100000000 := by omega
      have ej : ((list.map fun x : V => (⟨x.put.toArray⟩ : ByteArray)).map (·.data.toList)) = list.map V.put := by simp
      have J := Tryd.strings_Join w.heap.size 0 list.length (list.map fun x : V => (⟨x.put.toArray⟩ : ByteArray)) ⟨#[44, 32]⟩ wr (fun j x hx => by
        obtain ⟨cur, hb, hsz, hf⟩ := HF.out
        obtain ⟨v, hv, rfl⟩ := List.getElem?_map .. ▸ hx |> Option.map_eq_some_iff.1
        obtain ⟨cs, rfl, _, hcs⟩ := hf j v (List.getElem?_eq_some_iff.1 hv).1 hv
        rw [blk_cell hb]
        have := hcs 0 _ rfl
        simpa using this) HF.out.lt (by simp; omega) (by simp) (by rw [ej]; exact Nat.le_trans hj (by omega))
      rw [ej, List.length_map] at J
      have JJ := Lib.hid J
      clear hF hb hb2 ej J
      go_wp2_with (go_at_call 61; refine JJ.out.mono ?_; rintro e w2 ⟨rfl, hB⟩)
      go_ret
      exact ⟨congrArg (fun s => Ending.returned (.string s)) (row_join _), hK.trans (Keep.of_below hB)⟩
theorem lit_app (a : UInt8) (l : List UInt8) : (⟨#[a]⟩ : ByteArray) ++ ⟨l.toArray⟩ = ⟨(a :: l).toArray⟩ := by
  apply ByteArray.ext
  simp [ByteArray.data_append]
theorem quo_app (t : ByteArray) : (⟨#[39]⟩ : ByteArray) ++ t ++ ⟨#[39]⟩ = ⟨(39 :: (t.data.toList ++ [39])).toArray⟩ := by
  apply ByteArray.ext
  simp [ByteArray.data_append]
set_option maxRecDepth 20000 in
theorem putOf_of (d : Nat) (hd : d + 1 ≤ 3) (ih : PutOf d) : PutOf (d + 1) := by
  intro v cs w hv hok ht
  obtain ⟨kind, num, text, list⟩ := v
  obtain ⟨s, rfl, h1, h2, h3, hs⟩ := VR.iff.1 hv
  obtain ⟨n0, n1⟩ := okV_num hok
  have n0 : -1000000000 ≤ num := n0
  have n1 : num ≤ 1000000000 := n1
  have hlen := itoa_len2 num n0 n1
  have IT := Lib.hid fun w h => itoa_calls num w (by omega) (by omega) h
  by_cases e4 : kind = 4
  · subst e4
    obtain ⟨hl, ha⟩ := okV_list hok
    rw [put_list]
    have R := Lib.hid (rowPut_of d (by omega) ih list s _ (Vals.keep hs ((Keep.refl Any w).alloc (.cells #[.int .i64 4, .int .i64 num, .string text, s] 72 (0, 0)))) hl ha (ht.keep ((Keep.refl Any _).alloc _) trivial))
    clear hs ha hv ih IT
    go_enter Tryd.func41, Tryd.ntmps41
    go_wp2_with (go_at_call 32; refine R.out.mono ?_; rintro e w2 ⟨rfl, hK2⟩)
    go_ret
    exact ⟨rfl, ((Keep.refl _ _).alloc _).trans hK2⟩
  · have htx := okV_text hok
    have htx : kind = 3 → text.size ≤ 16 := htx
    have HT := Lib.hid ht
    clear ht hs ih hv hok
    by_cases e1 : kind = 1
    · subst e1
      by_cases hn : num = 1
      · subst hn
        go_enter Tryd.func41, Tryd.ntmps41
        go_wp2
        go_ret
        exact ⟨by simp [V.put], (Keep.refl _ _).alloc _⟩
      · go_enter Tryd.func41, Tryd.ntmps41
        go_wp2
        go_ret
        exact ⟨by simp [V.put, hn], (Keep.refl _ _).alloc _⟩
    · by_cases e3 : kind = 3
      · have hq := htx e3
        subst e3
        go_enter Tryd.func41, Tryd.ntmps41
        go_wp2
        go_ret
        exact ⟨by rw [V.put]; exact congrArg (fun s => Ending.returned (.string s)) (quo_app _), (Keep.refl _ _).alloc _⟩
      · clear htx
        by_cases e2 : kind = 2
        · subst e2
          go_enter Tryd.func41, Tryd.ntmps41
          go_wp2_with (go_at_call 24; refine (IT.out _ (HT.out.keep ((Keep.refl Any _).alloc _) trivial)).mono ?_; rintro e w2 ⟨rfl, hK2⟩)
          go_ret
          exact ⟨by rw [V.put]; rfl, ((Keep.refl _ _).alloc _).trans hK2⟩
        · by_cases e5 : kind = 5
          · subst e5
            go_enter Tryd.func41, Tryd.ntmps41
            go_wp2_with (go_at_call 24; refine (IT.out _ (HT.out.keep ((Keep.refl Any _).alloc _) trivial)).mono ?_; rintro e w2 ⟨rfl, hK2⟩)
            go_ret
            exact ⟨by rw [V.put]; exact congrArg (fun s => Ending.returned (.string s)) (lit_app _ _), ((Keep.refl _ _).alloc _).trans hK2⟩
          · by_cases e6 : kind = 6
            · subst e6
              go_enter Tryd.func41, Tryd.ntmps41
              go_wp2_with (go_at_call 24; refine (IT.out _ (HT.out.keep ((Keep.refl Any _).alloc _) trivial)).mono ?_; rintro e w2 ⟨rfl, hK2⟩)
              go_ret
              exact ⟨by rw [V.put]; exact congrArg (fun s => Ending.returned (.string s)) (lit_app _ _), ((Keep.refl _ _).alloc _).trans hK2⟩
            · go_enter Tryd.func41, Tryd.ntmps41
              go_wp2
              go_ret
              exact ⟨by rw [V.put, if_neg e1, if_neg e2, if_neg e3, if_neg e4, if_neg e5, if_neg e6]; rfl, (Keep.refl _ _).alloc _⟩
theorem putOf_all : ∀ d, d ≤ 3 → PutOf d
  | 0, _ => fun v cs w _ h => by simp [okV] at h
  | d + 1, h => putOf_of d h (putOf_all d (by omega))
theorem putOf_calls : PutOf 3 := putOf_all 3 (by omega)
theorem rowPut_calls (list : List V) (s : Value) (w : World) (hs : Vals w Any s list) (hl : list.length ≤ 6) (hok : ∀ x, x ∈ list → okV 3 x = true) (ht : Tab w) :
    Calls Tryd.prog 32 #[s] w (Str (rowTxt list) w) := rowPut_of 3 (by omega) putOf_calls list s w hs hl hok ht
end Go.Proofs.YtjgnnobfaphkeaaDoor

/- Which values are ok: the program's and the reference's tests, for every value. -/
namespace Go.Proofs.YtjgnnobfaphkeaaDoor
open Go.RowKit
set_option linter.unusedVariables false
set_option linter.unusedSimpArgs false


def badB (t : ByteArray) (k : Nat) : Prop := at_ t k < 32 ∨ 126 < at_ t k ∨ at_ t k = 39
theorem textOk_bad {t : ByteArray} {k : Nat} (h : k < t.size) (hb : badB t k) : textOk t = false := by
  rw [textOk, Bool.and_eq_false_iff]
  right
  rw [List.all_eq_false]
  have hl : k < t.data.toList.length := by rw [← Lib.size_eq]; exact h
  refine ⟨t.data.toList[k], List.getElem_mem hl, ?_⟩
  have e : (t.data.toList[k]).toNat = at_ t k := by rw [← at_eq t k h]; rfl
  rw [e]
  unfold badB at hb
  simp
  omega
theorem textOk_all {t : ByteArray} (h : t.size ≤ 16) (hb : ∀ k, k < t.size → ¬ badB t k) : textOk t = true := by
  rw [textOk, Bool.and_eq_true]
  refine ⟨by simpa using h, ?_⟩
  rw [List.all_eq_true]
  intro x hx
  obtain ⟨k, hk, rfl⟩ := List.getElem_of_mem hx
  have h' : k < t.size := by rw [Lib.size_eq]; exact hk
  have e : (t.data.toList[k]).toNat = at_ t k := by rw [← at_eq t k h']; rfl
  rw [e]
  have := hb k h'
  unfold badB at this
  simp
  omega
theorem textOk_long {t : ByteArray} (h : 16 < t.size) : textOk t = false := by rw [textOk, Bool.and_eq_false_iff]; left; simp; omega
theorem textFits_calls (t : ByteArray) (w : World) (hs : Fits t) :
    Calls Tryd.prog 95 #[.string t] w (Quiet (textOk t) w) := by
  by_cases h : 16 < t.size
  · go_enter Tryd.func95, Tryd.ntmps95
    go_wp2
    go_ret
    exact ⟨by rw [textOk_long h]; rfl, rfl⟩
  · go_enter Tryd.func95, Tryd.ntmps95
    go_wp2
    go_loop [3] (fun i => ∃ k : Nat, k ≤ t.size ∧ i = .int .i64 k ∧ ∀ j, j < k → ¬ badB t j) (fun i => t.size - (intOf i).toNat)
    case atStart => exact ⟨0, by omega, rfl, fun j hj => by omega⟩
    case round =>
      obtain ⟨k, hk, rfl, hg⟩ := hrel
      have HG := Lib.hid hg
      clear hg
      by_cases hlt : k < t.size
      · have e1 := at_eq t k hlt
        have e2 := at_lt t k
        go_wp2
        · go_ret
          exact ⟨by rw [textOk_bad hlt (by unfold badB; have := ‹_ ∨ (((at_ t k : Nat) : Int) == 39) = true›; simp at this; omega)]; rfl, rfl⟩
        · have g := ‹_ ∧ (((at_ t k : Nat) : Int) == 39) = false›
          go_round
          case rel => exact ⟨k + 1, by omega, by go_num, fun j hj => by rcases Nat.lt_succ_iff_lt_or_eq.1 hj with hj | rfl; exact HG.out j hj; unfold badB; simp at g; omega⟩
          case measure => simp [intOf]; omega
        all_goals
          go_ret
          exact ⟨by rw [textOk_bad hlt (by unfold badB; omega)]; rfl, rfl⟩
      · have hr := textOk_all (by omega) (fun j hj => HG.out j (by omega))
        have HR := Lib.hid hr
        clear hr
        go_wp2
        go_ret
        exact ⟨by rw [HR.out]; rfl, rfl⟩
set_option maxRecDepth 20000 in
set_option maxHeartbeats 400000 in
theorem valueFits_list (d : Nat) (ih : ∀ (v : V) (cs : List Value) (w : World), VR w Any v cs → d ≤ 3 → Calls Tryd.prog 83 #[.agg cs.toArray, .int .i64 d] w (Tells (okV d v) w))
    (num : Int) (text : ByteArray) (list : List V) (w : World) (a : Option Addr) (c : Nat) (h2 : I64 num) (h3 : Fits text) (hd : d + 1 ≤ 3) (hs : Sl 4 (VR w Any) w Any (.slice a list.length c) list) :
    Calls Tryd.prog 83 #[.agg #[.int .i64 4, .int .i64 num, .string text, .slice a list.length c], .int .i64 (d + 1 : Nat)] w (Tells (okV (d + 1) ⟨4, num, text, list⟩) w) := by
  have HS := Lib.hid hs
  have IH := Lib.hid ih
  clear hs ih
  by_cases hb : num = 0 ∧ text.toList = [] ∧ list.length ≤ 6
  · obtain ⟨rfl, ht, hl⟩ := hb
    have e0 : okV (d + 1) ⟨4, 0, text, list⟩ = list.all (okV d) := by simp [okV, *]; omega
    have E0 := Lib.hid e0
    clear e0
    go_enter Tryd.func83, Tryd.ntmps83
    go_wp2
    go_loopg [126] (list.length + 1) (fun g i wr => ∃ k : Nat, k ≤ list.length ∧ i = .int .i64 k ∧ g = list.length + 1 - k ∧ (∀ j x, j < k → list[j]? = some x → okV d x = true) ∧ Keep Any w wr)
    case atStart => exact ⟨0, by omega, rfl, rfl, fun j x hj => by omega, by repeat (first | exact Keep.refl _ _ | apply Keep.drewN | apply Keep.drew | apply Keep.alloc)⟩
    case round =>
      obtain ⟨k, hk, rfl, hg, hall, hK⟩ := hrel
      have HG := Lib.hid hg
      have HA := Lib.hid hall
      clear hg hall
      by_cases hlt : k < list.length
      · have hx : list[k]? = some list[k] := List.getElem?_eq_getElem hlt
        have HX := Lib.hid hx
        obtain ⟨ad, sa, sc, rfl, hvx, c0, c1, c2, c3⟩ := vals_at HS.out hK hx
        generalize list[k] = x at *
        have HV := Lib.hid hvx
        clear hx hvx
        go_wp2_with (go_at_call 83; refine (IH.out _ _ _ (HV.out.keep ((Keep.refl _ _).alloc _)) (by omega)).mono ?_; rintro e w2 ⟨rfl, hK2⟩)
        · have g : okV d x = false := by simpa using ‹(!okV d x) = true›
          go_ret
          exact ⟨congrArg (fun b => Ending.returned (.bool b)) (by rw [E0.out]; exact (List.all_eq_false.2 ⟨x, List.mem_of_getElem? HX.out, by rw [g]; decide⟩).symm), (hK.alloc _).trans hK2⟩
        · have g : okV d x = true := by simpa using ‹(!okV d x) = false›
          go_roundg (gk - 1)
          case rel => exact ⟨k + 1, by omega, by go_num, by have := HG.out; omega, fun j y hj hy => by rcases Nat.lt_succ_iff_lt_or_eq.1 hj with hj | rfl; exact HA.out j y hj hy; rw [HX.out] at hy; cases hy; exact g, (hK.alloc _).trans hK2⟩
          case measure => have := HG.out; omega
      · have e1 : list.all (okV d) = true := List.all_eq_true.2 fun x hx => by
          obtain ⟨j, hj, rfl⟩ := List.getElem_of_mem hx
          exact HA.out j _ (by omega) (List.getElem?_eq_getElem hj)
        have E1 := Lib.hid e1
        clear e1
        go_wp2
        go_ret
        exact ⟨congrArg (fun b => Ending.returned (.bool b)) (by rw [E0.out, E1.out]), hK⟩
  · have e0 : okV (d + 1) ⟨4, num, text, list⟩ = false := by simp [okV]; intro a b c; exact absurd ⟨a, b, by omega⟩ hb
    have E0 := Lib.hid e0
    clear e0
    have hb' : num ≠ 0 ∨ (num = 0 ∧ text.toList ≠ []) ∨ (num = 0 ∧ text.toList = [] ∧ 6 < list.length) := by
      by_cases a1 : num = 0 <;> by_cases a2 : text.toList = [] <;> simp_all <;> omega
    clear hb
    rcases hb' with a1 | ⟨a1, a2⟩ | ⟨a1, a2, a3⟩
    all_goals
      try subst a1
      go_enter Tryd.func83, Tryd.ntmps83
      go_wp2
      go_ret
      exact ⟨congrArg (fun b => Ending.returned (.bool b)) (by rw [E0.out]), by repeat (first | exact Keep.refl _ _ | apply Keep.drewN | apply Keep.drew | apply Keep.alloc)⟩
set_option maxRecDepth 20000 in
set_option maxHeartbeats 400000 in
theorem valueFits_calls (d : Nat) : ∀ (v : V) (cs : List Value) (w : World), VR w Any v cs → d ≤ 3 →
    Calls Tryd.prog 83 #[.agg cs.toArray, .int .i64 d] w (Tells (okV d v) w) := by
  induction d with
  | zero =>
    intro v cs w hv hd
    go_enter Tryd.func83, Tryd.ntmps83
    go_wp2
    go_ret
    exact ⟨rfl, (Keep.refl _ _).alloc _⟩
  | succ d ih =>
  intro v cs w hv hd
  obtain ⟨s, rfl, h1, h2, h3, hs0⟩ := VR.iff.1 hv
  obtain ⟨kind, num, text, list⟩ := v
  have hs := hs0
  obtain ⟨a, c, rfl, hc, hm, _⟩ := hs
  simp only at *
  by_cases k0 : kind = 0
  · subst k0
    go_enter Tryd.func83, Tryd.ntmps83
    go_wp2
    all_goals
      go_ret
      exact ⟨congrArg (fun b => Ending.returned (.bool b)) (by simp [okV, V.bare, *] <;> (intros; omega)), by repeat (first | exact Keep.refl _ _ | apply Keep.drewN | apply Keep.drew | apply Keep.alloc)⟩
  by_cases k1 : kind = 1
  · subst k1
    go_enter Tryd.func83, Tryd.ntmps83
    go_wp2
    all_goals
      go_ret
      exact ⟨congrArg (fun b => Ending.returned (.bool b)) (by simp [okV, V.bare, *] <;> (intros; omega)), by repeat (first | exact Keep.refl _ _ | apply Keep.drewN | apply Keep.drew | apply Keep.alloc)⟩
  by_cases k2 : kind = 2
  · subst k2
    go_enter Tryd.func83, Tryd.ntmps83
    go_wp2
    all_goals
      go_ret
      exact ⟨congrArg (fun b => Ending.returned (.bool b)) (by simp [okV, V.bare, *] <;> (intros; omega)), by repeat (first | exact Keep.refl _ _ | apply Keep.drewN | apply Keep.drew | apply Keep.alloc)⟩
  by_cases k5 : kind = 5
  · subst k5
    go_enter Tryd.func83, Tryd.ntmps83
    go_wp2
    all_goals
      go_ret
      exact ⟨congrArg (fun b => Ending.returned (.bool b)) (by simp [okV, V.bare, *] <;> (intros; omega)), by repeat (first | exact Keep.refl _ _ | apply Keep.drewN | apply Keep.drew | apply Keep.alloc)⟩
  by_cases k6 : kind = 6
  · subst k6
    go_enter Tryd.func83, Tryd.ntmps83
    go_wp2
    all_goals
      go_ret
      exact ⟨congrArg (fun b => Ending.returned (.bool b)) (by simp [okV, V.bare, *] <;> (intros; omega)), by repeat (first | exact Keep.refl _ _ | apply Keep.drewN | apply Keep.drew | apply Keep.alloc)⟩

  by_cases k3 : kind = 3
  · subst k3
    have TF := Lib.hid (textFits_calls text)
    go_enter Tryd.func83, Tryd.ntmps83
    go_wp2_with (go_at_call 95; refine (TF.out _ h3).mono ?_; rintro e w' ⟨rfl, rfl⟩)
    all_goals
      go_ret
      exact ⟨congrArg (fun b => Ending.returned (.bool b)) (by simp [okV, V.bare, *] <;> (intros; omega)), by repeat (first | exact Keep.refl _ _ | apply Keep.drewN | apply Keep.drew | apply Keep.alloc)⟩
  by_cases k4 : kind = 4
  · subst k4
    exact valueFits_list d ih num text list w a c h2 h3 hd hs0
  · have b0 : (kind == 0) = false := by simpa using k0
    have b1 : (kind == 1) = false := by simpa using k1
    have b2 : (kind == 2) = false := by simpa using k2
    have b3 : (kind == 3) = false := by simpa using k3
    have b4 : (kind == 4) = false := by simpa using k4
    have b5 : (kind == 5) = false := by simpa using k5
    have b6 : (kind == 6) = false := by simpa using k6
    go_enter Tryd.func83, Tryd.ntmps83
    go_wp2
    go_ret
    exact ⟨congrArg (fun b => Ending.returned (.bool b)) (by simp [okV, *]), (Keep.refl _ _).alloc _⟩
end Go.Proofs.YtjgnnobfaphkeaaDoor

/- Which values are ok: the program's ValueOk. For every value. -/
namespace Go.Proofs.YtjgnnobfaphkeaaDoor
open Go.RowKit
set_option linter.unusedVariables false
set_option linter.unusedSimpArgs false

theorem valueOk_calls (v : V) (cs : List Value) (w : World) (hv : VR w Any v cs) : Calls Tryd.prog 60 #[.agg cs.toArray] w (Tells (okV 3 v) w) := by
  have IH := Lib.hid fun w => valueFits_calls 3 v cs w
  have HV := Lib.hid hv
  obtain ⟨s, rfl, _⟩ := VR.iff.1 hv
  clear hv
  go_enter Tryd.func60, Tryd.ntmps60
  go_wp2_with (go_at_call 83; refine (IH.out _ (HV.out.keep ((Keep.refl _ _).alloc _)) (by omega)).mono ?_; rintro e w' ⟨rfl, hK⟩)
  go_ret
  exact ⟨rfl, ((Keep.refl _ _).alloc _).trans hK⟩
end Go.Proofs.YtjgnnobfaphkeaaDoor

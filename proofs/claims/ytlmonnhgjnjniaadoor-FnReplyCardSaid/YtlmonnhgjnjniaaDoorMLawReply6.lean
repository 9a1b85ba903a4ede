/- The reference's words of a line: an own slice with them. For every text of at most 2^20 bytes. A value's text: the reference's l1Put. For every value that is ok. Which values are ok: the reference's test, for every value. Which values are ok: the reference's ValueOk. For every value. Which texts are names: the reference's test, for every text. Which replies have a form: the reference's test. For every reply. -/
import Derived.Test.YtlmonnhgjnjniaaDoorMLawReply5
import Derived.Test.YtlmonnhgjnjniaaDoorMLawReply1
import Derived.Test.YtlmonnhgjnjniaaDoorMLawReply3
import Derived.Test.YtlmonnhgjnjniaaDoorMLawReply2
/- The reference's words of a line: an own slice with them. For every text of at most 2^20 bytes. -/
namespace Go.Proofs.YtlmonnhgjnjniaaDoor
open Go.RowKit
set_option linter.unusedVariables false
set_option linter.unusedSimpArgs false
theorem rowS_keep {w w' : World} {base top : Nat} {T : TypeId} {v : Value} {l : List ByteArray} {css : List (List Value)} (h : SRow 1 SStr w base top T v l css) (k : Keep Any w w') : SRow 1 SStr w' base top T v l css := SRow.keep (R := SStr) (fun h _ => h) h k
theorem rowS_snoc {w w' : World} {base top : Nat} {T : TypeId} {v v' : Value} {l : List ByteArray} {css : List (List Value)} {x : ByteArray} (h : SRow 1 SStr w base top T v l css)
    (hown : w'.ownsRow base T 1 v' (l.length + 1) (css.flatten ++ [.string x])) (hg : w.grownBy w' v.ownBlock) (hv : v'.ownBlock = v.ownBlock ∨ v'.ownBlock = some w.heap.size)
    (hx : Fits x) : SRow 1 SStr w' base w'.heap.size T v' (l ++ [x]) (css ++ [[.string x]]) := SRow.snoc (R := SStr) (gx := fun _ => False) (fun h _ => h) h hown hg hv ⟨rfl, hx⟩ rfl (fun _ h => h.elim)
theorem infoStr : (Tryd.prog.info? 9).map (fun i => (i.zero, i.size, i.bytes)) = some (some (.string ⟨#[]⟩), 1, 16) := by kernel_rfl
theorem sWords_more {l x r : List UInt8} (h : l ≠ []) (h0 : l.headD 0 = 32) (h1 : cutAt 32 (l.drop 1) = some (x, r)) : sWords l = ⟨x.toArray⟩ :: sWords (32 :: r) := by
  obtain ⟨b, t, rfl⟩ := List.exists_cons_of_ne_nil h
  obtain rfl : b = 32 := h0
  rw [sWords, if_pos rfl, sWords, if_pos rfl]
  exact namesL_some h1
theorem sWords_last {l : List UInt8} (h : l ≠ []) (h0 : l.headD 0 = 32) (h1 : cutAt 32 (l.drop 1) = none) : sWords l = [⟨(l.drop 1).toArray⟩] := by
  obtain ⟨b, t, rfl⟩ := List.exists_cons_of_ne_nil h
  obtain rfl : b = 32 := h0
  rw [sWords, if_pos rfl]
  exact namesL_none h1
theorem sWords_bad {l : List UInt8} (h : l ≠ []) (h0 : ¬ l.headD 0 = 32) : sWords l = [⟨#[]⟩] := by
  obtain ⟨b, t, rfl⟩ := List.exists_cons_of_ne_nil h
  exact if_neg h0
set_option maxHeartbeats 4000000 in
set_option maxRecDepth 20000 in
theorem l9Words_calls (t : ByteArray) (w : World) (ht : t.size ≤ 1048576) : Calls Tryd.prog 19 #[.string t] w (GotNs (sWords t.data.toList) w) := by
  obtain ⟨o, ho⟩ : ∃ o, o = sWords t.data.toList := ⟨_, rfl⟩
  rw [← ho]
  have HO := Lib.hid ho
  clear ho
  obtain ⟨i0, hi, hzz⟩ := Option.map_eq_some_iff.1 infoStr
  simp only [Prod.mk.injEq] at hzz
  obtain ⟨hz0, hz1, hz2⟩ := hzz
  go_enter Tryd.func19, Tryd.ntmps19
  go_wp2
  go_loopg [0, 3] (t.size + 1) (fun g x v wr => ∃ (s : ByteArray) (acc : List ByteArray) (css : List (List Value)) (top : Nat), x = .string s ∧ s.size < g ∧ acc.length + s.size ≤ t.size ∧ SRow 1 SStr wr w.heap.size top 9 v acc css ∧ Keep Any w wr ∧ o = acc ++ sWords s.data.toList)
  case atStart => exact ⟨t, [], [], w.heap.size + 1, rfl, Nat.lt_succ_self _, by simp, SRow.made _ _, (Keep.refl _ _).alloc _, by rw [HO.out]; simp⟩
  case round =>
    obtain ⟨s, acc, css, top, rfl, hg, hl, hS, hK, hr⟩ := hrel
    have HR := Lib.hid hr
    have HK := Lib.hid hK
    obtain ⟨av, cv, rfl, hnil⟩ := hS.form
    have HS := Lib.hid hS
    clear hr hS hnil hK
    by_cases h0 : s.size = 0
    · have hd : s.toList.isEmpty = true := by have := empty_true s h0; simpa using this
      have e0 : s.data.toList = [] := List.eq_nil_of_length_eq_zero (by rw [← Lib.size_eq]; exact h0)
      obtain ⟨n, hn⟩ : ∃ n, acc.length = n := ⟨_, rfl⟩
      have E0 := Lib.hid (show o = acc by rw [HR.out, e0, sWords, List.append_nil])
      clear e0 h0 hn
      go_wp2
      go_ret
      exact ⟨av, cv, by rw [E0.out]; rfl, HK.out, by rw [E0.out]; exact HS.out.slice fun i h1 h2 => ⟨h1, h2⟩⟩
    have hd : s.toList.isEmpty = false := by have := empty_false s h0; simpa using this
    have q1 : 0 < s.size := by omega
    have e1 := at_eq s 0 q1
    have E0 := Lib.hid (show s.data.toList ≠ [] from fun h => h0 (by rw [Lib.size_eq, h]; rfl))
    clear h0
    by_cases h10 : s.data.toList.headD 0 = 32
    · have b10 : (((at_ s 0 : Nat) : Int) != 32) = false := by have := head_yes q1 (n := 32) rfl h10; rw [bne, this]; rfl
      have H10 := Lib.hid h10
      clear h10
      rcases hc : cutAt 32 (s.data.toList.drop 1) with _ | ⟨nm, x⟩
      · have CN := Lib.hid (upto_none (s := s.extract 1 s.size) (c := 32) (b := 32) rfl (by rw [ByteArray.size_extract]; omega) (by rw [tail_data]; exact hc))
        have E := Lib.hid (show o = acc ++ [s.extract 1 s.size] by rw [HR.out, sWords_last E0.out H10.out hc, ← tail_data])
        clear hc
        go_wp2_with (first | (go_at_call 46; refine (CN.out _).mono ?_; rintro e wA ⟨rfl, hKA⟩; have HKA := Lib.hid hKA; clear hKA) | (at_builtin; refine wpList_append_sep _ rfl _ _ 22 rfl w.heap.size 9 i0 _ 1 16 Tryd.underlying22 hi hz0 hz1 hz2 rfl (by decide) (.slice av acc.length cv) acc.length css.flatten rfl (rowS_keep HS.out (HKA.out.alloc _)).own ⟨wA.heap.size, 0, none⟩ 1 1 [.string (s.extract 1 s.size)] rfl rfl (new_cells _ _ _ rfl) (by simp [Value.oneCell']) (by unfold maxLen; omega) (by omega) (by have := HK.out.size; have := HKA.out.size; simp; omega) (by omega) ?_; intro v' w5 hown' hgrow hblk; have HS5 := Lib.hid (rowS_snoc (rowS_keep HS.out (HKA.out.alloc _)) hown' hgrow hblk (show Fits (s.extract 1 s.size) by unfold Fits; rw [ByteArray.size_extract]; omega)); have HK5 := Lib.hid (((HK.out.trans HKA.out).alloc _).grown hgrow (fun i hi hlt => by have := (HS.out.own.lt i hi).1; omega)); clear hown' hgrow hblk))
        obtain ⟨av5, cv5, rfl, _⟩ := HS5.out.form
        go_ret
        exact ⟨av5, cv5, by rw [E.out]; rfl, HK5.out, by rw [E.out]; exact HS5.out.slice fun i h1 h2 => ⟨h1, h2⟩⟩
      · obtain ⟨xb, hxb⟩ : ∃ xb : ByteArray, (⟨x.toArray⟩ : ByteArray) = xb := ⟨_, rfl⟩
        obtain ⟨nb, hnb⟩ : ∃ nb : ByteArray, (⟨nm.toArray⟩ : ByteArray) = nb := ⟨_, rfl⟩
        have hxd : xb.data.toList = x := by rw [← hxb]
        have hcl := cutAt_len hc
        rw [List.length_drop, ← Lib.size_eq] at hcl
        have hxs : xb.size + 2 ≤ s.size := by rw [Lib.size_eq xb, hxd]; omega
        have hns : nb.size ≤ s.size := by rw [← hnb, Lib.size_eq]; simp; omega
        have CN := Lib.hid (fun w => by have := upto_some (s := s.extract 1 s.size) (c := 32) (b := 32) rfl (by rw [ByteArray.size_extract]; omega) (by rw [tail_data]; exact hc) w; rw [hxb, hnb] at this; exact this)
        have E := Lib.hid (show o = (acc ++ [nb]) ++ sWords (⟨#[32]⟩ ++ xb : ByteArray).data.toList by rw [HR.out, sWords_more E0.out H10.out hc, hnb, ByteArray.data_append, Array.toList_append, hxd]; simp)
        have nn : ¬ 9223372036854775807 < 1 + xb.size := by omega
        clear hc hcl hxb hnb hxd
        go_wp2_with (first | (go_at_call 46; refine (CN.out _).mono ?_; rintro e wA ⟨rfl, hKA⟩; have HKA := Lib.hid hKA; clear hKA) | (at_builtin; refine wpList_append_sep _ rfl _ _ 22 rfl w.heap.size 9 i0 _ 1 16 Tryd.underlying22 hi hz0 hz1 hz2 rfl (by decide) (.slice av acc.length cv) acc.length css.flatten rfl (rowS_keep HS.out (HKA.out.alloc _)).own ⟨wA.heap.size, 0, none⟩ 1 1 [.string nb] rfl rfl (new_cells _ _ _ rfl) (by simp [Value.oneCell']) (by unfold maxLen; omega) (by omega) (by have := HK.out.size; have := (HKA.out).size; simp; omega) (by omega) ?_; intro v' w5 hown' hgrow hblk; have HS5 := Lib.hid (rowS_snoc (rowS_keep HS.out (HKA.out.alloc _)) hown' hgrow hblk (show Fits nb by unfold Fits; omega)); have HK5 := Lib.hid (((HK.out.trans HKA.out).alloc _).grown hgrow (fun i hi hlt => by have := (HS.out.own.lt i hi).1; omega)); clear hown' hgrow hblk))
        go_roundg (gk - 1)
        case rel => exact ⟨⟨#[32]⟩ ++ xb, acc ++ [nb], _, w5.heap.size, rfl, by rw [ByteArray.size_append]; have e : (⟨#[32]⟩ : ByteArray).size = 1 := rfl; omega, by rw [ByteArray.size_append, List.length_append, List.length_singleton]; have e : (⟨#[32]⟩ : ByteArray).size = 1 := rfl; omega, HS5.out, HK5.out, E.out⟩
        case measure => omega
    · have b10 : (((at_ s 0 : Nat) : Int) != 32) = true := by have := head_not q1 (n := 32) rfl h10; rw [bne, this]; rfl
      have E := Lib.hid (show o = acc ++ [⟨#[]⟩] by rw [HR.out, sWords_bad E0.out h10])
      clear h10
      go_wp2_with (at_builtin; refine wpList_append_sep _ rfl _ _ 22 rfl w.heap.size 9 i0 _ 1 16 Tryd.underlying22 hi hz0 hz1 hz2 rfl (by decide) (.slice av acc.length cv) acc.length css.flatten rfl (rowS_keep HS.out ((Keep.refl Any wr).alloc _)).own ⟨wr.heap.size, 0, none⟩ 1 1 [.string ⟨#[]⟩] rfl rfl (new_cells _ _ _ rfl) (by simp [Value.oneCell']) (by unfold maxLen; omega) (by omega) (by have := HK.out.size; have := ((Keep.refl Any wr)).size; simp; omega) (by omega) ?_; intro v' w5 hown' hgrow hblk; have HS5 := Lib.hid (rowS_snoc (rowS_keep HS.out ((Keep.refl Any wr).alloc _)) hown' hgrow hblk (show Fits ⟨#[]⟩ by exact fits_nil)); have HK5 := Lib.hid (((HK.out.trans (Keep.refl Any wr)).alloc _).grown hgrow (fun i hi hlt => by have := (HS.out.own.lt i hi).1; omega)); clear hown' hgrow hblk)
      obtain ⟨av5, cv5, rfl, _⟩ := HS5.out.form
      go_ret
      exact ⟨av5, cv5, by rw [E.out]; rfl, HK5.out, by rw [E.out]; exact HS5.out.slice fun i h1 h2 => ⟨h1, h2⟩⟩
end Go.Proofs.YtlmonnhgjnjniaaDoor

/- A value's text: the reference's l1Put. For every value that is ok. -/
namespace Go.Proofs.YtlmonnhgjnjniaaDoor
open Go.RowKit
set_option linter.unusedVariables false
set_option linter.unusedSimpArgs false
def L1Put (d : Nat) : Prop := ∀ (v : V) (cs : List Value) (w : World), VR w Any v cs → okV d v = true → Calls Tryd.prog 47 #[.agg cs.toArray] w (Str v.put w)
theorem slit_app (a : UInt8) (l : List UInt8) : (⟨#[a]⟩ : ByteArray) ++ ⟨l.toArray⟩ = ⟨(a :: l).toArray⟩ := by
  apply ByteArray.ext
  simp [ByteArray.data_append]
theorem squo_app (t : ByteArray) : (⟨#[39]⟩ : ByteArray) ++ t ++ ⟨#[39]⟩ = ⟨(39 :: (t.data.toList ++ [39])).toArray⟩ := by
  apply ByteArray.ext
  simp [ByteArray.data_append]
theorem outV_step0 {l : List V} {x : V} (h : l[0]? = some x) : (⟨(outV l 0).toArray⟩ : ByteArray) ++ ⟨x.put.toArray⟩ = ⟨(outV l 1).toArray⟩ := by
  rw [outV_succ h]; simp [outV, Lib.join_nil]; exact slit_app _ _
theorem outV_step {l : List V} {k : Nat} {x : V} (h : l[k]? = some x) (hk : 0 < k) : (⟨(outV l k).toArray⟩ : ByteArray) ++ ⟨#[44, 32]⟩ ++ ⟨x.put.toArray⟩ = ⟨(outV l (k + 1)).toArray⟩ := by
  rw [outV_succ h, if_neg (by omega), ← bytes_app, ← bytes_app]
theorem outV_end (l : List V) : (⟨(outV l l.length).toArray⟩ : ByteArray) ++ ⟨#[93]⟩ = ⟨(rowTxt l).toArray⟩ := by
  rw [← outV_all, ← bytes_app]
set_option maxRecDepth 20000 in
theorem l1Put_list (d : Nat) (hd : d ≤ 3) (ih : L1Put d) (num : Int) (text : ByteArray) (list : List V) (s : Value) (w : World) (hs : Vals w Any s list) (hl : list.length ≤ 6) (hok : ∀ x, x ∈ list → okV d x = true) :
    Calls Tryd.prog 47 #[.agg #[.int .i64 4, .int .i64 num, .string text, s]] w (Str (rowTxt list) w) := by
  have HS := Lib.hid hs
  have HOK := Lib.hid hok
  have IH := Lib.hid ih
  clear ih hok
  obtain ⟨ad, c, rfl, hc, hm, _⟩ := hs
  have hz : (⟨#[91]⟩ : ByteArray) = ⟨(outV list 0).toArray⟩ := by simp [outV, Lib.join_nil]
  go_enter Tryd.func47, Tryd.ntmps47
  go_wp2
  go_loopg [3, 4] (list.length + 1) (fun g o i wr => ∃ k : Nat, k ≤ list.length ∧ o = .string ⟨(outV list k).toArray⟩ ∧ i = .int .i64 k ∧ g = list.length + 1 - k ∧ wr.heap[w.heap.size]? = some (.cells #[.int .i64 4, .int .i64 num, .string text, .slice ad list.length c] 39 (0, 0)) ∧ Keep Any w wr)
  case atStart => exact ⟨0, by omega, by rw [← hz], rfl, rfl, blk_new _ _, (Keep.refl _ _).alloc _⟩
  case round =>
    obtain ⟨k, hk, rfl, rfl, hg, hB, hK⟩ := hrel
    have HG := Lib.hid hg
    have x3 := blk_cell hB 3
    simp only [List.getElem?_toArray, List.getElem?_cons_succ, List.getElem?_cons_zero] at x3
    have HB := Lib.hid hB
    have hlen := outV_len (k := k) (b := 1000000) (l := list) (fun x hx => put_len3 (HOK.out x hx) hd) hl
    have hlen : (outV list k).length ≤ 10000000 := by omega
    clear hg hz hB
    by_cases hlt : k < list.length
    · have hx : list[k]? = some list[k] := List.getElem?_eq_getElem hlt
      have HX := Lib.hid hx
      obtain ⟨ad, sa, sc, rfl, hvx, c0, c1, c2, c3⟩ := vals_at HS.out hK hx
      have hpl : list[k].put.length ≤ 1000000 := put_len3 (HOK.out _ (List.mem_of_getElem? hx)) hd
      generalize list[k] = x at *
      have HV := Lib.hid hvx
      have HO := Lib.hid (HOK.out x (List.mem_of_getElem? HX.out))
      clear hx hvx
      by_cases h0 : k = 0
      · have H0 := Lib.hid h0
        have h0' : ¬ 0 < k := by omega
        clear h0
        go_wp2_with (go_at_call 47; refine (IH.out _ _ _ HV.out HO.out).mono ?_; rintro e w2 ⟨rfl, hK2⟩)
        go_roundg (gk - 1)
        case rel => exact ⟨k + 1, by omega, by have hx := HX.out; obtain rfl : k = 0 := H0.out; exact congrArg Value.string (outV_step0 hx), by go_num, by have := HG.out; omega, blk_keep hK2 HB.out trivial, hK.trans hK2⟩
        case measure => have := HG.out; omega
      · have hp : 0 < k := by omega
        go_wp2_with (go_at_call 47; refine (IH.out _ _ _ HV.out HO.out).mono ?_; rintro e w2 ⟨rfl, hK2⟩)
        go_roundg (gk - 1)
        case rel => exact ⟨k + 1, by omega, congrArg Value.string (outV_step HX.out hp), by go_num, by have := HG.out; omega, blk_keep hK2 HB.out trivial, hK.trans hK2⟩
        case measure => have := HG.out; omega
    · obtain rfl : k = list.length := by omega
      go_wp2
      go_ret
      exact ⟨congrArg (fun s => Ending.returned (.string s)) (outV_end _), hK⟩
set_option maxRecDepth 20000 in
theorem l1Put_of (d : Nat) (hd : d + 1 ≤ 3) (ih : L1Put d) : L1Put (d + 1) := by
  intro v cs w hv hok
  obtain ⟨kind, num, text, list⟩ := v
  obtain ⟨s, rfl, h1, h2, h3, hs⟩ := VR.iff.1 hv
  by_cases e4 : kind = 4
  · subst e4
    obtain ⟨hl, ha⟩ := okV_list hok
    rw [put_list]
    exact l1Put_list d (by omega) ih num text list s w hs hl ha
  · obtain ⟨n0, n1⟩ := okV_num hok
    have n0 : -1000000000 ≤ num := n0
    have n1 : num ≤ 1000000000 := n1
    have hlen := itoa_len2 num n0 n1
    have IT := Lib.hid fun w => l1Dec_calls num w (by omega) (by omega)
    have htx := okV_text hok
    have htx : kind = 3 → text.size ≤ 16 := htx
    clear hs ih hv hok
    by_cases e1 : kind = 1
    · subst e1
      by_cases hn : num = 1
      · subst hn
        go_enter Tryd.func47, Tryd.ntmps47
        go_wp2
        go_ret
        exact ⟨by simp [V.put], (Keep.refl _ _).alloc _⟩
      · go_enter Tryd.func47, Tryd.ntmps47
        go_wp2
        go_ret
        exact ⟨by simp [V.put, hn], (Keep.refl _ _).alloc _⟩
    · by_cases e3 : kind = 3
      · have hq := htx e3
        subst e3
        go_enter Tryd.func47, Tryd.ntmps47
        go_wp2
        go_ret
        exact ⟨by rw [V.put]; exact congrArg (fun s => Ending.returned (.string s)) (squo_app _), (Keep.refl _ _).alloc _⟩
      · clear htx
        by_cases e2 : kind = 2
        · subst e2
          go_enter Tryd.func47, Tryd.ntmps47
          go_wp2_with (go_at_call 48; refine (IT.out _).mono ?_; rintro e w2 ⟨rfl, hK2⟩)
          go_ret
          exact ⟨by rw [V.put]; rfl, ((Keep.refl _ _).alloc _).trans hK2⟩
        · by_cases e5 : kind = 5
          · subst e5
            go_enter Tryd.func47, Tryd.ntmps47
            go_wp2_with (go_at_call 48; refine (IT.out _).mono ?_; rintro e w2 ⟨rfl, hK2⟩)
            go_ret
            exact ⟨by rw [V.put]; exact congrArg (fun s => Ending.returned (.string s)) (slit_app _ _), ((Keep.refl _ _).alloc _).trans hK2⟩
          · by_cases e6 : kind = 6
            · subst e6
              go_enter Tryd.func47, Tryd.ntmps47
              go_wp2_with (go_at_call 48; refine (IT.out _).mono ?_; rintro e w2 ⟨rfl, hK2⟩)
              go_ret
              exact ⟨by rw [V.put]; exact congrArg (fun s => Ending.returned (.string s)) (slit_app _ _), ((Keep.refl _ _).alloc _).trans hK2⟩
            · go_enter Tryd.func47, Tryd.ntmps47
              go_wp2
              go_ret
              exact ⟨by rw [V.put, if_neg e1, if_neg e2, if_neg e3, if_neg e4, if_neg e5, if_neg e6]; rfl, (Keep.refl _ _).alloc _⟩
theorem l1Put_all : ∀ d, d ≤ 3 → L1Put d
  | 0, _ => fun v cs w _ h => by simp [okV] at h
  | d + 1, h => l1Put_of d h (l1Put_all d (by omega))
theorem l1Put_calls : L1Put 3 := l1Put_all 3 (by omega)
end Go.Proofs.YtlmonnhgjnjniaaDoor

/- Which values are ok: the reference's test, for every value. -/
namespace Go.Proofs.YtlmonnhgjnjniaaDoor
open Go.RowKit
set_option linter.unusedVariables false
set_option linter.unusedSimpArgs false

theorem l1Text_calls (t : ByteArray) (w : World) (hs : Fits t) :
    Calls Tryd.prog 82 #[.string t] w (Quiet (textOk t) w) := by
  go_enter Tryd.func82, Tryd.ntmps82
  go_wp2
  unfold Fits at hs
  go_loop [3] (fun i => ∃ k : Nat, k ≤ t.size ∧ i = .int .i64 k ∧ ∀ j, j < k → ¬ badB t j) (fun i => t.size - (intOf i).toNat)
  case atStart => exact ⟨0, by omega, rfl, fun j hj => by omega⟩
  case round =>
    obtain ⟨k, hk, rfl, hg⟩ := hrel
    have HG := Lib.hid hg
    clear hg
    by_cases hlt : k < t.size
    · have e1 := at_eq t k hlt
      have e2 := at_lt t k
      go_wp2
      · go_ret
        exact ⟨by rw [textOk_bad hlt (by unfold badB; have := ‹_ ∨ (((at_ t k : Nat) : Int) == 39) = true›; simp at this; omega)]; rfl, rfl⟩
      · have g := ‹_ ∧ (((at_ t k : Nat) : Int) == 39) = false›
        go_round
        case rel => exact ⟨k + 1, by omega, by go_num, fun j hj => by rcases Nat.lt_succ_iff_lt_or_eq.1 hj with hj | rfl; exact HG.out j hj; unfold badB; simp at g; omega⟩
        case measure => simp [intOf]; omega
      all_goals
        go_ret
        exact ⟨by rw [textOk_bad hlt (by unfold badB; omega)]; rfl, rfl⟩
    · by_cases h16 : t.size ≤ 16
      · have hr := textOk_all h16 (fun j hj => HG.out j (by omega))
        have HR := Lib.hid hr
        clear hr
        go_wp2
        go_ret
        exact ⟨by rw [HR.out]; simp; omega, rfl⟩
      · go_wp2
        go_ret
        exact ⟨by rw [textOk_long (by omega)]; simp; omega, rfl⟩

set_option maxRecDepth 20000 in
set_option maxHeartbeats 400000 in
theorem l1Ok_list (d : Nat) (ih : ∀ (v : V) (cs : List Value) (w : World), VR w Any v cs → 1 ≤ d → d ≤ 3 → Calls Tryd.prog 65 #[.agg cs.toArray, .int .i64 d] w (Tells (okV d v) w))
    (num : Int) (text : ByteArray) (list : List V) (w : World) (a : Option Addr) (c : Nat) (h2 : I64 num) (h3 : Fits text) (hd : d + 1 ≤ 3) (hs : Sl 4 (VR w Any) w Any (.slice a list.length c) list) (hc : list.length ≤ 9223372036854775807) :
    Calls Tryd.prog 65 #[.agg #[.int .i64 4, .int .i64 num, .string text, .slice a list.length c], .int .i64 (d + 1 : Nat)] w (Tells (okV (d + 1) ⟨4, num, text, list⟩) w) := by
  have HS := Lib.hid hs
  have IH := Lib.hid ih
  clear hs ih
  have e0 : okV (d + 1) ⟨4, num, text, list⟩ = (num == 0 && (text.toList == ([] : List UInt8)) && decide ((list.length : Int) ≤ 6) && list.all (okV d)) := rfl
  have E0 := Lib.hid e0
  clear e0
  by_cases hd1 : d = 0 ∧ list ≠ []
  · obtain ⟨rfl, hne⟩ := hd1
    obtain ⟨x, r, rfl⟩ := List.exists_cons_of_ne_nil hne
    have e1 : (x :: r).all (okV 0) = false := rfl
    have E1 := Lib.hid e1
    have hl : (0 : Int) < (((x :: r).length : Nat) : Int) := by simp only [List.length_cons]; omega
    generalize (x :: r) = list at *
    clear e1 hne IH HS
    by_cases ht : text.toList = []
    all_goals
      go_enter Tryd.func65, Tryd.ntmps65
      go_wp2
      go_loopg [6] 2 (fun g i wr => i = .int .i64 0 ∧ wr.heap[w.heap.size]? = some (.cells #[.int .i64 4, .int .i64 num, .string text, .slice a list.length c] 39 (0, 0)) ∧ Keep Any w wr)
      case atStart => exact ⟨rfl, blk_new _ _, by repeat (first | exact Keep.refl _ _ | apply Keep.drewN | apply Keep.drew | apply Keep.alloc)⟩
      case round =>
        obtain ⟨rfl, hb, hK⟩ := hrel
        have b3 : wr.cell? ⟨w.heap.size, 3, none⟩ = some (.slice a list.length c) := (blk_cell hb 3).trans rfl
        clear hb
        go_wp2
        go_ret
        exact ⟨congrArg (fun b => Ending.returned (.bool b)) (by rw [E0.out, E1.out]; simp), hK⟩
  · have hd2 : 1 ≤ d ∨ list = [] := by
      by_cases h : list = []
      · exact .inr h
      · exact .inl (by have : ¬ d = 0 := fun e => hd1 ⟨e, h⟩; omega)
    clear hd1
    by_cases ht : text.toList = []
    all_goals
      go_enter Tryd.func65, Tryd.ntmps65
      go_wp2
      go_loopg [6] (list.length + 1) (fun g i wr => ∃ k : Nat, k ≤ list.length ∧ i = .int .i64 k ∧ g = list.length + 1 - k ∧ (∀ j x, j < k → list[j]? = some x → okV d x = true) ∧ wr.heap[w.heap.size]? = some (.cells #[.int .i64 4, .int .i64 num, .string text, .slice a list.length c] 39 (0, 0)) ∧ Keep Any w wr)
      case atStart => exact ⟨0, by omega, rfl, rfl, fun j x hj => by omega, blk_new _ _, by repeat (first | exact Keep.refl _ _ | apply Keep.drewN | apply Keep.drew | apply Keep.alloc)⟩
      case round =>
        obtain ⟨k, hk, rfl, hg, hall, hb, hK⟩ := hrel
        have b1 : wr.cell? ⟨w.heap.size, 1, none⟩ = some (.int .i64 num) := (blk_cell hb 1).trans rfl
        have b2 : wr.cell? ⟨w.heap.size, 2, none⟩ = some (.string text) := (blk_cell hb 2).trans rfl
        have b3 : wr.cell? ⟨w.heap.size, 3, none⟩ = some (.slice a list.length c) := (blk_cell hb 3).trans rfl
        have HB := Lib.hid hb
        have HG := Lib.hid hg
        have HA := Lib.hid hall
        clear hg hall hb
        by_cases hlt : k < list.length
        · have hx : list[k]? = some list[k] := List.getElem?_eq_getElem hlt
          have hd3 : 1 ≤ d := by rcases hd2 with h | h; exact h; subst h; simp at hlt
          have HX := Lib.hid hx
          obtain ⟨ad, sa, sc, rfl, hvx, c0, c1, c2, c3⟩ := vals_at HS.out hK hx
          generalize list[k] = x at *
          have HV := Lib.hid hvx
          have D2 := Lib.hid hd2
          clear hx hvx hd2
          go_wp2_with (go_at_call 65; refine (IH.out _ _ _ HV.out hd3 (by omega)).mono ?_; rintro e w2 ⟨rfl, hK2⟩; rcases hq : okV d x with _ | _ <;> (have HQ := Lib.hid hq; clear hq))
          · have g : okV d x = false := HQ.out
            go_ret
            exact ⟨congrArg (fun b => Ending.returned (.bool b)) (by rw [E0.out, List.all_eq_false.2 ⟨x, List.mem_of_getElem? HX.out, by rw [g]; decide⟩]; simp), hK.trans hK2⟩
          · have g : okV d x = true := HQ.out
            go_roundg (gk - 1)
            case rel => exact ⟨k + 1, by omega, by go_num, by have := HG.out; omega, fun j y hj hy => by rcases Nat.lt_succ_iff_lt_or_eq.1 hj with hj | rfl; exact HA.out j y hj hy; rw [HX.out] at hy; cases hy; exact g, blk_keep hK2 HB.out trivial, hK.trans hK2⟩
            case measure => have := HG.out; omega
        · have e1 : list.all (okV d) = true := List.all_eq_true.2 fun x hx => by
            obtain ⟨j, hj, rfl⟩ := List.getElem_of_mem hx
            exact HA.out j _ (by omega) (List.getElem?_eq_getElem hj)
          have E1 := Lib.hid e1
          have D2 := Lib.hid hd2
          clear e1 hd2
          go_wp2
          all_goals
            go_ret
            exact ⟨congrArg (fun b => Ending.returned (.bool b)) (by rw [E0.out, E1.out]; simp [*]), hK⟩

theorem okV_one (d : Nat) (num : Int) (text : ByteArray) (list : List V) : okV (d + 1) ⟨1, num, text, list⟩ = (decide (0 ≤ num) && decide (num ≤ 1) && V.bare ⟨1, num, text, list⟩) := by
  have : (num == 0 || num == 1) = (decide (0 ≤ num) && decide (num ≤ 1)) := by
    rw [Bool.eq_iff_iff]; simp; omega
  simp only [okV, this]; rfl
set_option maxRecDepth 20000 in
set_option maxHeartbeats 400000 in
theorem l1Ok_calls (d : Nat) : ∀ (v : V) (cs : List Value) (w : World), VR w Any v cs → 1 ≤ d → d ≤ 3 →
    Calls Tryd.prog 65 #[.agg cs.toArray, .int .i64 d] w (Tells (okV d v) w) := by
  induction d with
  | zero => intro v cs w hv h1 hd; omega
  | succ d ih =>
  intro v cs w hv hd0 hd
  obtain ⟨s, rfl, h1, h2, h3, hs0⟩ := VR.iff.1 hv
  obtain ⟨kind, num, text, list⟩ := v
  have hs := hs0
  obtain ⟨a, c, rfl, hc, hm, _⟩ := hs
  simp only at *
  by_cases k0 : kind = 0
  · subst k0
    go_enter Tryd.func65, Tryd.ntmps65
    go_wp2
    all_goals
      go_ret
      exact ⟨congrArg (fun b => Ending.returned (.bool b)) (by simp [okV, V.bare, *] <;> (intros; omega)), by repeat (first | exact Keep.refl _ _ | apply Keep.drewN | apply Keep.drew | apply Keep.alloc)⟩
  by_cases k1 : kind = 1
  · subst k1
    go_enter Tryd.func65, Tryd.ntmps65
    go_wp2
    all_goals
      go_ret
      exact ⟨congrArg (fun b => Ending.returned (.bool b)) (by rw [okV_one]; simp [V.bare, *] <;> (intros; omega)), by repeat (first | exact Keep.refl _ _ | apply Keep.drewN | apply Keep.drew | apply Keep.alloc)⟩
  by_cases k2 : kind = 2
  · subst k2
    go_enter Tryd.func65, Tryd.ntmps65
    go_wp2
    all_goals
      go_ret
      exact ⟨congrArg (fun b => Ending.returned (.bool b)) (by simp [okV, V.bare, *] <;> (intros; omega)), by repeat (first | exact Keep.refl _ _ | apply Keep.drewN | apply Keep.drew | apply Keep.alloc)⟩
  by_cases k5 : kind = 5
  · subst k5
    go_enter Tryd.func65, Tryd.ntmps65
    go_wp2
    all_goals
      go_ret
      exact ⟨congrArg (fun b => Ending.returned (.bool b)) (by simp [okV, V.bare, *] <;> (intros; omega)), by repeat (first | exact Keep.refl _ _ | apply Keep.drewN | apply Keep.drew | apply Keep.alloc)⟩
  by_cases k6 : kind = 6
  · subst k6
    go_enter Tryd.func65, Tryd.ntmps65
    go_wp2
    all_goals
      go_ret
      exact ⟨congrArg (fun b => Ending.returned (.bool b)) (by simp [okV, V.bare, *] <;> (intros; omega)), by repeat (first | exact Keep.refl _ _ | apply Keep.drewN | apply Keep.drew | apply Keep.alloc)⟩
  by_cases k3 : kind = 3
  · subst k3
    have TF := Lib.hid (l1Text_calls text)
    go_enter Tryd.func65, Tryd.ntmps65
    go_wp2_with (go_at_call 82; refine (TF.out _ h3).mono ?_; rintro e w' ⟨rfl, rfl⟩)
    all_goals
      go_ret
      exact ⟨congrArg (fun b => Ending.returned (.bool b)) (by simp [okV, V.bare, *] <;> (intros; omega)), by repeat (first | exact Keep.refl _ _ | apply Keep.drewN | apply Keep.drew | apply Keep.alloc)⟩
  by_cases k4 : kind = 4
  · subst k4
    exact l1Ok_list d ih num text list w a c h2 h3 hd hs0 (by omega)
  · have b0 : (kind == 0) = false := by simpa using k0
    have b1 : (kind == 1) = false := by simpa using k1
    have b2 : (kind == 2) = false := by simpa using k2
    have b3 : (kind == 3) = false := by simpa using k3
    have b4 : (kind == 4) = false := by simpa using k4
    have b5 : (kind == 5) = false := by simpa using k5
    have b6 : (kind == 6) = false := by simpa using k6
    go_enter Tryd.func65, Tryd.ntmps65
    go_wp2
    all_goals
      go_ret
      exact ⟨congrArg (fun b => Ending.returned (.bool b)) (by simp [okV, *]), (Keep.refl _ _).alloc _⟩
end Go.Proofs.YtlmonnhgjnjniaaDoor

/- Which values are ok: the reference's ValueOk. For every value. -/
namespace Go.Proofs.YtlmonnhgjnjniaaDoor
open Go.RowKit
set_option linter.unusedVariables false
set_option linter.unusedSimpArgs false

theorem specValueOk_calls (v : V) (cs : List Value) (w : World) (hv : VR w Any v cs) : Calls Tryd.prog 38 #[.agg cs.toArray] w (Tells (okV 3 v) w) := by
  have IH := Lib.hid fun w => l1Ok_calls 3 v cs w
  have HV := Lib.hid hv
  obtain ⟨s, rfl, _⟩ := VR.iff.1 hv
  clear hv
  go_enter Tryd.func38, Tryd.ntmps38
  go_wp2_with (go_at_call 65; refine (IH.out _ (HV.out.keep ((Keep.refl _ _).alloc _)) (by omega) (by omega)).mono ?_; rintro e w' ⟨rfl, hK⟩)
  go_ret
  exact ⟨rfl, ((Keep.refl _ _).alloc _).trans hK⟩
end Go.Proofs.YtlmonnhgjnjniaaDoor

/- Which texts are names: the reference's test, for every text. -/
namespace Go.Proofs.YtlmonnhgjnjniaaDoor
open Go.RowKit
set_option linter.unusedVariables false
set_option linter.unusedSimpArgs false

def inR (n a b : Int) : Bool := decide (a ≤ n) && decide (n ≤ b)
theorem l1In_calls (n a b : Int) (w : World) : Calls Tryd.prog 39 #[.int .i64 n, .int .i64 a, .int .i64 b] w (Quiet (inR n a b) w) := by
  go_enter Tryd.func39, Tryd.ntmps39
  go_wp2 <;> (go_ret; exact ⟨ret_bool (by rw [inR, Bool.eq_iff_iff]; simp [*] <;> omega), rfl⟩)
theorem l2Letter_calls (c : Nat) (w : World) : Calls Tryd.prog 63 #[.int .u8 c] w (Quiet (letter c) w) := by
  go_enter Tryd.func63, Tryd.ntmps63
  go_wp2 <;> (go_ret; exact ⟨ret_bool (by rw [letter, Bool.eq_iff_iff]; simp [*] <;> omega), rfl⟩)

theorem l2Kept_calls (t : ByteArray) (w : World) : Calls Tryd.prog 64 #[.string t] w (Tells (kept t) w) := by
  go_enter Tryd.func64, Tryd.ntmps64
  go_wp2
  go_loopg [4] 30 (fun g i wr => ∃ k : Nat, k ≤ 29 ∧ i = .int .i64 k ∧ g = 30 - k ∧ (∀ j x, j < k → words[j]? = some x → t.toList ≠ x) ∧ wr.heap[w.heap.size]? = some (.cells (words.map fun l => Value.string ⟨l.toArray⟩).toArray 9 (0, 0)) ∧ Keep Any w wr)
  case atStart => exact ⟨0, by omega, rfl, rfl, fun j x hj => by omega, blk_new _ _, (Keep.refl _ _).alloc _⟩
  case round =>
    obtain ⟨k, hk, rfl, hg, hall, hb, hK⟩ := hrel
    have HG := Lib.hid hg
    have HA := Lib.hid hall
    have HB := Lib.hid hb
    by_cases hlt : k < 29
    · have hx : words[k]? = some (words[k]'hlt) := List.getElem?_eq_getElem hlt
      have hc : wr.cell? ⟨w.heap.size, k, none⟩ = some (.string ⟨(words[k]'hlt).toArray⟩) := by
        rw [blk_cell hb, List.getElem?_toArray, List.getElem?_map, hx]; rfl
      generalize words[k]'hlt = x at *
      have HX := Lib.hid hx
      clear hg hall hb hx
      rcases hq : x == t.toList with _ | _
      · have hq2 : t.toList ≠ x := fun h => by rw [h] at hq; simp at hq
        have HQ := Lib.hid hq2
        clear hq2
        go_wp2
        go_roundg (gk - 1)
        case rel => exact ⟨k + 1, by omega, by go_num, by have := HG.out; omega, fun j y hj hy => by rcases Nat.lt_succ_iff_lt_or_eq.1 hj with hj | rfl; exact HA.out j y hj hy; rw [HX.out] at hy; cases hy; exact HQ.out, HB.out, hK⟩
        case measure => have := HG.out; omega
      · have hr : kept t = true := List.any_eq_true.2 ⟨x, List.mem_of_getElem? HX.out, by rw [beq_iff_eq] at hq ⊢; exact hq.symm⟩
        have HR := Lib.hid hr
        clear hr
        go_wp2
        go_ret
        exact ⟨ret_bool HR.out.symm, hK⟩
    · have hr : kept t = false := List.any_eq_false.2 fun x hx => by
        obtain ⟨j, hj, rfl⟩ := List.getElem_of_mem hx
        simpa using hall j _ (by have : words.length = 29 := rfl; omega) (List.getElem?_eq_getElem hj)
      have HR := Lib.hid hr
      clear hr hall hb hg
      go_wp2
      go_ret
      exact ⟨ret_bool HR.out.symm, hK⟩

set_option maxHeartbeats 1000000 in
theorem l2Name_calls (t : ByteArray) (w : World) (hs : t.size ≤ 9223372036854775807) : Calls Tryd.prog 37 #[.string t] w (Tells (nameOk t) w) := by
  have IL := Lib.hid l2Letter_calls
  have IK := Lib.hid l2Kept_calls
  have II := Lib.hid l1In_calls
  go_enter Tryd.func37, Tryd.ntmps37
  go_wp2
  go_outline
  go_loop [3] (fun i => ∃ k : Nat, k ≤ t.size ∧ i = .int .i64 k ∧ ∀ j, j < k → letter (at_ t j) = true ∨ (0 < j ∧ fig (at_ t j) = true)) (fun i => t.size - (intOf i).toNat)
  case atStart => exact ⟨0, by omega, rfl, fun j hj => by omega⟩
  case round =>
    obtain ⟨k, hk, rfl, hg⟩ := hrel
    have HG := Lib.hid hg
    clear hg
    by_cases hlt : k < t.size
    · have e2 := at_eq t k hlt
      rcases hl : letter (at_ t k) with _ | _
      · have HL := Lib.hid hl
        by_cases hf : k = 0 ∨ fig (at_ t k) = false
        · have hr : nameOk t = false := by rw [nameOk, shape_bad hlt hl hf.symm]; rfl
          have HR := Lib.hid hr
          have hf' : (((k : Nat) : Int) == 0) = true ∨ ((((k : Nat) : Int) == 0) = false ∧ (at_ t k < 48 ∨ 57 < at_ t k)) := by
            rcases hf with h | h
            · left; simp [h]
            · by_cases h0 : k = 0
              · left; simp [h0]
              · right; refine ⟨by simp; omega, ?_⟩; simp only [fig, Bool.and_eq_false_iff, decide_eq_false_iff_not] at h; omega
          clear hr hl hf
          rcases hf' with b | ⟨b, b1 | b1⟩
          all_goals
            go_wp2_with (go_at_call 63; refine (IL.out _ _).mono ?_; rintro e w' ⟨rfl, rfl⟩; rw [HL.out])
            all_goals
              go_ret
              exact ⟨ret_bool HR.out.symm, Keep.refl _ _⟩
        · have b : (((k : Nat) : Int) == 0) = false := by simp; omega
          have hfig : fig (at_ t k) = true := by rcases h : fig (at_ t k) with _ | _; exact absurd (.inr h) hf; rfl
          obtain ⟨b1, b2⟩ : 48 ≤ at_ t k ∧ at_ t k ≤ 57 := by simpa [fig] using hfig
          have HF := Lib.hid hfig
          have k0 : 0 < k := by omega
          clear hl hf hfig
          go_wp2_with (go_at_call 63; refine (IL.out _ _).mono ?_; rintro e w' ⟨rfl, rfl⟩; rw [HL.out])
          go_round
          case rel => exact ⟨k + 1, by omega, by go_num, fun j hj => by rcases Nat.lt_succ_iff_lt_or_eq.1 hj with hj | rfl; exact HG.out j hj; exact .inr ⟨k0, HF.out⟩⟩
          case measure => simp [intOf]; omega
      · have HL := Lib.hid hl
        clear hl
        go_wp2_with (go_at_call 63; refine (IL.out _ _).mono ?_; rintro e w' ⟨rfl, rfl⟩; rw [HL.out])
        go_round
        case rel => exact ⟨k + 1, by omega, by go_num, fun j hj => by rcases Nat.lt_succ_iff_lt_or_eq.1 hj with hj | rfl; exact HG.out j hj; exact .inl HL.out⟩
        case measure => simp [intOf]; omega
    · by_cases hz : 1 ≤ t.size ∧ t.size ≤ 8
      · obtain ⟨z1, z2⟩ := hz
        have hsh := shape_good z1 z2 (by rcases HG.out 0 (by omega) with h | h; exact h; omega) (fun j hj => by rcases HG.out j (by omega) with h | h; exact .inl h; exact .inr h.2)
        have hr : nameOk t = !kept t := by rw [nameOk, hsh]; rfl
        have HR := Lib.hid hr
        clear hr hsh
        rcases hq : kept t with _ | _
        all_goals
          have HQ := Lib.hid hq
          clear hq
          go_wp2_with (first | (go_at_call 39; refine (II.out _ _ _ _).mono ?_; rintro e w' ⟨rfl, rfl⟩; rw [show inR t.size 1 8 = true by simp [inR]; omega]) | (go_at_call 64; refine (IK.out _ _).mono ?_; rintro e w' ⟨rfl, hK⟩; rw [HQ.out]))
          go_ret
          exact ⟨ret_bool (by rw [HR.out, HQ.out]; rfl), hK⟩
      · have hz' : t.size = 0 ∨ 8 < t.size := by omega
        have hr : nameOk t = false := by rw [nameOk, shape_long hz']; rfl
        have HR := Lib.hid hr
        clear hr hz
        have hz2 : t.size ≤ 0 ∨ 8 < t.size := by omega
        clear hz'
        rcases hz2 with h | h
        all_goals
          go_wp2
          go_ret
          exact ⟨ret_bool HR.out.symm, Keep.refl _ _⟩
end Go.Proofs.YtlmonnhgjnjniaaDoor

/- Which replies have a form: the reference's test. For every reply. -/
namespace Go.Proofs.YtlmonnhgjnjniaaDoor
open Go.RowKit
set_option linter.unusedVariables false
set_option linter.unusedSimpArgs false

theorem fineR_badname {r : Rp} {x : ByteArray} (hx : x ∈ r.names) (h : nameOk x = false) : fineR r = false := by
  have h1 : r.names.all nameOk = false := List.all_eq_false.2 ⟨x, hx, by rw [h]; decide⟩
  have h2 : ¬ r.names = [] := fun e => by rw [e] at hx; cases hx
  unfold fineR
  split
  · rw [h1]; simp
  · split
    · simp [h2]
    · split
      · simp [h2]
      · split
        · simp [h2]
        · rfl
theorem fineR_badrow {r : Rp} {x : V} (hx : x ∈ r.row) (h : okV 3 x = false) : fineR r = false := by
  have h1 : r.row.all (okV 3) = false := List.all_eq_false.2 ⟨x, hx, by rw [h]; decide⟩
  have h2 : ¬ r.row = [] := fun e => by rw [e] at hx; cases hx
  unfold fineR
  split
  · simp [h2]
  · split
    · rw [h1]; simp
    · split
      · simp [h2]
      · split
        · simp [h2]
        · rfl
set_option maxHeartbeats 4000000 in
theorem specReplyFine_calls (r : Rp) (cs : List Value) (w : World) (hr : RR w Any r cs) : Calls Tryd.prog 14 #[.agg cs.toArray] w (Tells (fineR r) w) := by
  obtain ⟨s1, s2, rfl, h1, h2, h3, h4⟩ := hr
  obtain ⟨kind, names, row, code, more⟩ := r
  have H3 := Lib.hid h3
  have H4 := Lib.hid h4
  obtain ⟨a, c, rfl, hc, hm, _⟩ := h3
  obtain ⟨a2, c2, rfl, hc2, hm2, _⟩ := h4
  simp only at *
  have IN := Lib.hid l2Name_calls
  have II := Lib.hid l1In_calls
  have IV := Lib.hid specValueOk_calls
  go_enter Tryd.func14, Tryd.ntmps14
  go_wp2
  go_loopg [3] (names.length + 1) (fun g i wr => ∃ k : Nat, k ≤ names.length ∧ i = .int .i64 k ∧ g = names.length + 1 - k ∧ (∀ j x, j < k → names[j]? = some x → nameOk x = true) ∧ wr.heap[w.heap.size]? = some (.cells #[.int .i64 kind, .slice a names.length c, .slice a2 row.length c2, .int .i64 code, .bool more] 25 (0, 0)) ∧ Keep Any w wr)
  case atStart => exact ⟨0, by omega, rfl, rfl, fun j x hj => by omega, blk_new _ _, by repeat (first | exact Keep.refl _ _ | apply Keep.drewN | apply Keep.drew | apply Keep.alloc)⟩
  case round =>
    obtain ⟨k, hk, rfl, hg, hall, hb, hK⟩ := hrel
    have b1 : wr.cell? ⟨w.heap.size, 1, none⟩ = some (.slice a names.length c) := (blk_cell hb 1).trans rfl
    have HB := Lib.hid hb
    have HG := Lib.hid hg
    have HA := Lib.hid hall
    clear hg hall hb
    by_cases hlt : k < names.length
    · have hx : names[k]? = some names[k] := List.getElem?_eq_getElem hlt
      have HX := Lib.hid hx
      obtain ⟨ad, rfl, hF, c0⟩ := strs_at H3.out hK hx
      generalize names[k] = x at *
      clear hx
      rcases hq : nameOk x with _ | _
      all_goals
        have HQ := Lib.hid hq
        clear hq
        go_wp2_with (go_at_call 37; refine (IN.out _ _ hF).mono ?_; rintro e w2 ⟨rfl, hK2⟩; rw [HQ.out])
      · go_ret
        exact ⟨ret_bool (fineR_badname (List.mem_of_getElem? HX.out) HQ.out).symm, hK.trans hK2⟩
      · go_roundg (gk - 1)
        case rel => exact ⟨k + 1, by omega, by go_num, by have := HG.out; omega, fun j y hj hy => by rcases Nat.lt_succ_iff_lt_or_eq.1 hj with hj | rfl; exact HA.out j y hj hy; rw [HX.out] at hy; cases hy; exact HQ.out, blk_keep hK2 HB.out trivial, hK.trans hK2⟩
        case measure => have := HG.out; omega
    · have e1 : names.all nameOk = true := List.all_eq_true.2 fun x hx => by
        obtain ⟨j, hj, rfl⟩ := List.getElem_of_mem hx
        exact HA.out j _ (by omega) (List.getElem?_eq_getElem hj)
      have E1 := Lib.hid e1
      obtain ⟨wo, rfl⟩ : ∃ wo : World, wo = wr := ⟨_, rfl⟩
      clear e1 HA HG
      go_wp2
      go_loopg [4] (row.length + 1) (fun g i wr => ∃ k : Nat, k ≤ row.length ∧ i = .int .i64 k ∧ g = row.length + 1 - k ∧ (∀ j x, j < k → row[j]? = some x → okV 3 x = true) ∧ wr.heap[w.heap.size]? = some (.cells #[.int .i64 kind, .slice a names.length c, .slice a2 row.length c2, .int .i64 code, .bool more] 25 (0, 0)) ∧ Keep Any w wr)
      case atStart => exact ⟨0, by omega, rfl, rfl, fun j x hj => by omega, HB.out, hK⟩
      case round =>
        clear HB b1
        obtain ⟨k2, hk2, rfl, hg, hall, hb, hK⟩ := hrel
        have b0 : wr.cell? ⟨w.heap.size, 0, none⟩ = some (.int .i64 kind) := (blk_cell hb 0).trans rfl
        have b1 : wr.cell? ⟨w.heap.size, 1, none⟩ = some (.slice a names.length c) := (blk_cell hb 1).trans rfl
        have b2 : wr.cell? ⟨w.heap.size, 2, none⟩ = some (.slice a2 row.length c2) := (blk_cell hb 2).trans rfl
        have b3 : wr.cell? ⟨w.heap.size, 3, none⟩ = some (.int .i64 code) := (blk_cell hb 3).trans rfl
        have b4 : wr.cell? ⟨w.heap.size, 4, none⟩ = some (.bool more) := (blk_cell hb 4).trans rfl
        have HB := Lib.hid hb
        have HG := Lib.hid hg
        have HA := Lib.hid hall
        clear hg hall hb
        by_cases hlt : k2 < row.length
        · have hx : row[k2]? = some row[k2] := List.getElem?_eq_getElem hlt
          have HX := Lib.hid hx
          obtain ⟨ad, sa, sc, rfl, hvx, c0, c1, c2', c3⟩ := vals_at H4.out hK hx
          generalize row[k2] = x at *
          have HV := Lib.hid hvx
          clear hx hvx
          rcases hq : okV 3 x with _ | _
          all_goals
            have HQ := Lib.hid hq
            clear hq
            go_wp2_with (go_at_call 38; refine (IV.out _ _ _ HV.out).mono ?_; rintro e w2 ⟨rfl, hK2⟩; rw [HQ.out])
          · go_ret
            exact ⟨ret_bool (fineR_badrow (List.mem_of_getElem? HX.out) HQ.out).symm, hK.trans hK2⟩
          · go_roundg (gk - 1)
            case rel => exact ⟨k2 + 1, by omega, by go_num, by have := HG.out; omega, fun j y hj hy => by rcases Nat.lt_succ_iff_lt_or_eq.1 hj with hj | rfl; exact HA.out j y hj hy; rw [HX.out] at hy; cases hy; exact HQ.out, blk_keep hK2 HB.out trivial, hK.trans hK2⟩
            case measure => have := HG.out; omega
        · have e2 : row.all (okV 3) = true := List.all_eq_true.2 fun x hx => by
            obtain ⟨j, hj, rfl⟩ := List.getElem_of_mem hx
            exact HA.out j _ (by omega) (List.getElem?_eq_getElem hj)
          have E2 := Lib.hid e2
          clear e2 HA HG
          by_cases k1 : kind = 1
          · subst k1
            go_wp2
            all_goals (go_ret; go_light; have e1 := E1.out; have e2 := E2.out; exact ⟨ret_bool (by simp [fineR, *] <;> (intros; omega)), hK⟩)
          by_cases k2 : kind = 2
          · subst k2
            go_wp2
            all_goals (go_ret; go_light; have e1 := E1.out; have e2 := E2.out; exact ⟨ret_bool (by simp [fineR, *] <;> (intros; omega)), hK⟩)
          by_cases k3 : kind = 3
          · subst k3
            go_wp2
            all_goals (go_ret; go_light; have e1 := E1.out; have e2 := E2.out; exact ⟨ret_bool (by simp [fineR, *] <;> (intros; omega)), hK⟩)
          by_cases k4 : kind = 4
          · subst k4
            go_wp2
            all_goals (go_ret; go_light; have e1 := E1.out; have e2 := E2.out; exact ⟨ret_bool (by simp [fineR, *] <;> (intros; omega)), hK⟩)
          · have d1 : (kind == 1) = false := by simpa using k1
            have d2 : (kind == 2) = false := by simpa using k2
            have d3 : (kind == 3) = false := by simpa using k3
            have d4 : (kind == 4) = false := by simpa using k4
            go_wp2
            all_goals (go_ret; go_light; have e1 := E1.out; have e2 := E2.out; exact ⟨ret_bool (by simp [fineR, *] <;> (intros; omega)), hK⟩)
end Go.Proofs.YtlmonnhgjnjniaaDoor

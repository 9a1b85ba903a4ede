/- The program's reading of values: valueAt, valuesAt. For every text of at most 2^61 bytes. strconv.Itoa by its contract, where Go's table of powers of ten is laid; and that the table stays. For every int. A slice that a call makes and fills, place by place. No condition. A value's text: the program's putOf and rowPut, and the reference's l1Put, write the same. For every value that is ok. Which values are ok: the program's and the reference's tests, for every value. Which values are ok: the program's ValueOk. For every value. -/
import Derived.Test.YtlmonnhgjnjniaaDoorMLawReply2
import Derived.Test.YtlmonnhgjnjniaaDoorShelf
import Derived.Test.YtlmonnhgjnjniaaDoorMLawReply1
import Derived.Lib.LaidTab
import Derived.Stop.LaidErr
import Derived.MakeChecks
import Derived.Test.YtlmonnhgjnjniaaDoorMLawReply0
import Derived.Laws.OwnMore
/- The program's reading of values: valueAt, valuesAt. For every text of at most 2^61 bytes. -/
namespace Go.Proofs.YtlmonnhgjnjniaaDoor
open Go.RowKit
set_option linter.unusedVariables false
set_option linter.unusedSimpArgs false

/-- the blocks made meanwhile -/
def Mid (a b : Nat) (k : Nat) : Prop := a ≤ k ∧ k < b
theorem rest_data (t : ByteArray) (b : Nat) : (t.extract b t.size).data.toList = t.data.toList.drop b := by
  rw [Lib.extract_data, List.take_of_length_le (by rw [List.length_drop, ← Lib.size_eq]; omega)]
/-- strings.HasPrefix of what stands at a place -/
theorem hpK {p : List UInt8} {t : ByteArray} {b : Nat} {v : Bool} (h : hasP p (t.data.toList.drop b) = v) : ∀ w, Calls Tryd.prog 51 #[.string (t.extract b t.size), .string ⟨p.toArray⟩] w (Quiet v w) := fun w =>
  (Tryd.strings_HasPrefix (t.extract b t.size) ⟨p.toArray⟩ w).mono fun e w' ⟨he, hw⟩ => ⟨by rw [he, rest_data, ← h]; rfl, hw.symm⟩
theorem hasP_pos {b : UInt8} {p : List UInt8} {t : ByteArray} {a : Nat} (h : hasP (b :: p) (t.data.toList.drop a) = true) (ha : a ≤ t.size) : a < t.size := by
  rcases Nat.lt_or_ge a t.size with h1 | h1
  · exact h1
  · rw [List.drop_of_length_le (by rw [← Lib.size_eq]; exact h1)] at h; simp [hasP] at h
theorem hasP_len {p : List UInt8} {t : ByteArray} {a : Nat} (h : hasP p (t.data.toList.drop a) = true) (ha : a ≤ t.size) : a + p.length ≤ t.size := by
  have h := List.isPrefixOf_iff_prefix.1 h
  have := h.length_le
  rw [drop_len] at this
  omega
def GotV (o : Option (V × List UInt8)) (t : ByteArray) (w : World) (e : Ending) (w' : World) : Prop :=
  ∃ (v : V) (a : Option Addr) (c : Nat) (z : Int), e = .returned (.tuple #[.agg #[.int .i64 v.kind, .int .i64 v.num, .string v.text, .slice a v.list.length c], .int .i64 z]) ∧ Keep Any w w' ∧ SV w' (Mid w.heap.size w'.heap.size) v [.int .i64 v.kind, .int .i64 v.num, .string v.text, .slice a v.list.length c] ∧
    ((o = none ∧ z = -1) ∨ ∃ k : Nat, z = k ∧ k ≤ t.size ∧ o = some (v, t.data.toList.drop k))
def GotVs (o : Option (List V × List UInt8)) (t : ByteArray) (w : World) (e : Ending) (w' : World) : Prop :=
  ∃ (l : List V) (a : Option Addr) (c : Nat) (z : Int), e = .returned (.tuple #[.slice a l.length c, .int .i64 z]) ∧ Keep Any w w' ∧ SVs w' (Mid w.heap.size w'.heap.size) (.slice a l.length c) l ∧
    ((o = none ∧ z = -1 ∧ l = []) ∨ ∃ k : Nat, z = k ∧ k ≤ t.size ∧ o = some (l, t.data.toList.drop k))
def RdV (d : Nat) : Prop := ∀ (t : ByteArray) (a : Nat) (w : World), a ≤ t.size → t.size ≤ 2305843009213693952 → Calls Tryd.prog 52 #[.string t, .int .i64 a, .int .i64 d] w (GotV (rdV d (t.data.toList.drop a)) t w)
theorem infoValR : (Tryd.prog.info? 39).map (fun i => (i.zero, i.size, i.bytes)) = some (some (.agg #[.int .i64 0, .int .i64 0, .string ⟨#[]⟩, .slice none 0 0]), 4, 56) := by kernel_rfl
theorem SRow.form {α : Type} {sz : Nat} {R : World → (Nat → Prop) → α → List Value → Prop} {w : World} {base top : Nat} {T : TypeId} {v : Value} {l : List α} {css : List (List Value)} (h : SRow sz R w base top T v l css) : ∃ a c, v = .slice a l.length c ∧ (a = none → l.length = 0 ∧ c = 0) := by
  rcases h.own.2 with ⟨rfl, h0⟩ | ⟨g, cap, cur, rfl, _⟩
  · exact ⟨none, 0, by rw [h0], fun _ => ⟨h0, rfl⟩⟩
  · exact ⟨_, cap, rfl, fun h => by cases h⟩
theorem SRow.top_le {α : Type} {sz : Nat} {R : World → (Nat → Prop) → α → List Value → Prop} {w : World} {base top : Nat} {T : TypeId} {v : Value} {l : List α} {css : List (List Value)} (h : SRow sz R w base top T v l css) : top ≤ w.heap.size := by
  obtain ⟨g, h1, h2, h3, h4, h5, h6, h7, h8, h9⟩ := h; exact h8
theorem new_cells (w : World) (cs : List Value) (T : TypeId) {b : Nat} (hb : b = w.heap.size) : ∀ j u, cs[j]? = some u → (w.alloc (.cells cs.toArray T)).cell? ((⟨b, 0, none⟩ : Addr).add j) = some u := by
  subst hb
  intro j u hu
  have e : (⟨w.heap.size, 0, none⟩ : Addr).add j = ⟨w.heap.size, j, none⟩ := by unfold Addr.add; split <;> simp_all
  rw [e, blk_cell (blk_new _ _)]
  simpa using hu
theorem rdVs_none {rd : List UInt8 → Option (V × List UInt8)} {f : Nat} {l : List UInt8} (h : rd l = none) : rdVs rd f l = none := by
  cases f with
  | zero => rfl
  | succ f => rw [rdVs, h]
theorem rdVs_last {rd : List UInt8 → Option (V × List UInt8)} {f : Nat} {l r : List UInt8} {v : V} (h : rd l = some (v, r)) (h1 : hasP [93] r = true) : rdVs rd (f + 1) l = some ([v], r.drop 1) := by rw [rdVs, h]; simp only; rw [if_pos h1]
theorem rdVs_bad {rd : List UInt8 → Option (V × List UInt8)} {f : Nat} {l r : List UInt8} {v : V} (h : rd l = some (v, r)) (h1 : hasP [93] r = false) (h2 : hasP [44, 32] r = false) : rdVs rd f l = none := by
  cases f with
  | zero => rfl
  | succ f => rw [rdVs, h]; simp only; rw [h1, h2]; rfl
theorem rdVs_more {rd : List UInt8 → Option (V × List UInt8)} {f : Nat} {l r : List UInt8} {v : V} (h : rd l = some (v, r)) (h1 : hasP [93] r = false) (h2 : hasP [44, 32] r = true) : rdVs rd (f + 1) l = (rdVs rd f (r.drop 2)).map fun p => (v :: p.1, p.2) := by rw [rdVs, h]; simp only; rw [h1, h2]; rfl
theorem RdV.none' {d : Nat} (ih : RdV d) {t : ByteArray} {b : Nat} (hb : b ≤ t.size) (ht : t.size ≤ 2305843009213693952) (h : rdV d (t.data.toList.drop b) = none) :
    ∀ w, Calls Tryd.prog 52 #[.string t, .int .i64 b, .int .i64 d] w fun e w' => ∃ (v : V) (a : Option Addr) (c : Nat), e = .returned (.tuple #[.agg #[.int .i64 v.kind, .int .i64 v.num, .string v.text, .slice a v.list.length c], .int .i64 (-1)]) ∧ Keep Any w w' := fun w =>
  (ih t b w hb ht).mono fun e w' ⟨v, a, c, z, he, hK, hS, hz⟩ => by
    rcases hz with ⟨_, rfl⟩ | ⟨k, _, _, hk⟩
    · exact ⟨v, a, c, he, hK⟩
    · rw [h] at hk; cases hk
theorem RdV.some' {d : Nat} (ih : RdV d) {t : ByteArray} {b : Nat} (hb : b ≤ t.size) (ht : t.size ≤ 2305843009213693952) {v : V} {r : List UInt8} (h : rdV d (t.data.toList.drop b) = some (v, r)) :
    ∀ w, Calls Tryd.prog 52 #[.string t, .int .i64 b, .int .i64 d] w fun e w' => ∃ (a : Option Addr) (c k : Nat), e = .returned (.tuple #[.agg #[.int .i64 v.kind, .int .i64 v.num, .string v.text, .slice a v.list.length c], .int .i64 k]) ∧ Keep Any w w' ∧
      SV w' (Mid w.heap.size w'.heap.size) v [.int .i64 v.kind, .int .i64 v.num, .string v.text, .slice a v.list.length c] ∧ k ≤ t.size ∧ t.data.toList.drop k = r := fun w =>
  (ih t b w hb ht).mono fun e w' ⟨v', a, c, z, he, hK, hS, hz⟩ => by
    rcases hz with ⟨hn, _⟩ | ⟨k, rfl, h1, hk⟩
    · rw [h] at hn; cases hn
    · rw [h] at hk
      cases hk
      exact ⟨a, c, k, he, hK, hS, h1, rfl⟩
set_option maxHeartbeats 2000000 in
set_option maxRecDepth 20000 in
theorem valuesAt_of (d : Nat) (hd : d ≤ 3) (ih : RdV d) (t : ByteArray) (a most : Nat) (w : World) (ha : a ≤ t.size) (ht : t.size ≤ 2305843009213693952) (hm : most ≤ 6) :
    Calls Tryd.prog 23 #[.string t, .int .i64 a, .int .i64 most, .int .i64 d] w (GotVs (rdL (rdV d) most (t.data.toList.drop a)) t w) := by
  have IH := Lib.hid ih
  clear ih
  obtain ⟨o, ho⟩ : ∃ o, o = rdL (rdV d) most (t.data.toList.drop a) := ⟨_, rfl⟩
  rw [← ho]
  rw [rdL, List.drop_drop, List.drop_drop] at ho
  rcases c1 : hasP [91] (t.data.toList.drop a) with _ | _
  · rw [c1] at ho
    have HO := Lib.hid ho
    have H1 := Lib.hid (hpK c1)
    clear ho c1
    go_enter Tryd.func23, Tryd.ntmps23
    go_wp2_with (go_at_call 51; refine (H1.out _).mono ?_; rintro e w' ⟨rfl, rfl⟩)
    go_ret2
    exact ⟨[], none, 0, -1, rfl, Keep.refl _ _, SSl.nil, .inl ⟨HO.out, rfl, rfl⟩⟩
  · have hlt := hasP_pos c1 ha
    rw [if_pos c1] at ho
    have H1 := Lib.hid (hpK c1)
    clear c1
    rcases c2 : hasP [93] (t.data.toList.drop (a + 1)) with _ | _
    · rw [c2] at ho
      have HO := Lib.hid ho
      have H2 := Lib.hid (hpK c2)
      clear ho c2
      obtain ⟨i0, hi, hzz⟩ := Option.map_eq_some_iff.1 infoValR
      simp only [Prod.mk.injEq] at hzz
      obtain ⟨hz0, hz1, hz2⟩ := hzz
      go_enter Tryd.func23, Tryd.ntmps23
      go_wp2_with (go_at_call 51; first | ((with_reducible refine (H1.out _).mono ?_); rintro e w' ⟨rfl, rfl⟩) | ((with_reducible refine (H2.out _).mono ?_); rintro e w' ⟨rfl, rfl⟩))
      go_loopg [1, 10] (most + 1) (fun g x v wr => ∃ (acc : List V) (css : List (List Value)) (top b : Nat), b ≤ t.size ∧ acc.length ≤ most ∧ x = .int .i64 b ∧ g = most + 1 - acc.length ∧ SRow 4 SV wr w.heap.size top 39 v acc css ∧ Keep Any w wr ∧ o = (rdVs (rdV d) (most - acc.length) (t.data.toList.drop b)).map (fun p => (acc ++ p.1, p.2)))
      case atStart => exact ⟨[], [], w.heap.size, a + 1, by omega, by simp, by go_num, rfl, SRow.nil _ _ _ _ (Nat.le_refl _) (Nat.le_refl _), Keep.refl _ _, by rw [HO.out]; simp⟩
      case round =>
        clear H1 H2
        obtain ⟨acc, css, top, b, hb, hl, rfl, hg, hS, hK, hr⟩ := hrel
        have HG := Lib.hid hg
        have HR := Lib.hid hr
        have HK := Lib.hid hK
        obtain ⟨av, cv, rfl, hnil⟩ := hS.form
        have HS := Lib.hid hS
        have HN := Lib.hid hnil
        clear hg hr hS hnil hK
        by_cases hlt2 : acc.length < most
        · rcases hv : rdV d (t.data.toList.drop b) with _ | ⟨v1, r1⟩
          · have HV := Lib.hid hv
            have RN := Lib.hid (IH.out.none' hb ht hv)
            clear hv
            go_wp2_with (go_at_call 52; refine (RN.out _).mono ?_; rintro e w2 ⟨v, a2, c2, rfl, hK2⟩)
            go_ret2
            exact ⟨[], none, 0, -1, rfl, (HK.out.trans hK2).alloc _, SSl.nil, .inl ⟨by rw [HR.out, rdVs_none HV.out]; rfl, rfl, rfl⟩⟩
          · have HV := Lib.hid hv
            have RS := Lib.hid (IH.out.some' hb ht hv)
            clear hv
            rcases h3 : hasP [93] r1 with _ | _ <;> rcases h4 : hasP [44, 32] r1 with _ | _
            all_goals
              have H3 := Lib.hid h3
              have H4 := Lib.hid h4
              clear h3 h4
              go_wp2_with (first | (go_at_call 52; refine (RS.out _).mono ?_; rintro e w2 ⟨a2, c2, k, rfl, hK2, hS2, hk, hkr⟩; have HS2 := Lib.hid hS2; have P3 := Lib.hid (hpK (p := [93]) (Eq.trans (congrArg (hasP [93]) hkr) H3.out)); have P4 := Lib.hid (hpK (p := [44, 32]) (Eq.trans (congrArg (hasP [44, 32]) hkr) H4.out)); have HKR := Lib.hid hkr; have HK2 := Lib.hid hK2; clear hS2 hkr hK2) | (at_builtin; refine wpList_append_sep _ rfl _ _ 23 rfl w.heap.size 39 i0 _ 4 56 Tryd.underlying23 hi hz0 hz1 hz2 rfl (by decide) (.slice av acc.length cv) acc.length css.flatten rfl (rowV_keep HS.out ((HK2.out.alloc _).alloc _)).own ⟨w2.heap.size + 1, 0, none⟩ 1 1 [.int .i64 v1.kind, .int .i64 v1.num, .string v1.text, .slice a2 v1.list.length c2] rfl rfl (new_cells _ _ _ (by simp)) (by simp [Value.oneCell']) (by unfold maxLen; omega) (by omega) (by have := HK.out.size; have := HK2.out.size; simp; omega) (by omega) ?_; intro v' w5 hown' hgrow hblk; have HS5 := Lib.hid (rowV_snoc (rowV_keep HS.out ((HK2.out.alloc _).alloc _)) hown' hgrow hblk (HS2.out.keep (((Keep.refl _ _).alloc _).alloc _)) (fun i hi => ⟨Nat.le_trans HS.out.top_le hi.1, by have := hi.2; simp; omega⟩)); have HK5 := Lib.hid ((((HK.out.trans HK2.out).alloc _).alloc _).grown hgrow (fun i hi hlt => by have := (HS.out.own.lt i hi).1; omega)); clear hown' hgrow hblk) | (go_at_call 51; first | ((with_reducible refine (P3.out _).mono ?_); rintro e w' ⟨rfl, rfl⟩) | ((with_reducible refine (P4.out _).mono ?_); rintro e w' ⟨rfl, rfl⟩)))
            · go_ret2
              exact ⟨[], none, 0, -1, rfl, HK5.out, SSl.nil, .inl ⟨by rw [HR.out, rdVs_bad HV.out H3.out H4.out]; rfl, rfl, rfl⟩⟩
            · have kl := hasP_len (t := t) (p := [44, 32]) (Eq.trans (congrArg (hasP [44, 32]) HKR.out) H4.out) hk
              go_roundg (gk - 1)
              case rel => exact ⟨acc ++ [v1], _, w5.heap.size, k + 2, by simpa using kl, by rw [List.length_append, List.length_singleton]; omega, by go_num, by have := HG.out; rw [List.length_append, List.length_singleton]; omega, HS5.out, HK5.out, by
                rw [HR.out, show most - acc.length = (most - (acc ++ [v1]).length) + 1 by rw [List.length_append, List.length_singleton]; omega, rdVs_more HV.out H3.out H4.out, ← HKR.out, List.drop_drop, Option.map_map]
                congr 1
                funext p
                simp⟩
              case measure => have := HG.out; omega
            · go_ret2
              obtain ⟨a', c', e', _⟩ := HS5.out.form
              have q := HS5.out
              rw [e'] at q ⊢
              have kl := hasP_len (t := t) (p := [93]) (Eq.trans (congrArg (hasP [93]) HKR.out) H3.out) hk
              exact ⟨acc ++ [v1], a', c', _, by rw [List.length_append]; rfl, HK5.out, q.slice fun i h1 h2 => ⟨h1, h2⟩, .inr ⟨k + 1, by omega, by simpa using kl, by
                rw [HR.out, show most - acc.length = (most - acc.length - 1) + 1 by omega, rdVs_last HV.out H3.out, ← HKR.out, List.drop_drop]; rfl⟩⟩
            · go_ret2
              obtain ⟨a', c', e', _⟩ := HS5.out.form
              have q := HS5.out
              rw [e'] at q ⊢
              have kl := hasP_len (t := t) (p := [93]) (Eq.trans (congrArg (hasP [93]) HKR.out) H3.out) hk
              exact ⟨acc ++ [v1], a', c', _, by rw [List.length_append]; rfl, HK5.out, q.slice fun i h1 h2 => ⟨h1, h2⟩, .inr ⟨k + 1, by omega, by simpa using kl, by
                rw [HR.out, show most - acc.length = (most - acc.length - 1) + 1 by omega, rdVs_last HV.out H3.out, ← HKR.out, List.drop_drop]; rfl⟩⟩
        · go_wp2
          go_ret2
          exact ⟨[], none, 0, -1, rfl, HK.out, SSl.nil, .inl ⟨by rw [HR.out, show most - acc.length = 0 by omega]; rfl, rfl, rfl⟩⟩
    · rw [c2] at ho
      have hlt2 := hasP_pos c2 (by omega)
      have HO := Lib.hid ho
      have H2 := Lib.hid (hpK c2)
      clear ho c2
      go_enter Tryd.func23, Tryd.ntmps23
      go_wp2_with (go_at_call 51; first | ((with_reducible refine (H1.out _).mono ?_); rintro e w' ⟨rfl, rfl⟩) | ((with_reducible refine (H2.out _).mono ?_); rintro e w' ⟨rfl, rfl⟩))
      go_ret2
      exact ⟨[], none, 0, _, rfl, Keep.refl _ _, SSl.nil, .inr ⟨a + 2, by omega, by omega, HO.out⟩⟩
end Go.Proofs.YtlmonnhgjnjniaaDoor

/- strconv.Itoa by its contract, where Go's table of powers of ten is laid; and that the table stays. For every int. -/
namespace Go.Proofs.YtlmonnhgjnjniaaDoor
open Go.RowKit
set_option linter.unusedVariables false

/-- Go's table of the powers of ten is there. -/
def Tab (w : World) : Prop := Lib.TabIs Tryd.prog w "internal/strconv.uint64pow10" .u64 Lib.pow10Tab
theorem gPow : Tryd.prog.globalNamed "internal/strconv.uint64pow10" = some 1 := by kernel_rfl
theorem Tab.lt {w : World} (h : Tab w) : 1 < w.heap.size := by
  unfold Tab Lib.TabIs World.var? at h
  rw [gPow] at h
  simp only [Option.bind_some] at h
  rcases Nat.lt_or_ge 1 w.heap.size with hl | hl
  · exact hl
  · rw [Array.getElem?_eq_none hl] at h; cases h
theorem Tab.keep {ok : Nat → Prop} {w w' : World} (h : Tab w) (k : Keep ok w w') (ho : ok 1) : Tab w' := by
  have hl := h.lt
  unfold Tab Lib.TabIs World.var? at h ⊢
  rw [gPow] at h ⊢
  simp only [Option.bind_some] at h ⊢
  rw [k.block _ hl ho]
  exact h
theorem keep_grow (w : World) (n : Nat) (os : Array Obj) : Keep Any w (Sort.grow (w.drewN n) os) :=
  ⟨rfl, rfl, rfl, by simp [Sort.grow], fun k hk _ => by simp only [Sort.grow, World.heap_drewN]; rw [Array.getElem?_append_left hk]⟩
theorem itoa_calls (n : Int) (w : World) (h0 : -9223372036854775808 ≤ n) (h1 : n ≤ 9223372036854775807) (ht : Tab w) :
    Calls Tryd.prog 34 #[.int .i64 n] w (Str (Lib.itoa n) w) :=
  (Tryd.strconv_Itoa n h0 h1 w ht).mono fun e w' ⟨he, k, os, hw⟩ => ⟨he, hw ▸ keep_grow w k os⟩
theorem itoa_len (n : Nat) (h : n ≤ 9223372036854775807) : (Lib.itoa n).length ≤ 20 := by
  simp only [Lib.itoa]; rw [if_neg (by omega)]; exact dec_len _ (by simp; omega)
end Go.Proofs.YtlmonnhgjnjniaaDoor

/- A slice that a call makes and fills, place by place. No condition. -/
namespace Go.Proofs.YtlmonnhgjnjniaaDoor
open Go.RowKit
set_option linter.unusedVariables false

/-- make([]T, n) -/
theorem make_run {P : Program} (t e : TypeId) (z : Value) (size bytes : Nat) (ht : P.underlying t = some (.slice e)) (hinfo : (P.info? e).map (fun i => (i.zero, i.size, i.bytes)) = some (some z, size, bytes)) (n : Nat) (hb : bytes * n ≤ 281474976710656) (hn : n ≤ 9223372036854775807) :
    ∀ W : World, (Instr.makeSlice t (.int .i64 (n : Int)) (.int .i64 (n : Int))).run P W = .ok (.slice (some ⟨W.heap.size, 0, none⟩) n n) (W.alloc (.cells (madeCells z.cells (n * size)) e)) := by
  intro W
  obtain ⟨i, hi, hzz⟩ := Option.map_eq_some_iff.1 hinfo
  simp only [Prod.mk.injEq] at hzz
  obtain ⟨hz, hs, hb'⟩ := hzz
  subst hs
  have h1 : (i.bytes : Int) * (n : Int) ≤ 281474976710656 := by
    have h : ((i.bytes * n : Nat) : Int) ≤ 281474976710656 := by rw [hb']; omega
    rwa [Int.natCast_mul] at h
  have hr := run_make (P := P) W t e i z ht hi hz .i64 .i64 n n (by omega) (Int.le_refl _) h1 (by omega)
  simpa using hr
/-- The first k of l's elements lie in block g, which has room for n. -/
def Fill {α : Type} (sz : Nat) (R : α → List Value → Prop) (w : World) (g : Nat) (T : TypeId) (n : Nat) (l : List α) (k : Nat) : Prop :=
  ∃ cur, w.heap[g]? = some (.cells cur T (0, 0)) ∧ cur.size = n * sz ∧ ∀ j x, j < k → l[j]? = some x → ∃ cs, R x cs ∧ cs.length = sz ∧ ∀ i u, cs[i]? = some u → cur[j * sz + i]? = some u
theorem Fill.made {α : Type} {sz : Nat} {R : α → List Value → Prop} {T : TypeId} {n : Nat} {l : List α} (w : World) (z : Array Value) : Fill sz R (w.alloc (.cells (madeCells z (n * sz)) T)) w.heap.size T n l 0 :=
  ⟨_, blk_new _ _, size_madeCells _ _, fun j x hj => by omega⟩
theorem Fill.keep {α : Type} {sz : Nat} {R R' : α → List Value → Prop} {w w' : World} {g : Nat} {T : TypeId} {n k : Nat} {l : List α} {ok : Nat → Prop} (h : Fill sz R w g T n l k) (hk : Keep ok w w') (ho : ok g) (hR : ∀ x cs, R x cs → R' x cs) : Fill sz R' w' g T n l k := by
  obtain ⟨cur, hb, hs, hf⟩ := h
  exact ⟨cur, blk_keep hk hb ho, hs, fun j x hj hx => by obtain ⟨cs, h1, h2, h3⟩ := hf j x hj hx; exact ⟨cs, hR x cs h1, h2, h3⟩⟩
theorem Fill.lt {α : Type} {sz : Nat} {R : α → List Value → Prop} {w : World} {g : Nat} {T : TypeId} {n k : Nat} {l : List α} (h : Fill sz R w g T n l k) : g < w.heap.size := by obtain ⟨cur, hb, _⟩ := h; exact blk_lt hb
theorem Fill.cell {α : Type} {sz : Nat} {R : α → List Value → Prop} {w w' : World} {g : Nat} {T : TypeId} {n k : Nat} {l : List α} {ok : Nat → Prop} (h : Fill sz R w g T n l k) (hk : Keep ok w w') (ho : ok g) (o : Nat) (hl : o < n * sz) : ∃ v, w'.cell? ⟨g, o, none⟩ = some v := by
  obtain ⟨cur, hb, hs, _⟩ := h
  exact ⟨_, (blk_cell (blk_keep hk hb ho) o).trans (Array.getElem?_eq_getElem (by omega))⟩
theorem Fill.free {α : Type} {sz : Nat} {R : α → List Value → Prop} {w w' : World} {g : Nat} {T : TypeId} {n k : Nat} {l : List α} {ok : Nat → Prop} (h : Fill sz R w g T n l k) (hk : Keep ok w w') (ho : ok g) (o : Nat) : w'.frozen? ⟨g, o, none⟩ = false := by
  obtain ⟨cur, hb, _⟩ := h
  exact blk_frozen (blk_keep hk hb ho) o
/-- One more: what stands at its place; ahead of it nothing has turned. -/
theorem Fill.snoc {α : Type} {sz : Nat} {R R' : α → List Value → Prop} {w w' : World} {g : Nat} {T : TypeId} {n k : Nat} {l : List α} {x : α} {cs : List Value} (h : Fill sz R w g T n l k) (hR : ∀ x cs, R x cs → R' x cs) (hx : l[k]? = some x) (hc : R' x cs) (hl : cs.length = sz)
    (hw : ∀ cur, w.heap[g]? = some (.cells cur T (0, 0)) → cur.size = n * sz → ∃ cur', w'.heap[g]? = some (.cells cur' T (0, 0)) ∧ cur'.size = cur.size ∧ (∀ i, i < k * sz → cur'[i]? = cur[i]?) ∧ ∀ i u, cs[i]? = some u → cur'[k * sz + i]? = some u) : Fill sz R' w' g T n l (k + 1) := by
  obtain ⟨cur, hb, hs, hf⟩ := h
  obtain ⟨cur', hb', hs', h1, h2⟩ := hw cur hb hs
  refine ⟨cur', hb', hs'.trans hs, fun j y hj hy => ?_⟩
  rcases Nat.lt_succ_iff_lt_or_eq.1 hj with hj | rfl
  · obtain ⟨ds, g1, g2, g3⟩ := hf j y hj hy
    refine ⟨ds, hR y ds g1, g2, fun i u hu => ?_⟩
    have hi : i < sz := by rw [← g2]; exact (List.getElem?_eq_some_iff.1 hu).1
    rw [h1 _ (by calc j * sz + i < j * sz + sz := by omega
                      _ = (j + 1) * sz := by rw [Nat.add_mul, Nat.one_mul]
                      _ ≤ k * sz := Nat.mul_le_mul_right _ hj)]
    exact g3 i u hu
  · rw [hx] at hy; cases hy
    exact ⟨cs, hc, hl, h2⟩
theorem Fill.slice {α : Type} {sz : Nat} {R : α → List Value → Prop} {w : World} {g : Nat} {T : TypeId} {l : List α} (h : Fill sz R w g T l.length l l.length) (hn : l.length ≤ 9223372036854775807) {ok : Nat → Prop} (ho : ok g) : Sl sz R w ok (.slice (some ⟨g, 0, none⟩) l.length l.length) l := by
  obtain ⟨cur, hb, hs, hf⟩ := h
  refine ⟨_, _, rfl, Nat.le_refl _, hn, fun _ => ⟨_, rfl, ho, fun j x hx => ?_⟩⟩
  obtain ⟨cs, h1, h2, h3⟩ := hf j x (List.getElem?_eq_some_iff.1 hx).1 hx
  refine ⟨cs, h1, h2, fun i u hu => ?_⟩
  have e : (⟨g, 0, none⟩ : Addr).add (j * sz + i) = ⟨g, j * sz + i, none⟩ := by unfold Addr.add; split <;> simp_all
  rw [e, blk_cell hb]
  exact h3 i u hu
end Go.Proofs.YtlmonnhgjnjniaaDoor

/- A value's text: the program's putOf and rowPut, and the reference's l1Put, write the same. For every value that is ok. -/
namespace Go.Proofs.YtlmonnhgjnjniaaDoor
open Go.RowKit
set_option linter.unusedVariables false
set_option linter.unusedSimpArgs false

abbrev gT : Nat := 1
def PutOf (d : Nat) : Prop := ∀ (v : V) (cs : List Value) (w : World), VR w Any v cs → okV d v = true → Tab w → Calls Tryd.prog 58 #[.agg cs.toArray] w (Str v.put w)
theorem infoStrP : (Tryd.prog.info? 9).map (fun i => (i.zero, i.size, i.bytes)) = some (some (.string ⟨#[]⟩), 1, 16) := by kernel_rfl
theorem row_join (l : List UInt8) : (⟨#[91]⟩ : ByteArray) ++ ⟨l.toArray⟩ ++ ⟨#[93]⟩ = ⟨(91 :: (l ++ [93])).toArray⟩ := by
  apply ByteArray.ext
  simp [ByteArray.data_append]
set_option maxRecDepth 20000 in
theorem rowPut_of (d : Nat) (hd : d ≤ 3) (ih : PutOf d) (list : List V) (s : Value) (w : World) (hs : Vals w Any s list) (hl : list.length ≤ 6) (hok : ∀ x, x ∈ list → okV d x = true) (ht : Tab w) :
    Calls Tryd.prog 33 #[s] w (Str (rowTxt list) w) := by
  have HS := Lib.hid hs
  have HOK := Lib.hid hok
  have IH := Lib.hid ih
  have HT := Lib.hid ht
  clear ih ht hok
  obtain ⟨ad, c, rfl, hc, hm, _⟩ := hs
  have hmk := make_run (P := Tryd.prog) 22 9 _ 1 16 Tryd.underlying22 infoStrP list.length (by omega) (by omega)
  go_enter Tryd.func33, Tryd.ntmps33
  go_wp2
  go_loopg [11] (list.length + 1) (fun g i wr => ∃ k : Nat, k ≤ list.length ∧ i = .int .i64 k ∧ g = list.length + 1 - k ∧ Fill 1 (fun (x : V) cs => cs = [.string ⟨x.put.toArray⟩]) wr w.heap.size 9 list.length list k ∧ Keep Any w wr)
  case atStart => exact ⟨0, by omega, rfl, rfl, by simpa using Fill.made (sz := 1) w _, (Keep.refl _ _).alloc _⟩
  case round =>
    obtain ⟨k, hk, rfl, hg, hF, hK⟩ := hrel
    have HG := Lib.hid hg
    clear hg
    by_cases hlt : k < list.length
    · have hx : list[k]? = some list[k] := List.getElem?_eq_getElem hlt
      have HX := Lib.hid hx
      obtain ⟨ad, sa, sc, rfl, hvx, c0, c1, c2, c3⟩ := vals_at HS.out hK hx
      generalize list[k] = x at *
      have HV := Lib.hid hvx
      have HF := Lib.hid hF
      have HO := Lib.hid (HOK.out x (List.mem_of_getElem? HX.out))
      clear hx hvx hF
      go_wp2_with (go_at_call 58; refine (IH.out _ _ _ (HV.out.keep ((Keep.refl _ _).alloc _)) HO.out ((HT.out.keep hK trivial).keep ((Keep.refl Any _).alloc _) trivial)).mono ?_; rintro e w2 ⟨rfl, hK2⟩; have hK3 := ((Keep.refl _ _).alloc _).trans hK2; obtain ⟨v0, d0⟩ := HF.out.cell hK3 trivial k (by omega); have f0 := HF.out.free hK3 trivial k)
      go_roundg (gk - 1)
      case rel => exact ⟨k + 1, by omega, by go_num, by have := HG.out; omega, by
        refine (HF.out.keep hK3 trivial fun _ _ h => h).snoc (fun _ _ h => h) HX.out rfl rfl fun cur hb hs => ⟨_, blk_set hb k _, by simp, fun i hi => by rw [Array.getElem?_setIfInBounds_ne (by omega)], fun i u hu => ?_⟩
        obtain ⟨rfl, rfl⟩ : i = 0 ∧ .string ⟨x.put.toArray⟩ = u := by cases i with | zero => exact ⟨rfl, by simpa using hu⟩ | succ i => simp at hu
        rw [show k * 1 + 0 = k by omega, Array.getElem?_setIfInBounds_self_of_lt (by omega)], (hK.trans hK3).set _ _ (fun h => by have : w.heap.size < w.heap.size := h; omega)⟩
      case measure => have := HG.out; omega
    · obtain rfl : k = list.length := by omega
      have HF := Lib.hid hF
      have hb := join_len 1000000 (list.map V.put) fun x hx => by obtain ⟨y, hy, rfl⟩ := List.mem_map.1 hx; exact put_len3 (HOK.out y hy) hd
      have hb2 : (list.map V.put).length * (1000000 + 2) ≤ 6 * (1000000 + 2) := Nat.mul_le_mul_right _ (by simpa using hl)
      have hj : (Lib.join (list.map V.put) [44, 32]).length ≤ 100000000 := by omega
      have ej : ((list.map fun x : V => (⟨x.put.toArray⟩ : ByteArray)).map (·.data.toList)) = list.map V.put := by simp
      have J := Tryd.strings_Join w.heap.size 0 list.length (list.map fun x : V => (⟨x.put.toArray⟩ : ByteArray)) ⟨#[44, 32]⟩ wr (fun j x hx => by
        obtain ⟨cur, hb, hsz, hf⟩ := HF.out
        obtain ⟨v, hv, rfl⟩ := List.getElem?_map .. ▸ hx |> Option.map_eq_some_iff.1
        obtain ⟨cs, rfl, _, hcs⟩ := hf j v (List.getElem?_eq_some_iff.1 hv).1 hv
        rw [blk_cell hb]
        have := hcs 0 _ rfl
        simpa using this) HF.out.lt (by simp; omega) (by simp) (by rw [ej]; exact Nat.le_trans hj (by omega))
      rw [ej, List.length_map] at J
      have JJ := Lib.hid J
      clear hF hb hb2 ej J
      go_wp2_with (go_at_call 59; refine JJ.out.mono ?_; rintro e w2 ⟨rfl, hB⟩)
      go_ret
      exact ⟨congrArg (fun s => Ending.returned (.string s)) (row_join _), hK.trans (Keep.of_below hB)⟩
theorem lit_app (a : UInt8) (l : List UInt8) : (⟨#[a]⟩ : ByteArray) ++ ⟨l.toArray⟩ = ⟨(a :: l).toArray⟩ := by
  apply ByteArray.ext
  simp [ByteArray.data_append]
theorem quo_app (t : ByteArray) : (⟨#[39]⟩ : ByteArray) ++ t ++ ⟨#[39]⟩ = ⟨(39 :: (t.data.toList ++ [39])).toArray⟩ := by
  apply ByteArray.ext
  simp [ByteArray.data_append]
set_option maxRecDepth 20000 in
theorem putOf_of (d : Nat) (hd : d + 1 ≤ 3) (ih : PutOf d) : PutOf (d + 1) := by
  intro v cs w hv hok ht
  obtain ⟨kind, num, text, list⟩ := v
  obtain ⟨s, rfl, h1, h2, h3, hs⟩ := VR.iff.1 hv
  obtain ⟨n0, n1⟩ := okV_num hok
  have n0 : -1000000000 ≤ num := n0
  have n1 : num ≤ 1000000000 := n1
  have hlen := itoa_len2 num n0 n1
  have IT := Lib.hid fun w h => itoa_calls num w (by omega) (by omega) h
  by_cases e4 : kind = 4
  · subst e4
    obtain ⟨hl, ha⟩ := okV_list hok
    rw [put_list]
    have R := Lib.hid (rowPut_of d (by omega) ih list s _ (Vals.keep hs ((Keep.refl Any w).alloc (.cells #[.int .i64 4, .int .i64 num, .string text, s] 39 (0, 0)))) hl ha (ht.keep ((Keep.refl Any _).alloc _) trivial))
    clear hs ha hv ih IT
    go_enter Tryd.func58, Tryd.ntmps58
    go_wp2_with (go_at_call 33; refine R.out.mono ?_; rintro e w2 ⟨rfl, hK2⟩)
    go_ret
    exact ⟨rfl, ((Keep.refl _ _).alloc _).trans hK2⟩
  · have htx := okV_text hok
    have htx : kind = 3 → text.size ≤ 16 := htx
    have HT := Lib.hid ht
    clear ht hs ih hv hok
    by_cases e1 : kind = 1
    · subst e1
      by_cases hn : num = 1
      · subst hn
        go_enter Tryd.func58, Tryd.ntmps58
        go_wp2
        go_ret
        exact ⟨by simp [V.put], (Keep.refl _ _).alloc _⟩
      · go_enter Tryd.func58, Tryd.ntmps58
        go_wp2
        go_ret
        exact ⟨by simp [V.put, hn], (Keep.refl _ _).alloc _⟩
    · by_cases e3 : kind = 3
      · have hq := htx e3
        subst e3
        go_enter Tryd.func58, Tryd.ntmps58
        go_wp2
        go_ret
        exact ⟨by rw [V.put]; exact congrArg (fun s => Ending.returned (.string s)) (quo_app _), (Keep.refl _ _).alloc _⟩
      · clear htx
        by_cases e2 : kind = 2
        · subst e2
          go_enter Tryd.func58, Tryd.ntmps58
          go_wp2_with (go_at_call 34; refine (IT.out _ (HT.out.keep ((Keep.refl Any _).alloc _) trivial)).mono ?_; rintro e w2 ⟨rfl, hK2⟩)
          go_ret
          exact ⟨by rw [V.put]; rfl, ((Keep.refl _ _).alloc _).trans hK2⟩
        · by_cases e5 : kind = 5
          · subst e5
            go_enter Tryd.func58, Tryd.ntmps58
            go_wp2_with (go_at_call 34; refine (IT.out _ (HT.out.keep ((Keep.refl Any _).alloc _) trivial)).mono ?_; rintro e w2 ⟨rfl, hK2⟩)
            go_ret
            exact ⟨by rw [V.put]; exact congrArg (fun s => Ending.returned (.string s)) (lit_app _ _), ((Keep.refl _ _).alloc _).trans hK2⟩
          · by_cases e6 : kind = 6
            · subst e6
              go_enter Tryd.func58, Tryd.ntmps58
              go_wp2_with (go_at_call 34; refine (IT.out _ (HT.out.keep ((Keep.refl Any _).alloc _) trivial)).mono ?_; rintro e w2 ⟨rfl, hK2⟩)
              go_ret
              exact ⟨by rw [V.put]; exact congrArg (fun s => Ending.returned (.string s)) (lit_app _ _), ((Keep.refl _ _).alloc _).trans hK2⟩
            · go_enter Tryd.func58, Tryd.ntmps58
              go_wp2
              go_ret
              exact ⟨by rw [V.put, if_neg e1, if_neg e2, if_neg e3, if_neg e4, if_neg e5, if_neg e6]; rfl, (Keep.refl _ _).alloc _⟩
theorem putOf_all : ∀ d, d ≤ 3 → PutOf d
  | 0, _ => fun v cs w _ h => by simp [okV] at h
  | d + 1, h => putOf_of d h (putOf_all d (by omega))
theorem putOf_calls : PutOf 3 := putOf_all 3 (by omega)
theorem rowPut_calls (list : List V) (s : Value) (w : World) (hs : Vals w Any s list) (hl : list.length ≤ 6) (hok : ∀ x, x ∈ list → okV 3 x = true) (ht : Tab w) :
    Calls Tryd.prog 33 #[s] w (Str (rowTxt list) w) := rowPut_of 3 (by omega) putOf_calls list s w hs hl hok ht
end Go.Proofs.YtlmonnhgjnjniaaDoor

/- Which values are ok: the program's and the reference's tests, for every value. -/
namespace Go.Proofs.YtlmonnhgjnjniaaDoor
open Go.RowKit
set_option linter.unusedVariables false
set_option linter.unusedSimpArgs false


def badB (t : ByteArray) (k : Nat) : Prop := at_ t k < 32 ∨ 126 < at_ t k ∨ at_ t k = 39
theorem textOk_bad {t : ByteArray} {k : Nat} (h : k < t.size) (hb : badB t k) : textOk t = false := by
  rw [textOk, Bool.and_eq_false_iff]
  right
  rw [List.all_eq_false]
  have hl : k < t.data.toList.length := by rw [← Lib.size_eq]; exact h
  refine ⟨t.data.toList[k], List.getElem_mem hl, ?_⟩
  have e : (t.data.toList[k]).toNat = at_ t k := by rw [← at_eq t k h]; rfl
  rw [e]
  unfold badB at hb
  simp
  omega
theorem textOk_all {t : ByteArray} (h : t.size ≤ 16) (hb : ∀ k, k < t.size → ¬ badB t k) : textOk t = true := by
  rw [textOk, Bool.and_eq_true]
  refine ⟨by simpa using h, ?_⟩
  rw [List.all_eq_true]
  intro x hx
  obtain ⟨k, hk, rfl⟩ := List.getElem_of_mem hx
  have h' : k < t.size := by rw [Lib.size_eq]; exact hk
  have e : (t.data.toList[k]).toNat = at_ t k := by rw [← at_eq t k h']; rfl
  rw [e]
  have := hb k h'
  unfold badB at this
  simp
  omega
theorem textOk_long {t : ByteArray} (h : 16 < t.size) : textOk t = false := by rw [textOk, Bool.and_eq_false_iff]; left; simp; omega
theorem textFits_calls (t : ByteArray) (w : World) (hs : Fits t) :
    Calls Tryd.prog 81 #[.string t] w (Quiet (textOk t) w) := by
  by_cases h : 16 < t.size
  · go_enter Tryd.func81, Tryd.ntmps81
    go_wp2
    go_ret
    exact ⟨by rw [textOk_long h]; rfl, rfl⟩
  · go_enter Tryd.func81, Tryd.ntmps81
    go_wp2
    go_loop [3] (fun i => ∃ k : Nat, k ≤ t.size ∧ i = .int .i64 k ∧ ∀ j, j < k → ¬ badB t j) (fun i => t.size - (intOf i).toNat)
    case atStart => exact ⟨0, by omega, rfl, fun j hj => by omega⟩
    case round =>
      obtain ⟨k, hk, rfl, hg⟩ := hrel
      have HG := Lib.hid hg
      clear hg
      by_cases hlt : k < t.size
      · have e1 := at_eq t k hlt
        have e2 := at_lt t k
        go_wp2
        · go_ret
          exact ⟨by rw [textOk_bad hlt (by unfold badB; have := ‹_ ∨ (((at_ t k : Nat) : Int) == 39) = true›; simp at this; omega)]; rfl, rfl⟩
        · have g := ‹_ ∧ (((at_ t k : Nat) : Int) == 39) = false›
          go_round
          case rel => exact ⟨k + 1, by omega, by go_num, fun j hj => by rcases Nat.lt_succ_iff_lt_or_eq.1 hj with hj | rfl; exact HG.out j hj; unfold badB; simp at g; omega⟩
          case measure => simp [intOf]; omega
        all_goals
          go_ret
          exact ⟨by rw [textOk_bad hlt (by unfold badB; omega)]; rfl, rfl⟩
      · have hr := textOk_all (by omega) (fun j hj => HG.out j (by omega))
        have HR := Lib.hid hr
        clear hr
        go_wp2
        go_ret
        exact ⟨by rw [HR.out]; rfl, rfl⟩
set_option maxRecDepth 20000 in
set_option maxHeartbeats 400000 in
theorem valueFits_list (d : Nat) (ih : ∀ (v : V) (cs : List Value) (w : World), VR w Any v cs → d ≤ 3 → Calls Tryd.prog 62 #[.agg cs.toArray, .int .i64 d] w (Tells (okV d v) w))
    (num : Int) (text : ByteArray) (list : List V) (w : World) (a : Option Addr) (c : Nat) (h2 : I64 num) (h3 : Fits text) (hd : d + 1 ≤ 3) (hs : Sl 4 (VR w Any) w Any (.slice a list.length c) list) :
    Calls Tryd.prog 62 #[.agg #[.int .i64 4, .int .i64 num, .string text, .slice a list.length c], .int .i64 (d + 1 : Nat)] w (Tells (okV (d + 1) ⟨4, num, text, list⟩) w) := by
  have HS := Lib.hid hs
  have IH := Lib.hid ih
  clear hs ih
  by_cases hb : num = 0 ∧ text.toList = [] ∧ list.length ≤ 6
  · obtain ⟨rfl, ht, hl⟩ := hb
    have e0 : okV (d + 1) ⟨4, 0, text, list⟩ = list.all (okV d) := by simp [okV, *]; omega
    have E0 := Lib.hid e0
    clear e0
    go_enter Tryd.func62, Tryd.ntmps62
    go_wp2
    go_loopg [126] (list.length + 1) (fun g i wr => ∃ k : Nat, k ≤ list.length ∧ i = .int .i64 k ∧ g = list.length + 1 - k ∧ (∀ j x, j < k → list[j]? = some x → okV d x = true) ∧ Keep Any w wr)
    case atStart => exact ⟨0, by omega, rfl, rfl, fun j x hj => by omega, by repeat (first | exact Keep.refl _ _ | apply Keep.drewN | apply Keep.drew | apply Keep.alloc)⟩
    case round =>
      obtain ⟨k, hk, rfl, hg, hall, hK⟩ := hrel
      have HG := Lib.hid hg
      have HA := Lib.hid hall
      clear hg hall
      by_cases hlt : k < list.length
      · have hx : list[k]? = some list[k] := List.getElem?_eq_getElem hlt
        have HX := Lib.hid hx
        obtain ⟨ad, sa, sc, rfl, hvx, c0, c1, c2, c3⟩ := vals_at HS.out hK hx
        generalize list[k] = x at *
        have HV := Lib.hid hvx
        clear hx hvx
        go_wp2_with (go_at_call 62; refine (IH.out _ _ _ (HV.out.keep ((Keep.refl _ _).alloc _)) (by omega)).mono ?_; rintro e w2 ⟨rfl, hK2⟩)
        · have g : okV d x = false := by simpa using ‹(!okV d x) = true›
          go_ret
          exact ⟨congrArg (fun b => Ending.returned (.bool b)) (by rw [E0.out]; exact (List.all_eq_false.2 ⟨x, List.mem_of_getElem? HX.out, by rw [g]; decide⟩).symm), (hK.alloc _).trans hK2⟩
        · have g : okV d x = true := by simpa using ‹(!okV d x) = false›
          go_roundg (gk - 1)
          case rel => exact ⟨k + 1, by omega, by go_num, by have := HG.out; omega, fun j y hj hy => by rcases Nat.lt_succ_iff_lt_or_eq.1 hj with hj | rfl; exact HA.out j y hj hy; rw [HX.out] at hy; cases hy; exact g, (hK.alloc _).trans hK2⟩
          case measure => have := HG.out; omega
      · have e1 : list.all (okV d) = true := List.all_eq_true.2 fun x hx => by
          obtain ⟨j, hj, rfl⟩ := List.getElem_of_mem hx
          exact HA.out j _ (by omega) (List.getElem?_eq_getElem hj)
        have E1 := Lib.hid e1
        clear e1
        go_wp2
        go_ret
        exact ⟨congrArg (fun b => Ending.returned (.bool b)) (by rw [E0.out, E1.out]), hK⟩
  · have e0 : okV (d + 1) ⟨4, num, text, list⟩ = false := by simp [okV]; intro a b c; exact absurd ⟨a, b, by omega⟩ hb
    have E0 := Lib.hid e0
    clear e0
    have hb' : num ≠ 0 ∨ (num = 0 ∧ text.toList ≠ []) ∨ (num = 0 ∧ text.toList = [] ∧ 6 < list.length) := by
      by_cases a1 : num = 0 <;> by_cases a2 : text.toList = [] <;> simp_all <;> omega
    clear hb
    rcases hb' with a1 | ⟨a1, a2⟩ | ⟨a1, a2, a3⟩
    all_goals
      try subst a1
      go_enter Tryd.func62, Tryd.ntmps62
      go_wp2
      go_ret
      exact ⟨congrArg (fun b => Ending.returned (.bool b)) (by rw [E0.out]), by repeat (first | exact Keep.refl _ _ | apply Keep.drewN | apply Keep.drew | apply Keep.alloc)⟩
set_option maxRecDepth 20000 in
set_option maxHeartbeats 400000 in
theorem valueFits_calls (d : Nat) : ∀ (v : V) (cs : List Value) (w : World), VR w Any v cs → d ≤ 3 →
    Calls Tryd.prog 62 #[.agg cs.toArray, .int .i64 d] w (Tells (okV d v) w) := by
  induction d with
  | zero =>
    intro v cs w hv hd
    go_enter Tryd.func62, Tryd.ntmps62
    go_wp2
    go_ret
    exact ⟨rfl, (Keep.refl _ _).alloc _⟩
  | succ d ih =>
  intro v cs w hv hd
  obtain ⟨s, rfl, h1, h2, h3, hs0⟩ := VR.iff.1 hv
  obtain ⟨kind, num, text, list⟩ := v
  have hs := hs0
  obtain ⟨a, c, rfl, hc, hm, _⟩ := hs
  simp only at *
  by_cases k0 : kind = 0
  · subst k0
    go_enter Tryd.func62, Tryd.ntmps62
    go_wp2
    all_goals
      go_ret
      exact ⟨congrArg (fun b => Ending.returned (.bool b)) (by simp [okV, V.bare, *] <;> (intros; omega)), by repeat (first | exact Keep.refl _ _ | apply Keep.drewN | apply Keep.drew | apply Keep.alloc)⟩
  by_cases k1 : kind = 1
  · subst k1
    go_enter Tryd.func62, Tryd.ntmps62
    go_wp2
    all_goals
      go_ret
      exact ⟨congrArg (fun b => Ending.returned (.bool b)) (by simp [okV, V.bare, *] <;> (intros; omega)), by repeat (first | exact Keep.refl _ _ | apply Keep.drewN | apply Keep.drew | apply Keep.alloc)⟩
  by_cases k2 : kind = 2
  · subst k2
    go_enter Tryd.func62, Tryd.ntmps62
    go_wp2
    all_goals
      go_ret
      exact ⟨congrArg (fun b => Ending.returned (.bool b)) (by simp [okV, V.bare, *] <;> (intros; omega)), by repeat (first | exact Keep.refl _ _ | apply Keep.drewN | apply Keep.drew | apply Keep.alloc)⟩
  by_cases k5 : kind = 5
  · subst k5
    go_enter Tryd.func62, Tryd.ntmps62
    go_wp2
    all_goals
      go_ret
      exact ⟨congrArg (fun b => Ending.returned (.bool b)) (by simp [okV, V.bare, *] <;> (intros; omega)), by repeat (first | exact Keep.refl _ _ | apply Keep.drewN | apply Keep.drew | apply Keep.alloc)⟩
  by_cases k6 : kind = 6
  · subst k6
    go_enter Tryd.func62, Tryd.ntmps62
    go_wp2
    all_goals
      go_ret
      exact ⟨congrArg (fun b => Ending.returned (.bool b)) (by simp [okV, V.bare, *] <;> (intros; omega)), by repeat (first | exact Keep.refl _ _ | apply Keep.drewN | apply Keep.drew | apply Keep.alloc)⟩

  by_cases k3 : kind = 3
  · subst k3
    have TF := Lib.hid (textFits_calls text)
    go_enter Tryd.func62, Tryd.ntmps62
    go_wp2_with (go_at_call 81; refine (TF.out _ h3).mono ?_; rintro e w' ⟨rfl, rfl⟩)
    all_goals
      go_ret
      exact ⟨congrArg (fun b => Ending.returned (.bool b)) (by simp [okV, V.bare, *] <;> (intros; omega)), by repeat (first | exact Keep.refl _ _ | apply Keep.drewN | apply Keep.drew | apply Keep.alloc)⟩
  by_cases k4 : kind = 4
  · subst k4
    exact valueFits_list d ih num text list w a c h2 h3 hd hs0
  · have b0 : (kind == 0) = false := by simpa using k0
    have b1 : (kind == 1) = false := by simpa using k1
    have b2 : (kind == 2) = false := by simpa using k2
    have b3 : (kind == 3) = false := by simpa using k3
    have b4 : (kind == 4) = false := by simpa using k4
    have b5 : (kind == 5) = false := by simpa using k5
    have b6 : (kind == 6) = false := by simpa using k6
    go_enter Tryd.func62, Tryd.ntmps62
    go_wp2
    go_ret
    exact ⟨congrArg (fun b => Ending.returned (.bool b)) (by simp [okV, *]), (Keep.refl _ _).alloc _⟩
end Go.Proofs.YtlmonnhgjnjniaaDoor

/- Which values are ok: the program's ValueOk. For every value. -/
namespace Go.Proofs.YtlmonnhgjnjniaaDoor
open Go.RowKit
set_option linter.unusedVariables false
set_option linter.unusedSimpArgs false

theorem valueOk_calls (v : V) (cs : List Value) (w : World) (hv : VR w Any v cs) : Calls Tryd.prog 36 #[.agg cs.toArray] w (Tells (okV 3 v) w) := by
  have IH := Lib.hid fun w => valueFits_calls 3 v cs w
  have HV := Lib.hid hv
  obtain ⟨s, rfl, _⟩ := VR.iff.1 hv
  clear hv
  go_enter Tryd.func36, Tryd.ntmps36
  go_wp2_with (go_at_call 62; refine (IH.out _ (HV.out.keep ((Keep.refl _ _).alloc _)) (by omega)).mono ?_; rintro e w' ⟨rfl, hK⟩)
  go_ret
  exact ⟨rfl, ((Keep.refl _ _).alloc _).trans hK⟩
end Go.Proofs.YtlmonnhgjnjniaaDoor

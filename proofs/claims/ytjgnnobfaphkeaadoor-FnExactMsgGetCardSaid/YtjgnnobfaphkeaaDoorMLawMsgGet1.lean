/- Texts and values in new memory: the laws' own copies. At most 2^20 of each. The laws' own comparisons: of two that hold the same they say yes. The reading of a frame, as plain functions: how the program reads it, byte by byte, and how the reference does; both answer the same. No condition. Which values are ok, as a plain function. Which texts are names, as a plain function. How what is said lies in memory: cells (a name and a value), a list of them, what is said. And which has a form, as plain functions. No condition. -/
import Derived.Test.YtjgnnobfaphkeaaDoorMLawMsgGet0
import Derived.Lib.Bytes
/- Texts and values in new memory: the laws' own copies. At most 2^20 of each. -/
namespace Go.Proofs.YtjgnnobfaphkeaaDoor
open Go.RowKit
set_option linter.unusedVariables false
set_option linter.unusedSimpArgs false

abbrev From (n : Nat) (k : Nat) : Prop := n ≤ k
def GotStrs (l : List ByteArray) (w : World) (e : Ending) (w' : World) : Prop := ∃ a c, e = .returned (.slice a l.length c) ∧ Strs w' (From w.heap.size) (.slice a l.length c) l ∧ Keep Any w w'
theorem infoStr : (Tryd.prog.info? 9).map (fun i => (i.zero, i.size, i.bytes)) = some (some (.string ⟨#[]⟩), 1, 16) := by kernel_rfl
theorem toStrs_calls (l : List ByteArray) (s : Value) (w : World) (hs : Strs w Any s l) (hl : l.length ≤ 1048576) :
    Calls Tryd.prog 29 #[s] w (GotStrs l w) := by
  have HS := Lib.hid hs
  obtain ⟨ad, c, rfl, hc, hm, _⟩ := hs
  have hmk := make_run (P := Tryd.prog) 24 9 _ 1 16 Tryd.underlying24 infoStr l.length (by omega) (by omega)
  go_enter Tryd.func29, Tryd.ntmps29
  go_wp2
  go_loopg [4] (l.length + 1) (fun g i wr => ∃ k : Nat, k ≤ l.length ∧ i = .int .i64 k ∧ g = l.length + 1 - k ∧ Fill 1 StrR wr w.heap.size 9 l.length l k ∧ Keep Any w wr)
  case atStart => exact ⟨0, by omega, rfl, rfl, by simpa using Fill.made (sz := 1) w _, (Keep.refl _ _).alloc _⟩
  case round =>
    obtain ⟨k, hk, rfl, hg, hF, hK⟩ := hrel
    have HG := Lib.hid hg
    clear hg
    by_cases hlt : k < l.length
    · have hx : l[k]? = some l[k] := List.getElem?_eq_getElem hlt
      have HX := Lib.hid hx
      obtain ⟨ad, rfl, hB, c0⟩ := strs_at HS.out hK hx
      generalize l[k] = x at *
      have hF' := hF
      have HF := Lib.hid hF
      obtain ⟨cur, hb, hsz, _⟩ := hF'
      obtain ⟨v0, c1⟩ : ∃ v, wr.cell? ⟨w.heap.size, k, none⟩ = some v := ⟨_, (blk_cell hb k).trans (Array.getElem?_eq_getElem (show k < cur.size by omega))⟩
      have f1 := blk_frozen hb k
      clear hx hb hF hsz
      go_wp2
      go_roundg (gk - 1)
      case rel => exact ⟨k + 1, by omega, by go_num, by have := HG.out; omega, HF.out.snoc (fun _ _ h => h) HX.out ⟨rfl, hB⟩ rfl fun cur hb hs => ⟨_, blk_set hb k _, by simp, fun i hi => by rw [Array.getElem?_setIfInBounds_ne (by omega)], fun i u hu => by
        obtain ⟨rfl, rfl⟩ : i = 0 ∧ .string x = u := by cases i with | zero => exact ⟨rfl, by simpa using hu⟩ | succ i => simp at hu
        rw [show k * 1 + 0 = k by omega, Array.getElem?_setIfInBounds_self_of_lt (by omega)]⟩, hK.set _ _ (fun h => by have : w.heap.size < w.heap.size := h; omega)⟩
      case measure => have := HG.out; omega
    · obtain rfl : k = l.length := by omega
      have HF := Lib.hid hF
      clear hF
      go_wp2
      go_ret
      exact ⟨_, _, rfl, HF.out.slice (by omega) (Nat.le_refl _), hK⟩

theorem keep_sets' (w : World) (g o : Nat) (a b c d : Value) : Keep (But g) w ((((w.setCell ⟨g, o, none⟩ a).setCell ⟨g, o + 1, none⟩ b).setCell ⟨g, o + 2, none⟩ c).setCell ⟨g, o + 3, none⟩ d) :=
  ((((Keep.refl _ _).set _ _ fun _ h => h rfl).set _ _ fun _ h => h rfl).set _ _ fun _ h => h rfl).set _ _ fun _ h => h rfl
theorem keep_sets (w : World) (g o : Nat) (a b c d : Value) : Keep (From (g + 1)) w ((((w.setCell ⟨g, o, none⟩ a).setCell ⟨g, o + 1, none⟩ b).setCell ⟨g, o + 2, none⟩ c).setCell ⟨g, o + 3, none⟩ d) :=
  (keep_sets' w g o a b c d).mono fun k _ h => by have h : g + 1 ≤ k := h; show k ≠ g; omega
theorem sets4 {w : World} {g k : Nat} {T : TypeId} {cur : Array Value} {a b c d : Value} (hb : w.heap[g]? = some (.cells cur T (0, 0))) (hn : k * 4 + 3 < cur.size) :
    ∃ cur', ((((w.setCell ⟨g, k * 4, none⟩ a).setCell ⟨g, k * 4 + 1, none⟩ b).setCell ⟨g, k * 4 + 2, none⟩ c).setCell ⟨g, k * 4 + 3, none⟩ d).heap[g]? = some (.cells cur' T (0, 0)) ∧ cur'.size = cur.size ∧ (∀ i, i < k * 4 → cur'[i]? = cur[i]?) ∧ ∀ i u, [a, b, c, d][i]? = some u → cur'[k * 4 + i]? = some u := by
  refine ⟨_, blk_set (blk_set (blk_set (blk_set hb _ _) _ _) _ _) _ _, by simp, fun i hi => ?_, fun i u hu => ?_⟩
  · rw [Array.getElem?_setIfInBounds_ne (by omega), Array.getElem?_setIfInBounds_ne (by omega), Array.getElem?_setIfInBounds_ne (by omega), Array.getElem?_setIfInBounds_ne (by omega)]
  · rcases i with _ | _ | _ | _ | i
    · simp at hu; subst hu
      rw [Array.getElem?_setIfInBounds_ne (by omega), Array.getElem?_setIfInBounds_ne (by omega), Array.getElem?_setIfInBounds_ne (by omega)]
      exact Array.getElem?_setIfInBounds_self_of_lt (by omega)
    · simp at hu; subst hu
      rw [Array.getElem?_setIfInBounds_ne (by omega), Array.getElem?_setIfInBounds_ne (by omega)]
      exact Array.getElem?_setIfInBounds_self_of_lt (by simp; omega)
    · simp at hu; subst hu
      rw [Array.getElem?_setIfInBounds_ne (by omega)]
      exact Array.getElem?_setIfInBounds_self_of_lt (by simp; omega)
    · simp at hu; subst hu
      exact Array.getElem?_setIfInBounds_self_of_lt (by simp; omega)
    · simp at hu
theorem Vals.of_sl {R : V → List Value → Prop} {w : World} {ok : Nat → Prop} {v : Value} {l : List V} (h : Sl 4 R w ok v l) (hR : ∀ x cs, R x cs → VR w ok x cs) : Vals w ok v l := Sl.mono h (fun x cs _ h => hR x cs h) (fun _ _ h => h) (by decide)
def GotVal (v : V) (w : World) (e : Ending) (w' : World) : Prop := ∃ a c, e = .returned (.agg #[.int .i64 v.kind, .int .i64 v.num, .string v.text, .slice a v.list.length c]) ∧ VR w' (From w.heap.size) v [.int .i64 v.kind, .int .i64 v.num, .string v.text, .slice a v.list.length c] ∧ Keep Any w w'
def GotVals (l : List V) (w : World) (e : Ending) (w' : World) : Prop := ∃ a c, e = .returned (.slice a l.length c) ∧ Vals w' (From w.heap.size) (.slice a l.length c) l ∧ Keep Any w w'
def ToVals (l : List V) : Prop := ∀ (s : Value) (w : World), Vals w Any s l → V.szs l + l.length ≤ 1048576 → Calls Tryd.prog 30 #[s] w (GotVals l w)
def ToVal (v : V) : Prop := ∀ (cs : List Value) (w : World), VR w Any v cs → v.sz ≤ 1048576 → Calls Tryd.prog 58 #[.agg cs.toArray] w (GotVal v w)
theorem infoVal : (Tryd.prog.info? 72).map (fun i => (i.zero, i.size, i.bytes)) = some (some (.agg #[.int .i64 0, .int .i64 0, .string ⟨#[]⟩, .slice none 0 0]), 4, 56) := by kernel_rfl
theorem toVal_of (v : V) (ih : ToVals v.list) : ToVal v := by
  intro cs w hv hz
  have hsz := V.sz_eq v
  obtain ⟨s, rfl, h1, h2, h3, hs⟩ := VR.iff.1 hv
  have HS := Lib.hid hs
  have IH := Lib.hid ih
  have hb : V.szs v.list + v.list.length ≤ 1048576 := by omega
  clear hs ih hv hsz
  go_enter Tryd.func58, Tryd.ntmps58
  go_wp2_with (go_at_call 30; refine (IH.out _ _ (Vals.keep HS.out ((((Keep.refl _ _).alloc _).alloc _).alloc _)) hb).mono ?_; rintro e w2 ⟨a2, c2, rfl, hs2, hK⟩; obtain ⟨hc, hf⟩ := hK.cells)
  refine bodyPost_ret (v := .agg #[.int .i64 v.kind, .int .i64 v.num, .string v.text, .slice a2 v.list.length c2]) (by simp [results, Tryd.results58, go_sem, hc, hf]) rfl ⟨a2, c2, rfl, ?_, ?_⟩
  · refine VR.iff.2 ⟨_, rfl, h1, h2, h3, Vals.mono (Vals.keep hs2 (w' := _) ?_) fun j _ hj => ?_⟩
    · repeat (first | (with_reducible exact Keep.refl _ _) | (refine Keep.set ?_ _ _ (fun _ h => by simp [From] at h; omega)))
    · simp only [From, World.size_alloc] at hj ⊢; omega
  · have hK1 := Keep.trans ((((Keep.refl Any w).alloc _).alloc _).alloc _) hK
    repeat (first | (with_reducible exact hK1) | (refine Keep.set ?_ _ _ (fun h _ => by simp at h; omega)))
theorem toVals_of (l : List V) (ih : ∀ x, x ∈ l → ToVal x) : ToVals l := by
  intro s w hs hz
  have HS := Lib.hid hs
  have IH := Lib.hid ih
  clear ih
  obtain ⟨ad, c, rfl, hc, hm, _⟩ := hs
  have hmk := make_run (P := Tryd.prog) 30 72 _ 4 56 Tryd.underlying30 infoVal l.length (by omega) (by omega)
  go_enter Tryd.func30, Tryd.ntmps30
  go_wp2
  go_loopg [4] (l.length + 1) (fun g i wr => ∃ k : Nat, k ≤ l.length ∧ i = .int .i64 k ∧ g = l.length + 1 - k ∧ Fill 4 (VR wr (From (w.heap.size + 1))) wr w.heap.size 72 l.length l k ∧ Keep Any w wr)
  case atStart => exact ⟨0, by omega, rfl, rfl, Fill.made (sz := 4) w _, (Keep.refl _ _).alloc _⟩
  case round =>
    obtain ⟨k, hk, rfl, hg, hF, hK⟩ := hrel
    have HG := Lib.hid hg
    clear hg
    by_cases hlt : k < l.length
    · have hx : l[k]? = some l[k] := List.getElem?_eq_getElem hlt
      have hq := (sums_drop V.sz l k _ hx).2
      have hz2 := hz
      rw [V.szs_sum] at hz2
      obtain ⟨ad, sa, sc, rfl, hvx, c0, c1, c2, c3⟩ := vals_at HS.out hK hx
      have IX := Lib.hid (IH.out _ (List.mem_of_getElem? hx))
      generalize l[k] = x at *
      have HX := Lib.hid hx
      have HV := Lib.hid hvx
      have HF := Lib.hid hF
      have hxz : x.sz ≤ 1048576 := by omega
      clear hx hF hvx hq hz2
      go_wp2_with (go_at_call 58; refine (IX.out _ _ HV.out hxz).mono ?_; rintro e w2 ⟨a2, c2', rfl, hcs, hK2⟩; obtain ⟨y0, d0⟩ := HF.out.cell hK2 trivial (k * 4) (by omega); obtain ⟨y1, d1⟩ := HF.out.cell hK2 trivial (k * 4 + 1) (by omega); obtain ⟨y2, d2⟩ := HF.out.cell hK2 trivial (k * 4 + 2) (by omega); obtain ⟨y3, d3⟩ := HF.out.cell hK2 trivial (k * 4 + 3) (by omega); have f0 := HF.out.free hK2 trivial (k * 4); have f1 := HF.out.free hK2 trivial (k * 4 + 1); have f2 := HF.out.free hK2 trivial (k * 4 + 2); have f3 := HF.out.free hK2 trivial (k * 4 + 3))
      go_roundg (gk - 1)
      case rel => exact ⟨k + 1, by omega, by go_num, by have := HG.out; omega, by
        have hsz := hK.size
        refine Fill.snoc (cs := [.int .i64 x.kind, .int .i64 x.num, .string x.text, .slice a2 x.list.length c2']) HF.out (fun y cs h => ?_) HX.out ?_ rfl fun cur hb hs => ?_
        · exact (h.keep (hK2.any)).keep (keep_sets _ _ _ _ _ _ _)
        · refine (hcs.mono fun j _ hj => ?_).keep (keep_sets _ _ _ _ _ _ _)
          have hj : wr.heap.size ≤ j := hj
          have := HF.out.lt
          show w.heap.size + 1 ≤ j
          omega
        · exact sets4 (blk_keep hK2 hb trivial) (by omega), by
        have hsz := hK.size
        exact ((hK.trans hK2).then (keep_sets' _ _ _ _ _ _ _) fun i hi _ => by show i ≠ w.heap.size; omega)⟩
      case measure => have := HG.out; omega
    · obtain rfl : k = l.length := by omega
      have HF := Lib.hid hF
      clear hF
      go_wp2
      go_ret
      exact ⟨_, _, rfl, Vals.of_sl (HF.out.slice (by omega) (Nat.le_refl _)) fun _ _ h => h.mono fun j _ hj => by have hj : w.heap.size + 1 ≤ j := hj; show w.heap.size ≤ j; omega, hK⟩
theorem toVal_all (n : Nat) : ∀ v : V, v.w = n → ToVal v := by
  induction n using Nat.strongRecOn with
  | _ n ih => exact fun v hv => toVal_of v (toVals_of _ fun x hx => by
      obtain ⟨j, hj, rfl⟩ := List.getElem_of_mem hx
      exact ih _ (hv ▸ V.w_lt (List.getElem?_eq_getElem hj)) _ rfl)
theorem toVals_calls (l : List V) : ToVals l := toVals_of l fun x _ => toVal_all x.w x rfl
end Go.Proofs.YtjgnnobfaphkeaaDoor

/- The laws' own comparisons: of two that hold the same they say yes. -/
namespace Go.Proofs.YtjgnnobfaphkeaaDoor
open Go.RowKit
set_option linter.unusedVariables false
set_option linter.unusedSimpArgs false

theorem eqStrs_calls (l : List ByteArray) (s t : Value) (w : World) (hs : Strs w Any s l) (ht : Strs w Any t l) :
    Calls Tryd.prog 33 #[s, t] w (Tells true w) := by
  have HS := Lib.hid hs
  have HT := Lib.hid ht
  obtain ⟨ad, c, rfl, hc, hm, _⟩ := hs
  obtain ⟨ad', c', rfl, hc', hm', _⟩ := ht
  have hl : (((l.length : Nat) : Int) != ((l.length : Nat) : Int)) = false := by simp
  go_enter Tryd.func33, Tryd.ntmps33
  go_wp2
  go_loopg [5] (l.length + 1) (fun g i wr => ∃ k : Nat, k ≤ l.length ∧ i = .int .i64 k ∧ g = l.length + 1 - k ∧ Keep Any w wr)
  case atStart => exact ⟨0, by omega, rfl, rfl, Keep.refl _ _⟩
  case round =>
    obtain ⟨k, hk, rfl, hg, hK⟩ := hrel
    have HG := Lib.hid hg
    clear hg
    by_cases hlt : k < l.length
    · have hx : l[k]? = some l[k] := List.getElem?_eq_getElem hlt
      obtain ⟨ad, rfl, hB, c0⟩ := strs_at HS.out hK hx
      obtain ⟨ad', rfl, _, c1⟩ := strs_at HT.out hK hx
      generalize l[k] = x at *
      have k0 : (0 : Int) ≤ (k : Int) := by omega
      have k1 : (k : Int) < (l.length : Int) := by omega
      clear hx
      go_wp2
      go_quiet (fail)
      go_wp2
      go_roundg (gk - 1)
      case rel => exact ⟨k + 1, by omega, by go_num, by have := HG.out; omega, hK.drewN _⟩
      case measure => have := HG.out; omega
    · go_wp2
      go_ret
      exact ⟨rfl, hK⟩

def EqVals (l : List V) : Prop := ∀ (s t : Value) (w : World), Vals w Any s l → Vals w Any t l → Calls Tryd.prog 34 #[s, t] w (Tells true w)
def EqVal (v : V) : Prop := ∀ (a c a' c' : _) (w : World), VR w Any v [.int .i64 v.kind, .int .i64 v.num, .string v.text, .slice a v.list.length c] → VR w Any v [.int .i64 v.kind, .int .i64 v.num, .string v.text, .slice a' v.list.length c'] →
  Calls Tryd.prog 62 #[.agg #[.int .i64 v.kind, .int .i64 v.num, .string v.text, .slice a v.list.length c], .agg #[.int .i64 v.kind, .int .i64 v.num, .string v.text, .slice a' v.list.length c']] w (Tells true w)
theorem eqVal_of (v : V) (ih : EqVals v.list) : EqVal v := by
  intro a c a' c' w hv hu
  obtain ⟨s, e1, h1, h2, h3, hs⟩ := VR.iff.1 hv
  obtain ⟨t, e2, _, _, _, ht⟩ := VR.iff.1 hu
  simp only [List.cons.injEq, and_true, true_and] at e1 e2
  subst e1 e2
  have HS := Lib.hid hs
  have HT := Lib.hid ht
  have IH := Lib.hid ih
  clear hv hu ih hs ht
  have b1 : (v.kind != v.kind) = false := by simp
  have b2 : (v.num != v.num) = false := by simp
  have b3 : (v.text.toList != v.text.toList) = false := by simp
  go_enter Tryd.func62, Tryd.ntmps62
  go_wp2_with (go_at_call 34; refine (IH.out _ _ _ (Vals.keep HS.out (((Keep.refl _ _).alloc _).alloc _)) (Vals.keep HT.out (((Keep.refl _ _).alloc _).alloc _))).mono ?_; rintro e w2 ⟨rfl, hK⟩)
  go_ret
  exact ⟨rfl, (((Keep.refl _ _).alloc _).alloc _).trans hK⟩
theorem eqVals_of (l : List V) (ih : ∀ x, x ∈ l → EqVal x) : EqVals l := by
  intro s t w hs ht
  have HS := Lib.hid hs
  have HT := Lib.hid ht
  have IH := Lib.hid ih
  clear ih
  obtain ⟨ad, c, rfl, hc, hm, _⟩ := hs
  obtain ⟨ad', c', rfl, hc', hm', _⟩ := ht
  have hl : (((l.length : Nat) : Int) != ((l.length : Nat) : Int)) = false := by simp
  go_enter Tryd.func34, Tryd.ntmps34
  go_wp2
  go_loopg [5] (l.length + 1) (fun g i wr => ∃ k : Nat, k ≤ l.length ∧ i = .int .i64 k ∧ g = l.length + 1 - k ∧ Keep Any w wr)
  case atStart => exact ⟨0, by omega, rfl, rfl, Keep.refl _ _⟩
  case round =>
    obtain ⟨k, hk, rfl, hg, hK⟩ := hrel
    have HG := Lib.hid hg
    clear hg
    by_cases hlt : k < l.length
    · have hx : l[k]? = some l[k] := List.getElem?_eq_getElem hlt
      have IX := Lib.hid (IH.out _ (List.mem_of_getElem? hx))
      obtain ⟨ad, sa, sc, rfl, hvx, c0, c1, c2, c3⟩ := vals_at HS.out hK hx
      obtain ⟨ad', sa', sc', rfl, hux, d0, d1, d2, d3⟩ := vals_at HT.out hK hx
      generalize l[k] = x at *
      have HV := Lib.hid hvx
      have HU := Lib.hid hux
      have k0 : (0 : Int) ≤ (k : Int) := by omega
      have k1 : (k : Int) < (l.length : Int) := by omega
      clear hx hvx hux
      go_wp2
      go_region_with (go_at_call 62; refine (IX.out _ _ _ _ _ (HV.out.keep ((Keep.refl _ _).drew)) (HU.out.keep ((Keep.refl _ _).drew))).mono ?_; rintro e w2 ⟨rfl, hK2⟩)
      all_goals
        go_wp2
        go_roundg (gk - 1)
        case rel => exact ⟨k + 1, by omega, by go_num, by have := HG.out; omega, hK.drew.trans hK2⟩
        case measure => have := HG.out; omega
    · go_wp2
      go_ret
      exact ⟨rfl, hK⟩
theorem eqVal_all (n : Nat) : ∀ v : V, v.w = n → EqVal v := by
  induction n using Nat.strongRecOn with
  | _ n ih => exact fun v hv => eqVal_of v (eqVals_of _ fun x hx => by
      obtain ⟨j, hj, rfl⟩ := List.getElem_of_mem hx
      exact ih _ (hv ▸ V.w_lt (List.getElem?_eq_getElem hj)) _ rfl)
theorem eqVals_calls (l : List V) : EqVals l := eqVals_of l fun x _ => eqVal_all x.w x rfl
end Go.Proofs.YtjgnnobfaphkeaaDoor

/- The reading of a frame, as plain functions: how the program reads it, byte by byte, and how the reference does; both answer the same. No condition. -/
namespace Go.Proofs.YtjgnnobfaphkeaaDoor
set_option linter.unusedVariables false

def at_ (t : ByteArray) (i : Nat) : Nat := if h : i < t.size then (t[i]'h).toNat else 0
theorem at_eq (t : ByteArray) (i : Nat) (h : i < t.size) : (t[i]'h).toNat = at_ t i := by simp [at_, h]
theorem at_lt (t : ByteArray) (i : Nat) : at_ t i < 256 := by
  unfold at_; split
  · exact UInt8.toNat_lt _
  · omega
theorem empty_true (t : ByteArray) (h : t.size = 0) : (t.toList == ([] : List UInt8)) = true := by
  have : t.toList.length = 0 := by rw [Lib.toList_data, ← Lib.size_eq]; exact h
  simpa using this
theorem empty_false (t : ByteArray) (h : ¬ t.size = 0) : (t.toList == ([] : List UInt8)) = false := by
  have : ¬ t.toList.length = 0 := by rw [Lib.toList_data, ← Lib.size_eq]; exact h
  simpa using this
theorem size_true (t : ByteArray) (h : t.size = 0) : (((t.size : Nat) : Int) == 0) = true := by simp [h]
theorem size_false (t : ByteArray) (h : ¬ t.size = 0) : (((t.size : Nat) : Int) == 0) = false := by rw [beq_eq_false_iff_ne]; omega
def fig (b : Nat) : Bool := 48 ≤ b && b ≤ 57

/-- behind the colon -/
def frBody (t : ByteArray) (at' size : Nat) : ByteArray × Int :=
  if t.size ≤ at' + size then (⟨#[]⟩, 0) else if at_ t (at' + size) ≠ 10 then (⟨#[]⟩, -1) else (t.extract at' (at' + size), at' + size + 1)
/-- a figure more, or the colon -/
def frMore (t : ByteArray) (at' size : Nat) : ByteArray × Int :=
  if h : at' < t.size then
    if at_ t at' = 58 then frBody t (at' + 1) size
    else if fig (at_ t at') = false ∨ size = 0 then (⟨#[]⟩, -1)
    else if 6000 < size * 10 + (at_ t at' - 48) then (⟨#[]⟩, -1)
    else frMore t (at' + 1) (size * 10 + (at_ t at' - 48))
  else (⟨#[]⟩, 0)
termination_by t.size - at'
def frameGet (t : ByteArray) : ByteArray × Int :=
  if t.size = 0 then (⟨#[]⟩, 0) else if fig (at_ t 0) = false then (⟨#[]⟩, -1) else frMore t 1 (at_ t 0 - 48)

theorem frMore_end {t : ByteArray} {a s : Nat} (h : ¬ a < t.size) : frMore t a s = (⟨#[]⟩, 0) := by rw [frMore, dif_neg h]
theorem frMore_colon {t : ByteArray} {a s : Nat} (h : a < t.size) (h1 : at_ t a = 58) : frMore t a s = frBody t (a + 1) s := by rw [frMore, dif_pos h, if_pos h1]
theorem frMore_bad {t : ByteArray} {a s : Nat} (h : a < t.size) (h1 : at_ t a ≠ 58) (h2 : (at_ t a < 48 ∨ 57 < at_ t a) ∨ s = 0) : frMore t a s = (⟨#[]⟩, -1) := by
  rw [frMore, dif_pos h, if_neg h1, if_pos]
  rcases h2 with h2 | h2
  · exact .inl (by simp only [fig, Bool.and_eq_false_iff, decide_eq_false_iff_not]; omega)
  · exact .inr h2
theorem frMore_big {t : ByteArray} {a s : Nat} (h : a < t.size) (h0 : 48 ≤ at_ t a) (h1 : at_ t a ≤ 57) (hs : s ≠ 0) (h2 : 6000 < s * 10 + (at_ t a - 48)) : frMore t a s = (⟨#[]⟩, -1) := by
  rw [frMore, dif_pos h, if_neg (by omega), if_neg (by simp only [fig, Bool.and_eq_false_iff, decide_eq_false_iff_not]; omega), if_pos h2]
theorem frMore_go {t : ByteArray} {a s : Nat} (h : a < t.size) (h0 : 48 ≤ at_ t a) (h1 : at_ t a ≤ 57) (hs : s ≠ 0) (h2 : s * 10 + (at_ t a - 48) ≤ 6000) : frMore t a s = frMore t (a + 1) (s * 10 + (at_ t a - 48)) := by
  rw [frMore, dif_pos h, if_neg (by omega), if_neg (by simp only [fig, Bool.and_eq_false_iff, decide_eq_false_iff_not]; omega), if_neg (by omega)]

/-! the reference's way -/
def val (t : ByteArray) : Nat → Nat
  | 0 => 0
  | k + 1 => val t k * 10 + (at_ t k - 48)
/-- the number that figures are: none, where they are none, or more than ten; i: how many were read, n: their number -/
def numGo (t : ByteArray) (i n : Nat) : Option Nat :=
  if h : i < t.size then if at_ t i < 48 ∨ 57 < at_ t i ∨ 10 ≤ i then none else numGo t (i + 1) (n * 10 + (at_ t i - 48)) else some n
termination_by t.size - i
def l1Num (t : ByteArray) : Int := match numGo t 0 0 with
  | none => -1
  | some n => if t.size = 0 ∨ (1 < t.size ∧ at_ t 0 = 48) then -1 else n
theorem numGo_go {t : ByteArray} {i n : Nat} (h : i < t.size) (h0 : 48 ≤ at_ t i) (h1 : at_ t i ≤ 57) (h2 : i < 10) : numGo t i n = numGo t (i + 1) (n * 10 + (at_ t i - 48)) := by
  rw [numGo, dif_pos h, if_neg (by omega)]
theorem numGo_none {t : ByteArray} {i n : Nat} (h : i < t.size) (h0 : at_ t i < 48 ∨ 57 < at_ t i ∨ 10 ≤ i) : numGo t i n = none := by rw [numGo, dif_pos h, if_pos h0]
theorem numGo_end {t : ByteArray} {i n : Nat} (h : ¬ i < t.size) : numGo t i n = some n := by rw [numGo, dif_neg h]
theorem l1Num_none {t : ByteArray} (h : numGo t 0 0 = none) : -1 = l1Num t := by rw [l1Num, h]
theorem l1Num_bad {t : ByteArray} {n : Nat} (h : numGo t 0 0 = some n) (h1 : t.size = 0 ∨ (1 < t.size ∧ at_ t 0 = 48)) : -1 = l1Num t := by rw [l1Num, h]; simp only; rw [if_pos h1]
theorem l1Num_some {t : ByteArray} {n : Nat} (h : numGo t 0 0 = some n) (h1 : ¬ (t.size = 0 ∨ (1 < t.size ∧ at_ t 0 = 48))) : (n : Int) = l1Num t := by rw [l1Num, h]; simp only; rw [if_neg h1]
def figs5 (t : ByteArray) (k : Nat) : Nat :=
  if h : k < t.size ∧ k < 5 ∧ 48 ≤ at_ t k ∧ at_ t k ≤ 57 then figs5 t (k + 1) else k
termination_by 5 - k
def specFrame (t : ByteArray) : ByteArray × Int :=
  let k := figs5 t 0
  let n := l1Num (t.extract 0 k)
  if 0 < k ∧ (n < 0 ∨ 6000 < n) then (⟨#[]⟩, -1) else if k = t.size then (⟨#[]⟩, 0) else if at_ t k ≠ 58 ∨ k = 0 then (⟨#[]⟩, -1)
  else if (t.size : Int) < k + n + 2 then (⟨#[]⟩, 0) else if at_ t (k + n.toNat + 1) ≠ 10 then (⟨#[]⟩, -1) else (t.extract (k + 1) (k + 1 + n.toNat), k + n + 2)

theorem at_extract (t : ByteArray) (k i : Nat) (hi : i < k) (hk : k ≤ t.size) : at_ (t.extract 0 k) i = at_ t i := by
  have h1 : (t.extract 0 k).size = k := by rw [ByteArray.size_extract]; omega
  have h2 : i < (t.extract 0 k).size := by omega
  have h3 : i < t.size := by omega
  simp only [at_, h2, h3, dif_pos]
  rw [ByteArray.getElem_extract]
  simp
theorem figs5_spec (t : ByteArray) : ∀ (d k : Nat), 5 - k = d → k ≤ t.size → k ≤ 5 → ∃ m, figs5 t k = m ∧ k ≤ m ∧ m ≤ 5 ∧ m ≤ t.size ∧ (∀ i, k ≤ i → i < m → 48 ≤ at_ t i ∧ at_ t i ≤ 57) ∧ (m = 5 ∨ m = t.size ∨ at_ t m < 48 ∨ 57 < at_ t m) := by
  intro d
  induction d with
  | zero => intro k hd hk h5; rw [figs5, dif_neg (by omega)]; exact ⟨k, rfl, by omega, h5, hk, fun i h1 h2 => by omega, by omega⟩
  | succ d ih =>
    intro k hd hk h5
    rw [figs5]
    split
    · rename_i h
      obtain ⟨m, e, h1, h2, h3, h4, h6⟩ := ih (k + 1) (by omega) (by omega) (by omega)
      exact ⟨m, e, by omega, h2, h3, fun i hi hm => by rcases Nat.eq_or_lt_of_le hi with rfl | hi; exact h.2.2; exact h4 i hi hm, h6⟩
    · rename_i h
      exact ⟨k, rfl, by omega, h5, hk, fun i h1 h2 => by omega, by omega⟩
theorem numGo_val (t : ByteArray) (k : Nat) (hk : k ≤ t.size) (h10 : k ≤ 10) (hf : ∀ i, i < k → 48 ≤ at_ t i ∧ at_ t i ≤ 57) : ∀ (d i : Nat), k - i = d → i ≤ k → numGo (t.extract 0 k) i (val t i) = some (val t k) := by
  have h1 : (t.extract 0 k).size = k := by rw [ByteArray.size_extract]; omega
  intro d
  induction d with
  | zero => intro i hd hi; obtain rfl : i = k := by omega
            rw [numGo, dif_neg (by omega)]
  | succ d ih =>
    intro i hd hi
    have := hf i (by omega)
    rw [numGo, dif_pos (by omega), at_extract t k i (by omega) hk, if_neg (by omega)]
    exact ih (i + 1) (by omega) (by omega)
theorem l1Num_val (t : ByteArray) (k : Nat) (hk : k ≤ t.size) (h10 : k ≤ 10) (hf : ∀ i, i < k → 48 ≤ at_ t i ∧ at_ t i ≤ 57) :
    l1Num (t.extract 0 k) = if k = 0 ∨ (1 < k ∧ at_ t 0 = 48) then -1 else (val t k : Int) := by
  have h1 : (t.extract 0 k).size = k := by rw [ByteArray.size_extract]; omega
  have h2 : numGo (t.extract 0 k) 0 0 = some (val t k) := numGo_val t k hk h10 hf k 0 (by omega) (by omega)
  unfold l1Num
  rw [h2, h1]
  simp only
  by_cases h0 : 0 < k
  · rw [at_extract t k 0 h0 hk]
  · obtain rfl : k = 0 := by omega
    simp
theorem val_mono (t : ByteArray) (a : Nat) : ∀ k, a ≤ k → val t a ≤ val t k := by
  intro k h
  induction k with
  | zero => obtain rfl : a = 0 := by omega
            exact Nat.le_refl _
  | succ k ih =>
    rcases Nat.eq_or_lt_of_le h with rfl | h
    · exact Nat.le_refl _
    · have := ih (by omega); simp only [val]; omega

/-- From a figures on, the value of which is at most 6000, both go on alike. -/
theorem more_spec (t : ByteArray) (k : Nat) (hk : k ≤ t.size) (h5 : k ≤ 5) (hf : ∀ i, i < k → 48 ≤ at_ t i ∧ at_ t i ≤ 57) (he : k = 5 ∨ k = t.size ∨ at_ t k < 48 ∨ 57 < at_ t k) :
    ∀ (d a : Nat), k - a = d → 1 ≤ a → a ≤ k → val t a ≤ 6000 → (a = 1 ∨ (10 ^ (a - 1) ≤ val t a ∧ at_ t 0 ≠ 48)) →
    frMore t a (val t a) = if (1 < k ∧ at_ t 0 = 48) ∨ 6000 < val t k then (⟨#[]⟩, -1) else if k = t.size then (⟨#[]⟩, 0) else if at_ t k ≠ 58 then (⟨#[]⟩, -1) else frBody t (k + 1) (val t k) := by
  have hv1 : val t 1 = at_ t 0 - 48 := by simp [val]
  intro d
  induction d with
  | zero =>
    intro a hd h1 ha hv hp
    obtain rfl : a = k := by omega
    rw [if_neg]
    · by_cases c1 : a = t.size
      · rw [if_pos c1, frMore_end (by omega)]
      · rw [if_neg c1]
        by_cases c2 : at_ t a = 58
        · rw [if_neg (by omega), frMore_colon (by omega) c2]
        · rw [if_pos c2, frMore_bad (by omega) c2]
          rcases he with rfl | he | he
          · rcases hp with hp | hp
            · omega
            · have : 10 ^ (5 - 1) = 10000 := rfl
              have := hp.1
              omega
          · omega
          · exact .inl he
    · rintro (⟨h2, h3⟩ | h2)
      · omega
      · omega
  | succ d ih =>
    intro a hd h1 ha hv hp
    have ha' := hf a (by omega)
    have hs : val t (a + 1) = val t a * 10 + (at_ t a - 48) := rfl
    by_cases c1 : val t a = 0
    · rcases hp with rfl | hp
      · have h0 := hf 0 (by omega)
        rw [frMore_bad (by omega) (by omega) (.inr c1), if_pos (.inl ⟨by omega, by omega⟩)]
      · have : 0 < 10 ^ (a - 1) := Nat.pow_pos (by omega)
        have := hp.1
        omega
    · by_cases c2 : 6000 < val t (a + 1)
      · rw [frMore_big (by omega) (by omega) (by omega) c1 (by omega), if_pos (.inr (by have := val_mono t (a + 1) k (by omega); omega))]
      · rw [frMore_go (by omega) (by omega) (by omega) c1 (by omega), ← hs]
        refine ih (a + 1) (by omega) (by omega) (by omega) (by omega) (.inr ?_)
        rcases hp with rfl | hp
        · refine ⟨?_, by omega⟩; rw [hs]; show 10 ^ 1 ≤ _; omega
        · obtain ⟨b, rfl⟩ : ∃ b, a = b + 1 := ⟨a - 1, by omega⟩
          refine ⟨?_, hp.2⟩
          have hp := hp.1
          rw [hs]; simp only [Nat.add_sub_cancel] at hp ⊢
          rw [Nat.pow_succ]; omega

theorem spec_eq (t : ByteArray) : specFrame t = frameGet t := by
  obtain ⟨k, ek, _, h5, hk, hf0, he⟩ := figs5_spec t 5 0 rfl (by omega) (by omega)
  have hf : ∀ i, i < k → 48 ≤ at_ t i ∧ at_ t i ≤ 57 := fun i hi => hf0 i (by omega) hi
  have hn := l1Num_val t k hk (by omega) hf
  simp only [specFrame, ek]
  generalize l1Num (t.extract 0 k) = n at hn
  unfold frameGet
  by_cases c0 : t.size = 0
  · obtain rfl : k = 0 := by omega
    simp [c0]
  rw [if_neg c0]
  by_cases c1 : k = 0
  · subst c1
    rw [if_neg (show ¬ (0 < 0 ∧ (n < 0 ∨ 6000 < n)) by omega), if_neg (show ¬ 0 = t.size by omega), if_pos (.inr rfl), if_pos]
    simp only [fig, Bool.and_eq_false_iff, decide_eq_false_iff_not]
    omega
  have h0 := hf 0 (by omega)
  rw [if_neg (show ¬ fig (at_ t 0) = false by simp only [fig, Bool.and_eq_false_iff, decide_eq_false_iff_not]; omega)]
  have hv1 : val t 1 = at_ t 0 - 48 := by simp [val]
  rw [← hv1, more_spec t k hk h5 hf he (k - 1) 1 rfl (by omega) (by omega) (by omega) (.inl rfl)]
  by_cases c2 : 1 < k ∧ at_ t 0 = 48
  · rw [if_pos (.inr c2)] at hn
    rw [if_pos (show 0 < k ∧ (n < 0 ∨ 6000 < n) by omega), if_pos (show (1 < k ∧ at_ t 0 = 48) ∨ _ from .inl c2)]
  rw [if_neg (show ¬ (k = 0 ∨ 1 < k ∧ at_ t 0 = 48) by omega)] at hn
  subst hn
  by_cases c3 : 6000 < val t k
  · rw [if_pos (show 0 < k ∧ ((val t k : Int) < 0 ∨ 6000 < (val t k : Int)) by omega), if_pos (show _ ∨ 6000 < val t k from .inr c3)]
  rw [if_neg (show ¬ (0 < k ∧ ((val t k : Int) < 0 ∨ 6000 < (val t k : Int))) by omega), if_neg (show ¬ (1 < k ∧ at_ t 0 = 48 ∨ 6000 < val t k) by omega)]
  by_cases c4 : k = t.size
  · rw [if_pos c4, if_pos c4]
  rw [if_neg c4, if_neg c4]
  by_cases c5 : at_ t k ≠ 58
  · rw [if_pos (show at_ t k ≠ 58 ∨ k = 0 from .inl c5), if_pos c5]
  rw [if_neg (show ¬ (at_ t k ≠ 58 ∨ k = 0) by omega), if_neg c5]
  simp only [frBody, Int.toNat_natCast]
  by_cases c6 : t.size ≤ k + 1 + val t k
  · rw [if_pos (show (t.size : Int) < (k : Int) + (val t k : Int) + 2 by omega), if_pos c6]
  rw [if_neg (show ¬ (t.size : Int) < (k : Int) + (val t k : Int) + 2 by omega), if_neg c6, show k + val t k + 1 = k + 1 + val t k by omega]
  by_cases c7 : at_ t (k + 1 + val t k) ≠ 10
  · rw [if_pos c7, if_pos c7]
  · rw [if_neg c7, if_neg c7]
    simp only [Prod.mk.injEq, true_and]
    omega
end Go.Proofs.YtjgnnobfaphkeaaDoor

/- Which values are ok, as a plain function. -/
namespace Go.Proofs.YtjgnnobfaphkeaaDoor
set_option linter.unusedVariables false

def textOk (s : ByteArray) : Bool := decide (s.size ≤ 16) && s.data.toList.all fun b => 32 ≤ b.toNat && b.toNat ≤ 126 && b.toNat != 39
def V.bare (v : V) : Bool := (v.text.toList == ([] : List UInt8)) && ((v.list.length : Int) == 0)
def okV : Nat → V → Bool
  | 0, _ => false
  | d + 1, v =>
    if v.kind = 0 then v.num == 0 && v.bare else if v.kind = 1 then (v.num == 0 || v.num == 1) && v.bare
    else if v.kind = 2 then decide (-1000000000 ≤ v.num) && decide (v.num ≤ 1000000000) && v.bare
    else if v.kind = 3 then v.num == 0 && textOk v.text && ((v.list.length : Int) == 0)
    else if v.kind = 4 then v.num == 0 && (v.text.toList == ([] : List UInt8)) && decide ((v.list.length : Int) ≤ 6) && v.list.all (okV d)
    else if v.kind = 5 ∨ v.kind = 6 then decide (0 ≤ v.num) && decide (v.num ≤ 1000000000) && v.bare
    else false
end Go.Proofs.YtjgnnobfaphkeaaDoor

/- Which texts are names, as a plain function. -/
namespace Go.Proofs.YtjgnnobfaphkeaaDoor
set_option linter.unusedVariables false

def letter (b : Nat) : Bool := (decide (97 ≤ b) && decide (b ≤ 122)) || (decide (65 ≤ b) && decide (b ≤ 90))
def words : List (List UInt8) := [[77,65,84,67,72],[79,80,84,73,79,78,65,76],[87,72,69,82,69],[85,78,87,73,78,68],[87,73,84,72],[82,69,84,85,82,78],[67,82,69,65,84,69],[83,69,84],[68,69,76,69,84,69],[68,69,84,65,67,72],
  [65,83],[65,78,68],[79,82],[78,79,84],[73,83],[78,85,76,76],[73,78],[68,73,83,84,73,78,67,84],[79,82,68,69,82],[66,89],[68,69,83,67],[83,75,73,80],[76,73,77,73,84],[110,117,108,108],[116,114,117,101],[102,97,108,115,101],[99,111,117,110,116],[115,117,109],[115,105,122,101]]
def kept (t : ByteArray) : Bool := words.any fun x => t.toList == x
def nameShape (t : ByteArray) : Bool := decide (1 ≤ t.size) && decide (t.size ≤ 8) && letter (at_ t 0) && (List.range t.size).all fun i => letter (at_ t i) || fig (at_ t i)
def nameOk (t : ByteArray) : Bool := nameShape t && !kept t
theorem shape_bad {t : ByteArray} {i : Nat} (h : i < t.size) (hl : letter (at_ t i) = false) (hf : fig (at_ t i) = false ∨ i = 0) : nameShape t = false := by
  unfold nameShape
  by_cases h0 : i = 0
  · subst h0; rw [hl]; simp
  · rw [Bool.and_eq_false_iff]; right
    rw [List.all_eq_false]
    exact ⟨i, List.mem_range.2 h, by rw [hl]; rcases hf with hf | hf; rw [hf]; decide; exact absurd hf h0⟩
theorem shape_long {t : ByteArray} (h : t.size = 0 ∨ 8 < t.size) : nameShape t = false := by
  unfold nameShape
  rcases h with h | h
  · simp [h]
  · have : decide (t.size ≤ 8) = false := by simp; omega
    rw [this]; simp
theorem shape_good {t : ByteArray} (h1 : 1 ≤ t.size) (h8 : t.size ≤ 8) (h0 : letter (at_ t 0) = true) (ha : ∀ i, i < t.size → letter (at_ t i) = true ∨ fig (at_ t i) = true) : nameShape t = true := by
  unfold nameShape
  simp only [Bool.and_eq_true, decide_eq_true_eq]
  exact ⟨⟨⟨h1, h8⟩, h0⟩, List.all_eq_true.2 fun i hi => by rw [Bool.or_eq_true]; exact ha i (List.mem_range.1 hi)⟩
end Go.Proofs.YtjgnnobfaphkeaaDoor

/- How what is said lies in memory: cells (a name and a value), a list of them, what is said. And which has a form, as plain functions. No condition. -/
namespace Go.Proofs.YtjgnnobfaphkeaaDoor
open Go.RowKit
set_option linter.unusedVariables false
structure Ce where
  name : ByteArray
  val : V
def CeR (w : World) (ok : Nat → Prop) (c : Ce) (cs : List Value) : Prop := ∃ d, cs = .string c.name :: d ∧ Fits c.name ∧ VR w ok c.val d
theorem CeR.keep {w w' : World} {ok : Nat → Prop} {c : Ce} {cs : List Value} (h : CeR w ok c cs) (k : Keep ok w w') : CeR w' ok c cs := by
  obtain ⟨d, rfl, h1, h2⟩ := h; exact ⟨d, rfl, h1, h2.keep k⟩
theorem CeR.mono {w : World} {ok ok' : Nat → Prop} {c : Ce} {cs : List Value} (h : CeR w ok c cs) (k : ∀ k, k < w.heap.size → ok k → ok' k) : CeR w ok' c cs := by
  obtain ⟨d, rfl, h1, h2⟩ := h; exact ⟨d, rfl, h1, h2.mono k⟩
theorem CeR.cells {w : World} {ok : Nat → Prop} {c : Ce} {cs : List Value} (h : CeR w ok c cs) : ∃ a n, cs = [.string c.name, .int .i64 c.val.kind, .int .i64 c.val.num, .string c.val.text, .slice a c.val.list.length n] ∧
    VR w ok c.val [.int .i64 c.val.kind, .int .i64 c.val.num, .string c.val.text, .slice a c.val.list.length n] := by
  obtain ⟨d, rfl, h1, h2⟩ := h
  obtain ⟨s, rfl, _, _, _, a, n, rfl, _⟩ := VR.iff.1 h2
  exact ⟨a, n, rfl, h2⟩
abbrev Ces (w : World) (ok : Nat → Prop) (v : Value) (l : List Ce) : Prop := Sl 5 (CeR w ok) w ok v l
theorem Ces.keep {w w' : World} {ok : Nat → Prop} {v : Value} {l : List Ce} (h : Ces w ok v l) (k : Keep ok w w') : Ces w' ok v l := Sl.keep h (fun _ _ _ h => h.keep k) k
theorem Ces.mono {w : World} {ok ok' : Nat → Prop} {v : Value} {l : List Ce} (h : Ces w ok v l) (k : ∀ k, k < w.heap.size → ok k → ok' k) : Ces w ok' v l := Sl.mono h (fun _ _ _ h => h.mono k) k (by decide)
/-- The i-th cell of a slice: its cells, as a walk reads them. -/
theorem ces_at {w w' : World} {ok : Nat → Prop} {a : Option Addr} {n c : Nat} {l : List Ce} (h : Ces w ok (.slice a n c) l) (k : Keep ok w w') {j : Nat} {x : Ce} (hx : l[j]? = some x) :
    ∃ ad a' c', a = some ad ∧ Fits x.name ∧ VR w' ok x.val [.int .i64 x.val.kind, .int .i64 x.val.num, .string x.val.text, .slice a' x.val.list.length c'] ∧ w'.cell? (ad.add (j * 5)) = some (.string x.name) ∧ w'.cell? ⟨(ad.add (j * 5)).block, (ad.add (j * 5)).off + 1, none⟩ = some (.int .i64 x.val.kind) ∧ w'.cell? ⟨(ad.add (j * 5)).block, (ad.add (j * 5)).off + 2, none⟩ = some (.int .i64 x.val.num) ∧
      w'.cell? ⟨(ad.add (j * 5)).block, (ad.add (j * 5)).off + 3, none⟩ = some (.string x.val.text) ∧ w'.cell? ⟨(ad.add (j * 5)).block, (ad.add (j * 5)).off + 4, none⟩ = some (.slice a' x.val.list.length c') := by
  obtain ⟨a', c', e, h1, h2, h3⟩ := h
  cases e
  obtain ⟨ad, rfl, hb, hf⟩ := h3 (fun e => by rw [e] at hx; cases hx)
  obtain ⟨cs, hv, hl, hc⟩ := hf j x hx
  have hF : Fits x.name := by obtain ⟨_, _, h, _⟩ := hv; exact h
  obtain ⟨a2, c2, rfl, hv2⟩ := hv.cells
  have hc' := hc.keep k hb
  refine ⟨ad, a2, c2, rfl, hF, hv2.keep k, hc' 0 _ rfl, ?_, ?_, ?_, ?_⟩
  · rw [← add_field _ _ 1 (by omega)]; exact hc' 1 _ rfl
  · rw [← add_field _ _ 2 (by omega)]; exact hc' 2 _ rfl
  · rw [← add_field _ _ 3 (by omega)]; exact hc' 3 _ rfl
  · rw [← add_field _ _ 4 (by omega)]; exact hc' 4 _ rfl
structure Ms where
  kind : Int
  text : ByteArray
  given : List Ce
  num : Int
def MR (w : World) (ok : Nat → Prop) (m : Ms) (cs : List Value) : Prop :=
  ∃ s, cs = [.int .i64 m.kind, .string m.text, s, .int .i64 m.num] ∧ I64 m.kind ∧ I64 m.num ∧ Fits m.text ∧ Ces w ok s m.given
theorem MR.keep {w w' : World} {ok : Nat → Prop} {m : Ms} {cs : List Value} (h : MR w ok m cs) (k : Keep ok w w') : MR w' ok m cs := by
  obtain ⟨s, rfl, h1, h2, h3, h4⟩ := h
  exact ⟨s, rfl, h1, h2, h3, Ces.keep h4 k⟩
theorem MR.mono {w : World} {ok ok' : Nat → Prop} {m : Ms} {cs : List Value} (h : MR w ok m cs) (k : ∀ k, k < w.heap.size → ok k → ok' k) : MR w ok' m cs := by
  obtain ⟨s, rfl, h1, h2, h3, h4⟩ := h
  exact ⟨s, rfl, h1, h2, h3, Ces.mono h4 k⟩
/-! which has a form -/
/-- the k-th cell: a name that no earlier one has, and a value that is ok -/
def cellGood (l : List Ce) (k : Nat) : Bool := match l[k]? with
  | none => false
  | some c => nameOk c.name && okV 3 c.val && !((l.take k).any fun d => decide (d.name = c.name))
def okCells (l : List Ce) : Bool := (List.range l.length).all (cellGood l)
def okM (m : Ms) : Bool :=
  if m.kind = 1 then nameOk m.text && ((m.given.length : Int) == 0) && m.num == 0
  else if m.kind = 2 then decide ((m.text.size : Int) ≤ 1000) && decide ((m.given.length : Int) ≤ 5) && okCells m.given && m.num == 0
  else if m.kind = 3 then (m.text.toList == ([] : List UInt8)) && ((m.given.length : Int) == 0) && decide (1 ≤ m.num) && decide (m.num ≤ 60)
  else if 4 ≤ m.kind ∧ m.kind ≤ 9 then (m.text.toList == ([] : List UInt8)) && ((m.given.length : Int) == 0) && m.num == 0
  else false
end Go.Proofs.YtjgnnobfaphkeaaDoor

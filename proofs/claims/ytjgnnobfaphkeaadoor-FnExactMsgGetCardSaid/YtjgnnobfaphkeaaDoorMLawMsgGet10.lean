/- A map of one's own, from texts to numbers, that holds 1 for each text seen. No condition. Which lists of cells are ok: the program's cellsOk. For every list. The text of what is said, as a plain function. For every message. The reading of what is said, as plain functions: the program's and the reference's; each finds a message again in its text, so both find the same. No condition. The program's givenGet: the cells that a text tells, each behind a newline. For every text of at most 2^60 bytes. -/
import Derived.Test.YtjgnnobfaphkeaaDoorMLawMsgGet0
import Derived.WideKeyMaps2
import Derived.Laws.IdiomMaps
import Derived.Test.YtjgnnobfaphkeaaDoorMLawMsgGet1
import Derived.Test.YtjgnnobfaphkeaaDoorMLawMsgGet3
import Derived.Test.YtjgnnobfaphkeaaDoorMLawMsgGet5
import Derived.WideMake
import Derived.Test.YtjgnnobfaphkeaaDoorMLawMsgGet2
import Derived.Test.YtjgnnobfaphkeaaDoorMLawMsgGet9
/- A map of one's own, from texts to numbers, that holds 1 for each text seen. No condition. -/
namespace Go.Proofs.YtjgnnobfaphkeaaDoor
open Go.RowKit Go.WideMaps Go.MapKept Go.ChangeMaps
set_option linter.unusedVariables false
def Seen (w : World) (b : Nat) (l : List ByteArray) : Prop := ∃ es clock, w.heap[b]? = some (.map es clock) ∧ es.toList.map (fun x => (x.key, x.val)) = l.map fun s => (Value.string s, Value.int .i64 1)
section
variable {P : Program} {k e t : TypeId} {w : World} {b : Nat} {l : List ByteArray}
theorem Seen.keep {ok : Nat → Prop} {w' : World} (h : Seen w b l) (hk : Keep ok w w') (ho : ok b) : Seen w' b l := by
  obtain ⟨es, c, hb, he⟩ := h
  exact ⟨es, c, blk_keep hk hb ho, he⟩
theorem Seen.made (w : World) : Seen (w.alloc (.map #[] 0)) w.heap.size [] := ⟨#[], 0, blk_new _ _, rfl⟩
theorem Seen.lt (h : Seen w b l) : b < w.heap.size := by obtain ⟨es, c, hb, _⟩ := h; exact blk_lt hb
theorem seen_key (hk : P.underlying k = some .string) {s : ByteArray} (hs : Fits s) : keyOf P k (.string s) = some (.string s.data.toList) := keyOf_string_mk hk (by simpa [Fits, maxLen] using hs)
theorem seen_entry {es : Array MapEntry} (he : es.toList.map (fun x => (x.key, x.val)) = l.map fun s => (Value.string s, Value.int .i64 1)) {x : MapEntry} (hx : x ∈ es.toList) : ∃ s, s ∈ l ∧ x.key = .string s ∧ x.val = .int .i64 1 := by
  have : (x.key, x.val) ∈ es.toList.map (fun x => (x.key, x.val)) := List.mem_map.2 ⟨x, hx, rfl⟩
  rw [he] at this
  obtain ⟨s, hs, e⟩ := List.mem_map.1 this
  exact ⟨s, hs, (congrArg Prod.fst e).symm, (congrArg Prod.snd e).symm⟩
theorem seen_of {es : Array MapEntry} (he : es.toList.map (fun x => (x.key, x.val)) = l.map fun s => (Value.string s, Value.int .i64 1)) {s : ByteArray} (hs : s ∈ l) : ∃ x, x ∈ es.toList ∧ x.key = .string s := by
  have : (Value.string s, Value.int .i64 1) ∈ es.toList.map (fun x => (x.key, x.val)) := by rw [he]; exact List.mem_map.2 ⟨s, hs, rfl⟩
  obtain ⟨x, hx, e⟩ := List.mem_map.1 this
  exact ⟨x, hx, congrArg Prod.fst e⟩
theorem seen_lookup (hk : P.underlying k = some .string) (ht : P.underlying t = some (.map k e)) (hz : ∀ u : World, (zeroValue e).run P u = .ok (.int .i64 0) u) (h : Seen w b l) (hl : ∀ x, x ∈ l → Fits x) {s : ByteArray} (hs : Fits s) :
    (s ∈ l → (Instr.lookup t (.map (some b)) (.string s) false).run P w = .ok (.int .i64 1) w) ∧ (¬ s ∈ l → (Instr.lookup t (.map (some b)) (.string s) false).run P w = .ok (.int .i64 0) w) := by
  obtain ⟨es, clock, hb, he⟩ := h
  have K : KeyLaw P k := string_law hk
  have hkey := seen_key hk hs
  rcases K.find w hkey es.toList (fun x hx => by obtain ⟨s', hs', e1, _⟩ := seen_entry he hx; exact ⟨_, e1 ▸ seen_key hk (hl _ hs')⟩) with ⟨h1, h2⟩ | ⟨j, e0, h1, h2, h3⟩
  · refine ⟨fun hm => ?_, fun _ => by simp [Instr.lookup, run_underlying ht, MapKept.run_getObj_map hb, K.check w _ hkey, h1, hz, Result.andThen]⟩
    obtain ⟨x, hx, e1⟩ := seen_of he hm
    exact absurd e1 (h2 x hx)
  · obtain ⟨s', hs', e1, e2⟩ := seen_entry he (List.mem_of_getElem? h2)
    rw [h3] at e1
    cases e1
    exact ⟨fun _ => by simp [Instr.lookup, run_underlying ht, MapKept.run_getObj_map hb, K.check w _ hkey, h1, e2, Result.andThen], fun hn => absurd hs' hn⟩
theorem keep_setBlock (w : World) (b : Nat) (o : Obj) : Keep (But b) w (setBlock w b o) :=
  ⟨rfl, rfl, rfl, by simp [setBlock], fun k hk hn => by simp [setBlock, Array.getElem?_setIfInBounds_ne (Ne.symm hn)]⟩
theorem seen_update (hk : P.underlying k = some .string) (ht : P.underlying t = some (.map k e)) (h : Seen w b l) (hl : ∀ x, x ∈ l → Fits x) {s : ByteArray} (hs : Fits s) (hn : ¬ s ∈ l) :
    ∃ w', (Instr.mapUpdate t (.map (some b)) (.string s) (.int .i64 1)).run P w = .ok () w' ∧ Seen w' b (l ++ [s]) ∧ Keep (But b) w w' := by
  obtain ⟨es, clock, hb, he⟩ := h
  have K : KeyLaw P k := string_law hk
  have hkey := seen_key hk hs
  rcases K.find w hkey es.toList (fun x hx => by obtain ⟨s', hs', e1, _⟩ := seen_entry he hx; exact ⟨_, e1 ▸ seen_key hk (hl _ hs')⟩) with ⟨h1, h2⟩ | ⟨j, e0, h1, h2, h3⟩
  · refine ⟨setBlock w b (.map (es.push ⟨.string s, .int .i64 1, clock⟩) (clock + 1)), by simp [Instr.mapUpdate, run_underlying ht, MapKept.run_getObj_map hb, K.check w false hkey, h1, MapKept.run_setObj_map _ hb, Result.andThen, setBlock], ⟨es.push ⟨.string s, .int .i64 1, clock⟩, clock + 1, ?_, ?_⟩, keep_setBlock _ _ _⟩
    · have := blk_lt hb
      simp [setBlock, this]
    · simp [he]
  · obtain ⟨s', hs', e1, e2⟩ := seen_entry he (List.mem_of_getElem? h2)
    rw [h3] at e1
    cases e1
    exact absurd hs' hn
end
end Go.Proofs.YtjgnnobfaphkeaaDoor

/- Which lists of cells are ok: the program's cellsOk. For every list. -/
namespace Go.Proofs.YtjgnnobfaphkeaaDoor
open Go.RowKit
set_option linter.unusedVariables false
set_option linter.unusedSimpArgs false
theorem okCells_bad {l : List Ce} {k : Nat} (hk : k < l.length) (h : cellGood l k = false) : okCells l = false :=
  List.all_eq_false.2 ⟨k, List.mem_range.2 hk, by rw [h]; decide⟩
theorem okCells_good {l : List Ce} (h : ∀ k, k < l.length → cellGood l k = true) : okCells l = true := List.all_eq_true.2 fun k hk => h k (List.mem_range.1 hk)
theorem cellGood_at {l : List Ce} {k : Nat} {x : Ce} (h : l[k]? = some x) : cellGood l k = (nameOk x.name && okV 3 x.val && !((l.take k).any fun d => decide (d.name = x.name))) := by rw [cellGood, h]
theorem any_name {l : List Ce} {s : ByteArray} : (l.any fun d => decide (d.name = s)) = true ↔ s ∈ l.map Ce.name := by
  rw [List.any_eq_true, List.mem_map]
  constructor
  · rintro ⟨x, hx, h⟩; exact ⟨x, hx, by simpa using h⟩
  · rintro ⟨x, hx, h⟩; exact ⟨x, hx, by simpa using h⟩
theorem name_fits {t : ByteArray} (h : nameOk t = true) : Fits t := by
  simp only [nameOk, nameShape, Bool.and_eq_true, decide_eq_true_eq] at h
  unfold Fits; omega
theorem good_name {l : List Ce} {j : Nat} {y : Ce} (h : cellGood l j = true) (hy : l[j]? = some y) : nameOk y.name = true := by
  rw [cellGood_at hy] at h
  simp only [Bool.and_eq_true] at h
  exact h.1.1
set_option maxRecDepth 20000 in
set_option maxHeartbeats 1000000 in
theorem cellsOk_calls (l : List Ce) (s : Value) (w : World) (hs : Ces w Any s l) : Calls Tryd.prog 67 #[s] w (Tells (okCells l) w) := by
  have HS := Lib.hid hs
  have IN := Lib.hid nameOk_calls
  have IV := Lib.hid valueOk_calls
  obtain ⟨ad, c, rfl, hc, hm, _⟩ := hs
  have mk := run_makeMap_plain (P := Tryd.prog) (w := w) 112
  go_enter Tryd.func67, Tryd.ntmps67
  go_wp2
  go_loopg [9] (l.length + 1) (fun g i wr => ∃ k : Nat, k ≤ l.length ∧ i = .int .i64 k ∧ g = l.length + 1 - k ∧ (∀ j, j < k → cellGood l j = true) ∧ Seen wr w.heap.size ((l.take k).map Ce.name) ∧ Keep Any w wr)
  case atStart => exact ⟨0, by omega, rfl, rfl, fun j hj => by omega, Seen.made w, (Keep.refl _ _).alloc _⟩
  case round =>
    obtain ⟨k, hk, rfl, hg, hall, hS, hK⟩ := hrel
    have HG := Lib.hid hg
    have HA := Lib.hid hall
    have SE := Lib.hid hS
    clear hg hall hS
    by_cases hlt : k < l.length
    · have hx : l[k]? = some l[k] := List.getElem?_eq_getElem hlt
      have HX := Lib.hid hx
      obtain ⟨ad, sa, sc, rfl, hF, hvx, c0, c1, c2, c3, c4⟩ := ces_at HS.out hK hx
      generalize l[k] = x at *
      have HV := Lib.hid hvx
      have hcg := cellGood_at hx
      have CG := Lib.hid hcg
      clear hx hvx hcg
      rcases hq : nameOk x.name with _ | _
      · have HQ := Lib.hid hq
        clear hq
        go_wp2_with (go_at_call 59; refine (IN.out _ _ hF).mono ?_; rintro e w2 ⟨rfl, rfl⟩; rw [HQ.out])
        go_ret
        exact ⟨ret_bool (by rw [okCells_bad hlt (by rw [CG.out, HQ.out]; rfl)]), hK.alloc _⟩
      · have HQ := Lib.hid hq
        clear hq
        rcases hq2 : okV 3 x.val with _ | _
        · have HQ2 := Lib.hid hq2
          clear hq2
          go_wp2_with (first | (go_at_call 59; refine (IN.out _ _ hF).mono ?_; rintro e w2 ⟨rfl, rfl⟩; rw [HQ.out]) | (go_at_call 60; refine (IV.out _ _ _ (HV.out.keep ((Keep.refl _ _).alloc _))).mono ?_; rintro e w2 ⟨rfl, hK2⟩; rw [HQ2.out]))
          go_ret
          exact ⟨ret_bool (by rw [okCells_bad hlt (by rw [CG.out, HQ.out, HQ2.out]; rfl)]), (hK.alloc _).trans hK2⟩
        · have HQ2 := Lib.hid hq2
          clear hq2
          have HL := Lib.hid (fun (y : ByteArray) (hy : y ∈ (l.take k).map Ce.name) => by
            obtain ⟨z, hz, rfl⟩ := List.mem_map.1 hy
            obtain ⟨j, hj, rfl⟩ := List.getElem_of_mem hz
            have hj' : j < k := by have := hj; rw [List.length_take] at this; omega
            rw [List.getElem_take]
            exact name_fits (good_name (HA.out j hj') (List.getElem?_eq_getElem (by omega))) : ∀ y, y ∈ (l.take k).map Ce.name → Fits y)
          by_cases hin : x.name ∈ (l.take k).map Ce.name
          · have HI := Lib.hid hin
            clear hin
            go_wp2_with (first | (go_at_call 59; refine (IN.out _ _ hF).mono ?_; rintro e w2 ⟨rfl, rfl⟩; rw [HQ.out]) | (go_at_call 60; refine (IV.out _ _ _ (HV.out.keep ((Keep.refl _ _).alloc _))).mono ?_; rintro e w2 ⟨rfl, hK2⟩; rw [HQ2.out]; have lk := (seen_lookup Tryd.underlying9 Tryd.underlying112 Tryd.zeroValue3 (SE.out.keep (((Keep.refl Any _).alloc _).trans hK2) trivial) HL.out hF).1 HI.out; have x0 := blk_cell (blk_keep hK2 (blk_new _ _) trivial) 0; simp only [List.getElem?_toArray, List.getElem?_cons_succ, List.getElem?_cons_zero] at x0))
            go_ret
            exact ⟨ret_bool (by rw [okCells_bad hlt (by rw [CG.out, HQ.out, HQ2.out, any_name.2 HI.out]; rfl)]), (hK.alloc _).trans hK2⟩
          · have HI := Lib.hid hin
            clear hin
            have gd : cellGood l k = true := by
              rw [CG.out, HQ.out, HQ2.out]
              cases hh : (l.take k).any fun d => decide (d.name = x.name) with
              | false => rfl
              | true => exact absurd (any_name.1 hh) HI.out
            have GD := Lib.hid gd
            clear gd
            go_wp2_with (first | (go_at_call 59; refine (IN.out _ _ hF).mono ?_; rintro e w2 ⟨rfl, rfl⟩; rw [HQ.out]) | (go_at_call 60; refine (IV.out _ _ _ (HV.out.keep ((Keep.refl _ _).alloc _))).mono ?_; rintro e w2 ⟨rfl, hK2⟩; rw [HQ2.out]; have SE2 := Lib.hid (SE.out.keep (((Keep.refl Any _).alloc _).trans hK2) trivial); have lk := (seen_lookup Tryd.underlying9 Tryd.underlying112 Tryd.zeroValue3 SE2.out HL.out hF).2 HI.out; obtain ⟨w3, up, hS3, hK3⟩ := seen_update Tryd.underlying9 Tryd.underlying112 SE2.out HL.out hF HI.out; have SE3 := Lib.hid hS3; clear hS3; have x0 := blk_cell (blk_keep hK2 (blk_new _ _) trivial) 0; simp only [List.getElem?_toArray, List.getElem?_cons_succ, List.getElem?_cons_zero] at x0))
            go_roundg (gk - 1)
            case rel => exact ⟨k + 1, by omega, by go_num, by have := HG.out; omega, fun j hj => by rcases Nat.lt_succ_iff_lt_or_eq.1 hj with hj | rfl; exact HA.out j hj; exact GD.out, by have := SE3.out; rw [List.take_add_one, HX.out]; simpa using this, ((hK.alloc _).trans hK2).then hK3 (fun i hi _ => by show i ≠ w.heap.size; omega)⟩
            case measure => have := HG.out; omega
    · obtain rfl : k = l.length := by omega
      have E1 := Lib.hid (okCells_good HA.out)
      go_wp2
      go_ret
      exact ⟨ret_bool (by rw [E1.out]), hK⟩
end Go.Proofs.YtjgnnobfaphkeaaDoor

/- The text of what is said, as a plain function. For every message. -/
namespace Go.Proofs.YtjgnnobfaphkeaaDoor
open Go.RowKit
set_option linter.unusedVariables false
set_option linter.unusedSimpArgs false
def numTxt (n : Int) : List UInt8 := Lib.itoa n ++ [32]
def ceTxt (c : Ce) : List UInt8 := 10 :: (c.name.data.toList ++ 61 :: c.val.put)
def givenTxt (l : List Ce) (k : Nat) : List UInt8 := ((l.take k).map ceTxt).flatten
def headTxt (m : Ms) : List UInt8 := numTxt m.kind ++ (numTxt m.num ++ numTxt m.text.size)
def sayUpto (m : Ms) (k : Nat) : List UInt8 := headTxt m ++ (m.text.data.toList ++ givenTxt m.given k)
def sayTxt (m : Ms) : List UInt8 := sayUpto m m.given.length
def msgTxt (m : Ms) : List UInt8 := if okM m then sayTxt m else []
theorem givenTxt_succ {l : List Ce} {k : Nat} {x : Ce} (h : l[k]? = some x) : givenTxt l (k + 1) = givenTxt l k ++ ceTxt x := by
  rw [givenTxt, givenTxt, List.take_add_one, h]; simp
theorem sayUpto_succ {m : Ms} {k : Nat} {x : Ce} (h : m.given[k]? = some x) : sayUpto m (k + 1) = sayUpto m k ++ ceTxt x := by
  rw [sayUpto, sayUpto, givenTxt_succ h]; simp
theorem ceTxt_len {c : Ce} (h1 : nameOk c.name = true) (h2 : okV 3 c.val = true) : (ceTxt c).length ≤ 1000010 := by
  have := name_size h1
  have h3 := put_len3 h2 (by omega)
  rw [Lib.size_eq] at this
  simp only [ceTxt, List.length_cons, List.length_append]
  omega
theorem givenTxt_len {l : List Ce} {k : Nat} (hl : l.length ≤ 5) (h : ∀ x, x ∈ l → nameOk x.name = true ∧ okV 3 x.val = true) : (givenTxt l k).length ≤ 5000050 := by
  have := flat_len (b := 1000010) ((l.take k).map ceTxt) fun x hx => by
    obtain ⟨y, hy, rfl⟩ := List.mem_map.1 hx
    obtain ⟨h1, h2⟩ := h y (List.mem_of_mem_take hy)
    exact ceTxt_len h1 h2
  have h2 : ((l.take k).map ceTxt).length ≤ 5 := by simp; omega
  have h3 : ((l.take k).map ceTxt).length * 1000010 ≤ 5 * 1000010 := Nat.mul_le_mul_right _ h2
  rw [givenTxt]
  omega
theorem okM_facts {m : Ms} (h : okM m = true) : 1 ≤ m.kind ∧ m.kind ≤ 9 ∧ 0 ≤ m.num ∧ m.num ≤ 60 ∧ m.text.size ≤ 1000 ∧ m.given.length ≤ 5 ∧ ∀ x, x ∈ m.given → nameOk x.name = true ∧ okV 3 x.val = true := by
  obtain ⟨kind, text, given, num⟩ := m
  have tx : text.toList = [] → text.size ≤ 1000 := fun e => by
    rw [ByteArray.toList_eq] at e
    rw [Lib.size_eq, e]; simp
  by_cases k1 : kind = 1
  · subst k1
    simp [okM] at h
    obtain ⟨⟨h1, h2⟩, h3⟩ := h
    subst h3
    have h2 : given = [] := by simpa using h2
    subst h2
    have := name_size h1
    exact ⟨by simp, by simp, by simp, by simp, by simp only; omega, by simp, fun x hx => by cases hx⟩
  by_cases k2 : kind = 2
  · subst k2
    simp [okM] at h
    obtain ⟨⟨⟨h1, h2⟩, h3⟩, h4⟩ := h
    subst h4
    refine ⟨by simp, by simp, by simp, by simp, by simp only; omega, by simp only; omega, fun x hx => ?_⟩
    obtain ⟨j, hj, rfl⟩ := List.getElem_of_mem hx
    have hg := List.all_eq_true.1 h3 j (List.mem_range.2 hj)
    rw [cellGood_at (List.getElem?_eq_getElem hj)] at hg
    simp only [Bool.and_eq_true] at hg
    exact hg.1
  by_cases k3 : kind = 3
  · subst k3
    simp [okM] at h
    obtain ⟨⟨⟨h1, h2⟩, h3⟩, h4⟩ := h
    have h2 : given = [] := by simpa using h2
    subst h2
    exact ⟨by simp, by simp, by simp only; omega, by simp only; omega, tx (by simpa using h1), by simp, fun x hx => by cases hx⟩
  by_cases k4 : 4 ≤ kind ∧ kind ≤ 9
  · simp only [okM] at h
    rw [if_neg k1, if_neg k2, if_neg k3, if_pos k4] at h
    simp at h
    obtain ⟨⟨h1, h2⟩, h3⟩ := h
    subst h3
    have h2 : given = [] := by simpa using h2
    subst h2
    exact ⟨by simp only; omega, by simp only; omega, by simp, by simp, tx (by simpa using h1), by simp, fun x hx => by cases hx⟩
  · simp only [okM] at h
    rw [if_neg k1, if_neg k2, if_neg k3, if_neg k4] at h
    cases h
theorem numTxt_len (n : Int) (h0 : -1000000000 ≤ n) (h1 : n ≤ 1000000000) : (numTxt n).length ≤ 22 := by
  have := itoa_len2 n h0 h1
  simp [numTxt]; omega
theorem headTxt_len {m : Ms} (h : okM m = true) : (headTxt m).length ≤ 66 := by
  obtain ⟨a, b, c, d, e, _⟩ := okM_facts h
  have := numTxt_len m.kind (by omega) (by omega)
  have := numTxt_len m.num (by omega) (by omega)
  have := numTxt_len m.text.size (by omega) (by omega)
  simp only [headTxt, List.length_append]; omega
theorem sayUpto_len {m : Ms} {k : Nat} (h : okM m = true) : (sayUpto m k).length ≤ 6000000 := by
  obtain ⟨a, b, c, d, e, f, g⟩ := okM_facts h
  have := headTxt_len h
  have := givenTxt_len (k := k) f g
  rw [Lib.size_eq] at e
  simp only [sayUpto, List.length_append]; omega
end Go.Proofs.YtjgnnobfaphkeaaDoor

/- The reading of what is said, as plain functions: the program's and the reference's; each finds a message again in its text, so both find the same. No condition. -/
namespace Go.Proofs.YtjgnnobfaphkeaaDoor
open Go.RowKit
set_option linter.unusedVariables false
set_option linter.unusedSimpArgs false

/-- the bytes ahead of a newline -/
def lineOf : List UInt8 → List UInt8
  | [] => []
  | b :: r => if b = 10 then [] else b :: lineOf r
theorem lineOf_app {rest : List UInt8} (hr : ∀ b r, rest = b :: r → b = 10) : ∀ {l : List UInt8}, (∀ b, b ∈ l → b ≠ 10) → lineOf (l ++ rest) = l
  | [], _ => by
    cases rest with
    | nil => rfl
    | cons b r => rw [List.nil_append, lineOf, if_pos (hr b r rfl)]
  | b :: l, h => by
    rw [List.cons_append, lineOf, if_neg (h b (List.mem_cons_self ..)), lineOf_app hr (fun c hc => h c (List.mem_cons_of_mem _ hc))]
theorem lineOf_le : ∀ l : List UInt8, (lineOf l).length ≤ l.length
  | [] => Nat.le_refl _
  | b :: l => by
    have := lineOf_le l
    rw [lineOf]
    split
    · simp
    · simp only [List.length_cons]; omega
theorem lineOf_take : ∀ l : List UInt8, l.take (lineOf l).length = lineOf l
  | [] => rfl
  | b :: l => by
    rw [lineOf]
    split
    · rfl
    · rw [List.length_cons, List.take_succ_cons, lineOf_take l]
/-- Up to a newline, or all of it. -/
theorem lineOf_cut (l : List UInt8) : lineOf l = match cutAt 10 l with | some (a, _) => a | none => l := by
  induction l with
  | nil => rfl
  | cons b l ih =>
    rw [lineOf, cutAt]
    by_cases h : b = 10
    · rw [if_pos h, if_pos h]
    · rw [if_neg h, if_neg h, ih]
      cases cutAt 10 l with
      | none => rfl
      | some p => rfl
/-- what is given, as the program reads it: at most f more -/
def gvs : Nat → List UInt8 → Option (List Ce)
  | f, l => if l = [] then some [] else match f with
    | 0 => none
    | f + 1 => if l.headD 0 = 10 then (match cutAt 61 (lineOf (l.drop 1)) with
      | none => none
      | some (nm, x) => match valGet x with
        | none => none
        | some v => (gvs f (l.drop (1 + (lineOf (l.drop 1)).length))).map fun g => ⟨⟨nm.toArray⟩, v⟩ :: g) else none
/-- and as the reference does -/
def scells : Nat → List UInt8 → Option (List Ce)
  | f, l => if l = [] then some [] else match f with
    | 0 => none
    | f + 1 => if l.headD 0 = 10 then (match cutAt 61 (l.drop 1) with
      | none => none
      | some (nm, rest) => match valGet (lineOf rest) with
        | none => none
        | some v => (scells f (rest.drop (lineOf rest).length)).map fun g => ⟨⟨nm.toArray⟩, v⟩ :: g) else none
theorem name_bytes {t : ByteArray} (h : nameOk t = true) : ∀ b, b ∈ t.data.toList → letter b.toNat = true ∨ fig b.toNat = true := by
  simp only [nameOk, nameShape, Bool.and_eq_true] at h
  intro b hb
  obtain ⟨i, hi, rfl⟩ := List.getElem_of_mem hb
  have hs : i < t.size := by rw [Lib.size_eq]; exact hi
  have := List.all_eq_true.1 h.1.2 i (List.mem_range.2 hs)
  rw [Bool.or_eq_true] at this
  have e : at_ t i = (t.data.toList[i]).toNat := by
    rw [← at_eq t i hs]
    have : t[i] = t.data.toList[i] := rfl
    rw [this]
  rwa [e] at this
theorem name_no {t : ByteArray} (h : nameOk t = true) : ∀ b, b ∈ t.data.toList → b ≠ 61 ∧ b ≠ 10 ∧ b ≠ 32 := by
  intro b hb
  rcases name_bytes h b hb with h | h
  · refine ⟨?_, ?_, ?_⟩ <;> (rintro rfl; revert h; decide)
  · refine ⟨?_, ?_, ?_⟩ <;> (rintro rfl; revert h; decide)
theorem fig_no10 {b : UInt8} (h : fig b.toNat = true) : b ≠ 10 := fig_ne h rfl
theorem joinTail_no {c : UInt8} (hc : c ≠ 44 ∧ c ≠ 32) : ∀ xs : List (List UInt8), (∀ x, x ∈ xs → c ∉ x) → c ∉ Lib.joinTail [44, 32] xs
  | [], _ => by simp [Lib.joinTail]
  | x :: xs, h => by
    have := joinTail_no hc xs fun y hy => h y (List.mem_cons_of_mem _ hy)
    have e : Lib.joinTail [44, 32] (x :: xs) = [44, 32] ++ x ++ Lib.joinTail [44, 32] xs := by simp [Lib.joinTail]
    rw [e]
    simp only [List.mem_append, List.mem_cons, List.not_mem_nil, or_false, not_or]
    exact ⟨⟨⟨hc.1, hc.2⟩, h x (List.mem_cons_self ..)⟩, this⟩
theorem join_no {c : UInt8} (hc : c ≠ 44 ∧ c ≠ 32) (xs : List (List UInt8)) (h : ∀ x, x ∈ xs → c ∉ x) : c ∉ Lib.join xs [44, 32] := by
  cases xs with
  | nil => simp [Lib.join_nil]
  | cons x r =>
    rw [Lib.join_cons, List.mem_append, not_or]
    exact ⟨h x (List.mem_cons_self ..), joinTail_no hc r fun y hy => h y (List.mem_cons_of_mem _ hy)⟩
theorem put_no10 : ∀ (d : Nat) (v : V), okV d v = true → (10 : UInt8) ∉ v.put
  | 0, v, h => by simp [okV] at h
  | d + 1, v, h => by
    cases okV_cases h with
    | null => rw [put_vN0]; decide
    | no => rw [put_no]; decide
    | yes => rw [put_yes]; decide
    | num n h0 h1 =>
      by_cases hn : 0 ≤ n
      · obtain ⟨m, rfl⟩ := Int.eq_ofNat_of_zero_le hn
        rw [put_num, itoa_nat]
        exact fun h => fig_no10 (dec_figs m _ h) rfl
      · obtain ⟨m, rfl⟩ : ∃ m : Nat, n = -(m : Int) := ⟨n.natAbs, by omega⟩
        rw [put_num, itoa_neg (by omega), List.mem_cons, not_or]
        exact ⟨by decide, fun h => fig_no10 (dec_figs m _ h) rfl⟩
    | text t ht =>
      rw [put_text]
      simp only [List.mem_cons, List.mem_append, List.not_mem_nil, or_false, not_or]
      exact ⟨by decide, fun h => by have := (text_no ht 10 h).1; revert this; decide, by decide⟩
    | list l hl hx =>
      rw [put_list, rowTxt]
      simp only [List.mem_cons, List.mem_append, List.not_mem_nil, or_false, not_or]
      exact ⟨by decide, join_no (by decide) _ fun x hm => by obtain ⟨y, hy, rfl⟩ := List.mem_map.1 hm; exact put_no10 d y (hx y hy), by decide⟩
    | node n hn =>
      rw [put_node, itoa_nat, List.mem_cons, not_or]
      exact ⟨by decide, fun h => fig_no10 (dec_figs n _ h) rfl⟩
    | edge n hn =>
      rw [put_edge, itoa_nat, List.mem_cons, not_or]
      exact ⟨by decide, fun h => fig_no10 (dec_figs n _ h) rfl⟩
theorem cells_behind (l : List Ce) : ∀ b r, (l.map ceTxt).flatten = b :: r → b = 10 := by
  intro b r e
  cases l with
  | nil => cases e
  | cons c l => simp [ceTxt] at e; exact e.1.symm
theorem eta_ce (c : Ce) : (⟨⟨c.name.data.toList.toArray⟩, c.val⟩ : Ce) = c := by cases c; simp
theorem valGet_put {v : V} (h : okV 3 v = true) : valGet v.put = some v := valGet_iff.2 ⟨h, rfl⟩
theorem gvs_put : ∀ (l : List Ce) (f : Nat), l.length ≤ f → (∀ c, c ∈ l → nameOk c.name = true ∧ okV 3 c.val = true) → gvs f (l.map ceTxt).flatten = some l
  | [], f, _, _ => by unfold gvs; simp
  | c :: l, f, hf, h => by
    obtain ⟨f, rfl⟩ : ∃ g, f = g + 1 := ⟨f - 1, by simp at hf; omega⟩
    obtain ⟨hn, hv⟩ := h c (List.mem_cons_self ..)
    have ih := gvs_put l f (by simp only [List.length_cons] at hf; omega) fun d hd => h d (List.mem_cons_of_mem _ hd)
    have e : ((c :: l).map ceTxt).flatten = 10 :: ((c.name.data.toList ++ 61 :: c.val.put) ++ (l.map ceTxt).flatten) := by simp [ceTxt]
    have hl : lineOf ((c.name.data.toList ++ 61 :: c.val.put) ++ (l.map ceTxt).flatten) = c.name.data.toList ++ 61 :: c.val.put := by
      refine lineOf_app (cells_behind l) fun b hb => ?_
      rcases List.mem_append.1 hb with hb | hb
      · exact (name_no hn b hb).2.1
      · rcases List.mem_cons.1 hb with rfl | hb
        · decide
        · exact fun e => put_no10 3 _ hv (e ▸ hb)
    have hc : cutAt 61 (c.name.data.toList ++ 61 :: c.val.put) = some (c.name.data.toList, c.val.put) := cutAt_app fun hm => (name_no hn _ hm).1 rfl
    rw [e]
    unfold gvs
    rw [if_neg (by simp)]
    simp only [List.headD_cons, List.drop_one, List.tail_cons, if_true, hl, hc, valGet_put hv]
    have e2 : (10 :: ((c.name.data.toList ++ 61 :: c.val.put) ++ (l.map ceTxt).flatten)).drop (1 + (c.name.data.toList ++ 61 :: c.val.put).length) = (l.map ceTxt).flatten := by
      rw [Nat.add_comm, List.drop_succ_cons, List.drop_left]
    rw [e2, ih]
    simp [eta_ce]
theorem scells_put : ∀ (l : List Ce) (f : Nat), l.length ≤ f → (∀ c, c ∈ l → nameOk c.name = true ∧ okV 3 c.val = true) → scells f (l.map ceTxt).flatten = some l
  | [], f, _, _ => by unfold scells; simp
  | c :: l, f, hf, h => by
    obtain ⟨f, rfl⟩ : ∃ g, f = g + 1 := ⟨f - 1, by simp at hf; omega⟩
    obtain ⟨hn, hv⟩ := h c (List.mem_cons_self ..)
    have ih := scells_put l f (by simp only [List.length_cons] at hf; omega) fun d hd => h d (List.mem_cons_of_mem _ hd)
    have e : ((c :: l).map ceTxt).flatten = 10 :: (c.name.data.toList ++ 61 :: (c.val.put ++ (l.map ceTxt).flatten)) := by simp [ceTxt]
    have hc : cutAt 61 (c.name.data.toList ++ 61 :: (c.val.put ++ (l.map ceTxt).flatten)) = some (c.name.data.toList, c.val.put ++ (l.map ceTxt).flatten) := cutAt_app fun hm => (name_no hn _ hm).1 rfl
    have hl : lineOf (c.val.put ++ (l.map ceTxt).flatten) = c.val.put := lineOf_app (cells_behind l) fun b hb e => put_no10 3 _ hv (e ▸ hb)
    rw [e]
    unfold scells
    rw [if_neg (by simp)]
    simp only [List.headD_cons, List.drop_one, List.tail_cons, if_true, hl, hc, valGet_put hv, List.drop_left, ih]
    simp [eta_ce]
/-- a number and a blank -/
def fig1 (l : List UInt8) : Option (Nat × List UInt8) := match figs l with
  | none => none
  | some (n, r) => if hasP [32] r then some (n, r.drop 1) else none
theorem fig1_dec {n : Nat} (h : n < 10000000000) (rest : List UInt8) : fig1 (Lib.decDigits n ++ 32 :: rest) = some (n, rest) := by
  unfold fig1
  rw [figs_dec h (fun b r e => by cases e; rfl)]
  simp [hasP]
def msgOf (l : List UInt8) (m : Ms) : Option Ms := if okM m = true ∧ sayTxt m = l then some m else none
def msgGet3 (l : List UInt8) (a b c : Nat) (r : List UInt8) : Option Ms := if r.length < c then none else match gvs 5 (r.drop c) with
  | none => none
  | some g => msgOf l ⟨a, ⟨(r.take c).toArray⟩, g, b⟩
def msgGet (l : List UInt8) : Option Ms := match fig1 l with
  | none => none
  | some (a, r1) => match fig1 r1 with
    | none => none
    | some (b, r2) => match fig1 r2 with
      | none => none
      | some (c, r3) => msgGet3 l a b c r3
def smsgGet3 (l : List UInt8) (a b c : Int) (r : List UInt8) : Option Ms := if c < 0 ∨ (r.length : Int) < c then none else match scells 6 (r.drop c.toNat) with
  | none => none
  | some g => msgOf l ⟨a, ⟨(r.take c.toNat).toArray⟩, g, b⟩
def smsgGet (l : List UInt8) : Option Ms := match cutAt 32 l with
  | none => none
  | some (a, r1) => match cutAt 32 r1 with
    | none => none
    | some (b, r2) => match cutAt 32 r2 with
      | none => none
      | some (c, r3) => smsgGet3 l (numL a) (numL b) (numL c) r3
theorem msgOf_iff {l : List UInt8} {m x : Ms} : msgOf l m = some x ↔ m = x ∧ okM x = true ∧ sayTxt x = l := by
  unfold msgOf
  constructor
  · intro h; split at h
    · cases h; exact ⟨rfl, by assumption⟩
    · cases h
  · rintro ⟨rfl, h⟩; rw [if_pos h]
theorem msgGet_sound {l : List UInt8} {m : Ms} (h : msgGet l = some m) : okM m = true ∧ sayTxt m = l := by
  unfold msgGet msgGet3 at h
  (repeat' split at h) <;> first | cases h | exact (msgOf_iff.1 h).2
theorem smsgGet_sound {l : List UInt8} {m : Ms} (h : smsgGet l = some m) : okM m = true ∧ sayTxt m = l := by
  unfold smsgGet smsgGet3 at h
  (repeat' split at h) <;> first | cases h | exact (msgOf_iff.1 h).2
theorem sayTxt_eq {m : Ms} {a b : Nat} (ha : m.kind = a) (hb : m.num = b) : sayTxt m = Lib.decDigits a ++ 32 :: (Lib.decDigits b ++ 32 :: (Lib.decDigits m.text.size ++ 32 :: (m.text.data.toList ++ (m.given.map ceTxt).flatten))) := by
  simp [sayTxt, sayUpto, headTxt, numTxt, givenTxt, ha, hb, itoa_nat]
theorem eta_ms {m : Ms} {a b : Nat} (ha : m.kind = a) (hb : m.num = b) : (⟨a, ⟨m.text.data.toList.toArray⟩, m.given, b⟩ : Ms) = m := by cases m; simp at ha hb; simp [ha, hb]
theorem msgGet_put {m : Ms} (h : okM m = true) : msgGet (sayTxt m) = some m := by
  obtain ⟨g1, g2, g3, g4, g5, g6, g7⟩ := okM_facts h
  obtain ⟨a, ha⟩ := Int.eq_ofNat_of_zero_le (show 0 ≤ m.kind by omega)
  obtain ⟨b, hb⟩ := Int.eq_ofNat_of_zero_le (show 0 ≤ m.num by omega)
  have ha : m.kind = a := ha
  have hb : m.num = b := hb
  have hs := m.text.size
  have e := sayTxt_eq ha hb
  have hg := gvs_put m.given 5 g6 g7
  unfold msgGet
  rw [e, fig1_dec (by omega)]
  simp only
  rw [fig1_dec (by omega)]
  simp only
  rw [fig1_dec (by omega)]
  simp only
  rw [← e, msgGet3, if_neg (by rw [List.length_append, Lib.size_eq]; omega), Lib.size_eq, List.drop_left, hg, List.take_left]
  simp only
  rw [eta_ms ha hb]
  exact msgOf_iff.2 ⟨rfl, h, rfl⟩
theorem dec_32 (n : Nat) : (32 : UInt8) ∉ Lib.decDigits n := fun h => fig_ne (dec_figs n _ h) (c := 32) rfl rfl
theorem smsgGet_put {m : Ms} (h : okM m = true) : smsgGet (sayTxt m) = some m := by
  obtain ⟨g1, g2, g3, g4, g5, g6, g7⟩ := okM_facts h
  obtain ⟨a, ha⟩ := Int.eq_ofNat_of_zero_le (show 0 ≤ m.kind by omega)
  obtain ⟨b, hb⟩ := Int.eq_ofNat_of_zero_le (show 0 ≤ m.num by omega)
  have ha : m.kind = a := ha
  have hb : m.num = b := hb
  have e := sayTxt_eq ha hb
  have hg := scells_put m.given 6 (by omega) g7
  unfold smsgGet
  rw [e, cutAt_app (dec_32 _)]
  simp only
  rw [cutAt_app (dec_32 _)]
  simp only
  rw [cutAt_app (dec_32 _)]
  simp only
  rw [← e, smsgGet3, numL_dec (by omega), numL_dec (by omega), numL_dec (by omega), if_neg (by rw [List.length_append, Lib.size_eq]; omega), Int.toNat_natCast, Lib.size_eq, List.drop_left, hg, List.take_left]
  simp only
  rw [eta_ms ha hb]
  exact msgOf_iff.2 ⟨rfl, h, rfl⟩
theorem msgGet_iff {l : List UInt8} {m : Ms} : msgGet l = some m ↔ okM m = true ∧ sayTxt m = l := ⟨msgGet_sound, by rintro ⟨h, rfl⟩; exact msgGet_put h⟩
theorem smsgGet_iff {l : List UInt8} {m : Ms} : smsgGet l = some m ↔ okM m = true ∧ sayTxt m = l := ⟨smsgGet_sound, by rintro ⟨h, rfl⟩; exact smsgGet_put h⟩
theorem smsgGet_eq (l : List UInt8) : smsgGet l = msgGet l := opt_ext fun v => by rw [smsgGet_iff, msgGet_iff]
end Go.Proofs.YtjgnnobfaphkeaaDoor

/- The program's givenGet: the cells that a text tells, each behind a newline. For every text of at most 2^60 bytes. -/
namespace Go.Proofs.YtjgnnobfaphkeaaDoor
open Go.RowKit
set_option linter.unusedVariables false
set_option linter.unusedSimpArgs false
/-- A line: what stands ahead of the first newline, or all. -/
theorem cut_line {s : ByteArray} (hs : s.size ≤ 2305843009213693952) (w : World) :
    Calls Tryd.prog 73 #[.string s, .string ⟨#[10]⟩] w fun e w' => (∃ (y : ByteArray) (b : Bool), e = .returned (.tuple #[.string ⟨(lineOf s.data.toList).toArray⟩, .string y, .bool b])) ∧ Keep Any w w' := by
  have hl := lineOf_cut s.data.toList
  rcases h : cutAt 10 s.data.toList with _ | ⟨x, y⟩
  · rw [h] at hl
    refine (cut_none hs h w).mono fun e w' ⟨he, hw⟩ => ⟨⟨⟨#[]⟩, false, ?_⟩, hw⟩
    rw [he, hl, bytes_eta]
  · rw [h] at hl
    refine (cut_some hs h w).mono fun e w' ⟨he, hw⟩ => ⟨⟨⟨y.toArray⟩, true, ?_⟩, hw⟩
    rw [he, hl]
theorem valueGet_none {t : ByteArray} (ht : t.size ≤ 2305843009213693952) (h : valGet t.data.toList = none) (w : World) (hT : Tab w) : Calls Tryd.prog 74 #[.string t] w fun e w' =>
    e = .returned (.tuple #[.agg #[.int .i64 0, .int .i64 0, .string ⟨#[]⟩, .slice none 0 0], .bool false]) ∧ Keep Any w w' := (valueGet_calls t w ht hT).mono fun e w' ⟨hK, hz⟩ => by
  rcases hz with ⟨_, he⟩ | ⟨v, a, c, hn, _⟩
  · exact ⟨he, hK⟩
  · rw [h] at hn; cases hn
theorem valueGet_some {t : ByteArray} (ht : t.size ≤ 2305843009213693952) {v : V} (h : valGet t.data.toList = some v) (w : World) (hT : Tab w) : Calls Tryd.prog 74 #[.string t] w fun e w' =>
    ∃ (a : Option Addr) (c : Nat), e = .returned (.tuple #[.agg #[.int .i64 v.kind, .int .i64 v.num, .string v.text, .slice a v.list.length c], .bool true]) ∧ Keep Any w w' ∧ SV w' (Mid w.heap.size w'.heap.size) v [.int .i64 v.kind, .int .i64 v.num, .string v.text, .slice a v.list.length c] := (valueGet_calls t w ht hT).mono fun e w' ⟨hK, hz⟩ => by
  rcases hz with ⟨hn, _⟩ | ⟨v', a, c, hn, he, hS⟩
  · rw [h] at hn; cases hn
  · rw [h] at hn; cases hn; exact ⟨a, c, he, hK, hS⟩
theorem infoCell : (Tryd.prog.info? 74).map (fun i => (i.zero, i.size, i.bytes)) = some (some (.agg #[.string ⟨#[]⟩, .int .i64 0, .int .i64 0, .string ⟨#[]⟩, .slice none 0 0]), 5, 72) := by kernel_rfl
/-- what is given, and whether it is so -/
def GotGiven (o : Option (List Ce)) (w : World) (e : Ending) (w' : World) : Prop :=
  Keep Any w w' ∧ ((o = none ∧ e = .returned (.tuple #[.slice none 0 0, .bool false])) ∨
    ∃ (l : List Ce) (a : Option Addr) (c : Nat), o = some l ∧ e = .returned (.tuple #[.slice a l.length c, .bool true]) ∧ SCes w' (Mid w.heap.size w'.heap.size) (.slice a l.length c) l)
theorem gvs_end (f : Nat) : gvs f [] = some [] := by unfold gvs; simp
theorem gvs_full {l : List UInt8} (h : l ≠ []) : gvs 0 l = none := by unfold gvs; simp [h]
theorem gvs_head {f : Nat} {l : List UInt8} (h : l ≠ []) (h1 : ¬ l.headD 0 = 10) : gvs f l = none := by
  unfold gvs
  rw [if_neg h]
  cases f with
  | zero => rfl
  | succ f => exact if_neg h1
theorem gvs_cut {f : Nat} {l : List UInt8} (h : l ≠ []) (h1 : cutAt 61 (lineOf (l.drop 1)) = none) : gvs f l = none := by
  unfold gvs
  rw [if_neg h]
  cases f with
  | zero => rfl
  | succ f =>
    by_cases h0 : l.headD 0 = 10
    · simp only [h0, if_true, h1]
    · exact if_neg h0
theorem gvs_val {f : Nat} {l nm x : List UInt8} (h : l ≠ []) (h1 : cutAt 61 (lineOf (l.drop 1)) = some (nm, x)) (h2 : valGet x = none) : gvs f l = none := by
  unfold gvs
  rw [if_neg h]
  cases f with
  | zero => rfl
  | succ f =>
    by_cases h0 : l.headD 0 = 10
    · simp only [h0, if_true, h1, h2]
    · exact if_neg h0
theorem gvs_more {f : Nat} {l nm x : List UInt8} {v : V} (h : l ≠ []) (h0 : l.headD 0 = 10) (h1 : cutAt 61 (lineOf (l.drop 1)) = some (nm, x)) (h2 : valGet x = some v) :
    gvs (f + 1) l = (gvs f (l.drop (1 + (lineOf (l.drop 1)).length))).map fun g => ⟨⟨nm.toArray⟩, v⟩ :: g := by
  conv => lhs; unfold gvs
  rw [if_neg h]
  simp only [h0, if_true, h1, h2]
theorem valGet_nil : valGet [] = none := by unfold valGet; simp [rdV]
set_option maxHeartbeats 4000000 in
set_option maxRecDepth 20000 in
theorem givenGet_calls (t : ByteArray) (w : World) (ht : t.size ≤ 1152921504606846976) (hT : Tab w) : Calls Tryd.prog 50 #[.string t] w (GotGiven (gvs 5 t.data.toList) w) := by
  have HT := Lib.hid hT
  clear hT
  obtain ⟨o, ho⟩ : ∃ o, o = gvs 5 t.data.toList := ⟨_, rfl⟩
  rw [← ho]
  have HO := Lib.hid ho
  clear ho
  obtain ⟨i0, hi, hzz⟩ := Option.map_eq_some_iff.1 infoCell
  simp only [Prod.mk.injEq] at hzz
  obtain ⟨hz0, hz1, hz2⟩ := hzz
  go_enter Tryd.func50, Tryd.ntmps50
  go_wp2
  go_loopg [0, 4] 6 (fun g x v wr => ∃ (s : ByteArray) (acc : List Ce) (css : List (List Value)) (top : Nat), x = .string s ∧ s.size ≤ t.size ∧ acc.length ≤ 5 ∧ g = 6 - acc.length ∧ SRow 5 SCe wr w.heap.size top 74 v acc css ∧ Keep Any w wr ∧ o = (gvs (5 - acc.length) s.data.toList).map (fun p => acc ++ p))
  case atStart => exact ⟨t, [], [], w.heap.size, rfl, Nat.le_refl _, by simp, rfl, SRow.nil _ _ _ _ (Nat.le_refl _) (Nat.le_refl _), Keep.refl _ _, by rw [HO.out]; simp⟩
  case round =>
    obtain ⟨s, acc, css, top, rfl, hs, hl, hg, hS, hK, hr⟩ := hrel
    have HG := Lib.hid hg
    have HR := Lib.hid hr
    have HK := Lib.hid hK
    obtain ⟨av, cv, rfl, hnil⟩ := hS.form
    have HS := Lib.hid hS
    clear hg hr hS hnil hK
    by_cases h0 : s.size = 0
    · have hd : s.toList.isEmpty = true := by have := empty_true s h0; simpa using this
      have e0 : s.data.toList = [] := List.eq_nil_of_length_eq_zero (by rw [← Lib.size_eq]; exact h0)
      have E0 := Lib.hid e0
      clear e0 h0
      go_wp2
      go_ret2
      exact ⟨HK.out, .inr ⟨acc, av, cv, by rw [HR.out, E0.out, gvs_end]; simp, rfl, HS.out.slice fun i h1 h2 => ⟨h1, h2⟩⟩⟩
    have hd : s.toList.isEmpty = false := by have := empty_false s h0; simpa using this
    have q1 : 0 < s.size := by omega
    have e1 := at_eq s 0 q1
    have E0 := Lib.hid (show s.data.toList ≠ [] from fun h => h0 (by rw [Lib.size_eq, h]; rfl))
    clear h0
    by_cases h5 : acc.length = 5
    · have q5 : ((acc.length : Int) == 5) = true := by rw [beq_iff_eq]; omega
      have H5 := Lib.hid h5
      clear h5
      go_wp2
      go_ret2
      exact ⟨HK.out, .inl ⟨by rw [HR.out, H5.out, Nat.sub_self, gvs_full E0.out]; rfl, rfl⟩⟩
    have q5 : ((acc.length : Int) == 5) = false := by rw [beq_eq_false_iff_ne]; omega
    by_cases h10 : s.data.toList.headD 0 = 10
    · have b10 : (((at_ s 0 : Nat) : Int) != 10) = false := by have := head_yes q1 (n := 10) rfl h10; rw [bne, this]; rfl
      have H10 := Lib.hid h10
      clear h10
      obtain ⟨lb, hlb⟩ : ∃ lb : ByteArray, (⟨(lineOf (s.data.toList.drop 1)).toArray⟩ : ByteArray) = lb := ⟨_, rfl⟩
      have hld : lb.data.toList = lineOf (s.data.toList.drop 1) := by rw [← hlb]
      have hls : 1 + lb.size ≤ s.size := by have := lineOf_le (s.data.toList.drop 1); rw [← hld, ← Lib.size_eq, List.length_drop, ← Lib.size_eq] at this; omega
      have LD := Lib.hid hld
      have CL := Lib.hid (fun w => by have := cut_line (s := s.extract 1 s.size) (by rw [ByteArray.size_extract]; omega) w; rw [tail_data, hlb] at this; exact this)
      clear hld hlb
      rcases hc : cutAt 61 lb.data.toList with _ | ⟨nm, x⟩
      · have CN := Lib.hid (cut_none (s := lb) (by omega) hc)
        have HC := Lib.hid hc
        have VN := Lib.hid (valueGet_none (t := ⟨#[]⟩) (by decide) valGet_nil)
        clear hc
        go_wp2_with (first | (go_at_call 73; first | ((with_reducible refine (CL.out _).mono ?_); rintro e wA ⟨⟨y, b, rfl⟩, hKA⟩; have HKA := Lib.hid hKA; clear hKA) | ((with_reducible refine (CN.out _).mono ?_); rintro e wB ⟨rfl, hKB⟩; have HKB := Lib.hid (HKA.out.trans hKB); clear hKB)) | (go_at_call 74; refine (VN.out _ (HT.out.keep (HK.out.trans HKB.out) trivial)).mono ?_; rintro e w2 ⟨rfl, hK2⟩))
        go_ret2
        exact ⟨(HK.out.trans (HKB.out.trans hK2)).alloc _, .inl ⟨by rw [HR.out, gvs_cut E0.out (by rw [← LD.out]; exact HC.out)]; rfl, rfl⟩⟩
      · obtain ⟨xb, hxb⟩ : ∃ xb : ByteArray, (⟨x.toArray⟩ : ByteArray) = xb := ⟨_, rfl⟩
        obtain ⟨nb, hnb⟩ : ∃ nb : ByteArray, (⟨nm.toArray⟩ : ByteArray) = nb := ⟨_, rfl⟩
        have hxd : xb.data.toList = x := by rw [← hxb]
        have hcl := cutAt_len hc
        have hxs : xb.size ≤ lb.size := by rw [Lib.size_eq xb, hxd, Lib.size_eq]; omega
        have hns : nb.size ≤ lb.size := by rw [← hnb, Lib.size_eq lb, ← hcl, Lib.size_eq]; simp; omega
        have HC := Lib.hid hc
        have HNB := Lib.hid hnb
        have CN := Lib.hid (fun w => by have := cut_some (s := lb) (by omega) hc w; rw [hxb, hnb] at this; exact this)
        clear hc hcl hxb hnb
        rcases hv : valGet xb.data.toList with _ | v1
        · have VN := Lib.hid (valueGet_none (t := xb) (by omega) hv)
          have HV := Lib.hid (show valGet x = none by rw [← hxd]; exact hv)
          clear hv hxd
          go_wp2_with (first | (go_at_call 73; first | ((with_reducible refine (CL.out _).mono ?_); rintro e wA ⟨⟨y, b, rfl⟩, hKA⟩; have HKA := Lib.hid hKA; clear hKA) | ((with_reducible refine (CN.out _).mono ?_); rintro e wB ⟨rfl, hKB⟩; have HKB := Lib.hid (HKA.out.trans hKB); clear hKB)) | (go_at_call 74; refine (VN.out _ (HT.out.keep (HK.out.trans HKB.out) trivial)).mono ?_; rintro e w2 ⟨rfl, hK2⟩))
          go_ret2
          exact ⟨(HK.out.trans (HKB.out.trans hK2)).alloc _, .inl ⟨by rw [HR.out, gvs_val E0.out (by rw [← LD.out]; exact HC.out) HV.out]; rfl, rfl⟩⟩
        · have VN := Lib.hid (valueGet_some (t := xb) (by omega) hv)
          have HV := Lib.hid (show valGet x = some v1 by rw [← hxd]; exact hv)
          clear hv hxd
          go_wp2_with (first | (go_at_call 73; first | ((with_reducible refine (CL.out _).mono ?_); rintro e wA ⟨⟨y, b, rfl⟩, hKA⟩; have HKA := Lib.hid hKA; clear hKA) | ((with_reducible refine (CN.out _).mono ?_); rintro e wB ⟨rfl, hKB⟩; have HKB := Lib.hid (HKA.out.trans hKB); clear hKB)) | (go_at_call 74; refine (VN.out _ (HT.out.keep (HK.out.trans HKB.out) trivial)).mono ?_; rintro e w2 ⟨a2, c2, rfl, hK2, hS2⟩; have HS2 := Lib.hid hS2; have HK2 := Lib.hid (HKB.out.trans hK2); clear hS2 hK2) | (at_builtin; refine wpList_append_sep _ rfl _ _ 41 rfl w.heap.size 74 i0 _ 5 72 Tryd.underlying41 hi hz0 hz1 hz2 rfl (by decide) (.slice av acc.length cv) acc.length css.flatten rfl (rowC_keep HS.out ((HK2.out.alloc _).alloc _)).own ⟨w2.heap.size + 1, 0, none⟩ 1 1 [.string nb, .int .i64 v1.kind, .int .i64 v1.num, .string v1.text, .slice a2 v1.list.length c2] rfl rfl (new_cells _ _ _ (by simp)) (by simp [Value.oneCell']) (by unfold maxLen; omega) (by omega) (by have := HK.out.size; have := HK2.out.size; simp; omega) (by omega) ?_; intro v' w5 hown' hgrow hblk; have HS5 := Lib.hid (rowC_snoc (x := ⟨nb, v1⟩) (rowC_keep HS.out ((HK2.out.alloc _).alloc _)) hown' hgrow hblk ⟨_, rfl, (show Fits nb by unfold Fits; omega), HS2.out.keep (((Keep.refl _ _).alloc _).alloc _)⟩ (fun i hi => ⟨Nat.le_trans (Nat.le_trans HS.out.top_le HKB.out.size) hi.1, by have := hi.2; simp; omega⟩)); have HK5 := Lib.hid ((((HK.out.trans HK2.out).alloc _).alloc _).grown hgrow (fun i hi hlt => by have := (HS.out.own.lt i hi).1; omega)); clear hown' hgrow hblk))
          go_roundg (gk - 1)
          case rel => exact ⟨s.extract (1 + lb.size) s.size, acc ++ [⟨nb, v1⟩], _, w5.heap.size, rfl, by rw [ByteArray.size_extract]; omega, by rw [List.length_append, List.length_singleton]; omega, by have := HG.out; rw [List.length_append, List.length_singleton]; omega, HS5.out, HK5.out, by
            rw [HR.out, show 5 - acc.length = (5 - (acc ++ [(⟨nb, v1⟩ : Ce)]).length) + 1 by rw [List.length_append, List.length_singleton]; omega, gvs_more E0.out H10.out (by rw [← LD.out]; exact HC.out) HV.out, Option.map_map, rest_data, ← LD.out, ← Lib.size_eq, HNB.out]
            congr 1
            funext p
            simp⟩
          case measure => have := HG.out; omega
    · have b10 : (((at_ s 0 : Nat) : Int) != 10) = true := by have := head_not q1 (n := 10) rfl h10; rw [bne, this]; rfl
      have H10 := Lib.hid h10
      clear h10
      go_wp2
      go_ret2
      exact ⟨HK.out, .inl ⟨by rw [HR.out, gvs_head E0.out H10.out]; rfl, rfl⟩⟩
end Go.Proofs.YtjgnnobfaphkeaaDoor

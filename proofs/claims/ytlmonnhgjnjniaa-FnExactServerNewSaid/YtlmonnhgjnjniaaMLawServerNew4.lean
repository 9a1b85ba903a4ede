/- Homes (a name, a store with rules) and links to which nobody talked, of one's own; a new link. How much texts weigh: the laws' own measure. Where it answers a number that is not below 0, all is at most what was left. A slice that a call makes and fills, place by place. No condition. Texts in new memory: the laws' own copy. At most 2^20. The laws' own comparison of texts: of two that hold the same it says yes. The laws' own measure, copy and comparison of rules; a copy of texts in memory of its own. A number's figures, and one byte as a text. No condition. Marks: what a law writes into each place of an answer, one number behind the other. No condition. -/
import Derived.Test.YtlmonnhgjnjniaaMLawServerNew3
import Derived.Deep.AppendLies
import Derived.Test.YtlmonnhgjnjniaaMLawServerNew0
import Derived.Laws.OwnMore
import Derived.Lib.ItoaNum
import Derived.Lib.ItoaLen
import Derived.Lib.ConvBytes
import Derived.Test.YtlmonnhgjnjniaaMLawServerNew1
/- Homes (a name, a store with rules) and links to which nobody talked, of one's own; a new link. -/
namespace Go.Proofs.Ytlmonnhgjnjniaa
open Go.RowKit
set_option linter.unusedVariables false
set_option linter.unusedSimpArgs false
abbrev Hm := ByteArray × List Ru
def SHo (w : World) (ok : Nat → Prop) (h : Hm) (cs : List Value) : Prop := ∃ (rs : Value) (d : Option Addr), cs = [.string h.1, .slice none 0 0, .slice none 0 0, .int .i64 0, .int .i64 0, rs, .int .i64 0, .slice d 0 0, .slice none 0 0, .int .i64 0] ∧ Fits h.1 ∧ SRus w ok rs h.2
theorem SHo.keep {w w' : World} {ok : Nat → Prop} {h : Hm} {cs : List Value} (x : SHo w ok h cs) (k : Keep ok w w') : SHo w' ok h cs := by
  obtain ⟨rs, d, h1, h2, h3⟩ := x; exact ⟨rs, d, h1, h2, h3.keep k⟩
theorem SHo.len {w : World} {ok : Nat → Prop} {h : Hm} {cs : List Value} (x : SHo w ok h cs) : cs.length = 10 := by obtain ⟨rs, d, rfl, _⟩ := x; rfl
abbrev SHos (w : World) (ok : Nat → Prop) (v : Value) (l : List Hm) : Prop := SSl 10 SHo w ok v l
def lkCells : List Value := [.int .i64 0, .int .i64 (-1), .slice none 0 0, .slice none 0 0, .int .i64 0, .int .i64 (-1), .string ⟨#[]⟩]
def SLk (_ : World) (_ : Nat → Prop) (_ : Unit) (cs : List Value) : Prop := cs = lkCells
theorem SLk.keep {w w' : World} {ok : Nat → Prop} {h : Unit} {cs : List Value} (x : SLk w ok h cs) (_ : Keep ok w w') : SLk w' ok h cs := x
abbrev SLks (w : World) (ok : Nat → Prop) (v : Value) (l : List Unit) : Prop := SSl 7 SLk w ok v l
theorem infoHo : (Try.prog.info? 58).map (fun i => (i.zero, i.size, i.bytes)) = some (some (.agg #[.string ⟨#[]⟩, .slice none 0 0, .slice none 0 0, .int .i64 0, .int .i64 0, .slice none 0 0, .int .i64 0, .slice none 0 0, .slice none 0 0, .int .i64 0]), 10, 168) := by kernel_rfl
theorem infoLk : (Try.prog.info? 66).map (fun i => (i.zero, i.size, i.bytes)) = some (some (.agg #[.int .i64 0, .int .i64 0, .slice none 0 0, .slice none 0 0, .int .i64 0, .int .i64 0, .string ⟨#[]⟩]), 7, 96) := by kernel_rfl
section
variable {α : Type} {sz : Nat} {R : World → (Nat → Prop) → α → List Value → Prop} {w : World} {base top : Nat} {T : TypeId} {v : Value} {l : List α} {css : List (List Value)}
theorem SRow.top_le' (h : SRow sz R w base top T v l css) : base ≤ top ∧ top ≤ w.heap.size := by
  obtain ⟨g, h1, h2, h3, h4, h5, h6, h7, h8, h9⟩ := h; exact ⟨h7, h8⟩
theorem SRow.form' (h : SRow sz R w base top T v l css) : ∃ a c, v = .slice a l.length c ∧ (a = none → l.length = 0 ∧ c = 0) := by
  rcases h.own.2 with ⟨rfl, h0⟩ | ⟨g, cap, cur, rfl, _⟩
  · exact ⟨none, 0, by rw [h0], fun _ => ⟨h0, rfl⟩⟩
  · exact ⟨_, cap, rfl, fun h => by cases h⟩
/-- a store below the row's blocks leaves it -/
theorem SRow.setc {b o : Nat} {u : Value} (hk : ∀ {w w' ok x cs}, R w ok x cs → Keep ok w w' → R w' ok x cs) (h : SRow sz R w base top T v l css) (hb : b < base) : SRow sz R (w.setCell ⟨b, o, none⟩ u) base top T v l css := by
  obtain ⟨g, h1, h2, h3, h4, h5, h6, h7, h8, h9⟩ := h
  refine ⟨g, h1, h2.kept (row := some b) ⟨rfl, rfl, rfl, by simp, fun k hk hn => Below.heap_setCell w ⟨b, o, none⟩ u k (fun e => hn (by rw [e]))⟩ ?_, h3, fun j x cs hx hc => hk (h4 j x cs hx hc) ((Keep.refl _ _).set _ _ fun _ hk => by have := (h5 j b hk).1; omega), h5, h6, h7, by simpa using h8, h9⟩
  cases hv : v.ownBlock with
  | none => exact .inl rfl
  | some k => exact .inr fun e => by cases e; have := (h2.lt _ hv).1; omega
end
theorem new_cells' (w : World) (cs : List Value) (T : TypeId) {b : Nat} (hb : b = w.heap.size) : ∀ j u, cs[j]? = some u → (w.alloc (.cells cs.toArray T)).cell? ((⟨b, 0, none⟩ : Addr).add j) = some u := by
  subst hb
  intro j u hu
  have e : (⟨w.heap.size, 0, none⟩ : Addr).add j = ⟨w.heap.size, j, none⟩ := by unfold Addr.add; split <;> simp_all
  rw [e, blk_cell (blk_new _ _)]
  simpa using hu
def LkR (w : World) (e : Ending) (w' : World) : Prop := e = .returned (.agg lkCells.toArray) ∧ Keep Any w w'
theorem talkNew_calls (w : World) : Calls Try.prog 45 #[] w fun e w' => e = .returned (.agg #[.int .i64 0, .int .i64 (-1), .slice none 0 0, .slice none 0 0, .int .i64 0]) ∧ Keep Any w w' := by
  go_enter Try.func45, Try.ntmps45
  go_wp2
  refine bodyPost_ret (v := .agg #[.int .i64 0, .int .i64 (-1), .slice none 0 0, .slice none 0 0, .int .i64 0]) (by simp [results, Try.results45, go_sem]) rfl ⟨rfl, ?_⟩
  have hz := Nat.le_refl w.heap.size
  repeat (first | (with_reducible exact Keep.refl _ _) | (with_reducible refine Keep.alloc ?_ _) | (with_reducible refine kset_b' hz ?_))
theorem linkNew_calls (w : World) : Calls Try.prog 27 #[] w (LkR w) := by
  have TN := Lib.hid (fun w => talkNew_calls w)
  go_enter Try.func27, Try.ntmps27
  go_wp2_with fail
  refine (TN.out _).mono ?_
  rintro e w2 ⟨rfl, hK⟩
  have K2 := Lib.hid (((Keep.refl Any w).alloc _).trans hK)
  have B2 := Lib.hid (blk_keep hK (blk_new _ _) trivial)
  clear hK
  have r0 := (blk_cell B2.out 0).trans rfl
  have r1 := (blk_cell B2.out 1).trans rfl
  have r2 := (blk_cell B2.out 2).trans rfl
  have r3 := (blk_cell B2.out 3).trans rfl
  have r4 := (blk_cell B2.out 4).trans rfl
  have r5 := (blk_cell B2.out 5).trans rfl
  have r6 := (blk_cell B2.out 6).trans rfl
  have f0 := blk_frozen B2.out 0
  have f1 := blk_frozen B2.out 1
  have f2 := blk_frozen B2.out 2
  have f3 := blk_frozen B2.out 3
  have f4 := blk_frozen B2.out 4
  have f5 := blk_frozen B2.out 5
  have f6 := blk_frozen B2.out 6
  have zr := blk_lt B2.out
  go_wp2
  refine bodyPost_ret (v := .agg #[.int .i64 0, .int .i64 (-1), .slice none 0 0, .slice none 0 0, .int .i64 0, .int .i64 (-1), .string ⟨#[]⟩]) (by simp [results, Try.results27, go_sem, r0, r1, r2, r3, r4, r5, r6, f0, f1, f2, f3, f4, f5, f6, zr]) rfl ⟨rfl, ?_⟩
  have hz := Nat.le_refl w.heap.size
  repeat (first | (with_reducible exact K2.out) | (with_reducible refine kset_b' hz ?_))
theorem l10New_calls (w : World) : Calls Try.prog 23 #[] w (LkR w) := by
  go_enter Try.func23, Try.ntmps23
  go_wp2
  refine bodyPost_ret (v := .agg #[.int .i64 0, .int .i64 (-1), .slice none 0 0, .slice none 0 0, .int .i64 0, .int .i64 (-1), .string ⟨#[]⟩]) (by simp [results, Try.results23, go_sem]) rfl ⟨rfl, ?_⟩
  have hz := Nat.le_refl w.heap.size
  repeat (first | (with_reducible exact Keep.refl _ _) | (with_reducible refine Keep.alloc ?_ _) | (with_reducible refine kset_b' hz ?_))
end Go.Proofs.Ytlmonnhgjnjniaa

/- How much texts weigh: the laws' own measure. Where it answers a number that is not below 0, all is at most what was left. -/
namespace Go.Proofs.Ytlmonnhgjnjniaa
open Go.RowKit
set_option linter.unusedVariables false
set_option linter.unusedSimpArgs false
def wStrs (l : List ByteArray) : Nat := (l.map (·.size)).sum + l.length
/-- What is left behind n: the number, or -1 where it does not reach. -/
def left (a : Int) (n : Nat) : Int := if (n : Int) ≤ a then a - n else -1
def Left (a : Int) (n : Nat) (w : World) (e : Ending) (w' : World) : Prop := e = .returned (.int .i64 (left a n)) ∧ Keep Any w w'
theorem left_no {a : Int} {n : Nat} (h : a < n) : left a n = -1 := by unfold left; rw [if_neg (by omega)]
theorem left_yes {a : Int} {n : Nat} (h : (n : Int) ≤ a) : left a n = a - n := by unfold left; rw [if_pos h]
theorem left_bd {a : Int} {n : Nat} (h : a ≤ 1048576) : -1 ≤ left a n ∧ left a n ≤ 1048576 := by unfold left; split <;> omega
theorem sums_drop {α : Type} (f : α → Nat) (l : List α) (k : Nat) (x : α) (h : l[k]? = some x) : ((l.take (k + 1)).map f).sum = ((l.take k).map f).sum + f x ∧ ((l.take k).map f).sum + f x ≤ (l.map f).sum := by
  obtain ⟨hk, rfl⟩ := List.getElem?_eq_some_iff.1 h
  have e : l.take (k + 1) = l.take k ++ [l[k]] := by rw [List.take_succ_eq_append_getElem hk]
  have e1 : ((l.take (k + 1)).map f).sum = ((l.take k).map f).sum + f l[k] := by rw [e, List.map_append, List.sum_append]; simp
  refine ⟨e1, ?_⟩
  have h2 : (l.map f).sum = ((l.take (k + 1)).map f).sum + ((l.drop (k + 1)).map f).sum := by
    rw [← List.sum_append, ← List.map_append, List.take_append_drop]
  rw [h2, e1]; omega
theorem szStrs_calls (l : List ByteArray) (s : Value) (a : Int) (w : World) (hs : Strs w Any s l) (h0 : 0 ≤ a) (h1 : a ≤ 1048576) :
    Calls Try.prog 4 #[s, .int .i64 a] w (Left a (wStrs l) w) := by
  have HS := Lib.hid hs
  obtain ⟨ad, c, rfl, hc, hm, _⟩ := hs
  by_cases hl : a < (l.length : Int)
  · have hr : left a (wStrs l) = -1 := left_no (by unfold wStrs; omega)
    have HR := Lib.hid hr
    clear hr
    go_enter Try.func4, Try.ntmps4
    go_wp2
    go_ret
    exact ⟨ret_int HR.out.symm, Keep.refl _ _⟩
  · go_enter Try.func4, Try.ntmps4
    go_wp2
    go_loopg [1, 5] (l.length + 1) (fun g v i wr => ∃ k m : Nat, k ≤ l.length ∧ i = .int .i64 k ∧ g = l.length + 1 - k ∧ m = ((l.take k).map (·.size)).sum ∧ v = .int .i64 (a - l.length - m) ∧ (m : Int) ≤ a - l.length ∧ w = wr)
    case atStart => exact ⟨0, 0, by omega, rfl, rfl, by simp, by simp, by omega, rfl⟩
    case round =>
      obtain ⟨k, m, hk, rfl, hg, hM, rfl, hb, rfl⟩ := hrel
      have HG := Lib.hid hg
      have HM := Lib.hid hM
      clear hg hM
      by_cases hlt : k < l.length
      · have hx : l[k]? = some l[k] := List.getElem?_eq_getElem hlt
        have hq := sums_drop (fun s : ByteArray => s.size) l k _ hx
        obtain ⟨ad, rfl, hF, c0⟩ := strs_at HS.out (Keep.refl _ _) hx
        generalize l[k] = x at *
        unfold Fits at hF
        have HQ := Lib.hid hq
        clear hx hq
        by_cases hz : a - l.length - m < (x.size : Int)
        · have hr : left a (wStrs l) = -1 := left_no (by unfold wStrs; have := HQ.out.2; have := HM.out; omega)
          have HR := Lib.hid hr
          clear hr
          go_wp2
          go_ret
          exact ⟨ret_int HR.out.symm, Keep.refl _ _⟩
        · go_wp2
          go_roundg (gk - 1)
          case rel => exact ⟨k + 1, m + x.size, by omega, by go_num, by have := HG.out; omega, by rw [HQ.out.1, HM.out], by congr 1; omega, by omega, rfl⟩
          case measure => have := HG.out; omega
      · have hr : left a (wStrs l) = a - l.length - m := by
          have e := HM.out
          rw [List.take_of_length_le (by omega)] at e
          rw [left_yes (by unfold wStrs; omega)]; unfold wStrs; omega
        have HR := Lib.hid hr
        clear hr
        go_wp2
        go_ret
        exact ⟨ret_int HR.out.symm, Keep.refl _ _⟩
end Go.Proofs.Ytlmonnhgjnjniaa

/- A slice that a call makes and fills, place by place. No condition. -/
namespace Go.Proofs.Ytlmonnhgjnjniaa
open Go.RowKit
set_option linter.unusedVariables false

/-- make([]T, n) -/
theorem make_run {P : Program} (t e : TypeId) (z : Value) (size bytes : Nat) (ht : P.underlying t = some (.slice e)) (hinfo : (P.info? e).map (fun i => (i.zero, i.size, i.bytes)) = some (some z, size, bytes)) (n : Nat) (hb : bytes * n ≤ 281474976710656) (hn : n ≤ 9223372036854775807) :
    ∀ W : World, (Instr.makeSlice t (.int .i64 (n : Int)) (.int .i64 (n : Int))).run P W = .ok (.slice (some ⟨W.heap.size, 0, none⟩) n n) (W.alloc (.cells (madeCells z.cells (n * size)) e)) := by
  intro W
  obtain ⟨i, hi, hzz⟩ := Option.map_eq_some_iff.1 hinfo
  simp only [Prod.mk.injEq] at hzz
  obtain ⟨hz, hs, hb'⟩ := hzz
  subst hs
  have h1 : (i.bytes : Int) * (n : Int) ≤ 281474976710656 := by
    have h : ((i.bytes * n : Nat) : Int) ≤ 281474976710656 := by rw [hb']; omega
    rwa [Int.natCast_mul] at h
  have hr := run_make (P := P) W t e i z ht hi hz .i64 .i64 n n (by omega) (Int.le_refl _) h1 (by omega)
  simpa using hr
/-- The first k of l's elements lie in block g, which has room for n. -/
def Fill {α : Type} (sz : Nat) (R : α → List Value → Prop) (w : World) (g : Nat) (T : TypeId) (n : Nat) (l : List α) (k : Nat) : Prop :=
  ∃ cur, w.heap[g]? = some (.cells cur T (0, 0)) ∧ cur.size = n * sz ∧ ∀ j x, j < k → l[j]? = some x → ∃ cs, R x cs ∧ cs.length = sz ∧ ∀ i u, cs[i]? = some u → cur[j * sz + i]? = some u
theorem Fill.made {α : Type} {sz : Nat} {R : α → List Value → Prop} {T : TypeId} {n : Nat} {l : List α} (w : World) (z : Array Value) : Fill sz R (w.alloc (.cells (madeCells z (n * sz)) T)) w.heap.size T n l 0 :=
  ⟨_, blk_new _ _, size_madeCells _ _, fun j x hj => by omega⟩
theorem Fill.keep {α : Type} {sz : Nat} {R R' : α → List Value → Prop} {w w' : World} {g : Nat} {T : TypeId} {n k : Nat} {l : List α} {ok : Nat → Prop} (h : Fill sz R w g T n l k) (hk : Keep ok w w') (ho : ok g) (hR : ∀ x cs, R x cs → R' x cs) : Fill sz R' w' g T n l k := by
  obtain ⟨cur, hb, hs, hf⟩ := h
  exact ⟨cur, blk_keep hk hb ho, hs, fun j x hj hx => by obtain ⟨cs, h1, h2, h3⟩ := hf j x hj hx; exact ⟨cs, hR x cs h1, h2, h3⟩⟩
theorem Fill.lt {α : Type} {sz : Nat} {R : α → List Value → Prop} {w : World} {g : Nat} {T : TypeId} {n k : Nat} {l : List α} (h : Fill sz R w g T n l k) : g < w.heap.size := by obtain ⟨cur, hb, _⟩ := h; exact blk_lt hb
theorem Fill.cell {α : Type} {sz : Nat} {R : α → List Value → Prop} {w w' : World} {g : Nat} {T : TypeId} {n k : Nat} {l : List α} {ok : Nat → Prop} (h : Fill sz R w g T n l k) (hk : Keep ok w w') (ho : ok g) (o : Nat) (hl : o < n * sz) : ∃ v, w'.cell? ⟨g, o, none⟩ = some v := by
  obtain ⟨cur, hb, hs, _⟩ := h
  exact ⟨_, (blk_cell (blk_keep hk hb ho) o).trans (Array.getElem?_eq_getElem (by omega))⟩
theorem Fill.free {α : Type} {sz : Nat} {R : α → List Value → Prop} {w w' : World} {g : Nat} {T : TypeId} {n k : Nat} {l : List α} {ok : Nat → Prop} (h : Fill sz R w g T n l k) (hk : Keep ok w w') (ho : ok g) (o : Nat) : w'.frozen? ⟨g, o, none⟩ = false := by
  obtain ⟨cur, hb, _⟩ := h
  exact blk_frozen (blk_keep hk hb ho) o
/-- One more: what stands at its place; ahead of it nothing has turned. -/
theorem Fill.snoc {α : Type} {sz : Nat} {R R' : α → List Value → Prop} {w w' : World} {g : Nat} {T : TypeId} {n k : Nat} {l : List α} {x : α} {cs : List Value} (h : Fill sz R w g T n l k) (hR : ∀ x cs, R x cs → R' x cs) (hx : l[k]? = some x) (hc : R' x cs) (hl : cs.length = sz)
    (hw : ∀ cur, w.heap[g]? = some (.cells cur T (0, 0)) → cur.size = n * sz → ∃ cur', w'.heap[g]? = some (.cells cur' T (0, 0)) ∧ cur'.size = cur.size ∧ (∀ i, i < k * sz → cur'[i]? = cur[i]?) ∧ ∀ i u, cs[i]? = some u → cur'[k * sz + i]? = some u) : Fill sz R' w' g T n l (k + 1) := by
  obtain ⟨cur, hb, hs, hf⟩ := h
  obtain ⟨cur', hb', hs', h1, h2⟩ := hw cur hb hs
  refine ⟨cur', hb', hs'.trans hs, fun j y hj hy => ?_⟩
  rcases Nat.lt_succ_iff_lt_or_eq.1 hj with hj | rfl
  · obtain ⟨ds, g1, g2, g3⟩ := hf j y hj hy
    refine ⟨ds, hR y ds g1, g2, fun i u hu => ?_⟩
    have hi : i < sz := by rw [← g2]; exact (List.getElem?_eq_some_iff.1 hu).1
    rw [h1 _ (by calc j * sz + i < j * sz + sz := by omega
                      _ = (j + 1) * sz := by rw [Nat.add_mul, Nat.one_mul]
                      _ ≤ k * sz := Nat.mul_le_mul_right _ hj)]
    exact g3 i u hu
  · rw [hx] at hy; cases hy
    exact ⟨cs, hc, hl, h2⟩
theorem Fill.slice {α : Type} {sz : Nat} {R : α → List Value → Prop} {w : World} {g : Nat} {T : TypeId} {l : List α} (h : Fill sz R w g T l.length l l.length) (hn : l.length ≤ 9223372036854775807) {ok : Nat → Prop} (ho : ok g) : Sl sz R w ok (.slice (some ⟨g, 0, none⟩) l.length l.length) l := by
  obtain ⟨cur, hb, hs, hf⟩ := h
  refine ⟨_, _, rfl, Nat.le_refl _, hn, fun _ => ⟨_, rfl, ho, fun j x hx => ?_⟩⟩
  obtain ⟨cs, h1, h2, h3⟩ := hf j x (List.getElem?_eq_some_iff.1 hx).1 hx
  refine ⟨cs, h1, h2, fun i u hu => ?_⟩
  have e : (⟨g, 0, none⟩ : Addr).add (j * sz + i) = ⟨g, j * sz + i, none⟩ := by unfold Addr.add; split <;> simp_all
  rw [e, blk_cell hb]
  exact h3 i u hu
end Go.Proofs.Ytlmonnhgjnjniaa

/- Texts in new memory: the laws' own copy. At most 2^20. -/
namespace Go.Proofs.Ytlmonnhgjnjniaa
open Go.RowKit
set_option linter.unusedVariables false
set_option linter.unusedSimpArgs false
abbrev From (n : Nat) (k : Nat) : Prop := n ≤ k
def GotStrs (l : List ByteArray) (w : World) (e : Ending) (w' : World) : Prop := ∃ a c, e = .returned (.slice a l.length c) ∧ Strs w' (From w.heap.size) (.slice a l.length c) l ∧ Keep Any w w'
theorem infoStr : (Try.prog.info? 9).map (fun i => (i.zero, i.size, i.bytes)) = some (some (.string ⟨#[]⟩), 1, 16) := by kernel_rfl
theorem toStrs_calls (l : List ByteArray) (s : Value) (w : World) (hs : Strs w Any s l) (hl : l.length ≤ 1048576) :
    Calls Try.prog 7 #[s] w (GotStrs l w) := by
  have HS := Lib.hid hs
  obtain ⟨ad, c, rfl, hc, hm, _⟩ := hs
  have hmk := make_run (P := Try.prog) 22 9 _ 1 16 Try.underlying22 infoStr l.length (by omega) (by omega)
  go_enter Try.func7, Try.ntmps7
  go_wp2
  go_loopg [4] (l.length + 1) (fun g i wr => ∃ k : Nat, k ≤ l.length ∧ i = .int .i64 k ∧ g = l.length + 1 - k ∧ Fill 1 StrR wr w.heap.size 9 l.length l k ∧ Keep Any w wr)
  case atStart => exact ⟨0, by omega, rfl, rfl, by simpa using Fill.made (sz := 1) w _, (Keep.refl _ _).alloc _⟩
  case round =>
    obtain ⟨k, hk, rfl, hg, hF, hK⟩ := hrel
    have HG := Lib.hid hg
    clear hg
    by_cases hlt : k < l.length
    · have hx : l[k]? = some l[k] := List.getElem?_eq_getElem hlt
      have HX := Lib.hid hx
      obtain ⟨ad, rfl, hB, c0⟩ := strs_at HS.out hK hx
      generalize l[k] = x at *
      have hF' := hF
      have HF := Lib.hid hF
      obtain ⟨cur, hb, hsz, _⟩ := hF'
      obtain ⟨v0, c1⟩ : ∃ v, wr.cell? ⟨w.heap.size, k, none⟩ = some v := ⟨_, (blk_cell hb k).trans (Array.getElem?_eq_getElem (show k < cur.size by omega))⟩
      have f1 := blk_frozen hb k
      clear hx hb hF hsz
      go_wp2
      go_roundg (gk - 1)
      case rel => exact ⟨k + 1, by omega, by go_num, by have := HG.out; omega, HF.out.snoc (fun _ _ h => h) HX.out ⟨rfl, hB⟩ rfl fun cur hb hs => ⟨_, blk_set hb k _, by simp, fun i hi => by rw [Array.getElem?_setIfInBounds_ne (by omega)], fun i u hu => by
        obtain ⟨rfl, rfl⟩ : i = 0 ∧ .string x = u := by cases i with | zero => exact ⟨rfl, by simpa using hu⟩ | succ i => simp at hu
        rw [show k * 1 + 0 = k by omega, Array.getElem?_setIfInBounds_self_of_lt (by omega)]⟩, hK.set _ _ (fun h => by have : w.heap.size < w.heap.size := h; omega)⟩
      case measure => have := HG.out; omega
    · obtain rfl : k = l.length := by omega
      have HF := Lib.hid hF
      clear hF
      go_wp2
      go_ret
      exact ⟨_, _, rfl, HF.out.slice (by omega) (Nat.le_refl _), hK⟩
end Go.Proofs.Ytlmonnhgjnjniaa

/- The laws' own comparison of texts: of two that hold the same it says yes. -/
namespace Go.Proofs.Ytlmonnhgjnjniaa
open Go.RowKit
set_option linter.unusedVariables false
set_option linter.unusedSimpArgs false

theorem eqStrs_calls (l : List ByteArray) (s t : Value) (w : World) (hs : Strs w Any s l) (ht : Strs w Any t l) :
    Calls Try.prog 11 #[s, t] w (Tells true w) := by
  have HS := Lib.hid hs
  have HT := Lib.hid ht
  obtain ⟨ad, c, rfl, hc, hm, _⟩ := hs
  obtain ⟨ad', c', rfl, hc', hm', _⟩ := ht
  have hl : (((l.length : Nat) : Int) != ((l.length : Nat) : Int)) = false := by simp
  go_enter Try.func11, Try.ntmps11
  go_wp2
  go_loopg [5] (l.length + 1) (fun g i wr => ∃ k : Nat, k ≤ l.length ∧ i = .int .i64 k ∧ g = l.length + 1 - k ∧ Keep Any w wr)
  case atStart => exact ⟨0, by omega, rfl, rfl, Keep.refl _ _⟩
  case round =>
    obtain ⟨k, hk, rfl, hg, hK⟩ := hrel
    have HG := Lib.hid hg
    clear hg
    by_cases hlt : k < l.length
    · have hx : l[k]? = some l[k] := List.getElem?_eq_getElem hlt
      obtain ⟨ad, rfl, hB, c0⟩ := strs_at HS.out hK hx
      obtain ⟨ad', rfl, _, c1⟩ := strs_at HT.out hK hx
      generalize l[k] = x at *
      have k0 : (0 : Int) ≤ (k : Int) := by omega
      have k1 : (k : Int) < (l.length : Int) := by omega
      clear hx
      go_wp2
      go_quiet (fail)
      go_wp2
      go_roundg (gk - 1)
      case rel => exact ⟨k + 1, by omega, by go_num, by have := HG.out; omega, hK.drewN _⟩
      case measure => have := HG.out; omega
    · go_wp2
      go_ret
      exact ⟨rfl, hK⟩
end Go.Proofs.Ytlmonnhgjnjniaa

/- The laws' own measure, copy and comparison of rules; a copy of texts in memory of its own. -/
namespace Go.Proofs.Ytlmonnhgjnjniaa
open Go.RowKit
set_option linter.unusedVariables false
set_option linter.unusedSimpArgs false
def Ru.sz (r : Ru) : Nat := r.label.size + r.name.size
def szRus (l : List Ru) : Nat := (l.map Ru.sz).sum + l.length
theorem Fill.own {α : Type} {sz : Nat} {R : α → List Value → Prop} {R' : World → (Nat → Prop) → α → List Value → Prop} {w : World} {g : Nat} {T : TypeId} {l : List α} (h : Fill sz R w g T l.length l l.length) (hR : ∀ x cs, R x cs → R' w (fun _ => False) x cs) (hn : l.length ≤ 9223372036854775807) {ok : Nat → Prop} (ho : ok g) : SSl sz R' w ok (.slice (some ⟨g, 0, none⟩) l.length l.length) l := by
  obtain ⟨cur, hb, hs, hf⟩ := h
  refine ⟨_, _, rfl, Nat.le_refl _, hn, fun _ => ⟨g, T, cur, fun _ _ => False, rfl, ho, hb, fun _ _ h => h.elim, fun _ _ _ _ h => h.elim, fun j x hx => ?_⟩⟩
  obtain ⟨cs, h1, h2, h3⟩ := hf j x (List.getElem?_eq_some_iff.1 hx).1 hx
  exact ⟨cs, hR x cs h1, h2, h3⟩
/-- texts copied, in memory of their own -/
def GotSStrs (l : List ByteArray) (w : World) (e : Ending) (w' : World) : Prop := ∃ a c, e = .returned (.slice a l.length c) ∧ SStrs w' (Mid' w.heap.size w'.heap.size) (.slice a l.length c) l ∧ Keep Any w w'
theorem toSStrs_calls (l : List ByteArray) (s : Value) (w : World) (hs : Strs w Any s l) (hl : l.length ≤ 1048576) :
    Calls Try.prog 7 #[s] w (GotSStrs l w) := by
  have HS := Lib.hid hs
  obtain ⟨ad, c, rfl, hc, hm, _⟩ := hs
  have hmk := make_run (P := Try.prog) 22 9 _ 1 16 Try.underlying22 infoStr l.length (by omega) (by omega)
  go_enter Try.func7, Try.ntmps7
  go_wp2
  go_loopg [4] (l.length + 1) (fun g i wr => ∃ k : Nat, k ≤ l.length ∧ i = .int .i64 k ∧ g = l.length + 1 - k ∧ Fill 1 StrR wr w.heap.size 9 l.length l k ∧ Keep Any w wr)
  case atStart => exact ⟨0, by omega, rfl, rfl, by simpa using Fill.made (sz := 1) w _, (Keep.refl _ _).alloc _⟩
  case round =>
    obtain ⟨k, hk, rfl, hg, hF, hK⟩ := hrel
    have HG := Lib.hid hg
    clear hg
    by_cases hlt : k < l.length
    · have hx : l[k]? = some l[k] := List.getElem?_eq_getElem hlt
      have HX := Lib.hid hx
      obtain ⟨ad, rfl, hB, c0⟩ := strs_at HS.out hK hx
      generalize l[k] = x at *
      have hF' := hF
      have HF := Lib.hid hF
      obtain ⟨cur, hb, hsz, _⟩ := hF'
      obtain ⟨v0, c1⟩ : ∃ v, wr.cell? ⟨w.heap.size, k, none⟩ = some v := ⟨_, (blk_cell hb k).trans (Array.getElem?_eq_getElem (show k < cur.size by omega))⟩
      have f1 := blk_frozen hb k
      clear hx hb hF hsz
      go_wp2
      go_roundg (gk - 1)
      case rel => exact ⟨k + 1, by omega, by go_num, by have := HG.out; omega, HF.out.snoc (fun _ _ h => h) HX.out ⟨rfl, hB⟩ rfl fun cur hb hs => ⟨_, blk_set hb k _, by simp, fun i hi => by rw [Array.getElem?_setIfInBounds_ne (by omega)], fun i u hu => by
        obtain ⟨rfl, rfl⟩ : i = 0 ∧ .string x = u := by cases i with | zero => exact ⟨rfl, by simpa using hu⟩ | succ i => simp at hu
        rw [show k * 1 + 0 = k by omega, Array.getElem?_setIfInBounds_self_of_lt (by omega)]⟩, hK.set _ _ (fun h => by have : w.heap.size < w.heap.size := h; omega)⟩
      case measure => have := HG.out; omega
    · obtain rfl : k = l.length := by omega
      have HF := Lib.hid hF
      clear hF
      go_wp2
      go_ret
      exact ⟨_, _, rfl, HF.out.own (fun x cs h => h) (by omega) ⟨Nat.le_refl _, HF.out.lt⟩, hK⟩
theorem szRule_calls (x : Ru) (a : Int) (w : World) (hx : Fits x.label ∧ Fits x.name) (h0 : 0 ≤ a) (h1 : a ≤ 1048576) :
    Calls Try.prog 17 #[.agg #[.string x.label, .string x.name], .int .i64 a] w (Left a x.sz w) := by
  obtain ⟨hl, hn⟩ := hx
  unfold Fits at hl hn
  have HZ := Lib.hid (show x.sz = x.label.size + x.name.size from rfl)
  by_cases q1 : a < (x.label.size : Int)
  · have HR := Lib.hid (show left a x.sz = -1 from left_no (by rw [HZ.out]; omega))
    go_enter Try.func17, Try.ntmps17
    go_wp2
    go_ret
    exact ⟨ret_int HR.out.symm, by repeat (first | exact Keep.refl _ _ | apply Keep.alloc)⟩
  · by_cases q2 : a - x.label.size < (x.name.size : Int)
    · have HR := Lib.hid (show left a x.sz = -1 from left_no (by rw [HZ.out]; omega))
      go_enter Try.func17, Try.ntmps17
      go_wp2
      go_ret
      exact ⟨ret_int HR.out.symm, by repeat (first | exact Keep.refl _ _ | apply Keep.alloc)⟩
    · have HR := Lib.hid (show left a x.sz = a - x.label.size - x.name.size by rw [left_yes (by rw [HZ.out]; omega), HZ.out]; omega)
      go_enter Try.func17, Try.ntmps17
      go_wp2
      go_ret
      exact ⟨ret_int HR.out.symm, by repeat (first | exact Keep.refl _ _ | apply Keep.alloc)⟩
theorem szRules_calls (l : List Ru) (s : Value) (a : Int) (w : World) (hs : Rus w Any s l) (h0 : 0 ≤ a) (h1 : a ≤ 1048576) :
    Calls Try.prog 5 #[s, .int .i64 a] w (Left a (szRus l) w) := by
  have HS := Lib.hid hs
  have IH := Lib.hid szRule_calls
  obtain ⟨ad, c, rfl, hc, hm, _⟩ := hs
  by_cases hl : a < (l.length : Int)
  · have hr : left a (szRus l) = -1 := left_no (by unfold szRus; omega)
    have HR := Lib.hid hr
    clear hr
    go_enter Try.func5, Try.ntmps5
    go_wp2
    go_ret
    exact ⟨ret_int HR.out.symm, Keep.refl _ _⟩
  · go_enter Try.func5, Try.ntmps5
    go_wp2
    go_loopg [1, 5] (l.length + 1) (fun g v i wr => ∃ k m : Nat, k ≤ l.length ∧ i = .int .i64 k ∧ g = l.length + 1 - k ∧ m = ((l.take k).map Ru.sz).sum ∧ v = .int .i64 (a - l.length - m) ∧ (m : Int) ≤ a - l.length ∧ Keep Any w wr)
    case atStart => exact ⟨0, 0, by omega, rfl, rfl, by simp, by simp, by omega, Keep.refl _ _⟩
    case round =>
      obtain ⟨k, m, hk, rfl, hg, hM, rfl, hb, hK⟩ := hrel
      have HG := Lib.hid hg
      have HM := Lib.hid hM
      clear hg hM
      by_cases hlt : k < l.length
      · have hx : l[k]? = some l[k] := List.getElem?_eq_getElem hlt
        have hq := sums_drop Ru.sz l k _ hx
        obtain ⟨ad, rfl, hF1, hF2, c0, c1⟩ := rus_at HS.out hK hx
        generalize l[k] = x at *
        have HQ := Lib.hid hq
        have HFF := Lib.hid (And.intro hF1 hF2)
        clear hx hq hF1 hF2
        by_cases hz : a - l.length - m < (x.sz : Int)
        · have hr : left a (szRus l) = -1 := left_no (by have := HQ.out.2; have := HM.out; unfold szRus; omega)
          have HR := Lib.hid hr
          have hl2 : left (a - l.length - m) x.sz = -1 := left_no hz
          have HL := Lib.hid hl2
          clear hr hl2
          go_wp2_with (go_at_call 17; refine (IH.out x _ _ HFF.out (by omega) (by omega)).mono ?_; rintro e w2 ⟨rfl, hK2⟩; rw [HL.out])
          go_ret
          exact ⟨ret_int HR.out.symm, hK.trans hK2⟩
        · have hl2 : left (a - l.length - m) x.sz = a - l.length - m - x.sz := left_yes (by omega)
          have HL := Lib.hid hl2
          clear hl2
          go_wp2_with (go_at_call 17; refine (IH.out x _ _ HFF.out (by omega) (by omega)).mono ?_; rintro e w2 ⟨rfl, hK2⟩; rw [HL.out])
          go_roundg (gk - 1)
          case rel => exact ⟨k + 1, m + x.sz, by omega, by go_num, by have := HG.out; omega, by rw [HQ.out.1, HM.out], by congr 1; omega, by omega, hK.trans hK2⟩
          case measure => have := HG.out; omega
      · have hr : left a (szRus l) = a - l.length - m := by
          have e := HM.out
          rw [List.take_of_length_le (by omega)] at e
          rw [left_yes (by unfold szRus; omega)]; unfold szRus; omega
        have HR := Lib.hid hr
        clear hr
        go_wp2
        go_ret
        exact ⟨ret_int HR.out.symm, hK⟩
theorem toRule_calls (x : Ru) (w : World) :
    Calls Try.prog 24 #[.agg #[.string x.label, .string x.name]] w fun e w' => e = .returned (.agg #[.string x.label, .string x.name]) ∧ Keep Any w w' := by
  go_enter Try.func24, Try.ntmps24
  go_wp2
  refine bodyPost_ret (v := .agg #[.string x.label, .string x.name]) (by simp [results, Try.results24, go_sem]) rfl ⟨rfl, ?_⟩
  repeat (first | (with_reducible exact Keep.refl _ _) | (with_reducible refine Keep.alloc ?_ _) | (refine Keep.set ?_ _ _ (fun h _ => by simp at h; omega)))
theorem eqRule_calls (x : Ru) (w : World) :
    Calls Try.prog 30 #[.agg #[.string x.label, .string x.name], .agg #[.string x.label, .string x.name]] w (Tells true w) := by
  have b1 : (x.label.toList != x.label.toList) = false := by simp
  have b2 : (x.name.toList != x.name.toList) = false := by simp
  go_enter Try.func30, Try.ntmps30
  go_wp2
  go_ret
  exact ⟨rfl, by repeat (first | exact Keep.refl _ _ | apply Keep.alloc)⟩
theorem eqRules_calls (l : List Ru) (s t : Value) (w : World) (hs : Rus w Any s l) (ht : Rus w Any t l) :
    Calls Try.prog 12 #[s, t] w (Tells true w) := by
  have HS := Lib.hid hs
  have HT := Lib.hid ht
  have IX := Lib.hid eqRule_calls
  obtain ⟨ad, c, rfl, hc, hm, _⟩ := hs
  obtain ⟨ad', c', rfl, hc', hm', _⟩ := ht
  have hl : (((l.length : Nat) : Int) != ((l.length : Nat) : Int)) = false := by simp
  go_enter Try.func12, Try.ntmps12
  go_wp2
  go_loopg [5] (l.length + 1) (fun g i wr => ∃ k : Nat, k ≤ l.length ∧ i = .int .i64 k ∧ g = l.length + 1 - k ∧ Keep Any w wr)
  case atStart => exact ⟨0, by omega, rfl, rfl, Keep.refl _ _⟩
  case round =>
    obtain ⟨k, hk, rfl, hg, hK⟩ := hrel
    have HG := Lib.hid hg
    clear hg
    by_cases hlt : k < l.length
    · have hx : l[k]? = some l[k] := List.getElem?_eq_getElem hlt
      obtain ⟨ad, rfl, _, _, c0, c1⟩ := rus_at HS.out hK hx
      obtain ⟨ad', rfl, _, _, d0, d1⟩ := rus_at HT.out hK hx
      generalize l[k] = x at *
      have k0 : (0 : Int) ≤ (k : Int) := by omega
      have k1 : (k : Int) < (l.length : Int) := by omega
      clear hx
      go_wp2
      go_region_with (go_at_call 30; refine (IX.out x _).mono ?_; rintro e w2 ⟨rfl, hK2⟩)
      all_goals
        go_wp2
        go_roundg (gk - 1)
        case rel => exact ⟨k + 1, by omega, by go_num, by have := HG.out; omega, hK.drew.trans hK2⟩
        case measure => have := HG.out; omega
    · go_wp2
      go_ret
      exact ⟨rfl, hK⟩
theorem sets2 {w : World} {g k : Nat} {T : TypeId} {cur : Array Value} {a b : Value} (hb : w.heap[g]? = some (.cells cur T (0, 0))) (hn : k * 2 + 1 < cur.size) :
    ∃ cur', ((w.setCell ⟨g, k * 2, none⟩ a).setCell ⟨g, k * 2 + 1, none⟩ b).heap[g]? = some (.cells cur' T (0, 0)) ∧ cur'.size = cur.size ∧ (∀ i, i < k * 2 → cur'[i]? = cur[i]?) ∧ ∀ i u, [a, b][i]? = some u → cur'[k * 2 + i]? = some u := by
  refine ⟨_, blk_set (blk_set hb _ _) _ _, by simp, fun i hi => ?_, fun i u hu => ?_⟩
  · rw [Array.getElem?_setIfInBounds_ne (by omega), Array.getElem?_setIfInBounds_ne (by omega)]
  · rcases i with _ | _ | i
    · simp at hu; subst hu
      rw [Array.getElem?_setIfInBounds_ne (by omega)]
      exact Array.getElem?_setIfInBounds_self_of_lt (by omega)
    · simp at hu; subst hu
      exact Array.getElem?_setIfInBounds_self_of_lt (by simp; omega)
    · simp at hu
/-- rules copied, in memory of their own -/
def GotSRus (l : List Ru) (w : World) (e : Ending) (w' : World) : Prop := ∃ a c, e = .returned (.slice a l.length c) ∧ SRus w' (Mid' w.heap.size w'.heap.size) (.slice a l.length c) l ∧ Keep Any w w'
theorem toRules_calls (l : List Ru) (s : Value) (w : World) (hs : Rus w Any s l) (hz : l.length ≤ 1048576) :
    Calls Try.prog 8 #[s] w (GotSRus l w) := by
  have HS := Lib.hid hs
  have IX := Lib.hid toRule_calls
  obtain ⟨ad, c, rfl, hc, hm, _⟩ := hs
  have hmk := make_run (P := Try.prog) 33 68 _ 2 32 Try.underlying33 infoRu l.length (by omega) (by omega)
  go_enter Try.func8, Try.ntmps8
  go_wp2
  go_loopg [4] (l.length + 1) (fun g i wr => ∃ k : Nat, k ≤ l.length ∧ i = .int .i64 k ∧ g = l.length + 1 - k ∧ Fill 2 RuR wr w.heap.size 68 l.length l k ∧ Keep Any w wr)
  case atStart => exact ⟨0, by omega, rfl, rfl, Fill.made (sz := 2) w _, (Keep.refl _ _).alloc _⟩
  case round =>
    obtain ⟨k, hk, rfl, hg, hF, hK⟩ := hrel
    have HG := Lib.hid hg
    clear hg
    by_cases hlt : k < l.length
    · have hx : l[k]? = some l[k] := List.getElem?_eq_getElem hlt
      obtain ⟨ad, rfl, hN1, hN2, c0, c1⟩ := rus_at HS.out hK hx
      generalize l[k] = x at *
      have HX := Lib.hid hx
      have HFF := Lib.hid (And.intro hN1 hN2)
      have HF := Lib.hid hF
      clear hx hF hN1 hN2
      go_wp2_with (go_at_call 24; refine (IX.out x _).mono ?_; rintro e w2 ⟨rfl, hK2⟩; obtain ⟨y0, d0⟩ := HF.out.cell hK2 trivial (k * 2) (by omega); obtain ⟨y1, d1⟩ := HF.out.cell hK2 trivial (k * 2 + 1) (by omega); have f0 := HF.out.free hK2 trivial (k * 2); have f1 := HF.out.free hK2 trivial (k * 2 + 1))
      go_roundg (gk - 1)
      case rel => exact ⟨k + 1, by omega, by go_num, by have := HG.out; omega, Fill.snoc (cs := [.string x.label, .string x.name]) HF.out (fun y cs h => h) HX.out ⟨rfl, HFF.out⟩ rfl fun cur hb hs => sets2 (blk_keep hK2 hb trivial) (by omega), ((hK.trans hK2).set _ _ (fun h _ => by have h : w.heap.size < w.heap.size := h; omega)).set _ _ (fun h _ => by have h : w.heap.size < w.heap.size := h; omega)⟩
      case measure => have := HG.out; omega
    · obtain rfl : k = l.length := by omega
      have HF := Lib.hid hF
      clear hF
      go_wp2
      go_ret
      exact ⟨_, _, rfl, HF.out.own (fun x cs h => h) (by omega) ⟨Nat.le_refl _, HF.out.lt⟩, hK⟩
end Go.Proofs.Ytlmonnhgjnjniaa

/- A number's figures, and one byte as a text. No condition. -/
namespace Go.Proofs.Ytlmonnhgjnjniaa
open Go.RowKit
set_option linter.unusedVariables false

/-- string([]byte{x}) -/
theorem one_byte (W : World) (g : Nat) (x : Int) (h : W.cell? ⟨g, 0, none⟩ = some (.int .u8 x)) :
    (convert 87 9 (.slice (some ⟨g, 0, none⟩) 1 1)).run Try.prog W = .ok (.string ⟨#[UInt8.ofNat x.toNat]⟩) W := by
  refine (run_convert_bytes_arg W 87 5 Try.underlying87 Try.underlying5 g 0 1 1 [x] rfl (fun i hi => ?_) 9 Try.underlying9).trans rfl
  obtain rfl : i = 0 := by simpa using hi
  exact h
theorem dec_big {n : Nat} (h : ¬ n < 10) : Lib.decDigits n = Lib.decDigits (n / 10) ++ [UInt8.ofNat (48 + n % 10)] := by rw [Lib.decDigits, dif_neg h]
theorem dec_small {n : Nat} (h : n < 10) : Lib.decDigits n = [UInt8.ofNat (48 + n)] := by rw [Lib.decDigits, dif_pos h]
theorem dec_len (n : Nat) (h : n < 18446744073709551616) : (Lib.decDigits n).length ≤ 20 := by rw [Lib.decDigits_length]; exact Lib.nDigits_le20 n h
theorem bytes_app (l m : List UInt8) : (⟨l.toArray⟩ : ByteArray) ++ ⟨m.toArray⟩ = ⟨(l ++ m).toArray⟩ := by
  apply ByteArray.ext
  simp [ByteArray.data_append]
theorem dec_join {n : Nat} (h : ¬ n < 10) : (⟨(Lib.decDigits (n / 10)).toArray⟩ : ByteArray) ++ ⟨#[48 + UInt8.ofNat (n % 10)]⟩ = ⟨(Lib.decDigits n).toArray⟩ := by
  rw [dec_big h, ← bytes_app]
  simp [UInt8.ofNat_add]
end Go.Proofs.Ytlmonnhgjnjniaa

/- Marks: what a law writes into each place of an answer, one number behind the other. No condition. -/
namespace Go.Proofs.Ytlmonnhgjnjniaa
open Go.RowKit
set_option linter.unusedVariables false
def mtx (k : Nat) : ByteArray := ⟨(109 :: Lib.decDigits k).toArray⟩
theorem mtx_fits (k : Nat) (h : k < 18446744073709551616) : Fits (mtx k) := by
  have := dec_len k h
  unfold Fits mtx
  rw [Lib.size_eq]
  simp only [List.length_cons]; omega
mutual
def V.mk' : Nat → V → V
  | k, ⟨_, _, _, l⟩ => ⟨k, ((k + 1 : Nat) : Int), mtx (k + 2), V.mks (k + 3) l⟩
def V.mks : Nat → List V → List V
  | _, [] => []
  | k, x :: l => V.mk' k x :: V.mks (k + 3 * x.w) l
end
theorem V.mk_eq (k : Nat) (v : V) : V.mk' k v = ⟨k, ((k + 1 : Nat) : Int), mtx (k + 2), V.mks (k + 3) v.list⟩ := by cases v; rw [V.mk']
theorem V.mks_len (l : List V) : ∀ k, (V.mks k l).length = l.length := by
  induction l with
  | nil => intro k; rw [V.mks]
  | cons x l ih => intro k; rw [V.mks, List.length_cons, List.length_cons, ih]
theorem V.ws_app (a b : List V) : V.ws (a ++ b) = V.ws a + V.ws b := by
  induction a with
  | nil => rw [List.nil_append, V.ws]; omega
  | cons x a ih => rw [List.cons_append, V.ws, V.ws, ih]; omega
theorem V.mks_app (a b : List V) : ∀ k, V.mks k (a ++ b) = V.mks k a ++ V.mks (k + 3 * V.ws a) b := by
  induction a with
  | nil => intro k; simp [V.mks, V.ws]
  | cons x a ih => intro k; rw [List.cons_append, V.mks, V.mks, ih, List.cons_append, V.ws, show k + 3 * x.w + 3 * V.ws a = k + 3 * (x.w + V.ws a) by omega]
/-- the list when the first j are marked -/
def V.upto (k : Nat) (l : List V) (j : Nat) : List V := V.mks k (l.take j) ++ l.drop j
theorem V.ws_take_succ {l : List V} {j : Nat} {x : V} (h : l[j]? = some x) : V.ws (l.take (j + 1)) = V.ws (l.take j) + x.w := by
  rw [List.take_add_one, h, V.ws_app]; simp [V.ws]
theorem V.ws_take_le (l : List V) (j : Nat) : V.ws (l.take j) ≤ V.ws l := by
  have := V.ws_app (l.take j) (l.drop j)
  rw [List.take_append_drop] at this; omega
theorem V.upto_zero (k : Nat) (l : List V) : V.upto k l 0 = l := by simp [V.upto, V.mks]
theorem V.upto_all (k : Nat) (l : List V) : V.upto k l l.length = V.mks k l := by simp [V.upto]
theorem V.upto_len (k : Nat) (l : List V) (j : Nat) : (V.upto k l j).length = l.length := by simp only [V.upto, List.length_append, V.mks_len, List.length_take, List.length_drop]; omega
theorem V.upto_at {k : Nat} {l : List V} {j : Nat} {x : V} (h : l[j]? = some x) : (V.upto k l j)[j]? = some x := by
  have hj := (List.getElem?_eq_some_iff.1 h).1
  rw [V.upto, List.getElem?_append_right (by rw [V.mks_len, List.length_take]; omega), V.mks_len, List.length_take, List.getElem?_drop]
  rw [show j + (j - min j l.length) = j by omega]; exact h
theorem V.upto_set {k : Nat} {l : List V} {j : Nat} {x : V} (h : l[j]? = some x) : (V.upto k l j).set j (V.mk' (k + 3 * V.ws (l.take j)) x) = V.upto k l (j + 1) := by
  have hj := (List.getElem?_eq_some_iff.1 h).1
  have e : l.drop j = x :: l.drop (j + 1) := by rw [List.drop_eq_getElem_cons hj, (List.getElem?_eq_some_iff.1 h).2]
  have hl : (V.mks k (l.take j)).length = j := by rw [V.mks_len, List.length_take]; omega
  rw [V.upto, V.upto, e, List.take_add_one, h, Option.toList_some, V.mks_app, List.set_append_right _ _ (by omega), hl, Nat.sub_self, List.set_cons_zero, List.append_assoc]
  rfl
theorem V.mks_at {k : Nat} {l : List V} {j : Nat} {x : V} (h : l[j]? = some x) : (V.mks k l)[j]? = some (V.mk' (k + 3 * V.ws (l.take j)) x) := by
  have hj := (List.getElem?_eq_some_iff.1 h).1
  have e : l = l.take j ++ x :: l.drop (j + 1) := by
    rw [← (List.getElem?_eq_some_iff.1 h).2, ← List.drop_eq_getElem_cons hj, List.take_append_drop]
  have hl : (V.mks k (l.take j)).length = j := by rw [V.mks_len, List.length_take]; omega
  have e2 : V.mks k l = V.mks k (l.take j) ++ V.mks (k + 3 * V.ws (l.take j)) (x :: l.drop (j + 1)) := by
    conv => lhs; rw [e]
    rw [V.mks_app]
  rw [e2, List.getElem?_append_right (by omega), hl, Nat.sub_self, V.mks]
  rfl
/-! cells -/
def Ce.w (c : Ce) : Nat := 3 * c.val.w + 1
def Ce.ws : List Ce → Nat
  | [] => 0
  | c :: l => c.w + Ce.ws l
def Ce.mk' (k : Nat) (c : Ce) : Ce := ⟨mtx k, V.mk' (k + 1) c.val⟩
def Ce.mks : Nat → List Ce → List Ce
  | _, [] => []
  | k, c :: l => Ce.mk' k c :: Ce.mks (k + c.w) l
theorem Ce.mks_len (l : List Ce) : ∀ k, (Ce.mks k l).length = l.length := by
  induction l with
  | nil => intro k; rfl
  | cons x l ih => intro k; rw [Ce.mks, List.length_cons, List.length_cons, ih]
theorem Ce.ws_app (a b : List Ce) : Ce.ws (a ++ b) = Ce.ws a + Ce.ws b := by
  induction a with
  | nil => rw [List.nil_append, Ce.ws]; omega
  | cons x a ih => rw [List.cons_append, Ce.ws, Ce.ws, ih]; omega
theorem Ce.mks_app (a b : List Ce) : ∀ k, Ce.mks k (a ++ b) = Ce.mks k a ++ Ce.mks (k + Ce.ws a) b := by
  induction a with
  | nil => intro k; simp [Ce.mks, Ce.ws]
  | cons x a ih => intro k; rw [List.cons_append, Ce.mks, Ce.mks, ih, List.cons_append, Ce.ws, show k + x.w + Ce.ws a = k + (x.w + Ce.ws a) by omega]
def Ce.upto (k : Nat) (l : List Ce) (j : Nat) : List Ce := Ce.mks k (l.take j) ++ l.drop j
theorem Ce.ws_take_succ {l : List Ce} {j : Nat} {x : Ce} (h : l[j]? = some x) : Ce.ws (l.take (j + 1)) = Ce.ws (l.take j) + x.w := by
  rw [List.take_add_one, h, Ce.ws_app]; simp [Ce.ws]
theorem Ce.ws_take_le (l : List Ce) (j : Nat) : Ce.ws (l.take j) ≤ Ce.ws l := by
  have := Ce.ws_app (l.take j) (l.drop j)
  rw [List.take_append_drop] at this; omega
theorem Ce.upto_zero (k : Nat) (l : List Ce) : Ce.upto k l 0 = l := by simp [Ce.upto, Ce.mks]
theorem Ce.upto_all (k : Nat) (l : List Ce) : Ce.upto k l l.length = Ce.mks k l := by simp [Ce.upto]
theorem Ce.upto_len (k : Nat) (l : List Ce) (j : Nat) : (Ce.upto k l j).length = l.length := by simp only [Ce.upto, List.length_append, Ce.mks_len, List.length_take, List.length_drop]; omega
theorem Ce.upto_at {k : Nat} {l : List Ce} {j : Nat} {x : Ce} (h : l[j]? = some x) : (Ce.upto k l j)[j]? = some x := by
  have hj := (List.getElem?_eq_some_iff.1 h).1
  rw [Ce.upto, List.getElem?_append_right (by rw [Ce.mks_len, List.length_take]; omega), Ce.mks_len, List.length_take, List.getElem?_drop]
  rw [show j + (j - min j l.length) = j by omega]; exact h
theorem Ce.upto_set {k : Nat} {l : List Ce} {j : Nat} {x : Ce} (h : l[j]? = some x) : (Ce.upto k l j).set j (Ce.mk' (k + Ce.ws (l.take j)) x) = Ce.upto k l (j + 1) := by
  have hj := (List.getElem?_eq_some_iff.1 h).1
  have e : l.drop j = x :: l.drop (j + 1) := by rw [List.drop_eq_getElem_cons hj, (List.getElem?_eq_some_iff.1 h).2]
  have hl : (Ce.mks k (l.take j)).length = j := by rw [Ce.mks_len, List.length_take]; omega
  rw [Ce.upto, Ce.upto, e, List.take_add_one, h, Option.toList_some, Ce.mks_app, List.set_append_right _ _ (by omega), hl, Nat.sub_self, List.set_cons_zero, List.append_assoc]
  rfl
theorem Ce.mks_at {k : Nat} {l : List Ce} {j : Nat} {x : Ce} (h : l[j]? = some x) : (Ce.mks k l)[j]? = some (Ce.mk' (k + Ce.ws (l.take j)) x) := by
  have hj := (List.getElem?_eq_some_iff.1 h).1
  have e : l = l.take j ++ x :: l.drop (j + 1) := by
    rw [← (List.getElem?_eq_some_iff.1 h).2, ← List.drop_eq_getElem_cons hj, List.take_append_drop]
  have hl : (Ce.mks k (l.take j)).length = j := by rw [Ce.mks_len, List.length_take]; omega
  have e2 : Ce.mks k l = Ce.mks k (l.take j) ++ Ce.mks (k + Ce.ws (l.take j)) (x :: l.drop (j + 1)) := by
    conv => lhs; rw [e]
    rw [Ce.mks_app]
  rw [e2, List.getElem?_append_right (by omega), hl, Nat.sub_self, Ce.mks]
  rfl
end Go.Proofs.Ytlmonnhgjnjniaa

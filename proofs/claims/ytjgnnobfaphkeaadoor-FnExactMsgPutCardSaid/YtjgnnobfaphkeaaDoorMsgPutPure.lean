/- The text of what is said, as a plain function. For every message. -/
import Derived.Test.YtjgnnobfaphkeaaDoorPutPure
import Derived.Test.YtjgnnobfaphkeaaDoorReplyPutPure
import Derived.Test.YtjgnnobfaphkeaaDoorCells
namespace Go.Proofs.YtjgnnobfaphkeaaDoor
open Go.RowKit
set_option linter.unusedVariables false
set_option linter.unusedSimpArgs false
def numTxt (n : Int) : List UInt8 := Lib.itoa n ++ [32]
def ceTxt (c : Ce) : List UInt8 := 10 :: (c.name.data.toList ++ 61 :: c.val.put)
def givenTxt (l : List Ce) (k : Nat) : List UInt8 := ((l.take k).map ceTxt).flatten
def headTxt (m : Ms) : List UInt8 := numTxt m.kind ++ (numTxt m.num ++ numTxt m.text.size)
def sayUpto (m : Ms) (k : Nat) : List UInt8 := headTxt m ++ (m.text.data.toList ++ givenTxt m.given k)
def sayTxt (m : Ms) : List UInt8 := sayUpto m m.given.length
def msgTxt (m : Ms) : List UInt8 := if okM m then sayTxt m else []
theorem givenTxt_succ {l : List Ce} {k : Nat} {x : Ce} (h : l[k]? = some x) : givenTxt l (k + 1) = givenTxt l k ++ ceTxt x := by
  rw [givenTxt, givenTxt, List.take_add_one, h]; simp
theorem sayUpto_succ {m : Ms} {k : Nat} {x : Ce} (h : m.given[k]? = some x) : sayUpto m (k + 1) = sayUpto m k ++ ceTxt x := by
  rw [sayUpto, sayUpto, givenTxt_succ h]; simp
theorem ceTxt_len {c : Ce} (h1 : nameOk c.name = true) (h2 : okV 3 c.val = true) : (ceTxt c).length ≤ 1000010 := by
  have := name_size h1
  have h3 := put_len3 h2 (by omega)
  rw [Lib.size_eq] at this
  simp only [ceTxt, List.length_cons, List.length_append]
  omega
theorem givenTxt_len {l : List Ce} {k : Nat} (hl : l.length ≤ 5) (h : ∀ x, x ∈ l → nameOk x.name = true ∧ okV 3 x.val = true) : (givenTxt l k).length ≤ 5000050 := by
  have := flat_len (b := 1000010) ((l.take k).map ceTxt) fun x hx => by
    obtain ⟨y, hy, rfl⟩ := List.mem_map.1 hx
    obtain ⟨h1, h2⟩ := h y (List.mem_of_mem_take hy)
    exact ceTxt_len h1 h2
  have h2 : ((l.take k).map ceTxt).length ≤ 5 := by simp; omega
  have h3 : ((l.take k).map ceTxt).length * 1000010 ≤ 5 * 1000010 := Nat.mul_le_mul_right _ h2
  rw [givenTxt]
  omega
theorem okM_facts {m : Ms} (h : okM m = true) : 1 ≤ m.kind ∧ m.kind ≤ 9 ∧ 0 ≤ m.num ∧ m.num ≤ 60 ∧ m.text.size ≤ 1000 ∧ m.given.length ≤ 5 ∧ ∀ x, x ∈ m.given → nameOk x.name = true ∧ okV 3 x.val = true := by
  obtain ⟨kind, text, given, num⟩ := m
  have tx : text.toList = [] → text.size ≤ 1000 := fun e => by
    rw [ByteArray.toList_eq] at e
    rw [Lib.size_eq, e]; simp
  by_cases k1 : kind = 1
  · subst k1
    simp [okM] at h
    obtain ⟨⟨h1, h2⟩, h3⟩ := h
    subst h3
    have h2 : given = [] := by simpa using h2
    subst h2
    have := name_size h1
    exact ⟨by simp, by simp, by simp, by simp, by simp only; omega, by simp, fun x hx => by cases hx⟩
  by_cases k2 : kind = 2
  · subst k2
    simp [okM] at h
    obtain ⟨⟨⟨h1, h2⟩, h3⟩, h4⟩ := h
    subst h4
    refine ⟨by simp, by simp, by simp, by simp, by simp only; omega, by simp only; omega, fun x hx => ?_⟩
    obtain ⟨j, hj, rfl⟩ := List.getElem_of_mem hx
    have hg := List.all_eq_true.1 h3 j (List.mem_range.2 hj)
    rw [cellGood_at (List.getElem?_eq_getElem hj)] at hg
    simp only [Bool.and_eq_true] at hg
    exact hg.1
  by_cases k3 : kind = 3
  · subst k3
    simp [okM] at h
    obtain ⟨⟨⟨h1, h2⟩, h3⟩, h4⟩ := h
    have h2 : given = [] := by simpa using h2
    subst h2
    exact ⟨by simp, by simp, by simp only; omega, by simp only; omega, tx (by simpa using h1), by simp, fun x hx => by cases hx⟩
  by_cases k4 : 4 ≤ kind ∧ kind ≤ 9
  · simp only [okM] at h
    rw [if_neg k1, if_neg k2, if_neg k3, if_pos k4] at h
    simp at h
    obtain ⟨⟨h1, h2⟩, h3⟩ := h
    subst h3
    have h2 : given = [] := by simpa using h2
    subst h2
    exact ⟨by simp only; omega, by simp only; omega, by simp, by simp, tx (by simpa using h1), by simp, fun x hx => by cases hx⟩
  · simp only [okM] at h
    rw [if_neg k1, if_neg k2, if_neg k3, if_neg k4] at h
    cases h
theorem numTxt_len (n : Int) (h0 : -1000000000 ≤ n) (h1 : n ≤ 1000000000) : (numTxt n).length ≤ 22 := by
  have := itoa_len2 n h0 h1
  simp [numTxt]; omega
theorem headTxt_len {m : Ms} (h : okM m = true) : (headTxt m).length ≤ 66 := by
  obtain ⟨a, b, c, d, e, _⟩ := okM_facts h
  have := numTxt_len m.kind (by omega) (by omega)
  have := numTxt_len m.num (by omega) (by omega)
  have := numTxt_len m.text.size (by omega) (by omega)
  simp only [headTxt, List.length_append]; omega
theorem sayUpto_len {m : Ms} {k : Nat} (h : okM m = true) : (sayUpto m k).length ≤ 6000000 := by
  obtain ⟨a, b, c, d, e, f, g⟩ := okM_facts h
  have := headTxt_len h
  have := givenTxt_len (k := k) f g
  rw [Lib.size_eq] at e
  simp only [sayUpto, List.length_append]; omega
end Go.Proofs.YtjgnnobfaphkeaaDoor

/- Which lists of cells are ok: the program's cellsOk. For every list. The text of what is said, as a plain function. For every message. How long the text is of what is said. For every message. -/
import Derived.Test.YtjopkcjpedgoaaaGreatDoorMC0
import Derived.Test.YtjopkcjpedgoaaaGreatDoorMCLawFrames0
import Derived.Test.YtjopkcjpedgoaaaGreatDoorMC1
import Derived.Test.YtjopkcjpedgoaaaGreatDoorMC6
import Derived.WideMake
/- Which lists of cells are ok: the program's cellsOk. For every list. -/
namespace Go.Proofs.YtjopkcjpedgoaaaGreatDoor
open Go.RowKit
set_option linter.unusedVariables false
set_option linter.unusedSimpArgs false
theorem okCells_bad {l : List Ce} {k : Nat} (hk : k < l.length) (h : cellGood l k = false) : okCells l = false :=
  List.all_eq_false.2 ⟨k,List.mem_range.2 hk,by rw [h];decide⟩
theorem okCells_good {l : List Ce} (h : ∀ k,k < l.length → cellGood l k = true) : okCells l = true := List.all_eq_true.2 fun k hk => h k (List.mem_range.1 hk)
theorem cellGood_at {l : List Ce} {k : Nat} {x : Ce} (h : l[k]? = some x) : cellGood l k = (nameOk x.name && okV 3 x.val && !((l.take k).any fun d => decide (d.name = x.name))) := by rw [cellGood,h]

/- The text of what is said,as a plain function. For every message. -/
def numTxt (n : Int) : List UInt8 := Lib.itoa n ++ [32]
def ceTxt (c : Ce) : List UInt8 := 10 :: (c.name.data.toList ++ 61 :: c.val.put)
def givenTxt (l : List Ce) (k : Nat) : List UInt8 := ((l.take k).map ceTxt).flatten
def headTxt (m : Ms) : List UInt8 := numTxt m.kind ++ (numTxt m.num ++ numTxt m.text.size)
def sayUpto (m : Ms) (k : Nat) : List UInt8 := headTxt m ++ (m.text.data.toList ++ givenTxt m.given k)
def sayTxt (m : Ms) : List UInt8 := sayUpto m m.given.length
def msgTxt (m : Ms) : List UInt8 := if okM m then sayTxt m else []
theorem givenTxt_succ {l : List Ce} {k : Nat} {x : Ce} (h : l[k]? = some x) : givenTxt l (k + 1) = givenTxt l k ++ ceTxt x := by
  rw [givenTxt,givenTxt,List.take_add_one,h];simp
theorem ceTxt_len {c : Ce} (h1 : nameOk c.name = true) (h2 : okV 3 c.val = true) : (ceTxt c).length ≤ 1000010 := by
  have := name_size h1
  have h3 := put_len3 h2 (by omega)
  rw [Lib.size_eq] at this
  simp only [ceTxt,List.length_cons,List.length_append]
  omega
theorem givenTxt_len {l : List Ce} {k : Nat} (hl : l.length ≤ 5) (h : ∀ x,x ∈ l → nameOk x.name = true ∧ okV 3 x.val = true) : (givenTxt l k).length ≤ 5000050 := by
  have := flat_len (b := 1000010) ((l.take k).map ceTxt) fun x hx => by
    obtain ⟨y,hy,rfl⟩ := List.mem_map.1 hx
    obtain ⟨h1,h2⟩ := h y (List.mem_of_mem_take hy)
    exact ceTxt_len h1 h2
  have h2 : ((l.take k).map ceTxt).length ≤ 5 := by simp;omega
  have h3 : ((l.take k).map ceTxt).length * 1000010 ≤ 5 * 1000010 := Nat.mul_le_mul_right _ h2
  rw [givenTxt]
  omega
theorem okM_facts {m : Ms} (h : okM m = true) : 1 ≤ m.kind ∧ m.kind ≤ 9 ∧ 0 ≤ m.num ∧ m.num ≤ 60 ∧ m.text.size ≤ 1000 ∧ m.given.length ≤ 5 ∧ ∀ x,x ∈ m.given → nameOk x.name = true ∧ okV 3 x.val = true := by
  obtain ⟨kind,text,given,num⟩ := m
  have tx : text.toList = [] → text.size ≤ 1000 := fun e => by
    rw [ByteArray.toList_eq] at e
    rw [Lib.size_eq,e];simp
  by_cases k1 : kind = 1
  · subst k1
    simp [okM] at h
    obtain ⟨⟨h1,h2⟩,h3⟩ := h
    subst h3
    have h2 : given = [] := by simpa using h2
    subst h2
    have := name_size h1
    exact ⟨by simp,by simp,by simp,by simp,by simp only;omega,by simp,fun x hx => by cases hx⟩
  by_cases k2 : kind = 2
  · subst k2
    simp [okM] at h
    obtain ⟨⟨⟨h1,h2⟩,h3⟩,h4⟩ := h
    subst h4
    refine ⟨by simp,by simp,by simp,by simp,by simp only;omega,by simp only;omega,fun x hx => ?_⟩
    obtain ⟨j,hj,rfl⟩ := List.getElem_of_mem hx
    have hg := List.all_eq_true.1 h3 j (List.mem_range.2 hj)
    rw [cellGood_at (List.getElem?_eq_getElem hj)] at hg
    simp only [Bool.and_eq_true] at hg
    exact hg.1
  by_cases k3 : kind = 3
  · subst k3
    simp [okM] at h
    obtain ⟨⟨⟨h1,h2⟩,h3⟩,h4⟩ := h
    have h2 : given = [] := by simpa using h2
    subst h2
    exact ⟨by simp,by simp,by simp only;omega,by simp only;omega,tx (by simpa using h1),by simp,fun x hx => by cases hx⟩
  by_cases k4 : 4 ≤ kind ∧ kind ≤ 9
  · simp only [okM] at h
    rw [if_neg k1,if_neg k2,if_neg k3,if_pos k4] at h
    simp at h
    obtain ⟨⟨h1,h2⟩,h3⟩ := h
    subst h3
    have h2 : given = [] := by simpa using h2
    subst h2
    exact ⟨by simp only;omega,by simp only;omega,by simp,by simp,tx (by simpa using h1),by simp,fun x hx => by cases hx⟩
  · simp only [okM] at h
    rw [if_neg k1,if_neg k2,if_neg k3,if_neg k4] at h
    cases h

/- How long the text is of what is said. For every message. -/
def pm : Nat → Nat
  | 0 => 21
  | d + 1 => 6 * (pm d + 2) + 2
theorem putm : ∀ (d : Nat) (v : V),okV d v = true → v.put.length ≤ pm d
  | 0,v,h => by simp [okV] at h
  | d + 1,v,h => by
    have hn := okV_num h
    have ht := okV_text h
    have hp : ∀ d,21 ≤ pm d := fun d => by
      induction d with
      | zero => exact Nat.le_refl _
      | succ d ih => rw [pm];omega
    have hp := hp d
    rw [pm]
    obtain ⟨k,n,t,l⟩ := v
    by_cases h4 : k = 4
    · subst h4
      obtain ⟨hl,ha⟩ := okV_list h
      rw [put_list]
      have := rowTxt_len fun x hx => putm d x (ha x hx)
      have : l.length * (pm d + 2) ≤ 6 * (pm d + 2) := Nat.mul_le_mul_right _ hl
      omega
    · have hi := itoa_len2 n hn.1 hn.2
      have ht : k = 3 → t.size ≤ 16 := ht
      simp only [Lib.size_eq] at ht
      rw [V.put]
      rw [if_neg h4]
      (repeat' split) <;> (try simp only [List.length_cons,List.length_append,List.length_nil]) <;> (try have := ht ‹_›) <;> omega
theorem putm3 {v : V} (h : okV 3 v = true) : v.put.length ≤ 6000 := Nat.le_trans (putm 3 v h) (by decide)
theorem ceTxt_m {c : Ce} (h1 : nameOk c.name = true) (h2 : okV 3 c.val = true) : (ceTxt c).length ≤ 6020 := by
  have := name_size h1
  have h3 := putm3 h2
  rw [Lib.size_eq] at this
  simp only [ceTxt,List.length_cons,List.length_append]
  omega
theorem msgTxt_size (m : Ms) : (msgTxt m).length ≤ 40000 := by
  rw [msgTxt]
  split
  · rename_i h
    obtain ⟨k1,k2,n1,n2,ht,hg,hx⟩ := okM_facts h
    have l1 := itoa_len2 m.kind (by omega) (by omega)
    have l2 := itoa_len2 m.num (by omega) (by omega)
    have l3 := itoa_len2 m.text.size (by omega) (by omega)
    have hgv : (givenTxt m.given m.given.length).length ≤ 30100 := by
      have := flat_len (b := 6020) ((m.given.take m.given.length).map ceTxt) fun x hx' => by
        obtain ⟨y,hy,rfl⟩ := List.mem_map.1 hx'
        obtain ⟨h1,h2⟩ := hx y (List.mem_of_mem_take hy)
        exact ceTxt_m h1 h2
      have h2 : ((m.given.take m.given.length).map ceTxt).length ≤ 5 := by simp;omega
      have h3 : ((m.given.take m.given.length).map ceTxt).length * 6020 ≤ 30100 := Nat.le_trans (Nat.mul_le_mul_right _ h2) (by decide)
      rw [givenTxt]
      exact Nat.le_trans this h3
    rw [Lib.size_eq] at ht
    simp only [sayTxt,sayUpto,headTxt,numTxt,List.length_append,List.length_cons,List.length_nil]
    omega
  · simp
end Go.Proofs.YtjopkcjpedgoaaaGreatDoor

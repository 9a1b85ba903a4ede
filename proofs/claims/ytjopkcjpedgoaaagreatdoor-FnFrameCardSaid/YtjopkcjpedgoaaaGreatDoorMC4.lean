/- Which values are ok: the program's and the reference's tests, for every value. -/
import Derived.Test.YtjopkcjpedgoaaaGreatDoorMC0
/- Which values are ok: the program's and the reference's tests,for every value. -/
namespace Go.Proofs.YtjopkcjpedgoaaaGreatDoor
open Go.RowKit
set_option linter.unusedVariables false
set_option linter.unusedSimpArgs false


def badB (t : ByteArray) (k : Nat) : Prop := at_ t k < 32 ∨ 126 < at_ t k ∨ at_ t k = 39
theorem textOk_bad {t : ByteArray} {k : Nat} (h : k < t.size) (hb : badB t k) : textOk t = false := by
  rw [textOk,Bool.and_eq_false_iff]
  right
  rw [List.all_eq_false]
  have hl : k < t.data.toList.length := by rw [← Lib.size_eq];exact h
  refine ⟨t.data.toList[k],List.getElem_mem hl,?_⟩
  have e : (t.data.toList[k]).toNat = at_ t k := by rw [← at_eq t k h];rfl
  rw [e]
  unfold badB at hb
  simp
  omega
theorem textOk_all {t : ByteArray} (h : t.size ≤ 16) (hb : ∀ k,k < t.size → ¬ badB t k) : textOk t = true := by
  rw [textOk,Bool.and_eq_true]
  refine ⟨by simpa using h,?_⟩
  rw [List.all_eq_true]
  intro x hx
  obtain ⟨k,hk,rfl⟩ := List.getElem_of_mem hx
  have h' : k < t.size := by rw [Lib.size_eq];exact hk
  have e : (t.data.toList[k]).toNat = at_ t k := by rw [← at_eq t k h'];rfl
  rw [e]
  have := hb k h'
  unfold badB at this
  simp
  omega
theorem textOk_long {t : ByteArray} (h : 16 < t.size) : textOk t = false := by rw [textOk,Bool.and_eq_false_iff];left;simp;omega
end Go.Proofs.YtjopkcjpedgoaaaGreatDoor

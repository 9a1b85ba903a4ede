/- A reply's text, as a plain function. For every reply. -/
import Derived.Test.YtjgnnobfaphkeaaDoorPutPure
import Derived.Test.YtjgnnobfaphkeaaDoorReplyPure
namespace Go.Proofs.YtjgnnobfaphkeaaDoor
open Go.RowKit
set_option linter.unusedVariables false
set_option linter.unusedSimpArgs false
/-- the word ahead, and the first k names -/
def namesTxt (more : Bool) (l : List ByteArray) (k : Nat) : List UInt8 := (if more then [109, 111, 114, 101] else [111, 107]) ++ ((l.take k).map fun s : ByteArray => 32 :: s.data.toList).flatten
def bodyTxt (r : Rp) : List UInt8 :=
  if r.kind = 2 then [114, 111, 119, 32] ++ rowTxt r.row else if r.kind = 3 then [102, 97, 105, 108, 32] ++ Lib.itoa r.code else if r.kind = 4 then [112, 97, 115, 116] else namesTxt r.more r.names r.names.length
def replyTxt (r : Rp) : List UInt8 := if fineR r then bodyTxt r else []
theorem namesTxt_succ {more : Bool} {l : List ByteArray} {k : Nat} {x : ByteArray} (h : l[k]? = some x) : namesTxt more l (k + 1) = namesTxt more l k ++ (32 :: x.data.toList) := by
  rw [namesTxt, namesTxt, List.take_add_one, h]; simp
theorem namesTxt_step {more : Bool} {l : List ByteArray} {k : Nat} {x : ByteArray} (h : l[k]? = some x) : (⟨(namesTxt more l k).toArray⟩ : ByteArray) ++ (⟨#[32]⟩ ++ x) = ⟨(namesTxt more l (k + 1)).toArray⟩ := by
  rw [namesTxt_succ h]; apply ByteArray.ext; simp [ByteArray.data_append]
theorem namesTxt_step' {more : Bool} {l : List ByteArray} {k : Nat} {x : ByteArray} (h : l[k]? = some x) : (⟨(namesTxt more l k).toArray⟩ : ByteArray) ++ ⟨#[32]⟩ ++ x = ⟨(namesTxt more l (k + 1)).toArray⟩ := by
  rw [namesTxt_succ h]; apply ByteArray.ext; simp [ByteArray.data_append]
theorem name_size {t : ByteArray} (h : nameOk t = true) : t.size ≤ 8 := by
  simp only [nameOk, nameShape, Bool.and_eq_true, decide_eq_true_eq] at h
  omega
theorem flat_len {b : Nat} : ∀ (l : List (List UInt8)), (∀ x, x ∈ l → x.length ≤ b) → l.flatten.length ≤ l.length * b
  | [], _ => by simp
  | x :: r, h => by
    have := flat_len r fun y hy => h y (List.mem_cons_of_mem _ hy)
    have h0 := h x (List.mem_cons_self ..)
    rw [List.flatten_cons, List.length_append, List.length_cons, Nat.add_mul]
    omega
theorem namesTxt_len {more : Bool} {l : List ByteArray} {k : Nat} (h : ∀ x, x ∈ l → nameOk x = true) (hl : l.length ≤ 5) : (namesTxt more l k).length ≤ 100 := by
  have := flat_len (b := 9) ((l.take k).map fun s : ByteArray => 32 :: s.data.toList) fun x hx => by
    obtain ⟨y, hy, rfl⟩ := List.mem_map.1 hx
    have := name_size (h y (List.mem_of_mem_take hy))
    simp; omega
  have h2 : ((l.take k).map fun s : ByteArray => 32 :: s.data.toList).length ≤ 5 := by simp; omega
  have h3 : ((l.take k).map fun s : ByteArray => 32 :: s.data.toList).length * 9 ≤ 5 * 9 := Nat.mul_le_mul_right _ h2
  rw [namesTxt, List.length_append]
  cases more <;> simp at * <;> omega
theorem fine_ok {r : Rp} (h : fineR r = true) (hk : r.kind = 1) : r.names.length ≤ 5 ∧ ∀ x, x ∈ r.names → nameOk x = true := by
  simp [fineR, hk] at h
  exact ⟨by omega, h.2⟩
theorem fine_row {r : Rp} (h : fineR r = true) (hk : r.kind = 2) : r.row.length ≤ 5 ∧ ∀ x, x ∈ r.row → okV 3 x = true := by
  simp [fineR, hk] at h
  exact ⟨by omega, h.2⟩
theorem fine_fail {r : Rp} (h : fineR r = true) (hk : r.kind = 3) : 1 ≤ r.code ∧ r.code ≤ 9 := by
  simp [fineR, hk] at h
  omega
theorem fine_kind {r : Rp} (h : fineR r = true) : r.kind = 1 ∨ r.kind = 2 ∨ r.kind = 3 ∨ r.kind = 4 := by
  unfold fineR at h
  (repeat' split at h) <;> simp_all
end Go.Proofs.YtjgnnobfaphkeaaDoor

/- A value's text, as a plain function; how long it is. For every value. -/
import Derived.Test.YtjgnnobfaphkeaaDoorValPure
import Derived.Test.YtjgnnobfaphkeaaDoorDec
import Derived.Lib.Join
namespace Go.Proofs.YtjgnnobfaphkeaaDoor
set_option linter.unusedVariables false
mutual
def V.put : V → List UInt8
  | ⟨k, n, t, l⟩ => if k = 1 then (if n = 1 then [116, 114, 117, 101] else [102, 97, 108, 115, 101]) else if k = 2 then Lib.itoa n else if k = 3 then 39 :: (t.data.toList ++ [39])
    else if k = 4 then 91 :: (Lib.join (V.putL l) [44, 32] ++ [93]) else if k = 5 then 35 :: Lib.itoa n else if k = 6 then 64 :: Lib.itoa n else [110, 117, 108, 108]
def V.putL : List V → List (List UInt8)
  | [] => []
  | x :: l => V.put x :: V.putL l
end
theorem V.putL_map : ∀ l : List V, V.putL l = l.map V.put
  | [] => by rw [V.putL]; rfl
  | x :: l => by rw [V.putL, V.putL_map l]; rfl
def rowTxt (l : List V) : List UInt8 := 91 :: (Lib.join (l.map V.put) [44, 32] ++ [93])
theorem put_list (n : Int) (t : ByteArray) (l : List V) : V.put ⟨4, n, t, l⟩ = rowTxt l := by rw [V.put, V.putL_map]; rfl
theorem join_snoc (xs : List (List UInt8)) (x sep : List UInt8) : Lib.join (xs ++ [x]) sep = if xs = [] then x else Lib.join xs sep ++ sep ++ x := by
  cases xs with
  | nil => simp [Lib.join_one]
  | cons y r => simp [Lib.join_cons, Lib.joinTail]
theorem joinTail_len (b : Nat) : ∀ (xs : List (List UInt8)), (∀ x, x ∈ xs → x.length ≤ b) → (Lib.joinTail [44, 32] xs).length ≤ xs.length * (b + 2)
  | [], _ => by simp [Lib.joinTail]
  | x :: r, h => by
    have := joinTail_len b r fun y hy => h y (List.mem_cons_of_mem _ hy)
    have h0 := h x (List.mem_cons_self ..)
    have e : Lib.joinTail [44, 32] (x :: r) = [44, 32] ++ x ++ Lib.joinTail [44, 32] r := by simp [Lib.joinTail]
    rw [e]
    simp only [List.length_append, List.length_cons, List.length_nil, Nat.add_mul] at *
    omega
theorem join_len (b : Nat) (xs : List (List UInt8)) (h : ∀ x, x ∈ xs → x.length ≤ b) : (Lib.join xs [44, 32]).length ≤ xs.length * (b + 2) := by
  cases xs with
  | nil => simp [Lib.join_nil]
  | cons x r =>
    rw [Lib.join_cons]
    have := joinTail_len b r fun y hy => h y (List.mem_cons_of_mem _ hy)
    have h0 := h x (List.mem_cons_self ..)
    simp only [List.length_append, List.length_cons, Nat.add_mul] at *
    omega
theorem itoa_len2 (n : Int) (h0 : -1000000000 ≤ n) (h1 : n ≤ 1000000000) : (Lib.itoa n).length ≤ 21 := by
  simp only [Lib.itoa]
  have := dec_len n.natAbs (by omega)
  have := dec_len n.toNat (by omega)
  split <;> simp <;> omega
theorem okV_list {d : Nat} {n : Int} {t : ByteArray} {l : List V} (h : okV (d + 1) ⟨4, n, t, l⟩ = true) : l.length ≤ 6 ∧ ∀ x, x ∈ l → okV d x = true := by
  simp [okV] at h
  exact ⟨by omega, h.2⟩
theorem okV_num {d : Nat} {v : V} (h : okV d v = true) : -1000000000 ≤ v.num ∧ v.num ≤ 1000000000 := by
  cases d with
  | zero => simp [okV] at h
  | succ d =>
    obtain ⟨k, n, t, l⟩ := v
    simp only [okV] at h
    (repeat' split at h) <;> simp at h <;> simp only <;> omega
theorem okV_text {d : Nat} {v : V} (h : okV d v = true) (hk : v.kind = 3) : v.text.size ≤ 16 := by
  cases d with
  | zero => simp [okV] at h
  | succ d =>
    obtain ⟨k, n, t, l⟩ := v
    simp only at hk
    subst hk
    simp [okV, textOk] at h
    exact h.1.2.1
theorem rowTxt_len {b : Nat} {l : List V} (h : ∀ x, x ∈ l → x.put.length ≤ b) : (rowTxt l).length ≤ l.length * (b + 2) + 2 := by
  have := join_len b (l.map V.put) fun x hx => by obtain ⟨y, hy, rfl⟩ := List.mem_map.1 hx; exact h y hy
  simp only [rowTxt, List.length_cons, List.length_append, List.length_map, List.length_nil] at *
  omega
theorem put_len : ∀ (d : Nat) (v : V), okV d v = true → v.put.length ≤ 100 ^ d
  | 0, v, h => by simp [okV] at h
  | d + 1, v, h => by
    have hn := okV_num h
    have ht := okV_text h
    have hp : 1 ≤ 100 ^ d := Nat.one_le_pow _ _ (by omega)
    rw [Nat.pow_succ]
    obtain ⟨k, n, t, l⟩ := v
    by_cases h4 : k = 4
    · subst h4
      obtain ⟨hl, ha⟩ := okV_list h
      rw [put_list]
      have := rowTxt_len fun x hx => put_len d x (ha x hx)
      have : l.length * (100 ^ d + 2) ≤ 6 * (100 ^ d + 2) := Nat.mul_le_mul_right _ hl
      omega
    · have hi := itoa_len2 n hn.1 hn.2
      have ht : k = 3 → t.size ≤ 16 := ht
      simp only [Lib.size_eq] at ht
      rw [V.put]
      rw [if_neg h4]
      (repeat' split) <;> (try simp only [List.length_cons, List.length_append, List.length_nil]) <;> (try have := ht ‹_›) <;> omega
theorem put_len3 {d : Nat} {v : V} (h : okV d v = true) (hd : d ≤ 3) : v.put.length ≤ 1000000 :=
  Nat.le_trans (put_len d v h) (by calc 100 ^ d ≤ 100 ^ 3 := Nat.pow_le_pow_right (by omega) hd
                                       _ = 1000000 := rfl)
/-- The list's text up to the k-th value. -/
def outV (l : List V) (k : Nat) : List UInt8 := 91 :: Lib.join ((l.take k).map V.put) [44, 32]
theorem outV_succ {l : List V} {k : Nat} {x : V} (h : l[k]? = some x) : outV l (k + 1) = if k = 0 then 91 :: x.put else outV l k ++ [44, 32] ++ x.put := by
  have hk : k < l.length := (List.getElem?_eq_some_iff.1 h).1
  have e : l.take (k + 1) = l.take k ++ [x] := by rw [List.take_add_one, h]; rfl
  rw [outV, outV, e, List.map_append, List.map_cons, List.map_nil, join_snoc]
  by_cases h0 : k = 0
  · subst h0; simp
  · rw [if_neg (by intro hn; have := congrArg List.length hn; rw [List.length_map, List.length_take, List.length_nil] at this; omega), if_neg h0]
    simp
theorem outV_all (l : List V) : outV l l.length ++ [93] = rowTxt l := by rw [outV, List.take_length]; rfl
theorem outV_len {b : Nat} {l : List V} {k : Nat} (h : ∀ x, x ∈ l → x.put.length ≤ b) (hl : l.length ≤ 6) : (outV l k).length ≤ 6 * (b + 2) + 1 := by
  have := join_len b ((l.take k).map V.put) fun x hx => by obtain ⟨y, hy, rfl⟩ := List.mem_map.1 hx; exact h y (List.mem_of_mem_take hy)
  have hk : ((l.take k).map V.put).length ≤ 6 := by simp; omega
  have : ((l.take k).map V.put).length * (b + 2) ≤ 6 * (b + 2) := Nat.mul_le_mul_right _ hk
  simp only [outV, List.length_cons]
  omega
end Go.Proofs.YtjgnnobfaphkeaaDoor

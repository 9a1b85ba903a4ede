/- The reading of a frame, as plain functions: how the program reads it, byte by byte, and how the reference does; both answer the same. No condition. -/
import Derived.Lib.Bytes
namespace Go.Proofs.YtjgnnobfaphkeaaDoor
set_option linter.unusedVariables false

def at_ (t : ByteArray) (i : Nat) : Nat := if h : i < t.size then (t[i]'h).toNat else 0
theorem at_eq (t : ByteArray) (i : Nat) (h : i < t.size) : (t[i]'h).toNat = at_ t i := by simp [at_, h]
theorem at_lt (t : ByteArray) (i : Nat) : at_ t i < 256 := by
  unfold at_; split
  · exact UInt8.toNat_lt _
  · omega
theorem empty_true (t : ByteArray) (h : t.size = 0) : (t.toList == ([] : List UInt8)) = true := by
  have : t.toList.length = 0 := by rw [Lib.toList_data, ← Lib.size_eq]; exact h
  simpa using this
theorem empty_false (t : ByteArray) (h : ¬ t.size = 0) : (t.toList == ([] : List UInt8)) = false := by
  have : ¬ t.toList.length = 0 := by rw [Lib.toList_data, ← Lib.size_eq]; exact h
  simpa using this
theorem size_true (t : ByteArray) (h : t.size = 0) : (((t.size : Nat) : Int) == 0) = true := by simp [h]
theorem size_false (t : ByteArray) (h : ¬ t.size = 0) : (((t.size : Nat) : Int) == 0) = false := by rw [beq_eq_false_iff_ne]; omega
def fig (b : Nat) : Bool := 48 ≤ b && b ≤ 57

/-- behind the colon -/
def frBody (t : ByteArray) (at' size : Nat) : ByteArray × Int :=
  if t.size ≤ at' + size then (⟨#[]⟩, 0) else if at_ t (at' + size) ≠ 10 then (⟨#[]⟩, -1) else (t.extract at' (at' + size), at' + size + 1)
/-- a figure more, or the colon -/
def frMore (t : ByteArray) (at' size : Nat) : ByteArray × Int :=
  if h : at' < t.size then
    if at_ t at' = 58 then frBody t (at' + 1) size
    else if fig (at_ t at') = false ∨ size = 0 then (⟨#[]⟩, -1)
    else if 6000 < size * 10 + (at_ t at' - 48) then (⟨#[]⟩, -1)
    else frMore t (at' + 1) (size * 10 + (at_ t at' - 48))
  else (⟨#[]⟩, 0)
termination_by t.size - at'
def frameGet (t : ByteArray) : ByteArray × Int :=
  if t.size = 0 then (⟨#[]⟩, 0) else if fig (at_ t 0) = false then (⟨#[]⟩, -1) else frMore t 1 (at_ t 0 - 48)

theorem frMore_end {t : ByteArray} {a s : Nat} (h : ¬ a < t.size) : frMore t a s = (⟨#[]⟩, 0) := by rw [frMore, dif_neg h]
theorem frMore_colon {t : ByteArray} {a s : Nat} (h : a < t.size) (h1 : at_ t a = 58) : frMore t a s = frBody t (a + 1) s := by rw [frMore, dif_pos h, if_pos h1]
theorem frMore_bad {t : ByteArray} {a s : Nat} (h : a < t.size) (h1 : at_ t a ≠ 58) (h2 : (at_ t a < 48 ∨ 57 < at_ t a) ∨ s = 0) : frMore t a s = (⟨#[]⟩, -1) := by
  rw [frMore, dif_pos h, if_neg h1, if_pos]
  rcases h2 with h2 | h2
  · exact .inl (by simp only [fig, Bool.and_eq_false_iff, decide_eq_false_iff_not]; omega)
  · exact .inr h2
theorem frMore_big {t : ByteArray} {a s : Nat} (h : a < t.size) (h0 : 48 ≤ at_ t a) (h1 : at_ t a ≤ 57) (hs : s ≠ 0) (h2 : 6000 < s * 10 + (at_ t a - 48)) : frMore t a s = (⟨#[]⟩, -1) := by
  rw [frMore, dif_pos h, if_neg (by omega), if_neg (by simp only [fig, Bool.and_eq_false_iff, decide_eq_false_iff_not]; omega), if_pos h2]
theorem frMore_go {t : ByteArray} {a s : Nat} (h : a < t.size) (h0 : 48 ≤ at_ t a) (h1 : at_ t a ≤ 57) (hs : s ≠ 0) (h2 : s * 10 + (at_ t a - 48) ≤ 6000) : frMore t a s = frMore t (a + 1) (s * 10 + (at_ t a - 48)) := by
  rw [frMore, dif_pos h, if_neg (by omega), if_neg (by simp only [fig, Bool.and_eq_false_iff, decide_eq_false_iff_not]; omega), if_neg (by omega)]

/-! the reference's way -/
def val (t : ByteArray) : Nat → Nat
  | 0 => 0
  | k + 1 => val t k * 10 + (at_ t k - 48)
/-- the number that figures are: none, where they are none, or more than ten; i: how many were read, n: their number -/
def numGo (t : ByteArray) (i n : Nat) : Option Nat :=
  if h : i < t.size then if at_ t i < 48 ∨ 57 < at_ t i ∨ 10 ≤ i then none else numGo t (i + 1) (n * 10 + (at_ t i - 48)) else some n
termination_by t.size - i
def l1Num (t : ByteArray) : Int := match numGo t 0 0 with
  | none => -1
  | some n => if t.size = 0 ∨ (1 < t.size ∧ at_ t 0 = 48) then -1 else n
theorem numGo_go {t : ByteArray} {i n : Nat} (h : i < t.size) (h0 : 48 ≤ at_ t i) (h1 : at_ t i ≤ 57) (h2 : i < 10) : numGo t i n = numGo t (i + 1) (n * 10 + (at_ t i - 48)) := by
  rw [numGo, dif_pos h, if_neg (by omega)]
theorem numGo_none {t : ByteArray} {i n : Nat} (h : i < t.size) (h0 : at_ t i < 48 ∨ 57 < at_ t i ∨ 10 ≤ i) : numGo t i n = none := by rw [numGo, dif_pos h, if_pos h0]
theorem numGo_end {t : ByteArray} {i n : Nat} (h : ¬ i < t.size) : numGo t i n = some n := by rw [numGo, dif_neg h]
theorem l1Num_none {t : ByteArray} (h : numGo t 0 0 = none) : -1 = l1Num t := by rw [l1Num, h]
theorem l1Num_bad {t : ByteArray} {n : Nat} (h : numGo t 0 0 = some n) (h1 : t.size = 0 ∨ (1 < t.size ∧ at_ t 0 = 48)) : -1 = l1Num t := by rw [l1Num, h]; simp only; rw [if_pos h1]
theorem l1Num_some {t : ByteArray} {n : Nat} (h : numGo t 0 0 = some n) (h1 : ¬ (t.size = 0 ∨ (1 < t.size ∧ at_ t 0 = 48))) : (n : Int) = l1Num t := by rw [l1Num, h]; simp only; rw [if_neg h1]
def figs5 (t : ByteArray) (k : Nat) : Nat :=
  if h : k < t.size ∧ k < 5 ∧ 48 ≤ at_ t k ∧ at_ t k ≤ 57 then figs5 t (k + 1) else k
termination_by 5 - k
def specFrame (t : ByteArray) : ByteArray × Int :=
  let k := figs5 t 0
  let n := l1Num (t.extract 0 k)
  if 0 < k ∧ (n < 0 ∨ 6000 < n) then (⟨#[]⟩, -1) else if k = t.size then (⟨#[]⟩, 0) else if at_ t k ≠ 58 ∨ k = 0 then (⟨#[]⟩, -1)
  else if (t.size : Int) < k + n + 2 then (⟨#[]⟩, 0) else if at_ t (k + n.toNat + 1) ≠ 10 then (⟨#[]⟩, -1) else (t.extract (k + 1) (k + 1 + n.toNat), k + n + 2)

theorem at_extract (t : ByteArray) (k i : Nat) (hi : i < k) (hk : k ≤ t.size) : at_ (t.extract 0 k) i = at_ t i := by
  have h1 : (t.extract 0 k).size = k := by rw [ByteArray.size_extract]; omega
  have h2 : i < (t.extract 0 k).size := by omega
  have h3 : i < t.size := by omega
  simp only [at_, h2, h3, dif_pos]
  rw [ByteArray.getElem_extract]
  simp
theorem figs5_spec (t : ByteArray) : ∀ (d k : Nat), 5 - k = d → k ≤ t.size → k ≤ 5 → ∃ m, figs5 t k = m ∧ k ≤ m ∧ m ≤ 5 ∧ m ≤ t.size ∧ (∀ i, k ≤ i → i < m → 48 ≤ at_ t i ∧ at_ t i ≤ 57) ∧ (m = 5 ∨ m = t.size ∨ at_ t m < 48 ∨ 57 < at_ t m) := by
  intro d
  induction d with
  | zero => intro k hd hk h5; rw [figs5, dif_neg (by omega)]; exact ⟨k, rfl, by omega, h5, hk, fun i h1 h2 => by omega, by omega⟩
  | succ d ih =>
    intro k hd hk h5
    rw [figs5]
    split
    · rename_i h
      obtain ⟨m, e, h1, h2, h3, h4, h6⟩ := ih (k + 1) (by omega) (by omega) (by omega)
      exact ⟨m, e, by omega, h2, h3, fun i hi hm => by rcases Nat.eq_or_lt_of_le hi with rfl | hi; exact h.2.2; exact h4 i hi hm, h6⟩
    · rename_i h
      exact ⟨k, rfl, by omega, h5, hk, fun i h1 h2 => by omega, by omega⟩
theorem numGo_val (t : ByteArray) (k : Nat) (hk : k ≤ t.size) (h10 : k ≤ 10) (hf : ∀ i, i < k → 48 ≤ at_ t i ∧ at_ t i ≤ 57) : ∀ (d i : Nat), k - i = d → i ≤ k → numGo (t.extract 0 k) i (val t i) = some (val t k) := by
  have h1 : (t.extract 0 k).size = k := by rw [ByteArray.size_extract]; omega
  intro d
  induction d with
  | zero => intro i hd hi; obtain rfl : i = k := by omega
            rw [numGo, dif_neg (by omega)]
  | succ d ih =>
    intro i hd hi
    have := hf i (by omega)
    rw [numGo, dif_pos (by omega), at_extract t k i (by omega) hk, if_neg (by omega)]
    exact ih (i + 1) (by omega) (by omega)
theorem l1Num_val (t : ByteArray) (k : Nat) (hk : k ≤ t.size) (h10 : k ≤ 10) (hf : ∀ i, i < k → 48 ≤ at_ t i ∧ at_ t i ≤ 57) :
    l1Num (t.extract 0 k) = if k = 0 ∨ (1 < k ∧ at_ t 0 = 48) then -1 else (val t k : Int) := by
  have h1 : (t.extract 0 k).size = k := by rw [ByteArray.size_extract]; omega
  have h2 : numGo (t.extract 0 k) 0 0 = some (val t k) := numGo_val t k hk h10 hf k 0 (by omega) (by omega)
  unfold l1Num
  rw [h2, h1]
  simp only
  by_cases h0 : 0 < k
  · rw [at_extract t k 0 h0 hk]
  · obtain rfl : k = 0 := by omega
    simp
theorem val_mono (t : ByteArray) (a : Nat) : ∀ k, a ≤ k → val t a ≤ val t k := by
  intro k h
  induction k with
  | zero => obtain rfl : a = 0 := by omega
            exact Nat.le_refl _
  | succ k ih =>
    rcases Nat.eq_or_lt_of_le h with rfl | h
    · exact Nat.le_refl _
    · have := ih (by omega); simp only [val]; omega

/-- From a figures on, the value of which is at most 6000, both go on alike. -/
theorem more_spec (t : ByteArray) (k : Nat) (hk : k ≤ t.size) (h5 : k ≤ 5) (hf : ∀ i, i < k → 48 ≤ at_ t i ∧ at_ t i ≤ 57) (he : k = 5 ∨ k = t.size ∨ at_ t k < 48 ∨ 57 < at_ t k) :
    ∀ (d a : Nat), k - a = d → 1 ≤ a → a ≤ k → val t a ≤ 6000 → (a = 1 ∨ (10 ^ (a - 1) ≤ val t a ∧ at_ t 0 ≠ 48)) →
    frMore t a (val t a) = if (1 < k ∧ at_ t 0 = 48) ∨ 6000 < val t k then (⟨#[]⟩, -1) else if k = t.size then (⟨#[]⟩, 0) else if at_ t k ≠ 58 then (⟨#[]⟩, -1) else frBody t (k + 1) (val t k) := by
  have hv1 : val t 1 = at_ t 0 - 48 := by simp [val]
  intro d
  induction d with
  | zero =>
    intro a hd h1 ha hv hp
    obtain rfl : a = k := by omega
    rw [if_neg]
    · by_cases c1 : a = t.size
      · rw [if_pos c1, frMore_end (by omega)]
      · rw [if_neg c1]
        by_cases c2 : at_ t a = 58
        · rw [if_neg (by omega), frMore_colon (by omega) c2]
        · rw [if_pos c2, frMore_bad (by omega) c2]
          rcases he with rfl | he | he
          · rcases hp with hp | hp
            · omega
            · have : 10 ^ (5 - 1) = 10000 := rfl
              have := hp.1
              omega
          · omega
          · exact .inl he
    · rintro (⟨h2, h3⟩ | h2)
      · omega
      · omega
  | succ d ih =>
    intro a hd h1 ha hv hp
    have ha' := hf a (by omega)
    have hs : val t (a + 1) = val t a * 10 + (at_ t a - 48) := rfl
    by_cases c1 : val t a = 0
    · rcases hp with rfl | hp
      · have h0 := hf 0 (by omega)
        rw [frMore_bad (by omega) (by omega) (.inr c1), if_pos (.inl ⟨by omega, by omega⟩)]
      · have : 0 < 10 ^ (a - 1) := Nat.pow_pos (by omega)
        have := hp.1
        omega
    · by_cases c2 : 6000 < val t (a + 1)
      · rw [frMore_big (by omega) (by omega) (by omega) c1 (by omega), if_pos (.inr (by have := val_mono t (a + 1) k (by omega); omega))]
      · rw [frMore_go (by omega) (by omega) (by omega) c1 (by omega), ← hs]
        refine ih (a + 1) (by omega) (by omega) (by omega) (by omega) (.inr ?_)
        rcases hp with rfl | hp
        · refine ⟨?_, by omega⟩; rw [hs]; show 10 ^ 1 ≤ _; omega
        · obtain ⟨b, rfl⟩ : ∃ b, a = b + 1 := ⟨a - 1, by omega⟩
          refine ⟨?_, hp.2⟩
          have hp := hp.1
          rw [hs]; simp only [Nat.add_sub_cancel] at hp ⊢
          rw [Nat.pow_succ]; omega

theorem spec_eq (t : ByteArray) : specFrame t = frameGet t := by
  obtain ⟨k, ek, _, h5, hk, hf0, he⟩ := figs5_spec t 5 0 rfl (by omega) (by omega)
  have hf : ∀ i, i < k → 48 ≤ at_ t i ∧ at_ t i ≤ 57 := fun i hi => hf0 i (by omega) hi
  have hn := l1Num_val t k hk (by omega) hf
  simp only [specFrame, ek]
  generalize l1Num (t.extract 0 k) = n at hn
  unfold frameGet
  by_cases c0 : t.size = 0
  · obtain rfl : k = 0 := by omega
    simp [c0]
  rw [if_neg c0]
  by_cases c1 : k = 0
  · subst c1
    rw [if_neg (show ¬ (0 < 0 ∧ (n < 0 ∨ 6000 < n)) by omega), if_neg (show ¬ 0 = t.size by omega), if_pos (.inr rfl), if_pos]
    simp only [fig, Bool.and_eq_false_iff, decide_eq_false_iff_not]
    omega
  have h0 := hf 0 (by omega)
  rw [if_neg (show ¬ fig (at_ t 0) = false by simp only [fig, Bool.and_eq_false_iff, decide_eq_false_iff_not]; omega)]
  have hv1 : val t 1 = at_ t 0 - 48 := by simp [val]
  rw [← hv1, more_spec t k hk h5 hf he (k - 1) 1 rfl (by omega) (by omega) (by omega) (.inl rfl)]
  by_cases c2 : 1 < k ∧ at_ t 0 = 48
  · rw [if_pos (.inr c2)] at hn
    rw [if_pos (show 0 < k ∧ (n < 0 ∨ 6000 < n) by omega), if_pos (show (1 < k ∧ at_ t 0 = 48) ∨ _ from .inl c2)]
  rw [if_neg (show ¬ (k = 0 ∨ 1 < k ∧ at_ t 0 = 48) by omega)] at hn
  subst hn
  by_cases c3 : 6000 < val t k
  · rw [if_pos (show 0 < k ∧ ((val t k : Int) < 0 ∨ 6000 < (val t k : Int)) by omega), if_pos (show _ ∨ 6000 < val t k from .inr c3)]
  rw [if_neg (show ¬ (0 < k ∧ ((val t k : Int) < 0 ∨ 6000 < (val t k : Int))) by omega), if_neg (show ¬ (1 < k ∧ at_ t 0 = 48 ∨ 6000 < val t k) by omega)]
  by_cases c4 : k = t.size
  · rw [if_pos c4, if_pos c4]
  rw [if_neg c4, if_neg c4]
  by_cases c5 : at_ t k ≠ 58
  · rw [if_pos (show at_ t k ≠ 58 ∨ k = 0 from .inl c5), if_pos c5]
  rw [if_neg (show ¬ (at_ t k ≠ 58 ∨ k = 0) by omega), if_neg c5]
  simp only [frBody, Int.toNat_natCast]
  by_cases c6 : t.size ≤ k + 1 + val t k
  · rw [if_pos (show (t.size : Int) < (k : Int) + (val t k : Int) + 2 by omega), if_pos c6]
  rw [if_neg (show ¬ (t.size : Int) < (k : Int) + (val t k : Int) + 2 by omega), if_neg c6, show k + val t k + 1 = k + 1 + val t k by omega]
  by_cases c7 : at_ t (k + 1 + val t k) ≠ 10
  · rw [if_pos c7, if_pos c7]
  · rw [if_neg c7, if_neg c7]
    simp only [Prod.mk.injEq, true_and]
    omega
end Go.Proofs.YtjgnnobfaphkeaaDoor

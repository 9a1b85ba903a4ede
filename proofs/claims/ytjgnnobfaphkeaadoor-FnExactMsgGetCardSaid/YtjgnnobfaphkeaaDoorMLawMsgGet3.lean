/- The reading of values, as plain functions: how the program reads one and how the reference does; each finds a value again in its text, so both find the same. No condition. The reading of values as the reference does it, as plain functions: it finds a value again in its text, so it finds what the program finds. No condition. Which texts are names: the program's test, for every text. The program's figuresAt: the number that stands at a place. For every text of at most 2^61 bytes. -/
import Derived.Test.YtjgnnobfaphkeaaDoorMLawMsgGet2
import Derived.Test.YtjgnnobfaphkeaaDoorMLawMsgGet0
import Derived.Test.YtjgnnobfaphkeaaDoorMLawMsgGet1
/- The reading of values, as plain functions: how the program reads one and how the reference does; each finds a value again in its text, so both find the same. No condition. -/
namespace Go.Proofs.YtjgnnobfaphkeaaDoor
open Go.RowKit
set_option linter.unusedVariables false
set_option linter.unusedSimpArgs false

/-! figures -/
def figsGo : Nat → Nat → List UInt8 → Option (Nat × List UInt8)
  | k, n, [] => if k = 0 then none else some (n, [])
  | k, n, b :: r => if fig b.toNat then (if k = 10 then none else figsGo (k + 1) (n * 10 + (b.toNat - 48)) r) else if k = 0 then none else some (n, b :: r)
abbrev figs (l : List UInt8) : Option (Nat × List UInt8) := figsGo 0 0 l
/-- what stands behind a number begins with no figure -/
def NoFig (l : List UInt8) : Prop := ∀ b r, l = b :: r → fig b.toNat = false
def digVal (m : Nat) (l : List UInt8) : Nat := l.foldl (fun a b => a * 10 + (b.toNat - 48)) m
theorem figsGo_all (rest : List UInt8) (hr : NoFig rest) : ∀ (ds : List UInt8) (k n : Nat), (∀ b, b ∈ ds → fig b.toNat = true) → 0 < k + ds.length → k + ds.length ≤ 10 → figsGo k n (ds ++ rest) = some (digVal n ds, rest)
  | [], k, n, _, h0, _ => by
    have hk : k ≠ 0 := by simpa using Nat.pos_iff_ne_zero.1 h0
    cases rest with
    | nil => simp [figsGo, hk, digVal]
    | cons b r => simp [figsGo, hr b r rfl, hk, digVal]
  | b :: ds, k, n, h, h0, h1 => by
    have hb := h b (List.mem_cons_self ..)
    have hk : k ≠ 10 := by simp only [List.length_cons] at h1; omega
    rw [List.cons_append, figsGo, if_pos hb, if_neg hk, figsGo_all rest hr ds (k + 1) _ (fun c hc => h c (List.mem_cons_of_mem _ hc)) (by omega) (by simp only [List.length_cons] at h1; omega)]
    rfl
theorem fig_dig {x : Nat} (h : x < 10) : fig (UInt8.ofNat (48 + x)).toNat = true := by
  simp only [UInt8.toNat_ofNat', fig]; simp; omega
theorem dec_figs (n : Nat) : ∀ b, b ∈ Lib.decDigits n → fig b.toNat = true := by
  induction n using Nat.strongRecOn with
  | _ n ih =>
    intro b hb
    by_cases h : n < 10
    · rw [dec_small h, List.mem_singleton] at hb
      subst hb
      exact fig_dig h
    · rw [dec_big h, List.mem_append, List.mem_singleton] at hb
      rcases hb with hb | rfl
      · exact ih (n / 10) (by omega) b hb
      · exact fig_dig (Nat.mod_lt _ (by omega))
theorem dec_val (n : Nat) : digVal 0 (Lib.decDigits n) = n := by
  induction n using Nat.strongRecOn with
  | _ n ih =>
    by_cases h : n < 10
    · rw [dec_small h]
      simp only [digVal, List.foldl_cons, List.foldl_nil, UInt8.toNat_ofNat']; omega
    · rw [dec_big h, digVal, List.foldl_append]
      have := ih (n / 10) (by omega)
      rw [digVal] at this
      rw [this]
      simp only [List.foldl_cons, List.foldl_nil, UInt8.toNat_ofNat']; omega
theorem dec_pos (n : Nat) : 0 < (Lib.decDigits n).length := by
  by_cases h : n < 10
  · rw [dec_small h]; simp
  · rw [dec_big h]; simp
theorem dec_length (k : Nat) : ∀ n, n < 10 ^ (k + 1) → (Lib.decDigits n).length ≤ k + 1 := by
  induction k with
  | zero => intro n h; rw [dec_small (by simpa using h)]; simp
  | succ k ih =>
    intro n h
    by_cases hn : n < 10
    · rw [dec_small hn]; simp
    · rw [dec_big hn, List.length_append, List.length_singleton]
      have := ih (n / 10) (by rw [Nat.pow_succ] at h; omega)
      omega
theorem dec_len10 {n : Nat} (h : n < 10000000000) : (Lib.decDigits n).length ≤ 10 := dec_length 9 n (by omega)
theorem figs_dec {n : Nat} {rest : List UInt8} (h : n < 10000000000) (hr : NoFig rest) : figs (Lib.decDigits n ++ rest) = some (n, rest) := by
  rw [figs, figsGo_all rest hr _ 0 0 (dec_figs n) (by have := dec_pos n; omega) (by have := dec_len10 h; omega), dec_val]

/-! a text up to a byte -/
def cutAt (b : UInt8) : List UInt8 → Option (List UInt8 × List UInt8)
  | [] => none
  | x :: r => if x = b then some ([], r) else (cutAt b r).map fun p => (x :: p.1, p.2)
theorem cutAt_app {b : UInt8} {rest : List UInt8} : ∀ {l : List UInt8}, b ∉ l → cutAt b (l ++ b :: rest) = some (l, rest)
  | [], _ => by simp [cutAt]
  | x :: l, h => by
    rw [List.cons_append, cutAt, if_neg (fun e => h (by rw [e]; exact List.mem_cons_self ..)), cutAt_app (fun hm => h (List.mem_cons_of_mem _ hm))]
    rfl
theorem cutAt_none {b : UInt8} : ∀ {l : List UInt8}, b ∉ l → cutAt b l = none
  | [], _ => rfl
  | x :: l, h => by
    rw [cutAt, if_neg (fun e => h (by rw [e]; exact List.mem_cons_self ..)), cutAt_none (fun hm => h (List.mem_cons_of_mem _ hm))]
    rfl
theorem cutAt_some {b : UInt8} : ∀ {l x r : List UInt8}, cutAt b l = some (x, r) → l = x ++ b :: r ∧ b ∉ x
  | [], _, _, h => by cases h
  | y :: l, x, r, h => by
    rw [cutAt] at h
    split at h
    · rename_i e
      cases h
      subst e
      exact ⟨rfl, by simp⟩
    · rename_i e
      obtain ⟨⟨x', r'⟩, h1, h2⟩ := Option.map_eq_some_iff.1 h
      cases h2
      obtain ⟨rfl, hn⟩ := cutAt_some h1
      exact ⟨rfl, by simp only [List.mem_cons, not_or]; exact ⟨fun h => e h.symm, hn⟩⟩
abbrev hasP (p l : List UInt8) : Bool := p.isPrefixOf l

/-! the program's reading -/
def vN (k n : Int) : V := ⟨k, n, ⟨#[]⟩, []⟩
def rdVs (rd : List UInt8 → Option (V × List UInt8)) : Nat → List UInt8 → Option (List V × List UInt8)
  | 0, _ => none
  | f + 1, l => match rd l with
    | none => none
    | some (v, r) => if hasP [93] r then some ([v], r.drop 1) else if hasP [44, 32] r then (rdVs rd f (r.drop 2)).map fun p => (v :: p.1, p.2) else none
def rdL (rd : List UInt8 → Option (V × List UInt8)) (most : Nat) (l : List UInt8) : Option (List V × List UInt8) :=
  if hasP [91] l then (if hasP [93] (l.drop 1) then some ([], l.drop 2) else rdVs rd most (l.drop 1)) else none
def rdV : Nat → List UInt8 → Option (V × List UInt8)
  | 0, _ => none
  | d + 1, l =>
    if l = [] then none
    else if hasP [110, 117, 108, 108] l then some (vN 0 0, l.drop 4)
    else if hasP [116, 114, 117, 101] l then some (vN 1 1, l.drop 4)
    else if hasP [102, 97, 108, 115, 101] l then some (vN 1 0, l.drop 5)
    else if l.headD 0 = 39 then (cutAt 39 (l.drop 1)).map fun p => (⟨3, 0, ⟨p.1.toArray⟩, []⟩, p.2)
    else if l.headD 0 = 91 then (rdL (rdV d) 6 l).map fun p => (⟨4, 0, ⟨#[]⟩, p.1⟩, p.2)
    else if l.headD 0 = 35 then (figs (l.drop 1)).map fun p => (vN 5 p.1, p.2)
    else if l.headD 0 = 64 then (figs (l.drop 1)).map fun p => (vN 6 p.1, p.2)
    else if l.headD 0 = 45 then (figs (l.drop 1)).map fun p => (vN 2 (-(p.1 : Int)), p.2)
    else (figs l).map fun p => (vN 2 p.1, p.2)

/-! what a value that is ok looks like -/
theorem empty_eq {t : ByteArray} (h : (t.toList == ([] : List UInt8)) = true) : t = ⟨#[]⟩ := by
  have h : t.toList = [] := by simpa using h
  rw [ByteArray.toList_eq] at h
  exact ByteArray.ext (Array.ext' h)
theorem bare_eq {k n : Int} {t : ByteArray} {l : List V} (h : (V.mk k n t l).bare = true) : t = ⟨#[]⟩ ∧ l = [] := by
  simp only [V.bare, Bool.and_eq_true] at h
  exact ⟨empty_eq h.1, by simpa using h.2⟩
/-- One of the seven kinds. -/
inductive OkS (d : Nat) : V → Prop where
  | null : OkS d (vN 0 0)
  | no : OkS d (vN 1 0)
  | yes : OkS d (vN 1 1)
  | num (n : Int) (h0 : -1000000000 ≤ n) (h1 : n ≤ 1000000000) : OkS d (vN 2 n)
  | text (t : ByteArray) (h : textOk t = true) : OkS d ⟨3, 0, t, []⟩
  | list (l : List V) (hl : l.length ≤ 6) (h : ∀ x, x ∈ l → okV d x = true) : OkS d ⟨4, 0, ⟨#[]⟩, l⟩
  | node (n : Nat) (h : n ≤ 1000000000) : OkS d (vN 5 n)
  | edge (n : Nat) (h : n ≤ 1000000000) : OkS d (vN 6 n)
theorem okV_cases {d : Nat} {v : V} (h : okV (d + 1) v = true) : OkS d v := by
  obtain ⟨k, n, t, l⟩ := v
  simp only [okV] at h
  split at h
  · rename_i e; subst e
    rw [Bool.and_eq_true] at h
    obtain ⟨rfl, rfl⟩ := bare_eq h.2
    obtain rfl : n = 0 := by simpa using h.1
    exact .null
  split at h
  · rename_i e; subst e
    rw [Bool.and_eq_true] at h
    obtain ⟨rfl, rfl⟩ := bare_eq h.2
    have : n = 0 ∨ n = 1 := by simpa using h.1
    rcases this with rfl | rfl
    · exact .no
    · exact .yes
  split at h
  · rename_i e; subst e
    rw [Bool.and_eq_true, Bool.and_eq_true] at h
    obtain ⟨rfl, rfl⟩ := bare_eq h.2
    exact .num n (by simpa using h.1.1) (by simpa using h.1.2)
  split at h
  · rename_i e; subst e
    rw [Bool.and_eq_true, Bool.and_eq_true] at h
    obtain rfl : n = 0 := by simpa using h.1.1
    obtain rfl : l = [] := by simpa using h.2
    exact .text t h.1.2
  split at h
  · rename_i e; subst e
    rw [Bool.and_eq_true, Bool.and_eq_true, Bool.and_eq_true] at h
    obtain rfl : n = 0 := by simpa using h.1.1.1
    obtain rfl := empty_eq h.1.1.2
    exact .list l (by have := h.1.2; simp at this; omega) (by simpa using h.2)
  split at h
  · rename_i e
    rw [Bool.and_eq_true, Bool.and_eq_true] at h
    obtain ⟨rfl, rfl⟩ := bare_eq h.2
    have h0 : 0 ≤ n := by simpa using h.1.1
    have h1 : n ≤ 1000000000 := by simpa using h.1.2
    obtain ⟨m, rfl⟩ := Int.eq_ofNat_of_zero_le h0
    rcases e with rfl | rfl
    · exact .node m (by omega)
    · exact .edge m (by omega)
  · cases h
/-- what may stand behind a value -/
def Ends (l : List UInt8) : Prop := ∀ b r, l = b :: r → b = 44 ∨ b = 93
theorem Ends.noFig {l : List UInt8} (h : Ends l) : NoFig l := fun b r e => by rcases h b r e with rfl | rfl <;> rfl
theorem Ends.nil : Ends [] := fun _ _ e => by cases e
theorem text_no {t : ByteArray} (h : textOk t = true) : ∀ b, b ∈ t.data.toList → 32 ≤ b.toNat ∧ b.toNat ≤ 126 ∧ b.toNat ≠ 39 := by
  simp only [textOk, Bool.and_eq_true] at h
  intro b hb
  have := List.all_eq_true.1 h.2 b hb
  simp at this
  omega
theorem text_39 {t : ByteArray} (h : textOk t = true) : (39 : UInt8) ∉ t.data.toList := fun hm => (text_no h 39 hm).2.2 rfl
theorem bytes_eta (t : ByteArray) : (⟨t.data.toList.toArray⟩ : ByteArray) = t := by cases t; simp
theorem itoa_nat (n : Nat) : Lib.itoa (n : Int) = Lib.decDigits n := by simp only [Lib.itoa]; rw [if_neg (by omega)]; simp
theorem itoa_neg {n : Nat} (h : 0 < n) : Lib.itoa (-(n : Int)) = 45 :: Lib.decDigits n := by
  simp only [Lib.itoa]; rw [if_pos (by omega), show (-(n : Int)).natAbs = n by omega]
theorem put_vN0 : (vN 0 0).put = [110, 117, 108, 108] := by simp [vN, V.put]
theorem put_yes : (vN 1 1).put = [116, 114, 117, 101] := by simp [vN, V.put]
theorem put_no : (vN 1 0).put = [102, 97, 108, 115, 101] := by simp [vN, V.put]
theorem put_num (n : Int) : (vN 2 n).put = Lib.itoa n := by simp [vN, V.put]
theorem put_node (n : Int) : (vN 5 n).put = 35 :: Lib.itoa n := by simp [vN, V.put]
theorem put_edge (n : Int) : (vN 6 n).put = 64 :: Lib.itoa n := by simp [vN, V.put]
theorem put_text (n : Int) (t : ByteArray) (l : List V) : V.put ⟨3, n, t, l⟩ = 39 :: (t.data.toList ++ [39]) := by simp [V.put]
/-- the first byte of a number's text is a figure -/
theorem dec_head (n : Nat) : ∃ b r, Lib.decDigits n = b :: r ∧ fig b.toNat = true := by
  cases h : Lib.decDigits n with
  | nil => have := dec_pos n; rw [h] at this; cases this
  | cons b r => exact ⟨b, r, rfl, dec_figs n b (by rw [h]; exact List.mem_cons_self ..)⟩
theorem fig_ne {b : UInt8} (h : fig b.toNat = true) {c : UInt8} (hc : fig c.toNat = false) : b ≠ c := fun e => by rw [e, hc] at h; cases h
theorem rowTxt_nil : rowTxt [] = [91, 93] := by simp [rowTxt, Lib.join_nil]
theorem join_two (x y : List UInt8) (r : List (List UInt8)) (s : List UInt8) : Lib.join (x :: y :: r) s = x ++ (s ++ Lib.join (y :: r) s) := by
  simp [Lib.join_cons, Lib.joinTail]
/-- a value's text begins neither as a list ends, nor with a comma -/
theorem put_head {d : Nat} {v : V} (h : okV d v = true) : ∃ b r, v.put = b :: r ∧ b ≠ 93 ∧ b ≠ 44 := by
  cases d with
  | zero => simp [okV] at h
  | succ d =>
    cases okV_cases h with
    | null => exact ⟨_, _, put_vN0, by decide, by decide⟩
    | no => exact ⟨_, _, put_no, by decide, by decide⟩
    | yes => exact ⟨_, _, put_yes, by decide, by decide⟩
    | num n h0 h1 =>
      by_cases hn : 0 ≤ n
      · obtain ⟨m, rfl⟩ := Int.eq_ofNat_of_zero_le hn
        obtain ⟨b, r, e, hb⟩ := dec_head m
        exact ⟨b, r, by rw [put_num, itoa_nat, e], fig_ne hb rfl, fig_ne hb rfl⟩
      · obtain ⟨m, rfl⟩ : ∃ m : Nat, n = -(m : Int) := ⟨n.natAbs, by omega⟩
        exact ⟨_, _, by rw [put_num, itoa_neg (by omega)], by decide, by decide⟩
    | text t h => exact ⟨_, _, put_text _ _ _, by decide, by decide⟩
    | list l hl h => exact ⟨_, _, put_list _ _ _, by decide, by decide⟩
    | node n h => exact ⟨_, _, put_node _, by decide, by decide⟩
    | edge n h => exact ⟨_, _, put_edge _, by decide, by decide⟩
theorem rdVs_put {d : Nat} (ih : ∀ v rest, okV d v = true → Ends rest → rdV d (v.put ++ rest) = some (v, rest)) (rest : List UInt8) :
    ∀ (xs : List V) (f : Nat), xs ≠ [] → xs.length ≤ f → (∀ x, x ∈ xs → okV d x = true) → rdVs (rdV d) f (Lib.join (xs.map V.put) [44, 32] ++ 93 :: rest) = some (xs, rest)
  | [], _, h, _, _ => absurd rfl h
  | [x], f, _, hf, hx => by
    obtain ⟨f, rfl⟩ : ∃ g, f = g + 1 := ⟨f - 1, by simp at hf; omega⟩
    rw [List.map_cons, List.map_nil, Lib.join_one, rdVs, ih x _ (hx x (List.mem_cons_self ..)) (fun b r e => .inr (by cases e; rfl))]
    simp [hasP]
  | x :: y :: xs, f, _, hf, hx => by
    obtain ⟨f, rfl⟩ : ∃ g, f = g + 1 := ⟨f - 1, by simp at hf; omega⟩
    rw [List.map_cons, List.map_cons, join_two, List.append_assoc, rdVs, ih x _ (hx x (List.mem_cons_self ..)) (fun b r e => .inl (by cases e; rfl))]
    have := rdVs_put ih rest (y :: xs) f (by simp) (by simp only [List.length_cons] at hf ⊢; omega) (fun z hz => hx z (List.mem_cons_of_mem _ hz))
    rw [List.map_cons] at this
    simp [hasP, this]
theorem rdL_put {d : Nat} (ih : ∀ v rest, okV d v = true → Ends rest → rdV d (v.put ++ rest) = some (v, rest)) (rest : List UInt8) (xs : List V) (f : Nat) (hf : xs.length ≤ f) (hx : ∀ x, x ∈ xs → okV d x = true) :
    rdL (rdV d) f (rowTxt xs ++ rest) = some (xs, rest) := by
  cases xs with
  | nil => rw [rowTxt_nil]; simp [rdL, hasP]
  | cons y ys =>
    have h := rdVs_put ih rest (y :: ys) f (by simp) hf hx
    obtain ⟨b, r, e, hb, _⟩ := put_head (hx y (List.mem_cons_self ..))
    have e2 : Lib.join ((y :: ys).map V.put) [44, 32] = b :: (r ++ Lib.joinTail [44, 32] (ys.map V.put)) := by rw [List.map_cons, Lib.join_cons, e]; rfl
    have e3 : rowTxt (y :: ys) ++ rest = 91 :: (Lib.join ((y :: ys).map V.put) [44, 32] ++ 93 :: rest) := by simp [rowTxt]
    rw [e3, rdL, if_pos (by simp [hasP]), List.drop_one, List.tail_cons, if_neg (by rw [e2]; simp [hasP]; exact fun h => absurd h.symm hb), h]
theorem hasP_ne {a b : UInt8} (p l : List UInt8) (h : a ≠ b) : hasP (a :: p) (b :: l) = false := by simp [hasP, List.isPrefixOf, h]
theorem rdV_fig {d : Nat} {b : UInt8} {l : List UInt8} (h : fig b.toNat = true) : rdV (d + 1) (b :: l) = (figs (b :: l)).map fun p => (vN 2 p.1, p.2) := by
  rw [rdV, if_neg (by simp), if_neg (by rw [hasP_ne _ _ (fig_ne h rfl).symm]; simp), if_neg (by rw [hasP_ne _ _ (fig_ne h rfl).symm]; simp), if_neg (by rw [hasP_ne _ _ (fig_ne h rfl).symm]; simp)]
  rw [if_neg (show ¬ (b :: l).headD 0 = 39 from fig_ne h rfl), if_neg (show ¬ (b :: l).headD 0 = 91 from fig_ne h rfl), if_neg (show ¬ (b :: l).headD 0 = 35 from fig_ne h rfl), if_neg (show ¬ (b :: l).headD 0 = 64 from fig_ne h rfl), if_neg (show ¬ (b :: l).headD 0 = 45 from fig_ne h rfl)]
theorem rdV_put : ∀ (d : Nat) (v : V) (rest : List UInt8), okV d v = true → Ends rest → rdV d (v.put ++ rest) = some (v, rest)
  | 0, v, rest, h, _ => by simp [okV] at h
  | d + 1, v, rest, h, he => by
    cases okV_cases h with
    | null => rw [put_vN0]; simp [rdV, hasP]
    | no => rw [put_no]; simp [rdV, hasP]
    | yes => rw [put_yes]; simp [rdV, hasP]
    | num n h0 h1 =>
      by_cases hn : 0 ≤ n
      · obtain ⟨m, rfl⟩ := Int.eq_ofNat_of_zero_le hn
        rw [put_num, itoa_nat]
        have hf := figs_dec (n := m) (by omega) he.noFig
        obtain ⟨b, r, e, hb⟩ := dec_head m
        rw [e, List.cons_append] at hf ⊢
        rw [rdV_fig hb, hf]
        rfl
      · obtain ⟨m, rfl⟩ : ∃ m : Nat, n = -(m : Int) := ⟨n.natAbs, by omega⟩
        rw [put_num, itoa_neg (by omega), List.cons_append]
        have hf := figs_dec (n := m) (by omega) he.noFig
        simp [rdV, hasP, hf]
    | text t ht =>
      rw [put_text]
      have := cutAt_app (rest := rest) (text_39 ht)
      simp [rdV, hasP, this, bytes_eta]
    | list l hl hx =>
      rw [put_list]
      have := rdL_put (rdV_put d) rest l 6 hl hx
      have e : rowTxt l ++ rest = 91 :: (Lib.join (l.map V.put) [44, 32] ++ 93 :: rest) := by simp [rowTxt]
      rw [rdV, this]
      rw [e]
      simp [hasP]
    | node n hn =>
      rw [put_node, itoa_nat, List.cons_append]
      have hf := figs_dec (n := n) (by omega) he.noFig
      simp [rdV, hasP, hf]
    | edge n hn =>
      rw [put_edge, itoa_nat, List.cons_append]
      have hf := figs_dec (n := n) (by omega) he.noFig
      simp [rdV, hasP, hf]
/-- ValueGet: the value whose text this is -/
def valGet (l : List UInt8) : Option V := match rdV 3 l with
  | some (v, []) => if okV 3 v = true ∧ v.put = l then some v else none
  | _ => none
theorem valGet_iff {l : List UInt8} {v : V} : valGet l = some v ↔ okV 3 v = true ∧ v.put = l := by
  unfold valGet
  constructor
  · intro h
    split at h
    · split at h
      · cases h; assumption
      · cases h
    · cases h
  · rintro ⟨h, rfl⟩
    have := rdV_put 3 v [] h Ends.nil
    rw [List.append_nil] at this
    rw [this]
    simp [h]
theorem opt_ext {α : Type} {a b : Option α} (h : ∀ x, a = some x ↔ b = some x) : a = b := by
  cases a with
  | none => cases b with
    | none => rfl
    | some y => exact absurd ((h y).2 rfl) (by simp)
  | some x => exact ((h x).1 rfl).symm
end Go.Proofs.YtjgnnobfaphkeaaDoor

/- The reading of values as the reference does it, as plain functions: it finds a value again in its text, so it finds what the program finds. No condition. -/
namespace Go.Proofs.YtjgnnobfaphkeaaDoor
open Go.RowKit
set_option linter.unusedVariables false
set_option linter.unusedSimpArgs false

/-! the number that figures are -/
def numLGo : Nat → Nat → List UInt8 → Option Nat
  | _, n, [] => some n
  | i, n, b :: r => if b.toNat < 48 ∨ 57 < b.toNat ∨ 10 ≤ i then none else numLGo (i + 1) (n * 10 + (b.toNat - 48)) r
def numL (l : List UInt8) : Int := match numLGo 0 0 l with
  | none => -1
  | some n => if l.length = 0 ∨ (1 < l.length ∧ l.headD 0 = 48) then -1 else n
theorem drop_at {t : ByteArray} {i : Nat} (h : i < t.size) : t.data.toList.drop i = (t[i]'h) :: t.data.toList.drop (i + 1) := by
  rw [List.drop_eq_getElem_cons (by simpa using h)]; rfl
theorem numGo_list (t : ByteArray) : ∀ (d i n : Nat), t.size - i = d → i ≤ t.size → numGo t i n = numLGo i n (t.data.toList.drop i) := by
  intro d
  induction d with
  | zero =>
    intro i n hd hi
    obtain rfl : i = t.size := by omega
    rw [numGo_end (by omega), List.drop_of_length_le (by rw [← Lib.size_eq]; exact Nat.le_refl _)]
    rfl
  | succ d ih =>
    intro i n hd hi
    have hlt : i < t.size := by omega
    have e := at_eq t i hlt
    rw [drop_at hlt, numLGo, e]
    by_cases h : at_ t i < 48 ∨ 57 < at_ t i ∨ 10 ≤ i
    · rw [if_pos h, numGo_none hlt h]
    · rw [if_neg h, numGo_go hlt (by omega) (by omega) (by omega), ih (i + 1) _ (by omega) (by omega)]
theorem l1Num_list (t : ByteArray) : l1Num t = numL t.data.toList := by
  have h := numGo_list t _ 0 0 rfl (by omega)
  rw [List.drop_zero] at h
  unfold l1Num numL
  rw [h]
  cases numLGo 0 0 t.data.toList with
  | none => rfl
  | some n =>
    simp only
    rw [← Lib.size_eq]
    have e : (1 < t.size ∧ at_ t 0 = 48) ↔ (1 < t.size ∧ t.data.toList.headD 0 = 48) := by
      constructor
      · rintro ⟨h1, h2⟩
        refine ⟨h1, ?_⟩
        have e := drop_at (t := t) (i := 0) (by omega)
        rw [List.drop_zero] at e
        rw [e, List.headD_cons]
        have := at_eq t 0 (by omega)
        rw [h2] at this
        exact UInt8.toNat_inj.1 this
      · rintro ⟨h1, h2⟩
        refine ⟨h1, ?_⟩
        have e := drop_at (t := t) (i := 0) (by omega)
        rw [List.drop_zero] at e
        rw [e, List.headD_cons] at h2
        have := at_eq t 0 (by omega)
        rw [h2] at this
        exact this.symm
    by_cases c : t.size = 0 ∨ (1 < t.size ∧ at_ t 0 = 48)
    · rw [if_pos c, if_pos (by rw [← e]; exact c)]
    · rw [if_neg c, if_neg (by rw [← e]; exact c)]
theorem numLGo_figs : ∀ (ds : List UInt8) (i n : Nat), (∀ b, b ∈ ds → fig b.toNat = true) → i + ds.length ≤ 10 → numLGo i n ds = some (digVal n ds)
  | [], i, n, _, _ => rfl
  | b :: ds, i, n, h, hi => by
    have hb := h b (List.mem_cons_self ..)
    simp only [fig, Bool.and_eq_true, decide_eq_true_eq] at hb
    simp only [List.length_cons] at hi
    rw [numLGo, if_neg (by omega), numLGo_figs ds _ _ (fun c hc => h c (List.mem_cons_of_mem _ hc)) (by omega)]
    rfl
theorem dec_no0 (n : Nat) : ¬ (1 < (Lib.decDigits n).length ∧ (Lib.decDigits n).headD 0 = 48) := by
  induction n using Nat.strongRecOn with
  | _ n ih =>
    by_cases h : n < 10
    · rw [dec_small h]; simp
    · rw [dec_big h]
      intro ⟨_, h2⟩
      obtain ⟨b, r, e, hb⟩ := dec_head (n / 10)
      rw [e, List.cons_append, List.headD_cons] at h2
      by_cases hs : n / 10 < 10
      · rw [dec_small hs] at e
        cases e
        have := congrArg UInt8.toNat h2
        simp only [UInt8.toNat_ofNat'] at this
        have : (48 : UInt8).toNat = 48 := rfl
        omega
      · refine ih (n / 10) (by omega) ⟨?_, by rw [e]; exact h2⟩
        rw [dec_big hs, List.length_append, List.length_singleton]
        have := dec_pos (n / 10 / 10)
        omega
theorem numL_dec {n : Nat} (h : n < 10000000000) : numL (Lib.decDigits n) = n := by
  have h1 := numLGo_figs (Lib.decDigits n) 0 0 (dec_figs n) (by have := dec_len10 h; omega)
  unfold numL
  rw [h1]
  simp only
  rw [if_neg (by have := dec_pos n; have := dec_no0 n; rintro (h | h); omega; contradiction), dec_val]

/-! the reference's reading of a value -/
def plainAt : List UInt8 → Nat
  | [] => 0
  | b :: r => if b = 44 ∨ b = 93 then 0 else plainAt r + 1
def sAtom (s : List UInt8) : V :=
  if s = [110, 117, 108, 108] then vN 0 0 else if s = [116, 114, 117, 101] then vN 1 1 else if s = [102, 97, 108, 115, 101] then vN 1 0
  else if 1 < s.length ∧ s.headD 0 = 35 then vN 5 (numL (s.drop 1)) else if 1 < s.length ∧ s.headD 0 = 64 then vN 6 (numL (s.drop 1)) else if 1 < s.length ∧ s.headD 0 = 45 then vN 2 (-numL (s.drop 1))
  else vN 2 (numL s)
/-- the values of a list from where it stands: f more may come; first: none came yet -/
def sLs (rd : List UInt8 → Option (V × List UInt8)) : Nat → Bool → List UInt8 → Option (List V × List UInt8)
  | f, first, l => if l = [] then none else if l.headD 0 = 93 then some ([], l.drop 1) else match f with
    | 0 => none
    | f + 1 => if first = false ∧ hasP [44, 32] l = false then none else match rd (if first then l else l.drop 2) with
      | none => none
      | some (v, r) => (sLs rd f false r).map fun p => (v :: p.1, p.2)
def sV : Nat → List UInt8 → Option (V × List UInt8)
  | 0, _ => none
  | d + 1, l =>
    if l = [] then none
    else if l.headD 0 = 39 then (cutAt 39 (l.drop 1)).map fun p => (⟨3, 0, ⟨p.1.toArray⟩, []⟩, p.2)
    else if l.headD 0 = 91 then (sLs (sV d) 7 true (l.drop 1)).map fun p => (⟨4, 0, ⟨#[]⟩, p.1⟩, p.2)
    else if plainAt l = 0 then none else some (sAtom (l.take (plainAt l)), l.drop (plainAt l))
theorem plainAt_app {rest : List UInt8} (hr : Ends rest) : ∀ {l : List UInt8}, (∀ b, b ∈ l → b ≠ 44 ∧ b ≠ 93) → plainAt (l ++ rest) = l.length
  | [], _ => by
    cases rest with
    | nil => rfl
    | cons b r => rw [List.nil_append, plainAt, if_pos (hr b r rfl)]; rfl
  | b :: l, h => by
    have := h b (List.mem_cons_self ..)
    rw [List.cons_append, plainAt, if_neg (by rintro (e | e) <;> simp_all), plainAt_app hr (fun c hc => h c (List.mem_cons_of_mem _ hc))]
    rfl
theorem sV_atom {d : Nat} {l rest : List UInt8} (hr : Ends rest) (hl : l ≠ []) (h : ∀ b, b ∈ l → b ≠ 44 ∧ b ≠ 93) (h1 : l.headD 0 ≠ 39) (h2 : l.headD 0 ≠ 91) : sV (d + 1) (l ++ rest) = some (sAtom l, rest) := by
  obtain ⟨b, r, rfl⟩ := List.exists_cons_of_ne_nil hl
  rw [List.headD_cons] at h1 h2
  have hp := plainAt_app hr h
  rw [sV, if_neg (by simp), if_neg (by simpa using h1), if_neg (by simpa using h2), hp, if_neg (by simp)]
  simp
theorem dec_plain (n : Nat) : ∀ b, b ∈ Lib.decDigits n → b ≠ 44 ∧ b ≠ 93 := fun b hb => ⟨fig_ne (dec_figs n b hb) rfl, fig_ne (dec_figs n b hb) rfl⟩
theorem cons_plain {c : UInt8} (hc : c ≠ 44 ∧ c ≠ 93) (n : Nat) : ∀ b, b ∈ c :: Lib.decDigits n → b ≠ 44 ∧ b ≠ 93 := fun b hb => by
  rcases List.mem_cons.1 hb with rfl | hb
  · exact hc
  · exact dec_plain n b hb
theorem sLs_put {d : Nat} (ih : ∀ v rest, okV d v = true → Ends rest → sV d (v.put ++ rest) = some (v, rest)) (rest : List UInt8) :
    ∀ (xs : List V) (f : Nat), xs.length ≤ f → (∀ x, x ∈ xs → okV d x = true) → sLs (sV d) f false (Lib.joinTail [44, 32] (xs.map V.put) ++ 93 :: rest) = some (xs, rest)
  | [], f, _, _ => by
    unfold sLs
    simp [Lib.joinTail]
  | x :: xs, f, hf, hx => by
    obtain ⟨f, rfl⟩ : ∃ g, f = g + 1 := ⟨f - 1, by simp at hf; omega⟩
    have e : Lib.joinTail [44, 32] ((x :: xs).map V.put) ++ 93 :: rest = 44 :: 32 :: (x.put ++ (Lib.joinTail [44, 32] (xs.map V.put) ++ 93 :: rest)) := by simp [Lib.joinTail]
    have hE : Ends (Lib.joinTail [44, 32] (xs.map V.put) ++ 93 :: rest) := fun b r e => by
      cases xs with
      | nil => simp [Lib.joinTail] at e; exact .inr e.1.symm
      | cons y ys => simp [Lib.joinTail] at e; exact .inl e.1.symm
    have h2 := sLs_put ih rest xs f (by simp only [List.length_cons] at hf; omega) (fun z hz => hx z (List.mem_cons_of_mem _ hz))
    rw [e]
    unfold sLs
    simp [hasP, ih x _ (hx x (List.mem_cons_self ..)) hE, h2]
theorem sLs_all {d : Nat} (ih : ∀ v rest, okV d v = true → Ends rest → sV d (v.put ++ rest) = some (v, rest)) (rest : List UInt8) (xs : List V) (f : Nat) (hf : xs.length ≤ f) (hx : ∀ x, x ∈ xs → okV d x = true) :
    sLs (sV d) f true (Lib.join (xs.map V.put) [44, 32] ++ 93 :: rest) = some (xs, rest) := by
  cases xs with
  | nil => rw [List.map_nil, Lib.join_nil]; unfold sLs; simp
  | cons x xs =>
    obtain ⟨f, rfl⟩ : ∃ g, f = g + 1 := ⟨f - 1, by simp at hf; omega⟩
    have h2 := sLs_put ih rest xs f (by simp only [List.length_cons] at hf; omega) (fun z hz => hx z (List.mem_cons_of_mem _ hz))
    have hE : Ends (Lib.joinTail [44, 32] (xs.map V.put) ++ 93 :: rest) := fun b r e => by
      cases xs with
      | nil => simp [Lib.joinTail] at e; exact .inr e.1.symm
      | cons y ys => simp [Lib.joinTail] at e; exact .inl e.1.symm
    obtain ⟨b, r, e, hb, _⟩ := put_head (hx x (List.mem_cons_self ..))
    have h3 := ih x _ (hx x (List.mem_cons_self ..)) hE
    rw [List.map_cons, Lib.join_cons, List.append_assoc]
    unfold sLs
    rw [e, List.cons_append] at h3 ⊢
    simp [hb, h3, h2]
theorem sV_put : ∀ (d : Nat) (v : V) (rest : List UInt8), okV d v = true → Ends rest → sV d (v.put ++ rest) = some (v, rest)
  | 0, v, rest, h, _ => by simp [okV] at h
  | d + 1, v, rest, h, he => by
    cases okV_cases h with
    | null => rw [put_vN0, sV_atom he (by simp) (by simp) (by simp) (by simp)]; rfl
    | no => rw [put_no, sV_atom he (by simp) (by simp) (by simp) (by simp)]; rfl
    | yes => rw [put_yes, sV_atom he (by simp) (by simp) (by simp) (by simp)]; rfl
    | num n h0 h1 =>
      by_cases hn : 0 ≤ n
      · obtain ⟨m, rfl⟩ := Int.eq_ofNat_of_zero_le hn
        rw [put_num, itoa_nat]
        have hv := numL_dec (n := m) (by omega)
        have hp := dec_plain m
        obtain ⟨b, r, e, hb⟩ := dec_head m
        rw [e] at hv hp ⊢
        rw [sV_atom he (by simp) hp (by simpa using fig_ne hb rfl) (by simpa using fig_ne hb rfl), sAtom, if_neg (fun h => fig_ne hb (c := 110) rfl (by cases h; rfl)), if_neg (fun h => fig_ne hb (c := 116) rfl (by cases h; rfl)), if_neg (fun h => fig_ne hb (c := 102) rfl (by cases h; rfl))]
        rw [if_neg (fun h => fig_ne hb (c := 35) rfl h.2), if_neg (fun h => fig_ne hb (c := 64) rfl h.2), if_neg (fun h => fig_ne hb (c := 45) rfl h.2), hv]
      · obtain ⟨m, rfl⟩ : ∃ m : Nat, n = -(m : Int) := ⟨n.natAbs, by omega⟩
        rw [put_num, itoa_neg (by omega), sV_atom he (by simp) (cons_plain (by decide) m) (by simp) (by simp)]
        have hv := numL_dec (n := m) (by omega)
        have hp := dec_pos m
        simp [sAtom, hv, hp]
    | text t ht =>
      rw [put_text]
      have := cutAt_app (rest := rest) (text_39 ht)
      simp [sV, this, bytes_eta]
    | list l hl hx =>
      rw [put_list]
      have := sLs_all (sV_put d) rest l 7 (by omega) hx
      have e : rowTxt l ++ rest = 91 :: (Lib.join (l.map V.put) [44, 32] ++ 93 :: rest) := by simp [rowTxt]
      rw [e]
      simp [sV, this]
    | node n hn =>
      rw [put_node, itoa_nat, sV_atom he (by simp) (cons_plain (by decide) n) (by simp) (by simp)]
      have hv := numL_dec (n := n) (by omega)
      have hp := dec_pos n
      simp [sAtom, hv, hp]
    | edge n hn =>
      rw [put_edge, itoa_nat, sV_atom he (by simp) (cons_plain (by decide) n) (by simp) (by simp)]
      have hv := numL_dec (n := n) (by omega)
      have hp := dec_pos n
      simp [sAtom, hv, hp]
def svalGet (l : List UInt8) : Option V := match sV 3 l with
  | some (v, []) => if okV 3 v = true ∧ v.put = l then some v else none
  | _ => none
theorem svalGet_iff {l : List UInt8} {v : V} : svalGet l = some v ↔ okV 3 v = true ∧ v.put = l := by
  unfold svalGet
  constructor
  · intro h
    split at h
    · split at h
      · cases h; assumption
      · cases h
    · cases h
  · rintro ⟨h, rfl⟩
    have := sV_put 3 v [] h Ends.nil
    rw [List.append_nil] at this
    rw [this]
    simp [h]
theorem svalGet_eq (l : List UInt8) : svalGet l = valGet l := opt_ext fun v => by rw [svalGet_iff, valGet_iff]
end Go.Proofs.YtjgnnobfaphkeaaDoor

/- Which texts are names: the program's test, for every text. -/
namespace Go.Proofs.YtjgnnobfaphkeaaDoor
open Go.RowKit
set_option linter.unusedVariables false
set_option linter.unusedSimpArgs false


theorem isFig_calls (c : Nat) (w : World) : Calls Tryd.prog 71 #[.int .u8 c] w (Quiet (fig c) w) := by
  go_enter Tryd.func71, Tryd.ntmps71
  go_wp2 <;> (go_ret; exact ⟨ret_bool (by rw [fig, Bool.eq_iff_iff]; simp [*] <;> omega), rfl⟩)
theorem isLetter_calls (c : Nat) (w : World) : Calls Tryd.prog 82 #[.int .u8 c] w (Quiet (letter c) w) := by
  go_enter Tryd.func82, Tryd.ntmps82
  go_wp2 <;> (go_ret; exact ⟨ret_bool (by rw [letter, Bool.eq_iff_iff]; simp [*] <;> omega), rfl⟩)

set_option maxHeartbeats 1000000 in
theorem nameOk_calls (t : ByteArray) (w : World) (hs : t.size ≤ 9223372036854775807) : Calls Tryd.prog 59 #[.string t] w (Quiet (nameOk t) w) := by
  have IL := Lib.hid isLetter_calls
  have IF := Lib.hid isFig_calls
  by_cases h0 : t.size = 0
  · have hd := empty_true t h0
    have hr : nameOk t = false := by rw [nameOk, shape_long (.inl h0)]; rfl
    have HR := Lib.hid hr
    clear hr h0
    go_enter Tryd.func59, Tryd.ntmps59
    go_wp2
    go_ret
    exact ⟨ret_bool HR.out.symm, rfl⟩
  have hd := empty_false t h0
  by_cases h8 : 8 < t.size
  · have hr : nameOk t = false := by rw [nameOk, shape_long (.inr h8)]; rfl
    have HR := Lib.hid hr
    clear hr
    go_enter Tryd.func59, Tryd.ntmps59
    go_wp2
    go_ret
    exact ⟨ret_bool HR.out.symm, rfl⟩
  have q1 : 0 < t.size := by omega
  have e1 := at_eq t 0 q1
  rcases hl : letter (at_ t 0) with _ | _
  · have hr : nameOk t = false := by rw [nameOk, shape_bad q1 hl (.inr rfl)]; rfl
    have HR := Lib.hid hr
    have HL := Lib.hid hl
    clear hr hl
    go_enter Tryd.func59, Tryd.ntmps59
    go_wp2_with (go_at_call 82; refine (IL.out _ _).mono ?_; rintro e w' ⟨rfl, rfl⟩; rw [HL.out])
    go_ret
    exact ⟨ret_bool HR.out.symm, rfl⟩
  · have HL := Lib.hid hl
    clear hl
    go_enter Tryd.func59, Tryd.ntmps59
    go_wp2_with (go_at_call 82; refine (IL.out _ _).mono ?_; rintro e w' ⟨rfl, rfl⟩; rw [HL.out])
    go_loop [3] (fun i => ∃ k : Nat, 1 ≤ k ∧ k ≤ t.size ∧ i = .int .i64 k ∧ ∀ j, j < k → letter (at_ t j) = true ∨ fig (at_ t j) = true) (fun i => t.size - (intOf i).toNat)
    case atStart => exact ⟨1, by omega, by omega, rfl, fun j hj => .inl (by rw [show j = 0 by omega]; exact HL.out)⟩
    case round =>
      obtain ⟨k, hk1, hk, rfl, hg⟩ := hrel
      have HG := Lib.hid hg
      clear hg e1
      by_cases hlt : k < t.size
      · have e2 := at_eq t k hlt
        rcases hl : letter (at_ t k) with _ | _ <;> rcases hf : fig (at_ t k) with _ | _
        · have hr : nameOk t = false := by rw [nameOk, shape_bad hlt hl (.inl hf)]; rfl
          have HR := Lib.hid hr
          have H2 := Lib.hid hl
          have H3 := Lib.hid hf
          clear hr hl hf
          go_wp2_with (first | (go_at_call 82; refine (IL.out _ _).mono ?_; rintro e w' ⟨rfl, rfl⟩; rw [H2.out]) | (go_at_call 71; refine (IF.out _ _).mono ?_; rintro e w' ⟨rfl, rfl⟩; rw [H3.out]))
          go_ret
          exact ⟨ret_bool HR.out.symm, rfl⟩
        all_goals
          have H2 := Lib.hid hl
          have H3 := Lib.hid hf
          clear hl hf
          go_wp2_with (first | (go_at_call 82; refine (IL.out _ _).mono ?_; rintro e w' ⟨rfl, rfl⟩; rw [H2.out]) | (go_at_call 71; refine (IF.out _ _).mono ?_; rintro e w' ⟨rfl, rfl⟩; rw [H3.out]))
          go_round
          case rel => exact ⟨k + 1, by omega, by omega, by go_num, fun j hj => by rcases Nat.lt_succ_iff_lt_or_eq.1 hj with hj | rfl; exact HG.out j hj; first | exact .inl H2.out | exact .inr H3.out⟩
          case measure => simp [intOf]; omega
      · have hsh := shape_good q1 (by omega) HL.out (fun j hj => HG.out j (by omega))
        have HS := Lib.hid hsh
        clear hsh
        go_wp2
        all_goals
          go_ret
          go_light
          have hsh := HS.out
          refine ⟨ret_bool ?_, rfl⟩
          first | (simp [nameOk, hsh, kept, words, *]; done) | (exfalso; simp_all; done)
end Go.Proofs.YtjgnnobfaphkeaaDoor

/- The program's figuresAt: the number that stands at a place. For every text of at most 2^61 bytes. -/
namespace Go.Proofs.YtjgnnobfaphkeaaDoor
open Go.RowKit
set_option linter.unusedVariables false
set_option linter.unusedSimpArgs false

/-- a number and where it ends -/
def GotF (o : Option (Nat × List UInt8)) (t : ByteArray) (w : World) (e : Ending) (w' : World) : Prop :=
  (o = none ∧ e = .returned (.tuple #[.int .i64 0, .int .i64 (-1)]) ∧ w = w') ∨ ∃ (k z : Nat), o = some (k, t.data.toList.drop z) ∧ k ≤ 10000000000 ∧ z ≤ t.size ∧ e = .returned (.tuple #[.int .i64 k, .int .i64 z]) ∧ w = w'
theorem figsGo_in {t : ByteArray} {i k m : Nat} (h : i < t.size) (hf : fig (at_ t i) = true) (hk : k ≠ 10) : figsGo k m (t.data.toList.drop i) = figsGo (k + 1) (m * 10 + (at_ t i - 48)) (t.data.toList.drop (i + 1)) := by
  rw [drop_at h, figsGo, at_eq t i h, if_pos hf, if_neg hk]
theorem figsGo_ten {t : ByteArray} {i m : Nat} (h : i < t.size) (hf : fig (at_ t i) = true) : figsGo 10 m (t.data.toList.drop i) = none := by
  rw [drop_at h, figsGo, at_eq t i h, if_pos hf, if_pos rfl]
theorem figsGo_end {t : ByteArray} {i k m : Nat} (h : ¬ (i < t.size ∧ fig (at_ t i) = true)) (hi : i ≤ t.size) : figsGo k m (t.data.toList.drop i) = if k = 0 then none else some (m, t.data.toList.drop i) := by
  by_cases hl : i < t.size
  · have hf : ¬ fig (at_ t i) = true := fun hf => h ⟨hl, hf⟩
    rw [drop_at hl, figsGo, at_eq t i hl, if_neg hf]
  · obtain rfl : i = t.size := by omega
    rw [List.drop_of_length_le (by rw [← Lib.size_eq]; exact Nat.le_refl _), figsGo]
theorem drop_len (t : ByteArray) (i : Nat) : (t.data.toList.drop i).length = t.size - i := by rw [List.length_drop, ← Lib.size_eq]
set_option maxHeartbeats 1000000 in
theorem figuresAt_calls (t : ByteArray) (a : Nat) (w : World) (ha : a ≤ t.size) (ht : t.size ≤ 2305843009213693952) :
    Calls Tryd.prog 48 #[.string t, .int .i64 a] w (GotF (figs (t.data.toList.drop a)) t w) := by
  have IF := Lib.hid isFig_calls
  obtain ⟨o, ho⟩ : ∃ o, o = figs (t.data.toList.drop a) := ⟨_, rfl⟩
  rw [← ho]
  have HO := Lib.hid ho
  clear ho
  go_enter Tryd.func48, Tryd.ntmps48
  go_wp2
  go_loopg [6, 7] (t.size + 1 - a) (fun g x n wr => ∃ e m : Nat, a ≤ e ∧ e ≤ t.size ∧ e - a ≤ 10 ∧ x = .int .i64 e ∧ n = .int .i64 m ∧ g = t.size + 1 - e ∧ m < 10 ^ (e - a) ∧ o = figsGo (e - a) m (t.data.toList.drop e) ∧ w = wr)
  case atStart => exact ⟨a, 0, by omega, by omega, by omega, rfl, rfl, rfl, by simp, by rw [Nat.sub_self]; exact HO.out, rfl⟩
  case round =>
    obtain ⟨e, m, hae, hk, h10, rfl, rfl, hg, hm, hs, rfl⟩ := hrel
    have HG := Lib.hid hg
    have HS := Lib.hid hs
    have HM := Lib.hid hm
    have hm' : m ≤ 10000000000 := by
      have : 10 ^ (e - a) ≤ 10 ^ 10 := Nat.pow_le_pow_right (by omega) h10
      omega
    clear hg hs hm
    by_cases hf : e < t.size ∧ fig (at_ t e) = true
    · obtain ⟨hlt, hf⟩ := hf
      have e1 := at_eq t e hlt
      have e2 := at_lt t e
      have HF := Lib.hid hf
      have hf' := hf
      simp only [fig, Bool.and_eq_true, decide_eq_true_eq] at hf'
      obtain ⟨f0, f1⟩ := hf'
      by_cases h10' : e - a = 10
      · have q1 : ((e : Int) - (a : Int) == 10) = true := by rw [beq_iff_eq]; omega
        have HT := Lib.hid h10'
        clear h10' hf
        go_wp2_with (go_at_call 71; refine (IF.out _ _).mono ?_; rintro e w' ⟨rfl, rfl⟩; rw [HF.out])
        go_ret2
        exact .inl ⟨by rw [HS.out, HT.out, figsGo_ten hlt HF.out], rfl, rfl⟩
      · have q1 : ((e : Int) - (a : Int) == 10) = false := by rw [beq_eq_false_iff_ne]; omega
        clear hf
        go_wp2_with (go_at_call 71; refine (IF.out _ _).mono ?_; rintro e w' ⟨rfl, rfl⟩; rw [HF.out])
        go_roundg (gk - 1)
        case rel => exact ⟨e + 1, m * 10 + (at_ t e - 48), by omega, by omega, by omega, by go_num, by congr 1; omega, by have := HG.out; omega, by rw [show e + 1 - a = (e - a) + 1 by omega, Nat.pow_succ]; have := HM.out; omega, by rw [HS.out, figsGo_in hlt HF.out h10', show e + 1 - a = (e - a) + 1 by omega], rfl⟩
        case measure => have := HG.out; omega
    · have HE := Lib.hid (figsGo_end (k := e - a) (m := m) hf hk)
      have c1 : (e < t.size ∧ fig (at_ t e) = false) ∨ ¬ e < t.size := by
        by_cases hl : e < t.size
        · exact .inl ⟨hl, by rw [Bool.eq_false_iff]; exact fun h => hf ⟨hl, h⟩⟩
        · exact .inr hl
      clear hf
      by_cases h0 : e = a
      · have q1 : ((e : Int) == (a : Int)) = true := by rw [beq_iff_eq]; omega
        have H0 := Lib.hid h0
        clear h0
        rcases c1 with ⟨hl, hf⟩ | hl
        · have e1 := at_eq t e hl
          have HF := Lib.hid hf
          clear hf
          go_wp2_with (go_at_call 71; refine (IF.out _ _).mono ?_; rintro e w' ⟨rfl, rfl⟩; rw [HF.out])
          go_ret2
          exact .inl ⟨by rw [HS.out, HE.out, if_pos (by have := H0.out; omega)], rfl, rfl⟩
        · go_wp2_with (fail)
          go_ret2
          exact .inl ⟨by rw [HS.out, HE.out, if_pos (by have := H0.out; omega)], rfl, rfl⟩
      · have q1 : ((e : Int) == (a : Int)) = false := by rw [beq_eq_false_iff_ne]; omega
        rcases c1 with ⟨hl, hf⟩ | hl
        · have e1 := at_eq t e hl
          have HF := Lib.hid hf
          clear hf
          go_wp2_with (go_at_call 71; refine (IF.out _ _).mono ?_; rintro e w' ⟨rfl, rfl⟩; rw [HF.out])
          go_ret2
          exact .inr ⟨m, e, by rw [HS.out, HE.out, if_neg (by omega)], hm', hk, rfl, rfl⟩
        · go_wp2_with (fail)
          go_ret2
          exact .inr ⟨m, e, by rw [HS.out, HE.out, if_neg (by omega)], hm', hk, rfl, rfl⟩
end Go.Proofs.YtjgnnobfaphkeaaDoor

/- A number in decimals: the reference's l1Dec writes what strconv.Itoa writes. For every int. A value's text, as a plain function; how long it is. For every value. The reading of values, as plain functions: how the program reads one and how the reference does; each finds a value again in its text, so both find the same. No condition. The reading of values as the reference does it, as plain functions: it finds a value again in its text, so it finds what the program finds. No condition. Which texts are names, as a plain function. -/
import Derived.Test.YtlmonnhgjnjniaaDoorMLawReply0
import Derived.Lib.ItoaNum
import Derived.Lib.ItoaLen
import Derived.Lib.ConvBytes
import Derived.Lib.Join
/- A number in decimals: the reference's l1Dec writes what strconv.Itoa writes. For every int. -/
namespace Go.Proofs.YtlmonnhgjnjniaaDoor
open Go.RowKit
set_option linter.unusedVariables false

/-- string([]byte{x}) -/
theorem one_byte (W : World) (g : Nat) (x : Int) (h : W.cell? ⟨g, 0, none⟩ = some (.int .u8 x)) :
    (convert 31 9 (.slice (some ⟨g, 0, none⟩) 1 1)).run Tryd.prog W = .ok (.string ⟨#[UInt8.ofNat x.toNat]⟩) W := by
  refine (run_convert_bytes_arg W 31 5 Tryd.underlying31 Tryd.underlying5 g 0 1 1 [x] rfl (fun i hi => ?_) 9 Tryd.underlying9).trans rfl
  obtain rfl : i = 0 := by simpa using hi
  exact h
theorem dec_big {n : Nat} (h : ¬ n < 10) : Lib.decDigits n = Lib.decDigits (n / 10) ++ [UInt8.ofNat (48 + n % 10)] := by rw [Lib.decDigits, dif_neg h]
theorem dec_small {n : Nat} (h : n < 10) : Lib.decDigits n = [UInt8.ofNat (48 + n)] := by rw [Lib.decDigits, dif_pos h]
theorem dec_len (n : Nat) (h : n < 18446744073709551616) : (Lib.decDigits n).length ≤ 20 := by rw [Lib.decDigits_length]; exact Lib.nDigits_le20 n h
theorem bytes_app (l m : List UInt8) : (⟨l.toArray⟩ : ByteArray) ++ ⟨m.toArray⟩ = ⟨(l ++ m).toArray⟩ := by
  apply ByteArray.ext
  simp [ByteArray.data_append]
theorem dec_join {n : Nat} (h : ¬ n < 10) : (⟨(Lib.decDigits (n / 10)).toArray⟩ : ByteArray) ++ ⟨#[48 + UInt8.ofNat (n % 10)]⟩ = ⟨(Lib.decDigits n).toArray⟩ := by
  rw [dec_big h, ← bytes_app]
  simp [UInt8.ofNat_add]
set_option maxRecDepth 20000 in
theorem l1Dec_nat (n : Nat) : ∀ (w : World), n ≤ 9223372036854775807 →
    Calls Tryd.prog 48 #[.int .i64 n] w (Str (Lib.decDigits n) w) := by
  induction n using Nat.strongRecOn with
  | _ n ih =>
  intro w hn
  have HN := Lib.hid hn
  clear hn
  have b0 : decide ((n : Int) < -9223372036854775807) = false := by rw [decide_eq_false_iff_not]; omega
  have b1 : decide ((n : Int) < 0) = false := by rw [decide_eq_false_iff_not]; omega
  have kc := one_byte
  by_cases h : n < 10
  · go_enter Tryd.func48, Tryd.ntmps48
    go_wp2
    go_ret
    exact ⟨by rw [dec_small h]; rfl, (Keep.refl _ _).alloc _⟩
  · have IH := Lib.hid fun w => ih (n / 10) (by omega) w (by have := HN.out; omega)
    clear ih
    go_enter Tryd.func48, Tryd.ntmps48
    go_wp2
    have q1 : IntKind.i64.wrap ((n : Int) / 10) = ((n / 10 : Nat) : Int) := by have := HN.out; rw [IntWalk.i64_in _ ⟨by omega, by omega⟩]; omega
    have q2 : IntKind.u8.wrap (IntKind.i64.wrap (48 + (n : Int).tmod 10)) = ((48 + n % 10 : Nat) : Int) := by
      rw [Int.tmod_eq_emod_of_nonneg (by omega), IntWalk.i64_in _ ⟨by omega, by omega⟩, IntWalk.u8_in _ ⟨by omega, by omega⟩]; omega
    have hl := dec_len (n / 10) (by have := HN.out; omega)
    go_region_with (go_at_call 48; refine (IH.out _).mono ?_; rintro e w' ⟨rfl, hK⟩; obtain ⟨hc, hf⟩ := hK.cells)
    all_goals clear q1 q2
    all_goals go_wp2
    all_goals
      go_ret
      exact ⟨congrArg (fun s => Ending.returned (.string s)) (dec_join h), by first | exact ((Keep.refl _ _).drew.trans hK).alloc _ | exact ((Keep.refl _ _).alloc _).drew.trans hK⟩

theorem min_dec : Lib.itoa (-9223372036854775808) = [45, 57, 50, 50, 51, 51, 55, 50, 48, 51, 54, 56, 53, 52, 55, 55, 53, 56, 48, 56] := by
  simp [Lib.itoa, Lib.decDigits]
set_option maxRecDepth 20000 in
/-- For every int. -/
theorem l1Dec_calls (n : Int) (w : World) (h0 : -9223372036854775808 ≤ n) (h1 : n ≤ 9223372036854775807) :
    Calls Tryd.prog 48 #[.int .i64 n] w (Str (Lib.itoa n) w) := by
  by_cases h : 0 ≤ n
  · obtain ⟨m, rfl⟩ := Int.eq_ofNat_of_zero_le h
    have := l1Dec_nat m w (by omega)
    rwa [show Lib.itoa (m : Int) = Lib.decDigits m by simp only [Lib.itoa]; rw [if_neg (by omega)]; simp]
  · by_cases hm : n < -9223372036854775807
    · obtain rfl : n = -9223372036854775808 := by omega
      rw [min_dec]
      go_enter Tryd.func48, Tryd.ntmps48
      go_wp2
      go_ret
      exact ⟨rfl, Keep.refl _ _⟩
    · obtain ⟨m, rfl⟩ : ∃ m : Nat, n = -(m : Int) := ⟨n.natAbs, by omega⟩
      have IH := Lib.hid fun w => l1Dec_nat m w (by omega)
      have hl := dec_len m (by omega)
      have he : Lib.itoa (-(m : Int)) = 45 :: Lib.decDigits m := by simp only [Lib.itoa]; rw [if_pos (by omega), show (-(m : Int)).natAbs = m by omega]
      have HE := Lib.hid he
      have b0 : decide (-(m : Int) < -9223372036854775807) = false := by rw [decide_eq_false_iff_not]; omega
      have b1 : decide (-(m : Int) < 0) = true := by rw [decide_eq_true_iff]; omega
      have b2 : decide (9223372036854775807 < (m : Int)) = false := by rw [decide_eq_false_iff_not]; omega
      have b3 : decide (0 < (m : Int)) = true := by rw [decide_eq_true_iff]; omega
      have q1 : IntKind.i64.wrap (m : Int) = (m : Int) := IntWalk.i64_in _ ⟨by omega, by omega⟩
      have q2 : IntKind.i64.wrap (- -(m : Int)) = (m : Int) := by rw [Int.neg_neg]; exact q1
      have b4 : 0 < m := by omega
      clear he h0 h1 h hm
      go_enter Tryd.func48, Tryd.ntmps48
      go_wp2_with (go_at_call 48; refine (IH.out _).mono ?_; rintro e w' ⟨rfl, hK⟩)
      all_goals
        go_ret
        exact ⟨congrArg (fun s => Ending.returned (.string s)) (by rw [HE.out]; exact bytes_app [45] _), hK⟩
end Go.Proofs.YtlmonnhgjnjniaaDoor

/- A value's text, as a plain function; how long it is. For every value. -/
namespace Go.Proofs.YtlmonnhgjnjniaaDoor
set_option linter.unusedVariables false
mutual
def V.put : V → List UInt8
  | ⟨k, n, t, l⟩ => if k = 1 then (if n = 1 then [116, 114, 117, 101] else [102, 97, 108, 115, 101]) else if k = 2 then Lib.itoa n else if k = 3 then 39 :: (t.data.toList ++ [39])
    else if k = 4 then 91 :: (Lib.join (V.putL l) [44, 32] ++ [93]) else if k = 5 then 35 :: Lib.itoa n else if k = 6 then 64 :: Lib.itoa n else [110, 117, 108, 108]
def V.putL : List V → List (List UInt8)
  | [] => []
  | x :: l => V.put x :: V.putL l
end
theorem V.putL_map : ∀ l : List V, V.putL l = l.map V.put
  | [] => by rw [V.putL]; rfl
  | x :: l => by rw [V.putL, V.putL_map l]; rfl
def rowTxt (l : List V) : List UInt8 := 91 :: (Lib.join (l.map V.put) [44, 32] ++ [93])
theorem put_list (n : Int) (t : ByteArray) (l : List V) : V.put ⟨4, n, t, l⟩ = rowTxt l := by rw [V.put, V.putL_map]; rfl
theorem join_snoc (xs : List (List UInt8)) (x sep : List UInt8) : Lib.join (xs ++ [x]) sep = if xs = [] then x else Lib.join xs sep ++ sep ++ x := by
  cases xs with
  | nil => simp [Lib.join_one]
  | cons y r => simp [Lib.join_cons, Lib.joinTail]
theorem joinTail_len (b : Nat) : ∀ (xs : List (List UInt8)), (∀ x, x ∈ xs → x.length ≤ b) → (Lib.joinTail [44, 32] xs).length ≤ xs.length * (b + 2)
  | [], _ => by simp [Lib.joinTail]
  | x :: r, h => by
    have := joinTail_len b r fun y hy => h y (List.mem_cons_of_mem _ hy)
    have h0 := h x (List.mem_cons_self ..)
    have e : Lib.joinTail [44, 32] (x :: r) = [44, 32] ++ x ++ Lib.joinTail [44, 32] r := by simp [Lib.joinTail]
    rw [e]
    simp only [List.length_append, List.length_cons, List.length_nil, Nat.add_mul] at *
    omega
theorem join_len (b : Nat) (xs : List (List UInt8)) (h : ∀ x, x ∈ xs → x.length ≤ b) : (Lib.join xs [44, 32]).length ≤ xs.length * (b + 2) := by
  cases xs with
  | nil => simp [Lib.join_nil]
  | cons x r =>
    rw [Lib.join_cons]
    have := joinTail_len b r fun y hy => h y (List.mem_cons_of_mem _ hy)
    have h0 := h x (List.mem_cons_self ..)
    simp only [List.length_append, List.length_cons, Nat.add_mul] at *
    omega
theorem itoa_len2 (n : Int) (h0 : -1000000000 ≤ n) (h1 : n ≤ 1000000000) : (Lib.itoa n).length ≤ 21 := by
  simp only [Lib.itoa]
  have := dec_len n.natAbs (by omega)
  have := dec_len n.toNat (by omega)
  split <;> simp <;> omega
theorem okV_list {d : Nat} {n : Int} {t : ByteArray} {l : List V} (h : okV (d + 1) ⟨4, n, t, l⟩ = true) : l.length ≤ 6 ∧ ∀ x, x ∈ l → okV d x = true := by
  simp [okV] at h
  exact ⟨by omega, h.2⟩
theorem okV_num {d : Nat} {v : V} (h : okV d v = true) : -1000000000 ≤ v.num ∧ v.num ≤ 1000000000 := by
  cases d with
  | zero => simp [okV] at h
  | succ d =>
    obtain ⟨k, n, t, l⟩ := v
    simp only [okV] at h
    (repeat' split at h) <;> simp at h <;> simp only <;> omega
theorem okV_text {d : Nat} {v : V} (h : okV d v = true) (hk : v.kind = 3) : v.text.size ≤ 16 := by
  cases d with
  | zero => simp [okV] at h
  | succ d =>
    obtain ⟨k, n, t, l⟩ := v
    simp only at hk
    subst hk
    simp [okV, textOk] at h
    exact h.1.2.1
theorem rowTxt_len {b : Nat} {l : List V} (h : ∀ x, x ∈ l → x.put.length ≤ b) : (rowTxt l).length ≤ l.length * (b + 2) + 2 := by
  have := join_len b (l.map V.put) fun x hx => by obtain ⟨y, hy, rfl⟩ := List.mem_map.1 hx; exact h y hy
  simp only [rowTxt, List.length_cons, List.length_append, List.length_map, List.length_nil] at *
  omega
theorem put_len : ∀ (d : Nat) (v : V), okV d v = true → v.put.length ≤ 100 ^ d
  | 0, v, h => by simp [okV] at h
  | d + 1, v, h => by
    have hn := okV_num h
    have ht := okV_text h
    have hp : 1 ≤ 100 ^ d := Nat.one_le_pow _ _ (by omega)
    rw [Nat.pow_succ]
    obtain ⟨k, n, t, l⟩ := v
    by_cases h4 : k = 4
    · subst h4
      obtain ⟨hl, ha⟩ := okV_list h
      rw [put_list]
      have := rowTxt_len fun x hx => put_len d x (ha x hx)
      have : l.length * (100 ^ d + 2) ≤ 6 * (100 ^ d + 2) := Nat.mul_le_mul_right _ hl
      omega
    · have hi := itoa_len2 n hn.1 hn.2
      have ht : k = 3 → t.size ≤ 16 := ht
      simp only [Lib.size_eq] at ht
      rw [V.put]
      rw [if_neg h4]
      (repeat' split) <;> (try simp only [List.length_cons, List.length_append, List.length_nil]) <;> (try have := ht ‹_›) <;> omega
theorem put_len3 {d : Nat} {v : V} (h : okV d v = true) (hd : d ≤ 3) : v.put.length ≤ 1000000 :=
  Nat.le_trans (put_len d v h) (by calc 100 ^ d ≤ 100 ^ 3 := Nat.pow_le_pow_right (by omega) hd
                                       _ = 1000000 := rfl)
/-- The list's text up to the k-th value. -/
def outV (l : List V) (k : Nat) : List UInt8 := 91 :: Lib.join ((l.take k).map V.put) [44, 32]
theorem outV_succ {l : List V} {k : Nat} {x : V} (h : l[k]? = some x) : outV l (k + 1) = if k = 0 then 91 :: x.put else outV l k ++ [44, 32] ++ x.put := by
  have hk : k < l.length := (List.getElem?_eq_some_iff.1 h).1
  have e : l.take (k + 1) = l.take k ++ [x] := by rw [List.take_add_one, h]; rfl
  rw [outV, outV, e, List.map_append, List.map_cons, List.map_nil, join_snoc]
  by_cases h0 : k = 0
  · subst h0; simp
  · rw [if_neg (by intro hn; have := congrArg List.length hn; rw [List.length_map, List.length_take, List.length_nil] at this; omega), if_neg h0]
    simp
theorem outV_all (l : List V) : outV l l.length ++ [93] = rowTxt l := by rw [outV, List.take_length]; rfl
theorem outV_len {b : Nat} {l : List V} {k : Nat} (h : ∀ x, x ∈ l → x.put.length ≤ b) (hl : l.length ≤ 6) : (outV l k).length ≤ 6 * (b + 2) + 1 := by
  have := join_len b ((l.take k).map V.put) fun x hx => by obtain ⟨y, hy, rfl⟩ := List.mem_map.1 hx; exact h y (List.mem_of_mem_take hy)
  have hk : ((l.take k).map V.put).length ≤ 6 := by simp; omega
  have : ((l.take k).map V.put).length * (b + 2) ≤ 6 * (b + 2) := Nat.mul_le_mul_right _ hk
  simp only [outV, List.length_cons]
  omega
end Go.Proofs.YtlmonnhgjnjniaaDoor

/- The reading of values, as plain functions: how the program reads one and how the reference does; each finds a value again in its text, so both find the same. No condition. -/
namespace Go.Proofs.YtlmonnhgjnjniaaDoor
open Go.RowKit
set_option linter.unusedVariables false
set_option linter.unusedSimpArgs false

/-! figures -/
def figsGo : Nat → Nat → List UInt8 → Option (Nat × List UInt8)
  | k, n, [] => if k = 0 then none else some (n, [])
  | k, n, b :: r => if fig b.toNat then (if k = 10 then none else figsGo (k + 1) (n * 10 + (b.toNat - 48)) r) else if k = 0 then none else some (n, b :: r)
abbrev figs (l : List UInt8) : Option (Nat × List UInt8) := figsGo 0 0 l
/-- what stands behind a number begins with no figure -/
def NoFig (l : List UInt8) : Prop := ∀ b r, l = b :: r → fig b.toNat = false
def digVal (m : Nat) (l : List UInt8) : Nat := l.foldl (fun a b => a * 10 + (b.toNat - 48)) m
theorem figsGo_all (rest : List UInt8) (hr : NoFig rest) : ∀ (ds : List UInt8) (k n : Nat), (∀ b, b ∈ ds → fig b.toNat = true) → 0 < k + ds.length → k + ds.length ≤ 10 → figsGo k n (ds ++ rest) = some (digVal n ds, rest)
  | [], k, n, _, h0, _ => by
    have hk : k ≠ 0 := by simpa using Nat.pos_iff_ne_zero.1 h0
    cases rest with
    | nil => simp [figsGo, hk, digVal]
    | cons b r => simp [figsGo, hr b r rfl, hk, digVal]
  | b :: ds, k, n, h, h0, h1 => by
    have hb := h b (List.mem_cons_self ..)
    have hk : k ≠ 10 := by simp only [List.length_cons] at h1; omega
    rw [List.cons_append, figsGo, if_pos hb, if_neg hk, figsGo_all rest hr ds (k + 1) _ (fun c hc => h c (List.mem_cons_of_mem _ hc)) (by omega) (by simp only [List.length_cons] at h1; omega)]
    rfl
theorem fig_dig {x : Nat} (h : x < 10) : fig (UInt8.ofNat (48 + x)).toNat = true := by
  simp only [UInt8.toNat_ofNat', fig]; simp; omega
theorem dec_figs (n : Nat) : ∀ b, b ∈ Lib.decDigits n → fig b.toNat = true := by
  induction n using Nat.strongRecOn with
  | _ n ih =>
    intro b hb
    by_cases h : n < 10
    · rw [dec_small h, List.mem_singleton] at hb
      subst hb
      exact fig_dig h
    · rw [dec_big h, List.mem_append, List.mem_singleton] at hb
      rcases hb with hb | rfl
      · exact ih (n / 10) (by omega) b hb
      · exact fig_dig (Nat.mod_lt _ (by omega))
theorem dec_val (n : Nat) : digVal 0 (Lib.decDigits n) = n := by
  induction n using Nat.strongRecOn with
  | _ n ih =>
    by_cases h : n < 10
    · rw [dec_small h]
      simp only [digVal, List.foldl_cons, List.foldl_nil, UInt8.toNat_ofNat']; omega
    · rw [dec_big h, digVal, List.foldl_append]
      have := ih (n / 10) (by omega)
      rw [digVal] at this
      rw [this]
      simp only [List.foldl_cons, List.foldl_nil, UInt8.toNat_ofNat']; omega
theorem dec_pos (n : Nat) : 0 < (Lib.decDigits n).length := by
  by_cases h : n < 10
  · rw [dec_small h]; simp
  · rw [dec_big h]; simp
theorem dec_length (k : Nat) : ∀ n, n < 10 ^ (k + 1) → (Lib.decDigits n).length ≤ k + 1 := by
  induction k with
  | zero => intro n h; rw [dec_small (by simpa using h)]; simp
  | succ k ih =>
    intro n h
    by_cases hn : n < 10
    · rw [dec_small hn]; simp
    · rw [dec_big hn, List.length_append, List.length_singleton]
      have := ih (n / 10) (by rw [Nat.pow_succ] at h; omega)
      omega
theorem dec_len10 {n : Nat} (h : n < 10000000000) : (Lib.decDigits n).length ≤ 10 := dec_length 9 n (by omega)
theorem figs_dec {n : Nat} {rest : List UInt8} (h : n < 10000000000) (hr : NoFig rest) : figs (Lib.decDigits n ++ rest) = some (n, rest) := by
  rw [figs, figsGo_all rest hr _ 0 0 (dec_figs n) (by have := dec_pos n; omega) (by have := dec_len10 h; omega), dec_val]

/-! a text up to a byte -/
def cutAt (b : UInt8) : List UInt8 → Option (List UInt8 × List UInt8)
  | [] => none
  | x :: r => if x = b then some ([], r) else (cutAt b r).map fun p => (x :: p.1, p.2)
theorem cutAt_app {b : UInt8} {rest : List UInt8} : ∀ {l : List UInt8}, b ∉ l → cutAt b (l ++ b :: rest) = some (l, rest)
  | [], _ => by simp [cutAt]
  | x :: l, h => by
    rw [List.cons_append, cutAt, if_neg (fun e => h (by rw [e]; exact List.mem_cons_self ..)), cutAt_app (fun hm => h (List.mem_cons_of_mem _ hm))]
    rfl
theorem cutAt_none {b : UInt8} : ∀ {l : List UInt8}, b ∉ l → cutAt b l = none
  | [], _ => rfl
  | x :: l, h => by
    rw [cutAt, if_neg (fun e => h (by rw [e]; exact List.mem_cons_self ..)), cutAt_none (fun hm => h (List.mem_cons_of_mem _ hm))]
    rfl
theorem cutAt_some {b : UInt8} : ∀ {l x r : List UInt8}, cutAt b l = some (x, r) → l = x ++ b :: r ∧ b ∉ x
  | [], _, _, h => by cases h
  | y :: l, x, r, h => by
    rw [cutAt] at h
    split at h
    · rename_i e
      cases h
      subst e
      exact ⟨rfl, by simp⟩
    · rename_i e
      obtain ⟨⟨x', r'⟩, h1, h2⟩ := Option.map_eq_some_iff.1 h
      cases h2
      obtain ⟨rfl, hn⟩ := cutAt_some h1
      exact ⟨rfl, by simp only [List.mem_cons, not_or]; exact ⟨fun h => e h.symm, hn⟩⟩
abbrev hasP (p l : List UInt8) : Bool := p.isPrefixOf l

/-! the program's reading -/
def vN (k n : Int) : V := ⟨k, n, ⟨#[]⟩, []⟩
def rdVs (rd : List UInt8 → Option (V × List UInt8)) : Nat → List UInt8 → Option (List V × List UInt8)
  | 0, _ => none
  | f + 1, l => match rd l with
    | none => none
    | some (v, r) => if hasP [93] r then some ([v], r.drop 1) else if hasP [44, 32] r then (rdVs rd f (r.drop 2)).map fun p => (v :: p.1, p.2) else none
def rdL (rd : List UInt8 → Option (V × List UInt8)) (most : Nat) (l : List UInt8) : Option (List V × List UInt8) :=
  if hasP [91] l then (if hasP [93] (l.drop 1) then some ([], l.drop 2) else rdVs rd most (l.drop 1)) else none
def rdV : Nat → List UInt8 → Option (V × List UInt8)
  | 0, _ => none
  | d + 1, l =>
    if l = [] then none
    else if hasP [110, 117, 108, 108] l then some (vN 0 0, l.drop 4)
    else if hasP [116, 114, 117, 101] l then some (vN 1 1, l.drop 4)
    else if hasP [102, 97, 108, 115, 101] l then some (vN 1 0, l.drop 5)
    else if l.headD 0 = 39 then (cutAt 39 (l.drop 1)).map fun p => (⟨3, 0, ⟨p.1.toArray⟩, []⟩, p.2)
    else if l.headD 0 = 91 then (rdL (rdV d) 6 l).map fun p => (⟨4, 0, ⟨#[]⟩, p.1⟩, p.2)
    else if l.headD 0 = 35 then (figs (l.drop 1)).map fun p => (vN 5 p.1, p.2)
    else if l.headD 0 = 64 then (figs (l.drop 1)).map fun p => (vN 6 p.1, p.2)
    else if l.headD 0 = 45 then (figs (l.drop 1)).map fun p => (vN 2 (-(p.1 : Int)), p.2)
    else (figs l).map fun p => (vN 2 p.1, p.2)

/-! what a value that is ok looks like -/
theorem empty_eq {t : ByteArray} (h : (t.toList == ([] : List UInt8)) = true) : t = ⟨#[]⟩ := by
  have h : t.toList = [] := by simpa using h
  rw [ByteArray.toList_eq] at h
  exact ByteArray.ext (Array.ext' h)
theorem bare_eq {k n : Int} {t : ByteArray} {l : List V} (h : (V.mk k n t l).bare = true) : t = ⟨#[]⟩ ∧ l = [] := by
  simp only [V.bare, Bool.and_eq_true] at h
  exact ⟨empty_eq h.1, by simpa using h.2⟩
/-- One of the seven kinds. -/
inductive OkS (d : Nat) : V → Prop where
  | null : OkS d (vN 0 0)
  | no : OkS d (vN 1 0)
  | yes : OkS d (vN 1 1)
  | num (n : Int) (h0 : -1000000000 ≤ n) (h1 : n ≤ 1000000000) : OkS d (vN 2 n)
  | text (t : ByteArray) (h : textOk t = true) : OkS d ⟨3, 0, t, []⟩
  | list (l : List V) (hl : l.length ≤ 6) (h : ∀ x, x ∈ l → okV d x = true) : OkS d ⟨4, 0, ⟨#[]⟩, l⟩
  | node (n : Nat) (h : n ≤ 1000000000) : OkS d (vN 5 n)
  | edge (n : Nat) (h : n ≤ 1000000000) : OkS d (vN 6 n)
theorem okV_cases {d : Nat} {v : V} (h : okV (d + 1) v = true) : OkS d v := by
  obtain ⟨k, n, t, l⟩ := v
  simp only [okV] at h
  split at h
  · rename_i e; subst e
    rw [Bool.and_eq_true] at h
    obtain ⟨rfl, rfl⟩ := bare_eq h.2
    obtain rfl : n = 0 := by simpa using h.1
    exact .null
  split at h
  · rename_i e; subst e
    rw [Bool.and_eq_true] at h
    obtain ⟨rfl, rfl⟩ := bare_eq h.2
    have : n = 0 ∨ n = 1 := by simpa using h.1
    rcases this with rfl | rfl
    · exact .no
    · exact .yes
  split at h
  · rename_i e; subst e
    rw [Bool.and_eq_true, Bool.and_eq_true] at h
    obtain ⟨rfl, rfl⟩ := bare_eq h.2
    exact .num n (by simpa using h.1.1) (by simpa using h.1.2)
  split at h
  · rename_i e; subst e
    rw [Bool.and_eq_true, Bool.and_eq_true] at h
    obtain rfl : n = 0 := by simpa using h.1.1
    obtain rfl : l = [] := by simpa using h.2
    exact .text t h.1.2
  split at h
  · rename_i e; subst e
    rw [Bool.and_eq_true, Bool.and_eq_true, Bool.and_eq_true] at h
    obtain rfl : n = 0 := by simpa using h.1.1.1
    obtain rfl := empty_eq h.1.1.2
    exact .list l (by have := h.1.2; simp at this; omega) (by simpa using h.2)
  split at h
  · rename_i e
    rw [Bool.and_eq_true, Bool.and_eq_true] at h
    obtain ⟨rfl, rfl⟩ := bare_eq h.2
    have h0 : 0 ≤ n := by simpa using h.1.1
    have h1 : n ≤ 1000000000 := by simpa using h.1.2
    obtain ⟨m, rfl⟩ := Int.eq_ofNat_of_zero_le h0
    rcases e with rfl | rfl
    · exact .node m (by omega)
    · exact .edge m (by omega)
  · cases h
/-- what may stand behind a value -/
def Ends (l : List UInt8) : Prop := ∀ b r, l = b :: r → b = 44 ∨ b = 93
theorem Ends.noFig {l : List UInt8} (h : Ends l) : NoFig l := fun b r e => by rcases h b r e with rfl | rfl <;> rfl
theorem Ends.nil : Ends [] := fun _ _ e => by cases e
theorem text_no {t : ByteArray} (h : textOk t = true) : ∀ b, b ∈ t.data.toList → 32 ≤ b.toNat ∧ b.toNat ≤ 126 ∧ b.toNat ≠ 39 := by
  simp only [textOk, Bool.and_eq_true] at h
  intro b hb
  have := List.all_eq_true.1 h.2 b hb
  simp at this
  omega
theorem text_39 {t : ByteArray} (h : textOk t = true) : (39 : UInt8) ∉ t.data.toList := fun hm => (text_no h 39 hm).2.2 rfl
theorem bytes_eta (t : ByteArray) : (⟨t.data.toList.toArray⟩ : ByteArray) = t := by cases t; simp
theorem itoa_nat (n : Nat) : Lib.itoa (n : Int) = Lib.decDigits n := by simp only [Lib.itoa]; rw [if_neg (by omega)]; simp
theorem itoa_neg {n : Nat} (h : 0 < n) : Lib.itoa (-(n : Int)) = 45 :: Lib.decDigits n := by
  simp only [Lib.itoa]; rw [if_pos (by omega), show (-(n : Int)).natAbs = n by omega]
theorem put_vN0 : (vN 0 0).put = [110, 117, 108, 108] := by simp [vN, V.put]
theorem put_yes : (vN 1 1).put = [116, 114, 117, 101] := by simp [vN, V.put]
theorem put_no : (vN 1 0).put = [102, 97, 108, 115, 101] := by simp [vN, V.put]
theorem put_num (n : Int) : (vN 2 n).put = Lib.itoa n := by simp [vN, V.put]
theorem put_node (n : Int) : (vN 5 n).put = 35 :: Lib.itoa n := by simp [vN, V.put]
theorem put_edge (n : Int) : (vN 6 n).put = 64 :: Lib.itoa n := by simp [vN, V.put]
theorem put_text (n : Int) (t : ByteArray) (l : List V) : V.put ⟨3, n, t, l⟩ = 39 :: (t.data.toList ++ [39]) := by simp [V.put]
/-- the first byte of a number's text is a figure -/
theorem dec_head (n : Nat) : ∃ b r, Lib.decDigits n = b :: r ∧ fig b.toNat = true := by
  cases h : Lib.decDigits n with
  | nil => have := dec_pos n; rw [h] at this; cases this
  | cons b r => exact ⟨b, r, rfl, dec_figs n b (by rw [h]; exact List.mem_cons_self ..)⟩
theorem fig_ne {b : UInt8} (h : fig b.toNat = true) {c : UInt8} (hc : fig c.toNat = false) : b ≠ c := fun e => by rw [e, hc] at h; cases h
theorem rowTxt_nil : rowTxt [] = [91, 93] := by simp [rowTxt, Lib.join_nil]
theorem join_two (x y : List UInt8) (r : List (List UInt8)) (s : List UInt8) : Lib.join (x :: y :: r) s = x ++ (s ++ Lib.join (y :: r) s) := by
  simp [Lib.join_cons, Lib.joinTail]
/-- a value's text begins neither as a list ends, nor with a comma -/
theorem put_head {d : Nat} {v : V} (h : okV d v = true) : ∃ b r, v.put = b :: r ∧ b ≠ 93 ∧ b ≠ 44 := by
  cases d with
  | zero => simp [okV] at h
  | succ d =>
    cases okV_cases h with
    | null => exact ⟨_, _, put_vN0, by decide, by decide⟩
    | no => exact ⟨_, _, put_no, by decide, by decide⟩
    | yes => exact ⟨_, _, put_yes, by decide, by decide⟩
    | num n h0 h1 =>
      by_cases hn : 0 ≤ n
      · obtain ⟨m, rfl⟩ := Int.eq_ofNat_of_zero_le hn
        obtain ⟨b, r, e, hb⟩ := dec_head m
        exact ⟨b, r, by rw [put_num, itoa_nat, e], fig_ne hb rfl, fig_ne hb rfl⟩
      · obtain ⟨m, rfl⟩ : ∃ m : Nat, n = -(m : Int) := ⟨n.natAbs, by omega⟩
        exact ⟨_, _, by rw [put_num, itoa_neg (by omega)], by decide, by decide⟩
    | text t h => exact ⟨_, _, put_text _ _ _, by decide, by decide⟩
    | list l hl h => exact ⟨_, _, put_list _ _ _, by decide, by decide⟩
    | node n h => exact ⟨_, _, put_node _, by decide, by decide⟩
    | edge n h => exact ⟨_, _, put_edge _, by decide, by decide⟩
theorem rdVs_put {d : Nat} (ih : ∀ v rest, okV d v = true → Ends rest → rdV d (v.put ++ rest) = some (v, rest)) (rest : List UInt8) :
    ∀ (xs : List V) (f : Nat), xs ≠ [] → xs.length ≤ f → (∀ x, x ∈ xs → okV d x = true) → rdVs (rdV d) f (Lib.join (xs.map V.put) [44, 32] ++ 93 :: rest) = some (xs, rest)
  | [], _, h, _, _ => absurd rfl h
  | [x], f, _, hf, hx => by
    obtain ⟨f, rfl⟩ : ∃ g, f = g + 1 := ⟨f - 1, by simp at hf; omega⟩
    rw [List.map_cons, List.map_nil, Lib.join_one, rdVs, ih x _ (hx x (List.mem_cons_self ..)) (fun b r e => .inr (by cases e; rfl))]
    simp [hasP]
  | x :: y :: xs, f, _, hf, hx => by
    obtain ⟨f, rfl⟩ : ∃ g, f = g + 1 := ⟨f - 1, by simp at hf; omega⟩
    rw [List.map_cons, List.map_cons, join_two, List.append_assoc, rdVs, ih x _ (hx x (List.mem_cons_self ..)) (fun b r e => .inl (by cases e; rfl))]
    have := rdVs_put ih rest (y :: xs) f (by simp) (by simp only [List.length_cons] at hf ⊢; omega) (fun z hz => hx z (List.mem_cons_of_mem _ hz))
    rw [List.map_cons] at this
    simp [hasP, this]
theorem rdL_put {d : Nat} (ih : ∀ v rest, okV d v = true → Ends rest → rdV d (v.put ++ rest) = some (v, rest)) (rest : List UInt8) (xs : List V) (f : Nat) (hf : xs.length ≤ f) (hx : ∀ x, x ∈ xs → okV d x = true) :
    rdL (rdV d) f (rowTxt xs ++ rest) = some (xs, rest) := by
  cases xs with
  | nil => rw [rowTxt_nil]; simp [rdL, hasP]
  | cons y ys =>
    have h := rdVs_put ih rest (y :: ys) f (by simp) hf hx
    obtain ⟨b, r, e, hb, _⟩ := put_head (hx y (List.mem_cons_self ..))
    have e2 : Lib.join ((y :: ys).map V.put) [44, 32] = b :: (r ++ Lib.joinTail [44, 32] (ys.map V.put)) := by rw [List.map_cons, Lib.join_cons, e]; rfl
    have e3 : rowTxt (y :: ys) ++ rest = 91 :: (Lib.join ((y :: ys).map V.put) [44, 32] ++ 93 :: rest) := by simp [rowTxt]
    rw [e3, rdL, if_pos (by simp [hasP]), List.drop_one, List.tail_cons, if_neg (by rw [e2]; simp [hasP]; exact fun h => absurd h.symm hb), h]
theorem hasP_ne {a b : UInt8} (p l : List UInt8) (h : a ≠ b) : hasP (a :: p) (b :: l) = false := by simp [hasP, List.isPrefixOf, h]
theorem rdV_fig {d : Nat} {b : UInt8} {l : List UInt8} (h : fig b.toNat = true) : rdV (d + 1) (b :: l) = (figs (b :: l)).map fun p => (vN 2 p.1, p.2) := by
  rw [rdV, if_neg (by simp), if_neg (by rw [hasP_ne _ _ (fig_ne h rfl).symm]; simp), if_neg (by rw [hasP_ne _ _ (fig_ne h rfl).symm]; simp), if_neg (by rw [hasP_ne _ _ (fig_ne h rfl).symm]; simp)]
  rw [if_neg (show ¬ (b :: l).headD 0 = 39 from fig_ne h rfl), if_neg (show ¬ (b :: l).headD 0 = 91 from fig_ne h rfl), if_neg (show ¬ (b :: l).headD 0 = 35 from fig_ne h rfl), if_neg (show ¬ (b :: l).headD 0 = 64 from fig_ne h rfl), if_neg (show ¬ (b :: l).headD 0 = 45 from fig_ne h rfl)]
theorem rdV_put : ∀ (d : Nat) (v : V) (rest : List UInt8), okV d v = true → Ends rest → rdV d (v.put ++ rest) = some (v, rest)
  | 0, v, rest, h, _ => by simp [okV] at h
  | d + 1, v, rest, h, he => by
    cases okV_cases h with
    | null => rw [put_vN0]; simp [rdV, hasP]
    | no => rw [put_no]; simp [rdV, hasP]
    | yes => rw [put_yes]; simp [rdV, hasP]
    | num n h0 h1 =>
      by_cases hn : 0 ≤ n
      · obtain ⟨m, rfl⟩ := Int.eq_ofNat_of_zero_le hn
        rw [put_num, itoa_nat]
        have hf := figs_dec (n := m) (by omega) he.noFig
        obtain ⟨b, r, e, hb⟩ := dec_head m
        rw [e, List.cons_append] at hf ⊢
        rw [rdV_fig hb, hf]
        rfl
      · obtain ⟨m, rfl⟩ : ∃ m : Nat, n = -(m : Int) := ⟨n.natAbs, by omega⟩
        rw [put_num, itoa_neg (by omega), List.cons_append]
        have hf := figs_dec (n := m) (by omega) he.noFig
        simp [rdV, hasP, hf]
    | text t ht =>
      rw [put_text]
      have := cutAt_app (rest := rest) (text_39 ht)
      simp [rdV, hasP, this, bytes_eta]
    | list l hl hx =>
      rw [put_list]
      have := rdL_put (rdV_put d) rest l 6 hl hx
      have e : rowTxt l ++ rest = 91 :: (Lib.join (l.map V.put) [44, 32] ++ 93 :: rest) := by simp [rowTxt]
      rw [rdV, this]
      rw [e]
      simp [hasP]
    | node n hn =>
      rw [put_node, itoa_nat, List.cons_append]
      have hf := figs_dec (n := n) (by omega) he.noFig
      simp [rdV, hasP, hf]
    | edge n hn =>
      rw [put_edge, itoa_nat, List.cons_append]
      have hf := figs_dec (n := n) (by omega) he.noFig
      simp [rdV, hasP, hf]
/-- ValueGet: the value whose text this is -/
def valGet (l : List UInt8) : Option V := match rdV 3 l with
  | some (v, []) => if okV 3 v = true ∧ v.put = l then some v else none
  | _ => none
theorem valGet_iff {l : List UInt8} {v : V} : valGet l = some v ↔ okV 3 v = true ∧ v.put = l := by
  unfold valGet
  constructor
  · intro h
    split at h
    · split at h
      · cases h; assumption
      · cases h
    · cases h
  · rintro ⟨h, rfl⟩
    have := rdV_put 3 v [] h Ends.nil
    rw [List.append_nil] at this
    rw [this]
    simp [h]
theorem opt_ext {α : Type} {a b : Option α} (h : ∀ x, a = some x ↔ b = some x) : a = b := by
  cases a with
  | none => cases b with
    | none => rfl
    | some y => exact absurd ((h y).2 rfl) (by simp)
  | some x => exact ((h x).1 rfl).symm
end Go.Proofs.YtlmonnhgjnjniaaDoor

/- The reading of values as the reference does it, as plain functions: it finds a value again in its text, so it finds what the program finds. No condition. -/
namespace Go.Proofs.YtlmonnhgjnjniaaDoor
open Go.RowKit
set_option linter.unusedVariables false
set_option linter.unusedSimpArgs false

/-! the number that figures are -/
def numLGo : Nat → Nat → List UInt8 → Option Nat
  | _, n, [] => some n
  | i, n, b :: r => if b.toNat < 48 ∨ 57 < b.toNat ∨ 10 ≤ i then none else numLGo (i + 1) (n * 10 + (b.toNat - 48)) r
def numL (l : List UInt8) : Int := match numLGo 0 0 l with
  | none => -1
  | some n => if l.length = 0 ∨ (1 < l.length ∧ l.headD 0 = 48) then -1 else n
theorem drop_at {t : ByteArray} {i : Nat} (h : i < t.size) : t.data.toList.drop i = (t[i]'h) :: t.data.toList.drop (i + 1) := by
  rw [List.drop_eq_getElem_cons (by simpa using h)]; rfl
theorem numGo_list (t : ByteArray) : ∀ (d i n : Nat), t.size - i = d → i ≤ t.size → numGo t i n = numLGo i n (t.data.toList.drop i) := by
  intro d
  induction d with
  | zero =>
    intro i n hd hi
    obtain rfl : i = t.size := by omega
    rw [numGo_end (by omega), List.drop_of_length_le (by rw [← Lib.size_eq]; exact Nat.le_refl _)]
    rfl
  | succ d ih =>
    intro i n hd hi
    have hlt : i < t.size := by omega
    have e := at_eq t i hlt
    rw [drop_at hlt, numLGo, e]
    by_cases h : at_ t i < 48 ∨ 57 < at_ t i ∨ 10 ≤ i
    · rw [if_pos h, numGo_none hlt h]
    · rw [if_neg h, numGo_go hlt (by omega) (by omega) (by omega), ih (i + 1) _ (by omega) (by omega)]
theorem l1Num_list (t : ByteArray) : l1Num t = numL t.data.toList := by
  have h := numGo_list t _ 0 0 rfl (by omega)
  rw [List.drop_zero] at h
  unfold l1Num numL
  rw [h]
  cases numLGo 0 0 t.data.toList with
  | none => rfl
  | some n =>
    simp only
    rw [← Lib.size_eq]
    have e : (1 < t.size ∧ at_ t 0 = 48) ↔ (1 < t.size ∧ t.data.toList.headD 0 = 48) := by
      constructor
      · rintro ⟨h1, h2⟩
        refine ⟨h1, ?_⟩
        have e := drop_at (t := t) (i := 0) (by omega)
        rw [List.drop_zero] at e
        rw [e, List.headD_cons]
        have := at_eq t 0 (by omega)
        rw [h2] at this
        exact UInt8.toNat_inj.1 this
      · rintro ⟨h1, h2⟩
        refine ⟨h1, ?_⟩
        have e := drop_at (t := t) (i := 0) (by omega)
        rw [List.drop_zero] at e
        rw [e, List.headD_cons] at h2
        have := at_eq t 0 (by omega)
        rw [h2] at this
        exact this.symm
    by_cases c : t.size = 0 ∨ (1 < t.size ∧ at_ t 0 = 48)
    · rw [if_pos c, if_pos (by rw [← e]; exact c)]
    · rw [if_neg c, if_neg (by rw [← e]; exact c)]
theorem numLGo_figs : ∀ (ds : List UInt8) (i n : Nat), (∀ b, b ∈ ds → fig b.toNat = true) → i + ds.length ≤ 10 → numLGo i n ds = some (digVal n ds)
  | [], i, n, _, _ => rfl
  | b :: ds, i, n, h, hi => by
    have hb := h b (List.mem_cons_self ..)
    simp only [fig, Bool.and_eq_true, decide_eq_true_eq] at hb
    simp only [List.length_cons] at hi
    rw [numLGo, if_neg (by omega), numLGo_figs ds _ _ (fun c hc => h c (List.mem_cons_of_mem _ hc)) (by omega)]
    rfl
theorem dec_no0 (n : Nat) : ¬ (1 < (Lib.decDigits n).length ∧ (Lib.decDigits n).headD 0 = 48) := by
  induction n using Nat.strongRecOn with
  | _ n ih =>
    by_cases h : n < 10
    · rw [dec_small h]; simp
    · rw [dec_big h]
      intro ⟨_, h2⟩
      obtain ⟨b, r, e, hb⟩ := dec_head (n / 10)
      rw [e, List.cons_append, List.headD_cons] at h2
      by_cases hs : n / 10 < 10
      · rw [dec_small hs] at e
        cases e
        have := congrArg UInt8.toNat h2
        simp only [UInt8.toNat_ofNat'] at this
        have : (48 : UInt8).toNat = 48 := rfl
        omega
      · refine ih (n / 10) (by omega) ⟨?_, by rw [e]; exact h2⟩
        rw [dec_big hs, List.length_append, List.length_singleton]
        have := dec_pos (n / 10 / 10)
        omega
theorem numL_dec {n : Nat} (h : n < 10000000000) : numL (Lib.decDigits n) = n := by
  have h1 := numLGo_figs (Lib.decDigits n) 0 0 (dec_figs n) (by have := dec_len10 h; omega)
  unfold numL
  rw [h1]
  simp only
  rw [if_neg (by have := dec_pos n; have := dec_no0 n; rintro (h | h); omega; contradiction), dec_val]

/-! the reference's reading of a value -/
def plainAt : List UInt8 → Nat
  | [] => 0
  | b :: r => if b = 44 ∨ b = 93 then 0 else plainAt r + 1
def sAtom (s : List UInt8) : V :=
  if s = [110, 117, 108, 108] then vN 0 0 else if s = [116, 114, 117, 101] then vN 1 1 else if s = [102, 97, 108, 115, 101] then vN 1 0
  else if 1 < s.length ∧ s.headD 0 = 35 then vN 5 (numL (s.drop 1)) else if 1 < s.length ∧ s.headD 0 = 64 then vN 6 (numL (s.drop 1)) else if 1 < s.length ∧ s.headD 0 = 45 then vN 2 (-numL (s.drop 1))
  else vN 2 (numL s)
/-- the values of a list from where it stands: f more may come; first: none came yet -/
def sLs (rd : List UInt8 → Option (V × List UInt8)) : Nat → Bool → List UInt8 → Option (List V × List UInt8)
  | f, first, l => if l = [] then none else if l.headD 0 = 93 then some ([], l.drop 1) else match f with
    | 0 => none
    | f + 1 => if first = false ∧ hasP [44, 32] l = false then none else match rd (if first then l else l.drop 2) with
      | none => none
      | some (v, r) => (sLs rd f false r).map fun p => (v :: p.1, p.2)
def sV : Nat → List UInt8 → Option (V × List UInt8)
  | 0, _ => none
  | d + 1, l =>
    if l = [] then none
    else if l.headD 0 = 39 then (cutAt 39 (l.drop 1)).map fun p => (⟨3, 0, ⟨p.1.toArray⟩, []⟩, p.2)
    else if l.headD 0 = 91 then (sLs (sV d) 7 true (l.drop 1)).map fun p => (⟨4, 0, ⟨#[]⟩, p.1⟩, p.2)
    else if plainAt l = 0 then none else some (sAtom (l.take (plainAt l)), l.drop (plainAt l))
theorem plainAt_app {rest : List UInt8} (hr : Ends rest) : ∀ {l : List UInt8}, (∀ b, b ∈ l → b ≠ 44 ∧ b ≠ 93) → plainAt (l ++ rest) = l.length
  | [], _ => by
    cases rest with
    | nil => rfl
    | cons b r => rw [List.nil_append, plainAt, if_pos (hr b r rfl)]; rfl
  | b :: l, h => by
    have := h b (List.mem_cons_self ..)
    rw [List.cons_append, plainAt, if_neg (by rintro (e | e) <;> simp_all), plainAt_app hr (fun c hc => h c (List.mem_cons_of_mem _ hc))]
    rfl
theorem sV_atom {d : Nat} {l rest : List UInt8} (hr : Ends rest) (hl : l ≠ []) (h : ∀ b, b ∈ l → b ≠ 44 ∧ b ≠ 93) (h1 : l.headD 0 ≠ 39) (h2 : l.headD 0 ≠ 91) : sV (d + 1) (l ++ rest) = some (sAtom l, rest) := by
  obtain ⟨b, r, rfl⟩ := List.exists_cons_of_ne_nil hl
  rw [List.headD_cons] at h1 h2
  have hp := plainAt_app hr h
  rw [sV, if_neg (by simp), if_neg (by simpa using h1), if_neg (by simpa using h2), hp, if_neg (by simp)]
  simp
theorem dec_plain (n : Nat) : ∀ b, b ∈ Lib.decDigits n → b ≠ 44 ∧ b ≠ 93 := fun b hb => ⟨fig_ne (dec_figs n b hb) rfl, fig_ne (dec_figs n b hb) rfl⟩
theorem cons_plain {c : UInt8} (hc : c ≠ 44 ∧ c ≠ 93) (n : Nat) : ∀ b, b ∈ c :: Lib.decDigits n → b ≠ 44 ∧ b ≠ 93 := fun b hb => by
  rcases List.mem_cons.1 hb with rfl | hb
  · exact hc
  · exact dec_plain n b hb
theorem sLs_put {d : Nat} (ih : ∀ v rest, okV d v = true → Ends rest → sV d (v.put ++ rest) = some (v, rest)) (rest : List UInt8) :
    ∀ (xs : List V) (f : Nat), xs.length ≤ f → (∀ x, x ∈ xs → okV d x = true) → sLs (sV d) f false (Lib.joinTail [44, 32] (xs.map V.put) ++ 93 :: rest) = some (xs, rest)
  | [], f, _, _ => by
    unfold sLs
    simp [Lib.joinTail]
  | x :: xs, f, hf, hx => by
    obtain ⟨f, rfl⟩ : ∃ g, f = g + 1 := ⟨f - 1, by simp at hf; omega⟩
    have e : Lib.joinTail [44, 32] ((x :: xs).map V.put) ++ 93 :: rest = 44 :: 32 :: (x.put ++ (Lib.joinTail [44, 32] (xs.map V.put) ++ 93 :: rest)) := by simp [Lib.joinTail]
    have hE : Ends (Lib.joinTail [44, 32] (xs.map V.put) ++ 93 :: rest) := fun b r e => by
      cases xs with
      | nil => simp [Lib.joinTail] at e; exact .inr e.1.symm
      | cons y ys => simp [Lib.joinTail] at e; exact .inl e.1.symm
    have h2 := sLs_put ih rest xs f (by simp only [List.length_cons] at hf; omega) (fun z hz => hx z (List.mem_cons_of_mem _ hz))
    rw [e]
    unfold sLs
    simp [hasP, ih x _ (hx x (List.mem_cons_self ..)) hE, h2]
theorem sLs_all {d : Nat} (ih : ∀ v rest, okV d v = true → Ends rest → sV d (v.put ++ rest) = some (v, rest)) (rest : List UInt8) (xs : List V) (f : Nat) (hf : xs.length ≤ f) (hx : ∀ x, x ∈ xs → okV d x = true) :
    sLs (sV d) f true (Lib.join (xs.map V.put) [44, 32] ++ 93 :: rest) = some (xs, rest) := by
  cases xs with
  | nil => rw [List.map_nil, Lib.join_nil]; unfold sLs; simp
  | cons x xs =>
    obtain ⟨f, rfl⟩ : ∃ g, f = g + 1 := ⟨f - 1, by simp at hf; omega⟩
    have h2 := sLs_put ih rest xs f (by simp only [List.length_cons] at hf; omega) (fun z hz => hx z (List.mem_cons_of_mem _ hz))
    have hE : Ends (Lib.joinTail [44, 32] (xs.map V.put) ++ 93 :: rest) := fun b r e => by
      cases xs with
      | nil => simp [Lib.joinTail] at e; exact .inr e.1.symm
      | cons y ys => simp [Lib.joinTail] at e; exact .inl e.1.symm
    obtain ⟨b, r, e, hb, _⟩ := put_head (hx x (List.mem_cons_self ..))
    have h3 := ih x _ (hx x (List.mem_cons_self ..)) hE
    rw [List.map_cons, Lib.join_cons, List.append_assoc]
    unfold sLs
    rw [e, List.cons_append] at h3 ⊢
    simp [hb, h3, h2]
theorem sV_put : ∀ (d : Nat) (v : V) (rest : List UInt8), okV d v = true → Ends rest → sV d (v.put ++ rest) = some (v, rest)
  | 0, v, rest, h, _ => by simp [okV] at h
  | d + 1, v, rest, h, he => by
    cases okV_cases h with
    | null => rw [put_vN0, sV_atom he (by simp) (by simp) (by simp) (by simp)]; rfl
    | no => rw [put_no, sV_atom he (by simp) (by simp) (by simp) (by simp)]; rfl
    | yes => rw [put_yes, sV_atom he (by simp) (by simp) (by simp) (by simp)]; rfl
    | num n h0 h1 =>
      by_cases hn : 0 ≤ n
      · obtain ⟨m, rfl⟩ := Int.eq_ofNat_of_zero_le hn
        rw [put_num, itoa_nat]
        have hv := numL_dec (n := m) (by omega)
        have hp := dec_plain m
        obtain ⟨b, r, e, hb⟩ := dec_head m
        rw [e] at hv hp ⊢
        rw [sV_atom he (by simp) hp (by simpa using fig_ne hb rfl) (by simpa using fig_ne hb rfl), sAtom, if_neg (fun h => fig_ne hb (c := 110) rfl (by cases h; rfl)), if_neg (fun h => fig_ne hb (c := 116) rfl (by cases h; rfl)), if_neg (fun h => fig_ne hb (c := 102) rfl (by cases h; rfl))]
        rw [if_neg (fun h => fig_ne hb (c := 35) rfl h.2), if_neg (fun h => fig_ne hb (c := 64) rfl h.2), if_neg (fun h => fig_ne hb (c := 45) rfl h.2), hv]
      · obtain ⟨m, rfl⟩ : ∃ m : Nat, n = -(m : Int) := ⟨n.natAbs, by omega⟩
        rw [put_num, itoa_neg (by omega), sV_atom he (by simp) (cons_plain (by decide) m) (by simp) (by simp)]
        have hv := numL_dec (n := m) (by omega)
        have hp := dec_pos m
        simp [sAtom, hv, hp]
    | text t ht =>
      rw [put_text]
      have := cutAt_app (rest := rest) (text_39 ht)
      simp [sV, this, bytes_eta]
    | list l hl hx =>
      rw [put_list]
      have := sLs_all (sV_put d) rest l 7 (by omega) hx
      have e : rowTxt l ++ rest = 91 :: (Lib.join (l.map V.put) [44, 32] ++ 93 :: rest) := by simp [rowTxt]
      rw [e]
      simp [sV, this]
    | node n hn =>
      rw [put_node, itoa_nat, sV_atom he (by simp) (cons_plain (by decide) n) (by simp) (by simp)]
      have hv := numL_dec (n := n) (by omega)
      have hp := dec_pos n
      simp [sAtom, hv, hp]
    | edge n hn =>
      rw [put_edge, itoa_nat, sV_atom he (by simp) (cons_plain (by decide) n) (by simp) (by simp)]
      have hv := numL_dec (n := n) (by omega)
      have hp := dec_pos n
      simp [sAtom, hv, hp]
def svalGet (l : List UInt8) : Option V := match sV 3 l with
  | some (v, []) => if okV 3 v = true ∧ v.put = l then some v else none
  | _ => none
theorem svalGet_iff {l : List UInt8} {v : V} : svalGet l = some v ↔ okV 3 v = true ∧ v.put = l := by
  unfold svalGet
  constructor
  · intro h
    split at h
    · split at h
      · cases h; assumption
      · cases h
    · cases h
  · rintro ⟨h, rfl⟩
    have := sV_put 3 v [] h Ends.nil
    rw [List.append_nil] at this
    rw [this]
    simp [h]
theorem svalGet_eq (l : List UInt8) : svalGet l = valGet l := opt_ext fun v => by rw [svalGet_iff, valGet_iff]
end Go.Proofs.YtlmonnhgjnjniaaDoor

/- Which texts are names, as a plain function. -/
namespace Go.Proofs.YtlmonnhgjnjniaaDoor
set_option linter.unusedVariables false

def letter (b : Nat) : Bool := (decide (97 ≤ b) && decide (b ≤ 122)) || (decide (65 ≤ b) && decide (b ≤ 90))
def words : List (List UInt8) := [[77,65,84,67,72],[79,80,84,73,79,78,65,76],[87,72,69,82,69],[85,78,87,73,78,68],[87,73,84,72],[82,69,84,85,82,78],[67,82,69,65,84,69],[83,69,84],[68,69,76,69,84,69],[68,69,84,65,67,72],
  [65,83],[65,78,68],[79,82],[78,79,84],[73,83],[78,85,76,76],[73,78],[68,73,83,84,73,78,67,84],[79,82,68,69,82],[66,89],[68,69,83,67],[83,75,73,80],[76,73,77,73,84],[110,117,108,108],[116,114,117,101],[102,97,108,115,101],[99,111,117,110,116],[115,117,109],[115,105,122,101]]
def kept (t : ByteArray) : Bool := words.any fun x => t.toList == x
def nameShape (t : ByteArray) : Bool := decide (1 ≤ t.size) && decide (t.size ≤ 8) && letter (at_ t 0) && (List.range t.size).all fun i => letter (at_ t i) || fig (at_ t i)
def nameOk (t : ByteArray) : Bool := nameShape t && !kept t
theorem shape_bad {t : ByteArray} {i : Nat} (h : i < t.size) (hl : letter (at_ t i) = false) (hf : fig (at_ t i) = false ∨ i = 0) : nameShape t = false := by
  unfold nameShape
  by_cases h0 : i = 0
  · subst h0; rw [hl]; simp
  · rw [Bool.and_eq_false_iff]; right
    rw [List.all_eq_false]
    exact ⟨i, List.mem_range.2 h, by rw [hl]; rcases hf with hf | hf; rw [hf]; decide; exact absurd hf h0⟩
theorem shape_long {t : ByteArray} (h : t.size = 0 ∨ 8 < t.size) : nameShape t = false := by
  unfold nameShape
  rcases h with h | h
  · simp [h]
  · have : decide (t.size ≤ 8) = false := by simp; omega
    rw [this]; simp
theorem shape_good {t : ByteArray} (h1 : 1 ≤ t.size) (h8 : t.size ≤ 8) (h0 : letter (at_ t 0) = true) (ha : ∀ i, i < t.size → letter (at_ t i) = true ∨ fig (at_ t i) = true) : nameShape t = true := by
  unfold nameShape
  simp only [Bool.and_eq_true, decide_eq_true_eq]
  exact ⟨⟨⟨h1, h8⟩, h0⟩, List.all_eq_true.2 fun i hi => by rw [Bool.or_eq_true]; exact ha i (List.mem_range.1 hi)⟩
end Go.Proofs.YtlmonnhgjnjniaaDoor

/- The reading of values, as plain functions: how the program reads one and how the reference does; each finds a value again in its text, so both find the same. No condition. The reading of values as the reference does it, as plain functions: it finds a value again in its text, so it finds what the program finds. No condition. Which texts are names: the program's test, for every text. The program's figuresAt: the number that stands at a place. For every text of at most 2^61 bytes. The program's reading of values: valueAt, valuesAt. For every text of at most 2^61 bytes. An own slice stays where another's block is written. strconv.Itoa by its contract, where Go's table of powers of ten is laid; and that the table stays. For every int. A slice that a call makes and fills, place by place. No condition. A value's text: the program's putOf and rowPut, and the reference's l1Put, write the same. For every value that is ok. The number that figures are: the reference's l1Num. For every text of at most 2^62 bytes. A value is stored into a block of one's own: the block's cells behind it, all else as it was. No condition. What an append does, by its run; nothing behind nothing. No condition. -/
import Derived.Test.YtjopkcjpedgoaaaGreatDoorMG0
import Derived.Test.YtjopkcjpedgoaaaGreatDoorShelf
import Derived.Lib.LaidTab
import Derived.Stop.LaidErr
import Derived.MakeChecks
import Derived.Laws.OwnMore
import Derived.Deep.MidRow
import Derived.Laws.Rows
import Derived.Deep.RegionLaw
import Derived.Laws.AppendOwn
/- The reading of values,as plain functions: how the program reads one and how the reference does;each finds a value again in its text,so both find the same. No condition. -/
namespace Go.Proofs.YtjopkcjpedgoaaaGreatDoor
open Go.RowKit
set_option linter.unusedVariables false
set_option linter.unusedSimpArgs false

def figsGo : Nat → Nat → List UInt8 → Option (Nat × List UInt8)
  | k,n,[] => if k = 0 then none else some (n,[])
  | k,n,b :: r => if fig b.toNat then (if k = 10 then none else figsGo (k + 1) (n * 10 + (b.toNat - 48)) r) else if k = 0 then none else some (n,b :: r)
abbrev figs (l : List UInt8) : Option (Nat × List UInt8) := figsGo 0 0 l
def NoFig (l : List UInt8) : Prop := ∀ b r,l = b :: r → fig b.toNat = false
def digVal (m : Nat) (l : List UInt8) : Nat := l.foldl (fun a b => a * 10 + (b.toNat - 48)) m
theorem figsGo_all (rest : List UInt8) (hr : NoFig rest) : ∀ (ds : List UInt8) (k n : Nat),(∀ b,b ∈ ds → fig b.toNat = true) → 0 < k + ds.length → k + ds.length ≤ 10 → figsGo k n (ds ++ rest) = some (digVal n ds,rest)
  | [],k,n,_,h0,_ => by
    have hk : k ≠ 0 := by simpa using Nat.pos_iff_ne_zero.1 h0
    cases rest with
    | nil => simp [figsGo,hk,digVal]
    | cons b r => simp [figsGo,hr b r rfl,hk,digVal]
  | b :: ds,k,n,h,h0,h1 => by
    have hb := h b (List.mem_cons_self ..)
    have hk : k ≠ 10 := by simp only [List.length_cons] at h1;omega
    rw [List.cons_append,figsGo,if_pos hb,if_neg hk,figsGo_all rest hr ds (k + 1) _ (fun c hc => h c (List.mem_cons_of_mem _ hc)) (by omega) (by simp only [List.length_cons] at h1;omega)]
    rfl
theorem fig_dig {x : Nat} (h : x < 10) : fig (UInt8.ofNat (48 + x)).toNat = true := by
  simp only [UInt8.toNat_ofNat',fig];simp;omega
theorem dec_figs (n : Nat) : ∀ b,b ∈ Lib.decDigits n → fig b.toNat = true := by
  induction n using Nat.strongRecOn with
  | _ n ih =>
    intro b hb
    by_cases h : n < 10
    · rw [dec_small h,List.mem_singleton] at hb
      subst hb
      exact fig_dig h
    · rw [dec_big h,List.mem_append,List.mem_singleton] at hb
      rcases hb with hb | rfl
      · exact ih (n / 10) (by omega) b hb
      · exact fig_dig (Nat.mod_lt _ (by omega))
theorem dec_val (n : Nat) : digVal 0 (Lib.decDigits n) = n := by
  induction n using Nat.strongRecOn with
  | _ n ih =>
    by_cases h : n < 10
    · rw [dec_small h]
      simp only [digVal,List.foldl_cons,List.foldl_nil,UInt8.toNat_ofNat'];omega
    · rw [dec_big h,digVal,List.foldl_append]
      have := ih (n / 10) (by omega)
      rw [digVal] at this
      rw [this]
      simp only [List.foldl_cons,List.foldl_nil,UInt8.toNat_ofNat'];omega
theorem dec_pos (n : Nat) : 0 < (Lib.decDigits n).length := by
  by_cases h : n < 10
  · rw [dec_small h];simp
  · rw [dec_big h];simp
theorem dec_length (k : Nat) : ∀ n,n < 10 ^ (k + 1) → (Lib.decDigits n).length ≤ k + 1 := by
  induction k with
  | zero => intro n h;rw [dec_small (by simpa using h)];simp
  | succ k ih =>
    intro n h
    by_cases hn : n < 10
    · rw [dec_small hn];simp
    · rw [dec_big hn,List.length_append,List.length_singleton]
      have := ih (n / 10) (by rw [Nat.pow_succ] at h;omega)
      omega
theorem dec_len10 {n : Nat} (h : n < 10000000000) : (Lib.decDigits n).length ≤ 10 := dec_length 9 n (by omega)
theorem figs_dec {n : Nat} {rest : List UInt8} (h : n < 10000000000) (hr : NoFig rest) : figs (Lib.decDigits n ++ rest) = some (n,rest) := by
  rw [figs,figsGo_all rest hr _ 0 0 (dec_figs n) (by have := dec_pos n;omega) (by have := dec_len10 h;omega),dec_val]

def cutAt (b : UInt8) : List UInt8 → Option (List UInt8 × List UInt8)
  | [] => none
  | x :: r => if x = b then some ([],r) else (cutAt b r).map fun p => (x :: p.1,p.2)
theorem cutAt_app {b : UInt8} {rest : List UInt8} : ∀ {l : List UInt8},b ∉ l → cutAt b (l ++ b :: rest) = some (l,rest)
  | [],_ => by simp [cutAt]
  | x :: l,h => by
    rw [List.cons_append,cutAt,if_neg (fun e => h (by rw [e];exact List.mem_cons_self ..)),cutAt_app (fun hm => h (List.mem_cons_of_mem _ hm))]
    rfl
theorem cutAt_none {b : UInt8} : ∀ {l : List UInt8},b ∉ l → cutAt b l = none
  | [],_ => rfl
  | x :: l,h => by
    rw [cutAt,if_neg (fun e => h (by rw [e];exact List.mem_cons_self ..)),cutAt_none (fun hm => h (List.mem_cons_of_mem _ hm))]
    rfl
theorem cutAt_some {b : UInt8} : ∀ {l x r : List UInt8},cutAt b l = some (x,r) → l = x ++ b :: r ∧ b ∉ x
  | [],_,_,h => by cases h
  | y :: l,x,r,h => by
    rw [cutAt] at h
    split at h
    · rename_i e
      cases h
      subst e
      exact ⟨rfl,by simp⟩
    · rename_i e
      obtain ⟨⟨x',r'⟩,h1,h2⟩ := Option.map_eq_some_iff.1 h
      cases h2
      obtain ⟨rfl,hn⟩ := cutAt_some h1
      exact ⟨rfl,by simp only [List.mem_cons,not_or];exact ⟨fun h => e h.symm,hn⟩⟩
abbrev hasP (p l : List UInt8) : Bool := p.isPrefixOf l

def vN (k n : Int) : V := ⟨k,n,⟨#[]⟩,[]⟩
def rdVs (rd : List UInt8 → Option (V × List UInt8)) : Nat → List UInt8 → Option (List V × List UInt8)
  | 0,_ => none
  | f + 1,l => match rd l with
    | none => none
    | some (v,r) => if hasP [93] r then some ([v],r.drop 1) else if hasP [44,32] r then (rdVs rd f (r.drop 2)).map fun p => (v :: p.1,p.2) else none
def rdL (rd : List UInt8 → Option (V × List UInt8)) (most : Nat) (l : List UInt8) : Option (List V × List UInt8) :=
  if hasP [91] l then (if hasP [93] (l.drop 1) then some ([],l.drop 2) else rdVs rd most (l.drop 1)) else none
def rdV : Nat → List UInt8 → Option (V × List UInt8)
  | 0,_ => none
  | d + 1,l =>
    if l = [] then none
    else if hasP [110,117,108,108] l then some (vN 0 0,l.drop 4)
    else if hasP [116,114,117,101] l then some (vN 1 1,l.drop 4)
    else if hasP [102,97,108,115,101] l then some (vN 1 0,l.drop 5)
    else if l.headD 0 = 39 then (cutAt 39 (l.drop 1)).map fun p => (⟨3,0,⟨p.1.toArray⟩,[]⟩,p.2)
    else if l.headD 0 = 91 then (rdL (rdV d) 6 l).map fun p => (⟨4,0,⟨#[]⟩,p.1⟩,p.2)
    else if l.headD 0 = 35 then (figs (l.drop 1)).map fun p => (vN 5 p.1,p.2)
    else if l.headD 0 = 64 then (figs (l.drop 1)).map fun p => (vN 6 p.1,p.2)
    else if l.headD 0 = 45 then (figs (l.drop 1)).map fun p => (vN 2 (-(p.1 : Int)),p.2)
    else (figs l).map fun p => (vN 2 p.1,p.2)

theorem empty_eq {t : ByteArray} (h : (t.toList == ([] : List UInt8)) = true) : t = ⟨#[]⟩ := by
  have h : t.toList = [] := by simpa using h
  rw [ByteArray.toList_eq] at h
  exact ByteArray.ext (Array.ext' h)
theorem bare_eq {k n : Int} {t : ByteArray} {l : List V} (h : (V.mk k n t l).bare = true) : t = ⟨#[]⟩ ∧ l = [] := by
  simp only [V.bare,Bool.and_eq_true] at h
  exact ⟨empty_eq h.1,by simpa using h.2⟩
inductive OkS (d : Nat) : V → Prop where
  | null : OkS d (vN 0 0)
  | no : OkS d (vN 1 0)
  | yes : OkS d (vN 1 1)
  | num (n : Int) (h0 : -1000000000 ≤ n) (h1 : n ≤ 1000000000) : OkS d (vN 2 n)
  | text (t : ByteArray) (h : textOk t = true) : OkS d ⟨3,0,t,[]⟩
  | list (l : List V) (hl : l.length ≤ 6) (h : ∀ x,x ∈ l → okV d x = true) : OkS d ⟨4,0,⟨#[]⟩,l⟩
  | node (n : Nat) (h : n ≤ 1000000000) : OkS d (vN 5 n)
  | edge (n : Nat) (h : n ≤ 1000000000) : OkS d (vN 6 n)
theorem okV_cases {d : Nat} {v : V} (h : okV (d + 1) v = true) : OkS d v := by
  obtain ⟨k,n,t,l⟩ := v
  simp only [okV] at h
  split at h
  · rename_i e;subst e
    rw [Bool.and_eq_true] at h
    obtain ⟨rfl,rfl⟩ := bare_eq h.2
    obtain rfl : n = 0 := by simpa using h.1
    exact .null
  split at h
  · rename_i e;subst e
    rw [Bool.and_eq_true] at h
    obtain ⟨rfl,rfl⟩ := bare_eq h.2
    have : n = 0 ∨ n = 1 := by simpa using h.1
    rcases this with rfl | rfl
    · exact .no
    · exact .yes
  split at h
  · rename_i e;subst e
    rw [Bool.and_eq_true,Bool.and_eq_true] at h
    obtain ⟨rfl,rfl⟩ := bare_eq h.2
    exact .num n (by simpa using h.1.1) (by simpa using h.1.2)
  split at h
  · rename_i e;subst e
    rw [Bool.and_eq_true,Bool.and_eq_true] at h
    obtain rfl : n = 0 := by simpa using h.1.1
    obtain rfl : l = [] := by simpa using h.2
    exact .text t h.1.2
  split at h
  · rename_i e;subst e
    rw [Bool.and_eq_true,Bool.and_eq_true,Bool.and_eq_true] at h
    obtain rfl : n = 0 := by simpa using h.1.1.1
    obtain rfl := empty_eq h.1.1.2
    exact .list l (by have := h.1.2;simp at this;omega) (by simpa using h.2)
  split at h
  · rename_i e
    rw [Bool.and_eq_true,Bool.and_eq_true] at h
    obtain ⟨rfl,rfl⟩ := bare_eq h.2
    have h0 : 0 ≤ n := by simpa using h.1.1
    have h1 : n ≤ 1000000000 := by simpa using h.1.2
    obtain ⟨m,rfl⟩ := Int.eq_ofNat_of_zero_le h0
    rcases e with rfl | rfl
    · exact .node m (by omega)
    · exact .edge m (by omega)
  · cases h
def Ends (l : List UInt8) : Prop := ∀ b r,l = b :: r → b = 44 ∨ b = 93
theorem Ends.noFig {l : List UInt8} (h : Ends l) : NoFig l := fun b r e => by rcases h b r e with rfl | rfl <;> rfl
theorem Ends.nil : Ends [] := fun _ _ e => by cases e
theorem text_no {t : ByteArray} (h : textOk t = true) : ∀ b,b ∈ t.data.toList → 32 ≤ b.toNat ∧ b.toNat ≤ 126 ∧ b.toNat ≠ 39 := by
  simp only [textOk,Bool.and_eq_true] at h
  intro b hb
  have := List.all_eq_true.1 h.2 b hb
  simp at this
  omega
theorem text_39 {t : ByteArray} (h : textOk t = true) : (39 : UInt8) ∉ t.data.toList := fun hm => (text_no h 39 hm).2.2 rfl
theorem bytes_eta (t : ByteArray) : (⟨t.data.toList.toArray⟩ : ByteArray) = t := by cases t;simp
theorem itoa_nat (n : Nat) : Lib.itoa (n : Int) = Lib.decDigits n := by simp only [Lib.itoa];rw [if_neg (by omega)];simp
theorem itoa_neg {n : Nat} (h : 0 < n) : Lib.itoa (-(n : Int)) = 45 :: Lib.decDigits n := by
  simp only [Lib.itoa];rw [if_pos (by omega),show (-(n : Int)).natAbs = n by omega]
theorem put_vN0 : (vN 0 0).put = [110,117,108,108] := by simp [vN,V.put]
theorem put_yes : (vN 1 1).put = [116,114,117,101] := by simp [vN,V.put]
theorem put_no : (vN 1 0).put = [102,97,108,115,101] := by simp [vN,V.put]
theorem put_num (n : Int) : (vN 2 n).put = Lib.itoa n := by simp [vN,V.put]
theorem put_node (n : Int) : (vN 5 n).put = 35 :: Lib.itoa n := by simp [vN,V.put]
theorem put_edge (n : Int) : (vN 6 n).put = 64 :: Lib.itoa n := by simp [vN,V.put]
theorem put_text (n : Int) (t : ByteArray) (l : List V) : V.put ⟨3,n,t,l⟩ = 39 :: (t.data.toList ++ [39]) := by simp [V.put]
theorem dec_head (n : Nat) : ∃ b r,Lib.decDigits n = b :: r ∧ fig b.toNat = true := by
  cases h : Lib.decDigits n with
  | nil => have := dec_pos n;rw [h] at this;cases this
  | cons b r => exact ⟨b,r,rfl,dec_figs n b (by rw [h];exact List.mem_cons_self ..)⟩
theorem fig_ne {b : UInt8} (h : fig b.toNat = true) {c : UInt8} (hc : fig c.toNat = false) : b ≠ c := fun e => by rw [e,hc] at h;cases h
theorem rowTxt_nil : rowTxt [] = [91,93] := by simp [rowTxt,Lib.join_nil]
theorem join_two (x y : List UInt8) (r : List (List UInt8)) (s : List UInt8) : Lib.join (x :: y :: r) s = x ++ (s ++ Lib.join (y :: r) s) := by
  simp [Lib.join_cons,Lib.joinTail]
theorem put_head {d : Nat} {v : V} (h : okV d v = true) : ∃ b r,v.put = b :: r ∧ b ≠ 93 ∧ b ≠ 44 := by
  cases d with
  | zero => simp [okV] at h
  | succ d =>
    cases okV_cases h with
    | null => exact ⟨_,_,put_vN0,by decide,by decide⟩
    | no => exact ⟨_,_,put_no,by decide,by decide⟩
    | yes => exact ⟨_,_,put_yes,by decide,by decide⟩
    | num n h0 h1 =>
      by_cases hn : 0 ≤ n
      · obtain ⟨m,rfl⟩ := Int.eq_ofNat_of_zero_le hn
        obtain ⟨b,r,e,hb⟩ := dec_head m
        exact ⟨b,r,by rw [put_num,itoa_nat,e],fig_ne hb rfl,fig_ne hb rfl⟩
      · obtain ⟨m,rfl⟩ : ∃ m : Nat,n = -(m : Int) := ⟨n.natAbs,by omega⟩
        exact ⟨_,_,by rw [put_num,itoa_neg (by omega)],by decide,by decide⟩
    | text t h => exact ⟨_,_,put_text _ _ _,by decide,by decide⟩
    | list l hl h => exact ⟨_,_,put_list _ _ _,by decide,by decide⟩
    | node n h => exact ⟨_,_,put_node _,by decide,by decide⟩
    | edge n h => exact ⟨_,_,put_edge _,by decide,by decide⟩
theorem rdVs_put {d : Nat} (ih : ∀ v rest,okV d v = true → Ends rest → rdV d (v.put ++ rest) = some (v,rest)) (rest : List UInt8) :
    ∀ (xs : List V) (f : Nat),xs ≠ [] → xs.length ≤ f → (∀ x,x ∈ xs → okV d x = true) → rdVs (rdV d) f (Lib.join (xs.map V.put) [44,32] ++ 93 :: rest) = some (xs,rest)
  | [],_,h,_,_ => absurd rfl h
  | [x],f,_,hf,hx => by
    obtain ⟨f,rfl⟩ : ∃ g,f = g + 1 := ⟨f - 1,by simp at hf;omega⟩
    rw [List.map_cons,List.map_nil,Lib.join_one,rdVs,ih x _ (hx x (List.mem_cons_self ..)) (fun b r e => .inr (by cases e;rfl))]
    simp [hasP]
  | x :: y :: xs,f,_,hf,hx => by
    obtain ⟨f,rfl⟩ : ∃ g,f = g + 1 := ⟨f - 1,by simp at hf;omega⟩
    rw [List.map_cons,List.map_cons,join_two,List.append_assoc,rdVs,ih x _ (hx x (List.mem_cons_self ..)) (fun b r e => .inl (by cases e;rfl))]
    have := rdVs_put ih rest (y :: xs) f (by simp) (by simp only [List.length_cons] at hf ⊢;omega) (fun z hz => hx z (List.mem_cons_of_mem _ hz))
    rw [List.map_cons] at this
    simp [hasP,this]
theorem rdL_put {d : Nat} (ih : ∀ v rest,okV d v = true → Ends rest → rdV d (v.put ++ rest) = some (v,rest)) (rest : List UInt8) (xs : List V) (f : Nat) (hf : xs.length ≤ f) (hx : ∀ x,x ∈ xs → okV d x = true) :
    rdL (rdV d) f (rowTxt xs ++ rest) = some (xs,rest) := by
  cases xs with
  | nil => rw [rowTxt_nil];simp [rdL,hasP]
  | cons y ys =>
    have h := rdVs_put ih rest (y :: ys) f (by simp) hf hx
    obtain ⟨b,r,e,hb,_⟩ := put_head (hx y (List.mem_cons_self ..))
    have e2 : Lib.join ((y :: ys).map V.put) [44,32] = b :: (r ++ Lib.joinTail [44,32] (ys.map V.put)) := by rw [List.map_cons,Lib.join_cons,e];rfl
    have e3 : rowTxt (y :: ys) ++ rest = 91 :: (Lib.join ((y :: ys).map V.put) [44,32] ++ 93 :: rest) := by simp [rowTxt]
    rw [e3,rdL,if_pos (by simp [hasP]),List.drop_one,List.tail_cons,if_neg (by rw [e2];simp [hasP];exact fun h => absurd h.symm hb),h]
theorem hasP_ne {a b : UInt8} (p l : List UInt8) (h : a ≠ b) : hasP (a :: p) (b :: l) = false := by simp [hasP,List.isPrefixOf,h]
theorem rdV_fig {d : Nat} {b : UInt8} {l : List UInt8} (h : fig b.toNat = true) : rdV (d + 1) (b :: l) = (figs (b :: l)).map fun p => (vN 2 p.1,p.2) := by
  rw [rdV,if_neg (by simp),if_neg (by rw [hasP_ne _ _ (fig_ne h rfl).symm];simp),if_neg (by rw [hasP_ne _ _ (fig_ne h rfl).symm];simp),if_neg (by rw [hasP_ne _ _ (fig_ne h rfl).symm];simp)]
  rw [if_neg (show ¬ (b :: l).headD 0 = 39 from fig_ne h rfl),if_neg (show ¬ (b :: l).headD 0 = 91 from fig_ne h rfl),if_neg (show ¬ (b :: l).headD 0 = 35 from fig_ne h rfl),if_neg (show ¬ (b :: l).headD 0 = 64 from fig_ne h rfl),if_neg (show ¬ (b :: l).headD 0 = 45 from fig_ne h rfl)]
theorem rdV_put : ∀ (d : Nat) (v : V) (rest : List UInt8),okV d v = true → Ends rest → rdV d (v.put ++ rest) = some (v,rest)
  | 0,v,rest,h,_ => by simp [okV] at h
  | d + 1,v,rest,h,he => by
    cases okV_cases h with
    | null => rw [put_vN0];simp [rdV,hasP]
    | no => rw [put_no];simp [rdV,hasP]
    | yes => rw [put_yes];simp [rdV,hasP]
    | num n h0 h1 =>
      by_cases hn : 0 ≤ n
      · obtain ⟨m,rfl⟩ := Int.eq_ofNat_of_zero_le hn
        rw [put_num,itoa_nat]
        have hf := figs_dec (n := m) (by omega) he.noFig
        obtain ⟨b,r,e,hb⟩ := dec_head m
        rw [e,List.cons_append] at hf ⊢
        rw [rdV_fig hb,hf]
        rfl
      · obtain ⟨m,rfl⟩ : ∃ m : Nat,n = -(m : Int) := ⟨n.natAbs,by omega⟩
        rw [put_num,itoa_neg (by omega),List.cons_append]
        have hf := figs_dec (n := m) (by omega) he.noFig
        simp [rdV,hasP,hf]
    | text t ht =>
      rw [put_text]
      have := cutAt_app (rest := rest) (text_39 ht)
      simp [rdV,hasP,this,bytes_eta]
    | list l hl hx =>
      rw [put_list]
      have := rdL_put (rdV_put d) rest l 6 hl hx
      have e : rowTxt l ++ rest = 91 :: (Lib.join (l.map V.put) [44,32] ++ 93 :: rest) := by simp [rowTxt]
      rw [rdV,this]
      rw [e]
      simp [hasP]
    | node n hn =>
      rw [put_node,itoa_nat,List.cons_append]
      have hf := figs_dec (n := n) (by omega) he.noFig
      simp [rdV,hasP,hf]
    | edge n hn =>
      rw [put_edge,itoa_nat,List.cons_append]
      have hf := figs_dec (n := n) (by omega) he.noFig
      simp [rdV,hasP,hf]
def valGet (l : List UInt8) : Option V := match rdV 3 l with
  | some (v,[]) => if okV 3 v = true ∧ v.put = l then some v else none
  | _ => none
theorem valGet_iff {l : List UInt8} {v : V} : valGet l = some v ↔ okV 3 v = true ∧ v.put = l := by
  unfold valGet
  constructor
  · intro h
    split at h
    · split at h
      · cases h;assumption
      · cases h
    · cases h
  · rintro ⟨h,rfl⟩
    have := rdV_put 3 v [] h Ends.nil
    rw [List.append_nil] at this
    rw [this]
    simp [h]
theorem opt_ext {α : Type} {a b : Option α} (h : ∀ x,a = some x ↔ b = some x) : a = b := by
  cases a with
  | none => cases b with
    | none => rfl
    | some y => exact absurd ((h y).2 rfl) (by simp)
  | some x => exact ((h x).1 rfl).symm

/- The reading of values as the reference does it,as plain functions: it finds a value again in its text,so it finds what the program finds. No condition. -/

def numLGo : Nat → Nat → List UInt8 → Option Nat
  | _,n,[] => some n
  | i,n,b :: r => if b.toNat < 48 ∨ 57 < b.toNat ∨ 10 ≤ i then none else numLGo (i + 1) (n * 10 + (b.toNat - 48)) r
def numL (l : List UInt8) : Int := match numLGo 0 0 l with
  | none => -1
  | some n => if l.length = 0 ∨ (1 < l.length ∧ l.headD 0 = 48) then -1 else n
theorem drop_at {t : ByteArray} {i : Nat} (h : i < t.size) : t.data.toList.drop i = (t[i]'h) :: t.data.toList.drop (i + 1) := by
  rw [List.drop_eq_getElem_cons (by simpa using h)];rfl
theorem numGo_list (t : ByteArray) : ∀ (d i n : Nat),t.size - i = d → i ≤ t.size → numGo t i n = numLGo i n (t.data.toList.drop i) := by
  intro d
  induction d with
  | zero =>
    intro i n hd hi
    obtain rfl : i = t.size := by omega
    rw [numGo_end (by omega),List.drop_of_length_le (by rw [← Lib.size_eq];exact Nat.le_refl _)]
    rfl
  | succ d ih =>
    intro i n hd hi
    have hlt : i < t.size := by omega
    have e := at_eq t i hlt
    rw [drop_at hlt,numLGo,e]
    by_cases h : at_ t i < 48 ∨ 57 < at_ t i ∨ 10 ≤ i
    · rw [if_pos h,numGo_none hlt h]
    · rw [if_neg h,numGo_go hlt (by omega) (by omega) (by omega),ih (i + 1) _ (by omega) (by omega)]
theorem l1Num_list (t : ByteArray) : l1Num t = numL t.data.toList := by
  have h := numGo_list t _ 0 0 rfl (by omega)
  rw [List.drop_zero] at h
  unfold l1Num numL
  rw [h]
  cases numLGo 0 0 t.data.toList with
  | none => rfl
  | some n =>
    simp only
    rw [← Lib.size_eq]
    have e : (1 < t.size ∧ at_ t 0 = 48) ↔ (1 < t.size ∧ t.data.toList.headD 0 = 48) := by
      constructor
      · rintro ⟨h1,h2⟩
        refine ⟨h1,?_⟩
        have e := drop_at (t := t) (i := 0) (by omega)
        rw [List.drop_zero] at e
        rw [e,List.headD_cons]
        have := at_eq t 0 (by omega)
        rw [h2] at this
        exact UInt8.toNat_inj.1 this
      · rintro ⟨h1,h2⟩
        refine ⟨h1,?_⟩
        have e := drop_at (t := t) (i := 0) (by omega)
        rw [List.drop_zero] at e
        rw [e,List.headD_cons] at h2
        have := at_eq t 0 (by omega)
        rw [h2] at this
        exact this.symm
    by_cases c : t.size = 0 ∨ (1 < t.size ∧ at_ t 0 = 48)
    · rw [if_pos c,if_pos (by rw [← e];exact c)]
    · rw [if_neg c,if_neg (by rw [← e];exact c)]
theorem numLGo_figs : ∀ (ds : List UInt8) (i n : Nat),(∀ b,b ∈ ds → fig b.toNat = true) → i + ds.length ≤ 10 → numLGo i n ds = some (digVal n ds)
  | [],i,n,_,_ => rfl
  | b :: ds,i,n,h,hi => by
    have hb := h b (List.mem_cons_self ..)
    simp only [fig,Bool.and_eq_true,decide_eq_true_eq] at hb
    simp only [List.length_cons] at hi
    rw [numLGo,if_neg (by omega),numLGo_figs ds _ _ (fun c hc => h c (List.mem_cons_of_mem _ hc)) (by omega)]
    rfl
theorem dec_no0 (n : Nat) : ¬ (1 < (Lib.decDigits n).length ∧ (Lib.decDigits n).headD 0 = 48) := by
  induction n using Nat.strongRecOn with
  | _ n ih =>
    by_cases h : n < 10
    · rw [dec_small h];simp
    · rw [dec_big h]
      intro ⟨_,h2⟩
      obtain ⟨b,r,e,hb⟩ := dec_head (n / 10)
      rw [e,List.cons_append,List.headD_cons] at h2
      by_cases hs : n / 10 < 10
      · rw [dec_small hs] at e
        cases e
        have := congrArg UInt8.toNat h2
        simp only [UInt8.toNat_ofNat'] at this
        have : (48 : UInt8).toNat = 48 := rfl
        omega
      · refine ih (n / 10) (by omega) ⟨?_,by rw [e];exact h2⟩
        rw [dec_big hs,List.length_append,List.length_singleton]
        have := dec_pos (n / 10 / 10)
        omega
theorem numL_dec {n : Nat} (h : n < 10000000000) : numL (Lib.decDigits n) = n := by
  have h1 := numLGo_figs (Lib.decDigits n) 0 0 (dec_figs n) (by have := dec_len10 h;omega)
  unfold numL
  rw [h1]
  simp only
  rw [if_neg (by have := dec_pos n;have := dec_no0 n;rintro (h | h);omega;contradiction),dec_val]

def plainAt : List UInt8 → Nat
  | [] => 0
  | b :: r => if b = 44 ∨ b = 93 then 0 else plainAt r + 1
def sAtom (s : List UInt8) : V :=
  if s = [110,117,108,108] then vN 0 0 else if s = [116,114,117,101] then vN 1 1 else if s = [102,97,108,115,101] then vN 1 0
  else if 1 < s.length ∧ s.headD 0 = 35 then vN 5 (numL (s.drop 1)) else if 1 < s.length ∧ s.headD 0 = 64 then vN 6 (numL (s.drop 1)) else if 1 < s.length ∧ s.headD 0 = 45 then vN 2 (-numL (s.drop 1))
  else vN 2 (numL s)
def sLs (rd : List UInt8 → Option (V × List UInt8)) : Nat → Bool → List UInt8 → Option (List V × List UInt8)
  | f,first,l => if l = [] then none else if l.headD 0 = 93 then some ([],l.drop 1) else match f with
    | 0 => none
    | f + 1 => if first = false ∧ hasP [44,32] l = false then none else match rd (if first then l else l.drop 2) with
      | none => none
      | some (v,r) => (sLs rd f false r).map fun p => (v :: p.1,p.2)
def sV : Nat → List UInt8 → Option (V × List UInt8)
  | 0,_ => none
  | d + 1,l =>
    if l = [] then none
    else if l.headD 0 = 39 then (cutAt 39 (l.drop 1)).map fun p => (⟨3,0,⟨p.1.toArray⟩,[]⟩,p.2)
    else if l.headD 0 = 91 then (sLs (sV d) 7 true (l.drop 1)).map fun p => (⟨4,0,⟨#[]⟩,p.1⟩,p.2)
    else if plainAt l = 0 then none else some (sAtom (l.take (plainAt l)),l.drop (plainAt l))
theorem plainAt_app {rest : List UInt8} (hr : Ends rest) : ∀ {l : List UInt8},(∀ b,b ∈ l → b ≠ 44 ∧ b ≠ 93) → plainAt (l ++ rest) = l.length
  | [],_ => by
    cases rest with
    | nil => rfl
    | cons b r => rw [List.nil_append,plainAt,if_pos (hr b r rfl)];rfl
  | b :: l,h => by
    have := h b (List.mem_cons_self ..)
    rw [List.cons_append,plainAt,if_neg (by rintro (e | e) <;> simp_all),plainAt_app hr (fun c hc => h c (List.mem_cons_of_mem _ hc))]
    rfl
theorem sV_atom {d : Nat} {l rest : List UInt8} (hr : Ends rest) (hl : l ≠ []) (h : ∀ b,b ∈ l → b ≠ 44 ∧ b ≠ 93) (h1 : l.headD 0 ≠ 39) (h2 : l.headD 0 ≠ 91) : sV (d + 1) (l ++ rest) = some (sAtom l,rest) := by
  obtain ⟨b,r,rfl⟩ := List.exists_cons_of_ne_nil hl
  rw [List.headD_cons] at h1 h2
  have hp := plainAt_app hr h
  rw [sV,if_neg (by simp),if_neg (by simpa using h1),if_neg (by simpa using h2),hp,if_neg (by simp)]
  simp
theorem dec_plain (n : Nat) : ∀ b,b ∈ Lib.decDigits n → b ≠ 44 ∧ b ≠ 93 := fun b hb => ⟨fig_ne (dec_figs n b hb) rfl,fig_ne (dec_figs n b hb) rfl⟩
theorem cons_plain {c : UInt8} (hc : c ≠ 44 ∧ c ≠ 93) (n : Nat) : ∀ b,b ∈ c :: Lib.decDigits n → b ≠ 44 ∧ b ≠ 93 := fun b hb => by
  rcases List.mem_cons.1 hb with rfl | hb
  · exact hc
  · exact dec_plain n b hb
theorem sLs_put {d : Nat} (ih : ∀ v rest,okV d v = true → Ends rest → sV d (v.put ++ rest) = some (v,rest)) (rest : List UInt8) :
    ∀ (xs : List V) (f : Nat),xs.length ≤ f → (∀ x,x ∈ xs → okV d x = true) → sLs (sV d) f false (Lib.joinTail [44,32] (xs.map V.put) ++ 93 :: rest) = some (xs,rest)
  | [],f,_,_ => by
    unfold sLs
    simp [Lib.joinTail]
  | x :: xs,f,hf,hx => by
    obtain ⟨f,rfl⟩ : ∃ g,f = g + 1 := ⟨f - 1,by simp at hf;omega⟩
    have e : Lib.joinTail [44,32] ((x :: xs).map V.put) ++ 93 :: rest = 44 :: 32 :: (x.put ++ (Lib.joinTail [44,32] (xs.map V.put) ++ 93 :: rest)) := by simp [Lib.joinTail]
    have hE : Ends (Lib.joinTail [44,32] (xs.map V.put) ++ 93 :: rest) := fun b r e => by
      cases xs with
      | nil => simp [Lib.joinTail] at e;exact .inr e.1.symm
      | cons y ys => simp [Lib.joinTail] at e;exact .inl e.1.symm
    have h2 := sLs_put ih rest xs f (by simp only [List.length_cons] at hf;omega) (fun z hz => hx z (List.mem_cons_of_mem _ hz))
    rw [e]
    unfold sLs
    simp [hasP,ih x _ (hx x (List.mem_cons_self ..)) hE,h2]
theorem sLs_all {d : Nat} (ih : ∀ v rest,okV d v = true → Ends rest → sV d (v.put ++ rest) = some (v,rest)) (rest : List UInt8) (xs : List V) (f : Nat) (hf : xs.length ≤ f) (hx : ∀ x,x ∈ xs → okV d x = true) :
    sLs (sV d) f true (Lib.join (xs.map V.put) [44,32] ++ 93 :: rest) = some (xs,rest) := by
  cases xs with
  | nil => rw [List.map_nil,Lib.join_nil];unfold sLs;simp
  | cons x xs =>
    obtain ⟨f,rfl⟩ : ∃ g,f = g + 1 := ⟨f - 1,by simp at hf;omega⟩
    have h2 := sLs_put ih rest xs f (by simp only [List.length_cons] at hf;omega) (fun z hz => hx z (List.mem_cons_of_mem _ hz))
    have hE : Ends (Lib.joinTail [44,32] (xs.map V.put) ++ 93 :: rest) := fun b r e => by
      cases xs with
      | nil => simp [Lib.joinTail] at e;exact .inr e.1.symm
      | cons y ys => simp [Lib.joinTail] at e;exact .inl e.1.symm
    obtain ⟨b,r,e,hb,_⟩ := put_head (hx x (List.mem_cons_self ..))
    have h3 := ih x _ (hx x (List.mem_cons_self ..)) hE
    rw [List.map_cons,Lib.join_cons,List.append_assoc]
    unfold sLs
    rw [e,List.cons_append] at h3 ⊢
    simp [hb,h3,h2]
theorem sV_put : ∀ (d : Nat) (v : V) (rest : List UInt8),okV d v = true → Ends rest → sV d (v.put ++ rest) = some (v,rest)
  | 0,v,rest,h,_ => by simp [okV] at h
  | d + 1,v,rest,h,he => by
    cases okV_cases h with
    | null => rw [put_vN0,sV_atom he (by simp) (by simp) (by simp) (by simp)];rfl
    | no => rw [put_no,sV_atom he (by simp) (by simp) (by simp) (by simp)];rfl
    | yes => rw [put_yes,sV_atom he (by simp) (by simp) (by simp) (by simp)];rfl
    | num n h0 h1 =>
      by_cases hn : 0 ≤ n
      · obtain ⟨m,rfl⟩ := Int.eq_ofNat_of_zero_le hn
        rw [put_num,itoa_nat]
        have hv := numL_dec (n := m) (by omega)
        have hp := dec_plain m
        obtain ⟨b,r,e,hb⟩ := dec_head m
        rw [e] at hv hp ⊢
        rw [sV_atom he (by simp) hp (by simpa using fig_ne hb rfl) (by simpa using fig_ne hb rfl),sAtom,if_neg (fun h => fig_ne hb (c := 110) rfl (by cases h;rfl)),if_neg (fun h => fig_ne hb (c := 116) rfl (by cases h;rfl)),if_neg (fun h => fig_ne hb (c := 102) rfl (by cases h;rfl))]
        rw [if_neg (fun h => fig_ne hb (c := 35) rfl h.2),if_neg (fun h => fig_ne hb (c := 64) rfl h.2),if_neg (fun h => fig_ne hb (c := 45) rfl h.2),hv]
      · obtain ⟨m,rfl⟩ : ∃ m : Nat,n = -(m : Int) := ⟨n.natAbs,by omega⟩
        rw [put_num,itoa_neg (by omega),sV_atom he (by simp) (cons_plain (by decide) m) (by simp) (by simp)]
        have hv := numL_dec (n := m) (by omega)
        have hp := dec_pos m
        simp [sAtom,hv,hp]
    | text t ht =>
      rw [put_text]
      have := cutAt_app (rest := rest) (text_39 ht)
      simp [sV,this,bytes_eta]
    | list l hl hx =>
      rw [put_list]
      have := sLs_all (sV_put d) rest l 7 (by omega) hx
      have e : rowTxt l ++ rest = 91 :: (Lib.join (l.map V.put) [44,32] ++ 93 :: rest) := by simp [rowTxt]
      rw [e]
      simp [sV,this]
    | node n hn =>
      rw [put_node,itoa_nat,sV_atom he (by simp) (cons_plain (by decide) n) (by simp) (by simp)]
      have hv := numL_dec (n := n) (by omega)
      have hp := dec_pos n
      simp [sAtom,hv,hp]
    | edge n hn =>
      rw [put_edge,itoa_nat,sV_atom he (by simp) (cons_plain (by decide) n) (by simp) (by simp)]
      have hv := numL_dec (n := n) (by omega)
      have hp := dec_pos n
      simp [sAtom,hv,hp]
def svalGet (l : List UInt8) : Option V := match sV 3 l with
  | some (v,[]) => if okV 3 v = true ∧ v.put = l then some v else none
  | _ => none
theorem svalGet_iff {l : List UInt8} {v : V} : svalGet l = some v ↔ okV 3 v = true ∧ v.put = l := by
  unfold svalGet
  constructor
  · intro h
    split at h
    · split at h
      · cases h;assumption
      · cases h
    · cases h
  · rintro ⟨h,rfl⟩
    have := sV_put 3 v [] h Ends.nil
    rw [List.append_nil] at this
    rw [this]
    simp [h]
theorem svalGet_eq (l : List UInt8) : svalGet l = valGet l := opt_ext fun v => by rw [svalGet_iff,valGet_iff]

/- Which texts are names: the program's test,for every text. -/
set_option maxHeartbeats 1000000


theorem isFig_calls (c : Nat) (w : World) : Calls Tryz.prog 47 #[.int .u8 c] w (Quiet (fig c) w) := by
  go_enter Tryz.func47,Tryz.ntmps47
  go_wp2 <;> (go_ret;exact ⟨ret_bool (by rw [fig,Bool.eq_iff_iff];simp [*] <;> omega),rfl⟩)
theorem isLetter_calls (c : Nat) (w : World) : Calls Tryz.prog 66 #[.int .u8 c] w (Quiet (letter c) w) := by
  go_enter Tryz.func66,Tryz.ntmps66
  go_wp2 <;> (go_ret;exact ⟨ret_bool (by rw [letter,Bool.eq_iff_iff];simp [*] <;> omega),rfl⟩)

theorem nameOk_calls (t : ByteArray) (w : World) (hs : t.size ≤ 9223372036854775807) : Calls Tryz.prog 49 #[.string t] w (Quiet (nameOk t) w) := by
  have IL := hyd isLetter_calls
  have IF := hyd isFig_calls
  by_cases h0 : t.size = 0
  · have hd := empty_true t h0
    have hr : nameOk t = false := by rw [nameOk,shape_long (.inl h0)];rfl
    have HR := hyd hr
    clear hr h0
    go_enter Tryz.func49,Tryz.ntmps49
    go_wp2
    go_ret
    exact ⟨ret_bool HR.out.symm,rfl⟩
  have hd := empty_false t h0
  by_cases h8 : 8 < t.size
  · have hr : nameOk t = false := by rw [nameOk,shape_long (.inr h8)];rfl
    have HR := hyd hr
    clear hr
    go_enter Tryz.func49,Tryz.ntmps49
    go_wp2
    go_ret
    exact ⟨ret_bool HR.out.symm,rfl⟩
  have q1 : 0 < t.size := by omega
  have e1 := at_eq t 0 q1
  rcases hl : letter (at_ t 0) with _ | _
  · have hr : nameOk t = false := by rw [nameOk,shape_bad q1 hl (.inr rfl)];rfl
    have HR := hyd hr
    have HL := hyd hl
    clear hr hl
    go_enter Tryz.func49,Tryz.ntmps49
    go_wp2_with (go_at_call 66;refine (IL.out _ _).mono ?_;rintro e w' ⟨rfl,rfl⟩;rw [HL.out])
    go_ret
    exact ⟨ret_bool HR.out.symm,rfl⟩
  · have HL := hyd hl
    clear hl
    go_enter Tryz.func49,Tryz.ntmps49
    go_wp2_with (go_at_call 66;refine (IL.out _ _).mono ?_;rintro e w' ⟨rfl,rfl⟩;rw [HL.out])
    go_loop [3] (fun i => ∃ k : Nat,1 ≤ k ∧ k ≤ t.size ∧ i = .int .i64 k ∧ ∀ j,j < k → letter (at_ t j) = true ∨ fig (at_ t j) = true) (fun i => t.size - (intOf i).toNat)
    case atStart => exact ⟨1,by omega,by omega,rfl,fun j hj => .inl (by rw [show j = 0 by omega];exact HL.out)⟩
    case round =>
      obtain ⟨k,hk1,hk,rfl,hg⟩ := hrel
      have HG := hyd hg
      clear hg e1
      by_cases hlt : k < t.size
      · have e2 := at_eq t k hlt
        rcases hl : letter (at_ t k) with _ | _ <;> rcases hf : fig (at_ t k) with _ | _
        · have hr : nameOk t = false := by rw [nameOk,shape_bad hlt hl (.inl hf)];rfl
          have HR := hyd hr
          have H2 := hyd hl
          have H3 := hyd hf
          clear hr hl hf
          go_wp2_with (first | (go_at_call 66;refine (IL.out _ _).mono ?_;rintro e w' ⟨rfl,rfl⟩;rw [H2.out]) | (go_at_call 47;refine (IF.out _ _).mono ?_;rintro e w' ⟨rfl,rfl⟩;rw [H3.out]))
          go_ret
          exact ⟨ret_bool HR.out.symm,rfl⟩
        all_goals
          have H2 := hyd hl
          have H3 := hyd hf
          clear hl hf
          go_wp2_with (first | (go_at_call 66;refine (IL.out _ _).mono ?_;rintro e w' ⟨rfl,rfl⟩;rw [H2.out]) | (go_at_call 47;refine (IF.out _ _).mono ?_;rintro e w' ⟨rfl,rfl⟩;rw [H3.out]))
          go_round
          case rel => exact ⟨k + 1,by omega,by omega,by go_num,fun j hj => by rcases Nat.lt_succ_iff_lt_or_eq.1 hj with hj | rfl;exact HG.out j hj;first | exact .inl H2.out | exact .inr H3.out⟩
          case measure => simp [intOf];omega
      · have hsh := shape_good q1 (by omega) HL.out (fun j hj => HG.out j (by omega))
        have HS := hyd hsh
        clear hsh
        go_wp2
        all_goals
          go_ret
          go_light
          have hsh := HS.out
          refine ⟨ret_bool ?_,rfl⟩
          first | (simp [nameOk,hsh,kept,words, *];done) | (exfalso;simp_all;done)

/- The program's figuresAt: the number that stands at a place. For every text of at most 2^61 bytes. -/
set_option maxHeartbeats 1000000

def GotF (o : Option (Nat × List UInt8)) (t : ByteArray) (w : World) (e : Ending) (w' : World) : Prop :=
  (o = none ∧ e = .returned (.tuple #[.int .i64 0,.int .i64 (-1)]) ∧ w = w') ∨ ∃ (k z : Nat),o = some (k,t.data.toList.drop z) ∧ k ≤ 10000000000 ∧ z ≤ t.size ∧ e = .returned (.tuple #[.int .i64 k,.int .i64 z]) ∧ w = w'
theorem figsGo_in {t : ByteArray} {i k m : Nat} (h : i < t.size) (hf : fig (at_ t i) = true) (hk : k ≠ 10) : figsGo k m (t.data.toList.drop i) = figsGo (k + 1) (m * 10 + (at_ t i - 48)) (t.data.toList.drop (i + 1)) := by
  rw [drop_at h,figsGo,at_eq t i h,if_pos hf,if_neg hk]
theorem figsGo_ten {t : ByteArray} {i m : Nat} (h : i < t.size) (hf : fig (at_ t i) = true) : figsGo 10 m (t.data.toList.drop i) = none := by
  rw [drop_at h,figsGo,at_eq t i h,if_pos hf,if_pos rfl]
theorem figsGo_end {t : ByteArray} {i k m : Nat} (h : ¬ (i < t.size ∧ fig (at_ t i) = true)) (hi : i ≤ t.size) : figsGo k m (t.data.toList.drop i) = if k = 0 then none else some (m,t.data.toList.drop i) := by
  by_cases hl : i < t.size
  · have hf : ¬ fig (at_ t i) = true := fun hf => h ⟨hl,hf⟩
    rw [drop_at hl,figsGo,at_eq t i hl,if_neg hf]
  · obtain rfl : i = t.size := by omega
    rw [List.drop_of_length_le (by rw [← Lib.size_eq];exact Nat.le_refl _),figsGo]
theorem drop_len (t : ByteArray) (i : Nat) : (t.data.toList.drop i).length = t.size - i := by rw [List.length_drop,← Lib.size_eq]
theorem figuresAt_calls (t : ByteArray) (a : Nat) (w : World) (ha : a ≤ t.size) (ht : t.size ≤ 2305843009213693952) :
    Calls Tryz.prog 34 #[.string t,.int .i64 a] w (GotF (figs (t.data.toList.drop a)) t w) := by
  have IF := hyd isFig_calls
  obtain ⟨o,ho⟩ : ∃ o,o = figs (t.data.toList.drop a) := ⟨_,rfl⟩
  rw [← ho]
  have HO := hyd ho
  clear ho
  go_enter Tryz.func34,Tryz.ntmps34
  go_wp2
  go_loopg [6,7] (t.size + 1 - a) (fun g x n wr => ∃ e m : Nat,a ≤ e ∧ e ≤ t.size ∧ e - a ≤ 10 ∧ x = .int .i64 e ∧ n = .int .i64 m ∧ g = t.size + 1 - e ∧ m < 10 ^ (e - a) ∧ o = figsGo (e - a) m (t.data.toList.drop e) ∧ w = wr)
  case atStart => exact ⟨a,0,by omega,by omega,by omega,rfl,rfl,rfl,by simp,by rw [Nat.sub_self];exact HO.out,rfl⟩
  case round =>
    obtain ⟨e,m,hae,hk,h10,rfl,rfl,hg,hm,hs,rfl⟩ := hrel
    have HG := hyd hg
    have HS := hyd hs
    have HM := hyd hm
    have hm' : m ≤ 10000000000 := by
      have : 10 ^ (e - a) ≤ 10 ^ 10 := Nat.pow_le_pow_right (by omega) h10
      omega
    clear hg hs hm
    by_cases hf : e < t.size ∧ fig (at_ t e) = true
    · obtain ⟨hlt,hf⟩ := hf
      have e1 := at_eq t e hlt
      have e2 := at_lt t e
      have HF := hyd hf
      have hf' := hf
      simp only [fig,Bool.and_eq_true,decide_eq_true_eq] at hf'
      obtain ⟨f0,f1⟩ := hf'
      by_cases h10' : e - a = 10
      · have q1 : ((e : Int) - (a : Int) == 10) = true := by rw [beq_iff_eq];omega
        have HT := hyd h10'
        clear h10' hf
        go_wp2_with (go_at_call 47;refine (IF.out _ _).mono ?_;rintro e w' ⟨rfl,rfl⟩;rw [HF.out])
        go_ret2
        exact .inl ⟨by rw [HS.out,HT.out,figsGo_ten hlt HF.out],rfl,rfl⟩
      · have q1 : ((e : Int) - (a : Int) == 10) = false := by rw [beq_eq_false_iff_ne];omega
        clear hf
        go_wp2_with (go_at_call 47;refine (IF.out _ _).mono ?_;rintro e w' ⟨rfl,rfl⟩;rw [HF.out])
        go_roundg (gk - 1)
        case rel => exact ⟨e + 1,m * 10 + (at_ t e - 48),by omega,by omega,by omega,by go_num,by congr 1;omega,by have := HG.out;omega,by rw [show e + 1 - a = (e - a) + 1 by omega,Nat.pow_succ];have := HM.out;omega,by rw [HS.out,figsGo_in hlt HF.out h10',show e + 1 - a = (e - a) + 1 by omega],rfl⟩
        case measure => have := HG.out;omega
    · have HE := hyd (figsGo_end (k := e - a) (m := m) hf hk)
      have c1 : (e < t.size ∧ fig (at_ t e) = false) ∨ ¬ e < t.size := by
        by_cases hl : e < t.size
        · exact .inl ⟨hl,by rw [Bool.eq_false_iff];exact fun h => hf ⟨hl,h⟩⟩
        · exact .inr hl
      clear hf
      by_cases h0 : e = a
      · have q1 : ((e : Int) == (a : Int)) = true := by rw [beq_iff_eq];omega
        have H0 := hyd h0
        clear h0
        rcases c1 with ⟨hl,hf⟩ | hl
        · have e1 := at_eq t e hl
          have HF := hyd hf
          clear hf
          go_wp2_with (go_at_call 47;refine (IF.out _ _).mono ?_;rintro e w' ⟨rfl,rfl⟩;rw [HF.out])
          go_ret2
          exact .inl ⟨by rw [HS.out,HE.out,if_pos (by have := H0.out;omega)],rfl,rfl⟩
        · go_wp2_with (fail)
          go_ret2
          exact .inl ⟨by rw [HS.out,HE.out,if_pos (by have := H0.out;omega)],rfl,rfl⟩
      · have q1 : ((e : Int) == (a : Int)) = false := by rw [beq_eq_false_iff_ne];omega
        rcases c1 with ⟨hl,hf⟩ | hl
        · have e1 := at_eq t e hl
          have HF := hyd hf
          clear hf
          go_wp2_with (go_at_call 47;refine (IF.out _ _).mono ?_;rintro e w' ⟨rfl,rfl⟩;rw [HF.out])
          go_ret2
          exact .inr ⟨m,e,by rw [HS.out,HE.out,if_neg (by omega)],hm',hk,rfl,rfl⟩
        · go_wp2_with (fail)
          go_ret2
          exact .inr ⟨m,e,by rw [HS.out,HE.out,if_neg (by omega)],hm',hk,rfl,rfl⟩

/- The program's reading of values: valueAt,valuesAt. For every text of at most 2^61 bytes. -/
set_option maxRecDepth 20000
set_option maxHeartbeats 2000000

def Mid (a b : Nat) (k : Nat) : Prop := a ≤ k ∧ k < b
theorem rest_data (t : ByteArray) (b : Nat) : (t.extract b t.size).data.toList = t.data.toList.drop b := by
  rw [Lib.extract_data,List.take_of_length_le (by rw [List.length_drop,← Lib.size_eq];omega)]
theorem hpK {p : List UInt8} {t : ByteArray} {b : Nat} {v : Bool} (h : hasP p (t.data.toList.drop b) = v) : ∀ w,Calls Tryz.prog 35 #[.string (t.extract b t.size),.string ⟨p.toArray⟩] w (Quiet v w) := fun w =>
  (Tryz.strings_HasPrefix (t.extract b t.size) ⟨p.toArray⟩ w).mono fun e w' ⟨he,hw⟩ => ⟨by rw [he,rest_data,← h];rfl,hw.symm⟩
theorem hasP_pos {b : UInt8} {p : List UInt8} {t : ByteArray} {a : Nat} (h : hasP (b :: p) (t.data.toList.drop a) = true) (ha : a ≤ t.size) : a < t.size := by
  rcases Nat.lt_or_ge a t.size with h1 | h1
  · exact h1
  · rw [List.drop_of_length_le (by rw [← Lib.size_eq];exact h1)] at h;simp [hasP] at h
theorem hasP_len {p : List UInt8} {t : ByteArray} {a : Nat} (h : hasP p (t.data.toList.drop a) = true) (ha : a ≤ t.size) : a + p.length ≤ t.size := by
  have h := List.isPrefixOf_iff_prefix.1 h
  have := h.length_le
  rw [drop_len] at this
  omega
def GotV (o : Option (V × List UInt8)) (t : ByteArray) (w : World) (e : Ending) (w' : World) : Prop :=
  ∃ (v : V) (a : Option Addr) (c : Nat) (z : Int),e = .returned (.tuple #[.agg #[.int .i64 v.kind,.int .i64 v.num,.string v.text,.slice a v.list.length c],.int .i64 z]) ∧ Keep Any w w' ∧ SV w' (Mid w.heap.size w'.heap.size) v [.int .i64 v.kind,.int .i64 v.num,.string v.text,.slice a v.list.length c] ∧
    ((o = none ∧ z = -1) ∨ ∃ k : Nat,z = k ∧ k ≤ t.size ∧ o = some (v,t.data.toList.drop k))
def GotVs (o : Option (List V × List UInt8)) (t : ByteArray) (w : World) (e : Ending) (w' : World) : Prop :=
  ∃ (l : List V) (a : Option Addr) (c : Nat) (z : Int),e = .returned (.tuple #[.slice a l.length c,.int .i64 z]) ∧ Keep Any w w' ∧ SVs w' (Mid w.heap.size w'.heap.size) (.slice a l.length c) l ∧
    ((o = none ∧ z = -1 ∧ l = []) ∨ ∃ k : Nat,z = k ∧ k ≤ t.size ∧ o = some (l,t.data.toList.drop k))
def RdV (d : Nat) : Prop := ∀ (t : ByteArray) (a : Nat) (w : World),a ≤ t.size → t.size ≤ 2305843009213693952 → Calls Tryz.prog 71 #[.string t,.int .i64 a,.int .i64 d] w (GotV (rdV d (t.data.toList.drop a)) t w)
theorem infoValR : (Tryz.prog.info? 62).map (fun i => (i.zero,i.size,i.bytes)) = some (some (.agg #[.int .i64 0,.int .i64 0,.string ⟨#[]⟩,.slice none 0 0]),4,56) := by kernel_rfl
theorem SRow.form {α : Type} {sz : Nat} {R : World → (Nat → Prop) → α → List Value → Prop} {w : World} {base top : Nat} {T : TypeId} {v : Value} {l : List α} {css : List (List Value)} (h : SRow sz R w base top T v l css) : ∃ a c,v = .slice a l.length c ∧ (a = none → l.length = 0 ∧ c = 0) := by
  rcases h.own.2 with ⟨rfl,h0⟩ | ⟨g,cap,cur,rfl,_⟩
  · exact ⟨none,0,by rw [h0],fun _ => ⟨h0,rfl⟩⟩
  · exact ⟨_,cap,rfl,fun h => by cases h⟩
theorem SRow.top_le {α : Type} {sz : Nat} {R : World → (Nat → Prop) → α → List Value → Prop} {w : World} {base top : Nat} {T : TypeId} {v : Value} {l : List α} {css : List (List Value)} (h : SRow sz R w base top T v l css) : top ≤ w.heap.size := by
  obtain ⟨g,h1,h2,h3,h4,h5,h6,h7,h8,h9⟩ := h;exact h8
theorem new_cells (w : World) (cs : List Value) (T : TypeId) {b : Nat} (hb : b = w.heap.size) : ∀ j u,cs[j]? = some u → (w.alloc (.cells cs.toArray T)).cell? ((⟨b,0,none⟩ : Addr).add j) = some u := by
  subst hb
  intro j u hu
  have e : (⟨w.heap.size,0,none⟩ : Addr).add j = ⟨w.heap.size,j,none⟩ := by unfold Addr.add;split <;> simp_all
  rw [e,blk_cell (blk_new _ _)]
  simpa using hu
theorem rdVs_none {rd : List UInt8 → Option (V × List UInt8)} {f : Nat} {l : List UInt8} (h : rd l = none) : rdVs rd f l = none := by
  cases f with
  | zero => rfl
  | succ f => rw [rdVs,h]
theorem rdVs_last {rd : List UInt8 → Option (V × List UInt8)} {f : Nat} {l r : List UInt8} {v : V} (h : rd l = some (v,r)) (h1 : hasP [93] r = true) : rdVs rd (f + 1) l = some ([v],r.drop 1) := by rw [rdVs,h];simp only;rw [if_pos h1]
theorem rdVs_bad {rd : List UInt8 → Option (V × List UInt8)} {f : Nat} {l r : List UInt8} {v : V} (h : rd l = some (v,r)) (h1 : hasP [93] r = false) (h2 : hasP [44,32] r = false) : rdVs rd f l = none := by
  cases f with
  | zero => rfl
  | succ f => rw [rdVs,h];simp only;rw [h1,h2];rfl
theorem rdVs_more {rd : List UInt8 → Option (V × List UInt8)} {f : Nat} {l r : List UInt8} {v : V} (h : rd l = some (v,r)) (h1 : hasP [93] r = false) (h2 : hasP [44,32] r = true) : rdVs rd (f + 1) l = (rdVs rd f (r.drop 2)).map fun p => (v :: p.1,p.2) := by rw [rdVs,h];simp only;rw [h1,h2];rfl
theorem RdV.none' {d : Nat} (ih : RdV d) {t : ByteArray} {b : Nat} (hb : b ≤ t.size) (ht : t.size ≤ 2305843009213693952) (h : rdV d (t.data.toList.drop b) = none) :
    ∀ w,Calls Tryz.prog 71 #[.string t,.int .i64 b,.int .i64 d] w fun e w' => ∃ (v : V) (a : Option Addr) (c : Nat),e = .returned (.tuple #[.agg #[.int .i64 v.kind,.int .i64 v.num,.string v.text,.slice a v.list.length c],.int .i64 (-1)]) ∧ Keep Any w w' := fun w =>
  (ih t b w hb ht).mono fun e w' ⟨v,a,c,z,he,hK,hS,hz⟩ => by
    rcases hz with ⟨_,rfl⟩ | ⟨k,_,_,hk⟩
    · exact ⟨v,a,c,he,hK⟩
    · rw [h] at hk;cases hk
theorem RdV.some' {d : Nat} (ih : RdV d) {t : ByteArray} {b : Nat} (hb : b ≤ t.size) (ht : t.size ≤ 2305843009213693952) {v : V} {r : List UInt8} (h : rdV d (t.data.toList.drop b) = some (v,r)) :
    ∀ w,Calls Tryz.prog 71 #[.string t,.int .i64 b,.int .i64 d] w fun e w' => ∃ (a : Option Addr) (c k : Nat),e = .returned (.tuple #[.agg #[.int .i64 v.kind,.int .i64 v.num,.string v.text,.slice a v.list.length c],.int .i64 k]) ∧ Keep Any w w' ∧
      SV w' (Mid w.heap.size w'.heap.size) v [.int .i64 v.kind,.int .i64 v.num,.string v.text,.slice a v.list.length c] ∧ k ≤ t.size ∧ t.data.toList.drop k = r := fun w =>
  (ih t b w hb ht).mono fun e w' ⟨v',a,c,z,he,hK,hS,hz⟩ => by
    rcases hz with ⟨hn,_⟩ | ⟨k,rfl,h1,hk⟩
    · rw [h] at hn;cases hn
    · rw [h] at hk
      cases hk
      exact ⟨a,c,k,he,hK,hS,h1,rfl⟩
theorem valuesAt_of (d : Nat) (hd : d ≤ 3) (ih : RdV d) (t : ByteArray) (a most : Nat) (w : World) (ha : a ≤ t.size) (ht : t.size ≤ 2305843009213693952) (hm : most ≤ 6) :
    Calls Tryz.prog 96 #[.string t,.int .i64 a,.int .i64 most,.int .i64 d] w (GotVs (rdL (rdV d) most (t.data.toList.drop a)) t w) := by
  have IH := hyd ih
  clear ih
  obtain ⟨o,ho⟩ : ∃ o,o = rdL (rdV d) most (t.data.toList.drop a) := ⟨_,rfl⟩
  rw [← ho]
  rw [rdL,List.drop_drop,List.drop_drop] at ho
  rcases c1 : hasP [91] (t.data.toList.drop a) with _ | _
  · rw [c1] at ho
    have HO := hyd ho
    have H1 := hyd (hpK c1)
    clear ho c1
    go_enter Tryz.func96,Tryz.ntmps96
    go_wp2_with (go_at_call 35;refine (H1.out _).mono ?_;rintro e w' ⟨rfl,rfl⟩)
    go_ret2
    exact ⟨[],none,0,-1,rfl,Keep.refl _ _,SSl.nil,.inl ⟨HO.out,rfl,rfl⟩⟩
  · have hlt := hasP_pos c1 ha
    rw [if_pos c1] at ho
    have H1 := hyd (hpK c1)
    clear c1
    rcases c2 : hasP [93] (t.data.toList.drop (a + 1)) with _ | _
    · rw [c2] at ho
      have HO := hyd ho
      have H2 := hyd (hpK c2)
      clear ho c2
      obtain ⟨i0,hi,hzz⟩ := Option.map_eq_some_iff.1 infoValR
      simp only [Prod.mk.injEq] at hzz
      obtain ⟨hz0,hz1,hz2⟩ := hzz
      go_enter Tryz.func96,Tryz.ntmps96
      go_wp2_with (go_at_call 35;first | ((with_reducible refine (H1.out _).mono ?_);rintro e w' ⟨rfl,rfl⟩) | ((with_reducible refine (H2.out _).mono ?_);rintro e w' ⟨rfl,rfl⟩))
      go_loopg [1,10] (most + 1) (fun g x v wr => ∃ (acc : List V) (css : List (List Value)) (top b : Nat),b ≤ t.size ∧ acc.length ≤ most ∧ x = .int .i64 b ∧ g = most + 1 - acc.length ∧ SRow 4 SV wr w.heap.size top 62 v acc css ∧ Keep Any w wr ∧ o = (rdVs (rdV d) (most - acc.length) (t.data.toList.drop b)).map (fun p => (acc ++ p.1,p.2)))
      case atStart => exact ⟨[],[],w.heap.size,a + 1,by omega,by simp,by go_num,rfl,SRow.nil _ _ _ _ (Nat.le_refl _) (Nat.le_refl _),Keep.refl _ _,by rw [HO.out];simp⟩
      case round =>
        clear H1 H2
        obtain ⟨acc,css,top,b,hb,hl,rfl,hg,hS,hK,hr⟩ := hrel
        have HG := hyd hg
        have HR := hyd hr
        have HK := hyd hK
        obtain ⟨av,cv,rfl,hnil⟩ := hS.form
        have HS := hyd hS
        have HN := hyd hnil
        clear hg hr hS hnil hK
        by_cases hlt2 : acc.length < most
        · rcases hv : rdV d (t.data.toList.drop b) with _ | ⟨v1,r1⟩
          · have HV := hyd hv
            have RN := hyd (IH.out.none' hb ht hv)
            clear hv
            go_wp2_with (go_at_call 71;refine (RN.out _).mono ?_;rintro e w2 ⟨v,a2,c2,rfl,hK2⟩)
            go_ret2
            exact ⟨[],none,0,-1,rfl,(HK.out.trans hK2).alloc _,SSl.nil,.inl ⟨by rw [HR.out,rdVs_none HV.out];rfl,rfl,rfl⟩⟩
          · have HV := hyd hv
            have RS := hyd (IH.out.some' hb ht hv)
            clear hv
            rcases h3 : hasP [93] r1 with _ | _ <;> rcases h4 : hasP [44,32] r1 with _ | _
            all_goals
              have H3 := hyd h3
              have H4 := hyd h4
              clear h3 h4
              go_wp2_with (first | (go_at_call 71;refine (RS.out _).mono ?_;rintro e w2 ⟨a2,c2,k,rfl,hK2,hS2,hk,hkr⟩;have HS2 := hyd hS2;have P3 := hyd (hpK (p := [93]) (Eq.trans (congrArg (hasP [93]) hkr) H3.out));have P4 := hyd (hpK (p := [44,32]) (Eq.trans (congrArg (hasP [44,32]) hkr) H4.out));have HKR := hyd hkr;have HK2 := hyd hK2;clear hS2 hkr hK2) | (at_builtin;refine wpList_append_sep _ rfl _ _ 60 rfl w.heap.size 62 i0 _ 4 56 Tryz.underlying60 hi hz0 hz1 hz2 rfl (by decide) (.slice av acc.length cv) acc.length css.flatten rfl (rowV_keep HS.out ((HK2.out.alloc _).alloc _)).own ⟨w2.heap.size + 1,0,none⟩ 1 1 [.int .i64 v1.kind,.int .i64 v1.num,.string v1.text,.slice a2 v1.list.length c2] rfl rfl (new_cells _ _ _ (by simp)) (by simp [Value.oneCell']) (by unfold maxLen;omega) (by omega) (by have := HK.out.size;have := HK2.out.size;simp;omega) (by omega) ?_;intro v' w5 hown' hgrow hblk;have HS5 := hyd (rowV_snoc (rowV_keep HS.out ((HK2.out.alloc _).alloc _)) hown' hgrow hblk (HS2.out.keep (((Keep.refl _ _).alloc _).alloc _)) (fun i hi => ⟨Nat.le_trans HS.out.top_le hi.1,by have := hi.2;simp;omega⟩));have HK5 := hyd ((((HK.out.trans HK2.out).alloc _).alloc _).grown hgrow (fun i hi hlt => by have := (HS.out.own.lt i hi).1;omega));clear hown' hgrow hblk) | (go_at_call 35;first | ((with_reducible refine (P3.out _).mono ?_);rintro e w' ⟨rfl,rfl⟩) | ((with_reducible refine (P4.out _).mono ?_);rintro e w' ⟨rfl,rfl⟩)))
            · go_ret2
              exact ⟨[],none,0,-1,rfl,HK5.out,SSl.nil,.inl ⟨by rw [HR.out,rdVs_bad HV.out H3.out H4.out];rfl,rfl,rfl⟩⟩
            · have kl := hasP_len (t := t) (p := [44,32]) (Eq.trans (congrArg (hasP [44,32]) HKR.out) H4.out) hk
              go_roundg (gk - 1)
              case rel => exact ⟨acc ++ [v1],_,w5.heap.size,k + 2,by simpa using kl,by rw [List.length_append,List.length_singleton];omega,by go_num,by have := HG.out;rw [List.length_append,List.length_singleton];omega,HS5.out,HK5.out,by
                rw [HR.out,show most - acc.length = (most - (acc ++ [v1]).length) + 1 by rw [List.length_append,List.length_singleton];omega,rdVs_more HV.out H3.out H4.out,← HKR.out,List.drop_drop,Option.map_map]
                congr 1
                funext p
                simp⟩
              case measure => have := HG.out;omega
            · go_ret2
              obtain ⟨a',c',e',_⟩ := HS5.out.form
              have q := HS5.out
              rw [e'] at q ⊢
              have kl := hasP_len (t := t) (p := [93]) (Eq.trans (congrArg (hasP [93]) HKR.out) H3.out) hk
              exact ⟨acc ++ [v1],a',c',_,by rw [List.length_append];rfl,HK5.out,q.slice fun i h1 h2 => ⟨h1,h2⟩,.inr ⟨k + 1,by omega,by simpa using kl,by
                rw [HR.out,show most - acc.length = (most - acc.length - 1) + 1 by omega,rdVs_last HV.out H3.out,← HKR.out,List.drop_drop];rfl⟩⟩
            · go_ret2
              obtain ⟨a',c',e',_⟩ := HS5.out.form
              have q := HS5.out
              rw [e'] at q ⊢
              have kl := hasP_len (t := t) (p := [93]) (Eq.trans (congrArg (hasP [93]) HKR.out) H3.out) hk
              exact ⟨acc ++ [v1],a',c',_,by rw [List.length_append];rfl,HK5.out,q.slice fun i h1 h2 => ⟨h1,h2⟩,.inr ⟨k + 1,by omega,by simpa using kl,by
                rw [HR.out,show most - acc.length = (most - acc.length - 1) + 1 by omega,rdVs_last HV.out H3.out,← HKR.out,List.drop_drop];rfl⟩⟩
        · go_wp2
          go_ret2
          exact ⟨[],none,0,-1,rfl,HK.out,SSl.nil,.inl ⟨by rw [HR.out,show most - acc.length = 0 by omega];rfl,rfl,rfl⟩⟩
    · rw [c2] at ho
      have hlt2 := hasP_pos c2 (by omega)
      have HO := hyd ho
      have H2 := hyd (hpK c2)
      clear ho c2
      go_enter Tryz.func96,Tryz.ntmps96
      go_wp2_with (go_at_call 35;first | ((with_reducible refine (H1.out _).mono ?_);rintro e w' ⟨rfl,rfl⟩) | ((with_reducible refine (H2.out _).mono ?_);rintro e w' ⟨rfl,rfl⟩))
      go_ret2
      exact ⟨[],none,0,_,rfl,Keep.refl _ _,SSl.nil,.inr ⟨a + 2,by omega,by omega,HO.out⟩⟩

/- An own slice stays where another's block is written. -/
theorem SRow.keepB {α : Type} {sz : Nat} {R : World → (Nat → Prop) → α → List Value → Prop} {w w' : World} {base top b : Nat} {T : TypeId} {v : Value} {l : List α} {css : List (List Value)} (hk : ∀ {w w' ok x cs},R w ok x cs → Keep ok w w' → R w' ok x cs)
    (h : SRow sz R w base top T v l css) (k : Keep (But b) w w') (hb : b < base) : SRow sz R w' base top T v l css := by
  have hlt := fun i hi => (h.own.lt i hi).1
  obtain ⟨g,h1,h2,h3,h4,h5,h6,h7,h8,h9⟩ := h
  exact ⟨g,h1,h2.kept (row := some b) k.grownBy (by cases hv : v.ownBlock with | none => exact .inl rfl | some i => exact .inr (by intro e;cases e;have := hlt b hv;omega)),h3,fun j x cs hx hc => hk (h4 j x cs hx hc) (k.mono fun i _ hi => by have := (h5 j i hi).1;show i ≠ b;omega),h5,h6,h7,Nat.le_trans h8 k.size,h9⟩
theorem rowV_keepB {w w' : World} {base top b : Nat} {T : TypeId} {v : Value} {l : List V} {css : List (List Value)} (h : SRow 4 SV w base top T v l css) (k : Keep (But b) w w') (hb : b < base) : SRow 4 SV w' base top T v l css := SRow.keepB (R := SV) (fun h k => SV.keep h k) h k hb
def Drawn (c : Nat) (w : World) (b : Nat) (s : Value) (n p : Nat) (e : Ending) (w' : World) : Prop :=
  ∃ (v : V) (a : Option Addr) (m : Nat) (p' : Nat),e = .returned (.agg #[.int .i64 v.kind,.int .i64 v.num,.string v.text,.slice a v.list.length m]) ∧ SV w' (Mid w.heap.size w'.heap.size) v [.int .i64 v.kind,.int .i64 v.num,.string v.text,.slice a v.list.length m] ∧
    p ≤ p' ∧ p' ≤ p + c ∧ Rdr w' b s n p' ∧ Keep (But b) w w'
def cost : Nat → Nat
  | 0 => 4
  | d + 1 => 4 + 4 * cost d
def PlainD (d : Nat) : Prop := ∀ (w : World) (b : Nat) (s : Value) (n p : Nat),Rdr w b s n p → n ≤ 2000 → p + cost d ≤ 1000000 → Calls Tryz.prog 101 #[.pointer (some ⟨b,0,none⟩),.int .i64 d] w (Drawn (cost d) w b s n p)
def ValueD (d : Nat) : Prop := ∀ (w : World) (b : Nat) (s : Value) (n p : Nat),Rdr w b s n p → n ≤ 2000 → p + 2 * cost d ≤ 1000000 → Calls Tryz.prog 102 #[.pointer (some ⟨b,0,none⟩),.int .i64 d] w (Drawn (2 * cost d) w b s n p)
theorem strs_blkD {w : World} {ok : Nat → Prop} {b : Nat} {T : TypeId} {l : List ByteArray} (hh : w.heap[b]? = some (.cells ((l.map Value.string).toArray) T (0,0))) (hb : ok b) (hl : l.length ≤ 9223372036854775807) (hf : ∀ x,x ∈ l → Fits x) :
    SStrs w ok (.slice (some ⟨b,0,none⟩) l.length l.length) l :=
  ⟨_,_,rfl,Nat.le_refl _,hl,fun _ => ⟨b,T,_,fun _ _ => False,rfl,hb,hh,fun _ _ h => h.elim,fun _ _ _ _ h => h.elim,fun j x hx =>
    ⟨[.string x],⟨rfl,hf x (List.mem_of_getElem? hx)⟩,rfl,fun i u hu => by
      cases i with
      | zero => cases hu;simp [hx]
      | succ i => cases hu⟩⟩⟩

/- strconv.Itoa by its contract,where Go's table of powers of ten is laid;and that the table stays. For every int. -/

def Tab (w : World) : Prop := Lib.TabIs Tryz.prog w "internal/strconv.uint64pow10" .u64 Lib.pow10Tab
theorem gPow : Tryz.prog.globalNamed "internal/strconv.uint64pow10" = some 0 := by kernel_rfl
theorem Tab.lt {w : World} (h : Tab w) : 0 < w.heap.size := by
  unfold Tab Lib.TabIs World.var? at h
  rw [gPow] at h
  simp only [Option.bind_some] at h
  rcases Nat.lt_or_ge 0 w.heap.size with hl | hl
  · exact hl
  · rw [Array.getElem?_eq_none hl] at h;cases h
theorem Tab.keep {ok : Nat → Prop} {w w' : World} (h : Tab w) (k : Keep ok w w') (ho : ok 0) : Tab w' := by
  have hl := h.lt
  unfold Tab Lib.TabIs World.var? at h ⊢
  rw [gPow] at h ⊢
  simp only [Option.bind_some] at h ⊢
  rw [k.block _ hl ho]
  exact h
theorem keep_grow (w : World) (n : Nat) (os : Array Obj) : Keep Any w (Sort.grow (w.drewN n) os) :=
  ⟨rfl,rfl,rfl,by simp [Sort.grow],fun k hk _ => by simp only [Sort.grow,World.heap_drewN];rw [Array.getElem?_append_left hk]⟩
theorem itoa_calls (n : Int) (w : World) (h0 : -9223372036854775808 ≤ n) (h1 : n ≤ 9223372036854775807) (ht : Tab w) :
    Calls Tryz.prog 23 #[.int .i64 n] w (Str (Lib.itoa n) w) :=
  (Tryz.strconv_Itoa n h0 h1 w ht).mono fun e w' ⟨he,k,os,hw⟩ => ⟨he,hw ▸ keep_grow w k os⟩

/- A slice that a call makes and fills,place by place. No condition. -/

theorem make_run {P : Program} (t e : TypeId) (z : Value) (size bytes : Nat) (ht : P.underlying t = some (.slice e)) (hinfo : (P.info? e).map (fun i => (i.zero,i.size,i.bytes)) = some (some z,size,bytes)) (n : Nat) (hb : bytes * n ≤ 281474976710656) (hn : n ≤ 9223372036854775807) :
    ∀ W : World,(Instr.makeSlice t (.int .i64 (n : Int)) (.int .i64 (n : Int))).run P W = .ok (.slice (some ⟨W.heap.size,0,none⟩) n n) (W.alloc (.cells (madeCells z.cells (n * size)) e)) := by
  intro W
  obtain ⟨i,hi,hzz⟩ := Option.map_eq_some_iff.1 hinfo
  simp only [Prod.mk.injEq] at hzz
  obtain ⟨hz,hs,hb'⟩ := hzz
  subst hs
  have h1 : (i.bytes : Int) * (n : Int) ≤ 281474976710656 := by
    have h : ((i.bytes * n : Nat) : Int) ≤ 281474976710656 := by rw [hb'];omega
    rwa [Int.natCast_mul] at h
  have hr := run_make (P := P) W t e i z ht hi hz .i64 .i64 n n (by omega) (Int.le_refl _) h1 (by omega)
  simpa using hr
def Fill {α : Type} (sz : Nat) (R : α → List Value → Prop) (w : World) (g : Nat) (T : TypeId) (n : Nat) (l : List α) (k : Nat) : Prop :=
  ∃ cur,w.heap[g]? = some (.cells cur T (0,0)) ∧ cur.size = n * sz ∧ ∀ j x,j < k → l[j]? = some x → ∃ cs,R x cs ∧ cs.length = sz ∧ ∀ i u,cs[i]? = some u → cur[j * sz + i]? = some u
theorem Fill.made {α : Type} {sz : Nat} {R : α → List Value → Prop} {T : TypeId} {n : Nat} {l : List α} (w : World) (z : Array Value) : Fill sz R (w.alloc (.cells (madeCells z (n * sz)) T)) w.heap.size T n l 0 :=
  ⟨_,blk_new _ _,size_madeCells _ _,fun j x hj => by omega⟩
theorem Fill.keep {α : Type} {sz : Nat} {R R' : α → List Value → Prop} {w w' : World} {g : Nat} {T : TypeId} {n k : Nat} {l : List α} {ok : Nat → Prop} (h : Fill sz R w g T n l k) (hk : Keep ok w w') (ho : ok g) (hR : ∀ x cs,R x cs → R' x cs) : Fill sz R' w' g T n l k := by
  obtain ⟨cur,hb,hs,hf⟩ := h
  exact ⟨cur,blk_keep hk hb ho,hs,fun j x hj hx => by obtain ⟨cs,h1,h2,h3⟩ := hf j x hj hx;exact ⟨cs,hR x cs h1,h2,h3⟩⟩
theorem Fill.lt {α : Type} {sz : Nat} {R : α → List Value → Prop} {w : World} {g : Nat} {T : TypeId} {n k : Nat} {l : List α} (h : Fill sz R w g T n l k) : g < w.heap.size := by obtain ⟨cur,hb,_⟩ := h;exact blk_lt hb
theorem Fill.cell {α : Type} {sz : Nat} {R : α → List Value → Prop} {w w' : World} {g : Nat} {T : TypeId} {n k : Nat} {l : List α} {ok : Nat → Prop} (h : Fill sz R w g T n l k) (hk : Keep ok w w') (ho : ok g) (o : Nat) (hl : o < n * sz) : ∃ v,w'.cell? ⟨g,o,none⟩ = some v := by
  obtain ⟨cur,hb,hs,_⟩ := h
  exact ⟨_,(blk_cell (blk_keep hk hb ho) o).trans (Array.getElem?_eq_getElem (by omega))⟩
theorem Fill.free {α : Type} {sz : Nat} {R : α → List Value → Prop} {w w' : World} {g : Nat} {T : TypeId} {n k : Nat} {l : List α} {ok : Nat → Prop} (h : Fill sz R w g T n l k) (hk : Keep ok w w') (ho : ok g) (o : Nat) : w'.frozen? ⟨g,o,none⟩ = false := by
  obtain ⟨cur,hb,_⟩ := h
  exact blk_frozen (blk_keep hk hb ho) o
theorem Fill.snoc {α : Type} {sz : Nat} {R R' : α → List Value → Prop} {w w' : World} {g : Nat} {T : TypeId} {n k : Nat} {l : List α} {x : α} {cs : List Value} (h : Fill sz R w g T n l k) (hR : ∀ x cs,R x cs → R' x cs) (hx : l[k]? = some x) (hc : R' x cs) (hl : cs.length = sz)
    (hw : ∀ cur,w.heap[g]? = some (.cells cur T (0,0)) → cur.size = n * sz → ∃ cur',w'.heap[g]? = some (.cells cur' T (0,0)) ∧ cur'.size = cur.size ∧ (∀ i,i < k * sz → cur'[i]? = cur[i]?) ∧ ∀ i u,cs[i]? = some u → cur'[k * sz + i]? = some u) : Fill sz R' w' g T n l (k + 1) := by
  obtain ⟨cur,hb,hs,hf⟩ := h
  obtain ⟨cur',hb',hs',h1,h2⟩ := hw cur hb hs
  refine ⟨cur',hb',hs'.trans hs,fun j y hj hy => ?_⟩
  rcases Nat.lt_succ_iff_lt_or_eq.1 hj with hj | rfl
  · obtain ⟨ds,g1,g2,g3⟩ := hf j y hj hy
    refine ⟨ds,hR y ds g1,g2,fun i u hu => ?_⟩
    have hi : i < sz := by rw [← g2];exact (List.getElem?_eq_some_iff.1 hu).1
    rw [h1 _ (by calc j * sz + i < j * sz + sz := by omega
                      _ = (j + 1) * sz := by rw [Nat.add_mul,Nat.one_mul]
                      _ ≤ k * sz := Nat.mul_le_mul_right _ hj)]
    exact g3 i u hu
  · rw [hx] at hy;cases hy
    exact ⟨cs,hc,hl,h2⟩
theorem Fill.slice {α : Type} {sz : Nat} {R : α → List Value → Prop} {w : World} {g : Nat} {T : TypeId} {l : List α} (h : Fill sz R w g T l.length l l.length) (hn : l.length ≤ 9223372036854775807) {ok : Nat → Prop} (ho : ok g) : Sl sz R w ok (.slice (some ⟨g,0,none⟩) l.length l.length) l := by
  obtain ⟨cur,hb,hs,hf⟩ := h
  refine ⟨_,_,rfl,Nat.le_refl _,hn,fun _ => ⟨_,rfl,ho,fun j x hx => ?_⟩⟩
  obtain ⟨cs,h1,h2,h3⟩ := hf j x (List.getElem?_eq_some_iff.1 hx).1 hx
  refine ⟨cs,h1,h2,fun i u hu => ?_⟩
  have e : (⟨g,0,none⟩ : Addr).add (j * sz + i) = ⟨g,j * sz + i,none⟩ := by unfold Addr.add;split <;> simp_all
  rw [e,blk_cell hb]
  exact h3 i u hu

/- A value's text: the program's putOf and rowPut,and the reference's l1Put,write the same. For every value that is ok. -/
set_option maxRecDepth 20000

def PutOf (d : Nat) : Prop := ∀ (v : V) (cs : List Value) (w : World),VR w Any v cs → okV d v = true → Tab w → Calls Tryz.prog 32 #[.agg cs.toArray] w (Str v.put w)
theorem infoStrP : (Tryz.prog.info? 9).map (fun i => (i.zero,i.size,i.bytes)) = some (some (.string ⟨#[]⟩),1,16) := by kernel_rfl
theorem row_join (l : List UInt8) : (⟨#[91]⟩ : ByteArray) ++ ⟨l.toArray⟩ ++ ⟨#[93]⟩ = ⟨(91 :: (l ++ [93])).toArray⟩ := by
  apply ByteArray.ext
  simp [ByteArray.data_append]
theorem rowPut_of (d : Nat) (hd : d ≤ 3) (ih : PutOf d) (list : List V) (s : Value) (w : World) (hs : Vals w Any s list) (hl : list.length ≤ 6) (hok : ∀ x,x ∈ list → okV d x = true) (ht : Tab w) :
    Calls Tryz.prog 52 #[s] w (Str (rowTxt list) w) := by
  have HS := hyd hs
  have HOK := hyd hok
  have IH := hyd ih
  have HT := hyd ht
  clear ih ht hok
  obtain ⟨ad,c,rfl,hc,hm,_⟩ := hs
  have hmk := make_run (P := Tryz.prog) 41 9 _ 1 16 Tryz.underlying41 infoStrP list.length (by omega) (by omega)
  go_enter Tryz.func52,Tryz.ntmps52
  go_wp2
  go_loopg [11] (list.length + 1) (fun g i wr => ∃ k : Nat,k ≤ list.length ∧ i = .int .i64 k ∧ g = list.length + 1 - k ∧ Fill 1 (fun (x : V) cs => cs = [.string ⟨x.put.toArray⟩]) wr w.heap.size 9 list.length list k ∧ Keep Any w wr)
  case atStart => exact ⟨0,by omega,rfl,rfl,by simpa using Fill.made (sz := 1) w _,(Keep.refl _ _).alloc _⟩
  case round =>
    obtain ⟨k,hk,rfl,hg,hF,hK⟩ := hrel
    have HG := hyd hg
    clear hg
    by_cases hlt : k < list.length
    · have hx : list[k]? = some list[k] := List.getElem?_eq_getElem hlt
      have HX := hyd hx
      obtain ⟨ad,sa,sc,rfl,hvx,c0,c1,c2,c3⟩ := vals_at HS.out hK hx
      generalize list[k] = x at *
      have HV := hyd hvx
      have HF := hyd hF
      have HO := hyd (HOK.out x (List.mem_of_getElem? HX.out))
      clear hx hvx hF
      go_wp2_with (go_at_call 32;refine (IH.out _ _ _ (HV.out.keep ((Keep.refl _ _).alloc _)) HO.out ((HT.out.keep hK trivial).keep ((Keep.refl Any _).alloc _) trivial)).mono ?_;rintro e w2 ⟨rfl,hK2⟩;have hK3 := ((Keep.refl _ _).alloc _).trans hK2;obtain ⟨v0,d0⟩ := HF.out.cell hK3 trivial k (by omega);have f0 := HF.out.free hK3 trivial k)
      go_roundg (gk - 1)
      case rel => exact ⟨k + 1,by omega,by go_num,by have := HG.out;omega,by
        refine (HF.out.keep hK3 trivial fun _ _ h => h).snoc (fun _ _ h => h) HX.out rfl rfl fun cur hb hs => ⟨_,blk_set hb k _,by simp,fun i hi => by rw [Array.getElem?_setIfInBounds_ne (by omega)],fun i u hu => ?_⟩
        obtain ⟨rfl,rfl⟩ : i = 0 ∧ .string ⟨x.put.toArray⟩ = u := by cases i with | zero => exact ⟨rfl,by simpa using hu⟩ | succ i => simp at hu
        rw [show k * 1 + 0 = k by omega,Array.getElem?_setIfInBounds_self_of_lt (by omega)],(hK.trans hK3).set _ _ (fun h => by have : w.heap.size < w.heap.size := h;omega)⟩
      case measure => have := HG.out;omega
    · obtain rfl : k = list.length := by omega
      have HF := hyd hF
      have hb := join_len 1000000 (list.map V.put) fun x hx => by obtain ⟨y,hy,rfl⟩ := List.mem_map.1 hx;exact put_len3 (HOK.out y hy) hd
      have hb2 : (list.map V.put).length * (1000000 + 2) ≤ 6 * (1000000 + 2) := Nat.mul_le_mul_right _ (by simpa using hl)
      have hj : (Lib.join (list.map V.put) [44,32]).length ≤ 100000000 := by omega
      have ej : ((list.map fun x : V => (⟨x.put.toArray⟩ : ByteArray)).map (·.data.toList)) = list.map V.put := by simp
      have J := Tryz.strings_Join w.heap.size 0 list.length (list.map fun x : V => (⟨x.put.toArray⟩ : ByteArray)) ⟨#[44,32]⟩ wr (fun j x hx => by
        obtain ⟨cur,hb,hsz,hf⟩ := HF.out
        obtain ⟨v,hv,rfl⟩ := List.getElem?_map .. ▸ hx |> Option.map_eq_some_iff.1
        obtain ⟨cs,rfl,_,hcs⟩ := hf j v (List.getElem?_eq_some_iff.1 hv).1 hv
        rw [blk_cell hb]
        have := hcs 0 _ rfl
        simpa using this) HF.out.lt (by simp;omega) (by simp) (by rw [ej];exact Nat.le_trans hj (by omega))
      rw [ej,List.length_map] at J
      have JJ := hyd J
      clear hF hb hb2 ej J
      go_wp2_with (go_at_call 69;refine JJ.out.mono ?_;rintro e w2 ⟨rfl,hB⟩)
      go_ret
      exact ⟨congrArg (fun s => Ending.returned (.string s)) (row_join _),hK.trans (Keep.of_below hB)⟩
theorem lit_app (a : UInt8) (l : List UInt8) : (⟨#[a]⟩ : ByteArray) ++ ⟨l.toArray⟩ = ⟨(a :: l).toArray⟩ := by
  apply ByteArray.ext
  simp [ByteArray.data_append]
theorem quo_app (t : ByteArray) : (⟨#[39]⟩ : ByteArray) ++ t ++ ⟨#[39]⟩ = ⟨(39 :: (t.data.toList ++ [39])).toArray⟩ := by
  apply ByteArray.ext
  simp [ByteArray.data_append]
theorem putOf_of (d : Nat) (hd : d + 1 ≤ 3) (ih : PutOf d) : PutOf (d + 1) := by
  intro v cs w hv hok ht
  obtain ⟨kind,num,text,list⟩ := v
  obtain ⟨s,rfl,h1,h2,h3,hs⟩ := VR.iff.1 hv
  obtain ⟨n0,n1⟩ := okV_num hok
  have n0 : -1000000000 ≤ num := n0
  have n1 : num ≤ 1000000000 := n1
  have hlen := itoa_len2 num n0 n1
  have IT := hyd fun w h => itoa_calls num w (by omega) (by omega) h
  by_cases e4 : kind = 4
  · subst e4
    obtain ⟨hl,ha⟩ := okV_list hok
    rw [put_list]
    have R := hyd (rowPut_of d (by omega) ih list s _ (Vals.keep hs ((Keep.refl Any w).alloc (.cells #[.int .i64 4,.int .i64 num,.string text,s] 62 (0,0)))) hl ha (ht.keep ((Keep.refl Any _).alloc _) trivial))
    clear hs ha hv ih IT
    go_enter Tryz.func32,Tryz.ntmps32
    go_wp2_with (go_at_call 52;refine R.out.mono ?_;rintro e w2 ⟨rfl,hK2⟩)
    go_ret
    exact ⟨rfl,((Keep.refl _ _).alloc _).trans hK2⟩
  · have htx := okV_text hok
    have htx : kind = 3 → text.size ≤ 16 := htx
    have HT := hyd ht
    clear ht hs ih hv hok
    by_cases e1 : kind = 1
    · subst e1
      by_cases hn : num = 1
      · subst hn
        go_enter Tryz.func32,Tryz.ntmps32
        go_wp2
        go_ret
        exact ⟨by simp [V.put],(Keep.refl _ _).alloc _⟩
      · go_enter Tryz.func32,Tryz.ntmps32
        go_wp2
        go_ret
        exact ⟨by simp [V.put,hn],(Keep.refl _ _).alloc _⟩
    · by_cases e3 : kind = 3
      · have hq := htx e3
        subst e3
        go_enter Tryz.func32,Tryz.ntmps32
        go_wp2
        go_ret
        exact ⟨by rw [V.put];exact congrArg (fun s => Ending.returned (.string s)) (quo_app _),(Keep.refl _ _).alloc _⟩
      · clear htx
        by_cases e2 : kind = 2
        · subst e2
          go_enter Tryz.func32,Tryz.ntmps32
          go_wp2_with (go_at_call 23;refine (IT.out _ (HT.out.keep ((Keep.refl Any _).alloc _) trivial)).mono ?_;rintro e w2 ⟨rfl,hK2⟩)
          go_ret
          exact ⟨by rw [V.put];rfl,((Keep.refl _ _).alloc _).trans hK2⟩
        · by_cases e5 : kind = 5
          · subst e5
            go_enter Tryz.func32,Tryz.ntmps32
            go_wp2_with (go_at_call 23;refine (IT.out _ (HT.out.keep ((Keep.refl Any _).alloc _) trivial)).mono ?_;rintro e w2 ⟨rfl,hK2⟩)
            go_ret
            exact ⟨by rw [V.put];exact congrArg (fun s => Ending.returned (.string s)) (lit_app _ _),((Keep.refl _ _).alloc _).trans hK2⟩
          · by_cases e6 : kind = 6
            · subst e6
              go_enter Tryz.func32,Tryz.ntmps32
              go_wp2_with (go_at_call 23;refine (IT.out _ (HT.out.keep ((Keep.refl Any _).alloc _) trivial)).mono ?_;rintro e w2 ⟨rfl,hK2⟩)
              go_ret
              exact ⟨by rw [V.put];exact congrArg (fun s => Ending.returned (.string s)) (lit_app _ _),((Keep.refl _ _).alloc _).trans hK2⟩
            · go_enter Tryz.func32,Tryz.ntmps32
              go_wp2
              go_ret
              exact ⟨by rw [V.put,if_neg e1,if_neg e2,if_neg e3,if_neg e4,if_neg e5,if_neg e6];rfl,(Keep.refl _ _).alloc _⟩
theorem putOf_all : ∀ d,d ≤ 3 → PutOf d
  | 0,_ => fun v cs w _ h => by simp [okV] at h
  | d + 1,h => putOf_of d h (putOf_all d (by omega))
theorem putOf_calls : PutOf 3 := putOf_all 3 (by omega)

/- The number that figures are: the reference's l1Num. For every text of at most 2^62 bytes. -/

def L1Num (t : ByteArray) (w : World) (e : Ending) (w' : World) : Prop := e = .returned (.int .i64 (l1Num t)) ∧ w = w'
theorem l1Num_calls (t : ByteArray) (w : World) (ht : t.size ≤ 4611686018427387904) :
    Calls Tryz.prog 28 #[.string t] w (L1Num t w) := by
  go_enter Tryz.func28,Tryz.ntmps28
  go_wp2
  go_loop [3,4] (fun n i => ∃ k m : Nat,k ≤ t.size ∧ i = .int .i64 k ∧ n = .int .i64 m ∧ m < 10 ^ k ∧ k ≤ 10 ∧ numGo t 0 0 = numGo t k m) (fun _ i => t.size - (intOf i).toNat)
  case atStart => exact ⟨0,0,by omega,rfl,rfl,by omega,by omega,rfl⟩
  case round =>
    obtain ⟨k,m,hk,rfl,rfl,hm,h10,hg⟩ := hrel
    have HG := hyd hg
    clear hg
    have HM := hyd hm
    have hm' : m ≤ 10000000000 := by
      have : 10 ^ k ≤ 10 ^ 10 := Nat.pow_le_pow_right (by omega) h10
      omega
    clear hm
    by_cases hlt : k < t.size
    · have e1 := at_eq t k hlt
      have e2 := at_lt t k
      go_wp2
      · go_ret
        exact ⟨ret_int (l1Num_none (by rw [HG.out,numGo_none (by omega) (by omega)])),rfl⟩
      · go_round
        case rel => exact ⟨k + 1,m * 10 + (at_ t k - 48),by omega,by go_num,by congr 1;omega,by rw [Nat.pow_succ];have := HM.out;omega,by omega,by rw [HG.out,numGo_go (by omega) (by omega) (by omega) (by omega)]⟩
        case measure => simp [intOf];omega
      all_goals
        go_ret
        exact ⟨ret_int (l1Num_none (by rw [HG.out,numGo_none (by omega) (by omega)])),rfl⟩
    · have hk' : k = t.size := by omega
      have HE := hyd hk'
      clear hk'
      by_cases c0 : t.size = 0
      · have c1 := size_true t c0
        have C0 := hyd c0
        clear c0
        go_wp2
        go_ret
        exact ⟨ret_int (l1Num_bad (by rw [HG.out,numGo_end (by omega)]) (.inl C0.out)),rfl⟩
      · have c1 := size_false t c0
        have c2 : ¬ t = ByteArray.empty := fun h => c0 (by rw [h];rfl)
        have e1 := at_eq t 0 (by omega)
        by_cases c3 : 1 < t.size
        · by_cases c4 : at_ t 0 = 48
          · have c5 : (((at_ t 0 : Nat) : Int) == 48) = true := by simp [c4]
            have C4 := hyd c4
            clear c4
            go_wp2
            go_ret
            exact ⟨ret_int (l1Num_bad (by rw [HG.out,numGo_end (by omega)]) (.inr ⟨c3,C4.out⟩)),rfl⟩
          · have c5 : (((at_ t 0 : Nat) : Int) == 48) = false := by simp;omega
            go_wp2
            go_ret
            exact ⟨ret_int (l1Num_some (by rw [HG.out,numGo_end (by omega)]) (by omega)),rfl⟩
        · go_wp2
          go_ret
          exact ⟨ret_int (l1Num_some (by rw [HG.out,numGo_end (by omega)]) (by omega)),rfl⟩

theorem l1Num_bd (t : ByteArray) : -1 ≤ l1Num t ∧ l1Num t ≤ 10000000000 := by
  have key : ∀ (d i n : Nat),t.size - i = d → (n < 10 ^ i ∧ i ≤ 10) → ∀ r,numGo t i n = some r → r ≤ 10000000000 := by
    intro d
    induction d with
    | zero =>
      intro i n hd hn r hr
      rw [numGo_end (by omega)] at hr
      cases hr
      have := Nat.pow_le_pow_right (show 0 < 10 by omega) hn.2
      omega
    | succ d ih =>
      intro i n hd hn r hr
      by_cases h : at_ t i < 48 ∨ 57 < at_ t i ∨ 10 ≤ i
      · rw [numGo_none (by omega) h] at hr;cases hr
      · rw [numGo_go (by omega) (by omega) (by omega) (by omega)] at hr
        exact ih (i + 1) _ (by omega) ⟨by rw [Nat.pow_succ];omega,by omega⟩ r hr
  unfold l1Num
  split
  · omega
  · rename_i n hn
    have := key _ 0 0 rfl ⟨by omega,by omega⟩ n hn
    split <;> omega

/- A value is stored into a block of one's own: the block's cells behind it,all else as it was. No condition. -/
theorem setCells_in (g : Nat) (T : TypeId) : ∀ (vs : List Value) (o : Nat) (w : World) (old : Array Value),w.heap[g]? = some (.cells old T (0,0)) →
    (w.setCells g o vs).heap[g]? = some (.cells (vs.foldl (fun (s : Array Value × Nat) v => (s.1.setIfInBounds s.2 v,s.2 + 1)) (old,o)).1 T (0,0)) ∧ Keep (But g) w (w.setCells g o vs)
  | [],o,w,old,h => ⟨h,Keep.refl _ _⟩
  | v :: r,o,w,old,h => by
    obtain ⟨h1,h2⟩ := setCells_in g T r (o + 1) _ _ (blk_set h o v)
    rw [World.setCells]
    exact ⟨h1,((Keep.refl (But g) w).set _ _ (fun _ h => h rfl)).trans h2⟩
def putAt (old : Array Value) (o : Nat) (vs : List Value) : Array Value := (old.toList.take o ++ vs ++ old.toList.drop (o + vs.length)).toArray
theorem putAt_fold : ∀ (vs : List Value) (o : Nat) (old : Array Value),o + vs.length ≤ old.size → (vs.foldl (fun (s : Array Value × Nat) v => (s.1.setIfInBounds s.2 v,s.2 + 1)) (old,o)).1 = putAt old o vs
  | [],o,old,h => by simp [putAt]
  | v :: r,o,old,h => by
    rw [List.length_cons] at h
    rw [List.foldl_cons,putAt_fold r (o + 1) (old.setIfInBounds o v) (by simp;omega)]
    have ho : o < old.toList.length := by rw [Array.length_toList];omega
    unfold putAt
    congr 1
    rw [Array.toList_setIfInBounds,List.set_eq_take_append_cons_drop,if_pos ho]
    have hl : (old.toList.take o).length = o := by rw [List.length_take];omega
    generalize old.toList.take o = A at *
    have hA : (A ++ [v]).length = o + 1 := by rw [List.length_append,hl];rfl
    rw [show A ++ v :: old.toList.drop (o + 1) = (A ++ [v]) ++ old.toList.drop (o + 1) by simp,List.take_left' hA,List.drop_append,List.drop_eq_nil_of_le (by rw [hA];omega),hA,show o + 1 + r.length - (o + 1) = r.length by omega,List.nil_append,List.drop_drop,List.length_cons,
      show o + 1 + r.length = o + (r.length + 1) by omega]
    simp
section
variable {P : Program}
theorem run_store_in (w : World) (g o : Nat) (ty T : TypeId) (old : Array Value) (v : Value) (cells : Array Value) (hv : v.cells = cells) (hg : w.heap[g]? = some (.cells old T (0,0))) (hsz : o + cells.size ≤ old.size)
    (hi : (P.info? ty).map (·.size) = some cells.size) (h1 : cells.all (·.oneCell') = true) : (storeVar ty ⟨g,o,none⟩ v).run P w = .ok () (w.setCells g o cells.toList) := by
  have ht : w.there g o cells.size := fun j hj => by
    rw [blk_cell hg,blk_frozen hg]
    exact ⟨by rw [Array.getElem?_eq_getElem (by omega)];rfl,rfl⟩
  have := run_storeCells_cells (P := P) g o cells.toList 0 w (fun j hj => by simpa using (ht j (by simpa using hj)).1) (fun j hj => by simpa using (ht j (by simpa using hj)).2)
    (fun v hv => (Array.all_eq_true_iff_forall_mem.1 h1) v (by simpa using hv))
  cases hq : P.info? ty with
  | none => simp [hq] at hi
  | some i =>
    have hs : cells.size = i.size := by simp [hq] at hi;omega
    simp only [Nat.add_zero] at this
    simp [storeVar,sizeOf,typeInfo,hq,hv,hs,this]
theorem wp_store_in {op : Oper} {a : Act} {w : World} {K : Act → World → Prop} {Q : Exit → Act → World → Prop} (ty : TypeId) (x y : Operand) (ho : op.op = .store ty x y)
    (g o : Nat) (T : TypeId) (old : Array Value) (v : Value) (cells new : Array Value) (hx : a.eval x = .pointer (some ⟨g,o,none⟩)) (hy : a.eval y = v) (hv : v.cells = cells) (hg : w.heap[g]? = some (.cells old T (0,0))) (hsz : o + cells.size ≤ old.size)
    (hi : (P.info? ty).map (·.size) = some cells.size) (h1 : cells.all (·.oneCell') = true) (hnew : putAt old o cells.toList = new)
    (h : ∀ w',w'.heap[g]? = some (.cells new T (0,0)) → Keep (But g) w w' → K (a.put op.dst undef) w') : op.wp P a w K Q := by
  obtain ⟨h2,h3⟩ := setCells_in g T cells.toList o w old hg
  rw [show (cells.toList.foldl (fun (s : Array Value × Nat) v => (s.1.setIfInBounds s.2 v,s.2 + 1)) (old,o)).1 = new from (putAt_fold _ _ _ (by simpa using hsz)).trans hnew] at h2
  have := h _ h2 h3
  unfold Oper.wp execOp
  simp only [ho,hx,hy,Instr.storeAt,Instr.sureAddr,Sem.run_bind,Sem.run_pure,Result.andThen_ok,run_store_in w g o ty T old v cells hv hg hsz hi h1]
  exact this
theorem wpList_store_in {ops : Array Oper} {rest : List Oper} {op : Oper} {a : Act} {w : World} {Q : Exit → Act → World → Prop} (hgd : op.guard = none) (ty : TypeId) (x y : Operand) (ho : op.op = .store ty x y)
    (g o : Nat) (T : TypeId) (old : Array Value) (v : Value) (cells new : Array Value) (hx : a.eval x = .pointer (some ⟨g,o,none⟩)) (hy : a.eval y = v) (hv : v.cells = cells) (hg : w.heap[g]? = some (.cells old T (0,0))) (hsz : o + cells.size ≤ old.size)
    (hi : (P.info? ty).map (·.size) = some cells.size) (h1 : cells.all (·.oneCell') = true) (hnew : putAt old o cells.toList = new)
    (h : ∀ w',w'.heap[g]? = some (.cells new T (0,0)) → Keep (But g) w w' → wpList P ops Q rest (a.put op.dst undef) w') : wpList P ops Q (op :: rest) a w :=
  wpList_plain hgd fun _ hK => wp_store_in ty x y ho g o T old v cells new hx hy hv hg hsz hi h1 hnew fun w' h2 h3 => hK _ _ (h w' h2 h3)
end
theorem at_store {P : Program} {ops : Array Oper} {Q : Exit → Act → World → Prop} {rest : List Oper} {d : Option Tmp} {t : TypeId} {ps : String} {af} {a : Act} {w : World} (ty : TypeId) (x y : Operand)
    (h : wpList P ops Q ({ dst := d,op := .store ty x y,type := t,pos := ps,after := af,guard := none } :: rest) a w) : wpList P ops Q ({ dst := d,op := .store ty x y,type := t,pos := ps,after := af,guard := none } :: rest) a w := h
theorem at_args {P : Program} {f : FuncId} {w : World} {R : Ending → World → Prop} (args : Array Value) (h : Calls P f args w R) : Calls P f args w R := h
theorem at_load {P : Program} {ops : Array Oper} {Q : Exit → Act → World → Prop} {rest : List Oper} {d : Option Tmp} {t : TypeId} {ps : String} {af} {a : Act} {w : World} (ty : TypeId) (x : Operand)
    (h : wpList P ops Q ({ dst := d,op := .load ty x,type := t,pos := ps,after := af,guard := none } :: rest) a w) : wpList P ops Q ({ dst := d,op := .load ty x,type := t,pos := ps,after := af,guard := none } :: rest) a w := h

/- What an append does,by its run;nothing behind nothing. No condition. -/
section
variable {P : Program} (w : World)
theorem wp_append_by {o : Oper} {a : Act} {K : Act → World → Prop} {Q : Exit → Act → World → Prop} (s x : Operand) (t : TypeId)
    (ho : o.op = .call { callee := .builtin .append,args := #[s,x],argTypes := #[t,t] }) (v y v' : Value) (w' : World) (hs : a.eval s = v) (hx : a.eval x = y)
    (hr : (Builtin.append_ #[t,t] o.type #[v,y]).run P w = .ok v' w') (h : K (a.put o.dst v') w') : o.wp P a w K Q := by
  unfold Oper.wp execOp
  simp only [ho,resolve,invoke,builtin,Sem.run_bind,Sem.run_pure,Result.andThen_ok,List.map_toArray,List.map_cons,List.map_nil,hs,hx,hr]
  exact h
theorem wpList_append_by {ops : Array Oper} {rest : List Oper} {o : Oper} {a : Act} {Q : Exit → Act → World → Prop} (hgd : o.guard = none) (s x : Operand) (t : TypeId)
    (ho : o.op = .call { callee := .builtin .append,args := #[s,x],argTypes := #[t,t] }) (v y v' : Value) (w' : World) (hs : a.eval s = v) (hx : a.eval x = y)
    (hr : (Builtin.append_ #[t,t] o.type #[v,y]).run P w = .ok v' w') (h : wpList P ops Q rest (a.put o.dst v') w') : wpList P ops Q (o :: rest) a w :=
  wpList_plain hgd fun _ hK => wp_append_by w s x t ho v y v' w' hs hx hr (hK _ _ h)
theorem step_append_by {ops : Array Oper} {o : Oper} {a : Act} {K : Act → World → Prop} {Q : Exit → Act → World → Prop} {E : Prop} (hgd : o.guard = none) (s x : Operand) (t : TypeId)
    (ho : o.op = .call { callee := .builtin .append,args := #[s,x],argTypes := #[t,t] }) (v y v' : Value) (w' : World) (hs : a.eval s = v) (hx : a.eval x = y)
    (hr : (Builtin.append_ #[t,t] o.type #[v,y]).run P w = .ok v' w') (h : K (a.put o.dst v') w') : if Region.wanted o (yielded ops a.tmps) = true then Oper.wp P o a w K Q else E := by
  have hw : Region.wanted o (yielded ops a.tmps) = true := by simp [Region.wanted,hgd]
  rw [if_pos hw]
  exact wp_append_by w s x t ho v y v' w' hs hx hr h
end
end Go.Proofs.YtjopkcjpedgoaaaGreatDoor

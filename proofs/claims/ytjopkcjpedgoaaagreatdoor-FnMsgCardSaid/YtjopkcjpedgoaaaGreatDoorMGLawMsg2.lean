/- Which lists of cells are ok: the program's cellsOk. For every list. The text of what is said, as a plain function. For every message. How long the text is of what is said. For every message. The reading of what is said, as plain functions: the program's and the reference's; each finds a message again in its text, so both find the same. No condition. A message is read back from its text. For every message. -/
import Derived.Test.YtjopkcjpedgoaaaGreatDoorMG0
import Derived.Test.YtjopkcjpedgoaaaGreatDoorMGLawMsg0
import Derived.Test.YtjopkcjpedgoaaaGreatDoorMG1
import Derived.Test.YtjopkcjpedgoaaaGreatDoorMG5
import Derived.WideMake
/- Which lists of cells are ok: the program's cellsOk. For every list. -/
namespace Go.Proofs.YtjopkcjpedgoaaaGreatDoor
open Go.RowKit
set_option linter.unusedVariables false
set_option linter.unusedSimpArgs false
set_option maxRecDepth 20000
set_option maxHeartbeats 1000000
theorem okCells_bad {l : List Ce} {k : Nat} (hk : k < l.length) (h : cellGood l k = false) : okCells l = false :=
  List.all_eq_false.2 ⟨k,List.mem_range.2 hk,by rw [h];decide⟩
theorem okCells_good {l : List Ce} (h : ∀ k,k < l.length → cellGood l k = true) : okCells l = true := List.all_eq_true.2 fun k hk => h k (List.mem_range.1 hk)
theorem cellGood_at {l : List Ce} {k : Nat} {x : Ce} (h : l[k]? = some x) : cellGood l k = (nameOk x.name && okV 3 x.val && !((l.take k).any fun d => decide (d.name = x.name))) := by rw [cellGood,h]
theorem any_name {l : List Ce} {s : ByteArray} : (l.any fun d => decide (d.name = s)) = true ↔ s ∈ l.map Ce.name := by
  rw [List.any_eq_true,List.mem_map]
  constructor
  · rintro ⟨x,hx,h⟩;exact ⟨x,hx,by simpa using h⟩
  · rintro ⟨x,hx,h⟩;exact ⟨x,hx,by simpa using h⟩
theorem name_fits {t : ByteArray} (h : nameOk t = true) : Fits t := by
  simp only [nameOk,nameShape,Bool.and_eq_true,decide_eq_true_eq] at h
  unfold Fits;omega
theorem good_name {l : List Ce} {j : Nat} {y : Ce} (h : cellGood l j = true) (hy : l[j]? = some y) : nameOk y.name = true := by
  rw [cellGood_at hy] at h
  simp only [Bool.and_eq_true] at h
  exact h.1.1
theorem cellsOk_calls (l : List Ce) (s : Value) (w : World) (hs : Ces w Any s l) : Calls Tryz.prog 50 #[s] w (Tells (okCells l) w) := by
  have HS := hyd hs
  have IN := hyd nameOk_calls
  have IV := hyd valueOk_calls
  obtain ⟨ad,c,rfl,hc,hm,_⟩ := hs
  have mk := run_makeMap_plain (P := Tryz.prog) (w := w) 99
  go_enter Tryz.func50,Tryz.ntmps50
  go_wp2
  go_loopg [9] (l.length + 1) (fun g i wr => ∃ k : Nat,k ≤ l.length ∧ i = .int .i64 k ∧ g = l.length + 1 - k ∧ (∀ j,j < k → cellGood l j = true) ∧ Seen wr w.heap.size ((l.take k).map Ce.name) ∧ Keep Any w wr)
  case atStart => exact ⟨0,by omega,rfl,rfl,fun j hj => by omega,Seen.made w,(Keep.refl _ _).alloc _⟩
  case round =>
    obtain ⟨k,hk,rfl,hg,hall,hS,hK⟩ := hrel
    have HG := hyd hg
    have HA := hyd hall
    have SE := hyd hS
    clear hg hall hS
    by_cases hlt : k < l.length
    · have hx : l[k]? = some l[k] := List.getElem?_eq_getElem hlt
      have HX := hyd hx
      obtain ⟨ad,sa,sc,rfl,hF,hvx,c0,c1,c2,c3,c4⟩ := ces_at HS.out hK hx
      generalize l[k] = x at *
      have HV := hyd hvx
      have hcg := cellGood_at hx
      have CG := hyd hcg
      clear hx hvx hcg
      rcases hq : nameOk x.name with _ | _
      · have HQ := hyd hq
        clear hq
        go_wp2_with (go_at_call 49;refine (IN.out _ _ hF).mono ?_;rintro e w2 ⟨rfl,rfl⟩;rw [HQ.out])
        go_ret
        exact ⟨ret_bool (by rw [okCells_bad hlt (by rw [CG.out,HQ.out];rfl)]),hK.alloc _⟩
      · have HQ := hyd hq
        clear hq
        rcases hq2 : okV 3 x.val with _ | _
        · have HQ2 := hyd hq2
          clear hq2
          go_wp2_with (first | (go_at_call 49;refine (IN.out _ _ hF).mono ?_;rintro e w2 ⟨rfl,rfl⟩;rw [HQ.out]) | (go_at_call 67;refine (IV.out _ _ _ (HV.out.keep ((Keep.refl _ _).alloc _))).mono ?_;rintro e w2 ⟨rfl,hK2⟩;rw [HQ2.out]))
          go_ret
          exact ⟨ret_bool (by rw [okCells_bad hlt (by rw [CG.out,HQ.out,HQ2.out];rfl)]),(hK.alloc _).trans hK2⟩
        · have HQ2 := hyd hq2
          clear hq2
          have HL := hyd (fun (y : ByteArray) (hy : y ∈ (l.take k).map Ce.name) => by
            obtain ⟨z,hz,rfl⟩ := List.mem_map.1 hy
            obtain ⟨j,hj,rfl⟩ := List.getElem_of_mem hz
            have hj' : j < k := by have := hj;rw [List.length_take] at this;omega
            rw [List.getElem_take]
            exact name_fits (good_name (HA.out j hj') (List.getElem?_eq_getElem (by omega))) : ∀ y,y ∈ (l.take k).map Ce.name → Fits y)
          by_cases hin : x.name ∈ (l.take k).map Ce.name
          · have HI := hyd hin
            clear hin
            go_wp2_with (first | (go_at_call 49;refine (IN.out _ _ hF).mono ?_;rintro e w2 ⟨rfl,rfl⟩;rw [HQ.out]) | (go_at_call 67;refine (IV.out _ _ _ (HV.out.keep ((Keep.refl _ _).alloc _))).mono ?_;rintro e w2 ⟨rfl,hK2⟩;rw [HQ2.out];have lk := (seen_lookup Tryz.underlying9 Tryz.underlying99 Tryz.zeroValue3 (SE.out.keep (((Keep.refl Any _).alloc _).trans hK2) trivial) HL.out hF).1 HI.out;have x0 := blk_cell (blk_keep hK2 (blk_new _ _) trivial) 0;simp only [List.getElem?_toArray,List.getElem?_cons_succ,List.getElem?_cons_zero] at x0))
            go_ret
            exact ⟨ret_bool (by rw [okCells_bad hlt (by rw [CG.out,HQ.out,HQ2.out,any_name.2 HI.out];rfl)]),(hK.alloc _).trans hK2⟩
          · have HI := hyd hin
            clear hin
            have gd : cellGood l k = true := by
              rw [CG.out,HQ.out,HQ2.out]
              cases hh : (l.take k).any fun d => decide (d.name = x.name) with
              | false => rfl
              | true => exact absurd (any_name.1 hh) HI.out
            have GD := hyd gd
            clear gd
            go_wp2_with (first | (go_at_call 49;refine (IN.out _ _ hF).mono ?_;rintro e w2 ⟨rfl,rfl⟩;rw [HQ.out]) | (go_at_call 67;refine (IV.out _ _ _ (HV.out.keep ((Keep.refl _ _).alloc _))).mono ?_;rintro e w2 ⟨rfl,hK2⟩;rw [HQ2.out];have SE2 := hyd (SE.out.keep (((Keep.refl Any _).alloc _).trans hK2) trivial);have lk := (seen_lookup Tryz.underlying9 Tryz.underlying99 Tryz.zeroValue3 SE2.out HL.out hF).2 HI.out;obtain ⟨w3,up,hS3,hK3⟩ := seen_update Tryz.underlying9 Tryz.underlying99 SE2.out HL.out hF HI.out;have SE3 := hyd hS3;clear hS3;have x0 := blk_cell (blk_keep hK2 (blk_new _ _) trivial) 0;simp only [List.getElem?_toArray,List.getElem?_cons_succ,List.getElem?_cons_zero] at x0))
            go_roundg (gk - 1)
            case rel => exact ⟨k + 1,by omega,by go_num,by have := HG.out;omega,fun j hj => by rcases Nat.lt_succ_iff_lt_or_eq.1 hj with hj | rfl;exact HA.out j hj;exact GD.out,by have := SE3.out;rw [List.take_add_one,HX.out];simpa using this,((hK.alloc _).trans hK2).then hK3 (fun i hi _ => by show i ≠ w.heap.size;omega)⟩
            case measure => have := HG.out;omega
    · obtain rfl : k = l.length := by omega
      have E1 := hyd (okCells_good HA.out)
      go_wp2
      go_ret
      exact ⟨ret_bool (by rw [E1.out]),hK⟩

/- The text of what is said,as a plain function. For every message. -/
def numTxt (n : Int) : List UInt8 := Lib.itoa n ++ [32]
def ceTxt (c : Ce) : List UInt8 := 10 :: (c.name.data.toList ++ 61 :: c.val.put)
def givenTxt (l : List Ce) (k : Nat) : List UInt8 := ((l.take k).map ceTxt).flatten
def headTxt (m : Ms) : List UInt8 := numTxt m.kind ++ (numTxt m.num ++ numTxt m.text.size)
def sayUpto (m : Ms) (k : Nat) : List UInt8 := headTxt m ++ (m.text.data.toList ++ givenTxt m.given k)
def sayTxt (m : Ms) : List UInt8 := sayUpto m m.given.length
def msgTxt (m : Ms) : List UInt8 := if okM m then sayTxt m else []
theorem givenTxt_succ {l : List Ce} {k : Nat} {x : Ce} (h : l[k]? = some x) : givenTxt l (k + 1) = givenTxt l k ++ ceTxt x := by
  rw [givenTxt,givenTxt,List.take_add_one,h];simp
theorem sayUpto_succ {m : Ms} {k : Nat} {x : Ce} (h : m.given[k]? = some x) : sayUpto m (k + 1) = sayUpto m k ++ ceTxt x := by
  rw [sayUpto,sayUpto,givenTxt_succ h];simp
theorem ceTxt_len {c : Ce} (h1 : nameOk c.name = true) (h2 : okV 3 c.val = true) : (ceTxt c).length ≤ 1000010 := by
  have := name_size h1
  have h3 := put_len3 h2 (by omega)
  rw [Lib.size_eq] at this
  simp only [ceTxt,List.length_cons,List.length_append]
  omega
theorem givenTxt_len {l : List Ce} {k : Nat} (hl : l.length ≤ 5) (h : ∀ x,x ∈ l → nameOk x.name = true ∧ okV 3 x.val = true) : (givenTxt l k).length ≤ 5000050 := by
  have := flat_len (b := 1000010) ((l.take k).map ceTxt) fun x hx => by
    obtain ⟨y,hy,rfl⟩ := List.mem_map.1 hx
    obtain ⟨h1,h2⟩ := h y (List.mem_of_mem_take hy)
    exact ceTxt_len h1 h2
  have h2 : ((l.take k).map ceTxt).length ≤ 5 := by simp;omega
  have h3 : ((l.take k).map ceTxt).length * 1000010 ≤ 5 * 1000010 := Nat.mul_le_mul_right _ h2
  rw [givenTxt]
  omega
theorem okM_facts {m : Ms} (h : okM m = true) : 1 ≤ m.kind ∧ m.kind ≤ 9 ∧ 0 ≤ m.num ∧ m.num ≤ 60 ∧ m.text.size ≤ 1000 ∧ m.given.length ≤ 5 ∧ ∀ x,x ∈ m.given → nameOk x.name = true ∧ okV 3 x.val = true := by
  obtain ⟨kind,text,given,num⟩ := m
  have tx : text.toList = [] → text.size ≤ 1000 := fun e => by
    rw [ByteArray.toList_eq] at e
    rw [Lib.size_eq,e];simp
  by_cases k1 : kind = 1
  · subst k1
    simp [okM] at h
    obtain ⟨⟨h1,h2⟩,h3⟩ := h
    subst h3
    have h2 : given = [] := by simpa using h2
    subst h2
    have := name_size h1
    exact ⟨by simp,by simp,by simp,by simp,by simp only;omega,by simp,fun x hx => by cases hx⟩
  by_cases k2 : kind = 2
  · subst k2
    simp [okM] at h
    obtain ⟨⟨⟨h1,h2⟩,h3⟩,h4⟩ := h
    subst h4
    refine ⟨by simp,by simp,by simp,by simp,by simp only;omega,by simp only;omega,fun x hx => ?_⟩
    obtain ⟨j,hj,rfl⟩ := List.getElem_of_mem hx
    have hg := List.all_eq_true.1 h3 j (List.mem_range.2 hj)
    rw [cellGood_at (List.getElem?_eq_getElem hj)] at hg
    simp only [Bool.and_eq_true] at hg
    exact hg.1
  by_cases k3 : kind = 3
  · subst k3
    simp [okM] at h
    obtain ⟨⟨⟨h1,h2⟩,h3⟩,h4⟩ := h
    have h2 : given = [] := by simpa using h2
    subst h2
    exact ⟨by simp,by simp,by simp only;omega,by simp only;omega,tx (by simpa using h1),by simp,fun x hx => by cases hx⟩
  by_cases k4 : 4 ≤ kind ∧ kind ≤ 9
  · simp only [okM] at h
    rw [if_neg k1,if_neg k2,if_neg k3,if_pos k4] at h
    simp at h
    obtain ⟨⟨h1,h2⟩,h3⟩ := h
    subst h3
    have h2 : given = [] := by simpa using h2
    subst h2
    exact ⟨by simp only;omega,by simp only;omega,by simp,by simp,tx (by simpa using h1),by simp,fun x hx => by cases hx⟩
  · simp only [okM] at h
    rw [if_neg k1,if_neg k2,if_neg k3,if_neg k4] at h
    cases h
theorem numTxt_len (n : Int) (h0 : -1000000000 ≤ n) (h1 : n ≤ 1000000000) : (numTxt n).length ≤ 22 := by
  have := itoa_len2 n h0 h1
  simp [numTxt];omega
theorem headTxt_len {m : Ms} (h : okM m = true) : (headTxt m).length ≤ 66 := by
  obtain ⟨a,b,c,d,e,_⟩ := okM_facts h
  have := numTxt_len m.kind (by omega) (by omega)
  have := numTxt_len m.num (by omega) (by omega)
  have := numTxt_len m.text.size (by omega) (by omega)
  simp only [headTxt,List.length_append];omega
theorem sayUpto_len {m : Ms} {k : Nat} (h : okM m = true) : (sayUpto m k).length ≤ 6000000 := by
  obtain ⟨a,b,c,d,e,f,g⟩ := okM_facts h
  have := headTxt_len h
  have := givenTxt_len (k := k) f g
  rw [Lib.size_eq] at e
  simp only [sayUpto,List.length_append];omega

/- How long the text is of what is said. For every message. -/
def pm : Nat → Nat
  | 0 => 21
  | d + 1 => 6 * (pm d + 2) + 2
theorem putm : ∀ (d : Nat) (v : V),okV d v = true → v.put.length ≤ pm d
  | 0,v,h => by simp [okV] at h
  | d + 1,v,h => by
    have hn := okV_num h
    have ht := okV_text h
    have hp : ∀ d,21 ≤ pm d := fun d => by
      induction d with
      | zero => exact Nat.le_refl _
      | succ d ih => rw [pm];omega
    have hp := hp d
    rw [pm]
    obtain ⟨k,n,t,l⟩ := v
    by_cases h4 : k = 4
    · subst h4
      obtain ⟨hl,ha⟩ := okV_list h
      rw [put_list]
      have := rowTxt_len fun x hx => putm d x (ha x hx)
      have : l.length * (pm d + 2) ≤ 6 * (pm d + 2) := Nat.mul_le_mul_right _ hl
      omega
    · have hi := itoa_len2 n hn.1 hn.2
      have ht : k = 3 → t.size ≤ 16 := ht
      simp only [Lib.size_eq] at ht
      rw [V.put]
      rw [if_neg h4]
      (repeat' split) <;> (try simp only [List.length_cons,List.length_append,List.length_nil]) <;> (try have := ht ‹_›) <;> omega
theorem putm3 {v : V} (h : okV 3 v = true) : v.put.length ≤ 6000 := Nat.le_trans (putm 3 v h) (by decide)
theorem ceTxt_m {c : Ce} (h1 : nameOk c.name = true) (h2 : okV 3 c.val = true) : (ceTxt c).length ≤ 6020 := by
  have := name_size h1
  have h3 := putm3 h2
  rw [Lib.size_eq] at this
  simp only [ceTxt,List.length_cons,List.length_append]
  omega
theorem msgTxt_size (m : Ms) : (msgTxt m).length ≤ 40000 := by
  rw [msgTxt]
  split
  · rename_i h
    obtain ⟨k1,k2,n1,n2,ht,hg,hx⟩ := okM_facts h
    have l1 := itoa_len2 m.kind (by omega) (by omega)
    have l2 := itoa_len2 m.num (by omega) (by omega)
    have l3 := itoa_len2 m.text.size (by omega) (by omega)
    have hgv : (givenTxt m.given m.given.length).length ≤ 30100 := by
      have := flat_len (b := 6020) ((m.given.take m.given.length).map ceTxt) fun x hx' => by
        obtain ⟨y,hy,rfl⟩ := List.mem_map.1 hx'
        obtain ⟨h1,h2⟩ := hx y (List.mem_of_mem_take hy)
        exact ceTxt_m h1 h2
      have h2 : ((m.given.take m.given.length).map ceTxt).length ≤ 5 := by simp;omega
      have h3 : ((m.given.take m.given.length).map ceTxt).length * 6020 ≤ 30100 := Nat.le_trans (Nat.mul_le_mul_right _ h2) (by decide)
      rw [givenTxt]
      exact Nat.le_trans this h3
    rw [Lib.size_eq] at ht
    simp only [sayTxt,sayUpto,headTxt,numTxt,List.length_append,List.length_cons,List.length_nil]
    omega
  · simp

/- The reading of what is said,as plain functions: the program's and the reference's;each finds a message again in its text,so both find the same. No condition. -/

def lineOf : List UInt8 → List UInt8
  | [] => []
  | b :: r => if b = 10 then [] else b :: lineOf r
theorem lineOf_app {rest : List UInt8} (hr : ∀ b r,rest = b :: r → b = 10) : ∀ {l : List UInt8},(∀ b,b ∈ l → b ≠ 10) → lineOf (l ++ rest) = l
  | [],_ => by
    cases rest with
    | nil => rfl
    | cons b r => rw [List.nil_append,lineOf,if_pos (hr b r rfl)]
  | b :: l,h => by
    rw [List.cons_append,lineOf,if_neg (h b (List.mem_cons_self ..)),lineOf_app hr (fun c hc => h c (List.mem_cons_of_mem _ hc))]
theorem lineOf_le : ∀ l : List UInt8,(lineOf l).length ≤ l.length
  | [] => Nat.le_refl _
  | b :: l => by
    have := lineOf_le l
    rw [lineOf]
    split
    · simp
    · simp only [List.length_cons];omega
theorem lineOf_cut (l : List UInt8) : lineOf l = match cutAt 10 l with | some (a,_) => a | none => l := by
  induction l with
  | nil => rfl
  | cons b l ih =>
    rw [lineOf,cutAt]
    by_cases h : b = 10
    · rw [if_pos h,if_pos h]
    · rw [if_neg h,if_neg h,ih]
      cases cutAt 10 l with
      | none => rfl
      | some p => rfl
def gvs : Nat → List UInt8 → Option (List Ce)
  | f,l => if l = [] then some [] else match f with
    | 0 => none
    | f + 1 => if l.headD 0 = 10 then (match cutAt 61 (lineOf (l.drop 1)) with
      | none => none
      | some (nm,x) => match valGet x with
        | none => none
        | some v => (gvs f (l.drop (1 + (lineOf (l.drop 1)).length))).map fun g => ⟨⟨nm.toArray⟩,v⟩ :: g) else none
def scells : Nat → List UInt8 → Option (List Ce)
  | f,l => if l = [] then some [] else match f with
    | 0 => none
    | f + 1 => if l.headD 0 = 10 then (match cutAt 61 (l.drop 1) with
      | none => none
      | some (nm,rest) => match valGet (lineOf rest) with
        | none => none
        | some v => (scells f (rest.drop (lineOf rest).length)).map fun g => ⟨⟨nm.toArray⟩,v⟩ :: g) else none
theorem name_bytes {t : ByteArray} (h : nameOk t = true) : ∀ b,b ∈ t.data.toList → letter b.toNat = true ∨ fig b.toNat = true := by
  simp only [nameOk,nameShape,Bool.and_eq_true] at h
  intro b hb
  obtain ⟨i,hi,rfl⟩ := List.getElem_of_mem hb
  have hs : i < t.size := by rw [Lib.size_eq];exact hi
  have := List.all_eq_true.1 h.1.2 i (List.mem_range.2 hs)
  rw [Bool.or_eq_true] at this
  have e : at_ t i = (t.data.toList[i]).toNat := by
    rw [← at_eq t i hs]
    have : t[i] = t.data.toList[i] := rfl
    rw [this]
  rwa [e] at this
theorem name_no {t : ByteArray} (h : nameOk t = true) : ∀ b,b ∈ t.data.toList → b ≠ 61 ∧ b ≠ 10 ∧ b ≠ 32 := by
  intro b hb
  rcases name_bytes h b hb with h | h
  · refine ⟨?_,?_,?_⟩ <;> (rintro rfl;revert h;decide)
  · refine ⟨?_,?_,?_⟩ <;> (rintro rfl;revert h;decide)
theorem fig_no10 {b : UInt8} (h : fig b.toNat = true) : b ≠ 10 := fig_ne h rfl
theorem joinTail_no {c : UInt8} (hc : c ≠ 44 ∧ c ≠ 32) : ∀ xs : List (List UInt8),(∀ x,x ∈ xs → c ∉ x) → c ∉ Lib.joinTail [44,32] xs
  | [],_ => by simp [Lib.joinTail]
  | x :: xs,h => by
    have := joinTail_no hc xs fun y hy => h y (List.mem_cons_of_mem _ hy)
    have e : Lib.joinTail [44,32] (x :: xs) = [44,32] ++ x ++ Lib.joinTail [44,32] xs := by simp [Lib.joinTail]
    rw [e]
    simp only [List.mem_append,List.mem_cons,List.not_mem_nil,or_false,not_or]
    exact ⟨⟨⟨hc.1,hc.2⟩,h x (List.mem_cons_self ..)⟩,this⟩
theorem join_no {c : UInt8} (hc : c ≠ 44 ∧ c ≠ 32) (xs : List (List UInt8)) (h : ∀ x,x ∈ xs → c ∉ x) : c ∉ Lib.join xs [44,32] := by
  cases xs with
  | nil => simp [Lib.join_nil]
  | cons x r =>
    rw [Lib.join_cons,List.mem_append,not_or]
    exact ⟨h x (List.mem_cons_self ..),joinTail_no hc r fun y hy => h y (List.mem_cons_of_mem _ hy)⟩
theorem put_no10 : ∀ (d : Nat) (v : V),okV d v = true → (10 : UInt8) ∉ v.put
  | 0,v,h => by simp [okV] at h
  | d + 1,v,h => by
    cases okV_cases h with
    | null => rw [put_vN0];decide
    | no => rw [put_no];decide
    | yes => rw [put_yes];decide
    | num n h0 h1 =>
      by_cases hn : 0 ≤ n
      · obtain ⟨m,rfl⟩ := Int.eq_ofNat_of_zero_le hn
        rw [put_num,itoa_nat]
        exact fun h => fig_no10 (dec_figs m _ h) rfl
      · obtain ⟨m,rfl⟩ : ∃ m : Nat,n = -(m : Int) := ⟨n.natAbs,by omega⟩
        rw [put_num,itoa_neg (by omega),List.mem_cons,not_or]
        exact ⟨by decide,fun h => fig_no10 (dec_figs m _ h) rfl⟩
    | text t ht =>
      rw [put_text]
      simp only [List.mem_cons,List.mem_append,List.not_mem_nil,or_false,not_or]
      exact ⟨by decide,fun h => by have := (text_no ht 10 h).1;revert this;decide,by decide⟩
    | list l hl hx =>
      rw [put_list,rowTxt]
      simp only [List.mem_cons,List.mem_append,List.not_mem_nil,or_false,not_or]
      exact ⟨by decide,join_no (by decide) _ fun x hm => by obtain ⟨y,hy,rfl⟩ := List.mem_map.1 hm;exact put_no10 d y (hx y hy),by decide⟩
    | node n hn =>
      rw [put_node,itoa_nat,List.mem_cons,not_or]
      exact ⟨by decide,fun h => fig_no10 (dec_figs n _ h) rfl⟩
    | edge n hn =>
      rw [put_edge,itoa_nat,List.mem_cons,not_or]
      exact ⟨by decide,fun h => fig_no10 (dec_figs n _ h) rfl⟩
theorem cells_behind (l : List Ce) : ∀ b r,(l.map ceTxt).flatten = b :: r → b = 10 := by
  intro b r e
  cases l with
  | nil => cases e
  | cons c l => simp [ceTxt] at e;exact e.1.symm
theorem eta_ce (c : Ce) : (⟨⟨c.name.data.toList.toArray⟩,c.val⟩ : Ce) = c := by cases c;simp
theorem valGet_put {v : V} (h : okV 3 v = true) : valGet v.put = some v := valGet_iff.2 ⟨h,rfl⟩
theorem gvs_put : ∀ (l : List Ce) (f : Nat),l.length ≤ f → (∀ c,c ∈ l → nameOk c.name = true ∧ okV 3 c.val = true) → gvs f (l.map ceTxt).flatten = some l
  | [],f,_,_ => by unfold gvs;simp
  | c :: l,f,hf,h => by
    obtain ⟨f,rfl⟩ : ∃ g,f = g + 1 := ⟨f - 1,by simp at hf;omega⟩
    obtain ⟨hn,hv⟩ := h c (List.mem_cons_self ..)
    have ih := gvs_put l f (by simp only [List.length_cons] at hf;omega) fun d hd => h d (List.mem_cons_of_mem _ hd)
    have e : ((c :: l).map ceTxt).flatten = 10 :: ((c.name.data.toList ++ 61 :: c.val.put) ++ (l.map ceTxt).flatten) := by simp [ceTxt]
    have hl : lineOf ((c.name.data.toList ++ 61 :: c.val.put) ++ (l.map ceTxt).flatten) = c.name.data.toList ++ 61 :: c.val.put := by
      refine lineOf_app (cells_behind l) fun b hb => ?_
      rcases List.mem_append.1 hb with hb | hb
      · exact (name_no hn b hb).2.1
      · rcases List.mem_cons.1 hb with rfl | hb
        · decide
        · exact fun e => put_no10 3 _ hv (e ▸ hb)
    have hc : cutAt 61 (c.name.data.toList ++ 61 :: c.val.put) = some (c.name.data.toList,c.val.put) := cutAt_app fun hm => (name_no hn _ hm).1 rfl
    rw [e]
    unfold gvs
    rw [if_neg (by simp)]
    simp only [List.headD_cons,List.drop_one,List.tail_cons,if_true,hl,hc,valGet_put hv]
    have e2 : (10 :: ((c.name.data.toList ++ 61 :: c.val.put) ++ (l.map ceTxt).flatten)).drop (1 + (c.name.data.toList ++ 61 :: c.val.put).length) = (l.map ceTxt).flatten := by
      rw [Nat.add_comm,List.drop_succ_cons,List.drop_left]
    rw [e2,ih]
    simp [eta_ce]
theorem scells_put : ∀ (l : List Ce) (f : Nat),l.length ≤ f → (∀ c,c ∈ l → nameOk c.name = true ∧ okV 3 c.val = true) → scells f (l.map ceTxt).flatten = some l
  | [],f,_,_ => by unfold scells;simp
  | c :: l,f,hf,h => by
    obtain ⟨f,rfl⟩ : ∃ g,f = g + 1 := ⟨f - 1,by simp at hf;omega⟩
    obtain ⟨hn,hv⟩ := h c (List.mem_cons_self ..)
    have ih := scells_put l f (by simp only [List.length_cons] at hf;omega) fun d hd => h d (List.mem_cons_of_mem _ hd)
    have e : ((c :: l).map ceTxt).flatten = 10 :: (c.name.data.toList ++ 61 :: (c.val.put ++ (l.map ceTxt).flatten)) := by simp [ceTxt]
    have hc : cutAt 61 (c.name.data.toList ++ 61 :: (c.val.put ++ (l.map ceTxt).flatten)) = some (c.name.data.toList,c.val.put ++ (l.map ceTxt).flatten) := cutAt_app fun hm => (name_no hn _ hm).1 rfl
    have hl : lineOf (c.val.put ++ (l.map ceTxt).flatten) = c.val.put := lineOf_app (cells_behind l) fun b hb e => put_no10 3 _ hv (e ▸ hb)
    rw [e]
    unfold scells
    rw [if_neg (by simp)]
    simp only [List.headD_cons,List.drop_one,List.tail_cons,if_true,hl,hc,valGet_put hv,List.drop_left,ih]
    simp [eta_ce]
def fig1 (l : List UInt8) : Option (Nat × List UInt8) := match figs l with
  | none => none
  | some (n,r) => if hasP [32] r then some (n,r.drop 1) else none
theorem fig1_dec {n : Nat} (h : n < 10000000000) (rest : List UInt8) : fig1 (Lib.decDigits n ++ 32 :: rest) = some (n,rest) := by
  unfold fig1
  rw [figs_dec h (fun b r e => by cases e;rfl)]
  simp [hasP]
def msgOf (l : List UInt8) (m : Ms) : Option Ms := if okM m = true ∧ sayTxt m = l then some m else none
def msgGet3 (l : List UInt8) (a b c : Nat) (r : List UInt8) : Option Ms := if r.length < c then none else match gvs 5 (r.drop c) with
  | none => none
  | some g => msgOf l ⟨a,⟨(r.take c).toArray⟩,g,b⟩
def msgGet (l : List UInt8) : Option Ms := match fig1 l with
  | none => none
  | some (a,r1) => match fig1 r1 with
    | none => none
    | some (b,r2) => match fig1 r2 with
      | none => none
      | some (c,r3) => msgGet3 l a b c r3
def smsgGet3 (l : List UInt8) (a b c : Int) (r : List UInt8) : Option Ms := if c < 0 ∨ (r.length : Int) < c then none else match scells 6 (r.drop c.toNat) with
  | none => none
  | some g => msgOf l ⟨a,⟨(r.take c.toNat).toArray⟩,g,b⟩
def smsgGet (l : List UInt8) : Option Ms := match cutAt 32 l with
  | none => none
  | some (a,r1) => match cutAt 32 r1 with
    | none => none
    | some (b,r2) => match cutAt 32 r2 with
      | none => none
      | some (c,r3) => smsgGet3 l (numL a) (numL b) (numL c) r3
theorem msgOf_iff {l : List UInt8} {m x : Ms} : msgOf l m = some x ↔ m = x ∧ okM x = true ∧ sayTxt x = l := by
  unfold msgOf
  constructor
  · intro h;split at h
    · cases h;exact ⟨rfl,by assumption⟩
    · cases h
  · rintro ⟨rfl,h⟩;rw [if_pos h]
theorem msgGet_sound {l : List UInt8} {m : Ms} (h : msgGet l = some m) : okM m = true ∧ sayTxt m = l := by
  unfold msgGet msgGet3 at h
  (repeat' split at h) <;> first | cases h | exact (msgOf_iff.1 h).2
theorem smsgGet_sound {l : List UInt8} {m : Ms} (h : smsgGet l = some m) : okM m = true ∧ sayTxt m = l := by
  unfold smsgGet smsgGet3 at h
  (repeat' split at h) <;> first | cases h | exact (msgOf_iff.1 h).2
theorem sayTxt_eq {m : Ms} {a b : Nat} (ha : m.kind = a) (hb : m.num = b) : sayTxt m = Lib.decDigits a ++ 32 :: (Lib.decDigits b ++ 32 :: (Lib.decDigits m.text.size ++ 32 :: (m.text.data.toList ++ (m.given.map ceTxt).flatten))) := by
  simp [sayTxt,sayUpto,headTxt,numTxt,givenTxt,ha,hb,itoa_nat]
theorem eta_ms {m : Ms} {a b : Nat} (ha : m.kind = a) (hb : m.num = b) : (⟨a,⟨m.text.data.toList.toArray⟩,m.given,b⟩ : Ms) = m := by cases m;simp at ha hb;simp [ha,hb]
theorem msgGet_put {m : Ms} (h : okM m = true) : msgGet (sayTxt m) = some m := by
  obtain ⟨g1,g2,g3,g4,g5,g6,g7⟩ := okM_facts h
  obtain ⟨a,ha⟩ := Int.eq_ofNat_of_zero_le (show 0 ≤ m.kind by omega)
  obtain ⟨b,hb⟩ := Int.eq_ofNat_of_zero_le (show 0 ≤ m.num by omega)
  have ha : m.kind = a := ha
  have hb : m.num = b := hb
  have hs := m.text.size
  have e := sayTxt_eq ha hb
  have hg := gvs_put m.given 5 g6 g7
  unfold msgGet
  rw [e,fig1_dec (by omega)]
  simp only
  rw [fig1_dec (by omega)]
  simp only
  rw [fig1_dec (by omega)]
  simp only
  rw [← e,msgGet3,if_neg (by rw [List.length_append,Lib.size_eq];omega),Lib.size_eq,List.drop_left,hg,List.take_left]
  simp only
  rw [eta_ms ha hb]
  exact msgOf_iff.2 ⟨rfl,h,rfl⟩
theorem dec_32 (n : Nat) : (32 : UInt8) ∉ Lib.decDigits n := fun h => fig_ne (dec_figs n _ h) (c := 32) rfl rfl
theorem smsgGet_put {m : Ms} (h : okM m = true) : smsgGet (sayTxt m) = some m := by
  obtain ⟨g1,g2,g3,g4,g5,g6,g7⟩ := okM_facts h
  obtain ⟨a,ha⟩ := Int.eq_ofNat_of_zero_le (show 0 ≤ m.kind by omega)
  obtain ⟨b,hb⟩ := Int.eq_ofNat_of_zero_le (show 0 ≤ m.num by omega)
  have ha : m.kind = a := ha
  have hb : m.num = b := hb
  have e := sayTxt_eq ha hb
  have hg := scells_put m.given 6 (by omega) g7
  unfold smsgGet
  rw [e,cutAt_app (dec_32 _)]
  simp only
  rw [cutAt_app (dec_32 _)]
  simp only
  rw [cutAt_app (dec_32 _)]
  simp only
  rw [← e,smsgGet3,numL_dec (by omega),numL_dec (by omega),numL_dec (by omega),if_neg (by rw [List.length_append,Lib.size_eq];omega),Int.toNat_natCast,Lib.size_eq,List.drop_left,hg,List.take_left]
  simp only
  rw [eta_ms ha hb]
  exact msgOf_iff.2 ⟨rfl,h,rfl⟩
theorem msgGet_iff {l : List UInt8} {m : Ms} : msgGet l = some m ↔ okM m = true ∧ sayTxt m = l := ⟨msgGet_sound,by rintro ⟨h,rfl⟩;exact msgGet_put h⟩
theorem smsgGet_iff {l : List UInt8} {m : Ms} : smsgGet l = some m ↔ okM m = true ∧ sayTxt m = l := ⟨smsgGet_sound,by rintro ⟨h,rfl⟩;exact smsgGet_put h⟩
theorem smsgGet_eq (l : List UInt8) : smsgGet l = msgGet l := opt_ext fun v => by rw [smsgGet_iff,msgGet_iff]

/- A message is read back from its text. For every message. -/
theorem sayTxt_pos (m : Ms) : sayTxt m ≠ [] := by
  simp [sayTxt,sayUpto,headTxt,numTxt]
theorem msgGet_put' (m : Ms) : (okM m = true ∧ msgTxt m ≠ [] ∧ msgGet (msgTxt m) = some m) ∨ (okM m = false ∧ msgTxt m = [] ∧ msgGet (msgTxt m) = none) := by
  rcases h : okM m with _ | _
  · have e : msgTxt m = [] := by rw [msgTxt,h];rfl
    refine .inr ⟨rfl,e,?_⟩
    rw [e]
    rcases hg : msgGet [] with _ | x
    · rfl
    · exact absurd (msgGet_iff.1 hg).2 (sayTxt_pos x)
  · have e : msgTxt m = sayTxt m := by rw [msgTxt,h];rfl
    exact .inl ⟨rfl,by rw [e];exact sayTxt_pos m,by rw [e];exact msgGet_put h⟩
theorem msgGet_back {l : List UInt8} {m : Ms} (h : msgGet l = some m) : msgTxt m = l := by
  obtain ⟨h1,h2⟩ := msgGet_iff.1 h
  rw [msgTxt,h1]
  exact h2
end Go.Proofs.YtjopkcjpedgoaaaGreatDoor

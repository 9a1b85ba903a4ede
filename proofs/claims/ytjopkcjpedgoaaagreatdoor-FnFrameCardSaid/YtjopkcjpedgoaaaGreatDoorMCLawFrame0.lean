/- Bytes that can be read, to begin a reader with. No condition. Which replies have a form, as a plain function. A reply's text, as a plain function. For every reply. A map of one's own, from texts to numbers, that holds 1 for each text seen. No condition. A text with a cut, or one sign more: some text at most one byte longer. A frame's text: the program's FramePut and the reference's write the same. For every body. A frame is read back, whatever stands behind it; no beginning of it is; what is read was written just so. For every body and text. What the reference's FrameGet computes, and the number that figures are. For every text of at most 2^62 bytes. -/
import Derived.Test.YtjopkcjpedgoaaaGreatDoorMC1
import Derived.Test.YtjopkcjpedgoaaaGreatDoorMC0
import Derived.WideKeyMaps2
import Derived.Laws.IdiomMaps
import Derived.Deep.RegionLaw
/- Bytes that can be read,to begin a reader with. No condition. -/
namespace Go.Proofs.YtjopkcjpedgoaaaGreatDoor
open Go.RowKit
set_option linter.unusedVariables false
def BytIn (w : World) (s : Value) (n : Nat) : Prop :=
  ∃ (a : Option Addr) (c : Nat),s = .slice a n c ∧ n ≤ c ∧ c ≤ 9223372036854775807 ∧ (0 < n → ∃ ad : Addr,a = some ad ∧ ∀ i,i < n → ∃ x : Nat,x < 256 ∧ w.cell? (ad.add i) = some (.int .u8 x))
theorem BytIn.keep {w w' : World} {s : Value} {n : Nat} (h : BytIn w s n) (k : Keep Any w w') : BytIn w' s n := by
  obtain ⟨a,c,rfl,h1,h2,h3⟩ := h
  refine ⟨a,c,rfl,h1,h2,fun hn => ?_⟩
  obtain ⟨ad,rfl,hf⟩ := h3 hn
  exact ⟨ad,rfl,fun i hi => by obtain ⟨x,hx,hc⟩ := hf i hi;exact ⟨x,hx,k.cell hc trivial⟩⟩
theorem BytIn.byt {w : World} {s : Value} {n b : Nat} (h : BytIn w s n) (hb : w.heap.size ≤ b) : Byt w b s n := by
  obtain ⟨a,c,rfl,h1,h2,h3⟩ := h
  refine ⟨a,c,rfl,h1,h2,fun hn => ?_⟩
  obtain ⟨ad,rfl,hf⟩ := h3 hn
  refine ⟨ad,rfl,fun e => ?_,hf⟩
  obtain ⟨x,hx,hc⟩ := hf 0 hn
  have := World.block_lt_of_cell? w _ hc
  rw [add_block] at this
  omega

/- Which replies have a form,as a plain function. -/
end Go.Proofs.YtjopkcjpedgoaaaGreatDoor

/- A reply's text,as a plain function. For every reply. -/
namespace Go.Proofs.YtjopkcjpedgoaaaGreatDoor
open Go.RowKit
set_option linter.unusedVariables false
set_option linter.unusedSimpArgs false
theorem name_size {t : ByteArray} (h : nameOk t = true) : t.size ≤ 8 := by
  simp only [nameOk,nameShape,Bool.and_eq_true,decide_eq_true_eq] at h
  omega
theorem flat_len {b : Nat} : ∀ (l : List (List UInt8)),(∀ x,x ∈ l → x.length ≤ b) → l.flatten.length ≤ l.length * b
  | [],_ => by simp
  | x :: r,h => by
    have := flat_len r fun y hy => h y (List.mem_cons_of_mem _ hy)
    have h0 := h x (List.mem_cons_self ..)
    rw [List.flatten_cons,List.length_append,List.length_cons,Nat.add_mul]
    omega
end Go.Proofs.YtjopkcjpedgoaaaGreatDoor

/- A map of one's own,from texts to numbers,that holds 1 for each text seen. No condition. -/
namespace Go.Proofs.YtjopkcjpedgoaaaGreatDoor
open Go.RowKit Go.WideMaps Go.MapKept Go.ChangeMaps
set_option linter.unusedVariables false
def Seen (w : World) (b : Nat) (l : List ByteArray) : Prop := ∃ es clock,w.heap[b]? = some (.map es clock) ∧ es.toList.map (fun x => (x.key,x.val)) = l.map fun s => (Value.string s,Value.int .i64 1)
section
variable {P : Program} {k e t : TypeId} {w : World} {b : Nat} {l : List ByteArray}
theorem Seen.keep {ok : Nat → Prop} {w' : World} (h : Seen w b l) (hk : Keep ok w w') (ho : ok b) : Seen w' b l := by
  obtain ⟨es,c,hb,he⟩ := h
  exact ⟨es,c,blk_keep hk hb ho,he⟩
theorem Seen.made (w : World) : Seen (w.alloc (.map #[] 0)) w.heap.size [] := ⟨#[],0,blk_new _ _,rfl⟩
theorem Seen.lt (h : Seen w b l) : b < w.heap.size := by obtain ⟨es,c,hb,_⟩ := h;exact blk_lt hb
end
end Go.Proofs.YtjopkcjpedgoaaaGreatDoor

/- A text with a cut,or one sign more: some text at most one byte longer. -/
namespace Go.Proofs.YtjopkcjpedgoaaaGreatDoor
open Go.RowKit
set_option linter.unusedVariables false
set_option linter.unusedSimpArgs false
set_option maxRecDepth 20000
set_option maxHeartbeats 1000000
theorem l11Cut_calls (t : ByteArray) (ht : t.size ≤ 900000) (w : World) (b : Nat) (s : Value) (n p : Nat) (hr : Rdr w b s n p) (hn : n ≤ 2000) (hp : p ≤ 900000) :
    Calls Tryz.prog 27 #[.pointer (some ⟨b,0,none⟩),.string t] w fun e w' => ∃ (x : ByteArray) (p' : Nat),x.size ≤ t.size + 1 ∧ e = .returned (.string x) ∧ Rdr w' b s n p' ∧ p ≤ p' ∧ p' ≤ p + 3 ∧ Keep (But b) w w' := by
  have HR := hyd hr
  have hb := blk_lt hr.1
  have PK := hyd (fun (k : Int) (w : World) (p : Nat) h hp hk => pick_calls k w b s n p h hn hp hk)
  have OF := hyd (fun (w : World) (p : Nat) (l : List ByteArray) v h hp hl hl2 hv => of_calls l v w b s n p h hn hp hl hl2 hv)
  clear hr
  go_enter Tryz.func27,Tryz.ntmps27
  go_wp2_with fail
  refine (PK.out ((t.size : Int) + 1) _ p HR.out (by omega) (by omega)).mono ?_
  rintro e w2 ⟨j,rfl,j0,j1,hR2,hK2⟩
  have j2 := j1 (by omega)
  obtain ⟨k,rfl⟩ := Int.eq_ofNat_of_zero_le j0
  have hk : k ≤ t.size := by omega
  have R2 := hyd hR2
  have K2 := hyd hK2
  clear hR2 hK2 j1 j2 j0
  go_wp2_with fail
  refine (PK.out 5 _ (p + 1) R2.out (by omega) (by omega)).mono ?_
  rintro e w3 ⟨j,rfl,j0,j1,hR3,hK3⟩
  have R3 := hyd hR3
  have K3 := hyd (K2.out.trans hK3)
  have Z3 := hyd (Nat.le_trans K2.out.size hK3.size)
  clear hR3 hK3 j1
  by_cases h0 : j = 0
  · have q0 : (j == 0) = true := by rw [h0];rfl
    clear h0
    obtain ⟨ob,hob⟩ : ∃ ob,(Obj.cells (([⟨#[32]⟩,⟨#[40]⟩,⟨#[93]⟩,⟨#[44]⟩,⟨#[48]⟩,⟨#[120]⟩,⟨#[10]⟩,⟨#[39]⟩] : List ByteArray).map Value.string).toArray 9 (0,0)) = ob := ⟨_,rfl⟩
    have hsz : ∀ y,y ∈ ([⟨#[32]⟩,⟨#[40]⟩,⟨#[93]⟩,⟨#[44]⟩,⟨#[48]⟩,⟨#[120]⟩,⟨#[10]⟩,⟨#[39]⟩] : List ByteArray) → y.size = 1 := fun y hy => by
      simp only [List.mem_cons,List.not_mem_nil,or_false] at hy
      rcases hy with rfl | rfl | rfl | rfl | rfl | rfl | rfl | rfl <;> rfl
    have HSZ := hyd hsz
    have HS := hyd (show Strs (w3.alloc ob).drew (But b) (.slice (some ⟨w3.heap.size,0,none⟩) 8 8) [⟨#[32]⟩,⟨#[40]⟩,⟨#[93]⟩,⟨#[44]⟩,⟨#[48]⟩,⟨#[120]⟩,⟨#[10]⟩,⟨#[39]⟩] from SStrs.strs (SStrs.keep (strs_blkD (l := [⟨#[32]⟩,⟨#[40]⟩,⟨#[93]⟩,⟨#[44]⟩,⟨#[48]⟩,⟨#[120]⟩,⟨#[10]⟩,⟨#[39]⟩]) (ok := But b) (by rw [← hob];exact blk_new w3 _) (show w3.heap.size ≠ b by have := Z3.out;omega) (by decide) (fun x hx => by rw [Fits,hsz x hx];decide)) ((Keep.refl _ _).drew)))
    have HRD := hyd (show Rdr (w3.alloc ob).drew b s n (p + 1 + 1) from ⟨blk_alloc R3.out.1 ob,R3.out.2.keep (((Keep.refl (But b) w3).alloc ob).drew)⟩)
    have HKD := hyd (show Keep (But b) w (w3.alloc ob).drew from (K3.out.alloc ob).drew)
    have s1 : (t.extract 0 k).size = k := by rw [ByteArray.size_extract];omega
    have s2 : (t.extract k t.size).size = t.size - k := by rw [ByteArray.size_extract];omega
    obtain ⟨x1,he1⟩ : ∃ x1,t.extract 0 k = x1 := ⟨_,rfl⟩
    obtain ⟨x2,he2⟩ : ∃ x2,t.extract k t.size = x2 := ⟨_,rfl⟩
    rw [he1] at s1
    rw [he2] at s2
    have S1 := hyd s1
    have S2 := hyd s2
    clear hsz s1 s2
    subst hob
    have OFD := hyd (OF.out _ (p + 1 + 1) [⟨#[32]⟩,⟨#[40]⟩,⟨#[93]⟩,⟨#[44]⟩,⟨#[48]⟩,⟨#[120]⟩,⟨#[10]⟩,⟨#[39]⟩] _ HRD.out (by omega) (by simp) (by simp) HS.out)
    go_wp2
    go_region_law (go_simp;go_at_call 20;refine OFD.out.mono ?_;rintro e w4 ⟨x,hx,rfl,hR4,hK4⟩;have HX := hyd (HSZ.out x hx);have R4 := hyd hR4;have K4 := hyd (HKD.out.trans hK4);have n1 : ¬ 9223372036854775807 < x1.size + x.size := (by rw [S1.out,HX.out];omega);have n2 : ¬ 9223372036854775807 < x1.size + x.size + x2.size := (by rw [S1.out,HX.out,S2.out];omega);clear hx hR4 hK4)
    all_goals
      go_wp2
      go_ret
      exact ⟨_,p + 1 + 1 + 1,by rw [ByteArray.size_append,ByteArray.size_append,S1.out,HX.out,S2.out];omega,rfl,R4.out,by omega,by omega,K4.out⟩
  · have q0 : (j == 0) = false := by rw [beq_eq_false_iff_ne];exact h0
    clear h0
    by_cases h1 : j = 1
    · have q1 : (j == 1) = true := by rw [h1];rfl
      clear h1
      go_wp2
      go_ret
      exact ⟨_,p + 1 + 1,by rw [ByteArray.size_extract];omega,rfl,R3.out,by omega,by omega,K3.out⟩
    · have q1 : (j == 1) = false := by rw [beq_eq_false_iff_ne];exact h1
      clear h1
      go_wp2
      go_ret
      exact ⟨_,p + 1 + 1,by omega,rfl,R3.out,by omega,by omega,K3.out⟩

/- A frame's text: the program's FramePut and the reference's write the same. For every body. -/

def framePut (b : ByteArray) : List UInt8 := if 6000 < b.size then [] else Lib.itoa b.size ++ 58 :: b.data.toList ++ [10]
theorem put_join (b : ByteArray) (l : List UInt8) : (⟨l.toArray⟩ : ByteArray) ++ ⟨#[58]⟩ ++ b ++ ⟨#[10]⟩ = ⟨(l ++ 58 :: b.data.toList ++ [10]).toArray⟩ := by
  apply ByteArray.ext
  simp [ByteArray.data_append]
theorem implFramePut_calls (b : ByteArray) (w : World) (ht : Tab w) :
    Calls Tryz.prog 7 #[.string b] w (Str (framePut b) w) := by
  have HT := hyd ht
  clear ht
  by_cases h : 6000 < b.size
  · go_enter Tryz.func7,Tryz.ntmps7
    go_wp2
    go_ret
    exact ⟨by simp only [framePut];rw [if_pos h];rfl,Keep.refl _ _⟩
  · have IT := hyd (itoa_calls b.size w (by omega) (by omega) HT.out)
    have hl := itoa_len b.size (by omega)
    go_enter Tryz.func7,Tryz.ntmps7
    go_wp2_with (go_at_call 23;refine IT.out.mono ?_;rintro e w' ⟨rfl,hK⟩)
    go_ret
    exact ⟨by simp only [framePut];rw [if_neg h];exact congrArg (fun s => Ending.returned (.string s)) (put_join b _),hK⟩
theorem specFramePut_calls (b : ByteArray) (w : World) :
    Calls Tryz.prog 8 #[.string b] w (Str (framePut b) w) := by
  by_cases h : 6000 < b.size
  · go_enter Tryz.func8,Tryz.ntmps8
    go_wp2
    go_ret
    exact ⟨by simp only [framePut];rw [if_pos h];rfl,Keep.refl _ _⟩
  · have IT := hyd (l1Dec_calls b.size w (by omega) (by omega))
    have hl := itoa_len b.size (by omega)
    go_enter Tryz.func8,Tryz.ntmps8
    go_wp2_with (go_at_call 24;refine IT.out.mono ?_;rintro e w' ⟨rfl,hK⟩)
    go_ret
    exact ⟨by simp only [framePut];rw [if_neg h];exact congrArg (fun s => Ending.returned (.string s)) (put_join b _),hK⟩

/- A frame is read back,whatever stands behind it;no beginning of it is;what is read was written just so. For every body and text. -/
theorem at_list (t : ByteArray) (i : Nat) (x : UInt8) (h : t.data.toList[i]? = some x) : at_ t i = x.toNat := by
  obtain ⟨hi,e⟩ := List.getElem?_eq_some_iff.1 h
  have hs : i < t.size := by rw [Lib.size_eq];exact hi
  rw [← at_eq t i hs,← e]
  rfl
theorem fig_iff (b : Nat) : fig b = true ↔ 48 ≤ b ∧ b ≤ 57 := by simp [fig]
theorem dec_at {t : ByteArray} {n : Nat} {rest : List UInt8} (e : t.data.toList = Lib.decDigits n ++ rest) (i : Nat) (hi : i < (Lib.decDigits n).length) : 48 ≤ at_ t i ∧ at_ t i ≤ 57 := by
  have h1 : t.data.toList[i]? = some (Lib.decDigits n)[i] := by rw [e,List.getElem?_append_left hi,List.getElem?_eq_getElem hi]
  rw [at_list t i _ h1]
  exact (fig_iff _).1 (dec_figs n _ (List.getElem_mem hi))
theorem val_dec : ∀ (m n : Nat) (t : ByteArray) (rest : List UInt8),n ≤ m → t.data.toList = Lib.decDigits n ++ rest → val t (Lib.decDigits n).length = n := by
  intro m
  induction m with
  | zero =>
    intro n t rest hn e
    obtain rfl : n = 0 := by omega
    rw [dec_small (by omega)] at e ⊢
    have := at_list t 0 48 (by rw [e];rfl)
    show val t 1 = 0
    simp [val,this]
  | succ m ih =>
    intro n t rest hn e
    by_cases h : n < 10
    · rw [dec_small h] at e ⊢
      have h0 := at_list t 0 (UInt8.ofNat (48 + n)) (by rw [e];rfl)
      have h1 : (UInt8.ofNat (48 + n)).toNat = 48 + n := by simp;omega
      show val t 1 = n
      simp only [val];omega
    · rw [dec_big h] at e ⊢
      rw [List.append_assoc] at e
      have h2 := ih (n / 10) t _ (by omega) e
      have h0 := at_list t (Lib.decDigits (n / 10)).length (UInt8.ofNat (48 + n % 10)) (by rw [e];simp)
      have h1 : (UInt8.ofNat (48 + n % 10)).toNat = 48 + n % 10 := by simp;omega
      rw [List.length_append,List.length_singleton,val,h2,h0,h1]
      omega
theorem dec_of_val (t : ByteArray) : ∀ k,1 ≤ k → k ≤ t.size → (∀ i,i < k → 48 ≤ at_ t i ∧ at_ t i ≤ 57) → ¬ (1 < k ∧ at_ t 0 = 48) → Lib.decDigits (val t k) = t.data.toList.take k := by
  intro k
  induction k with
  | zero => intro h;omega
  | succ k ih =>
    intro _ hk hf h0
    have hl : k < t.data.toList.length := by rw [← Lib.size_eq];omega
    have hat : at_ t k = (t.data.toList[k]).toNat := at_list t k _ (List.getElem?_eq_getElem hl)
    have hfk := hf k (by omega)
    have hd : UInt8.ofNat (48 + (at_ t k - 48)) = t.data.toList[k] := by
      rw [show 48 + (at_ t k - 48) = at_ t k by omega,hat];simp
    rw [List.take_succ_eq_append_getElem hl]
    by_cases hk0 : k = 0
    · subst hk0
      rw [show val t (0 + 1) = at_ t 0 - 48 by simp [val],dec_small (by omega),hd]
      rfl
    · have h00 := hf 0 (by omega)
      have hv : 1 ≤ val t k := by
        have := val_mono t 1 k (by omega)
        have e1 : val t 1 = at_ t 0 - 48 := by simp [val]
        have : at_ t 0 ≠ 48 := fun e => h0 ⟨by omega,e⟩
        omega
      have hi := ih (by omega) (by omega) (fun i hi => hf i (by omega)) (fun h => h0 ⟨by omega,h.2⟩)
      have e : val t (k + 1) = val t k * 10 + (at_ t k - 48) := rfl
      rw [dec_big (by omega),show val t (k + 1) / 10 = val t k by omega,show val t (k + 1) % 10 = at_ t k - 48 by omega,hi,hd]
theorem figs5_is {t : ByteArray} {k : Nat} (hk : k ≤ t.size) (h5 : k ≤ 5) (hf : ∀ i,i < k → 48 ≤ at_ t i ∧ at_ t i ≤ 57) (he : k = 5 ∨ k = t.size ∨ at_ t k < 48 ∨ 57 < at_ t k) : figs5 t 0 = k := by
  obtain ⟨m,e,_,m5,ms,mf,me⟩ := figs5_spec t 5 0 rfl (by omega) (by omega)
  rw [e]
  by_cases h1 : m < k
  · have := hf m h1
    omega
  · by_cases h2 : k < m
    · have := mf k (by omega) h2
      omega
    · omega
theorem put_eq {b : ByteArray} (h : b.size ≤ 6000) : framePut b = Lib.decDigits b.size ++ 58 :: (b.data.toList ++ [10]) := by
  rw [framePut,if_neg (by omega),itoa_nat];simp
theorem dec4 {n : Nat} (h : n ≤ 6000) : (Lib.decDigits n).length ≤ 4 := dec_length 3 n (by omega)
theorem framePut_len {b : ByteArray} (h : b.size ≤ 6000) : (framePut b).length = (Lib.decDigits b.size).length + b.size + 2 := by
  rw [put_eq h,List.length_append,List.length_cons,List.length_append,Lib.size_eq];simp;omega
theorem dec_first {t : ByteArray} {n : Nat} {rest : List UInt8} (e : t.data.toList = Lib.decDigits n ++ rest) : ¬ (1 < (Lib.decDigits n).length ∧ at_ t 0 = 48) := by
  rintro ⟨h1,h2⟩
  obtain ⟨d,r,hd,_⟩ := dec_head n
  refine dec_no0 n ⟨h1,?_⟩
  have := at_list t 0 d (by rw [e,hd];rfl)
  rw [hd,List.headD_cons]
  exact UInt8.toNat_inj.1 (by have e : (48 : UInt8).toNat = 48 := rfl;omega)
theorem frameGet_put (b r : ByteArray) (h : b.size ≤ 6000) : frameGet ((⟨(framePut b).toArray⟩ : ByteArray) ++ r) = (b,((framePut b).length : Int)) := by
  generalize ht : (⟨(framePut b).toArray⟩ : ByteArray) ++ r = t
  have e : t.data.toList = Lib.decDigits b.size ++ (58 :: (b.data.toList ++ 10 :: r.data.toList)) := by
    rw [← ht,ByteArray.data_append,put_eq h];simp
  have hd4 := dec4 h
  have hp := dec_pos b.size
  have hv := val_dec b.size b.size t _ (Nat.le_refl _) e
  have h0 := dec_first e
  have hf := dec_at e
  have hl := framePut_len h
  generalize hK : (Lib.decDigits b.size).length = K at *
  have hts : t.size = K + b.size + 2 + r.size := by
    rw [Lib.size_eq,e,List.length_append,List.length_cons,List.length_append,List.length_cons,hK,Lib.size_eq,Lib.size_eq];omega
  have h58 : at_ t K = 58 := at_list t K 58 (by rw [e,List.getElem?_append_right (by omega),hK,Nat.sub_self];rfl)
  have h10 : at_ t (K + b.size + 1) = 10 := at_list t _ 10 (by
    rw [e,List.getElem?_append_right (by omega),hK,show K + b.size + 1 - K = b.size + 1 by omega,List.getElem?_cons_succ,List.getElem?_append_right (by rw [Lib.size_eq];exact Nat.le_refl _),Lib.size_eq,Nat.sub_self];rfl)
  have hext : t.extract (K + 1) (K + 1 + b.size) = b := by
    apply ByteArray.ext
    apply Array.ext'
    rw [ByteArray.data_extract,Array.toList_extract,List.extract_eq_take_drop,e,show K + 1 + b.size - (K + 1) = b.size by omega,List.drop_append,List.drop_eq_nil_of_le (by omega),hK,show K + 1 - K = 1 by omega,List.nil_append,List.drop_succ_cons,List.drop_zero,Lib.size_eq,List.take_left]
  have hfig := figs5_is (t := t) (k := K) (by omega) (by omega) hf (.inr (.inr (by omega)))
  have hn := l1Num_val t K (by omega) (by omega) hf
  rw [if_neg (by omega),hv] at hn
  rw [← spec_eq]
  simp only [specFrame,hfig,hn]
  rw [if_neg (by omega),if_neg (by omega),if_neg (by omega),if_neg (by omega),Int.toNat_natCast,h10,if_neg (by omega),hext]
  simp only [Prod.mk.injEq,true_and]
  omega
theorem frameGet_cut (b : ByteArray) (h : b.size ≤ 6000) (c : Nat) (hc : c < (framePut b).length) : frameGet ((⟨(framePut b).toArray⟩ : ByteArray).extract 0 c) = (⟨#[]⟩,0) := by
  generalize hT : (⟨(framePut b).toArray⟩ : ByteArray) = T
  have e : T.data.toList = Lib.decDigits b.size ++ (58 :: (b.data.toList ++ [10])) := by rw [← hT,put_eq h]
  have hd4 := dec4 h
  have hp := dec_pos b.size
  have hv := val_dec b.size b.size T _ (Nat.le_refl _) e
  have h0 := dec_first e
  have hf := dec_at e
  have hl := framePut_len h
  generalize hK : (Lib.decDigits b.size).length = K at *
  have hts : T.size = K + b.size + 2 := by
    rw [Lib.size_eq,e,List.length_append,List.length_cons,List.length_append,hK,Lib.size_eq];simp;omega
  have h58 : at_ T K = 58 := at_list T K 58 (by rw [e,List.getElem?_append_right (by omega),hK,Nat.sub_self];rfl)
  generalize ht : T.extract 0 c = t
  have hs : t.size = c := by rw [← ht,ByteArray.size_extract];omega
  have hat : ∀ i,i < c → at_ t i = at_ T i := fun i hi => by rw [← ht];exact at_extract T c i hi (by omega)
  rw [← spec_eq]
  by_cases hcK : c ≤ K
  · have hfig := figs5_is (t := t) (k := c) (by omega) (by omega) (fun i hi => by rw [hat i hi];exact hf i (by omega)) (.inr (.inl hs.symm))
    have hn := l1Num_val T c (by omega) (by omega) (fun i hi => hf i (by omega))
    have hx : t.extract 0 c = T.extract 0 c := by rw [← ht,ByteArray.extract_extract];simp
    have hm := val_mono T c K hcK
    simp only [specFrame,hfig,hx,hn]
    rw [if_neg,if_pos hs.symm]
    rintro ⟨h1,h2⟩
    rw [if_neg (by omega)] at h2
    omega
  · have hfig := figs5_is (t := t) (k := K) (by omega) (by omega) (fun i hi => by rw [hat i (by omega)];exact hf i hi) (.inr (.inr (by rw [hat K (by omega)];omega)))
    have hn := l1Num_val T K (by omega) (by omega) hf
    have hx : t.extract 0 K = T.extract 0 K := by rw [← ht,ByteArray.extract_extract];simp;congr 1;omega
    rw [if_neg (by omega),hv] at hn
    simp only [specFrame,hfig,hx,hn]
    rw [if_neg (by omega),if_neg (by omega),hat K (by omega),if_neg (by omega),if_pos (by omega)]
theorem frameGet_back (t y : ByteArray) (k : Int) (h : frameGet t = (y,k)) (hk : 0 < k) : y.size ≤ 6000 ∧ k.toNat ≤ t.size ∧ framePut y = t.data.toList.take k.toNat := by
  rw [← spec_eq] at h
  obtain ⟨K,eK,_,h5,hKs,hf0,he⟩ := figs5_spec t 5 0 rfl (by omega) (by omega)
  have hf : ∀ i,i < K → 48 ≤ at_ t i ∧ at_ t i ≤ 57 := fun i hi => hf0 i (by omega) hi
  have hn := l1Num_val t K hKs (by omega) hf
  simp only [specFrame,eK] at h
  generalize l1Num (t.extract 0 K) = n at hn h
  split at h
  · simp only [Prod.mk.injEq] at h;omega
  · rename_i c1
    split at h
    · simp only [Prod.mk.injEq] at h;omega
    · rename_i c2
      split at h
      · simp only [Prod.mk.injEq] at h;omega
      · rename_i c3
        split at h
        · simp only [Prod.mk.injEq] at h;omega
        · rename_i c4
          split at h
          · simp only [Prod.mk.injEq] at h;omega
          · rename_i c5
            simp only [Prod.mk.injEq] at h
            obtain ⟨hy,hk2⟩ := h
            have hK0 : 0 < K := by omega
            have hz : ¬ (K = 0 ∨ (1 < K ∧ at_ t 0 = 48)) := fun hz => by rw [if_pos hz] at hn;omega
            rw [if_neg hz] at hn
            subst hn
            rw [Int.toNat_natCast] at hy c5
            have hys : y.size = val t K := by rw [← hy,ByteArray.size_extract];omega
            have hyl : y.data.toList = (t.data.toList.drop (K + 1)).take (val t K) := by
              rw [← hy,ByteArray.data_extract,Array.toList_extract,List.extract_eq_take_drop,show K + 1 + val t K - (K + 1) = val t K by omega]
            have hcan := dec_of_val t K (by omega) hKs hf (by omega)
            refine ⟨by omega,by omega,?_⟩
            have hL : t.data.toList.length = t.size := (Lib.size_eq t).symm
            have l58 : t.data.toList[K]? = some 58 := by
              have hi : K < t.data.toList.length := by omega
              rw [List.getElem?_eq_getElem hi]
              have := at_list t K _ (List.getElem?_eq_getElem hi)
              congr 1
              exact UInt8.toNat_inj.1 (by have e : (58 : UInt8).toNat = 58 := rfl;omega)
            have l10 : t.data.toList[K + val t K + 1]? = some 10 := by
              have hi : K + val t K + 1 < t.data.toList.length := by omega
              rw [List.getElem?_eq_getElem hi]
              have := at_list t (K + val t K + 1) _ (List.getElem?_eq_getElem hi)
              congr 1
              exact UInt8.toNat_inj.1 (by have e : (10 : UInt8).toNat = 10 := rfl;omega)
            rw [put_eq (by omega),hys,hcan,hyl,show k.toNat = K + (1 + (val t K + 1)) by omega,List.take_add,List.take_add,List.take_add]
            have e1 : (t.data.toList.drop K).take 1 = [58] := by
              rw [List.take_one,List.head?_drop,l58];rfl
            have e2 : ((t.data.toList.drop K).drop 1).take (val t K) = (t.data.toList.drop (K + 1)).take (val t K) := by rw [List.drop_drop]
            have e3 : (((t.data.toList.drop K).drop 1).drop (val t K)).take 1 = [10] := by
              rw [List.drop_drop,List.drop_drop,List.take_one,List.head?_drop,show K + (1 + val t K) = K + val t K + 1 by omega,l10];rfl
            rw [e1,e2,e3]
            simp

/- What the reference's FrameGet computes,and the number that figures are. For every text of at most 2^62 bytes. -/
set_option maxHeartbeats 1000000

def GotSpec (t : ByteArray) (w : World) (e : Ending) (w' : World) : Prop := e = .returned (.tuple #[.string (specFrame t).1,.int .i64 (specFrame t).2]) ∧ w = w'
theorem figs5_go {t : ByteArray} {k : Nat} (h : k < t.size) (h5 : k < 5) (h0 : 48 ≤ at_ t k) (h1 : at_ t k ≤ 57) : figs5 t k = figs5 t (k + 1) := by rw [figs5,dif_pos ⟨h,h5,h0,h1⟩]
theorem figs5_end {t : ByteArray} {k : Nat} (h : t.size ≤ k ∨ 5 ≤ k ∨ at_ t k < 48 ∨ 57 < at_ t k) : figs5 t k = k := by rw [figs5,dif_neg (by omega)]
theorem specFrame_eq {t : ByteArray} {k : Nat} (h : figs5 t 0 = k) : specFrame t = if 0 < k ∧ (l1Num (t.extract 0 k) < 0 ∨ 6000 < l1Num (t.extract 0 k)) then (⟨#[]⟩,-1) else if k = t.size then (⟨#[]⟩,0) else if at_ t k ≠ 58 ∨ k = 0 then (⟨#[]⟩,-1)
  else if (t.size : Int) < k + l1Num (t.extract 0 k) + 2 then (⟨#[]⟩,0) else if at_ t (k + (l1Num (t.extract 0 k)).toNat + 1) ≠ 10 then (⟨#[]⟩,-1) else (t.extract (k + 1) (k + 1 + (l1Num (t.extract 0 k)).toNat),k + l1Num (t.extract 0 k) + 2) := by
  rw [specFrame,h]
theorem specFrame_calls (t : ByteArray) (w : World) (ht : t.size ≤ 4611686018427387904) :
    Calls Tryz.prog 11 #[.string t] w (GotSpec t w) := by
  go_enter Tryz.func11,Tryz.ntmps11
  go_upto_block 0 with (fail)
  go_cut [4] (fun i wc => ∃ k : Nat,k ≤ t.size ∧ i = .int .i64 k ∧ k ≤ 5 ∧ figs5 t 0 = k ∧ w = wc)
  case first =>
    go_wp2
    go_loop [4] (fun i => ∃ k : Nat,k ≤ t.size ∧ i = .int .i64 k ∧ k ≤ 5 ∧ figs5 t 0 = figs5 t k) (fun i => t.size - (intOf i).toNat)
    case atStart => exact ⟨0,by omega,rfl,by omega,rfl⟩
    case round =>
      obtain ⟨k,hk,rfl,h5,hg⟩ := hrel
      have HG := hyd hg
      clear hg
      have e2 := at_lt t k
      by_cases c1 : k < t.size ∧ k < 5 ∧ 48 ≤ at_ t k ∧ at_ t k ≤ 57
      · obtain ⟨c1,c2,c3,c4⟩ := c1
        have e1 := at_eq t k c1
        go_wp2
        go_round
        case rel => exact ⟨k + 1,by omega,by go_num,by omega,by rw [HG.out,figs5_go c1 c2 c3 c4]⟩
        case measure => simp [intOf];omega
      · have HE : figs5 t 0 = k := (by rw [HG.out,figs5_end (by omega)])
        have HE' := hyd HE
        have c2 : t.size ≤ k ∨ (k < t.size ∧ 5 ≤ k) ∨ (k < t.size ∧ k < 5 ∧ at_ t k < 48) ∨ (k < t.size ∧ k < 5 ∧ 57 < at_ t k) := by omega
        clear c1 HE
        have E1 : ∀ h : k < t.size,(t[k]'h).toNat = at_ t k := fun h => at_eq t k h
        rcases c2 with c2 | ⟨c2,c3⟩ | ⟨c2,c3,c4⟩ | ⟨c2,c3,c4⟩
        all_goals
          try have e1 := E1 c2
          clear E1
          go_wp2
          go_meet
          case rel => exact ⟨k,hk,rfl,h5,HE'.out,rfl⟩
  case rest =>
    obtain ⟨k,hk,rfl,h5,HE0,rfl⟩ := hcut
    have hx : (t.extract 0 k).size ≤ 4611686018427387904 := by rw [ByteArray.size_extract];omega
    have hb := l1Num_bd (t.extract 0 k)
    have hq := specFrame_eq HE0
    generalize hN : l1Num (t.extract 0 k) = n at hb hq
    have HN := hyd hN
    have HQ := hyd hq
    have e2 := at_lt t k
    clear hN hq HE0
    by_cases a1 : 0 < k ∧ (n < 0 ∨ 6000 < n)
    · have hr : specFrame t = (⟨#[]⟩,-1) := by rw [HQ.out,if_pos a1]
      have HR := hyd hr
      clear hr HQ
      obtain ⟨a1,a2 | a2⟩ := a1
      all_goals
        go_wp2_with (go_at_call 28;refine (l1Num_calls _ _ hx).mono ?_;rintro e w' ⟨rfl,rfl⟩;rw [HN.out])
        go_ret2
        exact ⟨by rw [HR.out];rfl,rfl⟩
    by_cases a2 : k = t.size
    · have hr : specFrame t = (⟨#[]⟩,0) := by rw [HQ.out,if_neg a1,if_pos a2]
      have HR := hyd hr
      have b2 : (((k : Nat) : Int) == ((t.size : Nat) : Int)) = true := by simp [a2]
      have b3 : (k : Int) ≤ (t.size : Int) := by omega
      have b1 : k ≤ 0 ∨ (0 < k ∧ 0 ≤ n ∧ n ≤ 6000) := by omega
      clear hr HQ a2 a1
      rcases b1 with b1 | ⟨b1,b4,b5⟩
      all_goals
        go_wp2_with (go_at_call 28;refine (l1Num_calls _ _ hx).mono ?_;rintro e w' ⟨rfl,rfl⟩;rw [HN.out])
        all_goals
          go_ret2
          exact ⟨by rw [HR.out];rfl,rfl⟩
    have b2 : (((k : Nat) : Int) == ((t.size : Nat) : Int)) = false := by rw [beq_eq_false_iff_ne];omega
    have e1 := at_eq t k (by omega)
    by_cases a3 : k = 0
    · have hr : specFrame t = (⟨#[]⟩,-1) := by rw [HQ.out,if_neg a1,if_neg a2,if_pos (.inr a3)]
      have HR := hyd hr
      have b6 : (((k : Nat) : Int) == 0) = true := by rw [beq_iff_eq];omega
      have b1 : k ≤ 0 := by omega
      clear hr HQ a1 a3
      go_wp2_with (go_at_call 28;refine (l1Num_calls _ _ hx).mono ?_;rintro e w' ⟨rfl,rfl⟩;rw [HN.out])
      all_goals
        go_ret2
        exact ⟨by rw [HR.out];rfl,rfl⟩
    obtain ⟨b1,b4,b5⟩ : 0 < k ∧ 0 ≤ n ∧ n ≤ 6000 := by omega
    have b6 : (((k : Nat) : Int) == 0) = false := by rw [beq_eq_false_iff_ne];omega
    by_cases a4 : at_ t k ≠ 58
    · have hr : specFrame t = (⟨#[]⟩,-1) := by rw [HQ.out,if_neg a1,if_neg a2,if_pos (.inl a4)]
      have HR := hyd hr
      have b7 : (((at_ t k : Nat) : Int) != 58) = true := by rw [bne_iff_ne];omega
      clear hr HQ a1 a4
      go_wp2_with (go_at_call 28;refine (l1Num_calls _ _ hx).mono ?_;rintro e w' ⟨rfl,rfl⟩;rw [HN.out])
      all_goals
        go_ret2
        exact ⟨by rw [HR.out];rfl,rfl⟩
    have b7 : (((at_ t k : Nat) : Int) != 58) = false := by rw [bne_eq_false_iff_eq];omega
    by_cases a5 : (t.size : Int) < k + n + 2
    · have hr : specFrame t = (⟨#[]⟩,0) := by rw [HQ.out,if_neg a1,if_neg a2,if_neg (by omega),if_pos a5]
      have HR := hyd hr
      clear hr HQ a1 a4
      go_wp2_with (go_at_call 28;refine (l1Num_calls _ _ hx).mono ?_;rintro e w' ⟨rfl,rfl⟩;rw [HN.out])
      all_goals
        go_ret2
        exact ⟨by rw [HR.out];rfl,rfl⟩
    obtain ⟨m,rfl⟩ := Int.eq_ofNat_of_zero_le b4
    have e3 := at_eq t (k + m + 1) (by omega)
    have e4 := at_lt t (k + m + 1)
    by_cases a6 : at_ t (k + m + 1) ≠ 10
    · have hr : specFrame t = (⟨#[]⟩,-1) := by rw [HQ.out,if_neg a1,if_neg a2,if_neg (by omega),if_neg a5];exact if_pos a6
      have HR := hyd hr
      have b8 : (((at_ t (k + m + 1) : Nat) : Int) != 10) = true := by rw [bne_iff_ne];omega
      clear hr HQ a1 a4 a6
      go_wp2_with (go_at_call 28;refine (l1Num_calls _ _ hx).mono ?_;rintro e w' ⟨rfl,rfl⟩;rw [HN.out])
      all_goals
        go_ret2
        exact ⟨by rw [HR.out];rfl,rfl⟩
    · have hr : specFrame t = (t.extract (k + 1) (k + 1 + m),(k : Int) + (m : Int) + 2) := by rw [HQ.out,if_neg a1,if_neg a2,if_neg (by omega),if_neg a5];exact if_neg a6
      have HR := hyd hr
      have b8 : (((at_ t (k + m + 1) : Nat) : Int) != 10) = false := by rw [bne_eq_false_iff_eq];omega
      clear hr HQ a1 a4 a6
      go_wp2_with (go_at_call 28;refine (l1Num_calls _ _ hx).mono ?_;rintro e w' ⟨rfl,rfl⟩;rw [HN.out])
      all_goals
        go_ret2
        exact ⟨by rw [HR.out];rfl,rfl⟩
end Go.Proofs.YtjopkcjpedgoaaaGreatDoor

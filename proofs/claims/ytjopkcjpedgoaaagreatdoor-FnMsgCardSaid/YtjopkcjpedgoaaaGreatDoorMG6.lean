/- The program's reading of a value: valueAt, ValueGet. For every text of at most 2^61 bytes. -/
import Derived.Test.YtjopkcjpedgoaaaGreatDoorMG1
import Derived.Test.YtjopkcjpedgoaaaGreatDoorMG5
/- The program's reading of a value: valueAt,ValueGet. For every text of at most 2^61 bytes. -/
namespace Go.Proofs.YtjopkcjpedgoaaaGreatDoor
open Go.RowKit
set_option linter.unusedVariables false
set_option linter.unusedSimpArgs false
set_option maxRecDepth 20000
set_option maxHeartbeats 4000000

def IsYes (b : Bool) (w : World) (e : Ending) (w' : World) : Prop := e = .returned (.agg #[.int .i64 1,.int .i64 (if b then 1 else 0),.string ⟨#[]⟩,.slice none 0 0]) ∧ Keep Any w w'
theorem yesOrNo_calls (b : Bool) (w : World) : Calls Tryz.prog 94 #[.bool b] w (IsYes b w) := by
  cases b
  · go_enter Tryz.func94,Tryz.ntmps94
    go_wp2
    refine bodyPost_ret (v := .agg #[.int .i64 1,.int .i64 0,.string ⟨#[]⟩,.slice none 0 0]) (by simp [results,Tryz.results94,go_sem]) rfl ⟨rfl,?_⟩
    exact (Keep.refl _ _).alloc _
  · go_enter Tryz.func94,Tryz.ntmps94
    go_wp2
    refine bodyPost_ret (v := .agg #[.int .i64 1,.int .i64 1,.string ⟨#[]⟩,.slice none 0 0]) (by simp [results,Tryz.results94,go_sem]) rfl ⟨rfl,?_⟩
    exact (Keep.refl _ _).alloc _
theorem hpS {p : List UInt8} {s : ByteArray} {v : Bool} (h : hasP p s.data.toList = v) : ∀ w,Calls Tryz.prog 35 #[.string s,.string ⟨p.toArray⟩] w (Quiet v w) := fun w =>
  (Tryz.strings_HasPrefix s ⟨p.toArray⟩ w).mono fun e w' ⟨he,hw⟩ => ⟨by rw [he,← h];rfl,hw.symm⟩
theorem indexByte_cut (l : List UInt8) (c : UInt8) : Lib.indexByte l c = match cutAt c l with | none => -1 | some (x,_) => (x.length : Int) := by
  induction l with
  | nil => rfl
  | cons b l ih =>
    rw [Lib.indexByte,cutAt]
    by_cases h : b = c
    · rw [if_pos (by simp [h]),if_pos h];rfl
    · rw [if_neg (by simp [h]),if_neg h,ih]
      cases cutAt c l with
      | none => rfl
      | some p =>
        simp only [Option.map_some,List.length_cons]
        rw [if_neg (by rw [beq_iff_eq];omega)];rfl
theorem tail_data (s : ByteArray) : (s.extract 1 s.size).data.toList = s.data.toList.drop 1 := rest_data s 1
theorem ixS {s : ByteArray} {v : Int} (h : Lib.indexByte (s.data.toList.drop 1) 39 = v) : ∀ w,Calls Tryz.prog 95 #[.string (s.extract 1 s.size),.int .u8 39] w fun e w' => e = .returned (.int .i64 v) ∧ w = w' := fun w =>
  (Tryz.strings_IndexByte (s.extract 1 s.size) 39 w).mono fun e w' ⟨he,hw⟩ => ⟨by rw [he,tail_data];exact ret_int h,hw.symm⟩
theorem head_at {s : ByteArray} (h : 0 < s.size) : (s.data.toList.headD 0).toNat = at_ s 0 := by
  have e := drop_at (t := s) (i := 0) h
  rw [List.drop_zero] at e
  rw [e,List.headD_cons]
  exact at_eq s 0 h
theorem head_eq {s : ByteArray} (h : 0 < s.size) (c : UInt8) : s.data.toList.headD 0 = c ↔ at_ s 0 = c.toNat := by
  rw [← head_at h]
  exact ⟨fun e => by rw [e],fun e => UInt8.toNat_inj.1 e⟩
theorem head_yes {s : ByteArray} (h : 0 < s.size) {c : UInt8} {n : Int} (hn : n = c.toNat) (e : s.data.toList.headD 0 = c) : (((at_ s 0 : Nat) : Int) == n) = true := by rw [beq_iff_eq,(head_eq h c).1 e,hn]
theorem head_not {s : ByteArray} (h : 0 < s.size) {c : UInt8} {n : Int} (hn : n = c.toNat) (e : ¬ s.data.toList.headD 0 = c) : (((at_ s 0 : Nat) : Int) == n) = false := by rw [beq_eq_false_iff_ne,hn];intro h2;exact e ((head_eq h c).2 (by omega))
theorem figsGo_suffix : ∀ (l : List UInt8) (k n m : Nat) (r : List UInt8),figsGo k n l = some (m,r) → r <:+ l
  | [],k,n,m,r,h => by
    rw [figsGo] at h
    split at h
    · cases h
    · cases h;exact List.suffix_refl _
  | b :: l,k,n,m,r,h => by
    rw [figsGo] at h
    split at h
    · split at h
      · cases h
      · exact (figsGo_suffix l _ _ _ _ h).trans (List.suffix_cons _ _)
    · split at h
      · cases h
      · cases h;exact List.suffix_refl _
theorem figsGo_bound : ∀ (l : List UInt8) (k n m : Nat) (r : List UInt8),n < 10 ^ k → k ≤ 10 → figsGo k n l = some (m,r) → m ≤ 10000000000
  | [],k,n,m,r,hn,hk,h => by
    rw [figsGo] at h
    have : 10 ^ k ≤ 10 ^ 10 := Nat.pow_le_pow_right (by omega) hk
    split at h
    · cases h
    · cases h;omega
  | b :: l,k,n,m,r,hn,hk,h => by
    rw [figsGo] at h
    have : 10 ^ k ≤ 10 ^ 10 := Nat.pow_le_pow_right (by omega) hk
    split at h
    · rename_i hf
      simp only [fig,Bool.and_eq_true,decide_eq_true_eq] at hf
      split at h
      · cases h
      · exact figsGo_bound l (k + 1) _ m r (by rw [Nat.pow_succ];omega) (by omega) h
    · split at h
      · cases h
      · cases h;omega
theorem figs_none {t : ByteArray} {a : Nat} (ha : a ≤ t.size) (ht : t.size ≤ 2305843009213693952) (h : figs (t.data.toList.drop a) = none) : ∀ w,Calls Tryz.prog 34 #[.string t,.int .i64 a] w fun e w' => e = .returned (.tuple #[.int .i64 0,.int .i64 (-1)]) ∧ w = w' := fun w =>
  (figuresAt_calls t a w ha ht).mono fun e w' hg => by
    rcases hg with ⟨_,he,hw⟩ | ⟨k,z,hk,_⟩
    · exact ⟨he,hw⟩
    · rw [h] at hk;cases hk
theorem figs_some {t : ByteArray} {a : Nat} (ha : a ≤ t.size) (ht : t.size ≤ 2305843009213693952) {k : Nat} {r : List UInt8} (h : figs (t.data.toList.drop a) = some (k,r)) : ∃ z : Nat,z ≤ t.size ∧ k ≤ 10000000000 ∧ r = t.data.toList.drop z ∧ ∀ w,Calls Tryz.prog 34 #[.string t,.int .i64 a] w fun e w' => e = .returned (.tuple #[.int .i64 k,.int .i64 z]) ∧ w = w' := by
  obtain ⟨n,e⟩ : ∃ n : Nat,n = (figs (t.data.toList.drop a)).elim 0 (fun p => p.2.length) := ⟨_,rfl⟩
  have key : ∀ w e w',GotF (figs (t.data.toList.drop a)) t w e w' → ∃ z,z ≤ t.size ∧ k ≤ 10000000000 ∧ r = t.data.toList.drop z ∧ e = .returned (.tuple #[.int .i64 k,.int .i64 z]) ∧ w = w' := by
    intro w e w' hg
    rcases hg with ⟨hn,_⟩ | ⟨k',z,hk,h1,h2,h3,h4⟩
    · rw [h] at hn;cases hn
    · rw [h] at hk;cases hk;exact ⟨z,h2,h1,rfl,h3,h4⟩
  have hs : r <:+ t.data.toList.drop a := figsGo_suffix _ _ _ _ _ h
  have hl : r.length ≤ t.size - a := by have := hs.length_le;rwa [drop_len] at this
  have hz : ∀ z,z ≤ t.size → r = t.data.toList.drop z → z = t.size - r.length := fun z hz e => by rw [e,drop_len];omega
  have hd : r = t.data.toList.drop (t.size - r.length) := by
    have h1 := List.suffix_iff_eq_drop.1 hs
    rw [drop_len,List.drop_drop] at h1
    rw [show t.size - r.length = a + (t.size - a - r.length) by omega]
    exact h1
  refine ⟨t.size - r.length,by omega,figsGo_bound _ _ _ _ _ (by omega) (by omega) h,hd,fun w => (figuresAt_calls t a w ha ht).mono fun e w' hg => ?_⟩
  obtain ⟨z,h1,_,h2,h3,h4⟩ := key w e w' hg
  rw [hz z h1 h2] at h3
  exact ⟨h3,h4⟩
theorem keep_a {w w2 : World} {o : Obj} (h : Keep Any (w.alloc o) w2) : Keep Any w w2 := ((Keep.refl _ _).alloc _).trans h
theorem SV_flat (w : World) (ok : Nat → Prop) (k n : Int) (t : ByteArray) (h1 : I64 k) (h2 : I64 n) (h3 : Fits t) : SV w ok ⟨k,n,t,[]⟩ [.int .i64 k,.int .i64 n,.string t,.slice none 0 0] := SV.iff.2 ⟨_,rfl,h1,h2,h3,SSl.nil⟩
theorem fits_nil : Fits ⟨#[]⟩ := by unfold Fits;decide
theorem i64_small {n : Int} (h0 : -1000000000000 ≤ n) (h1 : n ≤ 1000000000000) : I64 n := ⟨by omega,by omega⟩
theorem valueAt_of (d : Nat) (hd : d ≤ 2) (ih : RdV d) : RdV (d + 1) := by
  intro t a w ha ht
  obtain ⟨s,he⟩ : ∃ s,t.extract a t.size = s := ⟨_,rfl⟩
  have hl : s.data.toList = t.data.toList.drop a := by rw [← he,rest_data]
  have hsz : s.size = t.size - a := by rw [Lib.size_eq,hl,drop_len]
  have hs1 : s.size ≤ t.size - a := by omega
  have hs2 : t.size - a ≤ s.size := by omega
  clear hsz
  have DR := hyd (show ∀ j,s.data.toList.drop j = t.data.toList.drop (a + j) from fun j => by rw [hl,List.drop_drop])
  obtain ⟨o,ho⟩ : ∃ o,o = rdV (d + 1) (t.data.toList.drop a) := ⟨_,rfl⟩
  rw [← ho]
  rw [← hl] at ho
  have YN := hyd yesOrNo_calls
  have hd1 : IntKind.i64.wrap (((d + 1 : Nat) : Int) - 1) = (d : Int) := by rw [IntWalk.i64_in _ ⟨by omega,by omega⟩];omega
  have HD := hyd hd1
  have HLn := hyd (show ∀ p : List UInt8,hasP p s.data.toList = true → a + p.length ≤ t.size from fun p h => hasP_len (by rw [← hl];exact h) ha)
  clear hd1 hl
  by_cases h0 : s.size = 0
  · have hd := empty_true s h0
    have e0 : s.data.toList = [] := List.eq_nil_of_length_eq_zero (by rw [← Lib.size_eq];exact h0)
    rw [rdV,if_pos e0] at ho
    have HO := hyd ho
    clear ho e0 h0 hs1 hs2
    go_enter Tryz.func71,Tryz.ntmps71
    go_wp2_with (first | fail)
    refine bodyPost_ret (v := .tuple #[.agg #[.int .i64 0,.int .i64 0,.string ⟨#[]⟩,.slice none 0 0],.int .i64 (-1)]) (by simp [results,Tryz.results71,go_sem]) rfl ?_
    exact ⟨⟨0,0,⟨#[]⟩,[]⟩,none,0,(-1),rfl,(Keep.refl _ _).alloc _,SV_flat _ _ _ _ _ (i64_small (by omega) (by omega)) (i64_small (by omega) (by omega)) fits_nil,.inl ⟨HO.out,rfl⟩⟩
  have hd := empty_false s h0
  have q1 : 0 < s.size := by omega
  have q2 : a < t.size := by omega
  have e1 := at_eq s 0 q1
  have e0 : ¬ s.data.toList = [] := fun h => h0 (by rw [Lib.size_eq,h];rfl)
  rw [rdV,if_neg e0] at ho
  clear e0
  rcases c1 : hasP [110,117,108,108] s.data.toList with _ | _
  rotate_left
  · rw [if_pos c1] at ho
    have HO := hyd ho
    have P1 := hyd (hpS c1)
    have hn := HLn.out _ c1
    clear ho c1
    go_enter Tryz.func71,Tryz.ntmps71
    go_wp2_with (first | (go_at_call 35;first | ((with_reducible refine (P1.out _).mono ?_);rintro e w' ⟨rfl,rfl⟩) | ((with_reducible refine (P1.out _).mono ?_);rintro e w' ⟨rfl,rfl⟩) | ((with_reducible refine (P1.out _).mono ?_);rintro e w' ⟨rfl,rfl⟩)))
    refine bodyPost_ret (v := .tuple #[.agg #[.int .i64 0,.int .i64 0,.string ⟨#[]⟩,.slice none 0 0],.int .i64 ((a : Int) + 4)]) (by simp [results,Tryz.results71,go_sem]) rfl ?_
    exact ⟨⟨0,0,⟨#[]⟩,[]⟩,none,0,((a : Int) + 4),rfl,(Keep.refl _ _).alloc _,SV_flat _ _ _ _ _ (i64_small (by omega) (by omega)) (i64_small (by omega) (by omega)) fits_nil,.inr ⟨a + 4,by omega,hn,by rw [HO.out,DR.out];rfl⟩⟩
  rw [if_neg (by rw [c1];simp)] at ho
  have P1 := hyd (hpS c1)
  clear c1
  rcases c2 : hasP [116,114,117,101] s.data.toList with _ | _
  rotate_left
  · rw [if_pos c2] at ho
    have HO := hyd ho
    have P2 := hyd (hpS c2)
    have hn := HLn.out _ c2
    clear ho c2
    go_enter Tryz.func71,Tryz.ntmps71
    go_wp2_with (first | (go_at_call 35;first | ((with_reducible refine (P1.out _).mono ?_);rintro e w' ⟨rfl,rfl⟩) | ((with_reducible refine (P2.out _).mono ?_);rintro e w' ⟨rfl,rfl⟩) | ((with_reducible refine (P1.out _).mono ?_);rintro e w' ⟨rfl,rfl⟩)) | (go_at_call 94;refine (YN.out _ _).mono ?_;rintro e w2 ⟨rfl,hK⟩;obtain ⟨hc,hf⟩ := hK.cells;have z0 : w.heap.size < w2.heap.size := (by have := hK.size;simp at this;omega)))
    refine bodyPost_ret (v := .tuple #[.agg #[.int .i64 1,.int .i64 1,.string ⟨#[]⟩,.slice none 0 0],.int .i64 ((a : Int) + 4)]) (by simp [results,Tryz.results71,go_sem,hc,hf,z0]) rfl ?_
    exact ⟨⟨1,1,⟨#[]⟩,[]⟩,none,0,((a : Int) + 4),rfl,(by have hK1 := keep_a hK;repeat (first | (with_reducible exact hK1) | (refine Keep.set ?_ _ _ (fun h _ => Nat.lt_irrefl _ h)))),SV_flat _ _ _ _ _ (i64_small (by omega) (by omega)) (i64_small (by omega) (by omega)) fits_nil,.inr ⟨a + 4,by omega,hn,by rw [HO.out,DR.out];rfl⟩⟩
  rw [if_neg (by rw [c2];simp)] at ho
  have P2 := hyd (hpS c2)
  clear c2
  rcases c3 : hasP [102,97,108,115,101] s.data.toList with _ | _
  rotate_left
  · rw [if_pos c3] at ho
    have HO := hyd ho
    have P3 := hyd (hpS c3)
    have hn := HLn.out _ c3
    clear ho c3
    go_enter Tryz.func71,Tryz.ntmps71
    go_wp2_with (first | (go_at_call 35;first | ((with_reducible refine (P1.out _).mono ?_);rintro e w' ⟨rfl,rfl⟩) | ((with_reducible refine (P2.out _).mono ?_);rintro e w' ⟨rfl,rfl⟩) | ((with_reducible refine (P3.out _).mono ?_);rintro e w' ⟨rfl,rfl⟩)) | (go_at_call 94;refine (YN.out _ _).mono ?_;rintro e w2 ⟨rfl,hK⟩;obtain ⟨hc,hf⟩ := hK.cells;have z0 : w.heap.size < w2.heap.size := (by have := hK.size;simp at this;omega)))
    refine bodyPost_ret (v := .tuple #[.agg #[.int .i64 1,.int .i64 0,.string ⟨#[]⟩,.slice none 0 0],.int .i64 ((a : Int) + 5)]) (by simp [results,Tryz.results71,go_sem,hc,hf,z0]) rfl ?_
    exact ⟨⟨1,0,⟨#[]⟩,[]⟩,none,0,((a : Int) + 5),rfl,(by have hK1 := keep_a hK;repeat (first | (with_reducible exact hK1) | (refine Keep.set ?_ _ _ (fun h _ => Nat.lt_irrefl _ h)))),SV_flat _ _ _ _ _ (i64_small (by omega) (by omega)) (i64_small (by omega) (by omega)) fits_nil,.inr ⟨a + 5,by omega,hn,by rw [HO.out,DR.out];rfl⟩⟩
  rw [if_neg (by rw [c3];simp)] at ho
  have P3 := hyd (hpS c3)
  clear c3
  by_cases c4 : s.data.toList.headD 0 = 39
  · rw [if_pos c4] at ho
    have b4 := head_yes q1 (n := 39) rfl c4
    rcases c : cutAt 39 (s.data.toList.drop 1) with _ | ⟨x,r⟩
    · rw [c] at ho
      have HO := hyd ho
      have IX := hyd (ixS (s := s) (v := -1) (by rw [indexByte_cut,c]))
      clear ho c c4
      go_enter Tryz.func71,Tryz.ntmps71
      go_wp2_with (first | (go_at_call 35;first | ((with_reducible refine (P1.out _).mono ?_);rintro e w' ⟨rfl,rfl⟩) | ((with_reducible refine (P2.out _).mono ?_);rintro e w' ⟨rfl,rfl⟩) | ((with_reducible refine (P3.out _).mono ?_);rintro e w' ⟨rfl,rfl⟩)) | (go_at_call 95;refine (IX.out _).mono ?_;rintro e w' ⟨rfl,rfl⟩))
      refine bodyPost_ret (v := .tuple #[.agg #[.int .i64 0,.int .i64 0,.string ⟨#[]⟩,.slice none 0 0],.int .i64 (-1)]) (by simp [results,Tryz.results71,go_sem]) rfl ?_
      exact ⟨⟨0,0,⟨#[]⟩,[]⟩,none,0,(-1),rfl,(Keep.refl _ _).alloc _,SV_flat _ _ _ _ _ (i64_small (by omega) (by omega)) (i64_small (by omega) (by omega)) fits_nil,.inl ⟨HO.out,rfl⟩⟩
    · rw [c] at ho
      have HO := hyd ho
      have IX := hyd (ixS (s := s) (v := (x.length : Int)) (by rw [indexByte_cut,c]))
      have hc0 := (cutAt_some c).1
      have hx1 : 1 + x.length + 1 ≤ s.size := by have := congrArg List.length hc0;rw [List.length_drop,← Lib.size_eq,List.length_append,List.length_cons] at this;omega
      have hr : r = t.data.toList.drop (a + x.length + 2) := by rw [show a + x.length + 2 = a + (1 + (x.length + 1)) by omega,← DR.out,← List.drop_drop,hc0,← List.drop_drop,List.drop_left];rfl
      have hx : (⟨x.toArray⟩ : ByteArray) = s.extract 1 (x.length + 1) := by apply ByteArray.ext;apply Array.ext';rw [Lib.extract_data,hc0,Nat.add_sub_cancel,List.take_left]
      have HR := hyd hr
      have HX := hyd hx
      clear ho c c4 hc0 hr hx
      go_enter Tryz.func71,Tryz.ntmps71
      go_wp2_with (first | (go_at_call 35;first | ((with_reducible refine (P1.out _).mono ?_);rintro e w' ⟨rfl,rfl⟩) | ((with_reducible refine (P2.out _).mono ?_);rintro e w' ⟨rfl,rfl⟩) | ((with_reducible refine (P3.out _).mono ?_);rintro e w' ⟨rfl,rfl⟩)) | (go_at_call 95;refine (IX.out _).mono ?_;rintro e w' ⟨rfl,rfl⟩))
      refine bodyPost_ret (v := .tuple #[.agg #[.int .i64 3,.int .i64 0,.string (s.extract 1 (x.length + 1)),.slice none 0 0],.int .i64 ((a : Int) + x.length + 2)]) (by simp [results,Tryz.results71,go_sem]) rfl ?_
      exact ⟨⟨3,0,s.extract 1 (x.length + 1),[]⟩,none,0,((a : Int) + x.length + 2),rfl,(Keep.refl _ _).alloc _,SV_flat _ _ _ _ _ (i64_small (by omega) (by omega)) (i64_small (by omega) (by omega)) (by unfold Fits;rw [ByteArray.size_extract];omega),.inr ⟨a + x.length + 2,by omega,by omega,by rw [HO.out,HR.out,← HX.out];rfl⟩⟩
  rw [if_neg c4] at ho
  have b4 := head_not q1 (n := 39) rfl c4
  clear c4
  by_cases c5 : s.data.toList.headD 0 = 91
  · rw [if_pos c5] at ho
    have b5 := head_yes q1 (n := 91) rfl c5
    have VA := hyd (fun w => valuesAt_of d (by omega) ih t a 6 w ha ht (by omega))
    have HS := hyd (show s.data.toList = t.data.toList.drop a by have := DR.out 0;simpa using this)
    have HO := hyd ho
    have HD' := HD.out
    clear ho c5
    go_enter Tryz.func71,Tryz.ntmps71
    go_wp2_with (first | (go_at_call 35;first | ((with_reducible refine (P1.out _).mono ?_);rintro e w' ⟨rfl,rfl⟩) | ((with_reducible refine (P2.out _).mono ?_);rintro e w' ⟨rfl,rfl⟩) | ((with_reducible refine (P3.out _).mono ?_);rintro e w' ⟨rfl,rfl⟩)) | (go_at_call 96;refine (VA.out _).mono ?_;rintro e w2 ⟨l2,a2,c2,z2,rfl,hK,hS2,hz2⟩;have HS2 := hyd hS2;have HZ2 := hyd hz2;clear hS2 hz2;obtain ⟨hc,hf⟩ := hK.cells;have z0 : w.heap.size < w2.heap.size := (by have := hK.size;simp at this;omega)))
    refine bodyPost_ret (v := .tuple #[.agg #[.int .i64 4,.int .i64 0,.string ⟨#[]⟩,(.slice a2 l2.length c2)],.int .i64 z2]) (by simp [results,Tryz.results71,go_sem,hc,hf,z0]) rfl ?_
    refine ⟨⟨4,0,⟨#[]⟩,l2⟩,a2,c2,z2,rfl,(by have hK1 := keep_a hK;repeat (first | (with_reducible exact hK1) | (refine Keep.set ?_ _ _ (fun h _ => Nat.lt_irrefl _ h)))),SV.iff.2 ⟨_,rfl,(show I64 4 from ⟨by decide,by decide⟩),(show I64 0 from ⟨by decide,by decide⟩),fits_nil,?_⟩,?_⟩
    · refine SSl.mono (SVs.keep HS2.out (w' := _) ?_) fun k hk => ⟨by have h1 := hk.1;rw [World.size_alloc] at h1;omega,by simpa using hk.2⟩
      repeat (first | (with_reducible exact Keep.refl _ _) | (refine Keep.set ?_ _ _ (fun _ h => by have h1 := h.1;rw [World.size_alloc] at h1;exact Nat.not_succ_le_self _ h1)))
    · rcases HZ2.out with ⟨h1,h2,h3⟩ | ⟨k,h1,h2,h3⟩
      · exact .inl ⟨by rw [HO.out,HS.out,h1];rfl,h2⟩
      · exact .inr ⟨k,h1,h2,by rw [HO.out,HS.out,h3];rfl⟩
  rw [if_neg c5] at ho
  have b5 := head_not q1 (n := 91) rfl c5
  clear c5
  by_cases c6 : s.data.toList.headD 0 = 35
  · rw [if_pos c6] at ho
    have b6 := head_yes q1 (n := 35) rfl c6
    clear c6
    rcases c : figs (s.data.toList.drop 1) with _ | ⟨k,r⟩
    · rw [c] at ho
      have HO := hyd ho
      have FG := hyd (figs_none (t := t) (a := a + 1) (by omega) ht (by rw [← DR.out];exact c))
      clear ho c
      go_enter Tryz.func71,Tryz.ntmps71
      go_wp2_with (first | (go_at_call 35;first | ((with_reducible refine (P1.out _).mono ?_);rintro e w' ⟨rfl,rfl⟩) | ((with_reducible refine (P2.out _).mono ?_);rintro e w' ⟨rfl,rfl⟩) | ((with_reducible refine (P3.out _).mono ?_);rintro e w' ⟨rfl,rfl⟩)) | (go_at_call 34;refine (FG.out _).mono ?_;rintro e w' ⟨rfl,rfl⟩))
      refine bodyPost_ret (v := .tuple #[.agg #[.int .i64 5,.int .i64 0,.string ⟨#[]⟩,.slice none 0 0],.int .i64 (-1)]) (by simp [results,Tryz.results71,go_sem]) rfl ?_
      exact ⟨⟨5,0,⟨#[]⟩,[]⟩,none,0,(-1),rfl,(Keep.refl _ _).alloc _,SV_flat _ _ _ _ _ (i64_small (by omega) (by omega)) (i64_small (by omega) (by omega)) fits_nil,.inl ⟨HO.out,rfl⟩⟩
    · rw [c] at ho
      have HO := hyd ho
      obtain ⟨z,hz,hk,hr,fg⟩ := figs_some (t := t) (a := a + 1) (by omega) ht (by rw [← DR.out];exact c)
      have FG := hyd fg
      have HR := hyd hr
      clear ho c hr fg
      go_enter Tryz.func71,Tryz.ntmps71
      go_wp2_with (first | (go_at_call 35;first | ((with_reducible refine (P1.out _).mono ?_);rintro e w' ⟨rfl,rfl⟩) | ((with_reducible refine (P2.out _).mono ?_);rintro e w' ⟨rfl,rfl⟩) | ((with_reducible refine (P3.out _).mono ?_);rintro e w' ⟨rfl,rfl⟩)) | (go_at_call 34;refine (FG.out _).mono ?_;rintro e w' ⟨rfl,rfl⟩))
      refine bodyPost_ret (v := .tuple #[.agg #[.int .i64 5,.int .i64 (k : Int),.string ⟨#[]⟩,.slice none 0 0],.int .i64 (z : Int)]) (by simp [results,Tryz.results71,go_sem]) rfl ?_
      exact ⟨⟨5,(k : Int),⟨#[]⟩,[]⟩,none,0,(z : Int),rfl,(Keep.refl _ _).alloc _,SV_flat _ _ _ _ _ (i64_small (by omega) (by omega)) (i64_small (by omega) (by omega)) fits_nil,.inr ⟨z,rfl,hz,by rw [HO.out,HR.out];rfl⟩⟩
  rw [if_neg c6] at ho
  have b35 := head_not q1 (n := 35) rfl c6
  clear c6
  by_cases c6 : s.data.toList.headD 0 = 64
  · rw [if_pos c6] at ho
    have b6 := head_yes q1 (n := 64) rfl c6
    clear c6
    rcases c : figs (s.data.toList.drop 1) with _ | ⟨k,r⟩
    · rw [c] at ho
      have HO := hyd ho
      have FG := hyd (figs_none (t := t) (a := a + 1) (by omega) ht (by rw [← DR.out];exact c))
      clear ho c
      go_enter Tryz.func71,Tryz.ntmps71
      go_wp2_with (first | (go_at_call 35;first | ((with_reducible refine (P1.out _).mono ?_);rintro e w' ⟨rfl,rfl⟩) | ((with_reducible refine (P2.out _).mono ?_);rintro e w' ⟨rfl,rfl⟩) | ((with_reducible refine (P3.out _).mono ?_);rintro e w' ⟨rfl,rfl⟩)) | (go_at_call 34;refine (FG.out _).mono ?_;rintro e w' ⟨rfl,rfl⟩))
      refine bodyPost_ret (v := .tuple #[.agg #[.int .i64 6,.int .i64 0,.string ⟨#[]⟩,.slice none 0 0],.int .i64 (-1)]) (by simp [results,Tryz.results71,go_sem]) rfl ?_
      exact ⟨⟨6,0,⟨#[]⟩,[]⟩,none,0,(-1),rfl,(Keep.refl _ _).alloc _,SV_flat _ _ _ _ _ (i64_small (by omega) (by omega)) (i64_small (by omega) (by omega)) fits_nil,.inl ⟨HO.out,rfl⟩⟩
    · rw [c] at ho
      have HO := hyd ho
      obtain ⟨z,hz,hk,hr,fg⟩ := figs_some (t := t) (a := a + 1) (by omega) ht (by rw [← DR.out];exact c)
      have FG := hyd fg
      have HR := hyd hr
      clear ho c hr fg
      go_enter Tryz.func71,Tryz.ntmps71
      go_wp2_with (first | (go_at_call 35;first | ((with_reducible refine (P1.out _).mono ?_);rintro e w' ⟨rfl,rfl⟩) | ((with_reducible refine (P2.out _).mono ?_);rintro e w' ⟨rfl,rfl⟩) | ((with_reducible refine (P3.out _).mono ?_);rintro e w' ⟨rfl,rfl⟩)) | (go_at_call 34;refine (FG.out _).mono ?_;rintro e w' ⟨rfl,rfl⟩))
      refine bodyPost_ret (v := .tuple #[.agg #[.int .i64 6,.int .i64 (k : Int),.string ⟨#[]⟩,.slice none 0 0],.int .i64 (z : Int)]) (by simp [results,Tryz.results71,go_sem]) rfl ?_
      exact ⟨⟨6,(k : Int),⟨#[]⟩,[]⟩,none,0,(z : Int),rfl,(Keep.refl _ _).alloc _,SV_flat _ _ _ _ _ (i64_small (by omega) (by omega)) (i64_small (by omega) (by omega)) fits_nil,.inr ⟨z,rfl,hz,by rw [HO.out,HR.out];rfl⟩⟩
  rw [if_neg c6] at ho
  have b64 := head_not q1 (n := 64) rfl c6
  clear c6
  by_cases c6 : s.data.toList.headD 0 = 45
  · rw [if_pos c6] at ho
    have b6 := head_yes q1 (n := 45) rfl c6
    clear c6
    rcases c : figs (s.data.toList.drop 1) with _ | ⟨k,r⟩
    · rw [c] at ho
      have HO := hyd ho
      have FG := hyd (figs_none (t := t) (a := a + 1) (by omega) ht (by rw [← DR.out];exact c))
      clear ho c
      go_enter Tryz.func71,Tryz.ntmps71
      go_wp2_with (first | (go_at_call 35;first | ((with_reducible refine (P1.out _).mono ?_);rintro e w' ⟨rfl,rfl⟩) | ((with_reducible refine (P2.out _).mono ?_);rintro e w' ⟨rfl,rfl⟩) | ((with_reducible refine (P3.out _).mono ?_);rintro e w' ⟨rfl,rfl⟩)) | (go_at_call 34;refine (FG.out _).mono ?_;rintro e w' ⟨rfl,rfl⟩))
      refine bodyPost_ret (v := .tuple #[.agg #[.int .i64 2,.int .i64 0,.string ⟨#[]⟩,.slice none 0 0],.int .i64 (-1)]) (by simp [results,Tryz.results71,go_sem]) rfl ?_
      exact ⟨⟨2,0,⟨#[]⟩,[]⟩,none,0,(-1),rfl,(Keep.refl _ _).alloc _,SV_flat _ _ _ _ _ (i64_small (by omega) (by omega)) (i64_small (by omega) (by omega)) fits_nil,.inl ⟨HO.out,rfl⟩⟩
    · rw [c] at ho
      have HO := hyd ho
      obtain ⟨z,hz,hk,hr,fg⟩ := figs_some (t := t) (a := a + 1) (by omega) ht (by rw [← DR.out];exact c)
      have FG := hyd fg
      have HR := hyd hr
      clear ho c hr fg
      go_enter Tryz.func71,Tryz.ntmps71
      go_wp2_with (first | (go_at_call 35;first | ((with_reducible refine (P1.out _).mono ?_);rintro e w' ⟨rfl,rfl⟩) | ((with_reducible refine (P2.out _).mono ?_);rintro e w' ⟨rfl,rfl⟩) | ((with_reducible refine (P3.out _).mono ?_);rintro e w' ⟨rfl,rfl⟩)) | (go_at_call 34;refine (FG.out _).mono ?_;rintro e w' ⟨rfl,rfl⟩))
      refine bodyPost_ret (v := .tuple #[.agg #[.int .i64 2,.int .i64 (-(k : Int)),.string ⟨#[]⟩,.slice none 0 0],.int .i64 (z : Int)]) (by simp [results,Tryz.results71,go_sem]) rfl ?_
      exact ⟨⟨2,(-(k : Int)),⟨#[]⟩,[]⟩,none,0,(z : Int),rfl,(Keep.refl _ _).alloc _,SV_flat _ _ _ _ _ (i64_small (by omega) (by omega)) (i64_small (by omega) (by omega)) fits_nil,.inr ⟨z,rfl,hz,by rw [HO.out,HR.out];rfl⟩⟩
  rw [if_neg c6] at ho
  have b45 := head_not q1 (n := 45) rfl c6
  clear c6
  rcases c : figs s.data.toList with _ | ⟨k,r⟩
  · rw [c] at ho
    have HO := hyd ho
    have FG := hyd (figs_none (t := t) (a := a) ha ht (by have := DR.out 0;simp only [List.drop_zero,Nat.add_zero] at this;rw [← this];exact c))
    clear ho c
    go_enter Tryz.func71,Tryz.ntmps71
    go_wp2_with (first | (go_at_call 35;first | ((with_reducible refine (P1.out _).mono ?_);rintro e w' ⟨rfl,rfl⟩) | ((with_reducible refine (P2.out _).mono ?_);rintro e w' ⟨rfl,rfl⟩) | ((with_reducible refine (P3.out _).mono ?_);rintro e w' ⟨rfl,rfl⟩)) | (go_at_call 34;refine (FG.out _).mono ?_;rintro e w' ⟨rfl,rfl⟩))
    refine bodyPost_ret (v := .tuple #[.agg #[.int .i64 2,.int .i64 0,.string ⟨#[]⟩,.slice none 0 0],.int .i64 (-1)]) (by simp [results,Tryz.results71,go_sem]) rfl ?_
    exact ⟨⟨2,0,⟨#[]⟩,[]⟩,none,0,(-1),rfl,(Keep.refl _ _).alloc _,SV_flat _ _ _ _ _ (i64_small (by omega) (by omega)) (i64_small (by omega) (by omega)) fits_nil,.inl ⟨HO.out,rfl⟩⟩
  · rw [c] at ho
    have HO := hyd ho
    obtain ⟨z,hz,hk,hr,fg⟩ := figs_some (t := t) (a := a) ha ht (by have := DR.out 0;simp only [List.drop_zero,Nat.add_zero] at this;rw [← this];exact c)
    have FG := hyd fg
    have HR := hyd hr
    clear ho c hr fg
    go_enter Tryz.func71,Tryz.ntmps71
    go_wp2_with (first | (go_at_call 35;first | ((with_reducible refine (P1.out _).mono ?_);rintro e w' ⟨rfl,rfl⟩) | ((with_reducible refine (P2.out _).mono ?_);rintro e w' ⟨rfl,rfl⟩) | ((with_reducible refine (P3.out _).mono ?_);rintro e w' ⟨rfl,rfl⟩)) | (go_at_call 34;refine (FG.out _).mono ?_;rintro e w' ⟨rfl,rfl⟩))
    refine bodyPost_ret (v := .tuple #[.agg #[.int .i64 2,.int .i64 (k : Int),.string ⟨#[]⟩,.slice none 0 0],.int .i64 (z : Int)]) (by simp [results,Tryz.results71,go_sem]) rfl ?_
    exact ⟨⟨2,(k : Int),⟨#[]⟩,[]⟩,none,0,(z : Int),rfl,(Keep.refl _ _).alloc _,SV_flat _ _ _ _ _ (i64_small (by omega) (by omega)) (i64_small (by omega) (by omega)) fits_nil,.inr ⟨z,rfl,hz,by rw [HO.out,HR.out];rfl⟩⟩
end Go.Proofs.YtjopkcjpedgoaaaGreatDoor

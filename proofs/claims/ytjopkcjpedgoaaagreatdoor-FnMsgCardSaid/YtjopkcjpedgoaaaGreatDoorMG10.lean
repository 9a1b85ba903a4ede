/- The reference's small readers: a text up to a byte, what stands ahead of a comma or a bracket, an atom. For every text of at most 2^61 bytes. -/
import Derived.Test.YtjopkcjpedgoaaaGreatDoorMG1
import Derived.Test.YtjopkcjpedgoaaaGreatDoorMG6
/- The reference's small readers: a text up to a byte,what stands ahead of a comma or a bracket,an atom. For every text of at most 2^61 bytes. -/
namespace Go.Proofs.YtjopkcjpedgoaaaGreatDoor
open Go.RowKit
set_option linter.unusedVariables false
set_option linter.unusedSimpArgs false
set_option maxHeartbeats 2000000
theorem take_no {s : ByteArray} {c : UInt8} {k : Nat} (hk : k ≤ s.size) (h : ∀ j,j < k → at_ s j ≠ c.toNat) : c ∉ s.data.toList.take k := by
  intro hm
  obtain ⟨j,hj,e⟩ := List.getElem_of_mem hm
  rw [List.length_take,← Lib.size_eq] at hj
  have hjs : j < s.size := by omega
  refine h j (by omega) ?_
  rw [← at_eq s j hjs]
  rw [List.getElem_take] at e
  exact congrArg UInt8.toNat e
theorem cutAt_hit {s : ByteArray} {c : UInt8} {k : Nat} (hk : k < s.size) (h0 : at_ s k = c.toNat) (h : ∀ j,j < k → at_ s j ≠ c.toNat) : cutAt c s.data.toList = some (s.data.toList.take k,s.data.toList.drop (k + 1)) := by
  have e : s.data.toList = s.data.toList.take k ++ c :: s.data.toList.drop (k + 1) := by
    have hc : c = s[k]'hk := by rw [← at_eq s k hk] at h0;exact (UInt8.toNat_inj.1 h0).symm
    conv => lhs;rw [← List.take_append_drop k s.data.toList,drop_at hk,← hc]
  conv => lhs;rw [e]
  exact cutAt_app (take_no (by omega) h)
theorem cutAt_miss {s : ByteArray} {c : UInt8} (h : ∀ j,j < s.size → at_ s j ≠ c.toNat) : cutAt c s.data.toList = none := by
  refine cutAt_none ?_
  have := take_no (s := s) (c := c) (k := s.size) (Nat.le_refl _) h
  rwa [List.take_of_length_le (by rw [← Lib.size_eq];exact Nat.le_refl _)] at this
def GotUp (o : Option (List UInt8 × List UInt8)) (w : World) (e : Ending) (w' : World) : Prop :=
  (o = none ∧ e = .returned (.tuple #[.string ⟨#[]⟩,.string ⟨#[]⟩,.bool false]) ∧ w = w') ∨ ∃ x y,o = some (x,y) ∧ e = .returned (.tuple #[.string ⟨x.toArray⟩,.string ⟨y.toArray⟩,.bool true]) ∧ Keep Any w w'
theorem take_eq (s : ByteArray) (k : Nat) : s.extract 0 k = ⟨(s.data.toList.take k).toArray⟩ := by
  apply ByteArray.ext;apply Array.ext'
  rw [Lib.extract_data];simp
theorem drop_eq (s : ByteArray) (k : Nat) : s.extract k s.size = ⟨(s.data.toList.drop k).toArray⟩ := by
  apply ByteArray.ext;apply Array.ext'
  rw [rest_data]
theorem l9Upto_calls (s : ByteArray) (c : UInt8) (b : Int) (hb : b = c.toNat) (w : World) (hs : s.size ≤ 2305843009213693952) : Calls Tryz.prog 40 #[.string s,.int .u8 b] w (GotUp (cutAt c s.data.toList) w) := by
  obtain ⟨o,ho⟩ : ∃ o,o = cutAt c s.data.toList := ⟨_,rfl⟩
  rw [← ho]
  have HO := hyd ho
  have HB := hyd hb
  clear ho hb
  go_enter Tryz.func40,Tryz.ntmps40
  go_wp2
  go_loop [7] (fun i => ∃ k : Nat,k ≤ s.size ∧ i = .int .i64 k ∧ ∀ j,j < k → at_ s j ≠ c.toNat) (fun i => s.size - (intOf i).toNat)
  case atStart => exact ⟨0,by omega,rfl,fun j hj => by omega⟩
  case round =>
    obtain ⟨k,hk,rfl,hg⟩ := hrel
    have HG := hyd hg
    clear hg
    by_cases hlt : k < s.size
    · have e1 := at_eq s k hlt
      by_cases hc : at_ s k = c.toNat
      · have q1 : (((at_ s k : Nat) : Int) == b) = true := by rw [beq_iff_eq,HB.out];omega
        have HC := hyd hc
        clear hc
        go_wp2
        go_quiet (fail)
        go_wp2
        go_ret3
        exact .inr ⟨_,_,by rw [HO.out,cutAt_hit hlt HC.out HG.out],by rw [← take_eq,← drop_eq];rfl,(Keep.refl _ _).drewN _⟩
      · have q1 : (((at_ s k : Nat) : Int) == b) = false := by rw [beq_eq_false_iff_ne,HB.out];omega
        have HC := hyd hc
        clear hc
        go_wp2
        go_round
        case rel => exact ⟨k + 1,by omega,by go_num,fun j hj => by rcases Nat.lt_succ_iff_lt_or_eq.1 hj with hj | rfl;exact HG.out j hj;exact HC.out⟩
        case measure => simp [intOf];omega
    · have hk' : k = s.size := by omega
      have HK := hyd hk'
      clear hk'
      go_wp2
      go_ret3
      exact .inl ⟨by rw [HO.out,cutAt_miss (by rw [← HK.out];exact HG.out)],rfl,rfl⟩
theorem plainAt_eq {s : ByteArray} {k : Nat} (hk : k ≤ s.size) (h : ∀ j,j < k → at_ s j ≠ 44 ∧ at_ s j ≠ 93) (he : k = s.size ∨ at_ s k = 44 ∨ at_ s k = 93) : plainAt s.data.toList = k := by
  have e : s.data.toList = s.data.toList.take k ++ s.data.toList.drop k := (List.take_append_drop _ _).symm
  have hE : Ends (s.data.toList.drop k) := fun b r hb => by
    rcases Nat.lt_or_ge k s.size with hl | hl
    · rw [drop_at hl] at hb
      cases hb
      have e1 := at_eq s k hl
      rcases he with he | he | he
      · omega
      · rw [he] at e1;exact .inl (UInt8.toNat_inj.1 e1)
      · rw [he] at e1;exact .inr (UInt8.toNat_inj.1 e1)
    · rw [List.drop_of_length_le (by rw [← Lib.size_eq];exact hl)] at hb;cases hb
  have h4 := take_no (s := s) (c := 44) hk fun j hj => (h j hj).1
  have h9 := take_no (s := s) (c := 93) hk fun j hj => (h j hj).2
  conv => lhs;rw [e]
  rw [plainAt_app hE (fun b hb => ⟨fun e => h4 (e ▸ hb),fun e => h9 (e ▸ hb)⟩),List.length_take,← Lib.size_eq]
  omega
def QNum (n : Nat) (w : World) (e : Ending) (w' : World) : Prop := e = .returned (.int .i64 n) ∧ w = w'
theorem l1Plain_calls (s : ByteArray) (w : World) (hs : s.size ≤ 2305843009213693952) : Calls Tryz.prog 99 #[.string s] w (QNum (plainAt s.data.toList) w) := by
  obtain ⟨o,ho⟩ : ∃ o,o = plainAt s.data.toList := ⟨_,rfl⟩
  rw [← ho]
  have HO := hyd ho
  clear ho
  go_enter Tryz.func99,Tryz.ntmps99
  go_wp2
  go_loop [3] (fun i => ∃ k : Nat,k ≤ s.size ∧ i = .int .i64 k ∧ ∀ j,j < k → at_ s j ≠ 44 ∧ at_ s j ≠ 93) (fun i => s.size - (intOf i).toNat)
  case atStart => exact ⟨0,by omega,rfl,fun j hj => by omega⟩
  case round =>
    obtain ⟨k,hk,rfl,hg⟩ := hrel
    have HG := hyd hg
    clear hg
    by_cases hlt : k < s.size
    · have e1 := at_eq s k hlt
      by_cases h4 : at_ s k = 44
      · have q1 : (((at_ s k : Nat) : Int) != 44) = false := by rw [h4];rfl
        have HP := hyd (plainAt_eq hk HG.out (.inr (.inl h4)))
        clear h4
        go_wp2
        go_ret
        exact ⟨ret_int (by rw [HO.out,HP.out]),rfl⟩
      · have q1 : (((at_ s k : Nat) : Int) != 44) = true := by rw [bne_iff_ne];omega
        by_cases h9 : at_ s k = 93
        · have q2 : (((at_ s k : Nat) : Int) != 93) = false := by rw [h9];rfl
          have HP := hyd (plainAt_eq hk HG.out (.inr (.inr h9)))
          clear h9 h4
          go_wp2
          go_ret
          exact ⟨ret_int (by rw [HO.out,HP.out]),rfl⟩
        · have q2 : (((at_ s k : Nat) : Int) != 93) = true := by rw [bne_iff_ne];omega
          have H4 := hyd h4
          have H9 := hyd h9
          clear h4 h9
          go_wp2
          go_round
          case rel => exact ⟨k + 1,by omega,by go_num,fun j hj => by rcases Nat.lt_succ_iff_lt_or_eq.1 hj with hj | rfl;exact HG.out j hj;exact ⟨H4.out,H9.out⟩⟩
          case measure => simp [intOf];omega
    · have HP := hyd (plainAt_eq hk HG.out (.inl (by omega)))
      go_wp2
      go_ret
      exact ⟨ret_int (by rw [HO.out,HP.out]),rfl⟩
theorem l1Bool_calls (b : Bool) (w : World) : Calls Tryz.prog 122 #[.bool b] w (IsYes b w) := by
  cases b
  · go_enter Tryz.func122,Tryz.ntmps122
    go_wp2
    refine bodyPost_ret (v := .agg #[.int .i64 1,.int .i64 0,.string ⟨#[]⟩,.slice none 0 0]) (by simp [results,Tryz.results122,go_sem]) rfl ⟨rfl,?_⟩
    exact (Keep.refl _ _).alloc _
  · go_enter Tryz.func122,Tryz.ntmps122
    go_wp2
    refine bodyPost_ret (v := .agg #[.int .i64 1,.int .i64 1,.string ⟨#[]⟩,.slice none 0 0]) (by simp [results,Tryz.results122,go_sem]) rfl ⟨rfl,?_⟩
    exact (Keep.refl _ _).alloc _
def GotAtom (v : V) (w : World) (e : Ending) (w' : World) : Prop := ∃ k n : Int,v = ⟨k,n,⟨#[]⟩,[]⟩ ∧ I64 k ∧ I64 n ∧ e = .returned (.tuple #[.agg #[.int .i64 k,.int .i64 n,.string ⟨#[]⟩,.slice none 0 0],.bool true]) ∧ Keep Any w w'
theorem str_yes {s : ByteArray} {l : List UInt8} (h : s.data.toList = l) : (s.toList == l) = true := by rw [beq_iff_eq,ByteArray.toList_eq];exact h
theorem str_no {s : ByteArray} {l : List UInt8} (h : ¬ s.data.toList = l) : (s.toList == l) = false := by rw [beq_eq_false_iff_ne,ByteArray.toList_eq];exact h
theorem numS_calls (s : ByteArray) (hs : s.size ≤ 2305843009213693952) : ∃ n : Int,n = numL s.data.toList ∧ -1 ≤ n ∧ n ≤ 10000000000 ∧ ∀ w,Calls Tryz.prog 28 #[.string s] w fun e w' => e = .returned (.int .i64 n) ∧ w = w' :=
  ⟨l1Num s,l1Num_list s,(l1Num_bd s).1,(l1Num_bd s).2,fun w => l1Num_calls s w (by omega)⟩
theorem l1Atom_calls (s : ByteArray) (w : World) (hs : s.size ≤ 2305843009213693952) : Calls Tryz.prog 100 #[.string s] w (GotAtom (sAtom s.data.toList) w) := by
  obtain ⟨o,ho⟩ : ∃ o,o = sAtom s.data.toList := ⟨_,rfl⟩
  rw [← ho]
  have YN := hyd l1Bool_calls
  by_cases c1 : s.data.toList = [110,117,108,108]
  · rw [sAtom,if_pos c1] at ho
    have b1 := str_yes c1
    have HO := hyd ho
    clear ho c1
    go_enter Tryz.func100,Tryz.ntmps100
    go_wp2
    refine bodyPost_ret (v := .tuple #[.agg #[.int .i64 0,.int .i64 0,.string ⟨#[]⟩,.slice none 0 0],.bool true]) (by simp [results,Tryz.results100,go_sem]) rfl ?_
    exact ⟨0,0,HO.out,(show I64 0 from ⟨by decide,by decide⟩),(show I64 0 from ⟨by decide,by decide⟩),rfl,(Keep.refl _ _).alloc _⟩
  rw [sAtom,if_neg c1] at ho
  have b1 := str_no c1
  clear c1
  by_cases c2 : s.data.toList = [116,114,117,101]
  · rw [if_pos c2] at ho
    have b2 := str_yes c2
    have HO := hyd ho
    clear ho c2
    go_enter Tryz.func100,Tryz.ntmps100
    go_wp2_with (go_at_call 122;refine (YN.out _ _).mono ?_;rintro e w2 ⟨rfl,hK⟩;obtain ⟨hc,hf⟩ := hK.cells;have z0 : w.heap.size < w2.heap.size := (by have := hK.size;simp at this;omega))
    refine bodyPost_ret (v := .tuple #[.agg #[.int .i64 1,.int .i64 1,.string ⟨#[]⟩,.slice none 0 0],.bool true]) (by simp [results,Tryz.results100,go_sem,hc,hf,z0]) rfl ?_
    exact ⟨1,1,HO.out,(show I64 1 from ⟨by decide,by decide⟩),(show I64 1 from ⟨by decide,by decide⟩),rfl,(by have hK1 := keep_a hK;repeat (first | (with_reducible exact hK1) | (refine Keep.set ?_ _ _ (fun h _ => Nat.lt_irrefl _ h))))⟩
  rw [if_neg c2] at ho
  have b2 := str_no c2
  clear c2
  by_cases c3 : s.data.toList = [102,97,108,115,101]
  · rw [if_pos c3] at ho
    have b3 := str_yes c3
    have HO := hyd ho
    clear ho c3
    go_enter Tryz.func100,Tryz.ntmps100
    go_wp2_with (go_at_call 122;refine (YN.out _ _).mono ?_;rintro e w2 ⟨rfl,hK⟩;obtain ⟨hc,hf⟩ := hK.cells;have z0 : w.heap.size < w2.heap.size := (by have := hK.size;simp at this;omega))
    refine bodyPost_ret (v := .tuple #[.agg #[.int .i64 1,.int .i64 0,.string ⟨#[]⟩,.slice none 0 0],.bool true]) (by simp [results,Tryz.results100,go_sem,hc,hf,z0]) rfl ?_
    exact ⟨1,0,HO.out,(show I64 1 from ⟨by decide,by decide⟩),(show I64 0 from ⟨by decide,by decide⟩),rfl,(by have hK1 := keep_a hK;repeat (first | (with_reducible exact hK1) | (refine Keep.set ?_ _ _ (fun h _ => Nat.lt_irrefl _ h))))⟩
  rw [if_neg c3] at ho
  have b3 := str_no c3
  clear c3
  rw [← Lib.size_eq] at ho
  by_cases hsz : 1 < s.size
  · have q1 : 0 < s.size := by omega
    have e1 := at_eq s 0 q1
    by_cases c4 : s.data.toList.headD 0 = 35
    · rw [if_pos ⟨hsz,c4⟩] at ho
      have b4 := head_yes q1 (n := 35) rfl c4
      clear c4
      obtain ⟨n,hn,h0,h1,hc⟩ := numS_calls (s.extract 1 s.size) (by rw [ByteArray.size_extract];omega)
      rw [tail_data] at hn
      rw [← hn] at ho
      have HO := hyd ho
      have NM := hyd hc
      clear ho hn hc
      go_enter Tryz.func100,Tryz.ntmps100
      go_wp2_with (go_at_call 28;refine (NM.out _).mono ?_;rintro e w' ⟨rfl,rfl⟩)
      refine bodyPost_ret (v := .tuple #[.agg #[.int .i64 5,.int .i64 n,.string ⟨#[]⟩,.slice none 0 0],.bool true]) (by simp [results,Tryz.results100,go_sem]) rfl ?_
      exact ⟨5,n,HO.out,(show I64 5 from ⟨by decide,by decide⟩),⟨by omega,by omega⟩,rfl,(Keep.refl _ _).alloc _⟩
    rw [if_neg (fun h => c4 h.2)] at ho
    have b35 := head_not q1 (n := 35) rfl c4
    clear c4
    by_cases c4 : s.data.toList.headD 0 = 64
    · rw [if_pos ⟨hsz,c4⟩] at ho
      have b4 := head_yes q1 (n := 64) rfl c4
      clear c4
      obtain ⟨n,hn,h0,h1,hc⟩ := numS_calls (s.extract 1 s.size) (by rw [ByteArray.size_extract];omega)
      rw [tail_data] at hn
      rw [← hn] at ho
      have HO := hyd ho
      have NM := hyd hc
      clear ho hn hc
      go_enter Tryz.func100,Tryz.ntmps100
      go_wp2_with (go_at_call 28;refine (NM.out _).mono ?_;rintro e w' ⟨rfl,rfl⟩)
      refine bodyPost_ret (v := .tuple #[.agg #[.int .i64 6,.int .i64 n,.string ⟨#[]⟩,.slice none 0 0],.bool true]) (by simp [results,Tryz.results100,go_sem]) rfl ?_
      exact ⟨6,n,HO.out,(show I64 6 from ⟨by decide,by decide⟩),⟨by omega,by omega⟩,rfl,(Keep.refl _ _).alloc _⟩
    rw [if_neg (fun h => c4 h.2)] at ho
    have b64 := head_not q1 (n := 64) rfl c4
    clear c4
    by_cases c4 : s.data.toList.headD 0 = 45
    · rw [if_pos ⟨hsz,c4⟩] at ho
      have b4 := head_yes q1 (n := 45) rfl c4
      clear c4
      obtain ⟨n,hn,h0,h1,hc⟩ := numS_calls (s.extract 1 s.size) (by rw [ByteArray.size_extract];omega)
      rw [tail_data] at hn
      rw [← hn] at ho
      have HO := hyd ho
      have NM := hyd hc
      clear ho hn hc
      go_enter Tryz.func100,Tryz.ntmps100
      go_wp2_with (go_at_call 28;refine (NM.out _).mono ?_;rintro e w' ⟨rfl,rfl⟩)
      refine bodyPost_ret (v := .tuple #[.agg #[.int .i64 2,.int .i64 (-n),.string ⟨#[]⟩,.slice none 0 0],.bool true]) (by simp [results,Tryz.results100,go_sem]) rfl ?_
      exact ⟨2,(-n),HO.out,(show I64 2 from ⟨by decide,by decide⟩),⟨by omega,by omega⟩,rfl,(Keep.refl _ _).alloc _⟩
    rw [if_neg (fun h => c4 h.2)] at ho
    have b45 := head_not q1 (n := 45) rfl c4
    clear c4
    obtain ⟨n,hn,h0,h1,hc⟩ := numS_calls s hs
    rw [← hn] at ho
    have HO := hyd ho
    have NM := hyd hc
    clear ho hn hc
    go_enter Tryz.func100,Tryz.ntmps100
    go_wp2_with (go_at_call 28;refine (NM.out _).mono ?_;rintro e w' ⟨rfl,rfl⟩)
    refine bodyPost_ret (v := .tuple #[.agg #[.int .i64 2,.int .i64 n,.string ⟨#[]⟩,.slice none 0 0],.bool true]) (by simp [results,Tryz.results100,go_sem]) rfl ?_
    exact ⟨2,n,HO.out,(show I64 2 from ⟨by decide,by decide⟩),⟨by omega,by omega⟩,rfl,(Keep.refl _ _).alloc _⟩
  · rw [if_neg (fun h => hsz h.1),if_neg (fun h => hsz h.1),if_neg (fun h => hsz h.1)] at ho
    obtain ⟨n,hn,h0,h1,hc⟩ := numS_calls s hs
    rw [← hn] at ho
    have HO := hyd ho
    have NM := hyd hc
    clear ho hn hc
    go_enter Tryz.func100,Tryz.ntmps100
    go_wp2_with (go_at_call 28;refine (NM.out _).mono ?_;rintro e w' ⟨rfl,rfl⟩)
    refine bodyPost_ret (v := .tuple #[.agg #[.int .i64 2,.int .i64 n,.string ⟨#[]⟩,.slice none 0 0],.bool true]) (by simp [results,Tryz.results100,go_sem]) rfl ?_
    exact ⟨2,n,HO.out,(show I64 2 from ⟨by decide,by decide⟩),⟨by omega,by omega⟩,rfl,(Keep.refl _ _).alloc _⟩
end Go.Proofs.YtjopkcjpedgoaaaGreatDoor

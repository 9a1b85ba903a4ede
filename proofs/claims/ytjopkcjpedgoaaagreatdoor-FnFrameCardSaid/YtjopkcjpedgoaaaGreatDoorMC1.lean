/- The drawing of numbers out of bytes: a number from 0 to n-1 comes of each pick, whatever the bytes. One of a list of texts, drawn; a reader begun. One of a list of numbers, drawn. A text many times: some text of bounded size. A number's figures, and one byte as a text. No condition. A number in decimals: the reference's l1Dec writes what strconv.Itoa writes. For every int. A value's text, as a plain function; how long it is. For every value. The reading of values, as plain functions: how the program reads one and how the reference does; each finds a value again in its text, so both find the same. No condition. The reading of values as the reference does it, as plain functions: it finds a value again in its text, so it finds what the program finds. No condition. Which texts are names: the program's test, for every text. The program's figuresAt: the number that stands at a place. For every text of at most 2^61 bytes. The program's reading of values: valueAt, valuesAt. For every text of at most 2^61 bytes. An own slice stays where another's block is written. strconv.Itoa by its contract, where Go's table of powers of ten is laid; and that the table stays. For every int. A slice that a call makes and fills, place by place. No condition. A value's text: the program's putOf and rowPut, and the reference's l1Put, write the same. For every value that is ok. The number that figures are: the reference's l1Num. For every text of at most 2^62 bytes. A value is stored into a block of one's own: the block's cells behind it, all else as it was. No condition. What an append does, by its run; nothing behind nothing. No condition. Lists of texts that grow: what an append of texts leaves. No condition. -/
import Derived.Test.YtjopkcjpedgoaaaGreatDoorMC0
import Derived.Lib.ItoaNum
import Derived.Lib.ItoaLen
import Derived.Lib.ConvBytes
import Derived.Lib.Join
import Derived.Test.YtjopkcjpedgoaaaGreatDoorShelf
import Derived.Lib.LaidTab
import Derived.Stop.LaidErr
import Derived.MakeChecks
import Derived.Laws.OwnMore
import Derived.Deep.MidRow
import Derived.Laws.Rows
import Derived.Deep.RegionLaw
import Derived.Laws.AppendOwn
/- The drawing of numbers out of bytes: a number from 0 to n-1 comes of each pick,whatever the bytes. -/
namespace Go.Proofs.YtjopkcjpedgoaaaGreatDoor
open Go.RowKit
set_option linter.unusedVariables false
set_option linter.unusedSimpArgs false
set_option maxRecDepth 20000
set_option maxHeartbeats 4000000
def Byt (w : World) (b : Nat) (s : Value) (n : Nat) : Prop :=
  ∃ (a : Option Addr) (c : Nat),s = .slice a n c ∧ n ≤ c ∧ c ≤ 9223372036854775807 ∧ (0 < n → ∃ ad : Addr,a = some ad ∧ ad.block ≠ b ∧ ∀ i,i < n → ∃ x : Nat,x < 256 ∧ w.cell? (ad.add i) = some (.int .u8 x))
def Rdr (w : World) (b : Nat) (s : Value) (n p : Nat) : Prop := w.heap[b]? = some (.cells #[s,.int .i64 p] 77 (0,0)) ∧ Byt w b s n
theorem Byt.keep {w w' : World} {b : Nat} {s : Value} {n : Nat} (h : Byt w b s n) (k : Keep (But b) w w') : Byt w' b s n := by
  obtain ⟨a,c,rfl,h1,h2,h3⟩ := h
  refine ⟨a,c,rfl,h1,h2,fun hn => ?_⟩
  obtain ⟨ad,rfl,hb,hf⟩ := h3 hn
  refine ⟨ad,rfl,hb,fun i hi => ?_⟩
  obtain ⟨x,hx,hc⟩ := hf i hi
  exact ⟨x,hx,k.cell hc (by rw [add_block];exact hb)⟩
theorem xor_i64_nat (a b : Nat) (ha : a < 4611686018427387904) (hb : b < 4611686018427387904) : bits .xor .i64 (a : Int) (b : Int) = ((a ^^^ b : Nat) : Int) := by
  have hx : a ^^^ b < 2 ^ 62 := Nat.xor_lt_two_pow (by omega) (by omega)
  have h1 : (BitVec.ofInt 64 (a : Int)).toNat = a := by
    rw [BitVec.ofInt_natCast,BitVec.toNat_ofNat];exact Nat.mod_eq_of_lt (by omega)
  have h2 : (BitVec.ofInt 64 (b : Int)).toNat = b := by
    rw [BitVec.ofInt_natCast,BitVec.toNat_ofNat];exact Nat.mod_eq_of_lt (by omega)
  show IntKind.i64.wrap ((BitVec.ofInt 64 (a : Int) ^^^ BitVec.ofInt 64 (b : Int)).toNat : Int) = _
  rw [BitVec.toNat_xor,h1,h2]
  simp [IntKind.wrap,IntKind.bits,IntKind.signed]
  omega
theorem xor_shift (X : Int) (h0 : 0 ≤ X) (h1 : X < 4611686018427387904) : 0 ≤ bits .xor .i64 X (X / 64) := by
  obtain ⟨n,rfl⟩ := Int.eq_ofNat_of_zero_le h0
  have e : ((n : Int) / 64) = ((n / 64 : Nat) : Int) := by omega
  rw [e,xor_i64_nat n (n / 64) (by omega) (by omega)]
  omega
def Picked (k : Int) (w : World) (b : Nat) (s : Value) (n p : Nat) (e : Ending) (w' : World) : Prop :=
  ∃ j : Int,e = .returned (.int .i64 j) ∧ 0 ≤ j ∧ (1 ≤ k → j < k) ∧ Rdr w' b s n (p + 1) ∧ Keep (But b) w w'
theorem pick_calls (k : Int) (w : World) (b : Nat) (s : Value) (n p : Nat) (h : Rdr w b s n p) (hn : n ≤ 2000) (hp : p ≤ 1000000) (hk : -1000000 ≤ k ∧ k ≤ 1000000) :
    Calls Tryz.prog 26 #[.pointer (some ⟨b,0,none⟩),.int .i64 k] w (Picked k w b s n p) := by
  obtain ⟨hb,hs⟩ := h
  have HB := hyd hb
  have HS := hyd hs
  have y0 : w.cell? ⟨b,0,none⟩ = some s := (blk_cell hb 0).trans rfl
  have y1 : w.cell? ⟨b,1,none⟩ = some (.int .i64 p) := (blk_cell hb 1).trans rfl
  have f0 := blk_frozen hb 0
  have f1 := blk_frozen hb 1
  have zb := blk_lt hb
  have hR := hyd (show ∀ w',Keep (But b) (w.setCell ⟨b,1,none⟩ (.int .i64 ((p : Int) + 1))) w' → w'.heap[b]? = (w.setCell ⟨b,1,none⟩ (.int .i64 ((p : Int) + 1))).heap[b]? → Rdr w' b s n (p + 1) ∧ Keep (But b) w w' from fun w' hk he => by
    have k1 : Keep (But b) w w' := ((Keep.refl _ _).set _ _ (fun _ h => h rfl)).trans hk
    exact ⟨⟨he.trans ((blk_set hb 1 _).trans rfl),hs.keep k1⟩,k1⟩)
  obtain ⟨a,c,rfl,h1,h2,h3⟩ := hs
  clear hb
  by_cases hk1 : k < 1
  · go_enter Tryz.func26,Tryz.ntmps26
    go_wp2
    go_ret
    exact ⟨0,rfl,by omega,fun h => by omega,hR.out _ (Keep.refl _ _) rfl⟩
  by_cases hn0 : n = 0
  · have q0 : ((n : Int) == 0) = true := by rw [hn0];rfl
    clear hn0
    go_enter Tryz.func26,Tryz.ntmps26
    go_wp2
    go_ret
    exact ⟨0,rfl,by omega,fun h => by omega,hR.out _ (Keep.refl _ _) rfl⟩
  have q0 : ((n : Int) == 0) = false := by rw [beq_eq_false_iff_ne];omega
  obtain ⟨ad,rfl,had,hf⟩ := h3 (by omega)
  have HF := hyd hf
  have HAD := hyd had
  clear hf h3
  by_cases hpn : p < n
  · obtain ⟨x,hx,hc⟩ := HF.out p hpn
    have hc2 := ((Keep.refl (But b) w).set ⟨b,1,none⟩ (.int .i64 ((p : Int) + 1)) (fun _ h => h rfl)).cell hc (show But b _ by rw [add_block];exact had)
    have cc : (p : Int) < (n : Int) := by omega
    clear hc had
    go_enter Tryz.func26,Tryz.ntmps26
    go_wp2
    go_ret
    exact ⟨(x : Int) % k,rfl,Int.emod_nonneg _ (by omega),fun _ => Int.emod_lt_of_pos _ (by omega),hR.out _ (Keep.refl _ _) rfl⟩
  · have cc : ¬ (p : Int) < (n : Int) := by omega
    obtain ⟨i1,hi1⟩ : ∃ i : Nat,i = p % n := ⟨_,rfl⟩
    obtain ⟨i2,hi2⟩ : ∃ i : Nat,i = (p * 7 + 3) % n := ⟨_,rfl⟩
    have l1 : i1 < n := hi1 ▸ Nat.mod_lt _ (by omega)
    have l2 : i2 < n := hi2 ▸ Nat.mod_lt _ (by omega)
    obtain ⟨x1,hx1,hc1⟩ := HF.out i1 l1
    obtain ⟨x2,hx2,hc2⟩ := HF.out i2 l2
    have hd1 := ((Keep.refl (But b) w).set ⟨b,1,none⟩ (.int .i64 ((p : Int) + 1)) (fun _ h => h rfl)).cell hc1 (show But b _ by rw [add_block];exact had)
    have hd2 := ((Keep.refl (But b) w).set ⟨b,1,none⟩ (.int .i64 ((p : Int) + 1)) (fun _ h => h rfl)).cell hc2 (show But b _ by rw [add_block];exact had)
    have e1 : (p : Int) % (n : Int) = (i1 : Int) := by rw [hi1];rfl
    have e2 : ((p : Int) * 7 + 3) % (n : Int) = (i2 : Int) := by rw [hi2];push_cast;rfl
    have n0 : (n : Int) ≠ 0 := by omega
    obtain ⟨i3,hi3⟩ : ∃ i : Nat,i = p / n := ⟨_,rfl⟩
    have l3 : i3 ≤ p := hi3 ▸ Nat.div_le_self _ _
    have e3 : (p : Int) / (n : Int) = (i3 : Int) := by rw [hi3];push_cast;rfl
    clear hi3
    clear hc1 hc2 had hi1 hi2
    go_enter Tryz.func26,Tryz.ntmps26
    go_wp2
    go_quiet (fail)
    go_wp2
    go_ret
    exact ⟨_,rfl,Int.tmod_nonneg _ (xor_shift _ (by omega) (by omega)),fun _ => Int.tmod_lt_of_pos _ (by omega),hR.out _ ((Keep.refl _ _).drewN _) rfl⟩

/- One of a list of texts,drawn;a reader begun. -/
set_option maxRecDepth 20000
theorem of_calls (l : List ByteArray) (v : Value) (w : World) (b : Nat) (s : Value) (n p : Nat) (h : Rdr w b s n p) (hn : n ≤ 2000) (hp : p ≤ 1000000) (hl : 1 ≤ l.length) (hl2 : l.length ≤ 1000) (hv : Strs w (But b) v l) :
    Calls Tryz.prog 20 #[.pointer (some ⟨b,0,none⟩),v] w fun e w' => ∃ x,x ∈ l ∧ e = .returned (.string x) ∧ Rdr w' b s n (p + 1) ∧ Keep (But b) w w' := by
  have HV := hyd hv
  have PK := hyd (pick_calls (l.length : Int) w b s n p h hn hp (by omega))
  obtain ⟨a,c,rfl,h1,h2,_⟩ := hv
  clear h
  go_enter Tryz.func20,Tryz.ntmps20
  go_wp2_with fail
  refine PK.out.mono ?_
  rintro e w2 ⟨j,rfl,j0,j1,hR2,hK2⟩
  have j2 := j1 (by omega)
  obtain ⟨i,rfl⟩ := Int.eq_ofNat_of_zero_le j0
  have hi : i < l.length := by omega
  obtain ⟨ad,rfl,hx,hc⟩ := strs_at HV.out hK2 (List.getElem?_eq_getElem hi)
  have R2 := hyd hR2
  have K2 := hyd hK2
  have HM := hyd (show l[i] ∈ l from List.getElem_mem hi)
  generalize l[i] = x at *
  clear hR2 hK2 j1
  go_wp2
  go_ret
  exact ⟨x,HM.out,rfl,R2.out,K2.out⟩
theorem l1Open_calls (v : Value) (n : Nat) (w : World) (hv : Byt w w.heap.size v n) : Calls Tryz.prog 19 #[v] w fun e w' => ∃ (s : Value) (m : Nat),m ≤ 2000 ∧ e = .returned (.pointer (some ⟨w.heap.size,0,none⟩)) ∧ Rdr w' w.heap.size s m 0 ∧ Keep Any w w' := by
  obtain ⟨a,c,rfl,h1,h2,h3⟩ := hv
  have H3 := hyd h3
  clear h3
  by_cases hn : 2000 < n
  · have c1 : (2000 : Int) < (n : Int) := by omega
    obtain ⟨ad,rfl,hb,hf⟩ := H3.out (by omega)
    have HF := hyd hf
    have HB := hyd hb
    clear hb hf
    go_enter Tryz.func19,Tryz.ntmps19
    go_wp2
    go_ret
    exact ⟨.slice (some ad) 2000 c,2000,by omega,rfl,⟨blk_new _ _,some ad,c,rfl,by omega,h2,fun _ => ⟨ad,rfl,HB.out,fun i hi => by obtain ⟨x,hx,hc⟩ := HF.out i (by omega);exact ⟨x,hx,((Keep.refl Any w).alloc _).cell hc trivial⟩⟩⟩,(Keep.refl _ _).alloc _⟩
  · have c1 : ¬ (2000 : Int) < (n : Int) := by omega
    go_enter Tryz.func19,Tryz.ntmps19
    go_wp2
    go_ret
    exact ⟨.slice a n c,n,by omega,rfl,⟨blk_new _ _,a,c,rfl,h1,h2,fun hn => by obtain ⟨ad,rfl,hb,hf⟩ := H3.out hn;exact ⟨ad,rfl,hb,fun i hi => by obtain ⟨x,hx,hc⟩ := hf i hi;exact ⟨x,hx,((Keep.refl Any w).alloc _).cell hc trivial⟩⟩⟩,(Keep.refl _ _).alloc _⟩

/- One of a list of numbers,drawn. -/
set_option maxRecDepth 20000
def Ints (w : World) (b : Nat) (v : Value) (l : List Int) : Prop := ∃ (ad : Addr) (c : Nat),v = .slice (some ad) l.length c ∧ l.length ≤ c ∧ c ≤ 9223372036854775807 ∧ ad.block ≠ b ∧ ∀ i x,l[i]? = some x → w.cell? (ad.add i) = some (.int .i64 x)
theorem one_calls (l : List Int) (v : Value) (w : World) (b : Nat) (s : Value) (n p : Nat) (h : Rdr w b s n p) (hn : n ≤ 2000) (hp : p ≤ 1000000) (hl : 1 ≤ l.length) (hl2 : l.length ≤ 1000) (hv : Ints w b v l) :
    Calls Tryz.prog 43 #[.pointer (some ⟨b,0,none⟩),v] w fun e w' => ∃ x,x ∈ l ∧ e = .returned (.int .i64 x) ∧ Rdr w' b s n (p + 1) ∧ Keep (But b) w w' := by
  have PK := hyd (pick_calls (l.length : Int) w b s n p h hn hp (by omega))
  obtain ⟨ad,c,rfl,h1,h2,h3,h4⟩ := hv
  have H4 := hyd h4
  have H3 := hyd h3
  clear h h4 h3
  go_enter Tryz.func43,Tryz.ntmps43
  go_wp2_with fail
  refine PK.out.mono ?_
  rintro e w2 ⟨j,rfl,j0,j1,hR2,hK2⟩
  have j2 := j1 (by omega)
  obtain ⟨i,rfl⟩ := Int.eq_ofNat_of_zero_le j0
  have hi : i < l.length := by omega
  have hc := hK2.cell (H4.out i _ (List.getElem?_eq_getElem hi)) (show But b _ by rw [add_block];exact H3.out)
  have R2 := hyd hR2
  have K2 := hyd hK2
  have HM := hyd (show l[i] ∈ l from List.getElem_mem hi)
  generalize l[i] = x at *
  clear hR2 hK2 j1
  go_wp2
  go_ret
  exact ⟨x,HM.out,rfl,R2.out,K2.out⟩

/- A text many times: some text of bounded size. -/
set_option maxRecDepth 20000
theorem l1Many_calls (t : ByteArray) (n : Nat) (w : World) (hb : t.size * n ≤ 1000000) (hn : n ≤ 1000000) (ht : t.size ≤ 1000000) : Calls Tryz.prog 21 #[.string t,.int .i64 n] w fun e w' => ∃ x : ByteArray,x.size ≤ 1000000 ∧ e = .returned (.string x) ∧ Keep Any w w' := by
  go_enter Tryz.func21,Tryz.ntmps21
  go_wp2
  go_loopg [0,1,5] (n + 1) (fun g x y z wr => ∃ (s o : ByteArray) (m : Nat),x = .string s ∧ y = .int .i64 m ∧ z = .string o ∧ m < g ∧ m ≤ n ∧ o.size + s.size * m ≤ 1000000 ∧ Keep Any w wr)
  case atStart => exact ⟨t,⟨#[]⟩,n,rfl,rfl,rfl,by omega,by omega,by have e : (⟨#[]⟩ : ByteArray).size = 0 := rfl;omega,Keep.refl _ _⟩
  case round =>
    obtain ⟨s,o,m,rfl,rfl,rfl,hg,hm,hs,hK⟩ := hrel
    have HK := hyd hK
    clear hK
    by_cases h0 : 0 < m
    · have c0 : (0 : Int) < (m : Int) := by omega
      have hs1 : s.size ≤ s.size * m := Nat.le_mul_of_pos_right _ h0
      have nn : ¬ 9223372036854775807 < s.size + s.size := by omega
      have n2 : ¬ 9223372036854775807 < o.size + s.size := by omega
      have HS := hyd hs
      have e1 : m = 2 * (m / 2) + m % 2 := by omega
      have E1 := hyd (show s.size * m = (s.size + s.size) * (m / 2) + s.size * (m % 2) from (congrArg (s.size * ·) e1).trans (by rw [Nat.mul_add,← Nat.mul_assoc,Nat.mul_two]))
      clear hs e1
      by_cases h1 : m % 2 = 1
      · have q1 : (((m : Int) % 2) == 1) = true := by rw [beq_iff_eq];omega
        have H1 := hyd h1
        clear h1
        go_wp2
        go_roundg (gk - 1)
        case rel => exact ⟨s ++ s,o ++ s,m / 2,rfl,by go_num,rfl,by omega,by omega,by rw [ByteArray.size_append,ByteArray.size_append];have h1 := E1.out;rw [H1.out,Nat.mul_one] at h1;have := HS.out;omega,HK.out⟩
        case measure => omega
      · have q1 : (((m : Int) % 2) == 1) = false := by rw [beq_eq_false_iff_ne];omega
        have H1 := hyd (show m % 2 = 0 by omega)
        clear h1
        go_wp2
        go_roundg (gk - 1)
        case rel => exact ⟨s ++ s,o,m / 2,rfl,by go_num,rfl,by omega,by omega,by rw [ByteArray.size_append];have h1 := E1.out;rw [H1.out,Nat.mul_zero] at h1;have := HS.out;omega,HK.out⟩
        case measure => omega
    · go_wp2
      go_ret
      exact ⟨o,by omega,rfl,HK.out⟩

/- A number's figures,and one byte as a text. No condition. -/

theorem one_byte (W : World) (g : Nat) (x : Int) (h : W.cell? ⟨g,0,none⟩ = some (.int .u8 x)) :
    (convert 22 9 (.slice (some ⟨g,0,none⟩) 1 1)).run Tryz.prog W = .ok (.string ⟨#[UInt8.ofNat x.toNat]⟩) W := by
  refine (run_convert_bytes_arg W 22 5 Tryz.underlying22 Tryz.underlying5 g 0 1 1 [x] rfl (fun i hi => ?_) 9 Tryz.underlying9).trans rfl
  obtain rfl : i = 0 := by simpa using hi
  exact h
theorem dec_big {n : Nat} (h : ¬ n < 10) : Lib.decDigits n = Lib.decDigits (n / 10) ++ [UInt8.ofNat (48 + n % 10)] := by rw [Lib.decDigits,dif_neg h]
theorem dec_small {n : Nat} (h : n < 10) : Lib.decDigits n = [UInt8.ofNat (48 + n)] := by rw [Lib.decDigits,dif_pos h]
theorem dec_len (n : Nat) (h : n < 18446744073709551616) : (Lib.decDigits n).length ≤ 20 := by rw [Lib.decDigits_length];exact Lib.nDigits_le20 n h
theorem bytes_app (l m : List UInt8) : (⟨l.toArray⟩ : ByteArray) ++ ⟨m.toArray⟩ = ⟨(l ++ m).toArray⟩ := by
  apply ByteArray.ext
  simp [ByteArray.data_append]
theorem dec_join {n : Nat} (h : ¬ n < 10) : (⟨(Lib.decDigits (n / 10)).toArray⟩ : ByteArray) ++ ⟨#[48 + UInt8.ofNat (n % 10)]⟩ = ⟨(Lib.decDigits n).toArray⟩ := by
  rw [dec_big h,← bytes_app]
  simp [UInt8.ofNat_add]

/- A number in decimals: the reference's l1Dec writes what strconv.Itoa writes. For every int. -/
set_option maxRecDepth 20000
theorem l1Dec_nat (n : Nat) : ∀ (w : World),n ≤ 9223372036854775807 →
    Calls Tryz.prog 24 #[.int .i64 n] w (Str (Lib.decDigits n) w) := by
  induction n using Nat.strongRecOn with
  | _ n ih =>
  intro w hn
  have HN := hyd hn
  clear hn
  have b0 : decide ((n : Int) < -9223372036854775807) = false := by rw [decide_eq_false_iff_not];omega
  have b1 : decide ((n : Int) < 0) = false := by rw [decide_eq_false_iff_not];omega
  have kc := one_byte
  by_cases h : n < 10
  · go_enter Tryz.func24,Tryz.ntmps24
    go_wp2
    go_ret
    exact ⟨by rw [dec_small h];rfl,(Keep.refl _ _).alloc _⟩
  · have IH := hyd fun w => ih (n / 10) (by omega) w (by have := HN.out;omega)
    clear ih
    go_enter Tryz.func24,Tryz.ntmps24
    go_wp2
    have q1 : IntKind.i64.wrap ((n : Int) / 10) = ((n / 10 : Nat) : Int) := by have := HN.out;rw [IntWalk.i64_in _ ⟨by omega,by omega⟩];omega
    have q2 : IntKind.u8.wrap (IntKind.i64.wrap (48 + (n : Int).tmod 10)) = ((48 + n % 10 : Nat) : Int) := by
      rw [Int.tmod_eq_emod_of_nonneg (by omega),IntWalk.i64_in _ ⟨by omega,by omega⟩,IntWalk.u8_in _ ⟨by omega,by omega⟩];omega
    have hl := dec_len (n / 10) (by have := HN.out;omega)
    go_region_with (go_at_call 24;refine (IH.out _).mono ?_;rintro e w' ⟨rfl,hK⟩;obtain ⟨hc,hf⟩ := hK.cells)
    all_goals clear q1 q2
    all_goals go_wp2
    all_goals
      go_ret
      exact ⟨congrArg (fun s => Ending.returned (.string s)) (dec_join h),by first | exact ((Keep.refl _ _).drew.trans hK).alloc _ | exact ((Keep.refl _ _).alloc _).drew.trans hK⟩

theorem min_dec : Lib.itoa (-9223372036854775808) = [45,57,50,50,51,51,55,50,48,51,54,56,53,52,55,55,53,56,48,56] := by
  simp [Lib.itoa,Lib.decDigits]
theorem l1Dec_calls (n : Int) (w : World) (h0 : -9223372036854775808 ≤ n) (h1 : n ≤ 9223372036854775807) :
    Calls Tryz.prog 24 #[.int .i64 n] w (Str (Lib.itoa n) w) := by
  by_cases h : 0 ≤ n
  · obtain ⟨m,rfl⟩ := Int.eq_ofNat_of_zero_le h
    have := l1Dec_nat m w (by omega)
    rwa [show Lib.itoa (m : Int) = Lib.decDigits m by simp only [Lib.itoa];rw [if_neg (by omega)];simp]
  · by_cases hm : n < -9223372036854775807
    · obtain rfl : n = -9223372036854775808 := by omega
      rw [min_dec]
      go_enter Tryz.func24,Tryz.ntmps24
      go_wp2
      go_ret
      exact ⟨rfl,Keep.refl _ _⟩
    · obtain ⟨m,rfl⟩ : ∃ m : Nat,n = -(m : Int) := ⟨n.natAbs,by omega⟩
      have IH := hyd fun w => l1Dec_nat m w (by omega)
      have hl := dec_len m (by omega)
      have he : Lib.itoa (-(m : Int)) = 45 :: Lib.decDigits m := by simp only [Lib.itoa];rw [if_pos (by omega),show (-(m : Int)).natAbs = m by omega]
      have HE := hyd he
      have b0 : decide (-(m : Int) < -9223372036854775807) = false := by rw [decide_eq_false_iff_not];omega
      have b1 : decide (-(m : Int) < 0) = true := by rw [decide_eq_true_iff];omega
      have b2 : decide (9223372036854775807 < (m : Int)) = false := by rw [decide_eq_false_iff_not];omega
      have b3 : decide (0 < (m : Int)) = true := by rw [decide_eq_true_iff];omega
      have q1 : IntKind.i64.wrap (m : Int) = (m : Int) := IntWalk.i64_in _ ⟨by omega,by omega⟩
      have q2 : IntKind.i64.wrap (- -(m : Int)) = (m : Int) := by rw [Int.neg_neg];exact q1
      have b4 : 0 < m := by omega
      clear he h0 h1 h hm
      go_enter Tryz.func24,Tryz.ntmps24
      go_wp2_with (go_at_call 24;refine (IH.out _).mono ?_;rintro e w' ⟨rfl,hK⟩)
      all_goals
        go_ret
        exact ⟨congrArg (fun s => Ending.returned (.string s)) (by rw [HE.out];exact bytes_app [45] _),hK⟩

/- A value's text,as a plain function;how long it is. For every value. -/
mutual
def V.put : V → List UInt8
  | ⟨k,n,t,l⟩ => if k = 1 then (if n = 1 then [116,114,117,101] else [102,97,108,115,101]) else if k = 2 then Lib.itoa n else if k = 3 then 39 :: (t.data.toList ++ [39])
    else if k = 4 then 91 :: (Lib.join (V.putL l) [44,32] ++ [93]) else if k = 5 then 35 :: Lib.itoa n else if k = 6 then 64 :: Lib.itoa n else [110,117,108,108]
def V.putL : List V → List (List UInt8)
  | [] => []
  | x :: l => V.put x :: V.putL l
end
theorem V.putL_map : ∀ l : List V,V.putL l = l.map V.put
  | [] => by rw [V.putL];rfl
  | x :: l => by rw [V.putL,V.putL_map l];rfl
def rowTxt (l : List V) : List UInt8 := 91 :: (Lib.join (l.map V.put) [44,32] ++ [93])
theorem put_list (n : Int) (t : ByteArray) (l : List V) : V.put ⟨4,n,t,l⟩ = rowTxt l := by rw [V.put,V.putL_map];rfl
theorem join_snoc (xs : List (List UInt8)) (x sep : List UInt8) : Lib.join (xs ++ [x]) sep = if xs = [] then x else Lib.join xs sep ++ sep ++ x := by
  cases xs with
  | nil => simp [Lib.join_one]
  | cons y r => simp [Lib.join_cons,Lib.joinTail]
theorem joinTail_len (b : Nat) : ∀ (xs : List (List UInt8)),(∀ x,x ∈ xs → x.length ≤ b) → (Lib.joinTail [44,32] xs).length ≤ xs.length * (b + 2)
  | [],_ => by simp [Lib.joinTail]
  | x :: r,h => by
    have := joinTail_len b r fun y hy => h y (List.mem_cons_of_mem _ hy)
    have h0 := h x (List.mem_cons_self ..)
    have e : Lib.joinTail [44,32] (x :: r) = [44,32] ++ x ++ Lib.joinTail [44,32] r := by simp [Lib.joinTail]
    rw [e]
    simp only [List.length_append,List.length_cons,List.length_nil,Nat.add_mul] at *
    omega
theorem join_len (b : Nat) (xs : List (List UInt8)) (h : ∀ x,x ∈ xs → x.length ≤ b) : (Lib.join xs [44,32]).length ≤ xs.length * (b + 2) := by
  cases xs with
  | nil => simp [Lib.join_nil]
  | cons x r =>
    rw [Lib.join_cons]
    have := joinTail_len b r fun y hy => h y (List.mem_cons_of_mem _ hy)
    have h0 := h x (List.mem_cons_self ..)
    simp only [List.length_append,List.length_cons,Nat.add_mul] at *
    omega
theorem itoa_len2 (n : Int) (h0 : -1000000000 ≤ n) (h1 : n ≤ 1000000000) : (Lib.itoa n).length ≤ 21 := by
  simp only [Lib.itoa]
  have := dec_len n.natAbs (by omega)
  have := dec_len n.toNat (by omega)
  split <;> simp <;> omega
theorem okV_list {d : Nat} {n : Int} {t : ByteArray} {l : List V} (h : okV (d + 1) ⟨4,n,t,l⟩ = true) : l.length ≤ 6 ∧ ∀ x,x ∈ l → okV d x = true := by
  simp [okV] at h
  exact ⟨by omega,h.2⟩
theorem okV_num {d : Nat} {v : V} (h : okV d v = true) : -1000000000 ≤ v.num ∧ v.num ≤ 1000000000 := by
  cases d with
  | zero => simp [okV] at h
  | succ d =>
    obtain ⟨k,n,t,l⟩ := v
    simp only [okV] at h
    (repeat' split at h) <;> simp at h <;> simp only <;> omega
theorem okV_text {d : Nat} {v : V} (h : okV d v = true) (hk : v.kind = 3) : v.text.size ≤ 16 := by
  cases d with
  | zero => simp [okV] at h
  | succ d =>
    obtain ⟨k,n,t,l⟩ := v
    simp only at hk
    subst hk
    simp [okV,textOk] at h
    exact h.1.2.1
theorem rowTxt_len {b : Nat} {l : List V} (h : ∀ x,x ∈ l → x.put.length ≤ b) : (rowTxt l).length ≤ l.length * (b + 2) + 2 := by
  have := join_len b (l.map V.put) fun x hx => by obtain ⟨y,hy,rfl⟩ := List.mem_map.1 hx;exact h y hy
  simp only [rowTxt,List.length_cons,List.length_append,List.length_map,List.length_nil] at *
  omega
theorem put_len : ∀ (d : Nat) (v : V),okV d v = true → v.put.length ≤ 100 ^ d
  | 0,v,h => by simp [okV] at h
  | d + 1,v,h => by
    have hn := okV_num h
    have ht := okV_text h
    have hp : 1 ≤ 100 ^ d := Nat.one_le_pow _ _ (by omega)
    rw [Nat.pow_succ]
    obtain ⟨k,n,t,l⟩ := v
    by_cases h4 : k = 4
    · subst h4
      obtain ⟨hl,ha⟩ := okV_list h
      rw [put_list]
      have := rowTxt_len fun x hx => put_len d x (ha x hx)
      have : l.length * (100 ^ d + 2) ≤ 6 * (100 ^ d + 2) := Nat.mul_le_mul_right _ hl
      omega
    · have hi := itoa_len2 n hn.1 hn.2
      have ht : k = 3 → t.size ≤ 16 := ht
      simp only [Lib.size_eq] at ht
      rw [V.put]
      rw [if_neg h4]
      (repeat' split) <;> (try simp only [List.length_cons,List.length_append,List.length_nil]) <;> (try have := ht ‹_›) <;> omega
theorem put_len3 {d : Nat} {v : V} (h : okV d v = true) (hd : d ≤ 3) : v.put.length ≤ 1000000 :=
  Nat.le_trans (put_len d v h) (by calc 100 ^ d ≤ 100 ^ 3 := Nat.pow_le_pow_right (by omega) hd
                                       _ = 1000000 := rfl)
def outV (l : List V) (k : Nat) : List UInt8 := 91 :: Lib.join ((l.take k).map V.put) [44,32]
theorem outV_succ {l : List V} {k : Nat} {x : V} (h : l[k]? = some x) : outV l (k + 1) = if k = 0 then 91 :: x.put else outV l k ++ [44,32] ++ x.put := by
  have hk : k < l.length := (List.getElem?_eq_some_iff.1 h).1
  have e : l.take (k + 1) = l.take k ++ [x] := by rw [List.take_add_one,h];rfl
  rw [outV,outV,e,List.map_append,List.map_cons,List.map_nil,join_snoc]
  by_cases h0 : k = 0
  · subst h0;simp
  · rw [if_neg (by intro hn;have := congrArg List.length hn;rw [List.length_map,List.length_take,List.length_nil] at this;omega),if_neg h0]
    simp
theorem outV_all (l : List V) : outV l l.length ++ [93] = rowTxt l := by rw [outV,List.take_length];rfl
theorem outV_len {b : Nat} {l : List V} {k : Nat} (h : ∀ x,x ∈ l → x.put.length ≤ b) (hl : l.length ≤ 6) : (outV l k).length ≤ 6 * (b + 2) + 1 := by
  have := join_len b ((l.take k).map V.put) fun x hx => by obtain ⟨y,hy,rfl⟩ := List.mem_map.1 hx;exact h y (List.mem_of_mem_take hy)
  have hk : ((l.take k).map V.put).length ≤ 6 := by simp;omega
  have : ((l.take k).map V.put).length * (b + 2) ≤ 6 * (b + 2) := Nat.mul_le_mul_right _ hk
  simp only [outV,List.length_cons]
  omega

/- The reading of values,as plain functions: how the program reads one and how the reference does;each finds a value again in its text,so both find the same. No condition. -/

theorem fig_dig {x : Nat} (h : x < 10) : fig (UInt8.ofNat (48 + x)).toNat = true := by
  simp only [UInt8.toNat_ofNat',fig];simp;omega
theorem dec_figs (n : Nat) : ∀ b,b ∈ Lib.decDigits n → fig b.toNat = true := by
  induction n using Nat.strongRecOn with
  | _ n ih =>
    intro b hb
    by_cases h : n < 10
    · rw [dec_small h,List.mem_singleton] at hb
      subst hb
      exact fig_dig h
    · rw [dec_big h,List.mem_append,List.mem_singleton] at hb
      rcases hb with hb | rfl
      · exact ih (n / 10) (by omega) b hb
      · exact fig_dig (Nat.mod_lt _ (by omega))
theorem dec_pos (n : Nat) : 0 < (Lib.decDigits n).length := by
  by_cases h : n < 10
  · rw [dec_small h];simp
  · rw [dec_big h];simp
theorem dec_length (k : Nat) : ∀ n,n < 10 ^ (k + 1) → (Lib.decDigits n).length ≤ k + 1 := by
  induction k with
  | zero => intro n h;rw [dec_small (by simpa using h)];simp
  | succ k ih =>
    intro n h
    by_cases hn : n < 10
    · rw [dec_small hn];simp
    · rw [dec_big hn,List.length_append,List.length_singleton]
      have := ih (n / 10) (by rw [Nat.pow_succ] at h;omega)
      omega
def Ends (l : List UInt8) : Prop := ∀ b r,l = b :: r → b = 44 ∨ b = 93
theorem Ends.nil : Ends [] := fun _ _ e => by cases e
theorem itoa_nat (n : Nat) : Lib.itoa (n : Int) = Lib.decDigits n := by simp only [Lib.itoa];rw [if_neg (by omega)];simp
theorem dec_head (n : Nat) : ∃ b r,Lib.decDigits n = b :: r ∧ fig b.toNat = true := by
  cases h : Lib.decDigits n with
  | nil => have := dec_pos n;rw [h] at this;cases this
  | cons b r => exact ⟨b,r,rfl,dec_figs n b (by rw [h];exact List.mem_cons_self ..)⟩

/- The reading of values as the reference does it,as plain functions: it finds a value again in its text,so it finds what the program finds. No condition. -/

theorem dec_no0 (n : Nat) : ¬ (1 < (Lib.decDigits n).length ∧ (Lib.decDigits n).headD 0 = 48) := by
  induction n using Nat.strongRecOn with
  | _ n ih =>
    by_cases h : n < 10
    · rw [dec_small h];simp
    · rw [dec_big h]
      intro ⟨_,h2⟩
      obtain ⟨b,r,e,hb⟩ := dec_head (n / 10)
      rw [e,List.cons_append,List.headD_cons] at h2
      by_cases hs : n / 10 < 10
      · rw [dec_small hs] at e
        cases e
        have := congrArg UInt8.toNat h2
        simp only [UInt8.toNat_ofNat'] at this
        have : (48 : UInt8).toNat = 48 := rfl
        omega
      · refine ih (n / 10) (by omega) ⟨?_,by rw [e];exact h2⟩
        rw [dec_big hs,List.length_append,List.length_singleton]
        have := dec_pos (n / 10 / 10)
        omega

/- Which texts are names: the program's test,for every text. -/



/- The program's figuresAt: the number that stands at a place. For every text of at most 2^61 bytes. -/


/- The program's reading of values: valueAt,valuesAt. For every text of at most 2^61 bytes. -/

def Mid (a b : Nat) (k : Nat) : Prop := a ≤ k ∧ k < b
theorem infoValR : (Tryz.prog.info? 62).map (fun i => (i.zero,i.size,i.bytes)) = some (some (.agg #[.int .i64 0,.int .i64 0,.string ⟨#[]⟩,.slice none 0 0]),4,56) := by kernel_rfl
theorem SRow.form {α : Type} {sz : Nat} {R : World → (Nat → Prop) → α → List Value → Prop} {w : World} {base top : Nat} {T : TypeId} {v : Value} {l : List α} {css : List (List Value)} (h : SRow sz R w base top T v l css) : ∃ a c,v = .slice a l.length c ∧ (a = none → l.length = 0 ∧ c = 0) := by
  rcases h.own.2 with ⟨rfl,h0⟩ | ⟨g,cap,cur,rfl,_⟩
  · exact ⟨none,0,by rw [h0],fun _ => ⟨h0,rfl⟩⟩
  · exact ⟨_,cap,rfl,fun h => by cases h⟩
theorem SRow.top_le {α : Type} {sz : Nat} {R : World → (Nat → Prop) → α → List Value → Prop} {w : World} {base top : Nat} {T : TypeId} {v : Value} {l : List α} {css : List (List Value)} (h : SRow sz R w base top T v l css) : top ≤ w.heap.size := by
  obtain ⟨g,h1,h2,h3,h4,h5,h6,h7,h8,h9⟩ := h;exact h8
theorem new_cells (w : World) (cs : List Value) (T : TypeId) {b : Nat} (hb : b = w.heap.size) : ∀ j u,cs[j]? = some u → (w.alloc (.cells cs.toArray T)).cell? ((⟨b,0,none⟩ : Addr).add j) = some u := by
  subst hb
  intro j u hu
  have e : (⟨w.heap.size,0,none⟩ : Addr).add j = ⟨w.heap.size,j,none⟩ := by unfold Addr.add;split <;> simp_all
  rw [e,blk_cell (blk_new _ _)]
  simpa using hu

/- An own slice stays where another's block is written. -/
theorem SRow.keepB {α : Type} {sz : Nat} {R : World → (Nat → Prop) → α → List Value → Prop} {w w' : World} {base top b : Nat} {T : TypeId} {v : Value} {l : List α} {css : List (List Value)} (hk : ∀ {w w' ok x cs},R w ok x cs → Keep ok w w' → R w' ok x cs)
    (h : SRow sz R w base top T v l css) (k : Keep (But b) w w') (hb : b < base) : SRow sz R w' base top T v l css := by
  have hlt := fun i hi => (h.own.lt i hi).1
  obtain ⟨g,h1,h2,h3,h4,h5,h6,h7,h8,h9⟩ := h
  exact ⟨g,h1,h2.kept (row := some b) k.grownBy (by cases hv : v.ownBlock with | none => exact .inl rfl | some i => exact .inr (by intro e;cases e;have := hlt b hv;omega)),h3,fun j x cs hx hc => hk (h4 j x cs hx hc) (k.mono fun i _ hi => by have := (h5 j i hi).1;show i ≠ b;omega),h5,h6,h7,Nat.le_trans h8 k.size,h9⟩
theorem rowV_keepB {w w' : World} {base top b : Nat} {T : TypeId} {v : Value} {l : List V} {css : List (List Value)} (h : SRow 4 SV w base top T v l css) (k : Keep (But b) w w') (hb : b < base) : SRow 4 SV w' base top T v l css := SRow.keepB (R := SV) (fun h k => SV.keep h k) h k hb
def Drawn (c : Nat) (w : World) (b : Nat) (s : Value) (n p : Nat) (e : Ending) (w' : World) : Prop :=
  ∃ (v : V) (a : Option Addr) (m : Nat) (p' : Nat),e = .returned (.agg #[.int .i64 v.kind,.int .i64 v.num,.string v.text,.slice a v.list.length m]) ∧ SV w' (Mid w.heap.size w'.heap.size) v [.int .i64 v.kind,.int .i64 v.num,.string v.text,.slice a v.list.length m] ∧
    p ≤ p' ∧ p' ≤ p + c ∧ Rdr w' b s n p' ∧ Keep (But b) w w'
def cost : Nat → Nat
  | 0 => 4
  | d + 1 => 4 + 4 * cost d
def PlainD (d : Nat) : Prop := ∀ (w : World) (b : Nat) (s : Value) (n p : Nat),Rdr w b s n p → n ≤ 2000 → p + cost d ≤ 1000000 → Calls Tryz.prog 101 #[.pointer (some ⟨b,0,none⟩),.int .i64 d] w (Drawn (cost d) w b s n p)
def ValueD (d : Nat) : Prop := ∀ (w : World) (b : Nat) (s : Value) (n p : Nat),Rdr w b s n p → n ≤ 2000 → p + 2 * cost d ≤ 1000000 → Calls Tryz.prog 102 #[.pointer (some ⟨b,0,none⟩),.int .i64 d] w (Drawn (2 * cost d) w b s n p)
theorem strs_blkD {w : World} {ok : Nat → Prop} {b : Nat} {T : TypeId} {l : List ByteArray} (hh : w.heap[b]? = some (.cells ((l.map Value.string).toArray) T (0,0))) (hb : ok b) (hl : l.length ≤ 9223372036854775807) (hf : ∀ x,x ∈ l → Fits x) :
    SStrs w ok (.slice (some ⟨b,0,none⟩) l.length l.length) l :=
  ⟨_,_,rfl,Nat.le_refl _,hl,fun _ => ⟨b,T,_,fun _ _ => False,rfl,hb,hh,fun _ _ h => h.elim,fun _ _ _ _ h => h.elim,fun j x hx =>
    ⟨[.string x],⟨rfl,hf x (List.mem_of_getElem? hx)⟩,rfl,fun i u hu => by
      cases i with
      | zero => cases hu;simp [hx]
      | succ i => cases hu⟩⟩⟩

/- strconv.Itoa by its contract,where Go's table of powers of ten is laid;and that the table stays. For every int. -/

def Tab (w : World) : Prop := Lib.TabIs Tryz.prog w "internal/strconv.uint64pow10" .u64 Lib.pow10Tab
theorem gPow : Tryz.prog.globalNamed "internal/strconv.uint64pow10" = some 0 := by kernel_rfl
theorem Tab.lt {w : World} (h : Tab w) : 0 < w.heap.size := by
  unfold Tab Lib.TabIs World.var? at h
  rw [gPow] at h
  simp only [Option.bind_some] at h
  rcases Nat.lt_or_ge 0 w.heap.size with hl | hl
  · exact hl
  · rw [Array.getElem?_eq_none hl] at h;cases h
theorem Tab.keep {ok : Nat → Prop} {w w' : World} (h : Tab w) (k : Keep ok w w') (ho : ok 0) : Tab w' := by
  have hl := h.lt
  unfold Tab Lib.TabIs World.var? at h ⊢
  rw [gPow] at h ⊢
  simp only [Option.bind_some] at h ⊢
  rw [k.block _ hl ho]
  exact h
theorem keep_grow (w : World) (n : Nat) (os : Array Obj) : Keep Any w (Sort.grow (w.drewN n) os) :=
  ⟨rfl,rfl,rfl,by simp [Sort.grow],fun k hk _ => by simp only [Sort.grow,World.heap_drewN];rw [Array.getElem?_append_left hk]⟩
theorem itoa_calls (n : Int) (w : World) (h0 : -9223372036854775808 ≤ n) (h1 : n ≤ 9223372036854775807) (ht : Tab w) :
    Calls Tryz.prog 23 #[.int .i64 n] w (Str (Lib.itoa n) w) :=
  (Tryz.strconv_Itoa n h0 h1 w ht).mono fun e w' ⟨he,k,os,hw⟩ => ⟨he,hw ▸ keep_grow w k os⟩
theorem itoa_len (n : Nat) (h : n ≤ 9223372036854775807) : (Lib.itoa n).length ≤ 20 := by
  simp only [Lib.itoa];rw [if_neg (by omega)];exact dec_len _ (by simp;omega)

/- A slice that a call makes and fills,place by place. No condition. -/

def Fill {α : Type} (sz : Nat) (R : α → List Value → Prop) (w : World) (g : Nat) (T : TypeId) (n : Nat) (l : List α) (k : Nat) : Prop :=
  ∃ cur,w.heap[g]? = some (.cells cur T (0,0)) ∧ cur.size = n * sz ∧ ∀ j x,j < k → l[j]? = some x → ∃ cs,R x cs ∧ cs.length = sz ∧ ∀ i u,cs[i]? = some u → cur[j * sz + i]? = some u
theorem Fill.made {α : Type} {sz : Nat} {R : α → List Value → Prop} {T : TypeId} {n : Nat} {l : List α} (w : World) (z : Array Value) : Fill sz R (w.alloc (.cells (madeCells z (n * sz)) T)) w.heap.size T n l 0 :=
  ⟨_,blk_new _ _,size_madeCells _ _,fun j x hj => by omega⟩
theorem Fill.keep {α : Type} {sz : Nat} {R R' : α → List Value → Prop} {w w' : World} {g : Nat} {T : TypeId} {n k : Nat} {l : List α} {ok : Nat → Prop} (h : Fill sz R w g T n l k) (hk : Keep ok w w') (ho : ok g) (hR : ∀ x cs,R x cs → R' x cs) : Fill sz R' w' g T n l k := by
  obtain ⟨cur,hb,hs,hf⟩ := h
  exact ⟨cur,blk_keep hk hb ho,hs,fun j x hj hx => by obtain ⟨cs,h1,h2,h3⟩ := hf j x hj hx;exact ⟨cs,hR x cs h1,h2,h3⟩⟩
theorem Fill.lt {α : Type} {sz : Nat} {R : α → List Value → Prop} {w : World} {g : Nat} {T : TypeId} {n k : Nat} {l : List α} (h : Fill sz R w g T n l k) : g < w.heap.size := by obtain ⟨cur,hb,_⟩ := h;exact blk_lt hb
theorem Fill.cell {α : Type} {sz : Nat} {R : α → List Value → Prop} {w w' : World} {g : Nat} {T : TypeId} {n k : Nat} {l : List α} {ok : Nat → Prop} (h : Fill sz R w g T n l k) (hk : Keep ok w w') (ho : ok g) (o : Nat) (hl : o < n * sz) : ∃ v,w'.cell? ⟨g,o,none⟩ = some v := by
  obtain ⟨cur,hb,hs,_⟩ := h
  exact ⟨_,(blk_cell (blk_keep hk hb ho) o).trans (Array.getElem?_eq_getElem (by omega))⟩
theorem Fill.snoc {α : Type} {sz : Nat} {R R' : α → List Value → Prop} {w w' : World} {g : Nat} {T : TypeId} {n k : Nat} {l : List α} {x : α} {cs : List Value} (h : Fill sz R w g T n l k) (hR : ∀ x cs,R x cs → R' x cs) (hx : l[k]? = some x) (hc : R' x cs) (hl : cs.length = sz)
    (hw : ∀ cur,w.heap[g]? = some (.cells cur T (0,0)) → cur.size = n * sz → ∃ cur',w'.heap[g]? = some (.cells cur' T (0,0)) ∧ cur'.size = cur.size ∧ (∀ i,i < k * sz → cur'[i]? = cur[i]?) ∧ ∀ i u,cs[i]? = some u → cur'[k * sz + i]? = some u) : Fill sz R' w' g T n l (k + 1) := by
  obtain ⟨cur,hb,hs,hf⟩ := h
  obtain ⟨cur',hb',hs',h1,h2⟩ := hw cur hb hs
  refine ⟨cur',hb',hs'.trans hs,fun j y hj hy => ?_⟩
  rcases Nat.lt_succ_iff_lt_or_eq.1 hj with hj | rfl
  · obtain ⟨ds,g1,g2,g3⟩ := hf j y hj hy
    refine ⟨ds,hR y ds g1,g2,fun i u hu => ?_⟩
    have hi : i < sz := by rw [← g2];exact (List.getElem?_eq_some_iff.1 hu).1
    rw [h1 _ (by calc j * sz + i < j * sz + sz := by omega
                      _ = (j + 1) * sz := by rw [Nat.add_mul,Nat.one_mul]
                      _ ≤ k * sz := Nat.mul_le_mul_right _ hj)]
    exact g3 i u hu
  · rw [hx] at hy;cases hy
    exact ⟨cs,hc,hl,h2⟩
theorem Fill.slice {α : Type} {sz : Nat} {R : α → List Value → Prop} {w : World} {g : Nat} {T : TypeId} {l : List α} (h : Fill sz R w g T l.length l l.length) (hn : l.length ≤ 9223372036854775807) {ok : Nat → Prop} (ho : ok g) : Sl sz R w ok (.slice (some ⟨g,0,none⟩) l.length l.length) l := by
  obtain ⟨cur,hb,hs,hf⟩ := h
  refine ⟨_,_,rfl,Nat.le_refl _,hn,fun _ => ⟨_,rfl,ho,fun j x hx => ?_⟩⟩
  obtain ⟨cs,h1,h2,h3⟩ := hf j x (List.getElem?_eq_some_iff.1 hx).1 hx
  refine ⟨cs,h1,h2,fun i u hu => ?_⟩
  have e : (⟨g,0,none⟩ : Addr).add (j * sz + i) = ⟨g,j * sz + i,none⟩ := by unfold Addr.add;split <;> simp_all
  rw [e,blk_cell hb]
  exact h3 i u hu

/- A value's text: the program's putOf and rowPut,and the reference's l1Put,write the same. For every value that is ok. -/


/- The number that figures are: the reference's l1Num. For every text of at most 2^62 bytes. -/

def L1Num (t : ByteArray) (w : World) (e : Ending) (w' : World) : Prop := e = .returned (.int .i64 (l1Num t)) ∧ w = w'
theorem l1Num_calls (t : ByteArray) (w : World) (ht : t.size ≤ 4611686018427387904) :
    Calls Tryz.prog 28 #[.string t] w (L1Num t w) := by
  go_enter Tryz.func28,Tryz.ntmps28
  go_wp2
  go_loop [3,4] (fun n i => ∃ k m : Nat,k ≤ t.size ∧ i = .int .i64 k ∧ n = .int .i64 m ∧ m < 10 ^ k ∧ k ≤ 10 ∧ numGo t 0 0 = numGo t k m) (fun _ i => t.size - (intOf i).toNat)
  case atStart => exact ⟨0,0,by omega,rfl,rfl,by omega,by omega,rfl⟩
  case round =>
    obtain ⟨k,m,hk,rfl,rfl,hm,h10,hg⟩ := hrel
    have HG := hyd hg
    clear hg
    have HM := hyd hm
    have hm' : m ≤ 10000000000 := by
      have : 10 ^ k ≤ 10 ^ 10 := Nat.pow_le_pow_right (by omega) h10
      omega
    clear hm
    by_cases hlt : k < t.size
    · have e1 := at_eq t k hlt
      have e2 := at_lt t k
      go_wp2
      · go_ret
        exact ⟨ret_int (l1Num_none (by rw [HG.out,numGo_none (by omega) (by omega)])),rfl⟩
      · go_round
        case rel => exact ⟨k + 1,m * 10 + (at_ t k - 48),by omega,by go_num,by congr 1;omega,by rw [Nat.pow_succ];have := HM.out;omega,by omega,by rw [HG.out,numGo_go (by omega) (by omega) (by omega) (by omega)]⟩
        case measure => simp [intOf];omega
      all_goals
        go_ret
        exact ⟨ret_int (l1Num_none (by rw [HG.out,numGo_none (by omega) (by omega)])),rfl⟩
    · have hk' : k = t.size := by omega
      have HE := hyd hk'
      clear hk'
      by_cases c0 : t.size = 0
      · have c1 := size_true t c0
        have C0 := hyd c0
        clear c0
        go_wp2
        go_ret
        exact ⟨ret_int (l1Num_bad (by rw [HG.out,numGo_end (by omega)]) (.inl C0.out)),rfl⟩
      · have c1 := size_false t c0
        have c2 : ¬ t = ByteArray.empty := fun h => c0 (by rw [h];rfl)
        have e1 := at_eq t 0 (by omega)
        by_cases c3 : 1 < t.size
        · by_cases c4 : at_ t 0 = 48
          · have c5 : (((at_ t 0 : Nat) : Int) == 48) = true := by simp [c4]
            have C4 := hyd c4
            clear c4
            go_wp2
            go_ret
            exact ⟨ret_int (l1Num_bad (by rw [HG.out,numGo_end (by omega)]) (.inr ⟨c3,C4.out⟩)),rfl⟩
          · have c5 : (((at_ t 0 : Nat) : Int) == 48) = false := by simp;omega
            go_wp2
            go_ret
            exact ⟨ret_int (l1Num_some (by rw [HG.out,numGo_end (by omega)]) (by omega)),rfl⟩
        · go_wp2
          go_ret
          exact ⟨ret_int (l1Num_some (by rw [HG.out,numGo_end (by omega)]) (by omega)),rfl⟩

theorem l1Num_bd (t : ByteArray) : -1 ≤ l1Num t ∧ l1Num t ≤ 10000000000 := by
  have key : ∀ (d i n : Nat),t.size - i = d → (n < 10 ^ i ∧ i ≤ 10) → ∀ r,numGo t i n = some r → r ≤ 10000000000 := by
    intro d
    induction d with
    | zero =>
      intro i n hd hn r hr
      rw [numGo_end (by omega)] at hr
      cases hr
      have := Nat.pow_le_pow_right (show 0 < 10 by omega) hn.2
      omega
    | succ d ih =>
      intro i n hd hn r hr
      by_cases h : at_ t i < 48 ∨ 57 < at_ t i ∨ 10 ≤ i
      · rw [numGo_none (by omega) h] at hr;cases hr
      · rw [numGo_go (by omega) (by omega) (by omega) (by omega)] at hr
        exact ih (i + 1) _ (by omega) ⟨by rw [Nat.pow_succ];omega,by omega⟩ r hr
  unfold l1Num
  split
  · omega
  · rename_i n hn
    have := key _ 0 0 rfl ⟨by omega,by omega⟩ n hn
    split <;> omega

/- A value is stored into a block of one's own: the block's cells behind it,all else as it was. No condition. -/
theorem setCells_in (g : Nat) (T : TypeId) : ∀ (vs : List Value) (o : Nat) (w : World) (old : Array Value),w.heap[g]? = some (.cells old T (0,0)) →
    (w.setCells g o vs).heap[g]? = some (.cells (vs.foldl (fun (s : Array Value × Nat) v => (s.1.setIfInBounds s.2 v,s.2 + 1)) (old,o)).1 T (0,0)) ∧ Keep (But g) w (w.setCells g o vs)
  | [],o,w,old,h => ⟨h,Keep.refl _ _⟩
  | v :: r,o,w,old,h => by
    obtain ⟨h1,h2⟩ := setCells_in g T r (o + 1) _ _ (blk_set h o v)
    rw [World.setCells]
    exact ⟨h1,((Keep.refl (But g) w).set _ _ (fun _ h => h rfl)).trans h2⟩
def putAt (old : Array Value) (o : Nat) (vs : List Value) : Array Value := (old.toList.take o ++ vs ++ old.toList.drop (o + vs.length)).toArray
theorem putAt_fold : ∀ (vs : List Value) (o : Nat) (old : Array Value),o + vs.length ≤ old.size → (vs.foldl (fun (s : Array Value × Nat) v => (s.1.setIfInBounds s.2 v,s.2 + 1)) (old,o)).1 = putAt old o vs
  | [],o,old,h => by simp [putAt]
  | v :: r,o,old,h => by
    rw [List.length_cons] at h
    rw [List.foldl_cons,putAt_fold r (o + 1) (old.setIfInBounds o v) (by simp;omega)]
    have ho : o < old.toList.length := by rw [Array.length_toList];omega
    unfold putAt
    congr 1
    rw [Array.toList_setIfInBounds,List.set_eq_take_append_cons_drop,if_pos ho]
    have hl : (old.toList.take o).length = o := by rw [List.length_take];omega
    generalize old.toList.take o = A at *
    have hA : (A ++ [v]).length = o + 1 := by rw [List.length_append,hl];rfl
    rw [show A ++ v :: old.toList.drop (o + 1) = (A ++ [v]) ++ old.toList.drop (o + 1) by simp,List.take_left' hA,List.drop_append,List.drop_eq_nil_of_le (by rw [hA];omega),hA,show o + 1 + r.length - (o + 1) = r.length by omega,List.nil_append,List.drop_drop,List.length_cons,
      show o + 1 + r.length = o + (r.length + 1) by omega]
    simp
section
variable {P : Program}
theorem run_store_in (w : World) (g o : Nat) (ty T : TypeId) (old : Array Value) (v : Value) (cells : Array Value) (hv : v.cells = cells) (hg : w.heap[g]? = some (.cells old T (0,0))) (hsz : o + cells.size ≤ old.size)
    (hi : (P.info? ty).map (·.size) = some cells.size) (h1 : cells.all (·.oneCell') = true) : (storeVar ty ⟨g,o,none⟩ v).run P w = .ok () (w.setCells g o cells.toList) := by
  have ht : w.there g o cells.size := fun j hj => by
    rw [blk_cell hg,blk_frozen hg]
    exact ⟨by rw [Array.getElem?_eq_getElem (by omega)];rfl,rfl⟩
  have := run_storeCells_cells (P := P) g o cells.toList 0 w (fun j hj => by simpa using (ht j (by simpa using hj)).1) (fun j hj => by simpa using (ht j (by simpa using hj)).2)
    (fun v hv => (Array.all_eq_true_iff_forall_mem.1 h1) v (by simpa using hv))
  cases hq : P.info? ty with
  | none => simp [hq] at hi
  | some i =>
    have hs : cells.size = i.size := by simp [hq] at hi;omega
    simp only [Nat.add_zero] at this
    simp [storeVar,sizeOf,typeInfo,hq,hv,hs,this]
theorem wp_store_in {op : Oper} {a : Act} {w : World} {K : Act → World → Prop} {Q : Exit → Act → World → Prop} (ty : TypeId) (x y : Operand) (ho : op.op = .store ty x y)
    (g o : Nat) (T : TypeId) (old : Array Value) (v : Value) (cells new : Array Value) (hx : a.eval x = .pointer (some ⟨g,o,none⟩)) (hy : a.eval y = v) (hv : v.cells = cells) (hg : w.heap[g]? = some (.cells old T (0,0))) (hsz : o + cells.size ≤ old.size)
    (hi : (P.info? ty).map (·.size) = some cells.size) (h1 : cells.all (·.oneCell') = true) (hnew : putAt old o cells.toList = new)
    (h : ∀ w',w'.heap[g]? = some (.cells new T (0,0)) → Keep (But g) w w' → K (a.put op.dst undef) w') : op.wp P a w K Q := by
  obtain ⟨h2,h3⟩ := setCells_in g T cells.toList o w old hg
  rw [show (cells.toList.foldl (fun (s : Array Value × Nat) v => (s.1.setIfInBounds s.2 v,s.2 + 1)) (old,o)).1 = new from (putAt_fold _ _ _ (by simpa using hsz)).trans hnew] at h2
  have := h _ h2 h3
  unfold Oper.wp execOp
  simp only [ho,hx,hy,Instr.storeAt,Instr.sureAddr,Sem.run_bind,Sem.run_pure,Result.andThen_ok,run_store_in w g o ty T old v cells hv hg hsz hi h1]
  exact this
theorem wpList_store_in {ops : Array Oper} {rest : List Oper} {op : Oper} {a : Act} {w : World} {Q : Exit → Act → World → Prop} (hgd : op.guard = none) (ty : TypeId) (x y : Operand) (ho : op.op = .store ty x y)
    (g o : Nat) (T : TypeId) (old : Array Value) (v : Value) (cells new : Array Value) (hx : a.eval x = .pointer (some ⟨g,o,none⟩)) (hy : a.eval y = v) (hv : v.cells = cells) (hg : w.heap[g]? = some (.cells old T (0,0))) (hsz : o + cells.size ≤ old.size)
    (hi : (P.info? ty).map (·.size) = some cells.size) (h1 : cells.all (·.oneCell') = true) (hnew : putAt old o cells.toList = new)
    (h : ∀ w',w'.heap[g]? = some (.cells new T (0,0)) → Keep (But g) w w' → wpList P ops Q rest (a.put op.dst undef) w') : wpList P ops Q (op :: rest) a w :=
  wpList_plain hgd fun _ hK => wp_store_in ty x y ho g o T old v cells new hx hy hv hg hsz hi h1 hnew fun w' h2 h3 => hK _ _ (h w' h2 h3)
end
theorem at_store {P : Program} {ops : Array Oper} {Q : Exit → Act → World → Prop} {rest : List Oper} {d : Option Tmp} {t : TypeId} {ps : String} {af} {a : Act} {w : World} (ty : TypeId) (x y : Operand)
    (h : wpList P ops Q ({ dst := d,op := .store ty x y,type := t,pos := ps,after := af,guard := none } :: rest) a w) : wpList P ops Q ({ dst := d,op := .store ty x y,type := t,pos := ps,after := af,guard := none } :: rest) a w := h
theorem at_args {P : Program} {f : FuncId} {w : World} {R : Ending → World → Prop} (args : Array Value) (h : Calls P f args w R) : Calls P f args w R := h
theorem at_load {P : Program} {ops : Array Oper} {Q : Exit → Act → World → Prop} {rest : List Oper} {d : Option Tmp} {t : TypeId} {ps : String} {af} {a : Act} {w : World} (ty : TypeId) (x : Operand)
    (h : wpList P ops Q ({ dst := d,op := .load ty x,type := t,pos := ps,after := af,guard := none } :: rest) a w) : wpList P ops Q ({ dst := d,op := .load ty x,type := t,pos := ps,after := af,guard := none } :: rest) a w := h

/- What an append does,by its run;nothing behind nothing. No condition. -/
section
variable {P : Program} (w : World)
theorem wp_append_by {o : Oper} {a : Act} {K : Act → World → Prop} {Q : Exit → Act → World → Prop} (s x : Operand) (t : TypeId)
    (ho : o.op = .call { callee := .builtin .append,args := #[s,x],argTypes := #[t,t] }) (v y v' : Value) (w' : World) (hs : a.eval s = v) (hx : a.eval x = y)
    (hr : (Builtin.append_ #[t,t] o.type #[v,y]).run P w = .ok v' w') (h : K (a.put o.dst v') w') : o.wp P a w K Q := by
  unfold Oper.wp execOp
  simp only [ho,resolve,invoke,builtin,Sem.run_bind,Sem.run_pure,Result.andThen_ok,List.map_toArray,List.map_cons,List.map_nil,hs,hx,hr]
  exact h
theorem wpList_append_by {ops : Array Oper} {rest : List Oper} {o : Oper} {a : Act} {Q : Exit → Act → World → Prop} (hgd : o.guard = none) (s x : Operand) (t : TypeId)
    (ho : o.op = .call { callee := .builtin .append,args := #[s,x],argTypes := #[t,t] }) (v y v' : Value) (w' : World) (hs : a.eval s = v) (hx : a.eval x = y)
    (hr : (Builtin.append_ #[t,t] o.type #[v,y]).run P w = .ok v' w') (h : wpList P ops Q rest (a.put o.dst v') w') : wpList P ops Q (o :: rest) a w :=
  wpList_plain hgd fun _ hK => wp_append_by w s x t ho v y v' w' hs hx hr (hK _ _ h)
theorem step_append_by {ops : Array Oper} {o : Oper} {a : Act} {K : Act → World → Prop} {Q : Exit → Act → World → Prop} {E : Prop} (hgd : o.guard = none) (s x : Operand) (t : TypeId)
    (ho : o.op = .call { callee := .builtin .append,args := #[s,x],argTypes := #[t,t] }) (v y v' : Value) (w' : World) (hs : a.eval s = v) (hx : a.eval x = y)
    (hr : (Builtin.append_ #[t,t] o.type #[v,y]).run P w = .ok v' w') (h : K (a.put o.dst v') w') : if Region.wanted o (yielded ops a.tmps) = true then Oper.wp P o a w K Q else E := by
  have hw : Region.wanted o (yielded ops a.tmps) = true := by simp [Region.wanted,hgd]
  rw [if_pos hw]
  exact wp_append_by w s x t ho v y v' w' hs hx hr h
end

/- Lists of texts that grow: what an append of texts leaves. No condition. -/
theorem infoStr : (Tryz.prog.info? 9).map (fun i => (i.zero,i.size,i.bytes)) = some (some (.string ⟨#[]⟩),1,16) := by kernel_rfl
def OwnS (w : World) (base : Nat) (v : Value) (l : List ByteArray) : Prop := w.ownsRow base 9 1 v l.length (l.map Value.string)
theorem OwnS.strs {w : World} {base : Nat} {v : Value} {l : List ByteArray} {ok : Nat → Prop} (h : OwnS w base v l) (hf : ∀ x,x ∈ l → Fits x) (ho : ∀ k,base ≤ k → k < w.heap.size → ok k) : Strs w ok v l := by
  rcases h.2 with ⟨rfl,h0⟩ | ⟨g,cap,cur,rfl,hb,hg,hnc,hm,hs,ht⟩
  · obtain rfl : l = [] := List.eq_nil_of_length_eq_zero h0
    exact ⟨none,0,rfl,Nat.le_refl _,by decide,fun h => absurd rfl h⟩
  · refine ⟨_,cap,rfl,hnc,by unfold maxLen at hm;omega,fun hn => ⟨_,rfl,ho g hb (blk_lt hg),fun j x hx => ⟨[.string x],⟨rfl,hf x (List.mem_of_getElem? hx)⟩,rfl,fun i u hu => ?_⟩⟩⟩
    cases i with
    | succ i => cases hu
    | zero =>
      cases hu
      have h1 : (l.map Value.string)[j]? = some (.string x) := by rw [List.getElem?_map,hx];rfl
      rw [← ht,List.getElem?_take] at h1
      split at h1
      · have e : (⟨g,0,none⟩ : Addr).add (j * 1 + 0) = ⟨g,j,none⟩ := by unfold Addr.add;split <;> simp_all
        rw [e,blk_cell hg]
        simpa using h1
      · cases h1
theorem OwnS.new {w : World} {base b : Nat} {T : TypeId} (hT : T = 9) (hb : base ≤ b) (h : w.heap[b]? = some (.cells #[] T (0,0))) : OwnS w base (.slice (some ⟨b,0,none⟩) 0 0) [] := by
  subst hT
  exact ⟨rfl,.inr ⟨b,0,#[],rfl,hb,h,Nat.le_refl _,by decide,rfl,rfl⟩⟩
section
variable {P : Program} (w : World)
theorem wpList_append_ex {ops : Array Oper} {rest : List Oper} {o : Oper} {a : Act} {Q : Exit → Act → World → Prop} {R : Value → World → Prop} (hgd : o.guard = none) (s x : Operand) (t : TypeId)
    (ho : o.op = .call { callee := .builtin .append,args := #[s,x],argTypes := #[t,t] }) (v y : Value) (hs : a.eval s = v) (hx : a.eval x = y)
    (hr : ∃ v' w',(Builtin.append_ #[t,t] o.type #[v,y]).run P w = .ok v' w' ∧ R v' w') (h : ∀ v' w',R v' w' → wpList P ops Q rest (a.put o.dst v') w') : wpList P ops Q (o :: rest) a w := by
  obtain ⟨v',w',h1,h2⟩ := hr
  exact wpList_append_by w hgd s x t ho v y v' w' hs hx h1 (h v' w' h2)
theorem run_append_none (t ty e : TypeId) (i : TypeInfo) (z : Value) (ht : P.underlying t = some (.slice e)) (hi : P.info? e = some i) (hz : i.zero = some z) (sa : Option Addr) (n cp : Nat) (hle : n ≤ cp) (a : Option Addr) (c : Nat) :
    (Builtin.append_ #[t,t] ty #[.slice sa n cp,.slice a 0 c]).run P w = .ok (.slice sa n cp) w := by
  cases a with
  | none => cases sa <;> simp [Builtin.append_,run_underlying ht,sizeOf,typeInfo,zeroValue,hi,hz,Builtin.lenOf,run_firstCells_none,storeCells,hle]
  | some a =>
    have hf := run_firstCells_some (P := P) w i.size 0 a 0 c [] (by simp) (by simp)
    cases sa <;> simp [Builtin.append_,run_underlying ht,sizeOf,typeInfo,zeroValue,hi,hz,Builtin.lenOf,hf,storeCells,hle]
end
def AppS (w : World) (base : Nat) (v : Value) (l : List ByteArray) (v' : Value) (w' : World) : Prop := OwnS w' base v' l ∧ w.grownBy w' v.ownBlock ∧ (v'.ownBlock = v.ownBlock ∨ v'.ownBlock = some w.heap.size)
theorem app_strs (w : World) (ty : TypeId) (base : Nat) (v : Value) (l1 : List ByteArray) (hown : OwnS w base v l1) (hbase : base ≤ w.heap.size) (y : Value) (l2 : List ByteArray) (hs : Strs w Any y l2) (hl : l1.length + l2.length ≤ 1000000) :
    ∃ v' w',(Builtin.append_ #[41,41] ty #[v,y]).run Tryz.prog w = .ok v' w' ∧ AppS w base v (l1 ++ l2) v' w' := by
  obtain ⟨i0,hi,hzz⟩ := Option.map_eq_some_iff.1 infoStr
  simp only [Prod.mk.injEq] at hzz
  obtain ⟨hz0,hz1,hz2⟩ := hzz
  obtain ⟨a,c,rfl,h1,h2,h3⟩ := hs
  by_cases hn : l2 = []
  · subst hn
    have hg : w.grownBy w v.ownBlock := (Keep.refl Any w).grownBy0 _
    rcases hown.2 with ⟨rfl,h0⟩ | ⟨g,cap,cur,rfl,hb,hh,hnc,hm,hs,ht⟩
    · exact ⟨_,w,run_append_none (P := Tryz.prog) w _ ty _ i0 _ Tryz.underlying41 hi hz0 none 0 0 (Nat.le_refl _) a c,by rw [List.append_nil];exact hown,hg,.inl rfl⟩
    · exact ⟨_,w,run_append_none (P := Tryz.prog) w _ ty _ i0 _ Tryz.underlying41 hi hz0 _ _ cap hnc a c,by rw [List.append_nil];exact hown,hg,.inl rfl⟩
  · obtain ⟨ad,rfl,_,hf⟩ := h3 hn
    have hlen : 0 < l2.length := List.length_pos_iff.2 hn
    obtain ⟨v',w',hr,ho,hg,hb⟩ := run_append_sep (P := Tryz.prog) w base 41 ty 9 i0 _ 1 16 Tryz.underlying41 hi hz0 hz1 hz2 rfl (by decide) v l1.length _ hown ad l2.length c (l2.map Value.string) (by simp) (fun j u hu => by
      rw [List.getElem?_map] at hu
      obtain ⟨x,hx,rfl⟩ := Option.map_eq_some_iff.1 hu
      obtain ⟨cs,⟨rfl,_⟩,_,hc⟩ := hf j x hx
      have := hc 0 _ rfl
      simpa using this) (fun u hu => by obtain ⟨x,_,rfl⟩ := List.mem_map.1 hu;rfl) (by unfold maxLen;omega) (by omega) hbase hlen
    refine ⟨v',w',hr,?_,hg,hb⟩
    unfold OwnS
    rw [List.length_append,List.map_append]
    exact ho
theorem strs_fits {w : World} {ok : Nat → Prop} {v : Value} {l : List ByteArray} (h : Strs w ok v l) : ∀ x,x ∈ l → Fits x := fun x hx => by
  obtain ⟨j,hj⟩ := List.getElem?_of_mem hx
  obtain ⟨a',c',e,h1,h2,h3⟩ := h
  obtain ⟨ad,e,hb,hf⟩ := h3 (fun e => by rw [e] at hj;cases hj)
  obtain ⟨cs,⟨_,h⟩,_⟩ := hf j x hj
  exact h
theorem blk_new1 (w : World) (o p : Obj) : ((w.alloc o).alloc p).heap[w.heap.size + 1]? = some p := by rw [← World.size_alloc w o];exact blk_new _ _
theorem strs_litF {w : World} {ok : Nat → Prop} {b : Nat} {T : TypeId} {cs : Array Value} (l : List ByteArray) (hcs : cs = (l.map Value.string).toArray) (h : w.heap[b]? = some (.cells cs T (0,0))) (hb : ok b) (hl : l.length ≤ 1000) (hf : ∀ x,x ∈ l → Fits x) : Strs w ok (.slice (some ⟨b,0,none⟩) l.length l.length) l := by
  subst hcs
  refine ⟨_,_,rfl,Nat.le_refl _,by omega,fun _ => ⟨_,rfl,hb,fun j x hx => ⟨[.string x],⟨rfl,hf x (List.mem_of_getElem? hx)⟩,rfl,fun i u hu => ?_⟩⟩⟩
  cases i with
  | succ i => cases hu
  | zero =>
    cases hu
    have e : (⟨b,0,none⟩ : Addr).add (j * 1 + 0) = ⟨b,j,none⟩ := by unfold Addr.add;split <;> simp_all
    rw [e,blk_cell h]
    simp [hx]
theorem strs_lit {w : World} {ok : Nat → Prop} {b : Nat} {T : TypeId} {cs : Array Value} (l : List ByteArray) (hcs : cs = (l.map Value.string).toArray) (h : w.heap[b]? = some (.cells cs T (0,0))) (hb : ok b) (hl : l.length ≤ 1000) (hf : ∀ x,x ∈ l → x.size ≤ 1000) : Strs w ok (.slice (some ⟨b,0,none⟩) l.length l.length) l :=
  strs_litF l hcs h hb hl fun x hx => by have := hf x hx;unfold Fits;omega
theorem OwnS.keepA {w w' : World} {base : Nat} {v : Value} {l : List ByteArray} (h : OwnS w base v l) (k : Keep Any w w') : OwnS w' base v l :=
  World.ownsRow.kept (row := none) h (k.grownBy0 none) (by cases hv : v.ownBlock with | none => exact .inl rfl | some b => exact .inr (by simp))
end Go.Proofs.YtjopkcjpedgoaaaGreatDoor

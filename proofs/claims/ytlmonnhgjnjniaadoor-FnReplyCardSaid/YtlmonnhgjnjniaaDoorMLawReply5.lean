/- The reference's small readers: a text up to a byte, what stands ahead of a comma or a bracket, an atom. For every text of at most 2^61 bytes. The reference's cut of a text at a byte, both ways told; an own slice that begins empty. For every text of at most 2^61 bytes. strings.Cut at one byte: the text ahead of it and behind. For every text. Which replies have a form, as a plain function. A reply's text, as a plain function. For every reply. The reading of a reply, as plain functions: the program's and the reference's; each finds a reply again in its text, so both find the same. No condition. strings.Split at a blank: a slice of one's own with the parts. Where Go's own variable on the processor holds some number. -/
import Derived.Test.YtlmonnhgjnjniaaDoorMLawReply1
import Derived.Test.YtlmonnhgjnjniaaDoorMLawReply4
import Derived.Test.YtlmonnhgjnjniaaDoorMLawReply2
import Derived.Test.YtlmonnhgjnjniaaDoorMLawReply0
/- The reference's small readers: a text up to a byte, what stands ahead of a comma or a bracket, an atom. For every text of at most 2^61 bytes. -/
namespace Go.Proofs.YtlmonnhgjnjniaaDoor
open Go.RowKit
set_option linter.unusedVariables false
set_option linter.unusedSimpArgs false
theorem get_at {s : ByteArray} {k : Nat} (h : k < s.size) : s.data.toList[k]? = some (s[k]'h) := by
  rw [List.getElem?_eq_getElem (by rw [← Lib.size_eq]; exact h)]; rfl
theorem take_no {s : ByteArray} {c : UInt8} {k : Nat} (hk : k ≤ s.size) (h : ∀ j, j < k → at_ s j ≠ c.toNat) : c ∉ s.data.toList.take k := by
  intro hm
  obtain ⟨j, hj, e⟩ := List.getElem_of_mem hm
  rw [List.length_take, ← Lib.size_eq] at hj
  have hjs : j < s.size := by omega
  refine h j (by omega) ?_
  rw [← at_eq s j hjs]
  rw [List.getElem_take] at e
  exact congrArg UInt8.toNat e
theorem cutAt_hit {s : ByteArray} {c : UInt8} {k : Nat} (hk : k < s.size) (h0 : at_ s k = c.toNat) (h : ∀ j, j < k → at_ s j ≠ c.toNat) : cutAt c s.data.toList = some (s.data.toList.take k, s.data.toList.drop (k + 1)) := by
  have e : s.data.toList = s.data.toList.take k ++ c :: s.data.toList.drop (k + 1) := by
    have hc : c = s[k]'hk := by rw [← at_eq s k hk] at h0; exact (UInt8.toNat_inj.1 h0).symm
    conv => lhs; rw [← List.take_append_drop k s.data.toList, drop_at hk, ← hc]
  conv => lhs; rw [e]
  exact cutAt_app (take_no (by omega) h)
theorem cutAt_miss {s : ByteArray} {c : UInt8} (h : ∀ j, j < s.size → at_ s j ≠ c.toNat) : cutAt c s.data.toList = none := by
  refine cutAt_none ?_
  have := take_no (s := s) (c := c) (k := s.size) (Nat.le_refl _) h
  rwa [List.take_of_length_le (by rw [← Lib.size_eq]; exact Nat.le_refl _)] at this
def GotUp (o : Option (List UInt8 × List UInt8)) (w : World) (e : Ending) (w' : World) : Prop :=
  (o = none ∧ e = .returned (.tuple #[.string ⟨#[]⟩, .string ⟨#[]⟩, .bool false]) ∧ w = w') ∨ ∃ x y, o = some (x, y) ∧ e = .returned (.tuple #[.string ⟨x.toArray⟩, .string ⟨y.toArray⟩, .bool true]) ∧ Keep Any w w'
theorem take_eq (s : ByteArray) (k : Nat) : s.extract 0 k = ⟨(s.data.toList.take k).toArray⟩ := by
  apply ByteArray.ext; apply Array.ext'
  rw [Lib.extract_data]; simp
theorem drop_eq (s : ByteArray) (k : Nat) : s.extract k s.size = ⟨(s.data.toList.drop k).toArray⟩ := by
  apply ByteArray.ext; apply Array.ext'
  rw [rest_data]
theorem l9Upto_calls (s : ByteArray) (c : UInt8) (b : Int) (hb : b = c.toNat) (w : World) (hs : s.size ≤ 2305843009213693952) : Calls Tryd.prog 46 #[.string s, .int .u8 b] w (GotUp (cutAt c s.data.toList) w) := by
  obtain ⟨o, ho⟩ : ∃ o, o = cutAt c s.data.toList := ⟨_, rfl⟩
  rw [← ho]
  have HO := Lib.hid ho
  have HB := Lib.hid hb
  clear ho hb
  go_enter Tryd.func46, Tryd.ntmps46
  go_wp2
  go_loop [7] (fun i => ∃ k : Nat, k ≤ s.size ∧ i = .int .i64 k ∧ ∀ j, j < k → at_ s j ≠ c.toNat) (fun i => s.size - (intOf i).toNat)
  case atStart => exact ⟨0, by omega, rfl, fun j hj => by omega⟩
  case round =>
    obtain ⟨k, hk, rfl, hg⟩ := hrel
    have HG := Lib.hid hg
    clear hg
    by_cases hlt : k < s.size
    · have e1 := at_eq s k hlt
      by_cases hc : at_ s k = c.toNat
      · have q1 : (((at_ s k : Nat) : Int) == b) = true := by rw [beq_iff_eq, HB.out]; omega
        have HC := Lib.hid hc
        clear hc
        go_wp2
        go_quiet (fail)
        go_wp2
        go_ret3
        exact .inr ⟨_, _, by rw [HO.out, cutAt_hit hlt HC.out HG.out], by rw [← take_eq, ← drop_eq]; rfl, (Keep.refl _ _).drewN _⟩
      · have q1 : (((at_ s k : Nat) : Int) == b) = false := by rw [beq_eq_false_iff_ne, HB.out]; omega
        have HC := Lib.hid hc
        clear hc
        go_wp2
        go_round
        case rel => exact ⟨k + 1, by omega, by go_num, fun j hj => by rcases Nat.lt_succ_iff_lt_or_eq.1 hj with hj | rfl; exact HG.out j hj; exact HC.out⟩
        case measure => simp [intOf]; omega
    · have hk' : k = s.size := by omega
      have HK := Lib.hid hk'
      clear hk'
      go_wp2
      go_ret3
      exact .inl ⟨by rw [HO.out, cutAt_miss (by rw [← HK.out]; exact HG.out)], rfl, rfl⟩
theorem plainAt_eq {s : ByteArray} {k : Nat} (hk : k ≤ s.size) (h : ∀ j, j < k → at_ s j ≠ 44 ∧ at_ s j ≠ 93) (he : k = s.size ∨ at_ s k = 44 ∨ at_ s k = 93) : plainAt s.data.toList = k := by
  have e : s.data.toList = s.data.toList.take k ++ s.data.toList.drop k := (List.take_append_drop _ _).symm
  have hE : Ends (s.data.toList.drop k) := fun b r hb => by
    rcases Nat.lt_or_ge k s.size with hl | hl
    · rw [drop_at hl] at hb
      cases hb
      have e1 := at_eq s k hl
      rcases he with he | he | he
      · omega
      · rw [he] at e1; exact .inl (UInt8.toNat_inj.1 e1)
      · rw [he] at e1; exact .inr (UInt8.toNat_inj.1 e1)
    · rw [List.drop_of_length_le (by rw [← Lib.size_eq]; exact hl)] at hb; cases hb
  have h4 := take_no (s := s) (c := 44) hk fun j hj => (h j hj).1
  have h9 := take_no (s := s) (c := 93) hk fun j hj => (h j hj).2
  conv => lhs; rw [e]
  rw [plainAt_app hE (fun b hb => ⟨fun e => h4 (e ▸ hb), fun e => h9 (e ▸ hb)⟩), List.length_take, ← Lib.size_eq]
  omega
def QNum (n : Nat) (w : World) (e : Ending) (w' : World) : Prop := e = .returned (.int .i64 n) ∧ w = w'
theorem l1Plain_calls (s : ByteArray) (w : World) (hs : s.size ≤ 2305843009213693952) : Calls Tryd.prog 44 #[.string s] w (QNum (plainAt s.data.toList) w) := by
  obtain ⟨o, ho⟩ : ∃ o, o = plainAt s.data.toList := ⟨_, rfl⟩
  rw [← ho]
  have HO := Lib.hid ho
  clear ho
  go_enter Tryd.func44, Tryd.ntmps44
  go_wp2
  go_loop [3] (fun i => ∃ k : Nat, k ≤ s.size ∧ i = .int .i64 k ∧ ∀ j, j < k → at_ s j ≠ 44 ∧ at_ s j ≠ 93) (fun i => s.size - (intOf i).toNat)
  case atStart => exact ⟨0, by omega, rfl, fun j hj => by omega⟩
  case round =>
    obtain ⟨k, hk, rfl, hg⟩ := hrel
    have HG := Lib.hid hg
    clear hg
    by_cases hlt : k < s.size
    · have e1 := at_eq s k hlt
      by_cases h4 : at_ s k = 44
      · have q1 : (((at_ s k : Nat) : Int) != 44) = false := by rw [h4]; rfl
        have HP := Lib.hid (plainAt_eq hk HG.out (.inr (.inl h4)))
        clear h4
        go_wp2
        go_ret
        exact ⟨ret_int (by rw [HO.out, HP.out]), rfl⟩
      · have q1 : (((at_ s k : Nat) : Int) != 44) = true := by rw [bne_iff_ne]; omega
        by_cases h9 : at_ s k = 93
        · have q2 : (((at_ s k : Nat) : Int) != 93) = false := by rw [h9]; rfl
          have HP := Lib.hid (plainAt_eq hk HG.out (.inr (.inr h9)))
          clear h9 h4
          go_wp2
          go_ret
          exact ⟨ret_int (by rw [HO.out, HP.out]), rfl⟩
        · have q2 : (((at_ s k : Nat) : Int) != 93) = true := by rw [bne_iff_ne]; omega
          have H4 := Lib.hid h4
          have H9 := Lib.hid h9
          clear h4 h9
          go_wp2
          go_round
          case rel => exact ⟨k + 1, by omega, by go_num, fun j hj => by rcases Nat.lt_succ_iff_lt_or_eq.1 hj with hj | rfl; exact HG.out j hj; exact ⟨H4.out, H9.out⟩⟩
          case measure => simp [intOf]; omega
    · have HP := Lib.hid (plainAt_eq hk HG.out (.inl (by omega)))
      go_wp2
      go_ret
      exact ⟨ret_int (by rw [HO.out, HP.out]), rfl⟩
theorem l1Bool_calls (b : Bool) (w : World) : Calls Tryd.prog 68 #[.bool b] w (IsYes b w) := by
  cases b
  · go_enter Tryd.func68, Tryd.ntmps68
    go_wp2
    refine bodyPost_ret (v := .agg #[.int .i64 1, .int .i64 0, .string ⟨#[]⟩, .slice none 0 0]) (by simp [results, Tryd.results68, go_sem]) rfl ⟨rfl, ?_⟩
    exact (Keep.refl _ _).alloc _
  · go_enter Tryd.func68, Tryd.ntmps68
    go_wp2
    refine bodyPost_ret (v := .agg #[.int .i64 1, .int .i64 1, .string ⟨#[]⟩, .slice none 0 0]) (by simp [results, Tryd.results68, go_sem]) rfl ⟨rfl, ?_⟩
    exact (Keep.refl _ _).alloc _
/-- an atom, and yes -/
def GotAtom (v : V) (w : World) (e : Ending) (w' : World) : Prop := ∃ k n : Int, v = ⟨k, n, ⟨#[]⟩, []⟩ ∧ I64 k ∧ I64 n ∧ e = .returned (.tuple #[.agg #[.int .i64 k, .int .i64 n, .string ⟨#[]⟩, .slice none 0 0], .bool true]) ∧ Keep Any w w'
theorem str_yes {s : ByteArray} {l : List UInt8} (h : s.data.toList = l) : (s.toList == l) = true := by rw [beq_iff_eq, ByteArray.toList_eq]; exact h
theorem str_no {s : ByteArray} {l : List UInt8} (h : ¬ s.data.toList = l) : (s.toList == l) = false := by rw [beq_eq_false_iff_ne, ByteArray.toList_eq]; exact h
theorem numS_calls (s : ByteArray) (hs : s.size ≤ 2305843009213693952) : ∃ n : Int, n = numL s.data.toList ∧ -1 ≤ n ∧ n ≤ 10000000000 ∧ ∀ w, Calls Tryd.prog 17 #[.string s] w fun e w' => e = .returned (.int .i64 n) ∧ w = w' :=
  ⟨l1Num s, l1Num_list s, (l1Num_bd s).1, (l1Num_bd s).2, fun w => l1Num_calls s w (by omega)⟩
set_option maxHeartbeats 2000000 in
theorem l1Atom_calls (s : ByteArray) (w : World) (hs : s.size ≤ 2305843009213693952) : Calls Tryd.prog 45 #[.string s] w (GotAtom (sAtom s.data.toList) w) := by
  obtain ⟨o, ho⟩ : ∃ o, o = sAtom s.data.toList := ⟨_, rfl⟩
  rw [← ho]
  have YN := Lib.hid l1Bool_calls
  by_cases c1 : s.data.toList = [110, 117, 108, 108]
  · rw [sAtom, if_pos c1] at ho
    have b1 := str_yes c1
    have HO := Lib.hid ho
    clear ho c1
    go_enter Tryd.func45, Tryd.ntmps45
    go_wp2
    refine bodyPost_ret (v := .tuple #[.agg #[.int .i64 0, .int .i64 0, .string ⟨#[]⟩, .slice none 0 0], .bool true]) (by simp [results, Tryd.results45, go_sem]) rfl ?_
    exact ⟨0, 0, HO.out, (show I64 0 from ⟨by decide, by decide⟩), (show I64 0 from ⟨by decide, by decide⟩), rfl, (Keep.refl _ _).alloc _⟩
  rw [sAtom, if_neg c1] at ho
  have b1 := str_no c1
  clear c1
  by_cases c2 : s.data.toList = [116, 114, 117, 101]
  · rw [if_pos c2] at ho
    have b2 := str_yes c2
    have HO := Lib.hid ho
    clear ho c2
    go_enter Tryd.func45, Tryd.ntmps45
    go_wp2_with (go_at_call 68; refine (YN.out _ _).mono ?_; rintro e w2 ⟨rfl, hK⟩; obtain ⟨hc, hf⟩ := hK.cells; have z0 : w.heap.size < w2.heap.size := (by have := hK.size; simp at this; omega))
    refine bodyPost_ret (v := .tuple #[.agg #[.int .i64 1, .int .i64 1, .string ⟨#[]⟩, .slice none 0 0], .bool true]) (by simp [results, Tryd.results45, go_sem, hc, hf, z0]) rfl ?_
    exact ⟨1, 1, HO.out, (show I64 1 from ⟨by decide, by decide⟩), (show I64 1 from ⟨by decide, by decide⟩), rfl, (by have hK1 := keep_a hK; repeat (first | (with_reducible exact hK1) | (refine Keep.set ?_ _ _ (fun h _ => Nat.lt_irrefl _ h))))⟩
  rw [if_neg c2] at ho
  have b2 := str_no c2
  clear c2
  by_cases c3 : s.data.toList = [102, 97, 108, 115, 101]
  · rw [if_pos c3] at ho
    have b3 := str_yes c3
    have HO := Lib.hid ho
    clear ho c3
    go_enter Tryd.func45, Tryd.ntmps45
    go_wp2_with (go_at_call 68; refine (YN.out _ _).mono ?_; rintro e w2 ⟨rfl, hK⟩; obtain ⟨hc, hf⟩ := hK.cells; have z0 : w.heap.size < w2.heap.size := (by have := hK.size; simp at this; omega))
    refine bodyPost_ret (v := .tuple #[.agg #[.int .i64 1, .int .i64 0, .string ⟨#[]⟩, .slice none 0 0], .bool true]) (by simp [results, Tryd.results45, go_sem, hc, hf, z0]) rfl ?_
    exact ⟨1, 0, HO.out, (show I64 1 from ⟨by decide, by decide⟩), (show I64 0 from ⟨by decide, by decide⟩), rfl, (by have hK1 := keep_a hK; repeat (first | (with_reducible exact hK1) | (refine Keep.set ?_ _ _ (fun h _ => Nat.lt_irrefl _ h))))⟩
  rw [if_neg c3] at ho
  have b3 := str_no c3
  clear c3
  rw [← Lib.size_eq] at ho
  by_cases hsz : 1 < s.size
  · have q1 : 0 < s.size := by omega
    have e1 := at_eq s 0 q1
    by_cases c4 : s.data.toList.headD 0 = 35
    · rw [if_pos ⟨hsz, c4⟩] at ho
      have b4 := head_yes q1 (n := 35) rfl c4
      clear c4
      obtain ⟨n, hn, h0, h1, hc⟩ := numS_calls (s.extract 1 s.size) (by rw [ByteArray.size_extract]; omega)
      rw [tail_data] at hn
      rw [← hn] at ho
      have HO := Lib.hid ho
      have NM := Lib.hid hc
      clear ho hn hc
      go_enter Tryd.func45, Tryd.ntmps45
      go_wp2_with (go_at_call 17; refine (NM.out _).mono ?_; rintro e w' ⟨rfl, rfl⟩)
      refine bodyPost_ret (v := .tuple #[.agg #[.int .i64 5, .int .i64 n, .string ⟨#[]⟩, .slice none 0 0], .bool true]) (by simp [results, Tryd.results45, go_sem]) rfl ?_
      exact ⟨5, n, HO.out, (show I64 5 from ⟨by decide, by decide⟩), ⟨by omega, by omega⟩, rfl, (Keep.refl _ _).alloc _⟩
    rw [if_neg (fun h => c4 h.2)] at ho
    have b35 := head_not q1 (n := 35) rfl c4
    clear c4
    by_cases c4 : s.data.toList.headD 0 = 64
    · rw [if_pos ⟨hsz, c4⟩] at ho
      have b4 := head_yes q1 (n := 64) rfl c4
      clear c4
      obtain ⟨n, hn, h0, h1, hc⟩ := numS_calls (s.extract 1 s.size) (by rw [ByteArray.size_extract]; omega)
      rw [tail_data] at hn
      rw [← hn] at ho
      have HO := Lib.hid ho
      have NM := Lib.hid hc
      clear ho hn hc
      go_enter Tryd.func45, Tryd.ntmps45
      go_wp2_with (go_at_call 17; refine (NM.out _).mono ?_; rintro e w' ⟨rfl, rfl⟩)
      refine bodyPost_ret (v := .tuple #[.agg #[.int .i64 6, .int .i64 n, .string ⟨#[]⟩, .slice none 0 0], .bool true]) (by simp [results, Tryd.results45, go_sem]) rfl ?_
      exact ⟨6, n, HO.out, (show I64 6 from ⟨by decide, by decide⟩), ⟨by omega, by omega⟩, rfl, (Keep.refl _ _).alloc _⟩
    rw [if_neg (fun h => c4 h.2)] at ho
    have b64 := head_not q1 (n := 64) rfl c4
    clear c4
    by_cases c4 : s.data.toList.headD 0 = 45
    · rw [if_pos ⟨hsz, c4⟩] at ho
      have b4 := head_yes q1 (n := 45) rfl c4
      clear c4
      obtain ⟨n, hn, h0, h1, hc⟩ := numS_calls (s.extract 1 s.size) (by rw [ByteArray.size_extract]; omega)
      rw [tail_data] at hn
      rw [← hn] at ho
      have HO := Lib.hid ho
      have NM := Lib.hid hc
      clear ho hn hc
      go_enter Tryd.func45, Tryd.ntmps45
      go_wp2_with (go_at_call 17; refine (NM.out _).mono ?_; rintro e w' ⟨rfl, rfl⟩)
      refine bodyPost_ret (v := .tuple #[.agg #[.int .i64 2, .int .i64 (-n), .string ⟨#[]⟩, .slice none 0 0], .bool true]) (by simp [results, Tryd.results45, go_sem]) rfl ?_
      exact ⟨2, (-n), HO.out, (show I64 2 from ⟨by decide, by decide⟩), ⟨by omega, by omega⟩, rfl, (Keep.refl _ _).alloc _⟩
    rw [if_neg (fun h => c4 h.2)] at ho
    have b45 := head_not q1 (n := 45) rfl c4
    clear c4
    obtain ⟨n, hn, h0, h1, hc⟩ := numS_calls s hs
    rw [← hn] at ho
    have HO := Lib.hid ho
    have NM := Lib.hid hc
    clear ho hn hc
    go_enter Tryd.func45, Tryd.ntmps45
    go_wp2_with (go_at_call 17; refine (NM.out _).mono ?_; rintro e w' ⟨rfl, rfl⟩)
    refine bodyPost_ret (v := .tuple #[.agg #[.int .i64 2, .int .i64 n, .string ⟨#[]⟩, .slice none 0 0], .bool true]) (by simp [results, Tryd.results45, go_sem]) rfl ?_
    exact ⟨2, n, HO.out, (show I64 2 from ⟨by decide, by decide⟩), ⟨by omega, by omega⟩, rfl, (Keep.refl _ _).alloc _⟩
  · rw [if_neg (fun h => hsz h.1), if_neg (fun h => hsz h.1), if_neg (fun h => hsz h.1)] at ho
    obtain ⟨n, hn, h0, h1, hc⟩ := numS_calls s hs
    rw [← hn] at ho
    have HO := Lib.hid ho
    have NM := Lib.hid hc
    clear ho hn hc
    go_enter Tryd.func45, Tryd.ntmps45
    go_wp2_with (go_at_call 17; refine (NM.out _).mono ?_; rintro e w' ⟨rfl, rfl⟩)
    refine bodyPost_ret (v := .tuple #[.agg #[.int .i64 2, .int .i64 n, .string ⟨#[]⟩, .slice none 0 0], .bool true]) (by simp [results, Tryd.results45, go_sem]) rfl ?_
    exact ⟨2, n, HO.out, (show I64 2 from ⟨by decide, by decide⟩), ⟨by omega, by omega⟩, rfl, (Keep.refl _ _).alloc _⟩
end Go.Proofs.YtlmonnhgjnjniaaDoor

/- The reference's cut of a text at a byte, both ways told; an own slice that begins empty. For every text of at most 2^61 bytes. -/
namespace Go.Proofs.YtlmonnhgjnjniaaDoor
open Go.RowKit
set_option linter.unusedVariables false
set_option linter.unusedSimpArgs false
theorem upto_none {s : ByteArray} {c : UInt8} {b : Int} (hb : b = c.toNat) (hs : s.size ≤ 2305843009213693952) (h : cutAt c s.data.toList = none) (w : World) : Calls Tryd.prog 46 #[.string s, .int .u8 b] w fun e w' => e = .returned (.tuple #[.string ⟨#[]⟩, .string ⟨#[]⟩, .bool false]) ∧ Keep Any w w' :=
  (l9Upto_calls s c b hb w hs).mono fun e w' hz => by
    rcases hz with ⟨_, he, hw⟩ | ⟨x, y, hn, _⟩
    · exact ⟨he, hw ▸ Keep.refl _ _⟩
    · rw [h] at hn; cases hn
theorem upto_some {s : ByteArray} {c : UInt8} {b : Int} (hb : b = c.toNat) (hs : s.size ≤ 2305843009213693952) {x y : List UInt8} (h : cutAt c s.data.toList = some (x, y)) (w : World) : Calls Tryd.prog 46 #[.string s, .int .u8 b] w fun e w' => e = .returned (.tuple #[.string ⟨x.toArray⟩, .string ⟨y.toArray⟩, .bool true]) ∧ Keep Any w w' :=
  (l9Upto_calls s c b hb w hs).mono fun e w' hz => by
    rcases hz with ⟨hn, _⟩ | ⟨x', y', hn, he, hw⟩
    · rw [h] at hn; cases hn
    · rw [h] at hn; cases hn; exact ⟨he, hw⟩
theorem SRow.made {α : Type} {sz : Nat} {R : World → (Nat → Prop) → α → List Value → Prop} (w : World) (T : TypeId) : SRow sz R (w.alloc (.cells #[] T)) w.heap.size (w.heap.size + 1) T (.slice (some ⟨w.heap.size, 0, none⟩) 0 0) ([] : List α) [] :=
  ⟨fun _ _ => False, rfl, World.ownsRow_made w #[] 0 (Nat.le_refl _) (by simp [maxLen]) (by simp), (fun _ h => by cases h), (fun j x cs h => by cases h), fun _ _ h => h.elim, fun _ _ _ _ h => h.elim, by omega, by simp, (fun k h => by cases h; exact Nat.lt_succ_self _)⟩
end Go.Proofs.YtlmonnhgjnjniaaDoor

/- strings.Cut at one byte: the text ahead of it and behind. For every text. -/
namespace Go.Proofs.YtlmonnhgjnjniaaDoor
open Go.RowKit
set_option linter.unusedVariables false
set_option linter.unusedSimpArgs false
theorem slIndexByte_calls (s : ByteArray) (c : Int) (w : World) : Calls Tryd.prog 83 #[.string s, .int .u8 c] w fun e w' => e = .returned (.int .i64 (Lib.indexByte s.data.toList c.toNat.toUInt8)) ∧ w = w' :=
  (Any.stringslite_IndexByte { Tryd.lays137 with } s c w).mono fun e w' ⟨h1, h2⟩ => ⟨h1, h2.symm⟩
/-- the bytes that texts are cut at here -/
def CutB (c : UInt8) : Prop := c = 10 ∨ c = 61 ∨ c = 32
theorem slIndex1_calls (s : ByteArray) (c : UInt8) (w : World) : Calls Tryd.prog 69 #[.string s, .string ⟨#[c]⟩] w fun e w' => e = .returned (.int .i64 (Lib.indexByte s.data.toList c)) ∧ w = w' := by
  have IX := Lib.hid slIndexByte_calls
  by_cases h : s = ⟨#[c]⟩
  · subst h
    have e : Lib.indexByte (⟨#[c]⟩ : ByteArray).data.toList c = 0 := by simp [Lib.indexByte]
    rw [e]
    go_enter Tryd.func69, Tryd.ntmps69
    go_wp2
    go_ret
    exact ⟨rfl, rfl⟩
  · have hd : ((⟨#[c]⟩ : ByteArray).toList == s.toList) = false := by
      rw [beq_eq_false_iff_ne, ByteArray.toList_eq, ByteArray.toList_eq]
      exact fun e => h (ByteArray.ext (Array.ext' e.symm))
    have hd2 : (([c] : List UInt8) == s.toList) = false := by
      have e : (⟨#[c]⟩ : ByteArray).toList = [c] := by rw [ByteArray.toList_eq]
      rw [← e]; exact hd
    go_enter Tryd.func69, Tryd.ntmps69
    go_wp2_with (go_at_call 83; refine (IX.out _ _ _).mono ?_; rintro e w' ⟨rfl, rfl⟩)
    go_ret
    exact ⟨rfl, rfl⟩
theorem cutAt_len {c : UInt8} {l x y : List UInt8} (h : cutAt c l = some (x, y)) : x.length + 1 + y.length = l.length := by
  rw [(cutAt_some h).1, List.length_append, List.length_cons]; omega
theorem ahead_eq {s : ByteArray} {c : UInt8} {x y : List UInt8} (h : cutAt c s.data.toList = some (x, y)) : s.extract 0 x.length = ⟨x.toArray⟩ := by
  apply ByteArray.ext; apply Array.ext'
  rw [Lib.extract_data, (cutAt_some h).1, List.drop_zero, Nat.sub_zero, List.take_left]
theorem behind_eq {s : ByteArray} {c : UInt8} {x y : List UInt8} (h : cutAt c s.data.toList = some (x, y)) : s.extract (x.length + 1) s.size = ⟨y.toArray⟩ := by
  apply ByteArray.ext; apply Array.ext'
  rw [rest_data, (cutAt_some h).1, ← List.drop_drop, List.drop_left]; rfl
theorem slCut_some {s : ByteArray} {c : UInt8} {x y : List UInt8} (hs : s.size ≤ 2305843009213693952) (h : cutAt c s.data.toList = some (x, y)) (w : World) :
    Calls Tryd.prog 49 #[.string s, .string ⟨#[c]⟩] w fun e w' => e = .returned (.tuple #[.string ⟨x.toArray⟩, .string ⟨y.toArray⟩, .bool true]) ∧ Keep Any w w' := by
  have hi : Lib.indexByte s.data.toList c = (x.length : Int) := by rw [indexByte_cut, h]
  have IX := Lib.hid (fun w => by have := slIndex1_calls s c w; rw [hi] at this; exact this)
  have hn : x.length + 1 ≤ s.size := by have := cutAt_len h; rw [← Lib.size_eq] at this; omega
  have HA := Lib.hid (ahead_eq h)
  have HB := Lib.hid (behind_eq h)
  clear hi h
  go_enter Tryd.func49, Tryd.ntmps49
  go_wp2_with (go_at_call 69; refine (IX.out _).mono ?_; rintro e w' ⟨rfl, rfl⟩)
  go_quiet (fail)
  go_wp2
  go_ret3
  exact ⟨by rw [← HA.out, ← HB.out]; rfl, (Keep.refl _ _).drewN _⟩
theorem slCut_none {s : ByteArray} {c : UInt8} (hs : s.size ≤ 2305843009213693952) (h : cutAt c s.data.toList = none) (w : World) :
    Calls Tryd.prog 49 #[.string s, .string ⟨#[c]⟩] w fun e w' => e = .returned (.tuple #[.string s, .string ⟨#[]⟩, .bool false]) ∧ Keep Any w w' := by
  have hi : Lib.indexByte s.data.toList c = -1 := by rw [indexByte_cut, h]
  have IX := Lib.hid (fun w => by have := slIndex1_calls s c w; rw [hi] at this; exact this)
  clear hi h
  go_enter Tryd.func49, Tryd.ntmps49
  go_wp2_with (go_at_call 69; refine (IX.out _).mono ?_; rintro e w' ⟨rfl, rfl⟩)
  go_ret3
  exact ⟨rfl, Keep.refl _ _⟩
theorem cut_some {s : ByteArray} {c : UInt8} {x y : List UInt8} (hs : s.size ≤ 2305843009213693952) (h : cutAt c s.data.toList = some (x, y)) (w : World) :
    Calls Tryd.prog 21 #[.string s, .string ⟨#[c]⟩] w fun e w' => e = .returned (.tuple #[.string ⟨x.toArray⟩, .string ⟨y.toArray⟩, .bool true]) ∧ Keep Any w w' := by
  have IX := Lib.hid (slCut_some hs h)
  clear h
  go_enter Tryd.func21, Tryd.ntmps21
  go_wp2_with (go_at_call 49; refine (IX.out _).mono ?_; rintro e w' ⟨rfl, hK⟩)
  go_ret3
  exact ⟨rfl, hK⟩
theorem cut_none {s : ByteArray} {c : UInt8} (hs : s.size ≤ 2305843009213693952) (h : cutAt c s.data.toList = none) (w : World) :
    Calls Tryd.prog 21 #[.string s, .string ⟨#[c]⟩] w fun e w' => e = .returned (.tuple #[.string s, .string ⟨#[]⟩, .bool false]) ∧ Keep Any w w' := by
  have IX := Lib.hid (slCut_none hs h)
  clear h
  go_enter Tryd.func21, Tryd.ntmps21
  go_wp2_with (go_at_call 49; refine (IX.out _).mono ?_; rintro e w' ⟨rfl, hK⟩)
  go_ret3
  exact ⟨rfl, hK⟩
end Go.Proofs.YtlmonnhgjnjniaaDoor

/- Which replies have a form, as a plain function. -/
namespace Go.Proofs.YtlmonnhgjnjniaaDoor
set_option linter.unusedVariables false
def fineR (r : Rp) : Bool :=
  if r.kind = 1 then decide ((r.names.length : Int) ≤ 5) && ((r.row.length : Int) == 0) && (r.code == 0) && r.names.all nameOk
  else if r.kind = 2 then ((r.names.length : Int) == 0) && (decide (1 ≤ (r.row.length : Int)) && decide ((r.row.length : Int) ≤ 5)) && (r.code == 0) && !r.more && r.row.all (okV 3)
  else if r.kind = 3 then ((r.names.length : Int) == 0) && ((r.row.length : Int) == 0) && (decide (1 ≤ r.code) && decide (r.code ≤ 9)) && !r.more
  else if r.kind = 4 then ((r.names.length : Int) == 0) && ((r.row.length : Int) == 0) && (r.code == 0) && !r.more
  else false
end Go.Proofs.YtlmonnhgjnjniaaDoor

/- A reply's text, as a plain function. For every reply. -/
namespace Go.Proofs.YtlmonnhgjnjniaaDoor
open Go.RowKit
set_option linter.unusedVariables false
set_option linter.unusedSimpArgs false
/-- the word ahead, and the first k names -/
def namesTxt (more : Bool) (l : List ByteArray) (k : Nat) : List UInt8 := (if more then [109, 111, 114, 101] else [111, 107]) ++ ((l.take k).map fun s : ByteArray => 32 :: s.data.toList).flatten
def bodyTxt (r : Rp) : List UInt8 :=
  if r.kind = 2 then [114, 111, 119, 32] ++ rowTxt r.row else if r.kind = 3 then [102, 97, 105, 108, 32] ++ Lib.itoa r.code else if r.kind = 4 then [112, 97, 115, 116] else namesTxt r.more r.names r.names.length
def replyTxt (r : Rp) : List UInt8 := if fineR r then bodyTxt r else []
theorem namesTxt_succ {more : Bool} {l : List ByteArray} {k : Nat} {x : ByteArray} (h : l[k]? = some x) : namesTxt more l (k + 1) = namesTxt more l k ++ (32 :: x.data.toList) := by
  rw [namesTxt, namesTxt, List.take_add_one, h]; simp
theorem namesTxt_step {more : Bool} {l : List ByteArray} {k : Nat} {x : ByteArray} (h : l[k]? = some x) : (⟨(namesTxt more l k).toArray⟩ : ByteArray) ++ (⟨#[32]⟩ ++ x) = ⟨(namesTxt more l (k + 1)).toArray⟩ := by
  rw [namesTxt_succ h]; apply ByteArray.ext; simp [ByteArray.data_append]
theorem namesTxt_step' {more : Bool} {l : List ByteArray} {k : Nat} {x : ByteArray} (h : l[k]? = some x) : (⟨(namesTxt more l k).toArray⟩ : ByteArray) ++ ⟨#[32]⟩ ++ x = ⟨(namesTxt more l (k + 1)).toArray⟩ := by
  rw [namesTxt_succ h]; apply ByteArray.ext; simp [ByteArray.data_append]
theorem name_size {t : ByteArray} (h : nameOk t = true) : t.size ≤ 8 := by
  simp only [nameOk, nameShape, Bool.and_eq_true, decide_eq_true_eq] at h
  omega
theorem flat_len {b : Nat} : ∀ (l : List (List UInt8)), (∀ x, x ∈ l → x.length ≤ b) → l.flatten.length ≤ l.length * b
  | [], _ => by simp
  | x :: r, h => by
    have := flat_len r fun y hy => h y (List.mem_cons_of_mem _ hy)
    have h0 := h x (List.mem_cons_self ..)
    rw [List.flatten_cons, List.length_append, List.length_cons, Nat.add_mul]
    omega
theorem namesTxt_len {more : Bool} {l : List ByteArray} {k : Nat} (h : ∀ x, x ∈ l → nameOk x = true) (hl : l.length ≤ 5) : (namesTxt more l k).length ≤ 100 := by
  have := flat_len (b := 9) ((l.take k).map fun s : ByteArray => 32 :: s.data.toList) fun x hx => by
    obtain ⟨y, hy, rfl⟩ := List.mem_map.1 hx
    have := name_size (h y (List.mem_of_mem_take hy))
    simp; omega
  have h2 : ((l.take k).map fun s : ByteArray => 32 :: s.data.toList).length ≤ 5 := by simp; omega
  have h3 : ((l.take k).map fun s : ByteArray => 32 :: s.data.toList).length * 9 ≤ 5 * 9 := Nat.mul_le_mul_right _ h2
  rw [namesTxt, List.length_append]
  cases more <;> simp at * <;> omega
theorem fine_ok {r : Rp} (h : fineR r = true) (hk : r.kind = 1) : r.names.length ≤ 5 ∧ ∀ x, x ∈ r.names → nameOk x = true := by
  simp [fineR, hk] at h
  exact ⟨by omega, h.2⟩
theorem fine_row {r : Rp} (h : fineR r = true) (hk : r.kind = 2) : r.row.length ≤ 5 ∧ ∀ x, x ∈ r.row → okV 3 x = true := by
  simp [fineR, hk] at h
  exact ⟨by omega, h.2⟩
theorem fine_fail {r : Rp} (h : fineR r = true) (hk : r.kind = 3) : 1 ≤ r.code ∧ r.code ≤ 9 := by
  simp [fineR, hk] at h
  omega
theorem fine_kind {r : Rp} (h : fineR r = true) : r.kind = 1 ∨ r.kind = 2 ∨ r.kind = 3 ∨ r.kind = 4 := by
  unfold fineR at h
  (repeat' split at h) <;> simp_all
end Go.Proofs.YtlmonnhgjnjniaaDoor

/- The reading of a reply, as plain functions: the program's and the reference's; each finds a reply again in its text, so both find the same. No condition. -/
namespace Go.Proofs.YtlmonnhgjnjniaaDoor
open Go.RowKit
set_option linter.unusedVariables false
set_option linter.unusedSimpArgs false

/-! a text parted at each blank -/
def spL : List UInt8 → List (List UInt8)
  | [] => [[]]
  | b :: r => if b = 32 then [] :: spL r else match spL r with
    | [] => [[b]]
    | x :: xs => (b :: x) :: xs
theorem spL_none : ∀ {l : List UInt8}, cutAt 32 l = none → spL l = [l]
  | [], _ => rfl
  | b :: l, h => by
    rw [cutAt] at h
    split at h
    · cases h
    · rename_i e
      have h1 : cutAt 32 l = none := by simpa using h
      rw [spL, if_neg e, spL_none h1]
theorem spL_some : ∀ {l x r : List UInt8}, cutAt 32 l = some (x, r) → spL l = x :: spL r
  | [], _, _, h => by cases h
  | b :: l, x, r, h => by
    rw [cutAt] at h
    split at h
    · rename_i e
      cases h
      rw [spL, if_pos e]
    · rename_i e
      obtain ⟨⟨x', r'⟩, h1, h2⟩ := Option.map_eq_some_iff.1 h
      cases h2
      rw [spL, if_neg e, spL_some h1]
theorem spL_join : ∀ (xs : List (List UInt8)) (x : List UInt8), (32 : UInt8) ∉ x → (∀ y, y ∈ xs → (32 : UInt8) ∉ y) → spL (x ++ (xs.map fun y => 32 :: y).flatten) = x :: xs
  | [], x, h, _ => by
    rw [List.map_nil, List.flatten_nil, List.append_nil]
    exact spL_none (cutAt_none h)
  | y :: ys, x, h, hx => by
    rw [List.map_cons, List.flatten_cons, List.cons_append, spL_some (cutAt_app h), spL_join ys y (hx y (List.mem_cons_self ..)) fun z hz => hx z (List.mem_cons_of_mem _ hz)]
def namesL (l : List UInt8) : List ByteArray := (spL l).map fun x => ⟨x.toArray⟩
theorem namesL_none {l : List UInt8} (h : cutAt 32 l = none) : namesL l = [⟨l.toArray⟩] := by rw [namesL, spL_none h]; rfl
theorem namesL_some {l x r : List UInt8} (h : cutAt 32 l = some (x, r)) : namesL l = ⟨x.toArray⟩ :: namesL r := by rw [namesL, spL_some h]; rfl
theorem no32 {t : ByteArray} (h : nameOk t = true) : (32 : UInt8) ∉ t.data.toList := by
  simp only [nameOk, nameShape, Bool.and_eq_true] at h
  intro hb
  obtain ⟨i, hi, e⟩ := List.getElem_of_mem hb
  have hs : i < t.size := by rw [Lib.size_eq]; exact hi
  have := List.all_eq_true.1 h.1.2 i (List.mem_range.2 hs)
  have e2 : at_ t i = 32 := by
    rw [← at_eq t i hs]
    have e3 : t[i] = t.data.toList[i] := rfl
    rw [e3, e]; rfl
  rw [e2] at this
  revert this; decide
theorem namesL_join (n : ByteArray) (ns : List ByteArray) (h : ∀ x, x ∈ n :: ns → nameOk x = true) : namesL (n.data.toList ++ (ns.map fun s : ByteArray => 32 :: s.data.toList).flatten) = n :: ns := by
  have h1 := spL_join (ns.map fun s : ByteArray => s.data.toList) n.data.toList (no32 (h n (List.mem_cons_self ..))) fun y hy => by
    obtain ⟨z, hz, rfl⟩ := List.mem_map.1 hy
    exact no32 (h z (List.mem_cons_of_mem _ hz))
  rw [List.map_map] at h1
  rw [namesL, show (ns.map fun s : ByteArray => 32 :: s.data.toList) = ns.map ((fun y => 32 :: y) ∘ fun s : ByteArray => s.data.toList) from rfl, h1]
  rw [List.map_cons, List.map_map, show ((fun x : List UInt8 => (⟨x.toArray⟩ : ByteArray)) ∘ fun s : ByteArray => s.data.toList) = id from funext fun s => by simp, List.map_id]

/-! the program's reading -/
def replyOf (l : List UInt8) (r : Rp) : Option Rp := if fineR r = true ∧ bodyTxt r = l then some r else none
theorem replyOf_iff {l : List UInt8} {r x : Rp} : replyOf l r = some x ↔ r = x ∧ fineR x = true ∧ bodyTxt x = l := by
  unfold replyOf
  constructor
  · intro h
    split at h
    · cases h; exact ⟨rfl, by assumption⟩
    · cases h
  · rintro ⟨rfl, h1, h2⟩
    rw [if_pos ⟨h1, h2⟩]
def rowOf (o : Option (List V × List UInt8)) : List V := match o with
  | none => []
  | some p => p.1
def codeOf (o : Option (Nat × List UInt8)) : Nat := match o with
  | none => 0
  | some p => p.1
def iWord (w rest : List UInt8) (m : Bool) : Rp :=
  if w = [111, 107] then ⟨1, if m then namesL rest else [], [], 0, false⟩
  else if w = [109, 111, 114, 101] then ⟨1, if m then namesL rest else [], [], 0, true⟩
  else if w = [114, 111, 119] then ⟨2, [], rowOf (rdL (rdV 3) 5 rest), 0, false⟩
  else if w = [102, 97, 105, 108] then ⟨3, [], [], codeOf (figs rest), false⟩
  else if w = [112, 97, 115, 116] then ⟨4, [], [], 0, false⟩ else ⟨0, [], [], 0, false⟩
def iReply (l : List UInt8) : Rp := match cutAt 32 l with
  | none => iWord l [] false
  | some (w, rest) => iWord w rest true
def replyGet (l : List UInt8) : Option Rp := replyOf l (iReply l)

/-! the reference's -/
def sWords : List UInt8 → List ByteArray
  | [] => []
  | b :: r => if b = 32 then namesL r else [⟨#[]⟩]
def sRow (o : Option (V × List UInt8)) : Option Rp := match o with
  | none => none
  | some (v, r) => if r = [] ∧ v.kind = 4 then some ⟨2, [], v.list, 0, false⟩ else none
def sReply (l : List UInt8) : Option Rp :=
  if l = [112, 97, 115, 116] then some ⟨4, [], [], 0, false⟩
  else if 5 < l.length ∧ l.take 5 = [102, 97, 105, 108, 32] then some ⟨3, [], [], numL (l.drop 5), false⟩
  else if 4 < l.length ∧ l.take 4 = [114, 111, 119, 32] then sRow (sV 4 (l.drop 4))
  else if 4 ≤ l.length ∧ l.take 4 = [109, 111, 114, 101] then some ⟨1, sWords (l.drop 4), [], 0, true⟩
  else if 2 ≤ l.length ∧ l.take 2 = [111, 107] then some ⟨1, sWords (l.drop 2), [], 0, false⟩
  else some ⟨0, [], [], 0, false⟩
def sreplyGet (l : List UInt8) : Option Rp := (sReply l).bind (replyOf l)

/-! both find what was put -/
inductive FineS : Rp → Prop where
  | ok (l : List ByteArray) (m : Bool) (hl : l.length ≤ 5) (h : ∀ x, x ∈ l → nameOk x = true) : FineS ⟨1, l, [], 0, m⟩
  | row (l : List V) (hl : l.length ≤ 5) (h : ∀ x, x ∈ l → okV 3 x = true) : FineS ⟨2, [], l, 0, false⟩
  | fail (n : Nat) (h0 : 1 ≤ n) (h1 : n ≤ 9) : FineS ⟨3, [], [], n, false⟩
  | past : FineS ⟨4, [], [], 0, false⟩
theorem fineS {r : Rp} (h : fineR r = true) : FineS r := by
  obtain ⟨k, ns, vs, c, m⟩ := r
  rcases fine_kind h with rfl | rfl | rfl | rfl
  · obtain ⟨h1, h2⟩ := fine_ok h rfl
    simp [fineR] at h
    obtain ⟨⟨⟨_, rfl⟩, rfl⟩, _⟩ := h
    exact .ok ns m h1 h2
  · obtain ⟨h1, h2⟩ := fine_row h rfl
    simp [fineR] at h
    obtain ⟨⟨⟨⟨rfl, _⟩, rfl⟩, rfl⟩, _⟩ := h
    exact .row vs h1 h2
  · obtain ⟨h1, h2⟩ := fine_fail h rfl
    simp [fineR] at h
    obtain ⟨⟨⟨rfl, rfl⟩, _⟩, rfl⟩ := h
    obtain ⟨n, rfl⟩ := Int.eq_ofNat_of_zero_le (by simpa using (by omega : (0 : Int) ≤ c))
    exact .fail n (Int.ofNat_le.1 h1) (Int.ofNat_le.1 h2)
  · simp [fineR] at h
    obtain ⟨⟨⟨rfl, rfl⟩, rfl⟩, rfl⟩ := h
    exact .past
theorem body_ok (l : List ByteArray) (m : Bool) : bodyTxt ⟨1, l, [], 0, m⟩ = (if m then [109, 111, 114, 101] else [111, 107]) ++ (l.map fun s : ByteArray => 32 :: s.data.toList).flatten := by
  simp [bodyTxt, namesTxt]
theorem body_row (l : List V) : bodyTxt ⟨2, [], l, 0, false⟩ = [114, 111, 119, 32] ++ rowTxt l := rfl
theorem body_fail (n : Nat) : bodyTxt ⟨3, [], [], n, false⟩ = [102, 97, 105, 108, 32] ++ Lib.decDigits n := by rw [← itoa_nat]; rfl
theorem iReply_body {r : Rp} (h : fineR r = true) : iReply (bodyTxt r) = r := by
  cases fineS h with
  | ok l m hl hx =>
    rw [body_ok]
    cases l with
    | nil => cases m <;> simp [iReply, cutAt, iWord]
    | cons n ns =>
      have hj := namesL_join n ns hx
      rw [List.map_cons, List.flatten_cons, List.cons_append]
      cases m
      · rw [iReply, if_neg (by simp), cutAt_app (by decide)]
        simp only [iWord, hj, if_true]
      · rw [iReply, if_pos rfl, cutAt_app (by decide)]
        simp only [iWord, hj, if_true]
        rw [if_neg (by decide)]
  | row l hl hx =>
    have hr : rdL (rdV 3) 5 (rowTxt l) = some (l, []) := by
      have := rdL_put (rdV_put 3) [] l 5 hl hx
      rwa [List.append_nil] at this
    rw [body_row, show [114, 111, 119, 32] ++ rowTxt l = [114, 111, 119] ++ 32 :: rowTxt l from rfl, iReply, cutAt_app (by decide)]
    simp only [iWord, hr, rowOf]
    rw [if_neg (by decide), if_neg (by decide), if_pos trivial]
  | fail n h0 h1 =>
    have hf : figs (Lib.decDigits n) = some (n, []) := by
      have := figs_dec (n := n) (rest := []) (by omega) (fun b r e => by cases e)
      rwa [List.append_nil] at this
    rw [body_fail, show [102, 97, 105, 108, 32] ++ Lib.decDigits n = [102, 97, 105, 108] ++ 32 :: Lib.decDigits n from rfl, iReply, cutAt_app (by decide)]
    simp only [iWord, hf, codeOf]
    rw [if_neg (by decide), if_neg (by decide), if_neg (by decide), if_pos trivial]
  | past => rfl
theorem sReply_body {r : Rp} (h : fineR r = true) : sReply (bodyTxt r) = some r := by
  cases fineS h with
  | ok l m hl hx =>
    have hw : sWords (l.map fun s : ByteArray => 32 :: s.data.toList).flatten = l := by
      cases l with
      | nil => rfl
      | cons n ns => rw [List.map_cons, List.flatten_cons, List.cons_append, sWords, if_pos rfl, namesL_join n ns hx]
    rw [body_ok]
    cases m
    · rw [if_neg (by simp)]
      cases l with
      | nil => rfl
      | cons n ns =>
        rw [List.map_cons, List.flatten_cons, List.cons_append] at hw ⊢
        unfold sReply
        simp [hw]
    · rw [if_pos rfl]
      unfold sReply
      simp [hw]
  | row l hl hx =>
    have hk : okV 4 ⟨4, 0, ⟨#[]⟩, l⟩ = true := by
      rw [show (4 : Nat) = 3 + 1 from rfl, okV]
      simp [V.bare]
      exact ⟨by omega, hx⟩
    have hr : sV 4 (rowTxt l) = some (⟨4, 0, ⟨#[]⟩, l⟩, []) := by
      have := sV_put 4 ⟨4, 0, ⟨#[]⟩, l⟩ [] hk (fun b r e => by cases e)
      rwa [put_list, List.append_nil] at this
    have hl : 0 < (rowTxt l).length := by simp [rowTxt]
    rw [body_row]
    unfold sReply
    simp [hr, sRow, hl]
  | fail n h0 h1 =>
    have hn := numL_dec (n := n) (by omega)
    have hl := dec_pos n
    rw [body_fail]
    unfold sReply
    simp [hn, hl]
  | past => rfl
theorem replyGet_iff {l : List UInt8} {r : Rp} : replyGet l = some r ↔ fineR r = true ∧ bodyTxt r = l := by
  rw [replyGet, replyOf_iff]
  constructor
  · exact fun h => h.2
  · rintro ⟨h1, rfl⟩
    exact ⟨iReply_body h1, h1, rfl⟩
theorem sreplyGet_iff {l : List UInt8} {r : Rp} : sreplyGet l = some r ↔ fineR r = true ∧ bodyTxt r = l := by
  rw [sreplyGet, Option.bind_eq_some_iff]
  constructor
  · rintro ⟨x, _, h⟩
    exact (replyOf_iff.1 h).2
  · rintro ⟨h1, rfl⟩
    exact ⟨r, sReply_body h1, replyOf_iff.2 ⟨rfl, h1, rfl⟩⟩
theorem replyGet_spec (l : List UInt8) : replyGet l = sreplyGet l := opt_ext fun r => by rw [replyGet_iff, sreplyGet_iff]
end Go.Proofs.YtlmonnhgjnjniaaDoor

/- strings.Split at a blank: a slice of one's own with the parts. Where Go's own variable on the processor holds some number. -/
namespace Go.Proofs.YtlmonnhgjnjniaaDoor
open Go.RowKit
set_option linter.unusedVariables false
set_option linter.unusedSimpArgs false
/-- Go's own variable on how long a text its search takes holds some number. -/
def ML (w : World) : Prop := ∃ m, w.cell? ⟨0, 0, none⟩ = some (.int .i64 m)
theorem ML.keep {ok : Nat → Prop} {w w' : World} (h : ML w) (k : Keep ok w w') (ho : ok 0) : ML w' := by
  obtain ⟨m, hm⟩ := h; exact ⟨m, k.cell hm ho⟩
theorem splitK_blank : ∀ (n : Nat) (l : List UInt8), l.length ≤ n → Lib.splitK [32] 0 (Lib.count l [32]) l = spL l := by
  intro n
  induction n with
  | zero =>
    intro l hl
    obtain rfl : l = [] := List.length_eq_zero_iff.1 (by omega)
    rfl
  | succ n ih =>
    intro l hl
    rcases hc : cutAt 32 l with _ | ⟨x, r⟩
    · have hi : Lib.index l [32] = -1 := by rw [Lib.index_one, indexByte_cut, hc]
      rw [Lib.count_miss hi, Lib.splitK, spL_none hc]
    · have hi : Lib.index l [32] = (x.length : Int) := by rw [Lib.index_one, indexByte_cut, hc]
      have e := (cutAt_some hc).1
      have hd : l.drop (x.length + 1) = r := by rw [e, ← List.drop_drop, List.drop_left]; rfl
      have hL := cutAt_len hc
      rw [Lib.count_hit (by simp) hi, Nat.add_comm, Lib.splitK, hi, if_neg (by simp), spL_some hc]
      simp only [List.length_singleton, Nat.add_zero, Int.toNat_natCast]
      rw [hd, ih r (by omega), e, List.take_left]
theorem splitB_blank (s : ByteArray) : Lib.splitB ⟨#[32]⟩ 0 (Lib.countB s ⟨#[32]⟩) s = namesL s.data.toList := by
  have h := Lib.splitB_data ⟨#[32]⟩ 0 (Lib.countB s ⟨#[32]⟩) s
  rw [show Lib.countB s ⟨#[32]⟩ = Lib.count s.data.toList [32] from rfl, show (⟨#[32]⟩ : ByteArray).data.toList = [32] from rfl, splitK_blank _ _ (Nat.le_refl _)] at h
  rw [namesL, ← h, List.map_map]
  exact (List.map_id' _).symm.trans (List.map_congr_left fun x _ => by simp)
theorem spL_small : ∀ (l : List UInt8), (spL l).length ≤ l.length + 1 ∧ ∀ x, x ∈ spL l → x.length ≤ l.length
  | [] => by simp [spL]
  | b :: l => by
    obtain ⟨h1, h2⟩ := spL_small l
    rw [spL]
    split
    · refine ⟨by simp only [List.length_cons]; omega, fun x hx => ?_⟩
      rcases List.mem_cons.1 hx with rfl | hx
      · simp
      · have := h2 x hx; simp only [List.length_cons]; omega
    · rcases hs : spL l with _ | ⟨y, ys⟩
      · simp
      · rw [hs] at h1 h2
        refine ⟨by simp only [List.length_cons] at h1 ⊢; omega, fun x hx => ?_⟩
        rcases List.mem_cons.1 hx with rfl | hx
        · have := h2 y (List.mem_cons_self ..); simp only [List.length_cons]; omega
        · have := h2 x (List.mem_cons_of_mem _ hx); simp only [List.length_cons]; omega
theorem namesL_small (l : List UInt8) : (namesL l).length ≤ l.length + 1 ∧ ∀ x, x ∈ namesL l → x.size ≤ l.length := by
  obtain ⟨h1, h2⟩ := spL_small l
  refine ⟨by rw [namesL, List.length_map]; exact h1, fun x hx => ?_⟩
  obtain ⟨y, hy, rfl⟩ := List.mem_map.1 hx
  have := h2 y hy
  simpa [ByteArray.size] using this
/-- a slice of texts of one's own -/
def GotNs (l : List ByteArray) (w : World) (e : Ending) (w' : World) : Prop :=
  ∃ (a : Option Addr) (c : Nat), e = .returned (.slice a l.length c) ∧ Keep Any w w' ∧ SStrs w' (Mid w.heap.size w'.heap.size) (.slice a l.length c) l
theorem strs_block {w : World} {ok : Nat → Prop} {b : Nat} {T : TypeId} {l : List ByteArray} (hh : w.heap[b]? = some (.cells ((l.map Value.string).toArray) T (0, 0))) (hb : ok b) (hl : l.length ≤ 9223372036854775807) (hf : ∀ x, x ∈ l → Fits x) :
    SStrs w ok (.slice (some ⟨b, 0, none⟩) l.length l.length) l :=
  ⟨_, _, rfl, Nat.le_refl _, hl, fun _ => ⟨b, T, _, fun _ _ => False, rfl, hb, hh, fun _ _ h => h.elim, fun _ _ _ _ h => h.elim, fun j x hx =>
    ⟨[.string x], ⟨rfl, hf x (List.mem_of_getElem? hx)⟩, rfl, fun i u hu => by
      cases i with
      | zero => cases hu; simp [hx]
      | succ i => cases hu⟩⟩⟩
theorem split_calls (s : ByteArray) (w : World) (hs : s.size ≤ 1048576) (hm : ML w) : Calls Tryd.prog 22 #[.string s, .string ⟨#[32]⟩] w (GotNs (namesL s.data.toList) w) := by
  obtain ⟨m, hm⟩ := hm
  refine (Tryd.strings_Split s ⟨#[32]⟩ m w (by omega) hm (by decide)).mono fun e w' ⟨he, hw⟩ => ?_
  have hn : Lib.countB s ⟨#[32]⟩ + 1 = (namesL s.data.toList).length := by rw [← splitB_blank]; exact (Lib.splitB_all _ (by decide) 0 _ s rfl).symm
  rw [hn] at he
  rw [splitB_blank] at hw
  obtain ⟨h1, h2⟩ := namesL_small s.data.toList
  rw [← Lib.size_eq] at h1 h2
  subst hw
  exact ⟨_, _, he, (Keep.refl _ _).alloc _, strs_block (blk_new _ _) ⟨Nat.le_refl _, by simp⟩ (by omega) fun x hx => by have := h2 x hx; unfold Fits; omega⟩
end Go.Proofs.YtlmonnhgjnjniaaDoor

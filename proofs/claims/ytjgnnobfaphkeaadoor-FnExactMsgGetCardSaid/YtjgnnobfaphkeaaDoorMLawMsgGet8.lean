/- The reference's reading of a value: l1List, l1Read. For every text of at most 2^61 bytes. The reference's reading of a value: l1Read, ValueGet. For every text of at most 2^61 bytes. A value's text: the reference's l1Put. For every value that is ok. -/
import Derived.Test.YtjgnnobfaphkeaaDoorMLawMsgGet7
import Derived.Test.YtjgnnobfaphkeaaDoorMLawMsgGet2
/- The reference's reading of a value: l1List, l1Read. For every text of at most 2^61 bytes. -/
namespace Go.Proofs.YtjgnnobfaphkeaaDoor
open Go.RowKit
set_option linter.unusedVariables false
set_option linter.unusedSimpArgs false
/-- a value, and how long its text is: 0 for none -/
def GotR (o : Option (V × List UInt8)) (s : ByteArray) (w : World) (e : Ending) (w' : World) : Prop :=
  ∃ (v : V) (a : Option Addr) (c : Nat) (z : Nat), e = .returned (.tuple #[.agg #[.int .i64 v.kind, .int .i64 v.num, .string v.text, .slice a v.list.length c], .int .i64 z]) ∧ Keep Any w w' ∧ SV w' (Mid w.heap.size w'.heap.size) v [.int .i64 v.kind, .int .i64 v.num, .string v.text, .slice a v.list.length c] ∧
    ((o = none ∧ z = 0) ∨ (0 < z ∧ z ≤ s.size ∧ o = some (v, s.data.toList.drop z)))
def RdS (d : Nat) : Prop := ∀ (s : ByteArray) (w : World), s.size ≤ 2305843009213693952 → Calls Tryd.prog 87 #[.string s, .int .i64 d] w (GotR (sV d s.data.toList) s w)
theorem RdS.none' {d : Nat} (ih : RdS d) {s : ByteArray} (hs : s.size ≤ 2305843009213693952) (h : sV d s.data.toList = none) :
    ∀ w, Calls Tryd.prog 87 #[.string s, .int .i64 d] w fun e w' => ∃ (v : V) (a : Option Addr) (c : Nat), e = .returned (.tuple #[.agg #[.int .i64 v.kind, .int .i64 v.num, .string v.text, .slice a v.list.length c], .int .i64 0]) ∧ Keep Any w w' := fun w =>
  (ih s w hs).mono fun e w' ⟨v, a, c, z, he, hK, hS, hz⟩ => by
    rcases hz with ⟨_, rfl⟩ | ⟨_, _, hk⟩
    · exact ⟨v, a, c, he, hK⟩
    · rw [h] at hk; cases hk
theorem RdS.some' {d : Nat} (ih : RdS d) {s : ByteArray} (hs : s.size ≤ 2305843009213693952) {v : V} {r : List UInt8} (h : sV d s.data.toList = some (v, r)) :
    ∀ w, Calls Tryd.prog 87 #[.string s, .int .i64 d] w fun e w' => ∃ (a : Option Addr) (c z : Nat), e = .returned (.tuple #[.agg #[.int .i64 v.kind, .int .i64 v.num, .string v.text, .slice a v.list.length c], .int .i64 z]) ∧ Keep Any w w' ∧
      SV w' (Mid w.heap.size w'.heap.size) v [.int .i64 v.kind, .int .i64 v.num, .string v.text, .slice a v.list.length c] ∧ 0 < z ∧ z ≤ s.size ∧ s.data.toList.drop z = r := fun w =>
  (ih s w hs).mono fun e w' ⟨v', a, c, z, he, hK, hS, hz⟩ => by
    rcases hz with ⟨hn, _⟩ | ⟨h0, h1, hk⟩
    · rw [h] at hn; cases hn
    · rw [h] at hk
      cases hk
      exact ⟨a, c, z, he, hK, hS, h0, h1, rfl⟩
theorem sLs_nil {rd : List UInt8 → Option (V × List UInt8)} {f : Nat} {b : Bool} : sLs rd f b [] = none := by unfold sLs; simp
theorem sLs_end {rd : List UInt8 → Option (V × List UInt8)} {f : Nat} {b : Bool} {l : List UInt8} (h : l ≠ []) (h1 : l.headD 0 = 93) : sLs rd f b l = some ([], l.drop 1) := by unfold sLs; rw [if_neg h, if_pos h1]
theorem sLs_full {rd : List UInt8 → Option (V × List UInt8)} {b : Bool} {l : List UInt8} (h : l ≠ []) (h1 : ¬ l.headD 0 = 93) : sLs rd 0 b l = none := by unfold sLs; rw [if_neg h, if_neg h1]
theorem sLs_bad {rd : List UInt8 → Option (V × List UInt8)} {f : Nat} {l : List UInt8} (h : l ≠ []) (h1 : ¬ l.headD 0 = 93) (h2 : hasP [44, 32] l = false) : sLs rd f false l = none := by
  unfold sLs; rw [if_neg h, if_neg h1]
  cases f with
  | zero => rfl
  | succ f => exact if_pos ⟨rfl, h2⟩
theorem sLs_first {rd : List UInt8 → Option (V × List UInt8)} {f : Nat} {l : List UInt8} (h : l ≠ []) (h1 : ¬ l.headD 0 = 93) : sLs rd (f + 1) true l = match rd l with | none => none | some (v, r) => (sLs rd f false r).map fun p => (v :: p.1, p.2) := by
  conv => lhs; unfold sLs
  rw [if_neg h, if_neg h1]
  simp only [Bool.true_eq_false, false_and, if_false, if_true]
  cases rd l <;> rfl
theorem sLs_more {rd : List UInt8 → Option (V × List UInt8)} {f : Nat} {l : List UInt8} (h : l ≠ []) (h1 : ¬ l.headD 0 = 93) (h2 : hasP [44, 32] l = true) : sLs rd (f + 1) false l = match rd (l.drop 2) with | none => none | some (v, r) => (sLs rd f false r).map fun p => (v :: p.1, p.2) := by
  conv => lhs; unfold sLs
  rw [if_neg h, if_neg h1]
  simp only [h2, Bool.false_eq_true, Bool.true_eq_false, and_false, if_false]
  cases rd (l.drop 2) <;> rfl
theorem at_tail {s : ByteArray} {j : Nat} (h : j + 1 < s.size) : at_ (s.extract 1 s.size) j = at_ s (j + 1) := by
  have h1 : (s.extract 1 s.size).size = s.size - 1 := by rw [ByteArray.size_extract]; omega
  have h2 : j < (s.extract 1 s.size).size := by omega
  simp only [at_, h2, h, dif_pos]
  rw [ByteArray.getElem_extract]
  congr 2
  omega
theorem drop_ne {s : ByteArray} {b : Nat} (h : b < s.size) : s.data.toList.drop b ≠ [] := by rw [drop_at h]; simp
theorem head_drop {s : ByteArray} {b : Nat} (h : b < s.size) (c : UInt8) : (s.data.toList.drop b).headD 0 = c ↔ at_ s b = c.toNat := by
  rw [drop_at h, List.headD_cons, ← at_eq s b h]
  exact ⟨fun e => by rw [e], fun e => UInt8.toNat_inj.1 e⟩
/-- s[b:b+2] == ", " -/
theorem two_eq {s : ByteArray} {b : Nat} (h : b + 2 ≤ s.size) (p : List UInt8) (hp : p.length = 2) : ((s.extract b (b + 2)).data.toList = p) ↔ hasP p (s.data.toList.drop b) = true := by
  rw [Lib.extract_data, Nat.add_sub_cancel_left, List.isPrefixOf_iff_prefix, List.prefix_iff_eq_take, hp]
  exact eq_comm
theorem two_none {s : ByteArray} {b : Nat} (h : s.size < b + 2) : hasP [44, 32] (s.data.toList.drop b) = false := by
  rw [Bool.eq_false_iff]
  intro hp
  have := (List.isPrefixOf_iff_prefix.1 hp).length_le
  rw [drop_len] at this
  simp at this
  omega
theorem blk_at2 {w : World} {a b : Nat} {o : Obj} (e : a = b) (h : w.heap[a]? = some o) : w.heap[b]? = some o := e ▸ h
theorem SRow.base_le {α : Type} {sz : Nat} {R : World → (Nat → Prop) → α → List Value → Prop} {w : World} {base top : Nat} {T : TypeId} {v : Value} {l : List α} {css : List (List Value)} (h : SRow sz R w base top T v l css) : base ≤ w.heap.size := by
  obtain ⟨g, h1, h2, h3, h4, h5, h6, h7, h8, h9⟩ := h; omega
/-- A store below the row's blocks leaves it. -/
theorem rowV_set {w : World} {base top b o : Nat} {T : TypeId} {v u : Value} {l : List V} {css : List (List Value)} (h : SRow 4 SV w base top T v l css) (hb : b < base) : SRow 4 SV (w.setCell ⟨b, o, none⟩ u) base top T v l css := by
  obtain ⟨g, h1, h2, h3, h4, h5, h6, h7, h8, h9⟩ := h
  refine ⟨g, h1, h2.kept (row := some b) ⟨rfl, rfl, rfl, by simp, fun k hk hn => Below.heap_setCell w ⟨b, o, none⟩ u k (fun e => hn (by rw [e]))⟩ ?_, h3, fun j x cs hx hc => (h4 j x cs hx hc).keep ((Keep.refl _ _).set _ _ fun _ hk => by have := (h5 j b hk).1; omega), h5, h6, h7, by simpa using h8, h9⟩
  cases hv : v.ownBlock with
  | none => exact .inl rfl
  | some k => exact .inr fun e => by cases e; have := (h2.lt _ hv).1; omega
set_option maxHeartbeats 8000000 in
set_option maxRecDepth 20000 in
theorem l1List_of (d : Nat) (hd : d ≤ 4) (ih : RdS d) (s : ByteArray) (w : World) (h1 : 1 ≤ s.size) (hs : s.size ≤ 2305843009213693952) : Calls Tryd.prog 97 #[.string s, .int .i64 (d + 1 : Nat)] w (GotR ((sLs (sV d) 7 true (s.data.toList.drop 1)).map fun p => (⟨4, 0, ⟨#[]⟩, p.1⟩, p.2)) s w) := by
  have IH := Lib.hid ih
  clear ih
  obtain ⟨o, ho⟩ : ∃ o, o = sLs (sV d) 7 true (s.data.toList.drop 1) := ⟨_, rfl⟩
  rw [← ho]
  have HO := Lib.hid ho
  clear ho
  have hd1 : IntKind.i64.wrap (((d + 1 : Nat) : Int) - 1) = (d : Int) := by rw [IntWalk.i64_in _ ⟨by omega, by omega⟩]; omega
  have HD := Lib.hid hd1
  clear hd1
  obtain ⟨i0, hi, hzz⟩ := Option.map_eq_some_iff.1 infoValR
  simp only [Prod.mk.injEq] at hzz
  obtain ⟨hz0, hz1, hz2⟩ := hzz
  go_enter Tryd.func97, Tryd.ntmps97
  go_wp2
  go_loopg [7] 8 (fun g x wr => ∃ (acc : List V) (css : List (List Value)) (top b : Nat) (v : Value), 1 ≤ b ∧ b ≤ s.size ∧ acc.length ≤ 7 ∧ x = .int .i64 b ∧ g = 8 - acc.length ∧ wr.heap[w.heap.size]? = some (.cells #[.int .i64 0, .int .i64 0, .string ⟨#[]⟩, .slice none 0 0] 72 (0, 0)) ∧ wr.heap[w.heap.size + 1]? = some (.cells #[.int .i64 4, .int .i64 0, .string ⟨#[]⟩, v] 72 (0, 0)) ∧
    SRow 4 SV wr (w.heap.size + 2) top 72 v acc css ∧ Keep Any w wr ∧ o = (sLs (sV d) (7 - acc.length) acc.isEmpty (s.data.toList.drop b)).map (fun p => (acc ++ p.1, p.2)))
  case atStart => exact ⟨[], [], w.heap.size + 2, 1, .slice none 0 0, by omega, h1, by simp, rfl, rfl, blk_alloc (blk_new _ _) _, blk_at2 (by simp) (blk_new _ _), SRow.nil _ _ _ _ (Nat.le_refl _) (by simp), ((Keep.refl _ _).alloc _).alloc _, by rw [HO.out]; simp⟩
  case round =>
    obtain ⟨acc, css, top, b, v, hb1, hb, hl, rfl, hg, hz, hn, hS, hK, hr⟩ := hrel
    have HG := Lib.hid hg
    have HZ := Lib.hid hz
    have HN := Lib.hid hn
    have HS := Lib.hid hS
    have HK := Lib.hid hK
    have HR := Lib.hid hr
    obtain ⟨av, cv, rfl, hnil⟩ := hS.form
    obtain ⟨r0, r1, r2, r3⟩ := at4 hz
    have f0 := blk_frozen hz 0
    have f1 := blk_frozen hz 1
    have f2 := blk_frozen hz 2
    have f3 := blk_frozen hz 3
    obtain ⟨n0, n1, n2, n3⟩ := at4 hn
    have g3 := blk_frozen hn 3
    have z0 := blk_lt hz
    have z1 := blk_lt hn
    clear hg hz hn hS hK hr hnil
    by_cases hlt : b < s.size
    · have e1 := at_eq s b hlt
      have NE := Lib.hid (drop_ne hlt)
      by_cases h93 : at_ s b = 93
      · have q1 : (((at_ s b : Nat) : Int) != 93) = false := by rw [h93]; rfl
        have HE := Lib.hid (sLs_end (rd := sV d) (f := 7 - acc.length) (b := acc.isEmpty) (drop_ne hlt) ((head_drop hlt 93).2 h93))
        clear h93
        go_wp2
        refine bodyPost_ret (v := .tuple #[.agg #[.int .i64 4, .int .i64 0, .string ⟨#[]⟩, .slice av acc.length cv], .int .i64 ((b : Int) + 1)]) (by simp [results, Tryd.results97, go_sem, r0, r1, r2, r3, f0, f1, f2, f3, z0]) rfl ?_
        exact ⟨⟨4, 0, ⟨#[]⟩, acc⟩, av, cv, b + 1, rfl, (by have hK1 := HK.out; repeat (first | (with_reducible exact hK1) | (refine Keep.set ?_ _ _ (fun h _ => Nat.lt_irrefl _ h)))), (SV.iff.2 ⟨_, rfl, (show I64 4 from ⟨by decide, by decide⟩), (show I64 0 from ⟨by decide, by decide⟩), fits_nil, SSl.mono (SVs.keep (HS.out.slice (ok := Mid (w.heap.size + 2) wr.heap.size) fun i h1 h2 => ⟨h1, h2⟩) (w' := _) (by repeat (first | (with_reducible exact Keep.refl _ _) | (refine Keep.set ?_ _ _ (fun _ h => by have h1 := h.1; have h1 : w.heap.size + 2 ≤ w.heap.size := h1; omega))))) fun i hi => ⟨by have := hi.1; omega, by simpa using hi.2⟩⟩), .inr ⟨by omega, by omega, by rw [HR.out, HE.out, List.drop_drop]; simp⟩⟩
      · have q1 : (((at_ s b : Nat) : Int) != 93) = true := by rw [bne_iff_ne]; omega
        have H93 := Lib.hid (fun h => h93 ((head_drop hlt 93).1 h))
        clear h93
        by_cases h7 : acc.length = 7
        · have q8 : decide ((acc.length : Int) ≤ 6) = false := by rw [decide_eq_false_iff_not]; omega
          have HE := Lib.hid (show sLs (sV d) (7 - acc.length) acc.isEmpty (s.data.toList.drop b) = none by rw [h7]; exact sLs_full NE.out H93.out)
          have hl6 : (6 : Int) < (acc.length : Int) := by omega
          clear h7
          go_wp2
          refine bodyPost_ret (v := .tuple #[.agg #[.int .i64 4, .int .i64 0, .string ⟨#[]⟩, .slice av acc.length cv], .int .i64 0]) (by simp [results, Tryd.results97, go_sem, r0, r1, r2, r3, f0, f1, f2, f3, z0]) rfl ?_
          exact ⟨⟨4, 0, ⟨#[]⟩, acc⟩, av, cv, 0, rfl, (by have hK1 := HK.out; repeat (first | (with_reducible exact hK1) | (refine Keep.set ?_ _ _ (fun h _ => Nat.lt_irrefl _ h)))), (SV.iff.2 ⟨_, rfl, (show I64 4 from ⟨by decide, by decide⟩), (show I64 0 from ⟨by decide, by decide⟩), fits_nil, SSl.mono (SVs.keep (HS.out.slice (ok := Mid (w.heap.size + 2) wr.heap.size) fun i h1 h2 => ⟨h1, h2⟩) (w' := _) (by repeat (first | (with_reducible exact Keep.refl _ _) | (refine Keep.set ?_ _ _ (fun _ h => by have h1 := h.1; have h1 : w.heap.size + 2 ≤ w.heap.size := h1; omega))))) fun i hi => ⟨by have := hi.1; omega, by simpa using hi.2⟩⟩), .inl ⟨by rw [HR.out, HE.out]; rfl, rfl⟩⟩
        have hl6 : acc.length ≤ 6 := by omega
        clear h7
        by_cases he : acc.length = 0
        · have hacc : acc = [] := List.eq_nil_of_length_eq_zero he
          have hemp : acc.isEmpty = true := by rw [hacc]; rfl
          have HEM := Lib.hid hemp
          have HL0 := Lib.hid he
          have q0 : decide (0 < acc.length) = false := by rw [decide_eq_false_iff_not]; omega
          have q0' : ¬ (0 < acc.length) := by omega
          have QE := Lib.hid (sLs_first (rd := sV d) (f := 6 - acc.length) NE.out H93.out)
          clear he hacc hemp
          rcases hv : sV d (s.data.toList.drop (b)) with _ | ⟨v1, rr⟩
          · have RN := Lib.hid (IH.out.none' (s := s.extract (b) s.size) (by rw [ByteArray.size_extract]; omega) (by rw [rest_data]; exact hv))
            have HE := Lib.hid (show sLs (sV d) (7 - acc.length) acc.isEmpty (s.data.toList.drop b) = none by rw [HEM.out, show 7 - acc.length = (6 - acc.length) + 1 by omega, QE.out, hv])
            have HDo := HD.out
            clear hv
            go_wp2_with (go_at_call 87; refine (RN.out _).mono ?_; rintro e w2 ⟨v2, a2, c2, rfl, hK2⟩; have HK2 := Lib.hid hK2; clear r0 r1 r2 r3 f0 f1 f2 f3 n0 n1 n2 n3 g3 z0 z1; have HZ2 := Lib.hid (blk_keep hK2 HZ.out trivial); have HN2 := Lib.hid (blk_keep hK2 HN.out trivial); obtain ⟨r0, r1, r2, r3⟩ := at4 HZ2.out; have f0 := blk_frozen HZ2.out 0; have f1 := blk_frozen HZ2.out 1; have f2 := blk_frozen HZ2.out 2; have f3 := blk_frozen HZ2.out 3; obtain ⟨n0, n1, n2, n3⟩ := at4 HN2.out; have g3 := blk_frozen HN2.out 3; have z0 := blk_lt HZ2.out; have z1 := blk_lt HN2.out; clear hK2)
            refine bodyPost_ret (v := .tuple #[.agg #[.int .i64 4, .int .i64 0, .string ⟨#[]⟩, .slice av acc.length cv], .int .i64 0]) (by simp [results, Tryd.results97, go_sem, r0, r1, r2, r3, f0, f1, f2, f3, z0]) rfl ?_
            exact ⟨⟨4, 0, ⟨#[]⟩, acc⟩, av, cv, 0, rfl, (by have hK1 := HK.out.trans HK2.out; repeat (first | (with_reducible exact hK1) | (refine Keep.set ?_ _ _ (fun h _ => Nat.lt_irrefl _ h)) | (refine Keep.alloc ?_ _))), (SV.iff.2 ⟨_, rfl, (show I64 4 from ⟨by decide, by decide⟩), (show I64 0 from ⟨by decide, by decide⟩), fits_nil, SSl.mono (SVs.keep ((rowV_keep HS.out HK2.out).slice (ok := Mid (w.heap.size + 2) w2.heap.size) fun i h1 h2 => ⟨h1, h2⟩) (w' := _) (by repeat (first | (with_reducible exact Keep.refl _ _) | (refine Keep.set ?_ _ _ (fun _ h => by have h1 := h.1; have h1 : w.heap.size + 2 ≤ w.heap.size := h1; omega)) | (refine Keep.alloc ?_ _)))) fun i hi => ⟨by have := hi.1; omega, by have := hi.2; simp; omega⟩⟩), .inl ⟨by rw [HR.out, HE.out]; rfl, rfl⟩⟩
          · have RS := Lib.hid (IH.out.some' (s := s.extract (b) s.size) (by rw [ByteArray.size_extract]; omega) (by rw [rest_data]; exact hv))
            have HE := Lib.hid (show sLs (sV d) (7 - acc.length) acc.isEmpty (s.data.toList.drop b) = (sLs (sV d) (6 - acc.length) false rr).map (fun p => (v1 :: p.1, p.2)) by rw [HEM.out, show 7 - acc.length = (6 - acc.length) + 1 by omega, QE.out, hv])
            have HDo := HD.out
            clear hv
            go_wp2_with (first | (go_at_call 87; refine (RS.out _).mono ?_; rintro e w2 ⟨a2, c2, z, rfl, hK2, hS2, hz0', hz1', hzr⟩; have HS2 := Lib.hid hS2; have HK2 := Lib.hid hK2; have zl : b + z ≤ s.size := (by rw [ByteArray.size_extract] at hz1'; omega); have q9 : ((z : Int) == 0) = false := (by rw [beq_eq_false_iff_ne]; omega); have HZR := Lib.hid (show s.data.toList.drop (b + z) = rr by rw [← hzr, rest_data, List.drop_drop]); clear hS2 hz1' hzr; clear r0 r1 r2 r3 f0 f1 f2 f3 n0 n1 n2 n3 g3 z0 z1; have HZ2 := Lib.hid (blk_keep hK2 HZ.out trivial); have HN2 := Lib.hid (blk_keep hK2 HN.out trivial); obtain ⟨r0, r1, r2, r3⟩ := at4 HZ2.out; have f0 := blk_frozen HZ2.out 0; have f1 := blk_frozen HZ2.out 1; have f2 := blk_frozen HZ2.out 2; have f3 := blk_frozen HZ2.out 3; obtain ⟨n0, n1, n2, n3⟩ := at4 HN2.out; have g3 := blk_frozen HN2.out 3; have z0 := blk_lt HZ2.out; have z1 := blk_lt HN2.out; clear hK2) | (at_builtin; refine wpList_append_sep _ rfl _ _ 30 rfl (w.heap.size + 2) 72 i0 _ 4 56 Tryd.underlying30 hi hz0 hz1 hz2 rfl (by decide) (.slice av acc.length cv) acc.length css.flatten rfl (rowV_keep HS.out ((HK2.out.alloc _).alloc _)).own ⟨w2.heap.size + 1, 0, none⟩ 1 1 [.int .i64 v1.kind, .int .i64 v1.num, .string v1.text, .slice a2 v1.list.length c2] rfl rfl (new_cells _ _ _ (by simp)) (by simp [Value.oneCell']) (by unfold maxLen; omega) (by omega) (by have := HS.out.base_le; have := HK2.out.size; simp; omega) (by omega) ?_; intro v' w5 hown' hgrow hblk; have HS5 := Lib.hid (rowV_snoc (rowV_keep HS.out ((HK2.out.alloc _).alloc _)) hown' hgrow hblk (HS2.out.keep (((Keep.refl _ _).alloc _).alloc _)) (fun i hi => ⟨Nat.le_trans HS.out.top_le hi.1, by have := hi.2; simp; omega⟩)); have HB5 := Lib.hid (show ∀ k, (Value.slice av acc.length cv).ownBlock = some k → w.heap.size + 2 ≤ k from fun k hk => (HS.out.own.lt k hk).1); have HK5 := Lib.hid ((((HK.out.trans HK2.out).alloc _).alloc _).grown hgrow (fun i hi hlt => by have := HB5.out i hi; omega)); have HN5 := Lib.hid ((hgrow.block _ (by have := blk_lt HN.out; have := HK2.out.size; simp; omega) (fun e => by have := HB5.out _ e.symm; omega)).trans (blk_alloc (blk_alloc (blk_keep HK2.out HN.out trivial) _) _)); have HZ5 := Lib.hid ((hgrow.block _ (by have := blk_lt HZ.out; have := HK2.out.size; simp; omega) (fun e => by have := HB5.out _ e.symm; omega)).trans (blk_alloc (blk_alloc (blk_keep HK2.out HZ.out trivial) _) _)); clear hown' hgrow hblk r0 r1 r2 r3 f0 f1 f2 f3 n0 n1 n2 n3 g3 z0 z1; have n3 := (blk_cell HN5.out 3).trans rfl; have g3 := blk_frozen HN5.out 3; have z1 := blk_lt HN5.out; obtain ⟨av', cv', rfl⟩ : ∃ a c, v' = .slice a (acc.length + 1) c := (by obtain ⟨a, c, e, _⟩ := HS5.out.form; exact ⟨a, c, by rw [e, List.length_append]; rfl⟩)))
            go_roundg (gk - 1)
            case rel => exact ⟨acc ++ [v1], _, w5.heap.size, b + z, .slice av' (acc.length + 1) cv', by omega, by omega, by rw [List.length_append, List.length_singleton]; omega, by go_num, by have := HG.out; rw [List.length_append, List.length_singleton]; omega, blk_far HZ5.out _ _ (by show w.heap.size ≠ w.heap.size + 1; omega), (blk_set HN5.out 3 _).trans rfl, rowV_set HS5.out (by omega), HK5.out.set _ _ (fun h _ => by have h : w.heap.size + 1 < w.heap.size := h; omega), by rw [HR.out, HE.out, Option.map_map, HZR.out, show 7 - (acc ++ [v1]).length = 6 - acc.length by rw [List.length_append, List.length_singleton]; omega, show (acc ++ [v1]).isEmpty = false by simp]; congr 1; funext p; simp⟩
            case measure => have := HG.out; omega
        · have hemp : acc.isEmpty = false := by cases acc with | nil => exact absurd rfl he | cons x l => rfl
          have HEM := Lib.hid hemp
          have q0' : 0 < acc.length := by omega
          clear he hemp
          rcases hp : hasP [44, 32] (s.data.toList.drop b) with _ | _
          · have HE := Lib.hid (show sLs (sV d) (7 - acc.length) acc.isEmpty (s.data.toList.drop b) = none by rw [HEM.out]; exact sLs_bad NE.out H93.out hp)
            by_cases h2 : s.size < b + 2
            · clear hp
              go_wp2
              refine bodyPost_ret (v := .tuple #[.agg #[.int .i64 4, .int .i64 0, .string ⟨#[]⟩, .slice av acc.length cv], .int .i64 0]) (by simp [results, Tryd.results97, go_sem, r0, r1, r2, r3, f0, f1, f2, f3, z0]) rfl ?_
              exact ⟨⟨4, 0, ⟨#[]⟩, acc⟩, av, cv, 0, rfl, (by have hK1 := HK.out; repeat (first | (with_reducible exact hK1) | (refine Keep.set ?_ _ _ (fun h _ => Nat.lt_irrefl _ h)))), (SV.iff.2 ⟨_, rfl, (show I64 4 from ⟨by decide, by decide⟩), (show I64 0 from ⟨by decide, by decide⟩), fits_nil, SSl.mono (SVs.keep (HS.out.slice (ok := Mid (w.heap.size + 2) wr.heap.size) fun i h1 h2 => ⟨h1, h2⟩) (w' := _) (by repeat (first | (with_reducible exact Keep.refl _ _) | (refine Keep.set ?_ _ _ (fun _ h => by have h1 := h.1; have h1 : w.heap.size + 2 ≤ w.heap.size := h1; omega))))) fun i hi => ⟨by have := hi.1; omega, by simpa using hi.2⟩⟩), .inl ⟨by rw [HR.out, HE.out]; rfl, rfl⟩⟩
            · obtain ⟨tw, htw⟩ : ∃ tw, s.extract b (b + 2) = tw := ⟨_, rfl⟩
              have hne : ¬ tw.data.toList = [44, 32] := fun e => by rw [← htw, two_eq (by omega) _ rfl, hp] at e; cases e
              have b1 := str_no hne
              have b2 : (tw.toList != [44, 32]) = true := by rw [bne, b1]; rfl
              clear hp hne
              go_wp2
              refine bodyPost_ret (v := .tuple #[.agg #[.int .i64 4, .int .i64 0, .string ⟨#[]⟩, .slice av acc.length cv], .int .i64 0]) (by simp [results, Tryd.results97, go_sem, r0, r1, r2, r3, f0, f1, f2, f3, z0]) rfl ?_
              exact ⟨⟨4, 0, ⟨#[]⟩, acc⟩, av, cv, 0, rfl, (by have hK1 := HK.out; repeat (first | (with_reducible exact hK1) | (refine Keep.set ?_ _ _ (fun h _ => Nat.lt_irrefl _ h)))), (SV.iff.2 ⟨_, rfl, (show I64 4 from ⟨by decide, by decide⟩), (show I64 0 from ⟨by decide, by decide⟩), fits_nil, SSl.mono (SVs.keep (HS.out.slice (ok := Mid (w.heap.size + 2) wr.heap.size) fun i h1 h2 => ⟨h1, h2⟩) (w' := _) (by repeat (first | (with_reducible exact Keep.refl _ _) | (refine Keep.set ?_ _ _ (fun _ h => by have h1 := h.1; have h1 : w.heap.size + 2 ≤ w.heap.size := h1; omega))))) fun i hi => ⟨by have := hi.1; omega, by simpa using hi.2⟩⟩), .inl ⟨by rw [HR.out, HE.out]; rfl, rfl⟩⟩
          · have h2 := hasP_len hp hb
            have h2 : b + 2 ≤ s.size := by simpa using h2
            obtain ⟨tw, htw⟩ : ∃ tw, s.extract b (b + 2) = tw := ⟨_, rfl⟩
            have hne : tw.data.toList = [44, 32] := by rw [← htw]; exact (two_eq h2 _ rfl).2 hp
            have b1 := str_yes hne
            have b2 : (tw.toList != [44, 32]) = false := by rw [bne, b1]; rfl
            have QE := Lib.hid (sLs_more (rd := sV d) (f := 6 - acc.length) NE.out H93.out hp)
            clear hp hne
            rcases hv : sV d (s.data.toList.drop (b + 2)) with _ | ⟨v1, rr⟩
            · have RN := Lib.hid (IH.out.none' (s := s.extract (b + 2) s.size) (by rw [ByteArray.size_extract]; omega) (by rw [rest_data]; exact hv))
              have HE := Lib.hid (show sLs (sV d) (7 - acc.length) acc.isEmpty (s.data.toList.drop b) = none by rw [HEM.out, show 7 - acc.length = (6 - acc.length) + 1 by omega, QE.out, List.drop_drop, hv])
              have HDo := HD.out
              clear hv
              go_wp2_with (go_at_call 87; refine (RN.out _).mono ?_; rintro e w2 ⟨v2, a2, c2, rfl, hK2⟩; have HK2 := Lib.hid hK2; clear r0 r1 r2 r3 f0 f1 f2 f3 n0 n1 n2 n3 g3 z0 z1; have HZ2 := Lib.hid (blk_keep hK2 HZ.out trivial); have HN2 := Lib.hid (blk_keep hK2 HN.out trivial); obtain ⟨r0, r1, r2, r3⟩ := at4 HZ2.out; have f0 := blk_frozen HZ2.out 0; have f1 := blk_frozen HZ2.out 1; have f2 := blk_frozen HZ2.out 2; have f3 := blk_frozen HZ2.out 3; obtain ⟨n0, n1, n2, n3⟩ := at4 HN2.out; have g3 := blk_frozen HN2.out 3; have z0 := blk_lt HZ2.out; have z1 := blk_lt HN2.out; clear hK2)
              refine bodyPost_ret (v := .tuple #[.agg #[.int .i64 4, .int .i64 0, .string ⟨#[]⟩, .slice av acc.length cv], .int .i64 0]) (by simp [results, Tryd.results97, go_sem, r0, r1, r2, r3, f0, f1, f2, f3, z0]) rfl ?_
              exact ⟨⟨4, 0, ⟨#[]⟩, acc⟩, av, cv, 0, rfl, (by have hK1 := HK.out.trans HK2.out; repeat (first | (with_reducible exact hK1) | (refine Keep.set ?_ _ _ (fun h _ => Nat.lt_irrefl _ h)) | (refine Keep.alloc ?_ _))), (SV.iff.2 ⟨_, rfl, (show I64 4 from ⟨by decide, by decide⟩), (show I64 0 from ⟨by decide, by decide⟩), fits_nil, SSl.mono (SVs.keep ((rowV_keep HS.out HK2.out).slice (ok := Mid (w.heap.size + 2) w2.heap.size) fun i h1 h2 => ⟨h1, h2⟩) (w' := _) (by repeat (first | (with_reducible exact Keep.refl _ _) | (refine Keep.set ?_ _ _ (fun _ h => by have h1 := h.1; have h1 : w.heap.size + 2 ≤ w.heap.size := h1; omega)) | (refine Keep.alloc ?_ _)))) fun i hi => ⟨by have := hi.1; omega, by have := hi.2; simp; omega⟩⟩), .inl ⟨by rw [HR.out, HE.out]; rfl, rfl⟩⟩
            · have RS := Lib.hid (IH.out.some' (s := s.extract (b + 2) s.size) (by rw [ByteArray.size_extract]; omega) (by rw [rest_data]; exact hv))
              have HE := Lib.hid (show sLs (sV d) (7 - acc.length) acc.isEmpty (s.data.toList.drop b) = (sLs (sV d) (6 - acc.length) false rr).map (fun p => (v1 :: p.1, p.2)) by rw [HEM.out, show 7 - acc.length = (6 - acc.length) + 1 by omega, QE.out, List.drop_drop, hv])
              have HDo := HD.out
              clear hv
              go_wp2_with (first | (go_at_call 87; refine (RS.out _).mono ?_; rintro e w2 ⟨a2, c2, z, rfl, hK2, hS2, hz0', hz1', hzr⟩; have HS2 := Lib.hid hS2; have HK2 := Lib.hid hK2; have zl : b + 2 + z ≤ s.size := (by rw [ByteArray.size_extract] at hz1'; omega); have q9 : ((z : Int) == 0) = false := (by rw [beq_eq_false_iff_ne]; omega); have HZR := Lib.hid (show s.data.toList.drop (b + 2 + z) = rr by rw [← hzr, rest_data, List.drop_drop]); clear hS2 hz1' hzr; clear r0 r1 r2 r3 f0 f1 f2 f3 n0 n1 n2 n3 g3 z0 z1; have HZ2 := Lib.hid (blk_keep hK2 HZ.out trivial); have HN2 := Lib.hid (blk_keep hK2 HN.out trivial); obtain ⟨r0, r1, r2, r3⟩ := at4 HZ2.out; have f0 := blk_frozen HZ2.out 0; have f1 := blk_frozen HZ2.out 1; have f2 := blk_frozen HZ2.out 2; have f3 := blk_frozen HZ2.out 3; obtain ⟨n0, n1, n2, n3⟩ := at4 HN2.out; have g3 := blk_frozen HN2.out 3; have z0 := blk_lt HZ2.out; have z1 := blk_lt HN2.out; clear hK2) | (at_builtin; refine wpList_append_sep _ rfl _ _ 30 rfl (w.heap.size + 2) 72 i0 _ 4 56 Tryd.underlying30 hi hz0 hz1 hz2 rfl (by decide) (.slice av acc.length cv) acc.length css.flatten rfl (rowV_keep HS.out ((HK2.out.alloc _).alloc _)).own ⟨w2.heap.size + 1, 0, none⟩ 1 1 [.int .i64 v1.kind, .int .i64 v1.num, .string v1.text, .slice a2 v1.list.length c2] rfl rfl (new_cells _ _ _ (by simp)) (by simp [Value.oneCell']) (by unfold maxLen; omega) (by omega) (by have := HS.out.base_le; have := HK2.out.size; simp; omega) (by omega) ?_; intro v' w5 hown' hgrow hblk; have HS5 := Lib.hid (rowV_snoc (rowV_keep HS.out ((HK2.out.alloc _).alloc _)) hown' hgrow hblk (HS2.out.keep (((Keep.refl _ _).alloc _).alloc _)) (fun i hi => ⟨Nat.le_trans HS.out.top_le hi.1, by have := hi.2; simp; omega⟩)); have HB5 := Lib.hid (show ∀ k, (Value.slice av acc.length cv).ownBlock = some k → w.heap.size + 2 ≤ k from fun k hk => (HS.out.own.lt k hk).1); have HK5 := Lib.hid ((((HK.out.trans HK2.out).alloc _).alloc _).grown hgrow (fun i hi hlt => by have := HB5.out i hi; omega)); have HN5 := Lib.hid ((hgrow.block _ (by have := blk_lt HN.out; have := HK2.out.size; simp; omega) (fun e => by have := HB5.out _ e.symm; omega)).trans (blk_alloc (blk_alloc (blk_keep HK2.out HN.out trivial) _) _)); have HZ5 := Lib.hid ((hgrow.block _ (by have := blk_lt HZ.out; have := HK2.out.size; simp; omega) (fun e => by have := HB5.out _ e.symm; omega)).trans (blk_alloc (blk_alloc (blk_keep HK2.out HZ.out trivial) _) _)); clear hown' hgrow hblk r0 r1 r2 r3 f0 f1 f2 f3 n0 n1 n2 n3 g3 z0 z1; have n3 := (blk_cell HN5.out 3).trans rfl; have g3 := blk_frozen HN5.out 3; have z1 := blk_lt HN5.out; obtain ⟨av', cv', rfl⟩ : ∃ a c, v' = .slice a (acc.length + 1) c := (by obtain ⟨a, c, e, _⟩ := HS5.out.form; exact ⟨a, c, by rw [e, List.length_append]; rfl⟩)))
              go_roundg (gk - 1)
              case rel => exact ⟨acc ++ [v1], _, w5.heap.size, b + 2 + z, .slice av' (acc.length + 1) cv', by omega, by omega, by rw [List.length_append, List.length_singleton]; omega, by go_num, by have := HG.out; rw [List.length_append, List.length_singleton]; omega, blk_far HZ5.out _ _ (by show w.heap.size ≠ w.heap.size + 1; omega), (blk_set HN5.out 3 _).trans rfl, rowV_set HS5.out (by omega), HK5.out.set _ _ (fun h _ => by have h : w.heap.size + 1 < w.heap.size := h; omega), by rw [HR.out, HE.out, Option.map_map, HZR.out, show 7 - (acc ++ [v1]).length = 6 - acc.length by rw [List.length_append, List.length_singleton]; omega, show (acc ++ [v1]).isEmpty = false by simp]; congr 1; funext p; simp⟩
              case measure => have := HG.out; omega
    · have HE := Lib.hid (show sLs (sV d) (7 - acc.length) acc.isEmpty (s.data.toList.drop b) = none by rw [List.drop_of_length_le (by rw [← Lib.size_eq]; omega)]; exact sLs_nil)
      go_wp2
      refine bodyPost_ret (v := .tuple #[.agg #[.int .i64 4, .int .i64 0, .string ⟨#[]⟩, .slice av acc.length cv], .int .i64 0]) (by simp [results, Tryd.results97, go_sem, r0, r1, r2, r3, f0, f1, f2, f3, z0]) rfl ?_
      exact ⟨⟨4, 0, ⟨#[]⟩, acc⟩, av, cv, 0, rfl, (by have hK1 := HK.out; repeat (first | (with_reducible exact hK1) | (refine Keep.set ?_ _ _ (fun h _ => Nat.lt_irrefl _ h)))), (SV.iff.2 ⟨_, rfl, (show I64 4 from ⟨by decide, by decide⟩), (show I64 0 from ⟨by decide, by decide⟩), fits_nil, SSl.mono (SVs.keep (HS.out.slice (ok := Mid (w.heap.size + 2) wr.heap.size) fun i h1 h2 => ⟨h1, h2⟩) (w' := _) (by repeat (first | (with_reducible exact Keep.refl _ _) | (refine Keep.set ?_ _ _ (fun _ h => by have h1 := h.1; have h1 : w.heap.size + 2 ≤ w.heap.size := h1; omega))))) fun i hi => ⟨by have := hi.1; omega, by simpa using hi.2⟩⟩), .inl ⟨by rw [HR.out, HE.out]; rfl, rfl⟩⟩
end Go.Proofs.YtjgnnobfaphkeaaDoor

/- The reference's reading of a value: l1Read, ValueGet. For every text of at most 2^61 bytes. -/
namespace Go.Proofs.YtjgnnobfaphkeaaDoor
open Go.RowKit
set_option linter.unusedVariables false
set_option linter.unusedSimpArgs false
theorem cutTail_hit {s : ByteArray} {c : UInt8} {k : Nat} (h1 : 1 ≤ k) (hk : k < s.size) (h0 : at_ s k = c.toNat) (h : ∀ j, 1 ≤ j → j < k → at_ s j ≠ c.toNat) : cutAt c (s.data.toList.drop 1) = some ((s.data.toList.drop 1).take (k - 1), s.data.toList.drop (k + 1)) := by
  have hz : (s.extract 1 s.size).size = s.size - 1 := by rw [ByteArray.size_extract]; omega
  have := cutAt_hit (s := s.extract 1 s.size) (c := c) (k := k - 1) (by omega) (by rw [at_tail (by omega), show k - 1 + 1 = k by omega]; exact h0) (fun j hj => by rw [at_tail (by omega)]; exact h (j + 1) (by omega) (by omega))
  rw [tail_data, List.drop_drop, show 1 + (k - 1 + 1) = k + 1 by omega] at this
  exact this
theorem cutTail_miss {s : ByteArray} {c : UInt8} (h : ∀ j, 1 ≤ j → j < s.size → at_ s j ≠ c.toNat) : cutAt c (s.data.toList.drop 1) = none := by
  rw [← tail_data]
  exact cutAt_miss fun j hj => by rw [ByteArray.size_extract] at hj; rw [at_tail (by omega)]; exact h (j + 1) (by omega) (by omega)
theorem mid_eq (s : ByteArray) (k : Nat) (h : 1 ≤ k) : s.extract 1 k = ⟨((s.data.toList.drop 1).take (k - 1)).toArray⟩ := by
  apply ByteArray.ext; apply Array.ext'
  rw [Lib.extract_data]
theorem plainAt_le : ∀ l : List UInt8, plainAt l ≤ l.length
  | [] => Nat.le_refl _
  | b :: l => by
    have := plainAt_le l
    rw [plainAt]
    split
    · simp
    · simp only [List.length_cons]; omega
set_option maxHeartbeats 4000000 in
set_option maxRecDepth 20000 in
theorem l1Read_of (d : Nat) (hd4 : d ≤ 4) (ih : RdS d) : RdS (d + 1) := by
  intro s w hs
  obtain ⟨o, ho⟩ : ∃ o, o = sV (d + 1) s.data.toList := ⟨_, rfl⟩
  rw [← ho]
  by_cases h0 : s.size = 0
  · have hd := empty_true s h0
    have e0 : s.data.toList = [] := List.eq_nil_of_length_eq_zero (by rw [← Lib.size_eq]; exact h0)
    rw [sV, if_pos e0] at ho
    have HO := Lib.hid ho
    clear ho e0 h0
    go_enter Tryd.func87, Tryd.ntmps87
    go_wp2
    refine bodyPost_ret (v := .tuple #[.agg #[.int .i64 0, .int .i64 0, .string ⟨#[]⟩, .slice none 0 0], .int .i64 0]) (by simp [results, Tryd.results87, go_sem]) rfl ?_
    exact ⟨⟨0, 0, ⟨#[]⟩, []⟩, none, 0, 0, rfl, (Keep.refl _ _).alloc _, SV_flat _ _ _ _ _ (show I64 0 from ⟨by decide, by decide⟩) (show I64 0 from ⟨by decide, by decide⟩) fits_nil, .inl ⟨HO.out, rfl⟩⟩
  have hd := empty_false s h0
  have q1 : 0 < s.size := by omega
  have e1 := at_eq s 0 q1
  have e0 : ¬ s.data.toList = [] := fun h => h0 (by rw [Lib.size_eq, h]; rfl)
  rw [sV, if_neg e0] at ho
  clear e0
  by_cases c4 : s.data.toList.headD 0 = 39
  · rw [if_pos c4] at ho
    have b4 := head_yes q1 (n := 39) rfl c4
    have HO := Lib.hid ho
    clear ho c4
    go_enter Tryd.func87, Tryd.ntmps87
    go_wp2
    go_loop [6] (fun i => ∃ k : Nat, 1 ≤ k ∧ k ≤ s.size ∧ i = .int .i64 k ∧ ∀ j, 1 ≤ j → j < k → at_ s j ≠ (39 : UInt8).toNat) (fun i => s.size - (intOf i).toNat)
    case atStart => exact ⟨1, by omega, by omega, rfl, fun j hj => by omega⟩
    case round =>
      obtain ⟨k, hk1, hk, rfl, hg⟩ := hrel
      have HG := Lib.hid hg
      clear hg
      by_cases hlt : k < s.size
      · have e2 := at_eq s k hlt
        by_cases hc : at_ s k = 39
        · have q2 : (((at_ s k : Nat) : Int) == 39) = true := by rw [hc]; rfl
          have HC := Lib.hid (cutTail_hit (c := 39) hk1 hlt hc HG.out)
          have HM := Lib.hid (mid_eq s k hk1)
          clear hc
          go_wp2
          refine bodyPost_ret (v := .tuple #[.agg #[.int .i64 3, .int .i64 0, .string (s.extract 1 k), .slice none 0 0], .int .i64 ((k : Int) + 1)]) (by simp [results, Tryd.results87, go_sem]) rfl ?_
          exact ⟨⟨3, 0, s.extract 1 k, []⟩, none, 0, k + 1, rfl, (Keep.refl _ _).alloc _, SV_flat _ _ _ _ _ (show I64 3 from ⟨by decide, by decide⟩) (show I64 0 from ⟨by decide, by decide⟩) (by unfold Fits; rw [ByteArray.size_extract]; omega), .inr ⟨by omega, by omega, by rw [HO.out, HC.out, HM.out]; rfl⟩⟩
        · have q2 : (((at_ s k : Nat) : Int) == 39) = false := by rw [beq_eq_false_iff_ne]; omega
          have HC := Lib.hid hc
          clear hc
          go_wp2
          go_round
          case rel => exact ⟨k + 1, by omega, by omega, by go_num, fun j h1 hj => by rcases Nat.lt_succ_iff_lt_or_eq.1 hj with hj | rfl; exact HG.out j h1 hj; exact HC.out⟩
          case measure => simp [intOf]; omega
      · have HC := Lib.hid (cutTail_miss (s := s) (c := 39) fun j h1 hj => HG.out j h1 (by omega))
        go_wp2
        refine bodyPost_ret (v := .tuple #[.agg #[.int .i64 0, .int .i64 0, .string ⟨#[]⟩, .slice none 0 0], .int .i64 0]) (by simp [results, Tryd.results87, go_sem]) rfl ?_
        exact ⟨⟨0, 0, ⟨#[]⟩, []⟩, none, 0, 0, rfl, (Keep.refl _ _).alloc _, SV_flat _ _ _ _ _ (show I64 0 from ⟨by decide, by decide⟩) (show I64 0 from ⟨by decide, by decide⟩) fits_nil, .inl ⟨by rw [HO.out, HC.out]; rfl, rfl⟩⟩
  rw [if_neg c4] at ho
  have b4 := head_not q1 (n := 39) rfl c4
  clear c4
  by_cases c5 : s.data.toList.headD 0 = 91
  · rw [if_pos c5] at ho
    have b5 := head_yes q1 (n := 91) rfl c5
    have LL := Lib.hid (fun w => l1List_of d hd4 ih s w (by omega) hs)
    have HO := Lib.hid ho
    clear ho c5
    go_enter Tryd.func87, Tryd.ntmps87
    go_wp2_with (go_at_call 97; refine (LL.out _).mono ?_; rintro e w2 ⟨v2, a2, c2, z2, rfl, hK, hS2, hz2⟩; have HS2 := Lib.hid hS2; have HZ2 := Lib.hid hz2; clear hS2 hz2; obtain ⟨hc, hf⟩ := hK.cells; have z0 : w.heap.size < w2.heap.size := (by have := hK.size; simp at this; omega))
    refine bodyPost_ret (v := .tuple #[.agg #[.int .i64 v2.kind, .int .i64 v2.num, .string v2.text, (.slice a2 v2.list.length c2)], .int .i64 z2]) (by simp [results, Tryd.results87, go_sem, hc, hf, z0]) rfl ?_
    refine ⟨v2, a2, c2, z2, rfl, (by have hK1 := keep_a hK; repeat (first | (with_reducible exact hK1) | (refine Keep.set ?_ _ _ (fun h _ => Nat.lt_irrefl _ h)))), ?_, by rw [HO.out]; exact HZ2.out⟩
    refine SV.mono (SV.keep HS2.out (w' := _) ?_) fun k hk => ⟨by have h1 := hk.1; rw [World.size_alloc] at h1; omega, by simpa using hk.2⟩
    repeat (first | (with_reducible exact Keep.refl _ _) | (refine Keep.set ?_ _ _ (fun _ h => by have h1 := h.1; rw [World.size_alloc] at h1; exact Nat.not_succ_le_self _ h1)))
  rw [if_neg c5] at ho
  have b5 := head_not q1 (n := 91) rfl c5
  clear c5
  obtain ⟨n, hn⟩ : ∃ n, n = plainAt s.data.toList := ⟨_, rfl⟩
  have PL := Lib.hid (fun w => l1Plain_calls s w hs)
  rw [← hn] at ho
  have hns : n ≤ s.size := by rw [hn, Lib.size_eq]; exact plainAt_le _
  have HN := Lib.hid hn
  clear hn
  have AT := Lib.hid (fun w => l1Atom_calls (s.extract 0 n) w (by rw [ByteArray.size_extract]; omega))
  have HT := Lib.hid (show (s.extract 0 n).data.toList = s.data.toList.take n by rw [take_eq])
  have HO := Lib.hid ho
  clear ho
  go_enter Tryd.func87, Tryd.ntmps87
  go_wp2_with (first | (go_at_call 98; refine (PL.out _).mono ?_; rintro e w' ⟨rfl, rfl⟩; rw [← HN.out]) | (go_at_call 99; refine (AT.out _).mono ?_; rintro e w2 ⟨kk, nn, hv, hi1, hi2, rfl, hK⟩; have HV := Lib.hid hv; obtain ⟨hc, hf⟩ := hK.cells; have z0 : w.heap.size < w2.heap.size := (by have := hK.size; simp at this; omega); have HI1 := Lib.hid hi1; have HI2 := Lib.hid hi2; clear hv hi1 hi2))
  refine bodyPost_ret (v := .tuple #[.agg #[.int .i64 kk, .int .i64 nn, .string ⟨#[]⟩, .slice none 0 0], .int .i64 n]) (by simp [results, Tryd.results87, go_sem, hc, hf, z0]) rfl ?_
  refine ⟨⟨kk, nn, ⟨#[]⟩, []⟩, none, 0, n, rfl, (by have hK1 := keep_a hK; repeat (first | (with_reducible exact hK1) | (refine Keep.set ?_ _ _ (fun h _ => Nat.lt_irrefl _ h)) | (refine Keep.alloc ?_ _))), SV_flat _ _ _ _ _ HI1.out HI2.out fits_nil, ?_⟩
  have hh := HO.out
  by_cases hn0 : n = 0
  · rw [if_pos hn0] at hh; exact .inl ⟨hh, hn0⟩
  · rw [if_neg hn0] at hh; exact .inr ⟨by omega, hns, by rw [hh, ← HT.out, HV.out]⟩
theorem rdS_zero : RdS 0 := by
  intro s w hs
  go_enter Tryd.func87, Tryd.ntmps87
  go_wp2
  refine bodyPost_ret (v := .tuple #[.agg #[.int .i64 0, .int .i64 0, .string ⟨#[]⟩, .slice none 0 0], .int .i64 0]) (by simp [results, Tryd.results87, go_sem]) rfl ?_
  exact ⟨⟨0, 0, ⟨#[]⟩, []⟩, none, 0, 0, rfl, (Keep.refl _ _).alloc _, SV_flat _ _ _ _ _ (show I64 0 from ⟨by decide, by decide⟩) (show I64 0 from ⟨by decide, by decide⟩) fits_nil, .inl ⟨rfl, rfl⟩⟩
theorem rdS_all (d : Nat) : d ≤ 5 → RdS d := by
  induction d with
  | zero => intro _; exact rdS_zero
  | succ d ih => intro h; exact l1Read_of d (by omega) (ih (by omega))
theorem read3 : RdS 3 := rdS_all 3 (by omega)
end Go.Proofs.YtjgnnobfaphkeaaDoor

/- A value's text: the reference's l1Put. For every value that is ok. -/
namespace Go.Proofs.YtjgnnobfaphkeaaDoor
open Go.RowKit
set_option linter.unusedVariables false
set_option linter.unusedSimpArgs false
def L1Put (d : Nat) : Prop := ∀ (v : V) (cs : List Value) (w : World), VR w Any v cs → okV d v = true → Calls Tryd.prog 57 #[.agg cs.toArray] w (Str v.put w)
theorem slit_app (a : UInt8) (l : List UInt8) : (⟨#[a]⟩ : ByteArray) ++ ⟨l.toArray⟩ = ⟨(a :: l).toArray⟩ := by
  apply ByteArray.ext
  simp [ByteArray.data_append]
theorem squo_app (t : ByteArray) : (⟨#[39]⟩ : ByteArray) ++ t ++ ⟨#[39]⟩ = ⟨(39 :: (t.data.toList ++ [39])).toArray⟩ := by
  apply ByteArray.ext
  simp [ByteArray.data_append]
theorem outV_step0 {l : List V} {x : V} (h : l[0]? = some x) : (⟨(outV l 0).toArray⟩ : ByteArray) ++ ⟨x.put.toArray⟩ = ⟨(outV l 1).toArray⟩ := by
  rw [outV_succ h]; simp [outV, Lib.join_nil]; exact slit_app _ _
theorem outV_step {l : List V} {k : Nat} {x : V} (h : l[k]? = some x) (hk : 0 < k) : (⟨(outV l k).toArray⟩ : ByteArray) ++ ⟨#[44, 32]⟩ ++ ⟨x.put.toArray⟩ = ⟨(outV l (k + 1)).toArray⟩ := by
  rw [outV_succ h, if_neg (by omega), ← bytes_app, ← bytes_app]
theorem outV_end (l : List V) : (⟨(outV l l.length).toArray⟩ : ByteArray) ++ ⟨#[93]⟩ = ⟨(rowTxt l).toArray⟩ := by
  rw [← outV_all, ← bytes_app]
set_option maxRecDepth 20000 in
theorem l1Put_list (d : Nat) (hd : d ≤ 3) (ih : L1Put d) (num : Int) (text : ByteArray) (list : List V) (s : Value) (w : World) (hs : Vals w Any s list) (hl : list.length ≤ 6) (hok : ∀ x, x ∈ list → okV d x = true) :
    Calls Tryd.prog 57 #[.agg #[.int .i64 4, .int .i64 num, .string text, s]] w (Str (rowTxt list) w) := by
  have HS := Lib.hid hs
  have HOK := Lib.hid hok
  have IH := Lib.hid ih
  clear ih hok
  obtain ⟨ad, c, rfl, hc, hm, _⟩ := hs
  have hz : (⟨#[91]⟩ : ByteArray) = ⟨(outV list 0).toArray⟩ := by simp [outV, Lib.join_nil]
  go_enter Tryd.func57, Tryd.ntmps57
  go_wp2
  go_loopg [3, 4] (list.length + 1) (fun g o i wr => ∃ k : Nat, k ≤ list.length ∧ o = .string ⟨(outV list k).toArray⟩ ∧ i = .int .i64 k ∧ g = list.length + 1 - k ∧ wr.heap[w.heap.size]? = some (.cells #[.int .i64 4, .int .i64 num, .string text, .slice ad list.length c] 72 (0, 0)) ∧ Keep Any w wr)
  case atStart => exact ⟨0, by omega, by rw [← hz], rfl, rfl, blk_new _ _, (Keep.refl _ _).alloc _⟩
  case round =>
    obtain ⟨k, hk, rfl, rfl, hg, hB, hK⟩ := hrel
    have HG := Lib.hid hg
    have x3 := blk_cell hB 3
    simp only [List.getElem?_toArray, List.getElem?_cons_succ, List.getElem?_cons_zero] at x3
    have HB := Lib.hid hB
    have hlen := outV_len (k := k) (b := 1000000) (l := list) (fun x hx => put_len3 (HOK.out x hx) hd) hl
    have hlen : (outV list k).length ≤ 10000000 := by omega
    clear hg hz hB
    by_cases hlt : k < list.length
    · have hx : list[k]? = some list[k] := List.getElem?_eq_getElem hlt
      have HX := Lib.hid hx
      obtain ⟨ad, sa, sc, rfl, hvx, c0, c1, c2, c3⟩ := vals_at HS.out hK hx
      have hpl : list[k].put.length ≤ 1000000 := put_len3 (HOK.out _ (List.mem_of_getElem? hx)) hd
      generalize list[k] = x at *
      have HV := Lib.hid hvx
      have HO := Lib.hid (HOK.out x (List.mem_of_getElem? HX.out))
      clear hx hvx
      by_cases h0 : k = 0
      · have H0 := Lib.hid h0
        have h0' : ¬ 0 < k := by omega
        clear h0
        go_wp2_with (go_at_call 57; refine (IH.out _ _ _ HV.out HO.out).mono ?_; rintro e w2 ⟨rfl, hK2⟩)
        go_roundg (gk - 1)
        case rel => exact ⟨k + 1, by omega, by have hx := HX.out; obtain rfl : k = 0 := H0.out; exact congrArg Value.string (outV_step0 hx), by go_num, by have := HG.out; omega, blk_keep hK2 HB.out trivial, hK.trans hK2⟩
        case measure => have := HG.out; omega
      · have hp : 0 < k := by omega
        go_wp2_with (go_at_call 57; refine (IH.out _ _ _ HV.out HO.out).mono ?_; rintro e w2 ⟨rfl, hK2⟩)
        go_roundg (gk - 1)
        case rel => exact ⟨k + 1, by omega, congrArg Value.string (outV_step HX.out hp), by go_num, by have := HG.out; omega, blk_keep hK2 HB.out trivial, hK.trans hK2⟩
        case measure => have := HG.out; omega
    · obtain rfl : k = list.length := by omega
      go_wp2
      go_ret
      exact ⟨congrArg (fun s => Ending.returned (.string s)) (outV_end _), hK⟩
set_option maxRecDepth 20000 in
theorem l1Put_of (d : Nat) (hd : d + 1 ≤ 3) (ih : L1Put d) : L1Put (d + 1) := by
  intro v cs w hv hok
  obtain ⟨kind, num, text, list⟩ := v
  obtain ⟨s, rfl, h1, h2, h3, hs⟩ := VR.iff.1 hv
  by_cases e4 : kind = 4
  · subst e4
    obtain ⟨hl, ha⟩ := okV_list hok
    rw [put_list]
    exact l1Put_list d (by omega) ih num text list s w hs hl ha
  · obtain ⟨n0, n1⟩ := okV_num hok
    have n0 : -1000000000 ≤ num := n0
    have n1 : num ≤ 1000000000 := n1
    have hlen := itoa_len2 num n0 n1
    have IT := Lib.hid fun w => l1Dec_calls num w (by omega) (by omega)
    have htx := okV_text hok
    have htx : kind = 3 → text.size ≤ 16 := htx
    clear hs ih hv hok
    by_cases e1 : kind = 1
    · subst e1
      by_cases hn : num = 1
      · subst hn
        go_enter Tryd.func57, Tryd.ntmps57
        go_wp2
        go_ret
        exact ⟨by simp [V.put], (Keep.refl _ _).alloc _⟩
      · go_enter Tryd.func57, Tryd.ntmps57
        go_wp2
        go_ret
        exact ⟨by simp [V.put, hn], (Keep.refl _ _).alloc _⟩
    · by_cases e3 : kind = 3
      · have hq := htx e3
        subst e3
        go_enter Tryd.func57, Tryd.ntmps57
        go_wp2
        go_ret
        exact ⟨by rw [V.put]; exact congrArg (fun s => Ending.returned (.string s)) (squo_app _), (Keep.refl _ _).alloc _⟩
      · clear htx
        by_cases e2 : kind = 2
        · subst e2
          go_enter Tryd.func57, Tryd.ntmps57
          go_wp2_with (go_at_call 23; refine (IT.out _).mono ?_; rintro e w2 ⟨rfl, hK2⟩)
          go_ret
          exact ⟨by rw [V.put]; rfl, ((Keep.refl _ _).alloc _).trans hK2⟩
        · by_cases e5 : kind = 5
          · subst e5
            go_enter Tryd.func57, Tryd.ntmps57
            go_wp2_with (go_at_call 23; refine (IT.out _).mono ?_; rintro e w2 ⟨rfl, hK2⟩)
            go_ret
            exact ⟨by rw [V.put]; exact congrArg (fun s => Ending.returned (.string s)) (slit_app _ _), ((Keep.refl _ _).alloc _).trans hK2⟩
          · by_cases e6 : kind = 6
            · subst e6
              go_enter Tryd.func57, Tryd.ntmps57
              go_wp2_with (go_at_call 23; refine (IT.out _).mono ?_; rintro e w2 ⟨rfl, hK2⟩)
              go_ret
              exact ⟨by rw [V.put]; exact congrArg (fun s => Ending.returned (.string s)) (slit_app _ _), ((Keep.refl _ _).alloc _).trans hK2⟩
            · go_enter Tryd.func57, Tryd.ntmps57
              go_wp2
              go_ret
              exact ⟨by rw [V.put, if_neg e1, if_neg e2, if_neg e3, if_neg e4, if_neg e5, if_neg e6]; rfl, (Keep.refl _ _).alloc _⟩
theorem l1Put_all : ∀ d, d ≤ 3 → L1Put d
  | 0, _ => fun v cs w _ h => by simp [okV] at h
  | d + 1, h => l1Put_of d h (l1Put_all d (by omega))
theorem l1Put_calls : L1Put 3 := l1Put_all 3 (by omega)
end Go.Proofs.YtjgnnobfaphkeaaDoor

/- ServerNew of the program. ServerNew of the reference. -/
import Derived.Test.YtlmonnhgjnjniaaMLawServerNew4
import Derived.Deep.RegionLaw
/- ServerNew of the program. -/
namespace Go.Proofs.Ytlmonnhgjnjniaa
open Go.RowKit
set_option linter.unusedVariables false
set_option linter.unusedSimpArgs false
def NamesGood (l : List ByteArray) : Prop := Good (fun t => nameOk t = true) l l.length
def ServerGood (names : List ByteArray) (rules : List Ru) (n : Int) : Prop := 1 ≤ names.length ∧ names.length ≤ 3 ∧ NamesGood names ∧ 1 ≤ n ∧ n ≤ 3 ∧ RulesGood rules
/-- a server that begins: homes with the rules, links to which nobody talked; or nothing -/
def ServerR (names : List ByteArray) (rules : List Ru) (n : Int) (w : World) (e : Ending) (w' : World) : Prop :=
  ∃ (b : Bool) (hs ls : Value) (m : Nat), (b = true ↔ ServerGood names rules n) ∧ e = .returned (.tuple #[.agg #[hs, ls], .bool b]) ∧ SHos w' (Mid' w.heap.size m) hs (if b then names.map (·, rules) else []) ∧
    SLks w' (Mid' m w'.heap.size) ls (if b then List.replicate n.toNat () else []) ∧ (w.heap.size ≤ m ∧ m ≤ w'.heap.size) ∧ Keep Any w w'
theorem ServerR.no {names : List ByteArray} {rules : List Ru} {n : Int} {w w' : World} (h : ¬ ServerGood names rules n) (k : Keep Any w w') : ServerR names rules n w (.returned (.tuple #[.agg #[.slice none 0 0, .slice none 0 0], .bool false])) w' :=
  ⟨false, _, _, w'.heap.size, by simp [h], rfl, SSl.nil, SSl.nil, ⟨k.size, Nat.le_refl _⟩, k⟩
theorem SSl.keep' {w w' : World} {ok : Nat → Prop} {v : Value} {l : List Hm} (h : SHos w ok v l) (k : Keep Any w w') : SHos w' ok v l := SSl.keep h (fun _ _ _ _ h k => SHo.keep h k) k.any
theorem at2' {w : World} {g : Nat} {T : TypeId} {a b : Value} (h : w.heap[g]? = some (.cells #[a, b] T (0, 0))) : w.cell? ⟨g, 0, none⟩ = some a ∧ w.cell? ⟨g, 1, none⟩ = some b := ⟨(blk_cell h 0).trans rfl, (blk_cell h 1).trans rfl⟩
set_option maxHeartbeats 8000000 in
set_option maxRecDepth 20000 in
theorem serverNew_calls (names : List ByteArray) (v : Value) (rules : List Ru) (rs : Value) (n : Int) (hn : I64 n) (w : World) (hs : Strs w Any v names) (hr : Rus w Any rs rules) (hl : rules.length ≤ 1048576) :
    Calls Try.prog 9 #[v, rs, .int .i64 n] w (ServerR names rules n w) := by
  have HS := Lib.hid hs
  have NA := Lib.hid (fun w' (k : Keep Any w w') => namesAlone_calls names v w' (Strs.keep hs k))
  have SN := Lib.hid (fun w' (k : Keep Any w w') => storeNew_calls rules rs w' (Rus.keep hr k) hl)
  have LN := Lib.hid (fun w' => (show Calls Try.prog 27 #[] w' (fun e w'' => e = .returned (.agg #[.int .i64 0, .int .i64 (-1), .slice none 0 0, .slice none 0 0, .int .i64 0, .int .i64 (-1), .string ⟨#[]⟩]) ∧ Keep Any w' w'') from linkNew_calls w'))
  obtain ⟨a, c, rfl, hc, hm, _⟩ := hs
  obtain ⟨ra, rc, rfl, _, _, _⟩ := hr
  go_enter Try.func9, Try.ntmps9
  go_upto_region 1 with fail
  go_cut [33] from 13 to 33 (fun x wc => ∃ b : Bool, x = .bool b ∧ (b = false ↔ (1 ≤ names.length ∧ names.length ≤ 3 ∧ NamesGood names ∧ 1 ≤ n ∧ n ≤ 3)) ∧ Keep Any (w.alloc (.cells #[.slice none 0 0, .slice none 0 0] 29 (0, 0))) wc)
  case first =>
    have K1 := Lib.hid ((Keep.refl Any w).alloc (.cells #[.slice none 0 0, .slice none 0 0] 29 (0, 0)))
    by_cases h1 : (names.length : Int) < 1
    · go_wp2
      go_meet
      exact ⟨true, rfl, by simp; omega, Keep.refl _ _⟩
    by_cases h2 : (3 : Int) < (names.length : Int)
    · go_wp2
      go_meet
      exact ⟨true, rfl, by simp; omega, Keep.refl _ _⟩
    go_wp2_with fail
    refine (NA.out _ K1.out).mono ?_
    rintro e w2 ⟨b, rfl, hb, hK⟩
    have HB := Lib.hid hb
    have K2 := Lib.hid hK
    clear hb hK
    cases b
    · go_wp2
      go_meet
      exact ⟨true, rfl, by have h := HB.out; simp only [NamesGood]; simp at h; simp [h], K2.out⟩
    by_cases h3 : n < 1
    · go_wp2
      go_meet
      exact ⟨true, rfl, by simp; omega, K2.out⟩
    by_cases h4 : 3 < n
    · go_wp2
      go_meet
      exact ⟨true, rfl, by simp; omega, K2.out⟩
    go_wp2
    go_meet
    exact ⟨false, by simp [h3, h4], by have h := HB.out; simp only [true_iff] at h; exact ⟨fun _ => ⟨by omega, by omega, h, by omega, by omega⟩, fun _ => rfl⟩, K2.out⟩
  case rest =>
    obtain ⟨b, rfl, hb, hK⟩ := hcut
    have HB := Lib.hid hb
    have K1 := Lib.hid (((Keep.refl Any w).alloc _).trans hK)
    have B1 := Lib.hid (blk_keep hK (blk_new _ _) trivial)
    clear hb hK
    obtain ⟨r0, r1⟩ := at2' B1.out
    have f0 := blk_frozen B1.out 0
    have f1 := blk_frozen B1.out 1
    have zr := blk_lt B1.out
    cases b
    case true =>
      go_wp2
      refine bodyPost_ret (v := .tuple #[.agg #[.slice none 0 0, .slice none 0 0], .bool false]) (by simp [results, Try.results9, go_sem, r0, r1, f0, f1, zr]) rfl (ServerR.no (fun h => by have hb := HB.out; obtain ⟨g1, g2, g3, g4, g5, g6⟩ := h; simp at hb; exact absurd g5 (by have := hb g1 g2 g3 g4; omega)) ?_)
      have hz := Nat.le_refl w.heap.size
      repeat (first | (with_reducible exact K1.out) | (with_reducible refine kset_b' hz ?_))
    case false =>
      have HG := Lib.hid (HB.out.1 rfl)
      have ZZ := Lib.hid (show w.heap.size < wc.heap.size from zr)
      clear r0 r1 f0 f1 zr
      obtain ⟨i0, hi, hzz⟩ := Option.map_eq_some_iff.1 infoHo
      simp only [Prod.mk.injEq] at hzz
      obtain ⟨hz0, hz1, hz2⟩ := hzz
      go_wp2
      go_loopg [37] (names.length + 1) (fun g i wr => ∃ (k top : Nat) (hv : Value) (css : List (List Value)), k ≤ names.length ∧ i = .int .i64 k ∧ g = names.length + 1 - k ∧ wr.heap[w.heap.size]? = some (.cells #[.slice none 0 0, .slice none 0 0] 29 (0, 0)) ∧ wr.heap[wc.heap.size]? = some (.cells #[hv, .slice none 0 0] 29 (0, 0)) ∧ SRow 10 SHo wr (wc.heap.size + 1) top 58 hv ((names.take k).map (·, rules)) css ∧ (0 < k → RulesGood rules) ∧ Keep Any w wr)
      case atStart => exact ⟨0, wc.heap.size + 1, _, [], by omega, rfl, rfl, blk_alloc B1.out _, blk_new _ _, SRow.nil _ _ _ _ (Nat.le_refl _) (by simp), fun h => absurd h (by omega), K1.out.alloc _⟩
      case round =>
        obtain ⟨k, top, hv, css, hk, rfl, hg, hZ, hN, hR, hGo, hK⟩ := hrel
        have HGK := Lib.hid hg
        have HZ := Lib.hid hZ
        have HN := Lib.hid hN
        have HR := Lib.hid hR
        have HGo := Lib.hid hGo
        have HK := Lib.hid hK
        clear hg hZ hN hR hGo hK
        have HLE := Lib.hid (show ((names.take k).map fun x => ((x, rules) : Hm)).length = k by rw [List.length_map, List.length_take]; omega)
        obtain ⟨ah, ch, hv', _⟩ := HR.out.form'
        rw [HLE.out] at hv'
        subst hv'
        by_cases hlt : k < names.length
        · have hx : names[k]? = some names[k] := List.getElem?_eq_getElem hlt
          have HTK := Lib.hid (show (names.take (k + 1)).map (fun x => ((x, rules) : Hm)) = (names.take k).map (fun x => ((x, rules) : Hm)) ++ [(names[k], rules)] by rw [List.take_add_one, List.map_append, hx]; rfl)
          obtain ⟨ad, rfl, hf, c0⟩ := strs_at HS.out HK.out hx
          have HF := Lib.hid hf
          generalize names[k] = x at *
          clear hx hf
          have k0 : (0 : Int) ≤ (k : Int) := by omega
          have k1 : (k : Int) < (names.length : Int) := by omega
          have kc : (k : Int) ≤ (c : Int) := by omega
          go_wp2_with fail
          refine (SN.out _ HK.out).mono ?_
          rintro e w3 ⟨b, rs3, hb, rfl, hS, hK⟩
          have HB3 := Lib.hid hb
          have S3 := Lib.hid hS
          have K3 := Lib.hid (HK.out.trans hK)
          have N3 := Lib.hid (blk_keep hK HN.out trivial)
          have B3 := Lib.hid (blk_keep hK HZ.out trivial)
          have R3 := Lib.hid (SRow.keep (R := SHo) (fun h k => SHo.keep h k) HR.out hK)
          have Z3 := Lib.hid hK.size
          clear hb hS hK
          cases b
          · obtain ⟨a3, c3, rfl⟩ : ∃ a' c', rs3 = .slice a' 0 c' := by obtain ⟨a', c', e, _⟩ := S3.out; exact ⟨a', c', e⟩
            obtain ⟨r0, r1⟩ := at2' B3.out
            have f0 := blk_frozen B3.out 0
            have f1 := blk_frozen B3.out 1
            have zr := blk_lt B3.out
            go_wp2
            (try simp only [Exit.inBlock, Exit.then])
            refine bodyPost_ret (v := .tuple #[.agg #[.slice none 0 0, .slice none 0 0], .bool false]) (by simp [results, Try.results9, go_sem, r0, r1, f0, f1, zr]) rfl (ServerR.no (fun h => by have hb := HB3.out; simp at hb; exact hb h.2.2.2.2.2) ?_)
            have hz := Nat.le_refl w.heap.size
            repeat (first | (with_reducible exact K3.out) | (with_reducible refine Keep.alloc ?_ _) | (with_reducible refine kset_b' hz ?_))
          · obtain ⟨a3, c3, rfl⟩ : ∃ a' c', rs3 = .slice a' rules.length c' := by obtain ⟨a', c', e, _⟩ := S3.out; exact ⟨a', c', e⟩
            obtain ⟨n0, n1⟩ := at2' N3.out
            have fn0 := blk_frozen N3.out 0
            have zn := blk_lt N3.out
            have R3' := Lib.hid (SRow.keep (R := SHo) (fun h k => SHo.keep h k) R3.out (((Keep.refl Any w3).alloc (.cells #[.slice none 0 0, .slice none 0 0, .int .i64 0, .int .i64 0, .slice a3 rules.length c3, .int .i64 0, .slice none 0 0, .slice none 0 0, .int .i64 0] 51)).alloc (.cells ([.string x, .slice none 0 0, .slice none 0 0, .int .i64 0, .int .i64 0, .slice a3 rules.length c3, .int .i64 0, .slice none 0 0, .slice none 0 0, .int .i64 0] : List Value).toArray 58)))
            have HX3 := Lib.hid (show SHo ((w3.alloc (.cells #[.slice none 0 0, .slice none 0 0, .int .i64 0, .int .i64 0, .slice a3 rules.length c3, .int .i64 0, .slice none 0 0, .slice none 0 0, .int .i64 0] 51)).alloc (.cells ([.string x, .slice none 0 0, .slice none 0 0, .int .i64 0, .int .i64 0, .slice a3 rules.length c3, .int .i64 0, .slice none 0 0, .slice none 0 0, .int .i64 0] : List Value).toArray 58)) (Mid' wr.heap.size w3.heap.size) (x, rules) [.string x, .slice none 0 0, .slice none 0 0, .int .i64 0, .int .i64 0, .slice a3 rules.length c3, .int .i64 0, .slice none 0 0, .slice none 0 0, .int .i64 0] from ⟨_, none, rfl, HF.out, SRus.keep S3.out (((Keep.refl _ w3).alloc _).alloc _)⟩)
            go_wp2_with (at_builtin; refine wpList_append_lies _ rfl (.tmp 50) (.tmp 54) 26 rfl (wc.heap.size + 1) 58 i0 _ 10 168 Try.underlying26 hi hz0 hz1 hz2 rfl (by decide) (.slice ah k ch) k css.flatten rfl (by have h := R3'.out.own; rw [HLE.out] at h; exact h) ⟨w3.heap.size + 1, 0, none⟩ 1 1 [.string x, .slice none 0 0, .slice none 0 0, .int .i64 0, .int .i64 0, .slice a3 rules.length c3, .int .i64 0, .slice none 0 0, .slice none 0 0, .int .i64 0] rfl rfl (new_cells' _ _ _ (by simp)) (by simp [Value.oneCell']) (by omega) (by have := HG.out.2.1; unfold maxLen; omega) (by have := HG.out.2.1; omega) (by have := R3'.out.top_le'; omega) _ rfl ?_; intro gB cap w6 hown hgrow hblk hlt6; have R6 := Lib.hid (SRow.snoc (R := SHo) (v' := .slice (some ⟨gB, 0, none⟩) (k + 1) cap) (fun h k => SHo.keep h k) R3'.out (by rw [HLE.out]; exact hown) hgrow (hblk.elim (fun h => .inl h.symm) fun h => .inr (congrArg some (h.trans (by simp)))) HX3.out rfl (fun i hi => ⟨Nat.le_trans HR.out.top_le'.2 hi.1, by have := hi.2; simp; omega⟩)); have HB6 := Lib.hid (fun i (hi : (Value.slice ah k ch).ownBlock = some i) => (R3'.out.own.lt i hi).1); have K6 := Lib.hid (((K3.out.alloc _).alloc _).grown hgrow (fun i hi hlt => by have := HB6.out i hi; have := ZZ.out; omega)); have N6 := Lib.hid ((hgrow.block _ (by have := blk_lt N3.out; simp; omega) (fun e => by have := HB6.out _ e.symm; omega)).trans (blk_alloc (blk_alloc N3.out _) _)); have Z6 := Lib.hid ((hgrow.block _ (by have := blk_lt B3.out; simp; omega) (fun e => by have := HB6.out _ e.symm; have := ZZ.out; omega)).trans (blk_alloc (blk_alloc B3.out _) _)); obtain ⟨n0, n1⟩ := at2' N6.out; have fn0 := blk_frozen N6.out 0; have fn1 := blk_frozen N6.out 1; have zn := blk_lt N6.out; clear hown hgrow hblk hlt6)
            go_roundg (gk - 1)
            case rel => exact ⟨k + 1, _, _, _, by omega, by go_num, by have := HGK.out; omega, blk_far Z6.out _ _ (show w.heap.size ≠ wc.heap.size by have := ZZ.out; omega), (blk_set N6.out 0 _).trans rfl, by rw [HTK.out]; exact SRow.setc (R := SHo) (fun h k => SHo.keep h k) R6.out (Nat.lt_succ_self _), fun _ => (by simpa using HB3.out), K6.out.set _ _ (fun h _ => by have h : wc.heap.size < w.heap.size := h; have := ZZ.out; omega)⟩
            case measure => have := HGK.out; omega
        · obtain rfl : k = names.length := by omega
          have k1 : ¬ (names.length : Int) < (names.length : Int) := by omega
          obtain ⟨wz, hwz⟩ : ∃ wz, wz = wr := ⟨_, rfl⟩
          subst hwz
          have HH := Lib.hid (show SHos wz (Mid' (wc.heap.size + 1) wz.heap.size) (.slice ah names.length ch) (names.map fun x => ((x, rules) : Hm)) from by have h := HR.out.slice (ok := Mid' (wc.heap.size + 1) wz.heap.size) (fun i h1 h2 => ⟨h1, h2⟩); rwa [List.take_length] at h)
          have ZW := Lib.hid (show w.heap.size < wc.heap.size ∧ wc.heap.size < wz.heap.size from ⟨ZZ.out, blk_lt HN.out⟩)
          have HGR := Lib.hid (HGo.out (by have := HG.out.1; omega))
          obtain ⟨i1, hi1, hyy⟩ := Option.map_eq_some_iff.1 infoLk
          simp only [Prod.mk.injEq] at hyy
          obtain ⟨hy0, hy1, hy2⟩ := hyy
          have hn1 := HG.out.2.2.2.1
          have hn3 := HG.out.2.2.2.2
          go_wp2
          go_loopg [59] (n.toNat + 1) (fun g i wr => ∃ (j top : Nat) (lv : Value) (cssL : List (List Value)), j ≤ n.toNat ∧ i = .int .i64 j ∧ g = n.toNat + 1 - j ∧ wr.heap[w.heap.size]? = some (.cells #[.slice none 0 0, .slice none 0 0] 29 (0, 0)) ∧ wr.heap[wc.heap.size]? = some (.cells #[.slice ah names.length ch, lv] 29 (0, 0)) ∧ SRow 7 SLk wr wz.heap.size top 66 lv (List.replicate j ()) cssL ∧ SHos wr (Mid' (wc.heap.size + 1) wz.heap.size) (.slice ah names.length ch) (names.map fun x => ((x, rules) : Hm)) ∧ Keep Any w wr)
          case atStart => exact ⟨0, wz.heap.size, _, [], by omega, rfl, rfl, HZ.out, HN.out, SRow.nil _ _ _ _ (Nat.le_refl _) (Nat.le_refl _), HH.out, HK.out⟩
          case round =>
            obtain ⟨j, topL, lv, cssL, hj, rfl, hg, hZ, hN, hR, hH, hK⟩ := hrel
            have HGJ := Lib.hid hg
            have HZ2 := Lib.hid hZ
            have HN2 := Lib.hid hN
            have HR2 := Lib.hid hR
            have HH2 := Lib.hid hH
            have HK2 := Lib.hid hK
            clear hg hZ hN hR hH hK
            have HLJ := Lib.hid (show (List.replicate j ()).length = j by simp)
            obtain ⟨al, cl, hv', _⟩ := HR2.out.form'
            rw [HLJ.out] at hv'
            subst hv'
            obtain ⟨m0, m1⟩ := at2' HN2.out
            have fm1 := blk_frozen HN2.out 1
            have zm := blk_lt HN2.out
            by_cases hlt : (j : Int) < n
            · go_wp2
              go_region_law (first | (go_simp; go_at_call 27; refine (LN.out _).mono ?_; rintro e w5 ⟨rfl, hK⟩; have K5 := Lib.hid ((Keep.refl Any wr).drew.trans hK); have N5 := Lib.hid (blk_keep K5.out HN2.out trivial); have B5 := Lib.hid (blk_keep K5.out HZ2.out trivial); have R5 := Lib.hid (SRow.keep (R := SLk) (fun h k => SLk.keep h k) (SRow.keep (R := SLk) (fun h k => SLk.keep h k) HR2.out K5.out) ((Keep.refl Any w5).alloc (.cells ([.int .i64 0, .int .i64 (-1), .slice none 0 0, .slice none 0 0, .int .i64 0, .int .i64 (-1), .string ⟨#[]⟩] : List Value).toArray 66))); have H5 := Lib.hid (SSl.keep' HH2.out K5.out); obtain ⟨n0, n1⟩ := at2' N5.out; have fn1 := blk_frozen N5.out 1; have zn := blk_lt N5.out; clear hK) | (refine step_append_lies _ rfl (.tmp 62) (.tmp 64) 27 rfl wz.heap.size 66 i1 _ 7 96 Try.underlying27 hi1 hy0 hy1 hy2 rfl (by decide) (.slice al j cl) j cssL.flatten rfl (by have h := R5.out.own; rw [HLJ.out] at h; exact h) ⟨w5.heap.size, 0, none⟩ 1 1 [.int .i64 0, .int .i64 (-1), .slice none 0 0, .slice none 0 0, .int .i64 0, .int .i64 (-1), .string ⟨#[]⟩] rfl rfl (new_cells' _ _ _ rfl) (by simp [Value.oneCell']) (by omega) (by unfold maxLen; omega) (by omega) (by have := R5.out.top_le'; omega) _ rfl ?_; intro gB cap w6 hown hgrow hblk hlt6; have R6 := Lib.hid (SRow.snoc (R := SLk) (x := ()) (gx := fun _ => False) (v' := .slice (some ⟨gB, 0, none⟩) (j + 1) cap) (fun h k => SLk.keep h k) R5.out (by rw [HLJ.out]; exact hown) hgrow (hblk.elim (fun h => .inl h.symm) fun h => .inr (congrArg some (h.trans (by simp)))) (show SLk _ _ _ [.int .i64 0, .int .i64 (-1), .slice none 0 0, .slice none 0 0, .int .i64 0, .int .i64 (-1), .string ⟨#[]⟩] from rfl) rfl (fun i hi => hi.elim)); have HB6 := Lib.hid (fun i (hi : (Value.slice al j cl).ownBlock = some i) => (R5.out.own.lt i hi).1); have K6 := Lib.hid (((HK2.out.trans K5.out).alloc _).grown hgrow (fun i hi hlt => by have := HB6.out i hi; have := ZW.out; omega)); have N6 := Lib.hid ((hgrow.block _ (by have := blk_lt N5.out; simp; omega) (fun e => by have := HB6.out _ e.symm; have := ZW.out; omega)).trans (blk_alloc N5.out _)); have Z6 := Lib.hid ((hgrow.block _ (by have := blk_lt B5.out; simp; omega) (fun e => by have := HB6.out _ e.symm; have := ZW.out; omega)).trans (blk_alloc B5.out _)); have H6 := Lib.hid (SSl.keep H5.out (fun _ _ _ _ h k => SHo.keep h k) (((Keep.refl _ _).alloc _).grown hgrow (fun i hi _ hk => by have := HB6.out i hi; have := hk.2; omega))); obtain ⟨n0, n1⟩ := at2' N6.out; have fn1 := blk_frozen N6.out 1; have zn := blk_lt N6.out; clear hown hgrow hblk hlt6))
              all_goals
                go_wp2
                go_roundg (gk - 1)
                case rel => exact ⟨j + 1, _, _, _, by omega, by go_num, by have := HGJ.out; omega, blk_far Z6.out _ _ (show w.heap.size ≠ wc.heap.size by have := ZZ.out; omega), (blk_set N6.out 1 _).trans rfl, by rw [List.replicate_succ']; exact SRow.setc (R := SLk) (fun h k => SLk.keep h k) R6.out ZW.out.2, SSl.keep H6.out (fun _ _ _ _ h k => SHo.keep h k) ((Keep.refl _ _).set _ _ (fun _ h => Nat.not_succ_le_self _ h.1)), K6.out.set _ _ (fun h _ => by have h : wc.heap.size < w.heap.size := h; have := ZZ.out; omega)⟩
                case measure => have := HGJ.out; omega
            · obtain rfl : n = (j : Int) := by omega
              obtain ⟨r0, r1⟩ := at2' HZ2.out
              have f0 := blk_frozen HZ2.out 0
              have f1 := blk_frozen HZ2.out 1
              have zr := blk_lt HZ2.out
              go_wp2
              refine bodyPost_ret (v := .tuple #[.agg #[.slice ah names.length ch, .slice al j cl], .bool true]) (by simp [results, Try.results9, go_sem, r0, r1, f0, f1, zr]) rfl ⟨true, _, _, wz.heap.size, ⟨fun _ => ⟨HG.out.1, HG.out.2.1, HG.out.2.2.1, HG.out.2.2.2.1, HG.out.2.2.2.2, HGR.out⟩, fun _ => rfl⟩, rfl, ?_, ?_, ⟨by have := ZW.out; omega, by have := HR2.out.top_le'; simp only [World.size_setCell]; omega⟩, ?_⟩
              · refine SSl.mono (ok := Mid' (wc.heap.size + 1) wz.heap.size) (SSl.keep HH2.out (fun _ _ _ _ h k => SHo.keep h k) ?_) (fun k h => ⟨by have := h.1; have := ZZ.out; omega, h.2⟩)
                have hb : ¬ Mid' (wc.heap.size + 1) wz.heap.size w.heap.size := fun h => by have := h.1; have := ZZ.out; omega
                repeat (first | (with_reducible exact Keep.refl _ _) | (with_reducible refine kset_x hb ?_))
              · have e : (if true = true then List.replicate (j : Int).toNat () else []) = List.replicate j () := by simp
                rw [e]
                exact (SRow.setc (R := SLk) (fun h k => SLk.keep h k) (SRow.setc (R := SLk) (fun h k => SLk.keep h k) HR2.out (Nat.lt_trans ZW.out.1 ZW.out.2)) (Nat.lt_trans ZW.out.1 ZW.out.2)).slice (fun i h1 h2 => ⟨h1, h2⟩)
              · have hz := Nat.le_refl w.heap.size
                repeat (first | (with_reducible exact HK2.out) | (with_reducible refine kset_b' hz ?_))
end Go.Proofs.Ytlmonnhgjnjniaa

/- ServerNew of the reference. -/
namespace Go.Proofs.Ytlmonnhgjnjniaa
open Go.RowKit
set_option linter.unusedVariables false
set_option linter.unusedSimpArgs false
theorem l7Copy_calls' (l : List Ru) (a0 : Option Addr) (c0 : Nat) (ok : Nat → Prop) (hl : l.length ≤ 1048576) (w : World) (hs : SRus w ok (.slice a0 l.length c0) l) :
    Calls Try.prog 21 #[.agg #[.slice none 0 0, .slice none 0 0, .int .i64 0, .int .i64 0, .slice a0 l.length c0, .int .i64 0, .slice none 0 0, .slice none 0 0, .int .i64 0]] w fun e w' => ∃ (a5 : Option Addr) (c5 : Nat) (d5 : Option Addr), e = .returned (.agg #[.slice none 0 0, .slice none 0 0, .int .i64 0, .int .i64 0, .slice a5 l.length c5, .int .i64 0, .slice d5 0 0, .slice none 0 0, .int .i64 0]) ∧ SRus w' (Mid' w.heap.size w'.heap.size) (.slice a5 l.length c5) l ∧ Keep Any w w' :=
  (l7Copy_calls l _ w (Sl.mono hs.rus (fun _ _ _ h => h) (fun _ _ _ => trivial) (by decide)) hl).mono fun e w' h => by
    obtain ⟨rs, d, h1, h2, h3⟩ := h
    obtain ⟨a5, c5, e5, _⟩ := id h2
    subst e5
    exact ⟨a5, c5, d, h1, h2, h3⟩
set_option maxHeartbeats 8000000 in
set_option maxRecDepth 20000 in
theorem specServerNew_calls (names : List ByteArray) (v : Value) (rules : List Ru) (rs : Value) (n : Int) (hn : I64 n) (w : World) (hs : Strs w Any v names) (hr : Rus w Any rs rules) (hl : rules.length ≤ 1048576) (hnl : names.length ≤ 1048576) :
    Calls Try.prog 6 #[v, rs, .int .i64 n] w (ServerR names rules n w) := by
  have HS := Lib.hid hs
  have SN := Lib.hid (fun w' (k : Keep Any w w') => specStoreNew_calls rules rs w' (Rus.keep hr k) hl)
  have NL := Lib.hid (fun x w' hx => l2Name_calls x w' hx)
  have CO := Lib.hid (fun x w' (k : Keep Any w w') => l6Column_calls names x v w' (Strs.keep hs k))
  have LI := Lib.hid (fun n a b w' => l1In_calls n a b w')
  have LN := Lib.hid (fun w' => (show Calls Try.prog 23 #[] w' (fun e w'' => e = .returned (.agg #[.int .i64 0, .int .i64 (-1), .slice none 0 0, .slice none 0 0, .int .i64 0, .int .i64 (-1), .string ⟨#[]⟩]) ∧ Keep Any w' w'') from l10New_calls w'))
  obtain ⟨a, c, rfl, hc, hm, _⟩ := hs
  obtain ⟨ra, rc, rfl, _, _, _⟩ := hr
  go_enter Try.func6, Try.ntmps6
  go_wp2_with fail
  refine (SN.out _ ((Keep.refl _ _).alloc _)).mono ?_
  rintro e w2 ⟨bo, rs0, hbo, rfl, hS, hK⟩
  have HBO := Lib.hid hbo
  obtain ⟨l0, hl0⟩ : ∃ l0, l0 = (if bo then rules else []) := ⟨_, rfl⟩
  rw [← hl0] at hS
  have HL0 := Lib.hid hl0
  have HL0s := Lib.hid (show l0.length ≤ 1048576 by rw [hl0]; split; exact hl; simp)
  obtain ⟨a0, c0, e0, _⟩ := id hS
  subst e0
  have S2 := Lib.hid hS
  have K2 := Lib.hid (((Keep.refl Any w).alloc _).trans hK)
  have B2 := Lib.hid (blk_keep hK (blk_new _ _) trivial)
  have LC := Lib.hid (fun w' (h : SRus w' (Mid' (w.heap.size + 1) w2.heap.size) (.slice a0 l0.length c0) l0) => l7Copy_calls' l0 a0 c0 _ HL0s.out w' h)
  have ZZ := Lib.hid (show w.heap.size < w2.heap.size from blk_lt B2.out)
  clear hbo hl0 hS hK
  obtain ⟨i0, hi, hzz⟩ := Option.map_eq_some_iff.1 infoHo
  simp only [Prod.mk.injEq] at hzz
  obtain ⟨hz0, hz1, hz2⟩ := hzz
  go_wp2
  go_loopg [11] (names.length + 1) (fun g i wr => ∃ (k top : Nat) (hv : Value) (css : List (List Value)), k ≤ names.length ∧ i = .int .i64 k ∧ g = names.length + 1 - k ∧ wr.heap[w.heap.size]? = some (.cells #[.slice none 0 0, .slice none 0 0] 29 (0, 0)) ∧ wr.heap[w2.heap.size]? = some (.cells #[.slice none 0 0, .slice none 0 0, .int .i64 0, .int .i64 0, .slice a0 l0.length c0, .int .i64 0, .slice none 0 0, .slice none 0 0, .int .i64 0] 51 (0, 0)) ∧ wr.heap[w2.heap.size + 1]? = some (.cells #[hv, .slice none 0 0] 29 (0, 0)) ∧ SRow 10 SHo wr (w2.heap.size + 2) top 58 hv ((names.take k).map fun x => ((x, l0) : Hm)) css ∧ Good (fun t => nameOk t = true) names k ∧ SRus wr (Mid' (w.heap.size + 1) w2.heap.size) (.slice a0 l0.length c0) l0 ∧ Keep Any w wr)
  case atStart => exact ⟨0, w2.heap.size + 2, _, [], by omega, rfl, rfl, blk_alloc (blk_alloc B2.out _) _, blk_alloc (blk_new _ _) _, (show (World.alloc (w2.alloc _) _).heap[w2.heap.size + 1]? = _ by rw [← World.size_alloc w2]; exact blk_new _ _), SRow.nil _ _ _ _ (Nat.le_refl _) (by simp), Good.zero, SRus.keep (SSl.mono S2.out (fun k h => ⟨by have := h.1; simp at this; omega, h.2⟩)) (((Keep.refl _ _).alloc _).alloc _), (K2.out.alloc _).alloc _⟩
  case round =>
    obtain ⟨k, top, hv, css, hk, rfl, hg, hZ, hT, hN, hR, hGo, hS, hK⟩ := hrel
    have HGK := Lib.hid hg
    have HZ := Lib.hid hZ
    have HT := Lib.hid hT
    have HN := Lib.hid hN
    have HR := Lib.hid hR
    have HGo := Lib.hid hGo
    have HSR := Lib.hid hS
    have HK := Lib.hid hK
    clear hg hZ hT hN hR hGo hS hK
    have HLE := Lib.hid (show ((names.take k).map fun x => ((x, l0) : Hm)).length = k by rw [List.length_map, List.length_take]; omega)
    obtain ⟨ah, ch, hv', _⟩ := HR.out.form'
    rw [HLE.out] at hv'
    subst hv'
    by_cases hlt : k < names.length
    · have hx : names[k]? = some names[k] := List.getElem?_eq_getElem hlt
      have HTK := Lib.hid (show (names.take (k + 1)).map (fun x => ((x, l0) : Hm)) = (names.take k).map (fun x => ((x, l0) : Hm)) ++ [(names[k], l0)] by rw [List.take_add_one, List.map_append, hx]; rfl)
      have HX := Lib.hid hx
      obtain ⟨ad, rfl, hf, cX⟩ := strs_at HS.out HK.out hx
      have HF := Lib.hid hf
      generalize names[k] = x at *
      clear hx hf
      have k0 : (0 : Int) ≤ (k : Int) := by omega
      have k1 : (k : Int) < (names.length : Int) := by omega
      have kc : (k : Int) ≤ (c : Int) := by omega
      go_upto_region 6 with fail
      go_cut [40] from 25 to 40 (fun v wc => ∃ b : Bool, v = .bool b ∧ (b = false ↔ (nameOk x = true ∧ x ∉ names.take k)) ∧ Keep Any wr wc)
      case first =>
        go_wp2_with fail
        refine (NL.out x _ HF.out).mono ?_
        rintro e w3 ⟨rfl, hK⟩
        have K3 := Lib.hid hK
        have cX3 := hK.cell cX trivial
        clear hK
        rcases hok : nameOk x with _ | _
        · go_wp2
          go_meet
          exact ⟨true, rfl, ⟨fun e => (by cases e), fun e => by rw [hok] at e; cases e.1⟩, K3.out⟩
        · go_wp2_with fail
          refine (CO.out x _ (HK.out.trans K3.out)).mono ?_
          rintro e w4 ⟨m, rfl, hF, hK⟩
          have HM := Lib.hid (hF.own HX.out)
          have K4 := Lib.hid (K3.out.trans hK)
          have hbd := hF.bd
          clear hF hK
          by_cases hmk : m = (k : Int)
          · subst hmk
            go_wp2
            go_meet
            exact ⟨false, by simp, ⟨fun _ => ⟨hok, by simpa using HM.out⟩, fun _ => rfl⟩, K4.out⟩
          · have hmb : (m == (k : Int)) = false := by simp [hmk]
            go_wp2
            go_meet
            exact ⟨true, by simp [hmk], ⟨fun e => (by cases e), fun e => absurd (HM.out.2 e.2) hmk⟩, K4.out⟩
      case rest =>
        obtain ⟨b, rfl, hb, hK⟩ := hcut
        obtain ⟨wm, hwm⟩ : ∃ wm, wm = wc := ⟨_, rfl⟩
        subst hwm
        have HBB := Lib.hid hb
        have KM := Lib.hid (HK.out.trans hK)
        have NM := Lib.hid (blk_keep hK HN.out trivial)
        have BM := Lib.hid (blk_keep hK HZ.out trivial)
        have TM := Lib.hid (blk_keep hK HT.out trivial)
        have RM := Lib.hid (SRow.keep (R := SHo) (fun h k => SHo.keep h k) HR.out hK)
        have SM := Lib.hid (SRus.keep HSR.out hK.any)
        have cXM := hK.cell cX trivial
        clear hb hK
        cases b
        case true =>
          obtain ⟨r0, r1⟩ := at2' BM.out
          have f0 := blk_frozen BM.out 0
          have f1 := blk_frozen BM.out 1
          have zr := blk_lt BM.out
          go_wp2
          (try simp only [Exit.inBlock, Exit.then])
          refine bodyPost_ret (v := .tuple #[.agg #[.slice none 0 0, .slice none 0 0], .bool false]) (by simp [results, Try.results6, go_sem, r0, r1, f0, f1, zr]) rfl (ServerR.no (fun h => by have hb := HBB.out; simp at hb; have hg := h.2.2.1 k x hlt HX.out; exact absurd (hb hg.1) (by simpa using hg.2)) ?_)
          have hz := Nat.le_refl w.heap.size
          repeat (first | (with_reducible exact KM.out) | (with_reducible refine Keep.alloc ?_ _) | (with_reducible refine kset_b' hz ?_))
        case false =>
          have KD := Lib.hid (KM.out.drew)
          have ND := Lib.hid (show wm.drew.heap[w2.heap.size + 1]? = _ from NM.out)
          have BD := Lib.hid (show wm.drew.heap[w.heap.size]? = _ from BM.out)
          have TD := Lib.hid (show wm.drew.heap[w2.heap.size]? = _ from TM.out)
          have RD := Lib.hid (SRow.keep (R := SHo) (fun h k => SHo.keep h k) RM.out ((Keep.refl Any wm).drew))
          have SD := Lib.hid (SRus.keep SM.out ((Keep.refl _ wm).drew))
          have cD := ((Keep.refl Any wm).drew).cell cXM trivial
          obtain ⟨n0, n1⟩ := at2' NM.out
          have fn0 := blk_frozen NM.out 0
          have zn := blk_lt NM.out
          obtain ⟨t0, t1, t2, t3, t4, t5, t6, t7, t8⟩ := at9 TM.out
          go_wp2
          go_region_law (first | (go_simp; go_at_call 21; refine (LC.out _ SD.out).mono ?_; rintro e w5 ⟨a5, c5, d5, rfl, hS, hK⟩; have K5 := Lib.hid (KD.out.trans hK); have N5 := Lib.hid (blk_keep hK ND.out trivial); have B5 := Lib.hid (blk_keep hK BD.out trivial); have T5 := Lib.hid (blk_keep hK TD.out trivial); have S5 := Lib.hid (SRus.keep SD.out hK.any); have R5 := Lib.hid (SRow.keep (R := SHo) (fun h k => SHo.keep h k) (SRow.keep (R := SHo) (fun h k => SHo.keep h k) RD.out hK) ((Keep.refl Any w5).alloc (.cells ([.string x, .slice none 0 0, .slice none 0 0, .int .i64 0, .int .i64 0, .slice a5 l0.length c5, .int .i64 0, .slice d5 0 0, .slice none 0 0, .int .i64 0] : List Value).toArray 58))); have HX5 := Lib.hid (show SHo (w5.alloc (.cells ([.string x, .slice none 0 0, .slice none 0 0, .int .i64 0, .int .i64 0, .slice a5 l0.length c5, .int .i64 0, .slice d5 0 0, .slice none 0 0, .int .i64 0] : List Value).toArray 58)) (Mid' (wm.drew).heap.size w5.heap.size) (x, l0) [.string x, .slice none 0 0, .slice none 0 0, .int .i64 0, .int .i64 0, .slice a5 l0.length c5, .int .i64 0, .slice d5 0 0, .slice none 0 0, .int .i64 0] from ⟨_, d5, rfl, HF.out, SRus.keep hS ((Keep.refl _ w5).alloc _)⟩); have c05 := hK.cell cD trivial; obtain ⟨n0, n1⟩ := at2' N5.out; have fn0 := blk_frozen N5.out 0; have zn := blk_lt N5.out; clear hS hK) | (refine step_append_lies _ rfl (.tmp 43) (.tmp 51) 26 rfl (w2.heap.size + 2) 58 i0 _ 10 168 Try.underlying26 hi hz0 hz1 hz2 rfl (by decide) (.slice ah k ch) k css.flatten rfl (by have h := R5.out.own; rw [HLE.out] at h; exact h) ⟨w5.heap.size, 0, none⟩ 1 1 [.string x, .slice none 0 0, .slice none 0 0, .int .i64 0, .int .i64 0, .slice a5 l0.length c5, .int .i64 0, .slice d5 0 0, .slice none 0 0, .int .i64 0] rfl rfl (new_cells' _ _ _ rfl) (by simp [Value.oneCell']) (by omega) (by unfold maxLen; omega) (by omega) (by have := R5.out.top_le'; omega) _ rfl ?_; intro gB cap w6 hown hgrow hblk hlt6; have R6 := Lib.hid (SRow.snoc (R := SHo) (v' := .slice (some ⟨gB, 0, none⟩) (k + 1) cap) (fun h k => SHo.keep h k) R5.out (by rw [HLE.out]; exact hown) hgrow (hblk.elim (fun h => .inl h.symm) fun h => .inr (congrArg some (h.trans (by simp)))) HX5.out rfl (fun i hi => ⟨Nat.le_trans RD.out.top_le'.2 hi.1, by have := hi.2; simp; omega⟩)); have HB6 := Lib.hid (fun i (hi : (Value.slice ah k ch).ownBlock = some i) => (R5.out.own.lt i hi).1); have K6 := Lib.hid ((K5.out.alloc _).grown hgrow (fun i hi hlt => by have := HB6.out i hi; have := ZZ.out; omega)); have N6 := Lib.hid ((hgrow.block _ (by have := blk_lt N5.out; simp; omega) (fun e => by have := HB6.out _ e.symm; omega)).trans (blk_alloc N5.out _)); have Z6 := Lib.hid ((hgrow.block _ (by have := blk_lt B5.out; simp; omega) (fun e => by have := HB6.out _ e.symm; have := ZZ.out; omega)).trans (blk_alloc B5.out _)); have T6 := Lib.hid ((hgrow.block _ (by have := blk_lt T5.out; simp; omega) (fun e => by have := HB6.out _ e.symm; omega)).trans (blk_alloc T5.out _)); have S6 := Lib.hid (SRus.keep S5.out (((Keep.refl _ _).alloc _).grown hgrow (fun i hi _ hk => by have := HB6.out i hi; have := hk.2; omega))); obtain ⟨n0, n1⟩ := at2' N6.out; have fn0 := blk_frozen N6.out 0; have zn := blk_lt N6.out; clear hown hgrow hblk hlt6))
          all_goals
            go_wp2
            go_roundg (gk - 1)
            case rel =>
              have hgd : nameOk x = true ∧ x ∉ names.take k := by simpa using HBB.out
              exact ⟨k + 1, _, _, _, by omega, by go_num, by have := HGK.out; omega, blk_far Z6.out _ _ (show w.heap.size ≠ w2.heap.size + 1 by have := ZZ.out; omega), blk_far T6.out _ _ (show w2.heap.size ≠ w2.heap.size + 1 by omega), (blk_set N6.out 0 _).trans rfl, by rw [HTK.out]; exact SRow.setc (R := SHo) (fun h k => SHo.keep h k) R6.out (Nat.lt_succ_self _), Good.succ HGo.out HX.out hgd.1 hgd.2, SRus.keep S6.out (kset_x (fun h => by have := h.2; omega) (Keep.refl _ _)), K6.out.set _ _ (fun h _ => by have h : w2.heap.size + 1 < w.heap.size := h; have := ZZ.out; omega)⟩
            case measure => have := HGK.out; omega
    · obtain rfl : k = names.length := by omega
      have k1 : ¬ (names.length : Int) < (names.length : Int) := by omega
      obtain ⟨wz, hwz⟩ : ∃ wz, wz = wr := ⟨_, rfl⟩
      subst hwz
      have HH0 := Lib.hid (show SHos wz (Mid' (w2.heap.size + 2) wz.heap.size) (.slice ah names.length ch) (names.map fun x => ((x, l0) : Hm)) from by have h := HR.out.slice (ok := Mid' (w2.heap.size + 2) wz.heap.size) (fun i h1 h2 => ⟨h1, h2⟩); rwa [List.take_length] at h)
      have ZW := Lib.hid (show w.heap.size < w2.heap.size + 1 ∧ w2.heap.size + 1 < wz.heap.size from ⟨by have := ZZ.out; omega, blk_lt HN.out⟩)
      go_upto_region 9 with fail
      go_cut [66] from 54 to 66 (fun v wc => ∃ b : Bool, v = .bool b ∧ (b = false ↔ (bo = true ∧ inR names.length 1 3 = true ∧ inR n 1 3 = true)) ∧ wz = wc)
      case first =>
        cases bo
        · go_wp2
          go_meet
          exact ⟨true, rfl, ⟨fun e => (by cases e), fun e => by cases e.1⟩, rfl⟩
        rcases h1 : inR names.length 1 3 with _ | _
        · have H1 := Lib.hid h1
          clear h1
          go_wp2_with (go_at_call 22; refine (LI.out _ _ _ _).mono ?_; rintro e w4 ⟨rfl, rfl⟩; rw [H1.out])
          go_meet
          exact ⟨true, rfl, ⟨fun e => (by cases e), fun e => (by have h := e.2.1; rw [H1.out] at h; cases h)⟩, rfl⟩
        rcases h2 : inR n 1 3 with _ | _
        · have H1 := Lib.hid h1
          have H2 := Lib.hid h2
          clear h1 h2
          go_wp2_with (go_at_call 22; refine (LI.out _ _ _ _).mono ?_; rintro e w4 ⟨rfl, rfl⟩; first | rw [H1.out] | rw [H2.out])
          go_meet
          exact ⟨true, rfl, ⟨fun e => (by cases e), fun e => (by have h := e.2.2; rw [H2.out] at h; cases h)⟩, rfl⟩
        · have H1 := Lib.hid h1
          have H2 := Lib.hid h2
          clear h1 h2
          go_wp2_with (go_at_call 22; refine (LI.out _ _ _ _).mono ?_; rintro e w4 ⟨rfl, rfl⟩; first | rw [H1.out] | rw [H2.out])
          go_meet
          exact ⟨false, rfl, by simp [H1.out, H2.out], rfl⟩
      case rest =>
        obtain ⟨b, rfl, hb, rfl⟩ := hcut
        have HBB := Lib.hid hb
        clear hb
        cases b
        case true =>
          obtain ⟨r0, r1⟩ := at2' HZ.out
          have f0 := blk_frozen HZ.out 0
          have f1 := blk_frozen HZ.out 1
          have zr := blk_lt HZ.out
          go_wp2
          (try simp only [Exit.inBlock, Exit.then])
          refine bodyPost_ret (v := .tuple #[.agg #[.slice none 0 0, .slice none 0 0], .bool false]) (by simp [results, Try.results6, go_sem, r0, r1, f0, f1, zr]) rfl (ServerR.no (fun h => by have hb := HBB.out; have hbo := HBO.out.2 h.2.2.2.2.2; have e1 : inR names.length 1 3 = true := (by have h1 := h.1; have h2 := h.2.1; simp [inR]; omega); have e2 : inR n 1 3 = true := (by have h1 := h.2.2.2.1; have h2 := h.2.2.2.2.1; simp [inR]; omega); simp [hbo, e1, e2] at hb) ?_)
          have hz := Nat.le_refl w.heap.size
          repeat (first | (with_reducible exact HK.out) | (with_reducible refine Keep.alloc ?_ _) | (with_reducible refine kset_b' hz ?_))
        case false =>
          obtain ⟨hbo, he1, he2⟩ := HBB.out.1 rfl
          simp only [inR, Bool.and_eq_true, decide_eq_true_eq] at he1 he2
          have HL0R := Lib.hid (show l0 = rules by rw [HL0.out, hbo]; rfl)
          have HH := Lib.hid (show SHos wz (Mid' (w2.heap.size + 2) wz.heap.size) (.slice ah names.length ch) (names.map fun x => ((x, rules) : Hm)) from by rw [← HL0R.out]; exact HH0.out)
          have HGD := Lib.hid (show ServerGood names rules n from ⟨by omega, by omega, HGo.out, he2.1, he2.2, HBO.out.1 hbo⟩)
          obtain ⟨i1, hi1, hyy⟩ := Option.map_eq_some_iff.1 infoLk
          simp only [Prod.mk.injEq] at hyy
          obtain ⟨hy0, hy1, hy2⟩ := hyy
          have hn1 := he2.1
          have hn3 := he2.2
          clear hbo he1 he2
          go_wp2
          go_loopg [12] (n.toNat + 1) (fun g i wr => ∃ (j top : Nat) (lv : Value) (cssL : List (List Value)), j ≤ n.toNat ∧ i = .int .i64 j ∧ g = n.toNat + 1 - j ∧ wr.heap[w.heap.size]? = some (.cells #[.slice none 0 0, .slice none 0 0] 29 (0, 0)) ∧ wr.heap[w2.heap.size + 1]? = some (.cells #[.slice ah names.length ch, lv] 29 (0, 0)) ∧ SRow 7 SLk wr wz.heap.size top 66 lv (List.replicate j ()) cssL ∧ SHos wr (Mid' (w2.heap.size + 2) wz.heap.size) (.slice ah names.length ch) (names.map fun x => ((x, rules) : Hm)) ∧ Keep Any w wr)
          case atStart => exact ⟨0, wz.heap.size, _, [], by omega, rfl, rfl, HZ.out, HN.out, SRow.nil _ _ _ _ (Nat.le_refl _) (Nat.le_refl _), HH.out, HK.out⟩
          case round =>
            obtain ⟨j, topL, lv, cssL, hj, rfl, hg, hZ, hN, hR, hH, hK⟩ := hrel
            have HGJ := Lib.hid hg
            have HZ2 := Lib.hid hZ
            have HN2 := Lib.hid hN
            have HR2 := Lib.hid hR
            have HH2 := Lib.hid hH
            have HK2 := Lib.hid hK
            clear hg hZ hN hR hH hK
            have HLJ := Lib.hid (show (List.replicate j ()).length = j by simp)
            obtain ⟨al, cl, hv', _⟩ := HR2.out.form'
            rw [HLJ.out] at hv'
            subst hv'
            obtain ⟨m0, m1⟩ := at2' HN2.out
            have fm1 := blk_frozen HN2.out 1
            have zm := blk_lt HN2.out
            by_cases hlt : (j : Int) < n
            · go_wp2
              go_region_law (first | (go_simp; go_at_call 23; refine (LN.out _).mono ?_; rintro e w5 ⟨rfl, hK⟩; have K5 := Lib.hid ((Keep.refl Any wr).drew.trans hK); have N5 := Lib.hid (blk_keep K5.out HN2.out trivial); have B5 := Lib.hid (blk_keep K5.out HZ2.out trivial); have R5 := Lib.hid (SRow.keep (R := SLk) (fun h k => SLk.keep h k) (SRow.keep (R := SLk) (fun h k => SLk.keep h k) HR2.out K5.out) ((Keep.refl Any w5).alloc (.cells ([.int .i64 0, .int .i64 (-1), .slice none 0 0, .slice none 0 0, .int .i64 0, .int .i64 (-1), .string ⟨#[]⟩] : List Value).toArray 66))); have H5 := Lib.hid (SSl.keep' HH2.out K5.out); obtain ⟨n0, n1⟩ := at2' N5.out; have fn1 := blk_frozen N5.out 1; have zn := blk_lt N5.out; clear hK) | (refine step_append_lies _ rfl (.tmp 74) (.tmp 76) 27 rfl wz.heap.size 66 i1 _ 7 96 Try.underlying27 hi1 hy0 hy1 hy2 rfl (by decide) (.slice al j cl) j cssL.flatten rfl (by have h := R5.out.own; rw [HLJ.out] at h; exact h) ⟨w5.heap.size, 0, none⟩ 1 1 [.int .i64 0, .int .i64 (-1), .slice none 0 0, .slice none 0 0, .int .i64 0, .int .i64 (-1), .string ⟨#[]⟩] rfl rfl (new_cells' _ _ _ rfl) (by simp [Value.oneCell']) (by omega) (by unfold maxLen; omega) (by omega) (by have := R5.out.top_le'; omega) _ rfl ?_; intro gB cap w6 hown hgrow hblk hlt6; have R6 := Lib.hid (SRow.snoc (R := SLk) (x := ()) (gx := fun _ => False) (v' := .slice (some ⟨gB, 0, none⟩) (j + 1) cap) (fun h k => SLk.keep h k) R5.out (by rw [HLJ.out]; exact hown) hgrow (hblk.elim (fun h => .inl h.symm) fun h => .inr (congrArg some (h.trans (by simp)))) (show SLk _ _ _ [.int .i64 0, .int .i64 (-1), .slice none 0 0, .slice none 0 0, .int .i64 0, .int .i64 (-1), .string ⟨#[]⟩] from rfl) rfl (fun i hi => hi.elim)); have HB6 := Lib.hid (fun i (hi : (Value.slice al j cl).ownBlock = some i) => (R5.out.own.lt i hi).1); have K6 := Lib.hid (((HK2.out.trans K5.out).alloc _).grown hgrow (fun i hi hlt => by have := HB6.out i hi; have := ZW.out; omega)); have N6 := Lib.hid ((hgrow.block _ (by have := blk_lt N5.out; simp; omega) (fun e => by have := HB6.out _ e.symm; have := ZW.out; omega)).trans (blk_alloc N5.out _)); have Z6 := Lib.hid ((hgrow.block _ (by have := blk_lt B5.out; simp; omega) (fun e => by have := HB6.out _ e.symm; have := ZW.out; omega)).trans (blk_alloc B5.out _)); have H6 := Lib.hid (SSl.keep H5.out (fun _ _ _ _ h k => SHo.keep h k) (((Keep.refl _ _).alloc _).grown hgrow (fun i hi _ hk => by have := HB6.out i hi; have := hk.2; omega))); obtain ⟨n0, n1⟩ := at2' N6.out; have fn1 := blk_frozen N6.out 1; have zn := blk_lt N6.out; clear hown hgrow hblk hlt6))
              all_goals
                go_wp2
                go_roundg (gk - 1)
                case rel => exact ⟨j + 1, _, _, _, by omega, by go_num, by have := HGJ.out; omega, blk_far Z6.out _ _ (show w.heap.size ≠ w2.heap.size + 1 by have := ZZ.out; omega), (blk_set N6.out 1 _).trans rfl, by rw [List.replicate_succ']; exact SRow.setc (R := SLk) (fun h k => SLk.keep h k) R6.out ZW.out.2, SSl.keep H6.out (fun _ _ _ _ h k => SHo.keep h k) ((Keep.refl _ _).set _ _ (fun _ h => Nat.not_succ_le_self _ h.1)), K6.out.set _ _ (fun h _ => by have h : w2.heap.size + 1 < w.heap.size := h; have := ZZ.out; omega)⟩
                case measure => have := HGJ.out; omega
            · obtain rfl : n = (j : Int) := by omega
              obtain ⟨r0, r1⟩ := at2' HZ2.out
              have f0 := blk_frozen HZ2.out 0
              have f1 := blk_frozen HZ2.out 1
              have zr := blk_lt HZ2.out
              go_wp2
              refine bodyPost_ret (v := .tuple #[.agg #[.slice ah names.length ch, .slice al j cl], .bool true]) (by simp [results, Try.results6, go_sem, r0, r1, f0, f1, zr]) rfl ⟨true, _, _, wz.heap.size, ⟨fun _ => HGD.out, fun _ => rfl⟩, rfl, ?_, ?_, ⟨by have := ZW.out; omega, by have := HR2.out.top_le'; simp only [World.size_setCell]; omega⟩, ?_⟩
              · refine SSl.mono (ok := Mid' (w2.heap.size + 2) wz.heap.size) (SSl.keep HH2.out (fun _ _ _ _ h k => SHo.keep h k) ?_) (fun k h => ⟨by have := h.1; have := ZZ.out; omega, h.2⟩)
                have hb : ¬ Mid' (w2.heap.size + 2) wz.heap.size w.heap.size := fun h => by have := h.1; have := ZZ.out; omega
                repeat (first | (with_reducible exact Keep.refl _ _) | (with_reducible refine kset_x hb ?_))
              · have e : (if true = true then List.replicate (j : Int).toNat () else []) = List.replicate j () := by simp
                rw [e]
                exact (SRow.setc (R := SLk) (fun h k => SLk.keep h k) (SRow.setc (R := SLk) (fun h k => SLk.keep h k) HR2.out (Nat.lt_trans ZW.out.1 ZW.out.2)) (Nat.lt_trans ZW.out.1 ZW.out.2)).slice (fun i h1 h2 => ⟨h1, h2⟩)
              · have hz := Nat.le_refl w.heap.size
                repeat (first | (with_reducible exact HK2.out) | (with_reducible refine kset_b' hz ?_))
end Go.Proofs.Ytlmonnhgjnjniaa

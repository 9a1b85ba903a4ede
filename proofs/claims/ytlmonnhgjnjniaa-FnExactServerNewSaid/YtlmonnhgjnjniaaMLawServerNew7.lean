/- Marks in homes, links and servers: read again; a server's written. -/
import Derived.Test.YtlmonnhgjnjniaaMLawServerNew6
/- Marks in homes, links and servers: read again; a server's written. -/
namespace Go.Proofs.Ytlmonnhgjnjniaa
open Go.RowKit
set_option linter.unusedVariables false
set_option linter.unusedSimpArgs false
def HdR (w : World) (x : Hd) (cs : List Value) : Prop := ∃ (a1 d1 : Option Addr) (c1 : Nat), cs = [.string x.nm, .slice none 0 0, .slice none 0 0, .int .i64 x.i1, .int .i64 x.i2, .slice a1 x.rules.length c1, .int .i64 x.i3, .slice d1 0 0, .slice none 0 0, .int .i64 x.i4] ∧ Rus w Any (.slice a1 x.rules.length c1) x.rules
abbrev Hds (w : World) (v : Value) (l : List Hd) : Prop := Sl 10 (HdR w) w Any v l
theorem SHds.hds {w : World} {ok : Nat → Prop} {v : Value} {l : List Hd} (h : SHds w ok v l) : Hds w v l := Sl.mono (SSl.sl (R' := HdR w) h fun g x cs _ hg h => by
  obtain ⟨a, d, c, rfl, h1, h2⟩ := h
  exact ⟨a, d, c, rfl, Sl.mono (SRus.rus h2) (fun _ _ _ h => h) (fun _ _ _ => trivial) (by decide)⟩) (fun _ _ _ h => h) (fun _ _ _ => trivial) (by decide)
theorem Hds.keep {w w' : World} {v : Value} {l : List Hd} (h : Hds w v l) (k : Keep Any w w') : Hds w' v l := Sl.keep h (fun _ _ _ h => by obtain ⟨a1, d, c1, h1, h2⟩ := h; exact ⟨a1, d, c1, h1, h2.keep k⟩) k
theorem hds_at {w w' : World} {a : Option Addr} {n c : Nat} {l : List Hd} (h : Hds w (.slice a n c) l) (k : Keep Any w w') {j : Nat} {x : Hd} (hx : l[j]? = some x) :
    ∃ ad a1 d1 c1, a = some ad ∧ Rus w' Any (.slice a1 x.rules.length c1) x.rules ∧ w'.cell? (ad.add (j * 10)) = some (.string x.nm) ∧ w'.cell? ⟨(ad.add (j * 10)).block, (ad.add (j * 10)).off + 1, none⟩ = some (.slice none 0 0) ∧ w'.cell? ⟨(ad.add (j * 10)).block, (ad.add (j * 10)).off + 2, none⟩ = some (.slice none 0 0) ∧ w'.cell? ⟨(ad.add (j * 10)).block, (ad.add (j * 10)).off + 3, none⟩ = some (.int .i64 x.i1) ∧ w'.cell? ⟨(ad.add (j * 10)).block, (ad.add (j * 10)).off + 4, none⟩ = some (.int .i64 x.i2) ∧ w'.cell? ⟨(ad.add (j * 10)).block, (ad.add (j * 10)).off + 5, none⟩ = some (.slice a1 x.rules.length c1) ∧ w'.cell? ⟨(ad.add (j * 10)).block, (ad.add (j * 10)).off + 6, none⟩ = some (.int .i64 x.i3) ∧ w'.cell? ⟨(ad.add (j * 10)).block, (ad.add (j * 10)).off + 7, none⟩ = some (.slice d1 0 0) ∧ w'.cell? ⟨(ad.add (j * 10)).block, (ad.add (j * 10)).off + 8, none⟩ = some (.slice none 0 0) ∧ w'.cell? ⟨(ad.add (j * 10)).block, (ad.add (j * 10)).off + 9, none⟩ = some (.int .i64 x.i4) := by
  obtain ⟨a', c', e, h1, h2, h3⟩ := h
  cases e
  obtain ⟨ad, rfl, hb, hf⟩ := h3 (fun e => by rw [e] at hx; cases hx)
  obtain ⟨cs, ⟨a1, d1, c1, rfl, hG⟩, _, hc⟩ := hf j x hx
  have h0 := (hc.keep k hb) 0 _ rfl
  refine ⟨ad, a1, d1, c1, rfl, hG.keep k, by simpa using h0, ?_, ?_, ?_, ?_, ?_, ?_, ?_, ?_, ?_⟩
  all_goals first | (have h1 := (hc.keep k hb) 1 _ rfl; rw [add_field _ _ _ (by decide)] at h1; exact h1) | (have h1 := (hc.keep k hb) 2 _ rfl; rw [add_field _ _ _ (by decide)] at h1; exact h1) | (have h1 := (hc.keep k hb) 3 _ rfl; rw [add_field _ _ _ (by decide)] at h1; exact h1) | (have h1 := (hc.keep k hb) 4 _ rfl; rw [add_field _ _ _ (by decide)] at h1; exact h1) | (have h1 := (hc.keep k hb) 5 _ rfl; rw [add_field _ _ _ (by decide)] at h1; exact h1) | (have h1 := (hc.keep k hb) 6 _ rfl; rw [add_field _ _ _ (by decide)] at h1; exact h1) | (have h1 := (hc.keep k hb) 7 _ rfl; rw [add_field _ _ _ (by decide)] at h1; exact h1) | (have h1 := (hc.keep k hb) 8 _ rfl; rw [add_field _ _ _ (by decide)] at h1; exact h1) | (have h1 := (hc.keep k hb) 9 _ rfl; rw [add_field _ _ _ (by decide)] at h1; exact h1)
abbrev Lds (w : World) (v : Value) (l : List Ld) : Prop := Sl 7 (fun x cs => cs = [.int .i64 x.mode, .int .i64 x.tx, .slice none 0 0, .slice none 0 0, .int .i64 x.at_, .int .i64 x.home, .string x.left]) w Any v l
theorem SLds.lds {w : World} {ok : Nat → Prop} {v : Value} {l : List Ld} (h : SLds w ok v l) : Lds w v l := Sl.mono (SSl.sl (R' := fun x cs => cs = [.int .i64 x.mode, .int .i64 x.tx, .slice none 0 0, .slice none 0 0, .int .i64 x.at_, .int .i64 x.home, .string x.left]) h fun g x cs _ hg h => h.1) (fun _ _ _ h => h) (fun _ _ _ => trivial) (by decide)
theorem Lds.keep {w w' : World} {v : Value} {l : List Ld} (h : Lds w v l) (k : Keep Any w w') : Lds w' v l := Sl.keep h (fun _ _ _ h => h) k
theorem lds_at {w w' : World} {a : Option Addr} {n c : Nat} {l : List Ld} (h : Lds w (.slice a n c) l) (k : Keep Any w w') {j : Nat} {x : Ld} (hx : l[j]? = some x) :
    ∃ ad, a = some ad ∧ w'.cell? (ad.add (j * 7)) = some (.int .i64 x.mode) ∧ w'.cell? ⟨(ad.add (j * 7)).block, (ad.add (j * 7)).off + 1, none⟩ = some (.int .i64 x.tx) ∧ w'.cell? ⟨(ad.add (j * 7)).block, (ad.add (j * 7)).off + 2, none⟩ = some (.slice none 0 0) ∧ w'.cell? ⟨(ad.add (j * 7)).block, (ad.add (j * 7)).off + 3, none⟩ = some (.slice none 0 0) ∧ w'.cell? ⟨(ad.add (j * 7)).block, (ad.add (j * 7)).off + 4, none⟩ = some (.int .i64 x.at_) ∧ w'.cell? ⟨(ad.add (j * 7)).block, (ad.add (j * 7)).off + 5, none⟩ = some (.int .i64 x.home) ∧ w'.cell? ⟨(ad.add (j * 7)).block, (ad.add (j * 7)).off + 6, none⟩ = some (.string x.left) := by
  obtain ⟨a', c', e, h1, h2, h3⟩ := h
  cases e
  obtain ⟨ad, rfl, hb, hf⟩ := h3 (fun e => by rw [e] at hx; cases hx)
  obtain ⟨cs, rfl, _, hc⟩ := hf j x hx
  have h0 := (hc.keep k hb) 0 _ rfl
  refine ⟨ad, rfl, by simpa using h0, ?_, ?_, ?_, ?_, ?_, ?_⟩
  all_goals first | (have h1 := (hc.keep k hb) 1 _ rfl; rw [add_field _ _ _ (by decide)] at h1; exact h1) | (have h1 := (hc.keep k hb) 2 _ rfl; rw [add_field _ _ _ (by decide)] at h1; exact h1) | (have h1 := (hc.keep k hb) 3 _ rfl; rw [add_field _ _ _ (by decide)] at h1; exact h1) | (have h1 := (hc.keep k hb) 4 _ rfl; rw [add_field _ _ _ (by decide)] at h1; exact h1) | (have h1 := (hc.keep k hb) 5 _ rfl; rw [add_field _ _ _ (by decide)] at h1; exact h1) | (have h1 := (hc.keep k hb) 6 _ rfl; rw [add_field _ _ _ (by decide)] at h1; exact h1)
set_option maxHeartbeats 16000000 in
set_option maxRecDepth 20000 in
theorem heldHomes_calls (l : List Hd) (n : Nat) (s : Value) (m : Int) (k : Nat) (w : World) (hm' : m = k) (hs : Hds w s (l.mapIdx (hmk k n))) (hall : ∀ x, x ∈ l → x.rules.length = n) (hk : 1 ≤ k) (hb : k + l.length * (5 + 2 * n) ≤ 4611686018427387904) :
    Calls Try.prog 34 #[s, .int .i64 m] w (Num (k + l.length * (5 + 2 * n) : Nat) w) := by
  have HS := Lib.hid hs
  have MT := Lib.hid markText_int
  subst hm'
  obtain ⟨ad, c, rfl, hc, hm, _⟩ := hs
  rw [List.length_mapIdx] at *
  go_enter Try.func34, Try.ntmps34
  go_wp2
  go_loopg [1, 5] (l.length + 1) (fun g x y wr => ∃ j : Nat, j ≤ l.length ∧ x = .int .i64 (k + j * (5 + 2 * n) : Nat) ∧ y = .int .i64 j ∧ g = l.length + 1 - j ∧ Keep Any w wr)
  case atStart => exact ⟨0, by omega, by simp, rfl, rfl, Keep.refl _ _⟩
  case round =>
    obtain ⟨j, hj, rfl, rfl, hg, hK⟩ := hrel
    have HG := Lib.hid hg
    have HK := Lib.hid hK
    clear hg hK
    obtain ⟨q, hq⟩ : ∃ q, k + j * (5 + 2 * n) = q := ⟨_, rfl⟩
    have HQ := Lib.hid hq
    have hq1 : 1 ≤ q := by omega
    rw [hq]
    by_cases hlt : j < l.length
    · have hqb : q + 5 + 2 * n ≤ 4611686018427387904 := by
        have h1 : (j + 1) * (5 + 2 * n) ≤ l.length * (5 + 2 * n) := Nat.mul_le_mul_right _ hlt
        rw [Nat.add_mul, Nat.one_mul] at h1
        omega
      have hx : l[j]? = some l[j] := List.getElem?_eq_getElem hlt
      have HN := Lib.hid (hall _ (List.mem_of_getElem? hx))
      obtain ⟨ad, a1, d1, c1, rfl, hru, c0, c1', c2, c3, c4, c5, c6, c7, c8, c9⟩ := hds_at HS.out HK.out (mapIdx_at (f := hmk k n) hx)
      generalize l[j] = x at *
      obtain ⟨r, hr⟩ : ∃ r, q + 3 + 2 * n = r := ⟨_, rfl⟩
      have HR := Lib.hid hr
      simp only [hmk, hq, hr, rmks_len, HN.out] at c0 c1' c2 c3 c4 c5 c6 c7 c8 c9 hru
      have HRU := Lib.hid hru
      have MR := Lib.hid (fun w' (h : Rus w' Any (.slice a1 n c1) (rmks (q + 3) x.rules)) => heldRules_calls x.rules _ ((q : Int) + 1 + 1 + 1) (q + 3) w' (by omega) h (by omega) (by rw [HN.out]; omega))
      simp only [HN.out, hr] at MR
      have C0 := Lib.hid c0
      have CS := Lib.hid (show wr.cell? ⟨(ad.add (j * 10)).block, (ad.add (j * 10)).off + 1, none⟩ = some (.slice none 0 0) ∧ wr.cell? ⟨(ad.add (j * 10)).block, (ad.add (j * 10)).off + 2, none⟩ = some (.slice none 0 0) ∧ wr.cell? ⟨(ad.add (j * 10)).block, (ad.add (j * 10)).off + 3, none⟩ = some (.int .i64 ((q : Int) + 1)) ∧ wr.cell? ⟨(ad.add (j * 10)).block, (ad.add (j * 10)).off + 4, none⟩ = some (.int .i64 ((q : Int) + 1 + 1)) ∧ wr.cell? ⟨(ad.add (j * 10)).block, (ad.add (j * 10)).off + 5, none⟩ = some (.slice a1 n c1) ∧ wr.cell? ⟨(ad.add (j * 10)).block, (ad.add (j * 10)).off + 6, none⟩ = some (.int .i64 (r : Int)) ∧ wr.cell? ⟨(ad.add (j * 10)).block, (ad.add (j * 10)).off + 7, none⟩ = some (.slice d1 0 0) ∧ wr.cell? ⟨(ad.add (j * 10)).block, (ad.add (j * 10)).off + 8, none⟩ = some (.slice none 0 0) ∧ wr.cell? ⟨(ad.add (j * 10)).block, (ad.add (j * 10)).off + 9, none⟩ = some (.int .i64 ((r : Int) + 1)) from ⟨c1', c2, c3, c4, c5, c6, c7, c8, c9⟩)
      have hrb : r + 2 ≤ 4611686018427387904 := by omega
      have hr1 : 1 ≤ r := by omega
      clear hq hr hx hru c1' c2 c3 c4 c5 c6 c7 c8 c9
      have e0 : ((mtx q).toList != (mtx q).toList) = false := by simp
      have k0 : (0 : Int) ≤ (j : Int) := by omega
      have k1 : (j : Int) < (l.length : Int) := by omega
      go_wp2
      go_cut [19] from 12 to 19 (fun v wc => v = .bool false ∧ Keep Any wr wc)
      case first =>
        go_region_with (go_at_call 31; refine (MT.out _ q _ (by omega) (by omega) (by omega)).mono ?_; rintro e w2 ⟨rfl, hK2⟩; have c0' := hK2.cell (p := ad.add (j * 10)) C0.out trivial; have HK2 := Lib.hid hK2; clear hK2)
        all_goals
          go_wp2
          go_meet
          exact ⟨rfl, (Keep.refl Any wr).drew.trans HK2.out⟩
      case rest =>
        obtain ⟨rfl, hKc⟩ := hcut
        have KW := Lib.hid hKc
        obtain ⟨c1', c2, c3, c4, c5, c6, c7, c8, c9⟩ := CS.out
        have c1 := hKc.cell c1' trivial
        have c2 := hKc.cell c2 trivial
        have c3 := hKc.cell c3 trivial
        have c4 := hKc.cell c4 trivial
        have c5 := hKc.cell c5 trivial
        have c6 := hKc.cell c6 trivial
        have c7 := hKc.cell c7 trivial
        have c8 := hKc.cell c8 trivial
        have c9 := hKc.cell c9 trivial
        clear hKc c0 c1'
        go_wp2_with (first | (go_at_call 53; refine (heldNodeS_nil _ _ _ _).mono ?_; rintro e w2 ⟨rfl, hK⟩; have KW := Lib.hid (KW.out.trans hK); have c1 := hK.cell c1 trivial; have c2 := hK.cell c2 trivial; have c3 := hK.cell c3 trivial; have c4 := hK.cell c4 trivial; have c5 := hK.cell c5 trivial; have c6 := hK.cell c6 trivial; have c7 := hK.cell c7 trivial; have c8 := hK.cell c8 trivial; have c9 := hK.cell c9 trivial; clear hK) | (go_at_call 54; refine (heldEdgeS_nil _ _ _ _).mono ?_; rintro e w2 ⟨rfl, hK⟩; have KW := Lib.hid (KW.out.trans hK); have c1 := hK.cell c1 trivial; have c2 := hK.cell c2 trivial; have c3 := hK.cell c3 trivial; have c4 := hK.cell c4 trivial; have c5 := hK.cell c5 trivial; have c6 := hK.cell c6 trivial; have c7 := hK.cell c7 trivial; have c8 := hK.cell c8 trivial; have c9 := hK.cell c9 trivial; clear hK) | (go_at_call 55; refine (MR.out _ (Rus.keep HRU.out KW.out)).mono ?_; rintro e w2 ⟨rfl, hK⟩; have KW := Lib.hid (KW.out.trans hK); have c1 := hK.cell c1 trivial; have c2 := hK.cell c2 trivial; have c3 := hK.cell c3 trivial; have c4 := hK.cell c4 trivial; have c5 := hK.cell c5 trivial; have c6 := hK.cell c6 trivial; have c7 := hK.cell c7 trivial; have c8 := hK.cell c8 trivial; have c9 := hK.cell c9 trivial; clear hK) | (go_at_call 56; refine (heldAskS_nil _ _ _ _).mono ?_; rintro e w2 ⟨rfl, hK⟩; have KW := Lib.hid (KW.out.trans hK); have c1 := hK.cell c1 trivial; have c2 := hK.cell c2 trivial; have c3 := hK.cell c3 trivial; have c4 := hK.cell c4 trivial; have c5 := hK.cell c5 trivial; have c6 := hK.cell c6 trivial; have c7 := hK.cell c7 trivial; have c8 := hK.cell c8 trivial; have c9 := hK.cell c9 trivial; clear hK) | (go_at_call 57; refine (heldTxS_nil _ _ _ _).mono ?_; rintro e w2 ⟨rfl, hK⟩; have KW := Lib.hid (KW.out.trans hK); have c1 := hK.cell c1 trivial; have c2 := hK.cell c2 trivial; have c3 := hK.cell c3 trivial; have c4 := hK.cell c4 trivial; have c5 := hK.cell c5 trivial; have c6 := hK.cell c6 trivial; have c7 := hK.cell c7 trivial; have c8 := hK.cell c8 trivial; have c9 := hK.cell c9 trivial; clear hK))
        go_roundg (gk - 1)
        case rel => exact ⟨j + 1, by omega, (by refine congrArg (Value.int .i64) ?_; have h2 := HQ.out; have h3 := HR.out; have h4 : (j + 1) * (5 + 2 * n) = j * (5 + 2 * n) + (5 + 2 * n) := (by rw [Nat.add_mul, Nat.one_mul]); rw [h4]; generalize j * (5 + 2 * n) = t at *; push_cast; omega), by go_num, by have := HG.out; omega, HK.out.trans KW.out⟩
        case measure => have := HG.out; omega
    · have HJ := Lib.hid (show j = l.length by omega)
      clear hq
      go_wp2
      go_ret
      exact ⟨ret_int (by have := HQ.out; rw [HJ.out] at this; omega), HK.out⟩
set_option maxHeartbeats 16000000 in
set_option maxRecDepth 20000 in
theorem heldLinks_calls (l : List Ld) (s : Value) (m : Int) (k : Nat) (w : World) (hm' : m = k) (hs : Lds w s (l.mapIdx (lmk k))) (hk : 1 ≤ k) (hb : k + 5 * l.length ≤ 4611686018427387904) :
    Calls Try.prog 35 #[s, .int .i64 m] w (Num (k + 5 * l.length : Nat) w) := by
  have HS := Lib.hid hs
  have MT := Lib.hid markText_int
  subst hm'
  obtain ⟨ad, c, rfl, hc, hm, _⟩ := hs
  rw [List.length_mapIdx] at *
  go_enter Try.func35, Try.ntmps35
  go_wp2
  go_loopg [1, 5] (l.length + 1) (fun g x y wr => ∃ j : Nat, j ≤ l.length ∧ x = .int .i64 (k + 5 * j : Nat) ∧ y = .int .i64 j ∧ g = l.length + 1 - j ∧ Keep Any w wr)
  case atStart => exact ⟨0, by omega, by simp, rfl, rfl, Keep.refl _ _⟩
  case round =>
    obtain ⟨j, hj, rfl, rfl, hg, hK⟩ := hrel
    have HG := Lib.hid hg
    have HK := Lib.hid hK
    clear hg hK
    obtain ⟨q, hq⟩ : ∃ q, k + 5 * j = q := ⟨_, rfl⟩
    have HQ := Lib.hid hq
    have hq1 : 1 ≤ q := by omega
    rw [hq]
    by_cases hlt : j < l.length
    · have hqb : q + 5 ≤ 4611686018427387904 := by omega
      have hx : l[j]? = some l[j] := List.getElem?_eq_getElem hlt
      obtain ⟨ad, rfl, c0, c1, c2, c3, c4, c5, c6⟩ := lds_at HS.out HK.out (mapIdx_at (f := lmk k) hx)
      simp only [lmk, hq] at c0 c1 c2 c3 c4 c5 c6
      have KW := Lib.hid (Keep.refl Any wr)
      clear hq hx
      have e0 : ((mtx (q + 4)).toList != (mtx (q + 4)).toList) = false := by simp
      have k0 : (0 : Int) ≤ (j : Int) := by omega
      have k1 : (j : Int) < (l.length : Int) := by omega
      go_wp2_with (first | (go_at_call 58; refine (heldStringS_nil _ _ _ _).mono ?_; rintro e w2 ⟨rfl, hK⟩; have KW := Lib.hid (KW.out.trans hK); have c0 := hK.cell c0 trivial; have c1 := hK.cell c1 trivial; have c2 := hK.cell c2 trivial; have c3 := hK.cell c3 trivial; have c4 := hK.cell c4 trivial; have c5 := hK.cell c5 trivial; have c6 := hK.cell c6 trivial; clear hK) | (go_at_call 59; refine (heldValueSS_nil _ _ _ _).mono ?_; rintro e w2 ⟨rfl, hK⟩; have KW := Lib.hid (KW.out.trans hK); have c0 := hK.cell c0 trivial; have c1 := hK.cell c1 trivial; have c2 := hK.cell c2 trivial; have c3 := hK.cell c3 trivial; have c4 := hK.cell c4 trivial; have c5 := hK.cell c5 trivial; have c6 := hK.cell c6 trivial; clear hK))
      have C6 := Lib.hid c6
      go_region_with (go_at_call 31; refine (MT.out _ (q + 4) _ (by omega) (by omega) (by omega)).mono ?_; rintro e w3 ⟨rfl, hK3⟩; have c6' := hK3.cell C6.out trivial; have HK3 := Lib.hid hK3; clear hK3)
      all_goals
        go_wp2
        go_roundg (gk - 1)
        case rel => exact ⟨j + 1, by omega, (by refine congrArg (Value.int .i64) ?_; have h2 := HQ.out; push_cast; omega), by go_num, by have := HG.out; omega, HK.out.trans (KW.out.trans ((Keep.refl Any _).drew.trans HK3.out))⟩
        case measure => have := HG.out; omega
    · have HJ := Lib.hid (show j = l.length by omega)
      clear hq
      go_wp2
      go_ret
      exact ⟨ret_int (by have := HQ.out; rw [HJ.out] at this; omega), HK.out⟩
theorem mapIdx_rules (k n : Nat) (l : List Hd) (h : ∀ x, x ∈ l → x.rules.length = n) : (l.mapIdx (hmk k n)).length = l.length := by simp
/-- a server's marks -/
theorem markServer_calls (lh : List Hd) (lk : List Ld) (n : Nat) (a1 a2 : Option Addr) (c1 c2 : Nat) (k : Nat) (w : World) (o1 o2 : Nat → Prop) (h1 : SHds w o1 (.slice a1 lh.length c1) lh) (h2 : SLds w o2 (.slice a2 lk.length c2) lk) (hlt : (∀ i, o1 i → i < w.heap.size) ∧ ∀ i, o2 i → i < w.heap.size) (hd : ∀ i, o1 i → ¬ o2 i) (hall : ∀ x, x ∈ lh → x.rules.length = n) (hk : 1 ≤ k) (hb : k + lh.length * (5 + 2 * n) + 5 * lk.length ≤ 4611686018427387904) :
    Calls Try.prog 15 #[.agg #[.slice a1 lh.length c1, .slice a2 lk.length c2], .int .i64 k] w fun e w' => e = .returned (.int .i64 (k + lh.length * (5 + 2 * n) + 5 * lk.length : Nat)) ∧ SHds w' o1 (.slice a1 lh.length c1) (lh.mapIdx (hmk k n)) ∧ SLds w' o2 (.slice a2 lk.length c2) (lk.mapIdx (lmk (k + lh.length * (5 + 2 * n)))) ∧ Keep (fun i => ¬ o1 i ∧ ¬ o2 i) w w' := by
  have H1 := Lib.hid h1
  have H2 := Lib.hid h2
  have HD := Lib.hid hd
  have HLT := Lib.hid hlt
  clear h1 h2 hlt
  have MH := Lib.hid (fun s m w' (h : SHds w' o1 s lh) (hm : m = (k : Int)) => markHomes_calls lh n s m k w' o1 hm h hall hk (by omega))
  obtain ⟨q, hq⟩ : ∃ q, k + lh.length * (5 + 2 * n) = q := ⟨_, rfl⟩
  rw [hq] at hb MH ⊢
  have hq1 : 1 ≤ q := by omega
  have ML := Lib.hid (fun s m w' (h : SLds w' o2 s lk) (hm : m = (q : Int)) => markLinks_calls lk s m q w' o2 hm h hq1 hb)
  clear hq
  go_enter Try.func15, Try.ntmps15
  go_wp2_with fail
  refine (MH.out _ _ _ (SSl.keep H1.out (fun _ _ _ _ h k => SHd.keep h k) ((Keep.refl _ _).alloc _)) rfl).mono ?_
  rintro e w2 ⟨rfl, hS, hK⟩
  have S2 := Lib.hid hS
  have K2 := Lib.hid hK
  have hnb : Not' o1 w.heap.size := fun h => Nat.lt_irrefl _ (HLT.out.1 _ h)
  have B2 := Lib.hid (blk_keep hK (blk_new _ _) hnb)
  clear hS hK
  have x0 := (blk_cell B2.out 0).trans rfl
  have x1 := (blk_cell B2.out 1).trans rfl
  go_wp2_with fail
  refine (ML.out _ _ _ (SSl.keep (w' := w2) H2.out (fun _ _ _ _ h k => h) (((Keep.refl _ _).alloc _).trans (K2.out.mono fun i _ h h1 => HD.out i h1 h))) rfl).mono ?_
  rintro e w3 ⟨rfl, hS, hK⟩
  have S3 := Lib.hid hS
  have K3 := Lib.hid hK
  clear hS hK
  go_wp2
  go_ret
  exact ⟨rfl, SSl.keep S2.out (fun _ _ _ _ h k => SHd.keep h k) (K3.out.mono fun i _ h => HD.out i h), S3.out, (((Keep.refl _ _).alloc _).trans (K2.out.mono fun i _ h => h.1)).trans (K3.out.mono fun i _ h => h.2)⟩
/-- and read again -/
theorem heldServer_calls (lh : List Hd) (lk : List Ld) (n : Nat) (a1 a2 : Option Addr) (c1 c2 : Nat) (k : Nat) (w : World) (h1 : Hds w (.slice a1 lh.length c1) (lh.mapIdx (hmk k n))) (h2 : Lds w (.slice a2 lk.length c2) (lk.mapIdx (lmk (k + lh.length * (5 + 2 * n))))) (hall : ∀ x, x ∈ lh → x.rules.length = n) (hk : 1 ≤ k) (hb : k + lh.length * (5 + 2 * n) + 5 * lk.length ≤ 4611686018427387904) :
    Calls Try.prog 16 #[.agg #[.slice a1 lh.length c1, .slice a2 lk.length c2], .int .i64 k] w (Num (k + lh.length * (5 + 2 * n) + 5 * lk.length : Nat) w) := by
  have H1 := Lib.hid h1
  have H2 := Lib.hid h2
  clear h1 h2
  have MH := Lib.hid (fun s m w' (h : Hds w' s (lh.mapIdx (hmk k n))) (hm : m = (k : Int)) => heldHomes_calls lh n s m k w' hm h hall hk (by omega))
  obtain ⟨q, hq⟩ : ∃ q, k + lh.length * (5 + 2 * n) = q := ⟨_, rfl⟩
  rw [hq] at hb MH H2 ⊢
  have hq1 : 1 ≤ q := by omega
  have ML := Lib.hid (fun s m w' (h : Lds w' s (lk.mapIdx (lmk q))) (hm : m = (q : Int)) => heldLinks_calls lk s m q w' hm h hq1 hb)
  clear hq
  go_enter Try.func16, Try.ntmps16
  go_wp2_with fail
  refine (MH.out _ _ _ (Hds.keep H1.out ((Keep.refl _ _).alloc _)) rfl).mono ?_
  rintro e w2 ⟨rfl, hK⟩
  have K2 := Lib.hid (((Keep.refl Any w).alloc _).trans hK)
  have B2 := Lib.hid (blk_keep hK (blk_new _ _) trivial)
  clear hK
  have x0 := (blk_cell B2.out 0).trans rfl
  have x1 := (blk_cell B2.out 1).trans rfl
  go_wp2_with fail
  refine (ML.out _ _ _ (Lds.keep H2.out K2.out) rfl).mono ?_
  rintro e w3 ⟨rfl, hK⟩
  have K3 := Lib.hid (K2.out.trans hK)
  clear hK
  go_wp2
  go_ret
  exact ⟨rfl, K3.out⟩
end Go.Proofs.Ytlmonnhgjnjniaa

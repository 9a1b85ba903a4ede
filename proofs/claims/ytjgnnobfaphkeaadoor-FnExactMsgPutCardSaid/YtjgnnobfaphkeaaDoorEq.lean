/- The laws' own comparisons: of two that hold the same they say yes. -/
import Derived.Test.YtjgnnobfaphkeaaDoorBase
import Derived.Test.YtjgnnobfaphkeaaDoorKind
namespace Go.Proofs.YtjgnnobfaphkeaaDoor
open Go.RowKit
set_option linter.unusedVariables false
set_option linter.unusedSimpArgs false

theorem eqStrs_calls (l : List ByteArray) (s t : Value) (w : World) (hs : Strs w Any s l) (ht : Strs w Any t l) :
    Calls Tryd.prog 33 #[s, t] w (Tells true w) := by
  have HS := Lib.hid hs
  have HT := Lib.hid ht
  obtain ⟨ad, c, rfl, hc, hm, _⟩ := hs
  obtain ⟨ad', c', rfl, hc', hm', _⟩ := ht
  have hl : (((l.length : Nat) : Int) != ((l.length : Nat) : Int)) = false := by simp
  go_enter Tryd.func33, Tryd.ntmps33
  go_wp2
  go_loopg [5] (l.length + 1) (fun g i wr => ∃ k : Nat, k ≤ l.length ∧ i = .int .i64 k ∧ g = l.length + 1 - k ∧ Keep Any w wr)
  case atStart => exact ⟨0, by omega, rfl, rfl, Keep.refl _ _⟩
  case round =>
    obtain ⟨k, hk, rfl, hg, hK⟩ := hrel
    have HG := Lib.hid hg
    clear hg
    by_cases hlt : k < l.length
    · have hx : l[k]? = some l[k] := List.getElem?_eq_getElem hlt
      obtain ⟨ad, rfl, hB, c0⟩ := strs_at HS.out hK hx
      obtain ⟨ad', rfl, _, c1⟩ := strs_at HT.out hK hx
      generalize l[k] = x at *
      have k0 : (0 : Int) ≤ (k : Int) := by omega
      have k1 : (k : Int) < (l.length : Int) := by omega
      clear hx
      go_wp2
      go_quiet (fail)
      go_wp2
      go_roundg (gk - 1)
      case rel => exact ⟨k + 1, by omega, by go_num, by have := HG.out; omega, hK.drewN _⟩
      case measure => have := HG.out; omega
    · go_wp2
      go_ret
      exact ⟨rfl, hK⟩

def EqVals (l : List V) : Prop := ∀ (s t : Value) (w : World), Vals w Any s l → Vals w Any t l → Calls Tryd.prog 34 #[s, t] w (Tells true w)
def EqVal (v : V) : Prop := ∀ (a c a' c' : _) (w : World), VR w Any v [.int .i64 v.kind, .int .i64 v.num, .string v.text, .slice a v.list.length c] → VR w Any v [.int .i64 v.kind, .int .i64 v.num, .string v.text, .slice a' v.list.length c'] →
  Calls Tryd.prog 62 #[.agg #[.int .i64 v.kind, .int .i64 v.num, .string v.text, .slice a v.list.length c], .agg #[.int .i64 v.kind, .int .i64 v.num, .string v.text, .slice a' v.list.length c']] w (Tells true w)
theorem eqVal_of (v : V) (ih : EqVals v.list) : EqVal v := by
  intro a c a' c' w hv hu
  obtain ⟨s, e1, h1, h2, h3, hs⟩ := VR.iff.1 hv
  obtain ⟨t, e2, _, _, _, ht⟩ := VR.iff.1 hu
  simp only [List.cons.injEq, and_true, true_and] at e1 e2
  subst e1 e2
  have HS := Lib.hid hs
  have HT := Lib.hid ht
  have IH := Lib.hid ih
  clear hv hu ih hs ht
  have b1 : (v.kind != v.kind) = false := by simp
  have b2 : (v.num != v.num) = false := by simp
  have b3 : (v.text.toList != v.text.toList) = false := by simp
  go_enter Tryd.func62, Tryd.ntmps62
  go_wp2_with (go_at_call 34; refine (IH.out _ _ _ (Vals.keep HS.out (((Keep.refl _ _).alloc _).alloc _)) (Vals.keep HT.out (((Keep.refl _ _).alloc _).alloc _))).mono ?_; rintro e w2 ⟨rfl, hK⟩)
  go_ret
  exact ⟨rfl, (((Keep.refl _ _).alloc _).alloc _).trans hK⟩
theorem eqVals_of (l : List V) (ih : ∀ x, x ∈ l → EqVal x) : EqVals l := by
  intro s t w hs ht
  have HS := Lib.hid hs
  have HT := Lib.hid ht
  have IH := Lib.hid ih
  clear ih
  obtain ⟨ad, c, rfl, hc, hm, _⟩ := hs
  obtain ⟨ad', c', rfl, hc', hm', _⟩ := ht
  have hl : (((l.length : Nat) : Int) != ((l.length : Nat) : Int)) = false := by simp
  go_enter Tryd.func34, Tryd.ntmps34
  go_wp2
  go_loopg [5] (l.length + 1) (fun g i wr => ∃ k : Nat, k ≤ l.length ∧ i = .int .i64 k ∧ g = l.length + 1 - k ∧ Keep Any w wr)
  case atStart => exact ⟨0, by omega, rfl, rfl, Keep.refl _ _⟩
  case round =>
    obtain ⟨k, hk, rfl, hg, hK⟩ := hrel
    have HG := Lib.hid hg
    clear hg
    by_cases hlt : k < l.length
    · have hx : l[k]? = some l[k] := List.getElem?_eq_getElem hlt
      have IX := Lib.hid (IH.out _ (List.mem_of_getElem? hx))
      obtain ⟨ad, sa, sc, rfl, hvx, c0, c1, c2, c3⟩ := vals_at HS.out hK hx
      obtain ⟨ad', sa', sc', rfl, hux, d0, d1, d2, d3⟩ := vals_at HT.out hK hx
      generalize l[k] = x at *
      have HV := Lib.hid hvx
      have HU := Lib.hid hux
      have k0 : (0 : Int) ≤ (k : Int) := by omega
      have k1 : (k : Int) < (l.length : Int) := by omega
      clear hx hvx hux
      go_wp2
      go_region_with (go_at_call 62; refine (IX.out _ _ _ _ _ (HV.out.keep ((Keep.refl _ _).drew)) (HU.out.keep ((Keep.refl _ _).drew))).mono ?_; rintro e w2 ⟨rfl, hK2⟩)
      all_goals
        go_wp2
        go_roundg (gk - 1)
        case rel => exact ⟨k + 1, by omega, by go_num, by have := HG.out; omega, hK.drew.trans hK2⟩
        case measure => have := HG.out; omega
    · go_wp2
      go_ret
      exact ⟨rfl, hK⟩
theorem eqVal_all (n : Nat) : ∀ v : V, v.w = n → EqVal v := by
  induction n using Nat.strongRecOn with
  | _ n ih => exact fun v hv => eqVal_of v (eqVals_of _ fun x hx => by
      obtain ⟨j, hj, rfl⟩ := List.getElem_of_mem hx
      exact ih _ (hv ▸ V.w_lt (List.getElem?_eq_getElem hj)) _ rfl)
theorem eqVals_calls (l : List V) : EqVals l := eqVals_of l fun x _ => eqVal_all x.w x rfl
end Go.Proofs.YtjgnnobfaphkeaaDoor

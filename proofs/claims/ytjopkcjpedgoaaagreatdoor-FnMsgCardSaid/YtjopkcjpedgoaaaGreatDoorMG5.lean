/- Which values are ok: the program's ValueOk. For every value. The reference's text of an expression, for every one that is well made: some text of bounded size. l2Has, l2Add, l4Names of the reference. -/
import Derived.Test.YtjopkcjpedgoaaaGreatDoorMG3
import Derived.Test.YtjopkcjpedgoaaaGreatDoorMG4
import Derived.Test.YtjopkcjpedgoaaaGreatDoorMG2
import Derived.Deep.RegionHeld3
import Derived.WalkLawsBesides
import Derived.Deep.RegionLaw
import Derived.Deep.AppendLies
/- Which values are ok: the program's ValueOk. For every value. -/
namespace Go.Proofs.YtjopkcjpedgoaaaGreatDoor
open Go.RowKit
set_option linter.unusedVariables false
set_option linter.unusedSimpArgs false

theorem valueOk_calls (v : V) (cs : List Value) (w : World) (hv : VR w Any v cs) : Calls Tryz.prog 67 #[.agg cs.toArray] w (Tells (okV 3 v) w) := by
  have IH := hyd fun w => valueFits_calls 3 v cs w
  have HV := hyd hv
  obtain ⟨s,rfl,_⟩ := VR.iff.1 hv
  clear hv
  go_enter Tryz.func67,Tryz.ntmps67
  go_wp2_with (go_at_call 91;refine (IH.out _ (HV.out.keep ((Keep.refl _ _).alloc _)) (by omega)).mono ?_;rintro e w' ⟨rfl,hK⟩)
  go_ret
  exact ⟨rfl,((Keep.refl _ _).alloc _).trans hK⟩

/- The reference's text of an expression,for every one that is well made: some text of bounded size. -/
set_option maxRecDepth 20000
set_option maxHeartbeats 8000000
def SomeT (n : Nat) (w : World) (e : Ending) (w' : World) : Prop := ∃ x : ByteArray,x.size ≤ n ∧ e = .returned (.string x) ∧ Keep Any w w'
def txtB : Nat → Nat
  | 0 => 0
  | d + 1 => 2 * txtB d + 1000100
theorem txtB_le {d : Nat} (h : d ≤ 5) : txtB d ≤ 100000000 := by
  obtain rfl | rfl | rfl | rfl | rfl | rfl : d = 0 ∨ d = 1 ∨ d = 2 ∨ d = 3 ∨ d = 4 ∨ d = 5 := by omega
  all_goals decide
theorem l4Sign_calls (k : Int) (w : World) : Calls Tryz.prog 155 #[.int .i64 k] w fun e w' => ∃ x : ByteArray,x.size ≤ 3 ∧ e = .returned (.string x) ∧ w = w' := by
  go_enter Tryz.func155,Tryz.ntmps155
  go_wp2
  all_goals
    go_ret
    exact ⟨_,by decide,rfl,rfl⟩
def PutE (d : Nat) : Prop := ∀ (v : Ex) (cs : List Value) (w : World),Wf d v → ER w Any v cs → Calls Tryz.prog 138 #[.agg cs.toArray] w (SomeT (txtB d) w)
theorem l4Put_of (d : Nat) (hd : d ≤ 4) (ih : PutE d) : PutE (d + 1) := by
  intro v cs w hw hv
  have IH := hyd (show ∀ (v : Ex) (cs : List Value) (w : World),Wf d v → ER w Any v cs → Calls Tryz.prog 138 #[.agg cs.toArray] w (SomeT (txtB d) w) from ih)
  have PU := hyd (fun (v : V) cs w (h : VR w Any v cs) (ok : okV 3 v = true) => (l1Put_calls v cs w h ok).mono fun e w' h => (⟨_,by have := put_len3 ok (by omega);simp only [ByteArray.size,List.size_toArray];exact this,h.1,h.2⟩ : SomeT 1000000 w e w'))
  obtain ⟨va,vc,s,rfl,h1,hvv,h3,h4,hs⟩ := ER.iff.1 hv
  obtain ⟨g1,g2,g3,g4,g5,g6,g7⟩ := hw
  obtain ⟨kind,val,name,key,list⟩ := v
  simp only at *
  have hB : txtB (d + 1) = 2 * txtB d + 1000100 := rfl
  have hB2 := txtB_le (show d ≤ 5 by omega)
  have HS := hyd hs
  have HVV := hyd hvv
  have G1 := hyd g1
  have G7 := hyd g7
  obtain ⟨a,c,rfl,hc,hm,_⟩ := hs
  clear ih hv hvv g1 g7
  by_cases k1 : kind = 1
  · subst k1
    go_enter Tryz.func138,Tryz.ntmps138
    go_wp2_with (go_at_call 76;refine (PU.out _ _ _ (HVV.out.keep ((Keep.refl _ _).alloc _)) G1.out).mono ?_;rintro e w2 ⟨x,hx,rfl,hK2⟩)
    go_ret
    exact ⟨_,by omega,rfl,((Keep.refl _ _).alloc _).trans hK2⟩
  by_cases k2 : kind = 2
  · subst k2
    go_enter Tryz.func138,Tryz.ntmps138
    go_wp2
    go_ret
    exact ⟨_,by omega,rfl,((Keep.refl _ _).alloc _)⟩
  by_cases k3 : kind = 3
  · subst k3
    have n1 : ¬ 9223372036854775807 < name.size + 1 := by omega
    have n2 : ¬ 9223372036854775807 < name.size + 1 + key.size := by omega
    go_enter Tryz.func138,Tryz.ntmps138
    go_wp2
    go_ret
    exact ⟨_,by rw [ByteArray.size_append,ByteArray.size_append];have : (⟨#[46]⟩ : ByteArray).size = 1 := rfl;omega,rfl,((Keep.refl _ _).alloc _)⟩
  by_cases k4 : kind = 4
  · subst k4
    have n1 : ¬ 9223372036854775807 < 1 + name.size := by omega
    go_enter Tryz.func138,Tryz.ntmps138
    go_wp2
    go_ret
    exact ⟨_,by rw [ByteArray.size_append];have : (⟨#[36]⟩ : ByteArray).size = 1 := rfl;omega,rfl,((Keep.refl _ _).alloc _)⟩
  by_cases k14 : kind = 14
  · subst k14
    go_enter Tryz.func138,Tryz.ntmps138
    go_wp2
    go_ret
    exact ⟨_,by have : (⟨#[99,111,117,110,116,40,42,41]⟩ : ByteArray).size = 8 := rfl;omega,rfl,((Keep.refl _ _).alloc _)⟩
  have XS := hyd (fun (j : Nat) (hj : j < list.length) => (⟨list[j],List.getElem?_eq_getElem hj⟩ : ∃ x,list[j]? = some x))
  by_cases un : kind = 9 ∨ kind = 11 ∨ kind = 13 ∨ kind = 15
  · have hl : list.length = 1 := by rw [g6];unfold ar;rw [if_pos un]
    obtain ⟨x,hx⟩ := XS.out 0 (by omega)
    have hlt : (0 : Int) < (list.length : Int) := by omega
    obtain ⟨ad,xa,xc,pa,pc,rfl,hvx,c0,c1,c2,c3,c4,c5,c6,c7⟩ := exs_at HS.out ((Keep.refl Any w).alloc (.cells #[.int .i64 kind,.int .i64 val.kind,.int .i64 val.num,.string val.text,.slice va val.list.length vc,.string name,.string key,.slice a list.length c] 117 (0,0))) hx
    replace c0 : World.cell? _ ad = _ := c0
    replace c1 : World.cell? _ ⟨ad.block,ad.off + 1,none⟩ = _ := c1
    replace c2 : World.cell? _ ⟨ad.block,ad.off + 2,none⟩ = _ := c2
    replace c3 : World.cell? _ ⟨ad.block,ad.off + 3,none⟩ = _ := c3
    replace c4 : World.cell? _ ⟨ad.block,ad.off + 4,none⟩ = _ := c4
    replace c5 : World.cell? _ ⟨ad.block,ad.off + 5,none⟩ = _ := c5
    replace c6 : World.cell? _ ⟨ad.block,ad.off + 6,none⟩ = _ := c6
    replace c7 : World.cell? _ ⟨ad.block,ad.off + 7,none⟩ = _ := c7
    have GX := hyd (G7.out x (List.mem_of_getElem? hx))
    have HV := hyd hvx
    have HL := hyd hl
    clear hx hvx hl g6
    have sz : ∀ (t : ByteArray) (n : Nat),t.size ≤ n → t.size ≤ n := fun _ _ h => h
    rcases un with rfl | rfl | rfl | rfl
    all_goals
      go_enter Tryz.func138,Tryz.ntmps138
      go_wp2_with (go_at_call 138;refine (IH.out _ _ _ GX.out HV.out).mono ?_;rintro e w2 ⟨x,hx,rfl,hK2⟩;have n1 : ¬ 9223372036854775807 < 5 + x.size := (by omega);have n2 : ¬ 9223372036854775807 < 5 + x.size + 1 := (by omega);have n3 : ¬ 9223372036854775807 < 1 + x.size := (by omega);have n4 : ¬ 9223372036854775807 < 1 + x.size + 9 := (by omega);have n5 : ¬ 9223372036854775807 < 4 + x.size := (by omega);have n6 : ¬ 9223372036854775807 < 4 + x.size + 1 := (by omega))
      go_ret
      exact ⟨_,by simp only [ByteArray.size_append];simp only [ByteArray.size,List.size_toArray,Array.size];simp;omega,rfl,((Keep.refl _ _).alloc _).trans hK2⟩
  by_cases bi : kind = 5 ∨ kind = 6 ∨ kind = 7 ∨ kind = 8 ∨ kind = 10 ∨ kind = 12
  case neg => exfalso;omega
  have hl : list.length = 2 := by rw [g6];unfold ar;rw [if_neg un,if_pos bi]
  have BK := hyd bi
  obtain ⟨x0,hx0⟩ := XS.out 0 (by omega)
  obtain ⟨x1,hx1⟩ := XS.out 1 (by omega)
  have hlt : (0 : Int) < (list.length : Int) := by omega
  have hlt1 : (1 : Int) < (list.length : Int) := by omega
  have hltN : 0 < list.length := by omega
  have hlt1N : 1 < list.length := by omega
  have KW := hyd ((Keep.refl Any w).alloc (.cells #[.int .i64 kind,.int .i64 val.kind,.int .i64 val.num,.string val.text,.slice va val.list.length vc,.string name,.string key,.slice a list.length c] 117 (0,0)))
  have B1 := hyd (blk_new w (.cells #[.int .i64 kind,.int .i64 val.kind,.int .i64 val.num,.string val.text,.slice va val.list.length vc,.string name,.string key,.slice a list.length c] 117 (0,0)))
  obtain ⟨ad,xa,xc,pa,pc,rfl,hvx,c0,c1,c2,c3,c4,c5,c6,c7⟩ := exs_at HS.out KW.out hx0
  obtain ⟨ad',ya,yc,qa,qc,e,hvy,d0,d1,d2,d3,d4,d5,d6,d7⟩ := exs_at HS.out KW.out hx1
  cases e
  replace c0 : World.cell? _ ad = _ := c0
  replace c1 : World.cell? _ ⟨(ad).block,(ad).off + 1,none⟩ = _ := c1
  replace c2 : World.cell? _ ⟨(ad).block,(ad).off + 2,none⟩ = _ := c2
  replace c3 : World.cell? _ ⟨(ad).block,(ad).off + 3,none⟩ = _ := c3
  replace c4 : World.cell? _ ⟨(ad).block,(ad).off + 4,none⟩ = _ := c4
  replace c5 : World.cell? _ ⟨(ad).block,(ad).off + 5,none⟩ = _ := c5
  replace c6 : World.cell? _ ⟨(ad).block,(ad).off + 6,none⟩ = _ := c6
  replace c7 : World.cell? _ ⟨(ad).block,(ad).off + 7,none⟩ = _ := c7
  replace d0 : World.cell? _ ⟨ad.block,ad.off + 8,none⟩ = _ := d0
  replace d1 : World.cell? _ ⟨ad.block,ad.off + 8 + 1,none⟩ = _ := d1
  replace d2 : World.cell? _ ⟨ad.block,ad.off + 8 + 2,none⟩ = _ := d2
  replace d3 : World.cell? _ ⟨ad.block,ad.off + 8 + 3,none⟩ = _ := d3
  replace d4 : World.cell? _ ⟨ad.block,ad.off + 8 + 4,none⟩ = _ := d4
  replace d5 : World.cell? _ ⟨ad.block,ad.off + 8 + 5,none⟩ = _ := d5
  replace d6 : World.cell? _ ⟨ad.block,ad.off + 8 + 6,none⟩ = _ := d6
  replace d7 : World.cell? _ ⟨ad.block,ad.off + 8 + 7,none⟩ = _ := d7
  have GX := hyd (G7.out x0 (List.mem_of_getElem? hx0))
  have GY := hyd (G7.out x1 (List.mem_of_getElem? hx1))
  have HV := hyd hvx
  have HU := hyd hvy
  have HL := hyd hl
  have SI := hyd l4Sign_calls
  have y0 : (w.alloc (.cells #[.int .i64 kind,.int .i64 val.kind,.int .i64 val.num,.string val.text,.slice va val.list.length vc,.string name,.string key,.slice (some ad) list.length c] 117 (0,0))).cell? ⟨w.heap.size,0,none⟩ = some (.int .i64 kind) := (blk_cell B1.out 0).trans rfl
  have y7 : (w.alloc (.cells #[.int .i64 kind,.int .i64 val.kind,.int .i64 val.num,.string val.text,.slice va val.list.length vc,.string name,.string key,.slice (some ad) list.length c] 117 (0,0))).cell? ⟨w.heap.size,7,none⟩ = some (.slice (some ad) list.length c) := (blk_cell B1.out 7).trans rfl
  obtain ⟨t1,ht1⟩ : ∃ t,(kind == 1) = t := ⟨_,rfl⟩
  obtain rfl : t1 = false := by rw [← ht1,beq_eq_false_iff_ne];exact k1
  obtain ⟨t2,ht2⟩ : ∃ t,(kind == 2) = t := ⟨_,rfl⟩
  obtain rfl : t2 = false := by rw [← ht2,beq_eq_false_iff_ne];exact k2
  obtain ⟨t3,ht3⟩ : ∃ t,(kind == 3) = t := ⟨_,rfl⟩
  obtain rfl : t3 = false := by rw [← ht3,beq_eq_false_iff_ne];exact k3
  obtain ⟨t4,ht4⟩ : ∃ t,(kind == 4) = t := ⟨_,rfl⟩
  obtain rfl : t4 = false := by rw [← ht4,beq_eq_false_iff_ne];exact k4
  obtain ⟨t9,ht9⟩ : ∃ t,(kind == 9) = t := ⟨_,rfl⟩
  obtain rfl : t9 = false := by rw [← ht9,beq_eq_false_iff_ne];omega
  obtain ⟨t11,ht11⟩ : ∃ t,(kind == 11) = t := ⟨_,rfl⟩
  obtain rfl : t11 = false := by rw [← ht11,beq_eq_false_iff_ne];omega
  obtain ⟨t13,ht13⟩ : ∃ t,(kind == 13) = t := ⟨_,rfl⟩
  obtain rfl : t13 = false := by rw [← ht13,beq_eq_false_iff_ne];omega
  obtain ⟨t14,ht14⟩ : ∃ t,(kind == 14) = t := ⟨_,rfl⟩
  obtain rfl : t14 = false := by rw [← ht14,beq_eq_false_iff_ne];exact k14
  obtain ⟨t15,ht15⟩ : ∃ t,(kind == 15) = t := ⟨_,rfl⟩
  obtain rfl : t15 = false := by rw [← ht15,beq_eq_false_iff_ne];omega
  clear hx0 hx1 hvx hvy hl g6 un bi k1 k2 k3 k4 k14
  go_enter Tryz.func138,Tryz.ntmps138
  go_wp2
  generalize w.alloc (.cells #[.int .i64 kind,.int .i64 val.kind,.int .i64 val.num,.string val.text,.slice va val.list.length vc,.string name,.string key,.slice (some ad) list.length c] 117 (0,0)) = wr at *
  have kr : Keep Any wr wr.drew := (Keep.refl _ _).drew
  have SK := hyd (fun w' (h : Keep Any wr w') => (⟨h,h.cell y0 trivial,h.cell y7 trivial,h.cell c0 trivial,h.cell c1 trivial,h.cell c2 trivial,h.cell c3 trivial,h.cell c4 trivial,h.cell c5 trivial,h.cell c6 trivial,h.cell c7 trivial,h.cell d0 trivial,h.cell d1 trivial,h.cell d2 trivial,h.cell d3 trivial,h.cell d4 trivial,h.cell d5 trivial,h.cell d6 trivial,h.cell d7 trivial⟩ : Keep Any wr w' ∧ w'.cell? ⟨w.heap.size,0,none⟩ = some (.int .i64 kind) ∧ w'.cell? ⟨w.heap.size,7,none⟩ = some (.slice (some ad) list.length c) ∧ w'.cell? ad = some (.int .i64 x0.kind) ∧ w'.cell? ⟨(ad).block,(ad).off + 1,none⟩ = some (.int .i64 x0.val.kind) ∧ w'.cell? ⟨(ad).block,(ad).off + 2,none⟩ = some (.int .i64 x0.val.num) ∧ w'.cell? ⟨(ad).block,(ad).off + 3,none⟩ = some (.string x0.val.text) ∧ w'.cell? ⟨(ad).block,(ad).off + 4,none⟩ = some (.slice xa x0.val.list.length xc) ∧ w'.cell? ⟨(ad).block,(ad).off + 5,none⟩ = some (.string x0.name) ∧ w'.cell? ⟨(ad).block,(ad).off + 6,none⟩ = some (.string x0.key) ∧ w'.cell? ⟨(ad).block,(ad).off + 7,none⟩ = some (.slice pa x0.parts.length pc) ∧ w'.cell? ⟨ad.block,ad.off + 8,none⟩ = some (.int .i64 x1.kind) ∧ w'.cell? ⟨ad.block,ad.off + 8 + 1,none⟩ = some (.int .i64 x1.val.kind) ∧ w'.cell? ⟨ad.block,ad.off + 8 + 2,none⟩ = some (.int .i64 x1.val.num) ∧ w'.cell? ⟨ad.block,ad.off + 8 + 3,none⟩ = some (.string x1.val.text) ∧ w'.cell? ⟨ad.block,ad.off + 8 + 4,none⟩ = some (.slice ya x1.val.list.length yc) ∧ w'.cell? ⟨ad.block,ad.off + 8 + 5,none⟩ = some (.string x1.name) ∧ w'.cell? ⟨ad.block,ad.off + 8 + 6,none⟩ = some (.string x1.key) ∧ w'.cell? ⟨ad.block,ad.off + 8 + 7,none⟩ = some (.slice qa x1.parts.length qc)))
  go_region_held3 (fun w' => Keep Any wr w' ∧ w'.cell? ⟨w.heap.size,0,none⟩ = some (.int .i64 kind) ∧ w'.cell? ⟨w.heap.size,7,none⟩ = some (.slice (some ad) list.length c) ∧ w'.cell? ad = some (.int .i64 x0.kind) ∧ w'.cell? ⟨(ad).block,(ad).off + 1,none⟩ = some (.int .i64 x0.val.kind) ∧ w'.cell? ⟨(ad).block,(ad).off + 2,none⟩ = some (.int .i64 x0.val.num) ∧ w'.cell? ⟨(ad).block,(ad).off + 3,none⟩ = some (.string x0.val.text) ∧ w'.cell? ⟨(ad).block,(ad).off + 4,none⟩ = some (.slice xa x0.val.list.length xc) ∧ w'.cell? ⟨(ad).block,(ad).off + 5,none⟩ = some (.string x0.name) ∧ w'.cell? ⟨(ad).block,(ad).off + 6,none⟩ = some (.string x0.key) ∧ w'.cell? ⟨(ad).block,(ad).off + 7,none⟩ = some (.slice pa x0.parts.length pc) ∧ w'.cell? ⟨ad.block,ad.off + 8,none⟩ = some (.int .i64 x1.kind) ∧ w'.cell? ⟨ad.block,ad.off + 8 + 1,none⟩ = some (.int .i64 x1.val.kind) ∧ w'.cell? ⟨ad.block,ad.off + 8 + 2,none⟩ = some (.int .i64 x1.val.num) ∧ w'.cell? ⟨ad.block,ad.off + 8 + 3,none⟩ = some (.string x1.val.text) ∧ w'.cell? ⟨ad.block,ad.off + 8 + 4,none⟩ = some (.slice ya x1.val.list.length yc) ∧ w'.cell? ⟨ad.block,ad.off + 8 + 5,none⟩ = some (.string x1.name) ∧ w'.cell? ⟨ad.block,ad.off + 8 + 6,none⟩ = some (.string x1.key) ∧ w'.cell? ⟨ad.block,ad.off + 8 + 7,none⟩ = some (.slice qa x1.parts.length qc))
    (first | (go_split_ands;exact SK.out _ (Keep.trans (by first | assumption | exact Keep.drew (by assumption)) hK5)) | go_keep)
    (first
      | (go_at_call 155;refine (SI.out _ _).mono ?_;rintro e w5 ⟨s1,hs1,rfl,rfl⟩;have n3 : ¬ 9223372036854775807 < 1 + z1.size + 1 + s1.size := (by omega);have n4 : ¬ 9223372036854775807 < 1 + z1.size + 1 + s1.size + 1 := (by omega))
      | (go_at_call 138;(with_reducible refine (IH.out x0 _ _ GX.out (HV.out.keep (by first | assumption | exact kr.drew | exact Keep.drew (by assumption) | (go_split_ands;first | assumption | exact Keep.drew (by assumption))))).mono ?_);rintro e w5 ⟨z1,hz1,rfl,hK5⟩;have n1 : ¬ 9223372036854775807 < 1 + z1.size := (by omega);have n2 : ¬ 9223372036854775807 < 1 + z1.size + 1 := (by omega))
      | (go_at_call 138;(with_reducible refine (IH.out x1 _ _ GY.out (HU.out.keep (by first | assumption | exact kr.drew | exact Keep.drew (by assumption) | (go_split_ands;first | assumption | exact Keep.drew (by assumption))))).mono ?_);rintro e w5 ⟨z2,hz2,rfl,hK5⟩;have n5 : ¬ 9223372036854775807 < 1 + z1.size + 1 + s1.size + 1 + z2.size := (by omega);have n6 : ¬ 9223372036854775807 < 1 + z1.size + 1 + s1.size + 1 + z2.size + 1 := (by omega)))
  go_split_ands
  go_wp2
  go_ret
  have hsz : (⟨#[40]⟩ ++ z1 ++ ⟨#[32]⟩ ++ s1 ++ ⟨#[32]⟩ ++ z2 ++ ⟨#[41]⟩ : ByteArray).size ≤ txtB (d + 1) := by
    have e1 : (⟨#[40]⟩ : ByteArray).size = 1 := rfl
    have e2 : (⟨#[32]⟩ : ByteArray).size = 1 := rfl
    have e3 : (⟨#[41]⟩ : ByteArray).size = 1 := rfl
    rw [ByteArray.size_append,ByteArray.size_append,ByteArray.size_append,ByteArray.size_append,ByteArray.size_append,ByteArray.size_append,e1,e2,e3]
    omega
  exact ⟨_,hsz,rfl,KW.out.trans (by assumption)⟩
theorem l4Put_all : ∀ d,d ≤ 5 → PutE d
  | 0,_ => fun v cs w h _ => h.elim
  | d + 1,h => l4Put_of d (by omega) (l4Put_all d (by omega))

/- l2Has,l2Add,l4Names of the reference. -/
set_option maxRecDepth 20000
def hasB (l : List ByteArray) (t : ByteArray) : Bool := l.any fun x => x.toList == t.toList
theorem l2Has_quiet (l : List ByteArray) (v : Value) (t : ByteArray) (w : World) (hs : Strs w Any v l) : Calls Tryz.prog 131 #[v,.string t] w (fun e w' => e = .returned (.bool (hasB l t)) ∧ w' = w) := by
  have HS := hyd hs
  obtain ⟨a,c,rfl,hc,hm,_⟩ := hs
  go_enter Tryz.func131,Tryz.ntmps131
  go_wp2
  go_loopg [5] (l.length + 1) (fun g i wr => ∃ k : Nat,k ≤ l.length ∧ i = .int .i64 k ∧ g = l.length + 1 - k ∧ hasB (l.take k) t = false ∧ wr = w)
  case atStart => exact ⟨0,by omega,rfl,rfl,rfl,rfl⟩
  case round =>
    obtain ⟨k,hk,rfl,hg,hh,rfl⟩ := hrel
    have HG := hyd hg
    have HH := hyd hh
    clear hg hh
    by_cases hlt : k < l.length
    · have hx : l[k]? = some l[k] := List.getElem?_eq_getElem hlt
      obtain ⟨ad,rfl,_,c0⟩ := strs_at HS.out (Keep.refl Any wr) hx
      have HT := hyd (show l.take (k + 1) = l.take k ++ [l[k]] from List.take_succ_eq_append_getElem hlt)
      have HM := hyd (List.mem_of_getElem? hx)
      generalize l[k] = x at *
      clear hx
      obtain ⟨u,hu⟩ : ∃ u,(x.toList == t.toList) = u := ⟨_,rfl⟩
      cases u
      · go_wp2
        go_roundg (gk - 1)
        case rel => exact ⟨k + 1,by omega,by go_num,by have := HG.out;omega,by rw [HT.out,hasB,List.any_append];have h := HH.out;rw [hasB] at h;rw [h];simp [hu],rfl⟩
        case measure => have := HG.out;omega
      · go_wp2
        go_ret
        exact ⟨by rw [show hasB l t = true from List.any_eq_true.2 ⟨x,HM.out,hu⟩];rfl,rfl⟩
    · obtain rfl : k = l.length := by omega
      go_wp2
      go_ret
      exact ⟨by have h := HH.out;rw [List.take_length] at h;rw [h];rfl,rfl⟩
theorem l2Has_calls (l : List ByteArray) (v : Value) (t : ByteArray) (w : World) (hs : Strs w Any v l) : Calls Tryz.prog 131 #[v,.string t] w (SomeB w) := (l2Has_quiet l v t w hs).mono fun e w' h => ⟨_,h.1,h.2 ▸ Keep.refl _ _⟩
def GotN (n : Nat) (w : World) (e : Ending) (w' : World) : Prop := ∃ (v : Value) (l : List ByteArray),e = .returned v ∧ Strs w' Any v l ∧ l.length ≤ n ∧ (∀ x,x ∈ l → x.size ≤ 100) ∧ Keep Any w w'
end Go.Proofs.YtjopkcjpedgoaaaGreatDoor

/- The reference's text of a clause that sets or deletes. -/
import Derived.Test.YtjopkcjpedgoaaaGreatDoorMG8
import Derived.Test.YtjopkcjpedgoaaaGreatDoorMG2
import Derived.Test.YtjopkcjpedgoaaaGreatDoorMGAt
/- The reference's text of a clause that sets or deletes. -/
namespace Go.Proofs.YtjopkcjpedgoaaaGreatDoor
open Go.RowKit
set_option linter.unusedVariables false
set_option linter.unusedSimpArgs false
set_option maxRecDepth 20000
set_option maxHeartbeats 4000000
theorem l5PutClause_k0 (x : Cl) (cs : List Value) (w : World) (hs : ClR w Any x cs) (hw : WfCl x) (hki : ¬ (1 ≤ x.kind ∧ x.kind ≤ 7)) : Calls Tryz.prog 106 #[.agg cs.toArray] w (SomeT 2000000000 w) := by
  have HCL := hyd hs
  obtain ⟨ap,cp,va,vc,pa,pc,ai,ci,ao,co,at',ct,an,cn,rfl,hk,hpa,hex,hna,hit,hod,hsk,hli,hto,hns⟩ := cl_open hs
  have HPA := hyd hpa
  have HEX := hyd hex
  have HIT := hyd hit
  have HOD := hyd hod
  have HTO := hyd hto
  have HNS := hyd hns
  have WC := hyd hw
  have li10 : x.items.length ≤ 10 := hw.items.1
  have lo10 : x.orders.length ≤ 10 := hw.orders.1
  have lt10 : x.tos.length ≤ 10 := hw.tos.1
  have ln10 : x.names.length ≤ 10 := hw.names.1
  have hna100 : x.name.size ≤ 100 := hw.name
  have PE := hyd (fun (v : Ex) cs w (h : Wf 4 v) (k : ER w Any v cs) => (l4Put_all 4 (by decide) v cs w h k).mono fun e w' h => (h : SomeT (txtB 4) w e w'))
  have tb : txtB 4 = 15001500 := by decide
  rw [tb] at PE
  have KW := hyd ((Keep.refl Any w).alloc (.cells #[.int .i64 x.kind,.slice ap x.paths.length cp,.int .i64 x.ex.kind,.int .i64 x.ex.val.kind,.int .i64 x.ex.val.num,.string x.ex.val.text,.slice va x.ex.val.list.length vc,.string x.ex.name,.string x.ex.key,.slice pa x.ex.parts.length pc,.string x.name,.slice ai x.items.length ci,.bool x.distinct,.slice ao x.orders.length co,.int .i64 x.skip,.int .i64 x.limit,.slice at' x.tos.length ct,.slice an x.names.length cn,.bool x.detach] 122 (0,0)))
  have BX := hyd (blk_new w (.cells #[.int .i64 x.kind,.slice ap x.paths.length cp,.int .i64 x.ex.kind,.int .i64 x.ex.val.kind,.int .i64 x.ex.val.num,.string x.ex.val.text,.slice va x.ex.val.list.length vc,.string x.ex.name,.string x.ex.key,.slice pa x.ex.parts.length pc,.string x.name,.slice ai x.items.length ci,.bool x.distinct,.slice ao x.orders.length co,.int .i64 x.skip,.int .i64 x.limit,.slice at' x.tos.length ct,.slice an x.names.length cn,.bool x.detach] 122 (0,0)))
  clear hw hs hpa hex hit hod hto hns
  have q1 : (x.kind == 1) = false := by rw [beq_eq_false_iff_ne];omega
  have q2 : (x.kind == 2) = false := by rw [beq_eq_false_iff_ne];omega
  have q7 : (x.kind == 7) = false := by rw [beq_eq_false_iff_ne];omega
  have q3 : (x.kind == 3) = false := by rw [beq_eq_false_iff_ne];omega
  have q4 : (x.kind == 4) = false := by rw [beq_eq_false_iff_ne];omega
  have q5 : (x.kind == 5) = false := by rw [beq_eq_false_iff_ne];omega
  have q6 : (x.kind == 6) = false := by rw [beq_eq_false_iff_ne];omega
  have HKI := hyd hki
  clear hki
  go_enter Tryz.func106,Tryz.ntmps106
  go_upto_region 1 with fail
  generalize w.alloc (.cells #[.int .i64 x.kind,.slice ap x.paths.length cp,.int .i64 x.ex.kind,.int .i64 x.ex.val.kind,.int .i64 x.ex.val.num,.string x.ex.val.text,.slice va x.ex.val.list.length vc,.string x.ex.name,.string x.ex.key,.slice pa x.ex.parts.length pc,.string x.name,.slice ai x.items.length ci,.bool x.distinct,.slice ao x.orders.length co,.int .i64 x.skip,.int .i64 x.limit,.slice at' x.tos.length ct,.slice an x.names.length cn,.bool x.detach] 122 (0,0)) = w1 at *
  generalize (Value.agg #[.int .i64 x.kind,.slice ap x.paths.length cp,.int .i64 x.ex.kind,.int .i64 x.ex.val.kind,.int .i64 x.ex.val.num,.string x.ex.val.text,.slice va x.ex.val.list.length vc,.string x.ex.name,.string x.ex.key,.slice pa x.ex.parts.length pc,.string x.name,.slice ai x.items.length ci,.bool x.distinct,.slice ao x.orders.length co,.int .i64 x.skip,.int .i64 x.limit,.slice at' x.tos.length ct,.slice an x.names.length cn,.bool x.detach]) = A0
  obtain ⟨y0,y1,y2,y3,y4,y5,y6,y7,y8,y9,y10,y11,y12,y13,y14,y15,y16,y17,y18⟩ := at19c BX.out
  go_wp2
  go_loopg [3,4] (x.tos.length + 1) (fun g o i wr => ∃ (k : Nat) (t : ByteArray),k ≤ x.tos.length ∧ o = .string t ∧ i = .int .i64 k ∧ g = x.tos.length + 1 - k ∧ t.size ≤ k * 15001900 ∧ wr.heap[w.heap.size]? = some (.cells #[.int .i64 x.kind,.slice ap x.paths.length cp,.int .i64 x.ex.kind,.int .i64 x.ex.val.kind,.int .i64 x.ex.val.num,.string x.ex.val.text,.slice va x.ex.val.list.length vc,.string x.ex.name,.string x.ex.key,.slice pa x.ex.parts.length pc,.string x.name,.slice ai x.items.length ci,.bool x.distinct,.slice ao x.orders.length co,.int .i64 x.skip,.int .i64 x.limit,.slice at' x.tos.length ct,.slice an x.names.length cn,.bool x.detach] 122 (0,0)) ∧ Keep Any w wr)
  case atStart => exact ⟨0,⟨#[]⟩,by omega,rfl,rfl,rfl,by decide,BX.out,KW.out⟩
  case round =>
    clear KW BX
    obtain ⟨k,t,hk,rfl,rfl,hg,hT,hB,hK⟩ := hrel
    have HG := hyd hg
    have KW := hyd hK
    have BX := hyd hB
    clear hg hK hB
    obtain ⟨y0,y1,y2,y3,y4,y5,y6,y7,y8,y9,y10,y11,y12,y13,y14,y15,y16,y17,y18⟩ := at19c BX.out
    by_cases hlt : k < x.tos.length
    · have hx : x.tos[k]? = some x.tos[k] := List.getElem?_eq_getElem hlt
      have WX := hyd (WC.out.tos.2 _ (List.mem_of_getElem? hx))
      obtain ⟨adz,vaz,vcz,paz,pcz,e,hFz,hGz,FX⟩ := tts_all HTO.out hx
      have FX := hyd FX
      cases e
      generalize x.tos[k] = z at *
      clear hx
      obtain ⟨hvz,cz0,cz1,cz2,cz3,cz4,cz5,cz6,cz7,cz8,cz9⟩ := FX.out _ KW.out
      have Hhvz := hyd hvz
      clear hvz
      have k0 : (0 : Int) ≤ (k : Int) := by omega
      have k1 : (k : Int) < (x.tos.length : Int) := by omega
      have s1 : z.name.size ≤ 100 := WX.out.1
      have s2 : z.key.size ≤ 100 := WX.out.2.1
      have W2 := hyd (show Wf 4 z.ex from WX.out.2.2)
      obtain ⟨tp,htp⟩ : ∃ t,decide (0 < k) = t := ⟨_,rfl⟩
      have n1 : ¬ 9223372036854775807 < t.size + 1 := by omega
      go_upto_if 60 with fail
      go_cut [3] from 61 to 62 (fun v wc => ∃ y : ByteArray,v = .string y ∧ y.size ≤ t.size + 1 ∧ wr = wc)
      case first =>
        cases tp
        all_goals
          go_wp2
          go_meet
          exact ⟨_,rfl,(by (try simp only [ByteArray.size_append]);(try simp only [show (⟨#[44]⟩ : ByteArray).size = 1 from rfl]);omega),rfl⟩
      case rest =>
      obtain ⟨t1,rfl,ht1,hw⟩ := hcut
      subst hw
      have n2 : ¬ 9223372036854775807 < t1.size + 1 := by omega
      have n3 : ¬ 9223372036854775807 < t1.size + 1 + z.name.size := by omega
      have n4 : ¬ 9223372036854775807 < t1.size + 1 + z.name.size + 1 := by omega
      have n5 : ¬ 9223372036854775807 < t1.size + 1 + z.name.size + 1 + z.key.size := by omega
      have n6 : ¬ 9223372036854775807 < t1.size + 1 + z.name.size + 1 + z.key.size + 3 := by omega
      go_wp2
      have kr : Keep Any wr wr.drew := (Keep.refl _ _).drew
      have SK := hyd (fun w' (h : Keep Any wr w') => (⟨h,h.cell cz0 trivial,h.cell cz1 trivial,h.cell cz2 trivial,h.cell cz3 trivial,h.cell cz4 trivial,h.cell cz5 trivial,h.cell cz6 trivial,h.cell cz7 trivial,h.cell cz8 trivial,h.cell cz9 trivial,h.cell y16 trivial⟩ : Keep Any wr w' ∧ w'.cell? (adz.add (k * 10)) = some (.string z.name) ∧ w'.cell? ⟨(adz.add (k * 10)).block,(adz.add (k * 10)).off + 1,none⟩ = some (.string z.key) ∧ w'.cell? ⟨(adz.add (k * 10)).block,(adz.add (k * 10)).off + 2,none⟩ = some (.int .i64 z.ex.kind) ∧ w'.cell? ⟨(adz.add (k * 10)).block,(adz.add (k * 10)).off + 3,none⟩ = some (.int .i64 z.ex.val.kind) ∧ w'.cell? ⟨(adz.add (k * 10)).block,(adz.add (k * 10)).off + 4,none⟩ = some (.int .i64 z.ex.val.num) ∧ w'.cell? ⟨(adz.add (k * 10)).block,(adz.add (k * 10)).off + 5,none⟩ = some (.string z.ex.val.text) ∧ w'.cell? ⟨(adz.add (k * 10)).block,(adz.add (k * 10)).off + 6,none⟩ = some (.slice vaz z.ex.val.list.length vcz) ∧ w'.cell? ⟨(adz.add (k * 10)).block,(adz.add (k * 10)).off + 7,none⟩ = some (.string z.ex.name) ∧ w'.cell? ⟨(adz.add (k * 10)).block,(adz.add (k * 10)).off + 8,none⟩ = some (.string z.ex.key) ∧ w'.cell? ⟨(adz.add (k * 10)).block,(adz.add (k * 10)).off + 9,none⟩ = some (.slice paz z.ex.parts.length pcz) ∧ w'.cell? ⟨w.heap.size,16,none⟩ = some (.slice (some adz) x.tos.length ct)))
      go_region_held3 (fun w' => Keep Any wr w' ∧ w'.cell? (adz.add (k * 10)) = some (.string z.name) ∧ w'.cell? ⟨(adz.add (k * 10)).block,(adz.add (k * 10)).off + 1,none⟩ = some (.string z.key) ∧ w'.cell? ⟨(adz.add (k * 10)).block,(adz.add (k * 10)).off + 2,none⟩ = some (.int .i64 z.ex.kind) ∧ w'.cell? ⟨(adz.add (k * 10)).block,(adz.add (k * 10)).off + 3,none⟩ = some (.int .i64 z.ex.val.kind) ∧ w'.cell? ⟨(adz.add (k * 10)).block,(adz.add (k * 10)).off + 4,none⟩ = some (.int .i64 z.ex.val.num) ∧ w'.cell? ⟨(adz.add (k * 10)).block,(adz.add (k * 10)).off + 5,none⟩ = some (.string z.ex.val.text) ∧ w'.cell? ⟨(adz.add (k * 10)).block,(adz.add (k * 10)).off + 6,none⟩ = some (.slice vaz z.ex.val.list.length vcz) ∧ w'.cell? ⟨(adz.add (k * 10)).block,(adz.add (k * 10)).off + 7,none⟩ = some (.string z.ex.name) ∧ w'.cell? ⟨(adz.add (k * 10)).block,(adz.add (k * 10)).off + 8,none⟩ = some (.string z.ex.key) ∧ w'.cell? ⟨(adz.add (k * 10)).block,(adz.add (k * 10)).off + 9,none⟩ = some (.slice paz z.ex.parts.length pcz) ∧ w'.cell? ⟨w.heap.size,16,none⟩ = some (.slice (some adz) x.tos.length ct))
        (first | (go_split_ands;exact SK.out _ (Keep.trans (by first | assumption | exact Keep.drew (by assumption)) hK5)) | go_keep)
        (first | (go_at_call 138;(with_reducible refine (PE.out z.ex _ _ W2.out (Hhvz.out.keep (by first | assumption | exact kr.drew | exact Keep.drew (by assumption) | (go_split_ands;first | assumption | exact Keep.drew (by assumption))))).mono ?_);rintro e w5 ⟨z1,hz1,rfl,hK5⟩;have n7 : ¬ 9223372036854775807 < t1.size + 1 + z.name.size + 1 + z.key.size + 3 + z1.size := (by omega)))
      go_split_ands
      have hKK := hyd (show Keep Any wr _ by assumption)
      go_wp2
      go_roundg (gk - 1)
      case rel => exact ⟨k + 1,_,by omega,rfl,by go_num,by have := HG.out;omega,(by (try simp only [ByteArray.size_append]);(try simp only [show (⟨#[32]⟩ : ByteArray).size = 1 from rfl,show (⟨#[46]⟩ : ByteArray).size = 1 from rfl,show (⟨#[32,61,32]⟩ : ByteArray).size = 3 from rfl]);omega),blk_keep hKK.out BX.out trivial,KW.out.trans hKK.out⟩
      case measure => have := HG.out;omega
    · go_wp2
      obtain ⟨wz,hwz⟩ : ∃ wz,wz = wr := ⟨_,rfl⟩
      rw [← hwz] at BX KW ⊢
      clear hwz HG
      have hT2 : t.size ≤ 150019000 := by omega
      clear hT
      obtain ⟨t2,ht2⟩ : ∃ t2,t2 = t := ⟨_,rfl⟩
      rw [← ht2] at hT2 ⊢
      clear ht2 hlt hk
      go_loopg [3,5] (x.names.length + 1) (fun g o i wr => ∃ (k : Nat) (t : ByteArray),k ≤ x.names.length ∧ o = .string t ∧ i = .int .i64 k ∧ g = x.names.length + 1 - k ∧ t.size ≤ 150019000 + k * 110 ∧ wr.heap[w.heap.size]? = some (.cells #[.int .i64 x.kind,.slice ap x.paths.length cp,.int .i64 x.ex.kind,.int .i64 x.ex.val.kind,.int .i64 x.ex.val.num,.string x.ex.val.text,.slice va x.ex.val.list.length vc,.string x.ex.name,.string x.ex.key,.slice pa x.ex.parts.length pc,.string x.name,.slice ai x.items.length ci,.bool x.distinct,.slice ao x.orders.length co,.int .i64 x.skip,.int .i64 x.limit,.slice at' x.tos.length ct,.slice an x.names.length cn,.bool x.detach] 122 (0,0)) ∧ Keep Any w wr)
      case atStart => exact ⟨0,t2,by omega,rfl,rfl,rfl,by omega,BX.out,KW.out⟩
      case round =>
        clear KW BX
        obtain ⟨k,t,hk,rfl,rfl,hg,hT,hB,hK⟩ := hrel
        have HG := hyd hg
        have KW := hyd hK
        have BX := hyd hB
        clear hg hK hB
        obtain ⟨y0,y1,y2,y3,y4,y5,y6,y7,y8,y9,y10,y11,y12,y13,y14,y15,y16,y17,y18⟩ := at19c BX.out
        by_cases hlt : k < x.names.length
        · have hx : x.names[k]? = some x.names[k] := List.getElem?_eq_getElem hlt
          have SX := hyd (WC.out.names.2 _ (List.mem_of_getElem? hx))
          obtain ⟨adz,e,hFz,FX⟩ := strs_all HNS.out hx
          have FX := hyd FX
          cases e
          generalize x.names[k] = z at *
          clear hx
          have cz0 := FX.out _ KW.out
          have k0 : (0 : Int) ≤ (k : Int) := by omega
          have k1 : (k : Int) < (x.names.length : Int) := by omega
          have s1 : z.size ≤ 100 := SX.out
          obtain ⟨tp,htp⟩ : ∃ t,decide (0 < k) = t := ⟨_,rfl⟩
          have n1 : ¬ 9223372036854775807 < t.size + 1 := by omega
          go_upto_if 97 with fail
          go_cut [3] from 98 to 99 (fun v wc => ∃ y : ByteArray,v = .string y ∧ y.size ≤ t.size + 1 ∧ wr = wc)
          case first =>
            cases tp
            all_goals
              go_wp2
              go_meet
              exact ⟨_,rfl,(by (try simp only [ByteArray.size_append]);(try simp only [show (⟨#[44]⟩ : ByteArray).size = 1 from rfl]);omega),rfl⟩
          case rest =>
          obtain ⟨t1,rfl,ht1,hw⟩ := hcut
          subst hw
          have n3 : ¬ 9223372036854775807 < t1.size + 1 := by omega
          have n4 : ¬ 9223372036854775807 < t1.size + 1 + z.size := by omega
          go_wp2
          go_roundg (gk - 1)
          case rel => exact ⟨k + 1,_,by omega,rfl,by go_num,by have := HG.out;omega,(by (try simp only [ByteArray.size_append]);(try simp only [show (⟨#[32]⟩ : ByteArray).size = 1 from rfl]);omega),BX.out,KW.out⟩
          case measure => have := HG.out;omega
        · have hT3 : t.size ≤ 150020100 := by omega
          clear hT
          have n1 : ¬ 9223372036854775807 < 3 + t.size := by omega
          have n2 : ¬ 9223372036854775807 < 13 + t.size := by omega
          have n3 : ¬ 9223372036854775807 < 6 + t.size := by omega
          go_wp2
          all_goals
            go_ret
            exact ⟨_,(by (try simp only [ByteArray.size_append]);(try simp only [show (⟨#[83,69,84]⟩ : ByteArray).size = 3 from rfl,show (⟨#[68,69,84,65,67,72,32,68,69,76,69,84,69]⟩ : ByteArray).size = 13 from rfl,show (⟨#[68,69,76,69,84,69]⟩ : ByteArray).size = 6 from rfl]);omega),rfl,KW.out⟩
end Go.Proofs.YtjopkcjpedgoaaaGreatDoor

/- The reference's text of columns. The reference's text of a clause, for some kinds of it. -/
import Derived.Test.YtjopkcjpedgoaaaGreatDoorMC9
import Derived.Test.YtjopkcjpedgoaaaGreatDoorMC1
import Derived.Test.YtjopkcjpedgoaaaGreatDoorMCAt
import Derived.Test.YtjopkcjpedgoaaaGreatDoorMC2
/- The reference's text of columns. -/
namespace Go.Proofs.YtjopkcjpedgoaaaGreatDoor
open Go.RowKit
set_option linter.unusedVariables false
set_option linter.unusedSimpArgs false
set_option maxRecDepth 20000
set_option maxHeartbeats 4000000
theorem l1Dec_some (n : Int) (w : World) (h0 : -1000000000 ≤ n) (h1 : n ≤ 1000000000) : Calls Tryz.prog 24 #[.int .i64 n] w (SomeT 21 w) :=
  (l1Dec_calls n w (by omega) (by omega)).mono fun e w' h => ⟨_,by simp only [ByteArray.size,List.size_toArray];exact itoa_len2 n h0 h1,h.1,h.2⟩
theorem l5PutItems_calls (x : Cl) (cs : List Value) (w : World) (hs : ClR w Any x cs) (hw : WfCl x) : Calls Tryz.prog 139 #[.agg cs.toArray] w (SomeT 151000000 w) := by
  have hnums := hw.nums
  obtain ⟨ap,cp,va,vc,pa,pc,ai,ci,ao,co,at',ct,an,cn,rfl,hk,hpa,hex,hna,hit,hod,hsk,hli,hto,hns⟩ := cl_open hs
  have HPA := hyd hpa
  have HEX := hyd hex
  have HIT := hyd hit
  have HOD := hyd hod
  have HTO := hyd hto
  have HNS := hyd hns
  have WC := hyd hw
  have li10 : x.items.length ≤ 10 := hw.items.1
  have lo10 : x.orders.length ≤ 10 := hw.orders.1
  have lt10 : x.tos.length ≤ 10 := hw.tos.1
  have ln10 : x.names.length ≤ 10 := hw.names.1
  have hna100 : x.name.size ≤ 100 := hw.name
  have PE := hyd (fun (v : Ex) cs w (h : Wf 4 v) (k : ER w Any v cs) => (l4Put_all 4 (by decide) v cs w h k).mono fun e w' h => (h : SomeT (txtB 4) w e w'))
  have tb : txtB 4 = 15001500 := by decide
  rw [tb] at PE
  have KW := hyd ((Keep.refl Any w).alloc (.cells #[.int .i64 x.kind,.slice ap x.paths.length cp,.int .i64 x.ex.kind,.int .i64 x.ex.val.kind,.int .i64 x.ex.val.num,.string x.ex.val.text,.slice va x.ex.val.list.length vc,.string x.ex.name,.string x.ex.key,.slice pa x.ex.parts.length pc,.string x.name,.slice ai x.items.length ci,.bool x.distinct,.slice ao x.orders.length co,.int .i64 x.skip,.int .i64 x.limit,.slice at' x.tos.length ct,.slice an x.names.length cn,.bool x.detach] 122 (0,0)))
  have BX := hyd (blk_new w (.cells #[.int .i64 x.kind,.slice ap x.paths.length cp,.int .i64 x.ex.kind,.int .i64 x.ex.val.kind,.int .i64 x.ex.val.num,.string x.ex.val.text,.slice va x.ex.val.list.length vc,.string x.ex.name,.string x.ex.key,.slice pa x.ex.parts.length pc,.string x.name,.slice ai x.items.length ci,.bool x.distinct,.slice ao x.orders.length co,.int .i64 x.skip,.int .i64 x.limit,.slice at' x.tos.length ct,.slice an x.names.length cn,.bool x.detach] 122 (0,0)))
  clear hw hs hpa hex hit hod hto hns
  go_enter Tryz.func139,Tryz.ntmps139
  go_upto_region 1 with fail
  generalize w.alloc (.cells #[.int .i64 x.kind,.slice ap x.paths.length cp,.int .i64 x.ex.kind,.int .i64 x.ex.val.kind,.int .i64 x.ex.val.num,.string x.ex.val.text,.slice va x.ex.val.list.length vc,.string x.ex.name,.string x.ex.key,.slice pa x.ex.parts.length pc,.string x.name,.slice ai x.items.length ci,.bool x.distinct,.slice ao x.orders.length co,.int .i64 x.skip,.int .i64 x.limit,.slice at' x.tos.length ct,.slice an x.names.length cn,.bool x.detach] 122 (0,0)) = w1 at *
  generalize (Value.agg #[.int .i64 x.kind,.slice ap x.paths.length cp,.int .i64 x.ex.kind,.int .i64 x.ex.val.kind,.int .i64 x.ex.val.num,.string x.ex.val.text,.slice va x.ex.val.list.length vc,.string x.ex.name,.string x.ex.key,.slice pa x.ex.parts.length pc,.string x.name,.slice ai x.items.length ci,.bool x.distinct,.slice ao x.orders.length co,.int .i64 x.skip,.int .i64 x.limit,.slice at' x.tos.length ct,.slice an x.names.length cn,.bool x.detach]) = A0
  obtain ⟨y0,y1,y2,y3,y4,y5,y6,y7,y8,y9,y10,y11,y12,y13,y14,y15,y16,y17,y18⟩ := at19c BX.out
  obtain ⟨xd,hxd⟩ : ∃ t,x.distinct = t := ⟨_,rfl⟩
  go_upto_if 7 with fail
  go_cut [3] from 6 to 7 (fun v wc => ∃ y : ByteArray,v = .string y ∧ y.size ≤ 9 ∧ w1 = wc)
  case first =>
    cases xd
    all_goals
      go_wp2
      go_meet
      exact ⟨_,rfl,by decide,rfl⟩
  case rest =>
  obtain ⟨t0,rfl,ht0,hw⟩ := hcut
  subst hw
  clear hxd
  go_wp2
  go_loopg [3,4] (x.items.length + 1) (fun g o i wr => ∃ (k : Nat) (t : ByteArray),k ≤ x.items.length ∧ o = .string t ∧ i = .int .i64 k ∧ g = x.items.length + 1 - k ∧ t.size ≤ 9 + k * 15001700 ∧ wr.heap[w.heap.size]? = some (.cells #[.int .i64 x.kind,.slice ap x.paths.length cp,.int .i64 x.ex.kind,.int .i64 x.ex.val.kind,.int .i64 x.ex.val.num,.string x.ex.val.text,.slice va x.ex.val.list.length vc,.string x.ex.name,.string x.ex.key,.slice pa x.ex.parts.length pc,.string x.name,.slice ai x.items.length ci,.bool x.distinct,.slice ao x.orders.length co,.int .i64 x.skip,.int .i64 x.limit,.slice at' x.tos.length ct,.slice an x.names.length cn,.bool x.detach] 122 (0,0)) ∧ Keep Any w wr)
  case atStart => exact ⟨0,t0,by omega,rfl,rfl,rfl,by omega,BX.out,KW.out⟩
  case round =>
    clear KW BX
    obtain ⟨k,t,hk,rfl,rfl,hg,hT,hB,hK⟩ := hrel
    have HG := hyd hg
    have KW := hyd hK
    have BX := hyd hB
    clear hg hK hB
    obtain ⟨y0,y1,y2,y3,y4,y5,y6,y7,y8,y9,y10,y11,y12,y13,y14,y15,y16,y17,y18⟩ := at19c BX.out
    by_cases hlt : k < x.items.length
    · have hx : x.items[k]? = some x.items[k] := List.getElem?_eq_getElem hlt

      have WX := hyd (WC.out.items.2 _ (List.mem_of_getElem? hx))
      obtain ⟨adz,vaz,vcz,paz,pcz,e,hFz,FX⟩ := its_all HIT.out hx
      have FX := hyd FX
      cases e
      generalize x.items[k] = z at *
      clear hx
      obtain ⟨hvz,cz0,cz1,cz2,cz3,cz4,cz5,cz6,cz7,cz8⟩ := FX.out _ KW.out
      have Hhvz := hyd hvz
      clear hvz
      have k0 : (0 : Int) ≤ (k : Int) := by omega
      have k1 : (k : Int) < (x.items.length : Int) := by omega
      have s1 : z.name.size ≤ 100 := WX.out.2
      have W2 := hyd (show Wf 4 z.ex from WX.out.1)
      obtain ⟨tp,htp⟩ : ∃ t,decide (0 < k) = t := ⟨_,rfl⟩
      have n1 : ¬ 9223372036854775807 < t.size + 1 := by omega
      go_upto_if 16 with fail
      go_cut [3] from 17 to 18 (fun v wc => ∃ y : ByteArray,v = .string y ∧ y.size ≤ t.size + 1 ∧ wr = wc)
      case first =>
        cases tp
        all_goals
          go_wp2
          go_meet
          exact ⟨_,rfl,(by (try simp only [ByteArray.size_append]);(try simp only [show (⟨#[44]⟩ : ByteArray).size = 1 from rfl]);omega),rfl⟩
      case rest =>
      obtain ⟨t1,rfl,ht1,hw⟩ := hcut
      subst hw
      have n2 : ¬ 9223372036854775807 < t1.size + 1 := by omega
      go_wp2
      have kr : Keep Any wr wr.drew := (Keep.refl _ _).drew
      have SK := hyd (fun w' (h : Keep Any wr w') => (⟨h,h.cell cz0 trivial,h.cell cz1 trivial,h.cell cz2 trivial,h.cell cz3 trivial,h.cell cz4 trivial,h.cell cz5 trivial,h.cell cz6 trivial,h.cell cz7 trivial,h.cell cz8 trivial,h.cell y11 trivial⟩ : Keep Any wr w' ∧ w'.cell? (adz.add (k * 9)) = some (.int .i64 z.ex.kind) ∧ w'.cell? ⟨(adz.add (k * 9)).block,(adz.add (k * 9)).off + 1,none⟩ = some (.int .i64 z.ex.val.kind) ∧ w'.cell? ⟨(adz.add (k * 9)).block,(adz.add (k * 9)).off + 2,none⟩ = some (.int .i64 z.ex.val.num) ∧ w'.cell? ⟨(adz.add (k * 9)).block,(adz.add (k * 9)).off + 3,none⟩ = some (.string z.ex.val.text) ∧ w'.cell? ⟨(adz.add (k * 9)).block,(adz.add (k * 9)).off + 4,none⟩ = some (.slice vaz z.ex.val.list.length vcz) ∧ w'.cell? ⟨(adz.add (k * 9)).block,(adz.add (k * 9)).off + 5,none⟩ = some (.string z.ex.name) ∧ w'.cell? ⟨(adz.add (k * 9)).block,(adz.add (k * 9)).off + 6,none⟩ = some (.string z.ex.key) ∧ w'.cell? ⟨(adz.add (k * 9)).block,(adz.add (k * 9)).off + 7,none⟩ = some (.slice paz z.ex.parts.length pcz) ∧ w'.cell? ⟨(adz.add (k * 9)).block,(adz.add (k * 9)).off + 8,none⟩ = some (.string z.name) ∧ w'.cell? ⟨w.heap.size,11,none⟩ = some (.slice (some adz) x.items.length ci)))
      go_region_held3 (fun w' => Keep Any wr w' ∧ w'.cell? (adz.add (k * 9)) = some (.int .i64 z.ex.kind) ∧ w'.cell? ⟨(adz.add (k * 9)).block,(adz.add (k * 9)).off + 1,none⟩ = some (.int .i64 z.ex.val.kind) ∧ w'.cell? ⟨(adz.add (k * 9)).block,(adz.add (k * 9)).off + 2,none⟩ = some (.int .i64 z.ex.val.num) ∧ w'.cell? ⟨(adz.add (k * 9)).block,(adz.add (k * 9)).off + 3,none⟩ = some (.string z.ex.val.text) ∧ w'.cell? ⟨(adz.add (k * 9)).block,(adz.add (k * 9)).off + 4,none⟩ = some (.slice vaz z.ex.val.list.length vcz) ∧ w'.cell? ⟨(adz.add (k * 9)).block,(adz.add (k * 9)).off + 5,none⟩ = some (.string z.ex.name) ∧ w'.cell? ⟨(adz.add (k * 9)).block,(adz.add (k * 9)).off + 6,none⟩ = some (.string z.ex.key) ∧ w'.cell? ⟨(adz.add (k * 9)).block,(adz.add (k * 9)).off + 7,none⟩ = some (.slice paz z.ex.parts.length pcz) ∧ w'.cell? ⟨(adz.add (k * 9)).block,(adz.add (k * 9)).off + 8,none⟩ = some (.string z.name) ∧ w'.cell? ⟨w.heap.size,11,none⟩ = some (.slice (some adz) x.items.length ci))
        (first | (go_split_ands;exact SK.out _ (Keep.trans (by first | assumption | exact Keep.drew (by assumption)) hK5)) | go_keep)
        (first | (go_at_call 138;(with_reducible refine (PE.out z.ex _ _ W2.out (Hhvz.out.keep (by first | assumption | exact kr.drew | exact Keep.drew (by assumption) | (go_split_ands;first | assumption | exact Keep.drew (by assumption))))).mono ?_);rintro e w5 ⟨z1,hz1,rfl,hK5⟩;have n4 : ¬ 9223372036854775807 < t1.size + 1 + z1.size := (by omega);have n5 : ¬ 9223372036854775807 < t1.size + 1 + z1.size + 4 := (by omega);have n6 : ¬ 9223372036854775807 < t1.size + 1 + z1.size + 4 + z.name.size := (by omega)))
      go_split_ands
      have hKK := hyd (show Keep Any wr _ by assumption)
      go_wp2
      go_roundg (gk - 1)
      case rel => exact ⟨k + 1,_,by omega,rfl,by go_num,by have := HG.out;omega,(by (try simp only [ByteArray.size_append]);(try simp only [show (⟨#[32]⟩ : ByteArray).size = 1 from rfl,show (⟨#[32,65,83,32]⟩ : ByteArray).size = 4 from rfl]);omega),blk_keep hKK.out BX.out trivial,KW.out.trans hKK.out⟩
      case measure => have := HG.out;omega
    · go_wp2
      obtain ⟨wz,hwz⟩ : ∃ wz,wz = wr := ⟨_,rfl⟩
      rw [← hwz] at BX KW ⊢
      clear hwz HG
      have hT2 : t.size ≤ 150017009 := by omega
      clear hT
      obtain ⟨t2,ht2⟩ : ∃ t2,t2 = t := ⟨_,rfl⟩
      rw [← ht2] at hT2 ⊢
      clear ht2 hlt hk
      go_loopg [3,5] (x.orders.length + 1) (fun g o i wr => ∃ (k : Nat) (t : ByteArray),k ≤ x.orders.length ∧ o = .string t ∧ i = .int .i64 k ∧ g = x.orders.length + 1 - k ∧ t.size ≤ 150017009 + k * 120 ∧ wr.heap[w.heap.size]? = some (.cells #[.int .i64 x.kind,.slice ap x.paths.length cp,.int .i64 x.ex.kind,.int .i64 x.ex.val.kind,.int .i64 x.ex.val.num,.string x.ex.val.text,.slice va x.ex.val.list.length vc,.string x.ex.name,.string x.ex.key,.slice pa x.ex.parts.length pc,.string x.name,.slice ai x.items.length ci,.bool x.distinct,.slice ao x.orders.length co,.int .i64 x.skip,.int .i64 x.limit,.slice at' x.tos.length ct,.slice an x.names.length cn,.bool x.detach] 122 (0,0)) ∧ Keep Any w wr)
      case atStart => exact ⟨0,t2,by omega,rfl,rfl,rfl,by omega,BX.out,KW.out⟩
      case round =>
        clear KW BX
        obtain ⟨k,t,hk,rfl,rfl,hg,hT,hB,hK⟩ := hrel
        have HG := hyd hg
        have KW := hyd hK
        have BX := hyd hB
        clear hg hK hB
        obtain ⟨y0,y1,y2,y3,y4,y5,y6,y7,y8,y9,y10,y11,y12,y13,y14,y15,y16,y17,y18⟩ := at19c BX.out
        by_cases hlt : k < x.orders.length
        · have hx : x.orders[k]? = some x.orders[k] := List.getElem?_eq_getElem hlt

          obtain ⟨adz,e,hFz,FX⟩ := ods_all HOD.out hx
          have SX := hyd (WC.out.orders.2 _ (List.mem_of_getElem? hx))
          have FX := hyd FX
          cases e
          generalize x.orders[k] = z at *
          clear hx
          obtain ⟨cz0,cz1⟩ := FX.out _ KW.out
          have k0 : (0 : Int) ≤ (k : Int) := by omega
          have k1 : (k : Int) < (x.orders.length : Int) := by omega
          have s1 : z.name.size ≤ 100 := SX.out
          obtain ⟨tp,htp⟩ : ∃ t,((k : Int) == 0) = t := ⟨_,rfl⟩
          have n1 : ¬ 9223372036854775807 < t.size + 1 := by omega
          have n2 : ¬ 9223372036854775807 < t.size + 9 := by omega
          go_upto_if 45 with fail
          go_cut [3] from 46 to 49 (fun v wc => ∃ y : ByteArray,v = .string y ∧ y.size ≤ t.size + 9 ∧ wr = wc)
          case first =>
            cases tp
            all_goals
              go_wp2
              go_meet
              exact ⟨_,rfl,(by (try simp only [ByteArray.size_append]);(try simp only [show (⟨#[44]⟩ : ByteArray).size = 1 from rfl,show (⟨#[32,79,82,68,69,82,32,66,89]⟩ : ByteArray).size = 9 from rfl]);omega),rfl⟩
          case rest =>
          obtain ⟨t1,rfl,ht1,hw⟩ := hcut
          subst hw
          have n3 : ¬ 9223372036854775807 < t1.size + 1 := by omega
          have n4 : ¬ 9223372036854775807 < t1.size + 1 + z.name.size := by omega
          have n5 : ¬ 9223372036854775807 < t1.size + 1 + z.name.size + 5 := by omega
          go_wp2
          all_goals
            go_roundg (gk - 1)
            case rel => exact ⟨k + 1,_,by omega,rfl,by go_num,by have := HG.out;omega,(by (try simp only [ByteArray.size_append]);(try simp only [show (⟨#[32]⟩ : ByteArray).size = 1 from rfl,show (⟨#[32,68,69,83,67]⟩ : ByteArray).size = 5 from rfl]);omega),BX.out,KW.out⟩
            case measure => have := HG.out;omega
        · obtain ⟨ts,hts⟩ : ∃ t,decide (0 ≤ x.skip) = t := ⟨_,rfl⟩
          obtain ⟨tl,htl⟩ : ∃ t,decide (0 ≤ x.limit) = t := ⟨_,rfl⟩
          have hT3 : t.size ≤ 150018209 := by omega
          clear hT
          go_upto_if 69 with fail
          go_cut [3] from 70 to 75 (fun v wc => ∃ y : ByteArray,v = .string y ∧ y.size ≤ t.size + 27 ∧ wc.heap[w.heap.size]? = some (.cells #[.int .i64 x.kind,.slice ap x.paths.length cp,.int .i64 x.ex.kind,.int .i64 x.ex.val.kind,.int .i64 x.ex.val.num,.string x.ex.val.text,.slice va x.ex.val.list.length vc,.string x.ex.name,.string x.ex.key,.slice pa x.ex.parts.length pc,.string x.name,.slice ai x.items.length ci,.bool x.distinct,.slice ao x.orders.length co,.int .i64 x.skip,.int .i64 x.limit,.slice at' x.tos.length ct,.slice an x.names.length cn,.bool x.detach] 122 (0,0)) ∧ Keep Any w wc)
          case first =>
            have n6 : ¬ 9223372036854775807 < t.size + 6 := by omega
            cases ts
            all_goals
              go_wp2_with (go_at_call 24;refine (l1Dec_some x.skip _ (by omega) (by omega)).mono ?_;rintro e w2 ⟨z1,hz1,rfl,hK2⟩;have KW := hyd (KW.out.trans hK2);have BX := hyd (blk_keep hK2 BX.out trivial);clear hK2;obtain ⟨y0,y1,y2,y3,y4,y5,y6,y7,y8,y9,y10,y11,y12,y13,y14,y15,y16,y17,y18⟩ := at19c BX.out;have n7 : ¬ 9223372036854775807 < t.size + 6 + z1.size := (by omega))
              go_meet
              exact ⟨_,rfl,(by (try simp only [ByteArray.size_append]);(try simp only [show (⟨#[32,83,75,73,80,32]⟩ : ByteArray).size = 6 from rfl]);omega),BX.out,KW.out⟩
          case rest =>
          obtain ⟨t3,rfl,ht3,hB,hK⟩ := hcut
          clear KW BX
          have KW := hyd hK
          have BX := hyd hB
          clear hK hB
          obtain ⟨y0,y1,y2,y3,y4,y5,y6,y7,y8,y9,y10,y11,y12,y13,y14,y15,y16,y17,y18⟩ := at19c BX.out
          go_upto_if 78 with fail
          go_cut [3] from 79 to 84 (fun v wc => ∃ y : ByteArray,v = .string y ∧ y.size ≤ t3.size + 28 ∧ wc.heap[w.heap.size]? = some (.cells #[.int .i64 x.kind,.slice ap x.paths.length cp,.int .i64 x.ex.kind,.int .i64 x.ex.val.kind,.int .i64 x.ex.val.num,.string x.ex.val.text,.slice va x.ex.val.list.length vc,.string x.ex.name,.string x.ex.key,.slice pa x.ex.parts.length pc,.string x.name,.slice ai x.items.length ci,.bool x.distinct,.slice ao x.orders.length co,.int .i64 x.skip,.int .i64 x.limit,.slice at' x.tos.length ct,.slice an x.names.length cn,.bool x.detach] 122 (0,0)) ∧ Keep Any w wc)
          case first =>
            have n8 : ¬ 9223372036854775807 < t3.size + 7 := by omega
            cases tl
            all_goals
              go_wp2_with (go_at_call 24;refine (l1Dec_some x.limit _ (by omega) (by omega)).mono ?_;rintro e w2 ⟨z1,hz1,rfl,hK2⟩;have KW := hyd (KW.out.trans hK2);have BX := hyd (blk_keep hK2 BX.out trivial);clear hK2;obtain ⟨y0,y1,y2,y3,y4,y5,y6,y7,y8,y9,y10,y11,y12,y13,y14,y15,y16,y17,y18⟩ := at19c BX.out;have n9 : ¬ 9223372036854775807 < t3.size + 7 + z1.size := (by omega))
              go_meet
              exact ⟨_,rfl,(by (try simp only [ByteArray.size_append]);(try simp only [show (⟨#[32,76,73,77,73,84,32]⟩ : ByteArray).size = 7 from rfl]);omega),BX.out,KW.out⟩
          case rest =>
          obtain ⟨t4,rfl,ht4,hB,hK⟩ := hcut
          clear KW BX
          have KW := hyd hK
          have BX := hyd hB
          clear hK hB
          obtain ⟨y0,y1,y2,y3,y4,y5,y6,y7,y8,y9,y10,y11,y12,y13,y14,y15,y16,y17,y18⟩ := at19c BX.out
          go_wp2
          go_ret
          exact ⟨_,by omega,rfl,KW.out⟩

/- The reference's text of a clause,for some kinds of it. -/
set_option maxRecDepth 20000
set_option maxHeartbeats 4000000
theorem l5PutClause_k1 (x : Cl) (cs : List Value) (w : World) (hs : ClR w Any x cs) (hw : WfCl x) (hki : x.kind = 1) : Calls Tryz.prog 106 #[.agg cs.toArray] w (SomeT 2000000000 w) := by
  have HCL := hyd hs
  obtain ⟨ap,cp,va,vc,pa,pc,ai,ci,ao,co,at',ct,an,cn,rfl,hk,hpa,hex,hna,hit,hod,hsk,hli,hto,hns⟩ := cl_open hs
  have HPA := hyd hpa
  have HEX := hyd hex
  have HIT := hyd hit
  have HOD := hyd hod
  have HTO := hyd hto
  have HNS := hyd hns
  have WC := hyd hw
  have li10 : x.items.length ≤ 10 := hw.items.1
  have lo10 : x.orders.length ≤ 10 := hw.orders.1
  have lt10 : x.tos.length ≤ 10 := hw.tos.1
  have ln10 : x.names.length ≤ 10 := hw.names.1
  have hna100 : x.name.size ≤ 100 := hw.name
  have PE := hyd (fun (v : Ex) cs w (h : Wf 4 v) (k : ER w Any v cs) => (l4Put_all 4 (by decide) v cs w h k).mono fun e w' h => (h : SomeT (txtB 4) w e w'))
  have tb : txtB 4 = 15001500 := by decide
  rw [tb] at PE
  have KW := hyd ((Keep.refl Any w).alloc (.cells #[.int .i64 x.kind,.slice ap x.paths.length cp,.int .i64 x.ex.kind,.int .i64 x.ex.val.kind,.int .i64 x.ex.val.num,.string x.ex.val.text,.slice va x.ex.val.list.length vc,.string x.ex.name,.string x.ex.key,.slice pa x.ex.parts.length pc,.string x.name,.slice ai x.items.length ci,.bool x.distinct,.slice ao x.orders.length co,.int .i64 x.skip,.int .i64 x.limit,.slice at' x.tos.length ct,.slice an x.names.length cn,.bool x.detach] 122 (0,0)))
  have BX := hyd (blk_new w (.cells #[.int .i64 x.kind,.slice ap x.paths.length cp,.int .i64 x.ex.kind,.int .i64 x.ex.val.kind,.int .i64 x.ex.val.num,.string x.ex.val.text,.slice va x.ex.val.list.length vc,.string x.ex.name,.string x.ex.key,.slice pa x.ex.parts.length pc,.string x.name,.slice ai x.items.length ci,.bool x.distinct,.slice ao x.orders.length co,.int .i64 x.skip,.int .i64 x.limit,.slice at' x.tos.length ct,.slice an x.names.length cn,.bool x.detach] 122 (0,0)))
  clear hw hs hpa hex hit hod hto hns
  have q1 : (x.kind == 1) = true := by rw [hki];rfl
  have q2 : (x.kind == 2) = false := by rw [hki];rfl
  have q7 : (x.kind == 7) = false := by rw [hki];rfl
  have q3 : (x.kind == 3) = false := by rw [hki];rfl
  have q4 : (x.kind == 4) = false := by rw [hki];rfl
  have q5 : (x.kind == 5) = false := by rw [hki];rfl
  have q6 : (x.kind == 6) = false := by rw [hki];rfl
  have HKI := hyd hki
  clear hki
  go_enter Tryz.func106,Tryz.ntmps106
  go_upto_region 1 with fail
  generalize w.alloc (.cells #[.int .i64 x.kind,.slice ap x.paths.length cp,.int .i64 x.ex.kind,.int .i64 x.ex.val.kind,.int .i64 x.ex.val.num,.string x.ex.val.text,.slice va x.ex.val.list.length vc,.string x.ex.name,.string x.ex.key,.slice pa x.ex.parts.length pc,.string x.name,.slice ai x.items.length ci,.bool x.distinct,.slice ao x.orders.length co,.int .i64 x.skip,.int .i64 x.limit,.slice at' x.tos.length ct,.slice an x.names.length cn,.bool x.detach] 122 (0,0)) = w1 at *
  generalize (Value.agg #[.int .i64 x.kind,.slice ap x.paths.length cp,.int .i64 x.ex.kind,.int .i64 x.ex.val.kind,.int .i64 x.ex.val.num,.string x.ex.val.text,.slice va x.ex.val.list.length vc,.string x.ex.name,.string x.ex.key,.slice pa x.ex.parts.length pc,.string x.name,.slice ai x.items.length ci,.bool x.distinct,.slice ao x.orders.length co,.int .i64 x.skip,.int .i64 x.limit,.slice at' x.tos.length ct,.slice an x.names.length cn,.bool x.detach]) = A0
  obtain ⟨y0,y1,y2,y3,y4,y5,y6,y7,y8,y9,y10,y11,y12,y13,y14,y15,y16,y17,y18⟩ := at19c BX.out
  have lp2 : x.paths.length ≤ 2 := WC.out.paths.1
  go_wp2_with (go_at_call 137;refine (l5PutPaths_calls x.paths _ _ (Pas.keep HPA.out KW.out) lp2 WC.out.paths.2).mono ?_;rintro e w2 ⟨z1,hz1,rfl,hK2⟩;have KW := hyd (KW.out.trans hK2);have BX := hyd (blk_keep hK2 BX.out trivial);clear hK2;obtain ⟨y0,y1,y2,y3,y4,y5,y6,y7,y8,y9,y10,y11,y12,y13,y14,y15,y16,y17,y18⟩ := at19c BX.out;have n1 : ¬ 9223372036854775807 < 6 + z1.size := (by omega))
  go_ret
  exact ⟨_,(by (try simp only [ByteArray.size_append]);(try simp only [show (⟨#[77,65,84,67,72,32]⟩ : ByteArray).size = 6 from rfl]);omega),rfl,KW.out⟩
theorem l5PutClause_k2 (x : Cl) (cs : List Value) (w : World) (hs : ClR w Any x cs) (hw : WfCl x) (hki : x.kind = 2) : Calls Tryz.prog 106 #[.agg cs.toArray] w (SomeT 2000000000 w) := by
  have HCL := hyd hs
  obtain ⟨ap,cp,va,vc,pa,pc,ai,ci,ao,co,at',ct,an,cn,rfl,hk,hpa,hex,hna,hit,hod,hsk,hli,hto,hns⟩ := cl_open hs
  have HPA := hyd hpa
  have HEX := hyd hex
  have HIT := hyd hit
  have HOD := hyd hod
  have HTO := hyd hto
  have HNS := hyd hns
  have WC := hyd hw
  have li10 : x.items.length ≤ 10 := hw.items.1
  have lo10 : x.orders.length ≤ 10 := hw.orders.1
  have lt10 : x.tos.length ≤ 10 := hw.tos.1
  have ln10 : x.names.length ≤ 10 := hw.names.1
  have hna100 : x.name.size ≤ 100 := hw.name
  have PE := hyd (fun (v : Ex) cs w (h : Wf 4 v) (k : ER w Any v cs) => (l4Put_all 4 (by decide) v cs w h k).mono fun e w' h => (h : SomeT (txtB 4) w e w'))
  have tb : txtB 4 = 15001500 := by decide
  rw [tb] at PE
  have KW := hyd ((Keep.refl Any w).alloc (.cells #[.int .i64 x.kind,.slice ap x.paths.length cp,.int .i64 x.ex.kind,.int .i64 x.ex.val.kind,.int .i64 x.ex.val.num,.string x.ex.val.text,.slice va x.ex.val.list.length vc,.string x.ex.name,.string x.ex.key,.slice pa x.ex.parts.length pc,.string x.name,.slice ai x.items.length ci,.bool x.distinct,.slice ao x.orders.length co,.int .i64 x.skip,.int .i64 x.limit,.slice at' x.tos.length ct,.slice an x.names.length cn,.bool x.detach] 122 (0,0)))
  have BX := hyd (blk_new w (.cells #[.int .i64 x.kind,.slice ap x.paths.length cp,.int .i64 x.ex.kind,.int .i64 x.ex.val.kind,.int .i64 x.ex.val.num,.string x.ex.val.text,.slice va x.ex.val.list.length vc,.string x.ex.name,.string x.ex.key,.slice pa x.ex.parts.length pc,.string x.name,.slice ai x.items.length ci,.bool x.distinct,.slice ao x.orders.length co,.int .i64 x.skip,.int .i64 x.limit,.slice at' x.tos.length ct,.slice an x.names.length cn,.bool x.detach] 122 (0,0)))
  clear hw hs hpa hex hit hod hto hns
  have q1 : (x.kind == 1) = false := by rw [hki];rfl
  have q2 : (x.kind == 2) = true := by rw [hki];rfl
  have q7 : (x.kind == 7) = false := by rw [hki];rfl
  have q3 : (x.kind == 3) = false := by rw [hki];rfl
  have q4 : (x.kind == 4) = false := by rw [hki];rfl
  have q5 : (x.kind == 5) = false := by rw [hki];rfl
  have q6 : (x.kind == 6) = false := by rw [hki];rfl
  have HKI := hyd hki
  clear hki
  go_enter Tryz.func106,Tryz.ntmps106
  go_upto_region 1 with fail
  generalize w.alloc (.cells #[.int .i64 x.kind,.slice ap x.paths.length cp,.int .i64 x.ex.kind,.int .i64 x.ex.val.kind,.int .i64 x.ex.val.num,.string x.ex.val.text,.slice va x.ex.val.list.length vc,.string x.ex.name,.string x.ex.key,.slice pa x.ex.parts.length pc,.string x.name,.slice ai x.items.length ci,.bool x.distinct,.slice ao x.orders.length co,.int .i64 x.skip,.int .i64 x.limit,.slice at' x.tos.length ct,.slice an x.names.length cn,.bool x.detach] 122 (0,0)) = w1 at *
  generalize (Value.agg #[.int .i64 x.kind,.slice ap x.paths.length cp,.int .i64 x.ex.kind,.int .i64 x.ex.val.kind,.int .i64 x.ex.val.num,.string x.ex.val.text,.slice va x.ex.val.list.length vc,.string x.ex.name,.string x.ex.key,.slice pa x.ex.parts.length pc,.string x.name,.slice ai x.items.length ci,.bool x.distinct,.slice ao x.orders.length co,.int .i64 x.skip,.int .i64 x.limit,.slice at' x.tos.length ct,.slice an x.names.length cn,.bool x.detach]) = A0
  obtain ⟨y0,y1,y2,y3,y4,y5,y6,y7,y8,y9,y10,y11,y12,y13,y14,y15,y16,y17,y18⟩ := at19c BX.out
  have lp2 : x.paths.length ≤ 2 := WC.out.paths.1
  go_wp2_with (go_at_call 137;refine (l5PutPaths_calls x.paths _ _ (Pas.keep HPA.out KW.out) lp2 WC.out.paths.2).mono ?_;rintro e w2 ⟨z1,hz1,rfl,hK2⟩;have KW := hyd (KW.out.trans hK2);have BX := hyd (blk_keep hK2 BX.out trivial);clear hK2;obtain ⟨y0,y1,y2,y3,y4,y5,y6,y7,y8,y9,y10,y11,y12,y13,y14,y15,y16,y17,y18⟩ := at19c BX.out;have n1 : ¬ 9223372036854775807 < 15 + z1.size := (by omega))
  go_ret
  exact ⟨_,(by (try simp only [ByteArray.size_append]);(try simp only [show (⟨#[79,80,84,73,79,78,65,76,32,77,65,84,67,72,32]⟩ : ByteArray).size = 15 from rfl]);omega),rfl,KW.out⟩
theorem l5PutClause_k7 (x : Cl) (cs : List Value) (w : World) (hs : ClR w Any x cs) (hw : WfCl x) (hki : x.kind = 7) : Calls Tryz.prog 106 #[.agg cs.toArray] w (SomeT 2000000000 w) := by
  have HCL := hyd hs
  obtain ⟨ap,cp,va,vc,pa,pc,ai,ci,ao,co,at',ct,an,cn,rfl,hk,hpa,hex,hna,hit,hod,hsk,hli,hto,hns⟩ := cl_open hs
  have HPA := hyd hpa
  have HEX := hyd hex
  have HIT := hyd hit
  have HOD := hyd hod
  have HTO := hyd hto
  have HNS := hyd hns
  have WC := hyd hw
  have li10 : x.items.length ≤ 10 := hw.items.1
  have lo10 : x.orders.length ≤ 10 := hw.orders.1
  have lt10 : x.tos.length ≤ 10 := hw.tos.1
  have ln10 : x.names.length ≤ 10 := hw.names.1
  have hna100 : x.name.size ≤ 100 := hw.name
  have PE := hyd (fun (v : Ex) cs w (h : Wf 4 v) (k : ER w Any v cs) => (l4Put_all 4 (by decide) v cs w h k).mono fun e w' h => (h : SomeT (txtB 4) w e w'))
  have tb : txtB 4 = 15001500 := by decide
  rw [tb] at PE
  have KW := hyd ((Keep.refl Any w).alloc (.cells #[.int .i64 x.kind,.slice ap x.paths.length cp,.int .i64 x.ex.kind,.int .i64 x.ex.val.kind,.int .i64 x.ex.val.num,.string x.ex.val.text,.slice va x.ex.val.list.length vc,.string x.ex.name,.string x.ex.key,.slice pa x.ex.parts.length pc,.string x.name,.slice ai x.items.length ci,.bool x.distinct,.slice ao x.orders.length co,.int .i64 x.skip,.int .i64 x.limit,.slice at' x.tos.length ct,.slice an x.names.length cn,.bool x.detach] 122 (0,0)))
  have BX := hyd (blk_new w (.cells #[.int .i64 x.kind,.slice ap x.paths.length cp,.int .i64 x.ex.kind,.int .i64 x.ex.val.kind,.int .i64 x.ex.val.num,.string x.ex.val.text,.slice va x.ex.val.list.length vc,.string x.ex.name,.string x.ex.key,.slice pa x.ex.parts.length pc,.string x.name,.slice ai x.items.length ci,.bool x.distinct,.slice ao x.orders.length co,.int .i64 x.skip,.int .i64 x.limit,.slice at' x.tos.length ct,.slice an x.names.length cn,.bool x.detach] 122 (0,0)))
  clear hw hs hpa hex hit hod hto hns
  have q1 : (x.kind == 1) = false := by rw [hki];rfl
  have q2 : (x.kind == 2) = false := by rw [hki];rfl
  have q7 : (x.kind == 7) = true := by rw [hki];rfl
  have q3 : (x.kind == 3) = false := by rw [hki];rfl
  have q4 : (x.kind == 4) = false := by rw [hki];rfl
  have q5 : (x.kind == 5) = false := by rw [hki];rfl
  have q6 : (x.kind == 6) = false := by rw [hki];rfl
  have HKI := hyd hki
  clear hki
  go_enter Tryz.func106,Tryz.ntmps106
  go_upto_region 1 with fail
  generalize w.alloc (.cells #[.int .i64 x.kind,.slice ap x.paths.length cp,.int .i64 x.ex.kind,.int .i64 x.ex.val.kind,.int .i64 x.ex.val.num,.string x.ex.val.text,.slice va x.ex.val.list.length vc,.string x.ex.name,.string x.ex.key,.slice pa x.ex.parts.length pc,.string x.name,.slice ai x.items.length ci,.bool x.distinct,.slice ao x.orders.length co,.int .i64 x.skip,.int .i64 x.limit,.slice at' x.tos.length ct,.slice an x.names.length cn,.bool x.detach] 122 (0,0)) = w1 at *
  generalize (Value.agg #[.int .i64 x.kind,.slice ap x.paths.length cp,.int .i64 x.ex.kind,.int .i64 x.ex.val.kind,.int .i64 x.ex.val.num,.string x.ex.val.text,.slice va x.ex.val.list.length vc,.string x.ex.name,.string x.ex.key,.slice pa x.ex.parts.length pc,.string x.name,.slice ai x.items.length ci,.bool x.distinct,.slice ao x.orders.length co,.int .i64 x.skip,.int .i64 x.limit,.slice at' x.tos.length ct,.slice an x.names.length cn,.bool x.detach]) = A0
  obtain ⟨y0,y1,y2,y3,y4,y5,y6,y7,y8,y9,y10,y11,y12,y13,y14,y15,y16,y17,y18⟩ := at19c BX.out
  have lp2 : x.paths.length ≤ 2 := WC.out.paths.1
  go_wp2_with (go_at_call 137;refine (l5PutPaths_calls x.paths _ _ (Pas.keep HPA.out KW.out) lp2 WC.out.paths.2).mono ?_;rintro e w2 ⟨z1,hz1,rfl,hK2⟩;have KW := hyd (KW.out.trans hK2);have BX := hyd (blk_keep hK2 BX.out trivial);clear hK2;obtain ⟨y0,y1,y2,y3,y4,y5,y6,y7,y8,y9,y10,y11,y12,y13,y14,y15,y16,y17,y18⟩ := at19c BX.out;have n1 : ¬ 9223372036854775807 < 7 + z1.size := (by omega))
  go_ret
  exact ⟨_,(by (try simp only [ByteArray.size_append]);(try simp only [show (⟨#[67,82,69,65,84,69,32]⟩ : ByteArray).size = 7 from rfl]);omega),rfl,KW.out⟩
theorem l5PutClause_k3 (x : Cl) (cs : List Value) (w : World) (hs : ClR w Any x cs) (hw : WfCl x) (hki : x.kind = 3) : Calls Tryz.prog 106 #[.agg cs.toArray] w (SomeT 2000000000 w) := by
  have HCL := hyd hs
  obtain ⟨ap,cp,va,vc,pa,pc,ai,ci,ao,co,at',ct,an,cn,rfl,hk,hpa,hex,hna,hit,hod,hsk,hli,hto,hns⟩ := cl_open hs
  have HPA := hyd hpa
  have HEX := hyd hex
  have HIT := hyd hit
  have HOD := hyd hod
  have HTO := hyd hto
  have HNS := hyd hns
  have WC := hyd hw
  have li10 : x.items.length ≤ 10 := hw.items.1
  have lo10 : x.orders.length ≤ 10 := hw.orders.1
  have lt10 : x.tos.length ≤ 10 := hw.tos.1
  have ln10 : x.names.length ≤ 10 := hw.names.1
  have hna100 : x.name.size ≤ 100 := hw.name
  have PE := hyd (fun (v : Ex) cs w (h : Wf 4 v) (k : ER w Any v cs) => (l4Put_all 4 (by decide) v cs w h k).mono fun e w' h => (h : SomeT (txtB 4) w e w'))
  have tb : txtB 4 = 15001500 := by decide
  rw [tb] at PE
  have KW := hyd ((Keep.refl Any w).alloc (.cells #[.int .i64 x.kind,.slice ap x.paths.length cp,.int .i64 x.ex.kind,.int .i64 x.ex.val.kind,.int .i64 x.ex.val.num,.string x.ex.val.text,.slice va x.ex.val.list.length vc,.string x.ex.name,.string x.ex.key,.slice pa x.ex.parts.length pc,.string x.name,.slice ai x.items.length ci,.bool x.distinct,.slice ao x.orders.length co,.int .i64 x.skip,.int .i64 x.limit,.slice at' x.tos.length ct,.slice an x.names.length cn,.bool x.detach] 122 (0,0)))
  have BX := hyd (blk_new w (.cells #[.int .i64 x.kind,.slice ap x.paths.length cp,.int .i64 x.ex.kind,.int .i64 x.ex.val.kind,.int .i64 x.ex.val.num,.string x.ex.val.text,.slice va x.ex.val.list.length vc,.string x.ex.name,.string x.ex.key,.slice pa x.ex.parts.length pc,.string x.name,.slice ai x.items.length ci,.bool x.distinct,.slice ao x.orders.length co,.int .i64 x.skip,.int .i64 x.limit,.slice at' x.tos.length ct,.slice an x.names.length cn,.bool x.detach] 122 (0,0)))
  clear hw hs hpa hex hit hod hto hns
  have q1 : (x.kind == 1) = false := by rw [hki];rfl
  have q2 : (x.kind == 2) = false := by rw [hki];rfl
  have q7 : (x.kind == 7) = false := by rw [hki];rfl
  have q3 : (x.kind == 3) = true := by rw [hki];rfl
  have q4 : (x.kind == 4) = false := by rw [hki];rfl
  have q5 : (x.kind == 5) = false := by rw [hki];rfl
  have q6 : (x.kind == 6) = false := by rw [hki];rfl
  have HKI := hyd hki
  clear hki
  go_enter Tryz.func106,Tryz.ntmps106
  go_upto_region 1 with fail
  generalize w.alloc (.cells #[.int .i64 x.kind,.slice ap x.paths.length cp,.int .i64 x.ex.kind,.int .i64 x.ex.val.kind,.int .i64 x.ex.val.num,.string x.ex.val.text,.slice va x.ex.val.list.length vc,.string x.ex.name,.string x.ex.key,.slice pa x.ex.parts.length pc,.string x.name,.slice ai x.items.length ci,.bool x.distinct,.slice ao x.orders.length co,.int .i64 x.skip,.int .i64 x.limit,.slice at' x.tos.length ct,.slice an x.names.length cn,.bool x.detach] 122 (0,0)) = w1 at *
  generalize (Value.agg #[.int .i64 x.kind,.slice ap x.paths.length cp,.int .i64 x.ex.kind,.int .i64 x.ex.val.kind,.int .i64 x.ex.val.num,.string x.ex.val.text,.slice va x.ex.val.list.length vc,.string x.ex.name,.string x.ex.key,.slice pa x.ex.parts.length pc,.string x.name,.slice ai x.items.length ci,.bool x.distinct,.slice ao x.orders.length co,.int .i64 x.skip,.int .i64 x.limit,.slice at' x.tos.length ct,.slice an x.names.length cn,.bool x.detach]) = A0
  obtain ⟨y0,y1,y2,y3,y4,y5,y6,y7,y8,y9,y10,y11,y12,y13,y14,y15,y16,y17,y18⟩ := at19c BX.out
  have WE := hyd (WC.out.ex (by have := HKI.out;omega))
  go_wp2_with (go_at_call 138;refine (PE.out x.ex _ _ WE.out (HEX.out.keep KW.out)).mono ?_;rintro e w2 ⟨z1,hz1,rfl,hK2⟩;have KW := hyd (KW.out.trans hK2);have BX := hyd (blk_keep hK2 BX.out trivial);clear hK2;obtain ⟨y0,y1,y2,y3,y4,y5,y6,y7,y8,y9,y10,y11,y12,y13,y14,y15,y16,y17,y18⟩ := at19c BX.out;have n1 : ¬ 9223372036854775807 < 6 + z1.size := (by omega))
  go_ret
  exact ⟨_,(by (try simp only [ByteArray.size_append]);(try simp only [show (⟨#[87,72,69,82,69,32]⟩ : ByteArray).size = 6 from rfl]);omega),rfl,KW.out⟩
theorem l5PutClause_k4 (x : Cl) (cs : List Value) (w : World) (hs : ClR w Any x cs) (hw : WfCl x) (hki : x.kind = 4) : Calls Tryz.prog 106 #[.agg cs.toArray] w (SomeT 2000000000 w) := by
  have HCL := hyd hs
  obtain ⟨ap,cp,va,vc,pa,pc,ai,ci,ao,co,at',ct,an,cn,rfl,hk,hpa,hex,hna,hit,hod,hsk,hli,hto,hns⟩ := cl_open hs
  have HPA := hyd hpa
  have HEX := hyd hex
  have HIT := hyd hit
  have HOD := hyd hod
  have HTO := hyd hto
  have HNS := hyd hns
  have WC := hyd hw
  have li10 : x.items.length ≤ 10 := hw.items.1
  have lo10 : x.orders.length ≤ 10 := hw.orders.1
  have lt10 : x.tos.length ≤ 10 := hw.tos.1
  have ln10 : x.names.length ≤ 10 := hw.names.1
  have hna100 : x.name.size ≤ 100 := hw.name
  have PE := hyd (fun (v : Ex) cs w (h : Wf 4 v) (k : ER w Any v cs) => (l4Put_all 4 (by decide) v cs w h k).mono fun e w' h => (h : SomeT (txtB 4) w e w'))
  have tb : txtB 4 = 15001500 := by decide
  rw [tb] at PE
  have KW := hyd ((Keep.refl Any w).alloc (.cells #[.int .i64 x.kind,.slice ap x.paths.length cp,.int .i64 x.ex.kind,.int .i64 x.ex.val.kind,.int .i64 x.ex.val.num,.string x.ex.val.text,.slice va x.ex.val.list.length vc,.string x.ex.name,.string x.ex.key,.slice pa x.ex.parts.length pc,.string x.name,.slice ai x.items.length ci,.bool x.distinct,.slice ao x.orders.length co,.int .i64 x.skip,.int .i64 x.limit,.slice at' x.tos.length ct,.slice an x.names.length cn,.bool x.detach] 122 (0,0)))
  have BX := hyd (blk_new w (.cells #[.int .i64 x.kind,.slice ap x.paths.length cp,.int .i64 x.ex.kind,.int .i64 x.ex.val.kind,.int .i64 x.ex.val.num,.string x.ex.val.text,.slice va x.ex.val.list.length vc,.string x.ex.name,.string x.ex.key,.slice pa x.ex.parts.length pc,.string x.name,.slice ai x.items.length ci,.bool x.distinct,.slice ao x.orders.length co,.int .i64 x.skip,.int .i64 x.limit,.slice at' x.tos.length ct,.slice an x.names.length cn,.bool x.detach] 122 (0,0)))
  clear hw hs hpa hex hit hod hto hns
  have q1 : (x.kind == 1) = false := by rw [hki];rfl
  have q2 : (x.kind == 2) = false := by rw [hki];rfl
  have q7 : (x.kind == 7) = false := by rw [hki];rfl
  have q3 : (x.kind == 3) = false := by rw [hki];rfl
  have q4 : (x.kind == 4) = true := by rw [hki];rfl
  have q5 : (x.kind == 5) = false := by rw [hki];rfl
  have q6 : (x.kind == 6) = false := by rw [hki];rfl
  have HKI := hyd hki
  clear hki
  go_enter Tryz.func106,Tryz.ntmps106
  go_upto_region 1 with fail
  generalize w.alloc (.cells #[.int .i64 x.kind,.slice ap x.paths.length cp,.int .i64 x.ex.kind,.int .i64 x.ex.val.kind,.int .i64 x.ex.val.num,.string x.ex.val.text,.slice va x.ex.val.list.length vc,.string x.ex.name,.string x.ex.key,.slice pa x.ex.parts.length pc,.string x.name,.slice ai x.items.length ci,.bool x.distinct,.slice ao x.orders.length co,.int .i64 x.skip,.int .i64 x.limit,.slice at' x.tos.length ct,.slice an x.names.length cn,.bool x.detach] 122 (0,0)) = w1 at *
  generalize (Value.agg #[.int .i64 x.kind,.slice ap x.paths.length cp,.int .i64 x.ex.kind,.int .i64 x.ex.val.kind,.int .i64 x.ex.val.num,.string x.ex.val.text,.slice va x.ex.val.list.length vc,.string x.ex.name,.string x.ex.key,.slice pa x.ex.parts.length pc,.string x.name,.slice ai x.items.length ci,.bool x.distinct,.slice ao x.orders.length co,.int .i64 x.skip,.int .i64 x.limit,.slice at' x.tos.length ct,.slice an x.names.length cn,.bool x.detach]) = A0
  obtain ⟨y0,y1,y2,y3,y4,y5,y6,y7,y8,y9,y10,y11,y12,y13,y14,y15,y16,y17,y18⟩ := at19c BX.out
  have WE := hyd (WC.out.ex (by have := HKI.out;omega))
  go_wp2
  have HX1 := hyd (HEX.out.keep KW.out)
  have kr : Keep Any w1 w1.drew := (Keep.refl _ _).drew
  have SK := hyd (fun w' (h : Keep Any w1 w') => (⟨h,h.cell y2 trivial,h.cell y3 trivial,h.cell y4 trivial,h.cell y5 trivial,h.cell y6 trivial,h.cell y7 trivial,h.cell y8 trivial,h.cell y9 trivial,h.cell y10 trivial⟩ : Keep Any w1 w' ∧ w'.cell? ⟨w.heap.size,2,none⟩ = some (.int .i64 x.ex.kind) ∧ w'.cell? ⟨w.heap.size,3,none⟩ = some (.int .i64 x.ex.val.kind) ∧ w'.cell? ⟨w.heap.size,4,none⟩ = some (.int .i64 x.ex.val.num) ∧ w'.cell? ⟨w.heap.size,5,none⟩ = some (.string x.ex.val.text) ∧ w'.cell? ⟨w.heap.size,6,none⟩ = some (.slice va x.ex.val.list.length vc) ∧ w'.cell? ⟨w.heap.size,7,none⟩ = some (.string x.ex.name) ∧ w'.cell? ⟨w.heap.size,8,none⟩ = some (.string x.ex.key) ∧ w'.cell? ⟨w.heap.size,9,none⟩ = some (.slice pa x.ex.parts.length pc) ∧ w'.cell? ⟨w.heap.size,10,none⟩ = some (.string x.name)))
  go_region_held3 (fun w' => Keep Any w1 w' ∧ w'.cell? ⟨w.heap.size,2,none⟩ = some (.int .i64 x.ex.kind) ∧ w'.cell? ⟨w.heap.size,3,none⟩ = some (.int .i64 x.ex.val.kind) ∧ w'.cell? ⟨w.heap.size,4,none⟩ = some (.int .i64 x.ex.val.num) ∧ w'.cell? ⟨w.heap.size,5,none⟩ = some (.string x.ex.val.text) ∧ w'.cell? ⟨w.heap.size,6,none⟩ = some (.slice va x.ex.val.list.length vc) ∧ w'.cell? ⟨w.heap.size,7,none⟩ = some (.string x.ex.name) ∧ w'.cell? ⟨w.heap.size,8,none⟩ = some (.string x.ex.key) ∧ w'.cell? ⟨w.heap.size,9,none⟩ = some (.slice pa x.ex.parts.length pc) ∧ w'.cell? ⟨w.heap.size,10,none⟩ = some (.string x.name))
    (first | (go_split_ands;exact SK.out _ (Keep.trans (by first | assumption | exact Keep.drew (by assumption)) hK5)) | go_keep)
    (first | (go_at_call 138;(with_reducible refine (PE.out x.ex _ _ WE.out (HX1.out.keep (by first | assumption | exact kr.drew | exact Keep.drew (by assumption) | (go_split_ands;first | assumption | exact Keep.drew (by assumption))))).mono ?_);rintro e w5 ⟨z1,hz1,rfl,hK5⟩;have n1 : ¬ 9223372036854775807 < 7 + z1.size := (by omega);have n2 : ¬ 9223372036854775807 < 7 + z1.size + 4 := (by omega);have n3 : ¬ 9223372036854775807 < 7 + z1.size + 4 + x.name.size := (by omega)))
  go_split_ands
  have hKK := hyd (show Keep Any w1 _ by assumption)
  go_wp2
  go_ret
  exact ⟨_,(by (try simp only [ByteArray.size_append]);(try simp only [show (⟨#[85,78,87,73,78,68,32]⟩ : ByteArray).size = 7 from rfl,show (⟨#[32,65,83,32]⟩ : ByteArray).size = 4 from rfl]);omega),rfl,KW.out.trans hKK.out⟩
theorem l5PutClause_k5 (x : Cl) (cs : List Value) (w : World) (hs : ClR w Any x cs) (hw : WfCl x) (hki : x.kind = 5) : Calls Tryz.prog 106 #[.agg cs.toArray] w (SomeT 2000000000 w) := by
  have HCL := hyd hs
  obtain ⟨ap,cp,va,vc,pa,pc,ai,ci,ao,co,at',ct,an,cn,rfl,hk,hpa,hex,hna,hit,hod,hsk,hli,hto,hns⟩ := cl_open hs
  have HPA := hyd hpa
  have HEX := hyd hex
  have HIT := hyd hit
  have HOD := hyd hod
  have HTO := hyd hto
  have HNS := hyd hns
  have WC := hyd hw
  have li10 : x.items.length ≤ 10 := hw.items.1
  have lo10 : x.orders.length ≤ 10 := hw.orders.1
  have lt10 : x.tos.length ≤ 10 := hw.tos.1
  have ln10 : x.names.length ≤ 10 := hw.names.1
  have hna100 : x.name.size ≤ 100 := hw.name
  have PE := hyd (fun (v : Ex) cs w (h : Wf 4 v) (k : ER w Any v cs) => (l4Put_all 4 (by decide) v cs w h k).mono fun e w' h => (h : SomeT (txtB 4) w e w'))
  have tb : txtB 4 = 15001500 := by decide
  rw [tb] at PE
  have KW := hyd ((Keep.refl Any w).alloc (.cells #[.int .i64 x.kind,.slice ap x.paths.length cp,.int .i64 x.ex.kind,.int .i64 x.ex.val.kind,.int .i64 x.ex.val.num,.string x.ex.val.text,.slice va x.ex.val.list.length vc,.string x.ex.name,.string x.ex.key,.slice pa x.ex.parts.length pc,.string x.name,.slice ai x.items.length ci,.bool x.distinct,.slice ao x.orders.length co,.int .i64 x.skip,.int .i64 x.limit,.slice at' x.tos.length ct,.slice an x.names.length cn,.bool x.detach] 122 (0,0)))
  have BX := hyd (blk_new w (.cells #[.int .i64 x.kind,.slice ap x.paths.length cp,.int .i64 x.ex.kind,.int .i64 x.ex.val.kind,.int .i64 x.ex.val.num,.string x.ex.val.text,.slice va x.ex.val.list.length vc,.string x.ex.name,.string x.ex.key,.slice pa x.ex.parts.length pc,.string x.name,.slice ai x.items.length ci,.bool x.distinct,.slice ao x.orders.length co,.int .i64 x.skip,.int .i64 x.limit,.slice at' x.tos.length ct,.slice an x.names.length cn,.bool x.detach] 122 (0,0)))
  clear hw hs hpa hex hit hod hto hns
  have q1 : (x.kind == 1) = false := by rw [hki];rfl
  have q2 : (x.kind == 2) = false := by rw [hki];rfl
  have q7 : (x.kind == 7) = false := by rw [hki];rfl
  have q3 : (x.kind == 3) = false := by rw [hki];rfl
  have q4 : (x.kind == 4) = false := by rw [hki];rfl
  have q5 : (x.kind == 5) = true := by rw [hki];rfl
  have q6 : (x.kind == 6) = false := by rw [hki];rfl
  have HKI := hyd hki
  clear hki
  go_enter Tryz.func106,Tryz.ntmps106
  go_upto_region 1 with fail
  generalize w.alloc (.cells #[.int .i64 x.kind,.slice ap x.paths.length cp,.int .i64 x.ex.kind,.int .i64 x.ex.val.kind,.int .i64 x.ex.val.num,.string x.ex.val.text,.slice va x.ex.val.list.length vc,.string x.ex.name,.string x.ex.key,.slice pa x.ex.parts.length pc,.string x.name,.slice ai x.items.length ci,.bool x.distinct,.slice ao x.orders.length co,.int .i64 x.skip,.int .i64 x.limit,.slice at' x.tos.length ct,.slice an x.names.length cn,.bool x.detach] 122 (0,0)) = w1 at *
  generalize (Value.agg #[.int .i64 x.kind,.slice ap x.paths.length cp,.int .i64 x.ex.kind,.int .i64 x.ex.val.kind,.int .i64 x.ex.val.num,.string x.ex.val.text,.slice va x.ex.val.list.length vc,.string x.ex.name,.string x.ex.key,.slice pa x.ex.parts.length pc,.string x.name,.slice ai x.items.length ci,.bool x.distinct,.slice ao x.orders.length co,.int .i64 x.skip,.int .i64 x.limit,.slice at' x.tos.length ct,.slice an x.names.length cn,.bool x.detach]) = A0
  obtain ⟨y0,y1,y2,y3,y4,y5,y6,y7,y8,y9,y10,y11,y12,y13,y14,y15,y16,y17,y18⟩ := at19c BX.out
  go_wp2_with (first | (refine wpList_load_row rfl 122 (.tmp 1) rfl w.heap.size rfl 122 #[.int .i64 x.kind,.slice ap x.paths.length cp,.int .i64 x.ex.kind,.int .i64 x.ex.val.kind,.int .i64 x.ex.val.num,.string x.ex.val.text,.slice va x.ex.val.list.length vc,.string x.ex.name,.string x.ex.key,.slice pa x.ex.parts.length pc,.string x.name,.slice ai x.items.length ci,.bool x.distinct,.slice ao x.orders.length co,.int .i64 x.skip,.int .i64 x.limit,.slice at' x.tos.length ct,.slice an x.names.length cn,.bool x.detach] (0,0) _ BX.out Tryz.underlying122 rfl infoCl ?_) | (go_at_call 139;refine (l5PutItems_calls x _ _ (HCL.out.keep KW.out) WC.out).mono ?_;rintro e w2 ⟨z1,hz1,rfl,hK2⟩;have KW := hyd (KW.out.trans hK2);have BX := hyd (blk_keep hK2 BX.out trivial);clear hK2;obtain ⟨y0,y1,y2,y3,y4,y5,y6,y7,y8,y9,y10,y11,y12,y13,y14,y15,y16,y17,y18⟩ := at19c BX.out;have n1 : ¬ 9223372036854775807 < 4 + z1.size := (by omega)))
  go_ret
  exact ⟨_,(by (try simp only [ByteArray.size_append]);(try simp only [show (⟨#[87,73,84,72]⟩ : ByteArray).size = 4 from rfl]);omega),rfl,KW.out⟩
theorem l5PutClause_k6 (x : Cl) (cs : List Value) (w : World) (hs : ClR w Any x cs) (hw : WfCl x) (hki : x.kind = 6) : Calls Tryz.prog 106 #[.agg cs.toArray] w (SomeT 2000000000 w) := by
  have HCL := hyd hs
  obtain ⟨ap,cp,va,vc,pa,pc,ai,ci,ao,co,at',ct,an,cn,rfl,hk,hpa,hex,hna,hit,hod,hsk,hli,hto,hns⟩ := cl_open hs
  have HPA := hyd hpa
  have HEX := hyd hex
  have HIT := hyd hit
  have HOD := hyd hod
  have HTO := hyd hto
  have HNS := hyd hns
  have WC := hyd hw
  have li10 : x.items.length ≤ 10 := hw.items.1
  have lo10 : x.orders.length ≤ 10 := hw.orders.1
  have lt10 : x.tos.length ≤ 10 := hw.tos.1
  have ln10 : x.names.length ≤ 10 := hw.names.1
  have hna100 : x.name.size ≤ 100 := hw.name
  have PE := hyd (fun (v : Ex) cs w (h : Wf 4 v) (k : ER w Any v cs) => (l4Put_all 4 (by decide) v cs w h k).mono fun e w' h => (h : SomeT (txtB 4) w e w'))
  have tb : txtB 4 = 15001500 := by decide
  rw [tb] at PE
  have KW := hyd ((Keep.refl Any w).alloc (.cells #[.int .i64 x.kind,.slice ap x.paths.length cp,.int .i64 x.ex.kind,.int .i64 x.ex.val.kind,.int .i64 x.ex.val.num,.string x.ex.val.text,.slice va x.ex.val.list.length vc,.string x.ex.name,.string x.ex.key,.slice pa x.ex.parts.length pc,.string x.name,.slice ai x.items.length ci,.bool x.distinct,.slice ao x.orders.length co,.int .i64 x.skip,.int .i64 x.limit,.slice at' x.tos.length ct,.slice an x.names.length cn,.bool x.detach] 122 (0,0)))
  have BX := hyd (blk_new w (.cells #[.int .i64 x.kind,.slice ap x.paths.length cp,.int .i64 x.ex.kind,.int .i64 x.ex.val.kind,.int .i64 x.ex.val.num,.string x.ex.val.text,.slice va x.ex.val.list.length vc,.string x.ex.name,.string x.ex.key,.slice pa x.ex.parts.length pc,.string x.name,.slice ai x.items.length ci,.bool x.distinct,.slice ao x.orders.length co,.int .i64 x.skip,.int .i64 x.limit,.slice at' x.tos.length ct,.slice an x.names.length cn,.bool x.detach] 122 (0,0)))
  clear hw hs hpa hex hit hod hto hns
  have q1 : (x.kind == 1) = false := by rw [hki];rfl
  have q2 : (x.kind == 2) = false := by rw [hki];rfl
  have q7 : (x.kind == 7) = false := by rw [hki];rfl
  have q3 : (x.kind == 3) = false := by rw [hki];rfl
  have q4 : (x.kind == 4) = false := by rw [hki];rfl
  have q5 : (x.kind == 5) = false := by rw [hki];rfl
  have q6 : (x.kind == 6) = true := by rw [hki];rfl
  have HKI := hyd hki
  clear hki
  go_enter Tryz.func106,Tryz.ntmps106
  go_upto_region 1 with fail
  generalize w.alloc (.cells #[.int .i64 x.kind,.slice ap x.paths.length cp,.int .i64 x.ex.kind,.int .i64 x.ex.val.kind,.int .i64 x.ex.val.num,.string x.ex.val.text,.slice va x.ex.val.list.length vc,.string x.ex.name,.string x.ex.key,.slice pa x.ex.parts.length pc,.string x.name,.slice ai x.items.length ci,.bool x.distinct,.slice ao x.orders.length co,.int .i64 x.skip,.int .i64 x.limit,.slice at' x.tos.length ct,.slice an x.names.length cn,.bool x.detach] 122 (0,0)) = w1 at *
  generalize (Value.agg #[.int .i64 x.kind,.slice ap x.paths.length cp,.int .i64 x.ex.kind,.int .i64 x.ex.val.kind,.int .i64 x.ex.val.num,.string x.ex.val.text,.slice va x.ex.val.list.length vc,.string x.ex.name,.string x.ex.key,.slice pa x.ex.parts.length pc,.string x.name,.slice ai x.items.length ci,.bool x.distinct,.slice ao x.orders.length co,.int .i64 x.skip,.int .i64 x.limit,.slice at' x.tos.length ct,.slice an x.names.length cn,.bool x.detach]) = A0
  obtain ⟨y0,y1,y2,y3,y4,y5,y6,y7,y8,y9,y10,y11,y12,y13,y14,y15,y16,y17,y18⟩ := at19c BX.out
  go_wp2_with (first | (refine wpList_load_row rfl 122 (.tmp 1) rfl w.heap.size rfl 122 #[.int .i64 x.kind,.slice ap x.paths.length cp,.int .i64 x.ex.kind,.int .i64 x.ex.val.kind,.int .i64 x.ex.val.num,.string x.ex.val.text,.slice va x.ex.val.list.length vc,.string x.ex.name,.string x.ex.key,.slice pa x.ex.parts.length pc,.string x.name,.slice ai x.items.length ci,.bool x.distinct,.slice ao x.orders.length co,.int .i64 x.skip,.int .i64 x.limit,.slice at' x.tos.length ct,.slice an x.names.length cn,.bool x.detach] (0,0) _ BX.out Tryz.underlying122 rfl infoCl ?_) | (go_at_call 139;refine (l5PutItems_calls x _ _ (HCL.out.keep KW.out) WC.out).mono ?_;rintro e w2 ⟨z1,hz1,rfl,hK2⟩;have KW := hyd (KW.out.trans hK2);have BX := hyd (blk_keep hK2 BX.out trivial);clear hK2;obtain ⟨y0,y1,y2,y3,y4,y5,y6,y7,y8,y9,y10,y11,y12,y13,y14,y15,y16,y17,y18⟩ := at19c BX.out;have n1 : ¬ 9223372036854775807 < 6 + z1.size := (by omega)))
  go_ret
  exact ⟨_,(by (try simp only [ByteArray.size_append]);(try simp only [show (⟨#[82,69,84,85,82,78]⟩ : ByteArray).size = 6 from rfl]);omega),rfl,KW.out⟩
end Go.Proofs.YtjopkcjpedgoaaaGreatDoor

/- The reference's form of a clause, for some kinds of it. -/
import Derived.Test.YtjopkcjpedgoaaaGreatDoorMG9
import Derived.Test.YtjopkcjpedgoaaaGreatDoorMGAt
/- The reference's form of a clause,for some kinds of it. -/
namespace Go.Proofs.YtjopkcjpedgoaaaGreatDoor
open Go.RowKit
set_option linter.unusedVariables false
set_option linter.unusedSimpArgs false
set_option maxRecDepth 20000
set_option maxHeartbeats 4000000
theorem l5Form_k8 (x : Cl) (cs : List Value) (w : World) (hs : ClR w Any x cs) (hw : WfCl x) (hki : x.kind = 8) : Calls Tryz.prog 103 #[.agg cs.toArray] w (SomeB w) := by
  have HCL := hyd hs
  obtain ⟨ap,cp,va,vc,pa,pc,ai,ci,ao,co,at',ct,an,cn,rfl,hk,hpa,hex,hna,hit,hod,hsk,hli,hto,hns⟩ := cl_open hs
  have HPA := hyd hpa
  have HEX := hyd hex
  have HIT := hyd hit
  have HOD := hyd hod
  have HTO := hyd hto
  have HNS := hyd hns
  have WC := hyd hw
  have lpa := sl_len hpa
  have lit := sl_len hit
  have lod := sl_len hod
  have lto := sl_len hto
  have lns := sl_len hns
  have KW := hyd ((Keep.refl Any w).alloc (.cells #[.int .i64 x.kind,.slice ap x.paths.length cp,.int .i64 x.ex.kind,.int .i64 x.ex.val.kind,.int .i64 x.ex.val.num,.string x.ex.val.text,.slice va x.ex.val.list.length vc,.string x.ex.name,.string x.ex.key,.slice pa x.ex.parts.length pc,.string x.name,.slice ai x.items.length ci,.bool x.distinct,.slice ao x.orders.length co,.int .i64 x.skip,.int .i64 x.limit,.slice at' x.tos.length ct,.slice an x.names.length cn,.bool x.detach] 122 (0,0)))
  have BX := hyd (blk_new w (.cells #[.int .i64 x.kind,.slice ap x.paths.length cp,.int .i64 x.ex.kind,.int .i64 x.ex.val.kind,.int .i64 x.ex.val.num,.string x.ex.val.text,.slice va x.ex.val.list.length vc,.string x.ex.name,.string x.ex.key,.slice pa x.ex.parts.length pc,.string x.name,.slice ai x.items.length ci,.bool x.distinct,.slice ao x.orders.length co,.int .i64 x.skip,.int .i64 x.limit,.slice at' x.tos.length ct,.slice an x.names.length cn,.bool x.detach] 122 (0,0)))
  clear hw hs hpa hex hit hod hto hns
  have q1 : (x.kind == 1) = false := by rw [hki];rfl
  have q2 : (x.kind == 2) = false := by rw [hki];rfl
  have q7 : (x.kind == 7) = false := by rw [hki];rfl
  have q3 : (x.kind == 3) = false := by rw [hki];rfl
  have q4 : (x.kind == 4) = false := by rw [hki];rfl
  have q5 : (x.kind == 5) = false := by rw [hki];rfl
  have q6 : (x.kind == 6) = false := by rw [hki];rfl
  have q8 : (x.kind == 8) = true := by rw [hki];rfl
  have q9 : (x.kind == 9) = false := by rw [hki];rfl
  have li10 : x.items.length ≤ 10 := WC.out.items.1
  have lo10 : x.orders.length ≤ 10 := WC.out.orders.1
  clear lit lod
  have e1 : IntKind.i64.wrap ((x.items.length : Int) + (x.orders.length : Int)) = (x.items.length : Int) + (x.orders.length : Int) := IntWalk.i64_in _ ⟨by omega,by omega⟩
  obtain ⟨r1,hr1⟩ : ∃ t,((x.items.length : Int) + (x.orders.length : Int) == 0) = t := ⟨_,rfl⟩
  obtain ⟨r2,hr2⟩ : ∃ t,(x.skip == -1) = t := ⟨_,rfl⟩
  obtain ⟨r3,hr3⟩ : ∃ t,(x.limit == -1) = t := ⟨_,rfl⟩
  have HKI := hyd hki
  clear hki
  go_enter Tryz.func103,Tryz.ntmps103
  go_upto_region 1 with fail
  generalize w.alloc (.cells #[.int .i64 x.kind,.slice ap x.paths.length cp,.int .i64 x.ex.kind,.int .i64 x.ex.val.kind,.int .i64 x.ex.val.num,.string x.ex.val.text,.slice va x.ex.val.list.length vc,.string x.ex.name,.string x.ex.key,.slice pa x.ex.parts.length pc,.string x.name,.slice ai x.items.length ci,.bool x.distinct,.slice ao x.orders.length co,.int .i64 x.skip,.int .i64 x.limit,.slice at' x.tos.length ct,.slice an x.names.length cn,.bool x.detach] 122 (0,0)) = w1 at *
  generalize (Value.agg #[.int .i64 x.kind,.slice ap x.paths.length cp,.int .i64 x.ex.kind,.int .i64 x.ex.val.kind,.int .i64 x.ex.val.num,.string x.ex.val.text,.slice va x.ex.val.list.length vc,.string x.ex.name,.string x.ex.key,.slice pa x.ex.parts.length pc,.string x.name,.slice ai x.items.length ci,.bool x.distinct,.slice ao x.orders.length co,.int .i64 x.skip,.int .i64 x.limit,.slice at' x.tos.length ct,.slice an x.names.length cn,.bool x.detach]) = A0
  obtain ⟨y0,y1,y2,y3,y4,y5,y6,y7,y8,y9,y10,y11,y12,y13,y14,y15,y16,y17,y18⟩ := at19c BX.out
  go_cut [3] from 8 to 11 (fun v wc => ∃ b : Bool,v = .bool b ∧ wc.heap[w.heap.size]? = some (.cells #[.int .i64 x.kind,.slice ap x.paths.length cp,.int .i64 x.ex.kind,.int .i64 x.ex.val.kind,.int .i64 x.ex.val.num,.string x.ex.val.text,.slice va x.ex.val.list.length vc,.string x.ex.name,.string x.ex.key,.slice pa x.ex.parts.length pc,.string x.name,.slice ai x.items.length ci,.bool x.distinct,.slice ao x.orders.length co,.int .i64 x.skip,.int .i64 x.limit,.slice at' x.tos.length ct,.slice an x.names.length cn,.bool x.detach] 122 (0,0)) ∧ Keep Any w wc)
  case first =>
    go_wp2_with fail
    all_goals
      go_meet
      exact ⟨_,rfl,BX.out,KW.out⟩
  case rest =>
    obtain ⟨b3,rfl,hB,hK⟩ := hcut
    clear KW BX
    have KW := hyd hK
    have BX := hyd hB
    clear hK hB
    obtain ⟨y0,y1,y2,y3,y4,y5,y6,y7,y8,y9,y10,y11,y12,y13,y14,y15,y16,y17,y18⟩ := at19c BX.out
    go_upto_region 2 with fail
    go_cut [4] from 12 to 34 (fun v wc => ∃ b : Bool,v = .bool b ∧ wc.heap[w.heap.size]? = some (.cells #[.int .i64 x.kind,.slice ap x.paths.length cp,.int .i64 x.ex.kind,.int .i64 x.ex.val.kind,.int .i64 x.ex.val.num,.string x.ex.val.text,.slice va x.ex.val.list.length vc,.string x.ex.name,.string x.ex.key,.slice pa x.ex.parts.length pc,.string x.name,.slice ai x.items.length ci,.bool x.distinct,.slice ao x.orders.length co,.int .i64 x.skip,.int .i64 x.limit,.slice at' x.tos.length ct,.slice an x.names.length cn,.bool x.detach] 122 (0,0)) ∧ Keep Any w wc)
    case first =>
      go_wp2_with fail
      all_goals
        go_meet
        exact ⟨_,rfl,BX.out,KW.out⟩
    case rest =>
      obtain ⟨b4,rfl,hB,hK⟩ := hcut
      clear KW BX
      have KW := hyd hK
      have BX := hyd hB
      clear hK hB
      obtain ⟨y0,y1,y2,y3,y4,y5,y6,y7,y8,y9,y10,y11,y12,y13,y14,y15,y16,y17,y18⟩ := at19c BX.out
      go_upto_region 3 with fail
      go_cut [5] from 35 to 38 (fun v wc => ∃ b : Bool,v = .bool b ∧ wc.heap[w.heap.size]? = some (.cells #[.int .i64 x.kind,.slice ap x.paths.length cp,.int .i64 x.ex.kind,.int .i64 x.ex.val.kind,.int .i64 x.ex.val.num,.string x.ex.val.text,.slice va x.ex.val.list.length vc,.string x.ex.name,.string x.ex.key,.slice pa x.ex.parts.length pc,.string x.name,.slice ai x.items.length ci,.bool x.distinct,.slice ao x.orders.length co,.int .i64 x.skip,.int .i64 x.limit,.slice at' x.tos.length ct,.slice an x.names.length cn,.bool x.detach] 122 (0,0)) ∧ Keep Any w wc)
      case first =>
        go_wp2_with fail
        all_goals
          go_meet
          exact ⟨_,rfl,BX.out,KW.out⟩
      case rest =>
        obtain ⟨b5,rfl,hB,hK⟩ := hcut
        clear KW BX
        have KW := hyd hK
        have BX := hyd hB
        clear hK hB
        obtain ⟨y0,y1,y2,y3,y4,y5,y6,y7,y8,y9,y10,y11,y12,y13,y14,y15,y16,y17,y18⟩ := at19c BX.out
        go_upto_region 4 with fail
        go_cut [6] from 39 to 47 (fun v wc => ∃ b : Bool,v = .bool b ∧ wc.heap[w.heap.size]? = some (.cells #[.int .i64 x.kind,.slice ap x.paths.length cp,.int .i64 x.ex.kind,.int .i64 x.ex.val.kind,.int .i64 x.ex.val.num,.string x.ex.val.text,.slice va x.ex.val.list.length vc,.string x.ex.name,.string x.ex.key,.slice pa x.ex.parts.length pc,.string x.name,.slice ai x.items.length ci,.bool x.distinct,.slice ao x.orders.length co,.int .i64 x.skip,.int .i64 x.limit,.slice at' x.tos.length ct,.slice an x.names.length cn,.bool x.detach] 122 (0,0)) ∧ Keep Any w wc)
        case first =>
          go_wp2_with fail
          all_goals
            go_meet
            exact ⟨_,rfl,BX.out,KW.out⟩
        case rest =>
          obtain ⟨b6,rfl,hB,hK⟩ := hcut
          clear KW BX
          have KW := hyd hK
          have BX := hyd hB
          clear hK hB
          obtain ⟨y0,y1,y2,y3,y4,y5,y6,y7,y8,y9,y10,y11,y12,y13,y14,y15,y16,y17,y18⟩ := at19c BX.out
          go_upto_region 5 with fail
          go_cut [7] from 48 to 50 (fun v wc => ∃ b : Bool,v = .bool b ∧ wc.heap[w.heap.size]? = some (.cells #[.int .i64 x.kind,.slice ap x.paths.length cp,.int .i64 x.ex.kind,.int .i64 x.ex.val.kind,.int .i64 x.ex.val.num,.string x.ex.val.text,.slice va x.ex.val.list.length vc,.string x.ex.name,.string x.ex.key,.slice pa x.ex.parts.length pc,.string x.name,.slice ai x.items.length ci,.bool x.distinct,.slice ao x.orders.length co,.int .i64 x.skip,.int .i64 x.limit,.slice at' x.tos.length ct,.slice an x.names.length cn,.bool x.detach] 122 (0,0)) ∧ Keep Any w wc)
          case first =>
            go_wp2_with (go_at_call 123;refine (l5None_calls x.ex _ _ (HEX.out.keep KW.out)).mono ?_;rintro e w2 ⟨b,rfl,hK2⟩;have KW := hyd (KW.out.trans hK2);have BX := hyd (blk_keep hK2 BX.out trivial);clear hK2;obtain ⟨y0,y1,y2,y3,y4,y5,y6,y7,y8,y9,y10,y11,y12,y13,y14,y15,y16,y17,y18⟩ := at19c BX.out)
            all_goals
              go_meet
              exact ⟨_,rfl,BX.out,KW.out⟩
          case rest =>
            obtain ⟨b7,rfl,hB,hK⟩ := hcut
            clear KW BX
            have KW := hyd hK
            have BX := hyd hB
            clear hK hB
            obtain ⟨y0,y1,y2,y3,y4,y5,y6,y7,y8,y9,y10,y11,y12,y13,y14,y15,y16,y17,y18⟩ := at19c BX.out
            go_wp2_with (go_at_call 127;refine (l5Tos_calls x.tos _ _ (Tts.keep HTO.out KW.out) WC.out.tos.2).mono ?_;rintro e w2 ⟨b,rfl,hK2⟩;have KW := hyd (KW.out.trans hK2);have BX := hyd (blk_keep hK2 BX.out trivial);clear hK2;obtain ⟨y0,y1,y2,y3,y4,y5,y6,y7,y8,y9,y10,y11,y12,y13,y14,y15,y16,y17,y18⟩ := at19c BX.out;cases b)
            all_goals
              go_ret
              exact ⟨_,rfl,KW.out⟩
theorem l5Form_k9 (x : Cl) (cs : List Value) (w : World) (hs : ClR w Any x cs) (hw : WfCl x) (hki : x.kind = 9) : Calls Tryz.prog 103 #[.agg cs.toArray] w (SomeB w) := by
  have HCL := hyd hs
  obtain ⟨ap,cp,va,vc,pa,pc,ai,ci,ao,co,at',ct,an,cn,rfl,hk,hpa,hex,hna,hit,hod,hsk,hli,hto,hns⟩ := cl_open hs
  have HPA := hyd hpa
  have HEX := hyd hex
  have HIT := hyd hit
  have HOD := hyd hod
  have HTO := hyd hto
  have HNS := hyd hns
  have WC := hyd hw
  have lpa := sl_len hpa
  have lit := sl_len hit
  have lod := sl_len hod
  have lto := sl_len hto
  have lns := sl_len hns
  have KW := hyd ((Keep.refl Any w).alloc (.cells #[.int .i64 x.kind,.slice ap x.paths.length cp,.int .i64 x.ex.kind,.int .i64 x.ex.val.kind,.int .i64 x.ex.val.num,.string x.ex.val.text,.slice va x.ex.val.list.length vc,.string x.ex.name,.string x.ex.key,.slice pa x.ex.parts.length pc,.string x.name,.slice ai x.items.length ci,.bool x.distinct,.slice ao x.orders.length co,.int .i64 x.skip,.int .i64 x.limit,.slice at' x.tos.length ct,.slice an x.names.length cn,.bool x.detach] 122 (0,0)))
  have BX := hyd (blk_new w (.cells #[.int .i64 x.kind,.slice ap x.paths.length cp,.int .i64 x.ex.kind,.int .i64 x.ex.val.kind,.int .i64 x.ex.val.num,.string x.ex.val.text,.slice va x.ex.val.list.length vc,.string x.ex.name,.string x.ex.key,.slice pa x.ex.parts.length pc,.string x.name,.slice ai x.items.length ci,.bool x.distinct,.slice ao x.orders.length co,.int .i64 x.skip,.int .i64 x.limit,.slice at' x.tos.length ct,.slice an x.names.length cn,.bool x.detach] 122 (0,0)))
  clear hw hs hpa hex hit hod hto hns
  have q1 : (x.kind == 1) = false := by rw [hki];rfl
  have q2 : (x.kind == 2) = false := by rw [hki];rfl
  have q7 : (x.kind == 7) = false := by rw [hki];rfl
  have q3 : (x.kind == 3) = false := by rw [hki];rfl
  have q4 : (x.kind == 4) = false := by rw [hki];rfl
  have q5 : (x.kind == 5) = false := by rw [hki];rfl
  have q6 : (x.kind == 6) = false := by rw [hki];rfl
  have q8 : (x.kind == 8) = false := by rw [hki];rfl
  have q9 : (x.kind == 9) = true := by rw [hki];rfl
  have li10 : x.items.length ≤ 10 := WC.out.items.1
  have lo10 : x.orders.length ≤ 10 := WC.out.orders.1
  clear lit lod
  have e1 : IntKind.i64.wrap ((x.items.length : Int) + (x.orders.length : Int)) = (x.items.length : Int) + (x.orders.length : Int) := IntWalk.i64_in _ ⟨by omega,by omega⟩
  obtain ⟨r1,hr1⟩ : ∃ t,((x.items.length : Int) + (x.orders.length : Int) == 0) = t := ⟨_,rfl⟩
  obtain ⟨r2,hr2⟩ : ∃ t,(x.skip == -1) = t := ⟨_,rfl⟩
  obtain ⟨r3,hr3⟩ : ∃ t,(x.limit == -1) = t := ⟨_,rfl⟩
  have HKI := hyd hki
  clear hki
  go_enter Tryz.func103,Tryz.ntmps103
  go_upto_region 1 with fail
  generalize w.alloc (.cells #[.int .i64 x.kind,.slice ap x.paths.length cp,.int .i64 x.ex.kind,.int .i64 x.ex.val.kind,.int .i64 x.ex.val.num,.string x.ex.val.text,.slice va x.ex.val.list.length vc,.string x.ex.name,.string x.ex.key,.slice pa x.ex.parts.length pc,.string x.name,.slice ai x.items.length ci,.bool x.distinct,.slice ao x.orders.length co,.int .i64 x.skip,.int .i64 x.limit,.slice at' x.tos.length ct,.slice an x.names.length cn,.bool x.detach] 122 (0,0)) = w1 at *
  generalize (Value.agg #[.int .i64 x.kind,.slice ap x.paths.length cp,.int .i64 x.ex.kind,.int .i64 x.ex.val.kind,.int .i64 x.ex.val.num,.string x.ex.val.text,.slice va x.ex.val.list.length vc,.string x.ex.name,.string x.ex.key,.slice pa x.ex.parts.length pc,.string x.name,.slice ai x.items.length ci,.bool x.distinct,.slice ao x.orders.length co,.int .i64 x.skip,.int .i64 x.limit,.slice at' x.tos.length ct,.slice an x.names.length cn,.bool x.detach]) = A0
  obtain ⟨y0,y1,y2,y3,y4,y5,y6,y7,y8,y9,y10,y11,y12,y13,y14,y15,y16,y17,y18⟩ := at19c BX.out
  go_cut [3] from 8 to 11 (fun v wc => ∃ b : Bool,v = .bool b ∧ wc.heap[w.heap.size]? = some (.cells #[.int .i64 x.kind,.slice ap x.paths.length cp,.int .i64 x.ex.kind,.int .i64 x.ex.val.kind,.int .i64 x.ex.val.num,.string x.ex.val.text,.slice va x.ex.val.list.length vc,.string x.ex.name,.string x.ex.key,.slice pa x.ex.parts.length pc,.string x.name,.slice ai x.items.length ci,.bool x.distinct,.slice ao x.orders.length co,.int .i64 x.skip,.int .i64 x.limit,.slice at' x.tos.length ct,.slice an x.names.length cn,.bool x.detach] 122 (0,0)) ∧ Keep Any w wc)
  case first =>
    go_wp2_with fail
    all_goals
      go_meet
      exact ⟨_,rfl,BX.out,KW.out⟩
  case rest =>
    obtain ⟨b3,rfl,hB,hK⟩ := hcut
    clear KW BX
    have KW := hyd hK
    have BX := hyd hB
    clear hK hB
    obtain ⟨y0,y1,y2,y3,y4,y5,y6,y7,y8,y9,y10,y11,y12,y13,y14,y15,y16,y17,y18⟩ := at19c BX.out
    go_upto_region 2 with fail
    go_cut [4] from 12 to 34 (fun v wc => ∃ b : Bool,v = .bool b ∧ wc.heap[w.heap.size]? = some (.cells #[.int .i64 x.kind,.slice ap x.paths.length cp,.int .i64 x.ex.kind,.int .i64 x.ex.val.kind,.int .i64 x.ex.val.num,.string x.ex.val.text,.slice va x.ex.val.list.length vc,.string x.ex.name,.string x.ex.key,.slice pa x.ex.parts.length pc,.string x.name,.slice ai x.items.length ci,.bool x.distinct,.slice ao x.orders.length co,.int .i64 x.skip,.int .i64 x.limit,.slice at' x.tos.length ct,.slice an x.names.length cn,.bool x.detach] 122 (0,0)) ∧ Keep Any w wc)
    case first =>
      go_wp2_with fail
      all_goals
        go_meet
        exact ⟨_,rfl,BX.out,KW.out⟩
    case rest =>
      obtain ⟨b4,rfl,hB,hK⟩ := hcut
      clear KW BX
      have KW := hyd hK
      have BX := hyd hB
      clear hK hB
      obtain ⟨y0,y1,y2,y3,y4,y5,y6,y7,y8,y9,y10,y11,y12,y13,y14,y15,y16,y17,y18⟩ := at19c BX.out
      go_upto_region 3 with fail
      go_cut [5] from 35 to 38 (fun v wc => ∃ b : Bool,v = .bool b ∧ wc.heap[w.heap.size]? = some (.cells #[.int .i64 x.kind,.slice ap x.paths.length cp,.int .i64 x.ex.kind,.int .i64 x.ex.val.kind,.int .i64 x.ex.val.num,.string x.ex.val.text,.slice va x.ex.val.list.length vc,.string x.ex.name,.string x.ex.key,.slice pa x.ex.parts.length pc,.string x.name,.slice ai x.items.length ci,.bool x.distinct,.slice ao x.orders.length co,.int .i64 x.skip,.int .i64 x.limit,.slice at' x.tos.length ct,.slice an x.names.length cn,.bool x.detach] 122 (0,0)) ∧ Keep Any w wc)
      case first =>
        go_wp2_with fail
        all_goals
          go_meet
          exact ⟨_,rfl,BX.out,KW.out⟩
      case rest =>
        obtain ⟨b5,rfl,hB,hK⟩ := hcut
        clear KW BX
        have KW := hyd hK
        have BX := hyd hB
        clear hK hB
        obtain ⟨y0,y1,y2,y3,y4,y5,y6,y7,y8,y9,y10,y11,y12,y13,y14,y15,y16,y17,y18⟩ := at19c BX.out
        go_upto_region 4 with fail
        go_cut [6] from 39 to 47 (fun v wc => ∃ b : Bool,v = .bool b ∧ wc.heap[w.heap.size]? = some (.cells #[.int .i64 x.kind,.slice ap x.paths.length cp,.int .i64 x.ex.kind,.int .i64 x.ex.val.kind,.int .i64 x.ex.val.num,.string x.ex.val.text,.slice va x.ex.val.list.length vc,.string x.ex.name,.string x.ex.key,.slice pa x.ex.parts.length pc,.string x.name,.slice ai x.items.length ci,.bool x.distinct,.slice ao x.orders.length co,.int .i64 x.skip,.int .i64 x.limit,.slice at' x.tos.length ct,.slice an x.names.length cn,.bool x.detach] 122 (0,0)) ∧ Keep Any w wc)
        case first =>
          go_wp2_with fail
          all_goals
            go_meet
            exact ⟨_,rfl,BX.out,KW.out⟩
        case rest =>
          obtain ⟨b6,rfl,hB,hK⟩ := hcut
          clear KW BX
          have KW := hyd hK
          have BX := hyd hB
          clear hK hB
          obtain ⟨y0,y1,y2,y3,y4,y5,y6,y7,y8,y9,y10,y11,y12,y13,y14,y15,y16,y17,y18⟩ := at19c BX.out
          go_upto_region 5 with fail
          go_cut [7] from 48 to 50 (fun v wc => ∃ b : Bool,v = .bool b ∧ wc.heap[w.heap.size]? = some (.cells #[.int .i64 x.kind,.slice ap x.paths.length cp,.int .i64 x.ex.kind,.int .i64 x.ex.val.kind,.int .i64 x.ex.val.num,.string x.ex.val.text,.slice va x.ex.val.list.length vc,.string x.ex.name,.string x.ex.key,.slice pa x.ex.parts.length pc,.string x.name,.slice ai x.items.length ci,.bool x.distinct,.slice ao x.orders.length co,.int .i64 x.skip,.int .i64 x.limit,.slice at' x.tos.length ct,.slice an x.names.length cn,.bool x.detach] 122 (0,0)) ∧ Keep Any w wc)
          case first =>
            go_wp2_with (go_at_call 123;refine (l5None_calls x.ex _ _ (HEX.out.keep KW.out)).mono ?_;rintro e w2 ⟨b,rfl,hK2⟩;have KW := hyd (KW.out.trans hK2);have BX := hyd (blk_keep hK2 BX.out trivial);clear hK2;obtain ⟨y0,y1,y2,y3,y4,y5,y6,y7,y8,y9,y10,y11,y12,y13,y14,y15,y16,y17,y18⟩ := at19c BX.out)
            all_goals
              go_meet
              exact ⟨_,rfl,BX.out,KW.out⟩
          case rest =>
            obtain ⟨b7,rfl,hB,hK⟩ := hcut
            clear KW BX
            have KW := hyd hK
            have BX := hyd hB
            clear hK hB
            obtain ⟨y0,y1,y2,y3,y4,y5,y6,y7,y8,y9,y10,y11,y12,y13,y14,y15,y16,y17,y18⟩ := at19c BX.out
            go_wp2_with (go_at_call 128;refine (l5Names_calls x.names _ _ (Strs.keep HNS.out KW.out)).mono ?_;rintro e w2 ⟨b,rfl,hK2⟩;have KW := hyd (KW.out.trans hK2);have BX := hyd (blk_keep hK2 BX.out trivial);clear hK2;obtain ⟨y0,y1,y2,y3,y4,y5,y6,y7,y8,y9,y10,y11,y12,y13,y14,y15,y16,y17,y18⟩ := at19c BX.out;cases b)
            all_goals
              go_ret
              exact ⟨_,rfl,KW.out⟩
theorem l5Form_k0 (x : Cl) (cs : List Value) (w : World) (hs : ClR w Any x cs) (hw : WfCl x) (hki : ¬ (1 ≤ x.kind ∧ x.kind ≤ 9)) : Calls Tryz.prog 103 #[.agg cs.toArray] w (SomeB w) := by
  have HCL := hyd hs
  obtain ⟨ap,cp,va,vc,pa,pc,ai,ci,ao,co,at',ct,an,cn,rfl,hk,hpa,hex,hna,hit,hod,hsk,hli,hto,hns⟩ := cl_open hs
  have HPA := hyd hpa
  have HEX := hyd hex
  have HIT := hyd hit
  have HOD := hyd hod
  have HTO := hyd hto
  have HNS := hyd hns
  have WC := hyd hw
  have lpa := sl_len hpa
  have lit := sl_len hit
  have lod := sl_len hod
  have lto := sl_len hto
  have lns := sl_len hns
  have KW := hyd ((Keep.refl Any w).alloc (.cells #[.int .i64 x.kind,.slice ap x.paths.length cp,.int .i64 x.ex.kind,.int .i64 x.ex.val.kind,.int .i64 x.ex.val.num,.string x.ex.val.text,.slice va x.ex.val.list.length vc,.string x.ex.name,.string x.ex.key,.slice pa x.ex.parts.length pc,.string x.name,.slice ai x.items.length ci,.bool x.distinct,.slice ao x.orders.length co,.int .i64 x.skip,.int .i64 x.limit,.slice at' x.tos.length ct,.slice an x.names.length cn,.bool x.detach] 122 (0,0)))
  have BX := hyd (blk_new w (.cells #[.int .i64 x.kind,.slice ap x.paths.length cp,.int .i64 x.ex.kind,.int .i64 x.ex.val.kind,.int .i64 x.ex.val.num,.string x.ex.val.text,.slice va x.ex.val.list.length vc,.string x.ex.name,.string x.ex.key,.slice pa x.ex.parts.length pc,.string x.name,.slice ai x.items.length ci,.bool x.distinct,.slice ao x.orders.length co,.int .i64 x.skip,.int .i64 x.limit,.slice at' x.tos.length ct,.slice an x.names.length cn,.bool x.detach] 122 (0,0)))
  clear hw hs hpa hex hit hod hto hns
  have q1 : (x.kind == 1) = false := by rw [beq_eq_false_iff_ne];omega
  have q2 : (x.kind == 2) = false := by rw [beq_eq_false_iff_ne];omega
  have q7 : (x.kind == 7) = false := by rw [beq_eq_false_iff_ne];omega
  have q3 : (x.kind == 3) = false := by rw [beq_eq_false_iff_ne];omega
  have q4 : (x.kind == 4) = false := by rw [beq_eq_false_iff_ne];omega
  have q5 : (x.kind == 5) = false := by rw [beq_eq_false_iff_ne];omega
  have q6 : (x.kind == 6) = false := by rw [beq_eq_false_iff_ne];omega
  have q8 : (x.kind == 8) = false := by rw [beq_eq_false_iff_ne];omega
  have q9 : (x.kind == 9) = false := by rw [beq_eq_false_iff_ne];omega
  have li10 : x.items.length ≤ 10 := WC.out.items.1
  have lo10 : x.orders.length ≤ 10 := WC.out.orders.1
  clear lit lod
  have e1 : IntKind.i64.wrap ((x.items.length : Int) + (x.orders.length : Int)) = (x.items.length : Int) + (x.orders.length : Int) := IntWalk.i64_in _ ⟨by omega,by omega⟩
  obtain ⟨r1,hr1⟩ : ∃ t,((x.items.length : Int) + (x.orders.length : Int) == 0) = t := ⟨_,rfl⟩
  obtain ⟨r2,hr2⟩ : ∃ t,(x.skip == -1) = t := ⟨_,rfl⟩
  obtain ⟨r3,hr3⟩ : ∃ t,(x.limit == -1) = t := ⟨_,rfl⟩
  have HKI := hyd hki
  clear hki
  go_enter Tryz.func103,Tryz.ntmps103
  go_upto_region 1 with fail
  generalize w.alloc (.cells #[.int .i64 x.kind,.slice ap x.paths.length cp,.int .i64 x.ex.kind,.int .i64 x.ex.val.kind,.int .i64 x.ex.val.num,.string x.ex.val.text,.slice va x.ex.val.list.length vc,.string x.ex.name,.string x.ex.key,.slice pa x.ex.parts.length pc,.string x.name,.slice ai x.items.length ci,.bool x.distinct,.slice ao x.orders.length co,.int .i64 x.skip,.int .i64 x.limit,.slice at' x.tos.length ct,.slice an x.names.length cn,.bool x.detach] 122 (0,0)) = w1 at *
  generalize (Value.agg #[.int .i64 x.kind,.slice ap x.paths.length cp,.int .i64 x.ex.kind,.int .i64 x.ex.val.kind,.int .i64 x.ex.val.num,.string x.ex.val.text,.slice va x.ex.val.list.length vc,.string x.ex.name,.string x.ex.key,.slice pa x.ex.parts.length pc,.string x.name,.slice ai x.items.length ci,.bool x.distinct,.slice ao x.orders.length co,.int .i64 x.skip,.int .i64 x.limit,.slice at' x.tos.length ct,.slice an x.names.length cn,.bool x.detach]) = A0
  obtain ⟨y0,y1,y2,y3,y4,y5,y6,y7,y8,y9,y10,y11,y12,y13,y14,y15,y16,y17,y18⟩ := at19c BX.out
  go_cut [3] from 8 to 11 (fun v wc => ∃ b : Bool,v = .bool b ∧ wc.heap[w.heap.size]? = some (.cells #[.int .i64 x.kind,.slice ap x.paths.length cp,.int .i64 x.ex.kind,.int .i64 x.ex.val.kind,.int .i64 x.ex.val.num,.string x.ex.val.text,.slice va x.ex.val.list.length vc,.string x.ex.name,.string x.ex.key,.slice pa x.ex.parts.length pc,.string x.name,.slice ai x.items.length ci,.bool x.distinct,.slice ao x.orders.length co,.int .i64 x.skip,.int .i64 x.limit,.slice at' x.tos.length ct,.slice an x.names.length cn,.bool x.detach] 122 (0,0)) ∧ Keep Any w wc)
  case first =>
    go_wp2_with fail
    all_goals
      go_meet
      exact ⟨_,rfl,BX.out,KW.out⟩
  case rest =>
    obtain ⟨b3,rfl,hB,hK⟩ := hcut
    clear KW BX
    have KW := hyd hK
    have BX := hyd hB
    clear hK hB
    obtain ⟨y0,y1,y2,y3,y4,y5,y6,y7,y8,y9,y10,y11,y12,y13,y14,y15,y16,y17,y18⟩ := at19c BX.out
    go_upto_region 2 with fail
    go_cut [4] from 12 to 34 (fun v wc => ∃ b : Bool,v = .bool b ∧ wc.heap[w.heap.size]? = some (.cells #[.int .i64 x.kind,.slice ap x.paths.length cp,.int .i64 x.ex.kind,.int .i64 x.ex.val.kind,.int .i64 x.ex.val.num,.string x.ex.val.text,.slice va x.ex.val.list.length vc,.string x.ex.name,.string x.ex.key,.slice pa x.ex.parts.length pc,.string x.name,.slice ai x.items.length ci,.bool x.distinct,.slice ao x.orders.length co,.int .i64 x.skip,.int .i64 x.limit,.slice at' x.tos.length ct,.slice an x.names.length cn,.bool x.detach] 122 (0,0)) ∧ Keep Any w wc)
    case first =>
      go_wp2_with fail
      all_goals
        go_meet
        exact ⟨_,rfl,BX.out,KW.out⟩
    case rest =>
      obtain ⟨b4,rfl,hB,hK⟩ := hcut
      clear KW BX
      have KW := hyd hK
      have BX := hyd hB
      clear hK hB
      obtain ⟨y0,y1,y2,y3,y4,y5,y6,y7,y8,y9,y10,y11,y12,y13,y14,y15,y16,y17,y18⟩ := at19c BX.out
      go_upto_region 3 with fail
      go_cut [5] from 35 to 38 (fun v wc => ∃ b : Bool,v = .bool b ∧ wc.heap[w.heap.size]? = some (.cells #[.int .i64 x.kind,.slice ap x.paths.length cp,.int .i64 x.ex.kind,.int .i64 x.ex.val.kind,.int .i64 x.ex.val.num,.string x.ex.val.text,.slice va x.ex.val.list.length vc,.string x.ex.name,.string x.ex.key,.slice pa x.ex.parts.length pc,.string x.name,.slice ai x.items.length ci,.bool x.distinct,.slice ao x.orders.length co,.int .i64 x.skip,.int .i64 x.limit,.slice at' x.tos.length ct,.slice an x.names.length cn,.bool x.detach] 122 (0,0)) ∧ Keep Any w wc)
      case first =>
        go_wp2_with fail
        all_goals
          go_meet
          exact ⟨_,rfl,BX.out,KW.out⟩
      case rest =>
        obtain ⟨b5,rfl,hB,hK⟩ := hcut
        clear KW BX
        have KW := hyd hK
        have BX := hyd hB
        clear hK hB
        obtain ⟨y0,y1,y2,y3,y4,y5,y6,y7,y8,y9,y10,y11,y12,y13,y14,y15,y16,y17,y18⟩ := at19c BX.out
        go_upto_region 4 with fail
        go_cut [6] from 39 to 47 (fun v wc => ∃ b : Bool,v = .bool b ∧ wc.heap[w.heap.size]? = some (.cells #[.int .i64 x.kind,.slice ap x.paths.length cp,.int .i64 x.ex.kind,.int .i64 x.ex.val.kind,.int .i64 x.ex.val.num,.string x.ex.val.text,.slice va x.ex.val.list.length vc,.string x.ex.name,.string x.ex.key,.slice pa x.ex.parts.length pc,.string x.name,.slice ai x.items.length ci,.bool x.distinct,.slice ao x.orders.length co,.int .i64 x.skip,.int .i64 x.limit,.slice at' x.tos.length ct,.slice an x.names.length cn,.bool x.detach] 122 (0,0)) ∧ Keep Any w wc)
        case first =>
          go_wp2_with fail
          all_goals
            go_meet
            exact ⟨_,rfl,BX.out,KW.out⟩
        case rest =>
          obtain ⟨b6,rfl,hB,hK⟩ := hcut
          clear KW BX
          have KW := hyd hK
          have BX := hyd hB
          clear hK hB
          obtain ⟨y0,y1,y2,y3,y4,y5,y6,y7,y8,y9,y10,y11,y12,y13,y14,y15,y16,y17,y18⟩ := at19c BX.out
          go_upto_region 5 with fail
          go_cut [7] from 48 to 50 (fun v wc => ∃ b : Bool,v = .bool b ∧ wc.heap[w.heap.size]? = some (.cells #[.int .i64 x.kind,.slice ap x.paths.length cp,.int .i64 x.ex.kind,.int .i64 x.ex.val.kind,.int .i64 x.ex.val.num,.string x.ex.val.text,.slice va x.ex.val.list.length vc,.string x.ex.name,.string x.ex.key,.slice pa x.ex.parts.length pc,.string x.name,.slice ai x.items.length ci,.bool x.distinct,.slice ao x.orders.length co,.int .i64 x.skip,.int .i64 x.limit,.slice at' x.tos.length ct,.slice an x.names.length cn,.bool x.detach] 122 (0,0)) ∧ Keep Any w wc)
          case first =>
            go_wp2_with (go_at_call 123;refine (l5None_calls x.ex _ _ (HEX.out.keep KW.out)).mono ?_;rintro e w2 ⟨b,rfl,hK2⟩;have KW := hyd (KW.out.trans hK2);have BX := hyd (blk_keep hK2 BX.out trivial);clear hK2;obtain ⟨y0,y1,y2,y3,y4,y5,y6,y7,y8,y9,y10,y11,y12,y13,y14,y15,y16,y17,y18⟩ := at19c BX.out)
            all_goals
              go_meet
              exact ⟨_,rfl,BX.out,KW.out⟩
          case rest =>
            obtain ⟨b7,rfl,hB,hK⟩ := hcut
            clear KW BX
            have KW := hyd hK
            have BX := hyd hB
            clear hK hB
            obtain ⟨y0,y1,y2,y3,y4,y5,y6,y7,y8,y9,y10,y11,y12,y13,y14,y15,y16,y17,y18⟩ := at19c BX.out
            go_wp2_with fail
            all_goals
              go_ret
              exact ⟨_,rfl,KW.out⟩
end Go.Proofs.YtjopkcjpedgoaaaGreatDoor

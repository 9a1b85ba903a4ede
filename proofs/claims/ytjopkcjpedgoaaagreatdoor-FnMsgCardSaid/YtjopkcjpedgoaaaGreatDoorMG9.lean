/- The reference's text of a clause, for some kinds of it. The reference's checks of a clause come to some answer, for all that is well made. -/
import Derived.Test.YtjopkcjpedgoaaaGreatDoorMG8
import Derived.Test.YtjopkcjpedgoaaaGreatDoorMG2
import Derived.Test.YtjopkcjpedgoaaaGreatDoorMGAt
/- The reference's text of a clause,for some kinds of it. -/
namespace Go.Proofs.YtjopkcjpedgoaaaGreatDoor
open Go.RowKit
set_option linter.unusedVariables false
set_option linter.unusedSimpArgs false
set_option maxRecDepth 20000
set_option maxHeartbeats 4000000
theorem l5PutClause_k1 (x : Cl) (cs : List Value) (w : World) (hs : ClR w Any x cs) (hw : WfCl x) (hki : x.kind = 1) : Calls Tryz.prog 106 #[.agg cs.toArray] w (SomeT 2000000000 w) := by
  have HCL := hyd hs
  obtain ⟨ap,cp,va,vc,pa,pc,ai,ci,ao,co,at',ct,an,cn,rfl,hk,hpa,hex,hna,hit,hod,hsk,hli,hto,hns⟩ := cl_open hs
  have HPA := hyd hpa
  have HEX := hyd hex
  have HIT := hyd hit
  have HOD := hyd hod
  have HTO := hyd hto
  have HNS := hyd hns
  have WC := hyd hw
  have li10 : x.items.length ≤ 10 := hw.items.1
  have lo10 : x.orders.length ≤ 10 := hw.orders.1
  have lt10 : x.tos.length ≤ 10 := hw.tos.1
  have ln10 : x.names.length ≤ 10 := hw.names.1
  have hna100 : x.name.size ≤ 100 := hw.name
  have PE := hyd (fun (v : Ex) cs w (h : Wf 4 v) (k : ER w Any v cs) => (l4Put_all 4 (by decide) v cs w h k).mono fun e w' h => (h : SomeT (txtB 4) w e w'))
  have tb : txtB 4 = 15001500 := by decide
  rw [tb] at PE
  have KW := hyd ((Keep.refl Any w).alloc (.cells #[.int .i64 x.kind,.slice ap x.paths.length cp,.int .i64 x.ex.kind,.int .i64 x.ex.val.kind,.int .i64 x.ex.val.num,.string x.ex.val.text,.slice va x.ex.val.list.length vc,.string x.ex.name,.string x.ex.key,.slice pa x.ex.parts.length pc,.string x.name,.slice ai x.items.length ci,.bool x.distinct,.slice ao x.orders.length co,.int .i64 x.skip,.int .i64 x.limit,.slice at' x.tos.length ct,.slice an x.names.length cn,.bool x.detach] 122 (0,0)))
  have BX := hyd (blk_new w (.cells #[.int .i64 x.kind,.slice ap x.paths.length cp,.int .i64 x.ex.kind,.int .i64 x.ex.val.kind,.int .i64 x.ex.val.num,.string x.ex.val.text,.slice va x.ex.val.list.length vc,.string x.ex.name,.string x.ex.key,.slice pa x.ex.parts.length pc,.string x.name,.slice ai x.items.length ci,.bool x.distinct,.slice ao x.orders.length co,.int .i64 x.skip,.int .i64 x.limit,.slice at' x.tos.length ct,.slice an x.names.length cn,.bool x.detach] 122 (0,0)))
  clear hw hs hpa hex hit hod hto hns
  have q1 : (x.kind == 1) = true := by rw [hki];rfl
  have q2 : (x.kind == 2) = false := by rw [hki];rfl
  have q7 : (x.kind == 7) = false := by rw [hki];rfl
  have q3 : (x.kind == 3) = false := by rw [hki];rfl
  have q4 : (x.kind == 4) = false := by rw [hki];rfl
  have q5 : (x.kind == 5) = false := by rw [hki];rfl
  have q6 : (x.kind == 6) = false := by rw [hki];rfl
  have HKI := hyd hki
  clear hki
  go_enter Tryz.func106,Tryz.ntmps106
  go_upto_region 1 with fail
  generalize w.alloc (.cells #[.int .i64 x.kind,.slice ap x.paths.length cp,.int .i64 x.ex.kind,.int .i64 x.ex.val.kind,.int .i64 x.ex.val.num,.string x.ex.val.text,.slice va x.ex.val.list.length vc,.string x.ex.name,.string x.ex.key,.slice pa x.ex.parts.length pc,.string x.name,.slice ai x.items.length ci,.bool x.distinct,.slice ao x.orders.length co,.int .i64 x.skip,.int .i64 x.limit,.slice at' x.tos.length ct,.slice an x.names.length cn,.bool x.detach] 122 (0,0)) = w1 at *
  generalize (Value.agg #[.int .i64 x.kind,.slice ap x.paths.length cp,.int .i64 x.ex.kind,.int .i64 x.ex.val.kind,.int .i64 x.ex.val.num,.string x.ex.val.text,.slice va x.ex.val.list.length vc,.string x.ex.name,.string x.ex.key,.slice pa x.ex.parts.length pc,.string x.name,.slice ai x.items.length ci,.bool x.distinct,.slice ao x.orders.length co,.int .i64 x.skip,.int .i64 x.limit,.slice at' x.tos.length ct,.slice an x.names.length cn,.bool x.detach]) = A0
  obtain ⟨y0,y1,y2,y3,y4,y5,y6,y7,y8,y9,y10,y11,y12,y13,y14,y15,y16,y17,y18⟩ := at19c BX.out
  have lp2 : x.paths.length ≤ 2 := WC.out.paths.1
  go_wp2_with (go_at_call 137;refine (l5PutPaths_calls x.paths _ _ (Pas.keep HPA.out KW.out) lp2 WC.out.paths.2).mono ?_;rintro e w2 ⟨z1,hz1,rfl,hK2⟩;have KW := hyd (KW.out.trans hK2);have BX := hyd (blk_keep hK2 BX.out trivial);clear hK2;obtain ⟨y0,y1,y2,y3,y4,y5,y6,y7,y8,y9,y10,y11,y12,y13,y14,y15,y16,y17,y18⟩ := at19c BX.out;have n1 : ¬ 9223372036854775807 < 6 + z1.size := (by omega))
  go_ret
  exact ⟨_,(by (try simp only [ByteArray.size_append]);(try simp only [show (⟨#[77,65,84,67,72,32]⟩ : ByteArray).size = 6 from rfl]);omega),rfl,KW.out⟩
theorem l5PutClause_k2 (x : Cl) (cs : List Value) (w : World) (hs : ClR w Any x cs) (hw : WfCl x) (hki : x.kind = 2) : Calls Tryz.prog 106 #[.agg cs.toArray] w (SomeT 2000000000 w) := by
  have HCL := hyd hs
  obtain ⟨ap,cp,va,vc,pa,pc,ai,ci,ao,co,at',ct,an,cn,rfl,hk,hpa,hex,hna,hit,hod,hsk,hli,hto,hns⟩ := cl_open hs
  have HPA := hyd hpa
  have HEX := hyd hex
  have HIT := hyd hit
  have HOD := hyd hod
  have HTO := hyd hto
  have HNS := hyd hns
  have WC := hyd hw
  have li10 : x.items.length ≤ 10 := hw.items.1
  have lo10 : x.orders.length ≤ 10 := hw.orders.1
  have lt10 : x.tos.length ≤ 10 := hw.tos.1
  have ln10 : x.names.length ≤ 10 := hw.names.1
  have hna100 : x.name.size ≤ 100 := hw.name
  have PE := hyd (fun (v : Ex) cs w (h : Wf 4 v) (k : ER w Any v cs) => (l4Put_all 4 (by decide) v cs w h k).mono fun e w' h => (h : SomeT (txtB 4) w e w'))
  have tb : txtB 4 = 15001500 := by decide
  rw [tb] at PE
  have KW := hyd ((Keep.refl Any w).alloc (.cells #[.int .i64 x.kind,.slice ap x.paths.length cp,.int .i64 x.ex.kind,.int .i64 x.ex.val.kind,.int .i64 x.ex.val.num,.string x.ex.val.text,.slice va x.ex.val.list.length vc,.string x.ex.name,.string x.ex.key,.slice pa x.ex.parts.length pc,.string x.name,.slice ai x.items.length ci,.bool x.distinct,.slice ao x.orders.length co,.int .i64 x.skip,.int .i64 x.limit,.slice at' x.tos.length ct,.slice an x.names.length cn,.bool x.detach] 122 (0,0)))
  have BX := hyd (blk_new w (.cells #[.int .i64 x.kind,.slice ap x.paths.length cp,.int .i64 x.ex.kind,.int .i64 x.ex.val.kind,.int .i64 x.ex.val.num,.string x.ex.val.text,.slice va x.ex.val.list.length vc,.string x.ex.name,.string x.ex.key,.slice pa x.ex.parts.length pc,.string x.name,.slice ai x.items.length ci,.bool x.distinct,.slice ao x.orders.length co,.int .i64 x.skip,.int .i64 x.limit,.slice at' x.tos.length ct,.slice an x.names.length cn,.bool x.detach] 122 (0,0)))
  clear hw hs hpa hex hit hod hto hns
  have q1 : (x.kind == 1) = false := by rw [hki];rfl
  have q2 : (x.kind == 2) = true := by rw [hki];rfl
  have q7 : (x.kind == 7) = false := by rw [hki];rfl
  have q3 : (x.kind == 3) = false := by rw [hki];rfl
  have q4 : (x.kind == 4) = false := by rw [hki];rfl
  have q5 : (x.kind == 5) = false := by rw [hki];rfl
  have q6 : (x.kind == 6) = false := by rw [hki];rfl
  have HKI := hyd hki
  clear hki
  go_enter Tryz.func106,Tryz.ntmps106
  go_upto_region 1 with fail
  generalize w.alloc (.cells #[.int .i64 x.kind,.slice ap x.paths.length cp,.int .i64 x.ex.kind,.int .i64 x.ex.val.kind,.int .i64 x.ex.val.num,.string x.ex.val.text,.slice va x.ex.val.list.length vc,.string x.ex.name,.string x.ex.key,.slice pa x.ex.parts.length pc,.string x.name,.slice ai x.items.length ci,.bool x.distinct,.slice ao x.orders.length co,.int .i64 x.skip,.int .i64 x.limit,.slice at' x.tos.length ct,.slice an x.names.length cn,.bool x.detach] 122 (0,0)) = w1 at *
  generalize (Value.agg #[.int .i64 x.kind,.slice ap x.paths.length cp,.int .i64 x.ex.kind,.int .i64 x.ex.val.kind,.int .i64 x.ex.val.num,.string x.ex.val.text,.slice va x.ex.val.list.length vc,.string x.ex.name,.string x.ex.key,.slice pa x.ex.parts.length pc,.string x.name,.slice ai x.items.length ci,.bool x.distinct,.slice ao x.orders.length co,.int .i64 x.skip,.int .i64 x.limit,.slice at' x.tos.length ct,.slice an x.names.length cn,.bool x.detach]) = A0
  obtain ⟨y0,y1,y2,y3,y4,y5,y6,y7,y8,y9,y10,y11,y12,y13,y14,y15,y16,y17,y18⟩ := at19c BX.out
  have lp2 : x.paths.length ≤ 2 := WC.out.paths.1
  go_wp2_with (go_at_call 137;refine (l5PutPaths_calls x.paths _ _ (Pas.keep HPA.out KW.out) lp2 WC.out.paths.2).mono ?_;rintro e w2 ⟨z1,hz1,rfl,hK2⟩;have KW := hyd (KW.out.trans hK2);have BX := hyd (blk_keep hK2 BX.out trivial);clear hK2;obtain ⟨y0,y1,y2,y3,y4,y5,y6,y7,y8,y9,y10,y11,y12,y13,y14,y15,y16,y17,y18⟩ := at19c BX.out;have n1 : ¬ 9223372036854775807 < 15 + z1.size := (by omega))
  go_ret
  exact ⟨_,(by (try simp only [ByteArray.size_append]);(try simp only [show (⟨#[79,80,84,73,79,78,65,76,32,77,65,84,67,72,32]⟩ : ByteArray).size = 15 from rfl]);omega),rfl,KW.out⟩
theorem l5PutClause_k7 (x : Cl) (cs : List Value) (w : World) (hs : ClR w Any x cs) (hw : WfCl x) (hki : x.kind = 7) : Calls Tryz.prog 106 #[.agg cs.toArray] w (SomeT 2000000000 w) := by
  have HCL := hyd hs
  obtain ⟨ap,cp,va,vc,pa,pc,ai,ci,ao,co,at',ct,an,cn,rfl,hk,hpa,hex,hna,hit,hod,hsk,hli,hto,hns⟩ := cl_open hs
  have HPA := hyd hpa
  have HEX := hyd hex
  have HIT := hyd hit
  have HOD := hyd hod
  have HTO := hyd hto
  have HNS := hyd hns
  have WC := hyd hw
  have li10 : x.items.length ≤ 10 := hw.items.1
  have lo10 : x.orders.length ≤ 10 := hw.orders.1
  have lt10 : x.tos.length ≤ 10 := hw.tos.1
  have ln10 : x.names.length ≤ 10 := hw.names.1
  have hna100 : x.name.size ≤ 100 := hw.name
  have PE := hyd (fun (v : Ex) cs w (h : Wf 4 v) (k : ER w Any v cs) => (l4Put_all 4 (by decide) v cs w h k).mono fun e w' h => (h : SomeT (txtB 4) w e w'))
  have tb : txtB 4 = 15001500 := by decide
  rw [tb] at PE
  have KW := hyd ((Keep.refl Any w).alloc (.cells #[.int .i64 x.kind,.slice ap x.paths.length cp,.int .i64 x.ex.kind,.int .i64 x.ex.val.kind,.int .i64 x.ex.val.num,.string x.ex.val.text,.slice va x.ex.val.list.length vc,.string x.ex.name,.string x.ex.key,.slice pa x.ex.parts.length pc,.string x.name,.slice ai x.items.length ci,.bool x.distinct,.slice ao x.orders.length co,.int .i64 x.skip,.int .i64 x.limit,.slice at' x.tos.length ct,.slice an x.names.length cn,.bool x.detach] 122 (0,0)))
  have BX := hyd (blk_new w (.cells #[.int .i64 x.kind,.slice ap x.paths.length cp,.int .i64 x.ex.kind,.int .i64 x.ex.val.kind,.int .i64 x.ex.val.num,.string x.ex.val.text,.slice va x.ex.val.list.length vc,.string x.ex.name,.string x.ex.key,.slice pa x.ex.parts.length pc,.string x.name,.slice ai x.items.length ci,.bool x.distinct,.slice ao x.orders.length co,.int .i64 x.skip,.int .i64 x.limit,.slice at' x.tos.length ct,.slice an x.names.length cn,.bool x.detach] 122 (0,0)))
  clear hw hs hpa hex hit hod hto hns
  have q1 : (x.kind == 1) = false := by rw [hki];rfl
  have q2 : (x.kind == 2) = false := by rw [hki];rfl
  have q7 : (x.kind == 7) = true := by rw [hki];rfl
  have q3 : (x.kind == 3) = false := by rw [hki];rfl
  have q4 : (x.kind == 4) = false := by rw [hki];rfl
  have q5 : (x.kind == 5) = false := by rw [hki];rfl
  have q6 : (x.kind == 6) = false := by rw [hki];rfl
  have HKI := hyd hki
  clear hki
  go_enter Tryz.func106,Tryz.ntmps106
  go_upto_region 1 with fail
  generalize w.alloc (.cells #[.int .i64 x.kind,.slice ap x.paths.length cp,.int .i64 x.ex.kind,.int .i64 x.ex.val.kind,.int .i64 x.ex.val.num,.string x.ex.val.text,.slice va x.ex.val.list.length vc,.string x.ex.name,.string x.ex.key,.slice pa x.ex.parts.length pc,.string x.name,.slice ai x.items.length ci,.bool x.distinct,.slice ao x.orders.length co,.int .i64 x.skip,.int .i64 x.limit,.slice at' x.tos.length ct,.slice an x.names.length cn,.bool x.detach] 122 (0,0)) = w1 at *
  generalize (Value.agg #[.int .i64 x.kind,.slice ap x.paths.length cp,.int .i64 x.ex.kind,.int .i64 x.ex.val.kind,.int .i64 x.ex.val.num,.string x.ex.val.text,.slice va x.ex.val.list.length vc,.string x.ex.name,.string x.ex.key,.slice pa x.ex.parts.length pc,.string x.name,.slice ai x.items.length ci,.bool x.distinct,.slice ao x.orders.length co,.int .i64 x.skip,.int .i64 x.limit,.slice at' x.tos.length ct,.slice an x.names.length cn,.bool x.detach]) = A0
  obtain ⟨y0,y1,y2,y3,y4,y5,y6,y7,y8,y9,y10,y11,y12,y13,y14,y15,y16,y17,y18⟩ := at19c BX.out
  have lp2 : x.paths.length ≤ 2 := WC.out.paths.1
  go_wp2_with (go_at_call 137;refine (l5PutPaths_calls x.paths _ _ (Pas.keep HPA.out KW.out) lp2 WC.out.paths.2).mono ?_;rintro e w2 ⟨z1,hz1,rfl,hK2⟩;have KW := hyd (KW.out.trans hK2);have BX := hyd (blk_keep hK2 BX.out trivial);clear hK2;obtain ⟨y0,y1,y2,y3,y4,y5,y6,y7,y8,y9,y10,y11,y12,y13,y14,y15,y16,y17,y18⟩ := at19c BX.out;have n1 : ¬ 9223372036854775807 < 7 + z1.size := (by omega))
  go_ret
  exact ⟨_,(by (try simp only [ByteArray.size_append]);(try simp only [show (⟨#[67,82,69,65,84,69,32]⟩ : ByteArray).size = 7 from rfl]);omega),rfl,KW.out⟩
theorem l5PutClause_k3 (x : Cl) (cs : List Value) (w : World) (hs : ClR w Any x cs) (hw : WfCl x) (hki : x.kind = 3) : Calls Tryz.prog 106 #[.agg cs.toArray] w (SomeT 2000000000 w) := by
  have HCL := hyd hs
  obtain ⟨ap,cp,va,vc,pa,pc,ai,ci,ao,co,at',ct,an,cn,rfl,hk,hpa,hex,hna,hit,hod,hsk,hli,hto,hns⟩ := cl_open hs
  have HPA := hyd hpa
  have HEX := hyd hex
  have HIT := hyd hit
  have HOD := hyd hod
  have HTO := hyd hto
  have HNS := hyd hns
  have WC := hyd hw
  have li10 : x.items.length ≤ 10 := hw.items.1
  have lo10 : x.orders.length ≤ 10 := hw.orders.1
  have lt10 : x.tos.length ≤ 10 := hw.tos.1
  have ln10 : x.names.length ≤ 10 := hw.names.1
  have hna100 : x.name.size ≤ 100 := hw.name
  have PE := hyd (fun (v : Ex) cs w (h : Wf 4 v) (k : ER w Any v cs) => (l4Put_all 4 (by decide) v cs w h k).mono fun e w' h => (h : SomeT (txtB 4) w e w'))
  have tb : txtB 4 = 15001500 := by decide
  rw [tb] at PE
  have KW := hyd ((Keep.refl Any w).alloc (.cells #[.int .i64 x.kind,.slice ap x.paths.length cp,.int .i64 x.ex.kind,.int .i64 x.ex.val.kind,.int .i64 x.ex.val.num,.string x.ex.val.text,.slice va x.ex.val.list.length vc,.string x.ex.name,.string x.ex.key,.slice pa x.ex.parts.length pc,.string x.name,.slice ai x.items.length ci,.bool x.distinct,.slice ao x.orders.length co,.int .i64 x.skip,.int .i64 x.limit,.slice at' x.tos.length ct,.slice an x.names.length cn,.bool x.detach] 122 (0,0)))
  have BX := hyd (blk_new w (.cells #[.int .i64 x.kind,.slice ap x.paths.length cp,.int .i64 x.ex.kind,.int .i64 x.ex.val.kind,.int .i64 x.ex.val.num,.string x.ex.val.text,.slice va x.ex.val.list.length vc,.string x.ex.name,.string x.ex.key,.slice pa x.ex.parts.length pc,.string x.name,.slice ai x.items.length ci,.bool x.distinct,.slice ao x.orders.length co,.int .i64 x.skip,.int .i64 x.limit,.slice at' x.tos.length ct,.slice an x.names.length cn,.bool x.detach] 122 (0,0)))
  clear hw hs hpa hex hit hod hto hns
  have q1 : (x.kind == 1) = false := by rw [hki];rfl
  have q2 : (x.kind == 2) = false := by rw [hki];rfl
  have q7 : (x.kind == 7) = false := by rw [hki];rfl
  have q3 : (x.kind == 3) = true := by rw [hki];rfl
  have q4 : (x.kind == 4) = false := by rw [hki];rfl
  have q5 : (x.kind == 5) = false := by rw [hki];rfl
  have q6 : (x.kind == 6) = false := by rw [hki];rfl
  have HKI := hyd hki
  clear hki
  go_enter Tryz.func106,Tryz.ntmps106
  go_upto_region 1 with fail
  generalize w.alloc (.cells #[.int .i64 x.kind,.slice ap x.paths.length cp,.int .i64 x.ex.kind,.int .i64 x.ex.val.kind,.int .i64 x.ex.val.num,.string x.ex.val.text,.slice va x.ex.val.list.length vc,.string x.ex.name,.string x.ex.key,.slice pa x.ex.parts.length pc,.string x.name,.slice ai x.items.length ci,.bool x.distinct,.slice ao x.orders.length co,.int .i64 x.skip,.int .i64 x.limit,.slice at' x.tos.length ct,.slice an x.names.length cn,.bool x.detach] 122 (0,0)) = w1 at *
  generalize (Value.agg #[.int .i64 x.kind,.slice ap x.paths.length cp,.int .i64 x.ex.kind,.int .i64 x.ex.val.kind,.int .i64 x.ex.val.num,.string x.ex.val.text,.slice va x.ex.val.list.length vc,.string x.ex.name,.string x.ex.key,.slice pa x.ex.parts.length pc,.string x.name,.slice ai x.items.length ci,.bool x.distinct,.slice ao x.orders.length co,.int .i64 x.skip,.int .i64 x.limit,.slice at' x.tos.length ct,.slice an x.names.length cn,.bool x.detach]) = A0
  obtain ⟨y0,y1,y2,y3,y4,y5,y6,y7,y8,y9,y10,y11,y12,y13,y14,y15,y16,y17,y18⟩ := at19c BX.out
  have WE := hyd (WC.out.ex (by have := HKI.out;omega))
  go_wp2_with (go_at_call 138;refine (PE.out x.ex _ _ WE.out (HEX.out.keep KW.out)).mono ?_;rintro e w2 ⟨z1,hz1,rfl,hK2⟩;have KW := hyd (KW.out.trans hK2);have BX := hyd (blk_keep hK2 BX.out trivial);clear hK2;obtain ⟨y0,y1,y2,y3,y4,y5,y6,y7,y8,y9,y10,y11,y12,y13,y14,y15,y16,y17,y18⟩ := at19c BX.out;have n1 : ¬ 9223372036854775807 < 6 + z1.size := (by omega))
  go_ret
  exact ⟨_,(by (try simp only [ByteArray.size_append]);(try simp only [show (⟨#[87,72,69,82,69,32]⟩ : ByteArray).size = 6 from rfl]);omega),rfl,KW.out⟩
theorem l5PutClause_k4 (x : Cl) (cs : List Value) (w : World) (hs : ClR w Any x cs) (hw : WfCl x) (hki : x.kind = 4) : Calls Tryz.prog 106 #[.agg cs.toArray] w (SomeT 2000000000 w) := by
  have HCL := hyd hs
  obtain ⟨ap,cp,va,vc,pa,pc,ai,ci,ao,co,at',ct,an,cn,rfl,hk,hpa,hex,hna,hit,hod,hsk,hli,hto,hns⟩ := cl_open hs
  have HPA := hyd hpa
  have HEX := hyd hex
  have HIT := hyd hit
  have HOD := hyd hod
  have HTO := hyd hto
  have HNS := hyd hns
  have WC := hyd hw
  have li10 : x.items.length ≤ 10 := hw.items.1
  have lo10 : x.orders.length ≤ 10 := hw.orders.1
  have lt10 : x.tos.length ≤ 10 := hw.tos.1
  have ln10 : x.names.length ≤ 10 := hw.names.1
  have hna100 : x.name.size ≤ 100 := hw.name
  have PE := hyd (fun (v : Ex) cs w (h : Wf 4 v) (k : ER w Any v cs) => (l4Put_all 4 (by decide) v cs w h k).mono fun e w' h => (h : SomeT (txtB 4) w e w'))
  have tb : txtB 4 = 15001500 := by decide
  rw [tb] at PE
  have KW := hyd ((Keep.refl Any w).alloc (.cells #[.int .i64 x.kind,.slice ap x.paths.length cp,.int .i64 x.ex.kind,.int .i64 x.ex.val.kind,.int .i64 x.ex.val.num,.string x.ex.val.text,.slice va x.ex.val.list.length vc,.string x.ex.name,.string x.ex.key,.slice pa x.ex.parts.length pc,.string x.name,.slice ai x.items.length ci,.bool x.distinct,.slice ao x.orders.length co,.int .i64 x.skip,.int .i64 x.limit,.slice at' x.tos.length ct,.slice an x.names.length cn,.bool x.detach] 122 (0,0)))
  have BX := hyd (blk_new w (.cells #[.int .i64 x.kind,.slice ap x.paths.length cp,.int .i64 x.ex.kind,.int .i64 x.ex.val.kind,.int .i64 x.ex.val.num,.string x.ex.val.text,.slice va x.ex.val.list.length vc,.string x.ex.name,.string x.ex.key,.slice pa x.ex.parts.length pc,.string x.name,.slice ai x.items.length ci,.bool x.distinct,.slice ao x.orders.length co,.int .i64 x.skip,.int .i64 x.limit,.slice at' x.tos.length ct,.slice an x.names.length cn,.bool x.detach] 122 (0,0)))
  clear hw hs hpa hex hit hod hto hns
  have q1 : (x.kind == 1) = false := by rw [hki];rfl
  have q2 : (x.kind == 2) = false := by rw [hki];rfl
  have q7 : (x.kind == 7) = false := by rw [hki];rfl
  have q3 : (x.kind == 3) = false := by rw [hki];rfl
  have q4 : (x.kind == 4) = true := by rw [hki];rfl
  have q5 : (x.kind == 5) = false := by rw [hki];rfl
  have q6 : (x.kind == 6) = false := by rw [hki];rfl
  have HKI := hyd hki
  clear hki
  go_enter Tryz.func106,Tryz.ntmps106
  go_upto_region 1 with fail
  generalize w.alloc (.cells #[.int .i64 x.kind,.slice ap x.paths.length cp,.int .i64 x.ex.kind,.int .i64 x.ex.val.kind,.int .i64 x.ex.val.num,.string x.ex.val.text,.slice va x.ex.val.list.length vc,.string x.ex.name,.string x.ex.key,.slice pa x.ex.parts.length pc,.string x.name,.slice ai x.items.length ci,.bool x.distinct,.slice ao x.orders.length co,.int .i64 x.skip,.int .i64 x.limit,.slice at' x.tos.length ct,.slice an x.names.length cn,.bool x.detach] 122 (0,0)) = w1 at *
  generalize (Value.agg #[.int .i64 x.kind,.slice ap x.paths.length cp,.int .i64 x.ex.kind,.int .i64 x.ex.val.kind,.int .i64 x.ex.val.num,.string x.ex.val.text,.slice va x.ex.val.list.length vc,.string x.ex.name,.string x.ex.key,.slice pa x.ex.parts.length pc,.string x.name,.slice ai x.items.length ci,.bool x.distinct,.slice ao x.orders.length co,.int .i64 x.skip,.int .i64 x.limit,.slice at' x.tos.length ct,.slice an x.names.length cn,.bool x.detach]) = A0
  obtain ⟨y0,y1,y2,y3,y4,y5,y6,y7,y8,y9,y10,y11,y12,y13,y14,y15,y16,y17,y18⟩ := at19c BX.out
  have WE := hyd (WC.out.ex (by have := HKI.out;omega))
  go_wp2
  have HX1 := hyd (HEX.out.keep KW.out)
  have kr : Keep Any w1 w1.drew := (Keep.refl _ _).drew
  have SK := hyd (fun w' (h : Keep Any w1 w') => (⟨h,h.cell y2 trivial,h.cell y3 trivial,h.cell y4 trivial,h.cell y5 trivial,h.cell y6 trivial,h.cell y7 trivial,h.cell y8 trivial,h.cell y9 trivial,h.cell y10 trivial⟩ : Keep Any w1 w' ∧ w'.cell? ⟨w.heap.size,2,none⟩ = some (.int .i64 x.ex.kind) ∧ w'.cell? ⟨w.heap.size,3,none⟩ = some (.int .i64 x.ex.val.kind) ∧ w'.cell? ⟨w.heap.size,4,none⟩ = some (.int .i64 x.ex.val.num) ∧ w'.cell? ⟨w.heap.size,5,none⟩ = some (.string x.ex.val.text) ∧ w'.cell? ⟨w.heap.size,6,none⟩ = some (.slice va x.ex.val.list.length vc) ∧ w'.cell? ⟨w.heap.size,7,none⟩ = some (.string x.ex.name) ∧ w'.cell? ⟨w.heap.size,8,none⟩ = some (.string x.ex.key) ∧ w'.cell? ⟨w.heap.size,9,none⟩ = some (.slice pa x.ex.parts.length pc) ∧ w'.cell? ⟨w.heap.size,10,none⟩ = some (.string x.name)))
  go_region_held3 (fun w' => Keep Any w1 w' ∧ w'.cell? ⟨w.heap.size,2,none⟩ = some (.int .i64 x.ex.kind) ∧ w'.cell? ⟨w.heap.size,3,none⟩ = some (.int .i64 x.ex.val.kind) ∧ w'.cell? ⟨w.heap.size,4,none⟩ = some (.int .i64 x.ex.val.num) ∧ w'.cell? ⟨w.heap.size,5,none⟩ = some (.string x.ex.val.text) ∧ w'.cell? ⟨w.heap.size,6,none⟩ = some (.slice va x.ex.val.list.length vc) ∧ w'.cell? ⟨w.heap.size,7,none⟩ = some (.string x.ex.name) ∧ w'.cell? ⟨w.heap.size,8,none⟩ = some (.string x.ex.key) ∧ w'.cell? ⟨w.heap.size,9,none⟩ = some (.slice pa x.ex.parts.length pc) ∧ w'.cell? ⟨w.heap.size,10,none⟩ = some (.string x.name))
    (first | (go_split_ands;exact SK.out _ (Keep.trans (by first | assumption | exact Keep.drew (by assumption)) hK5)) | go_keep)
    (first | (go_at_call 138;(with_reducible refine (PE.out x.ex _ _ WE.out (HX1.out.keep (by first | assumption | exact kr.drew | exact Keep.drew (by assumption) | (go_split_ands;first | assumption | exact Keep.drew (by assumption))))).mono ?_);rintro e w5 ⟨z1,hz1,rfl,hK5⟩;have n1 : ¬ 9223372036854775807 < 7 + z1.size := (by omega);have n2 : ¬ 9223372036854775807 < 7 + z1.size + 4 := (by omega);have n3 : ¬ 9223372036854775807 < 7 + z1.size + 4 + x.name.size := (by omega)))
  go_split_ands
  have hKK := hyd (show Keep Any w1 _ by assumption)
  go_wp2
  go_ret
  exact ⟨_,(by (try simp only [ByteArray.size_append]);(try simp only [show (⟨#[85,78,87,73,78,68,32]⟩ : ByteArray).size = 7 from rfl,show (⟨#[32,65,83,32]⟩ : ByteArray).size = 4 from rfl]);omega),rfl,KW.out.trans hKK.out⟩
theorem l5PutClause_k5 (x : Cl) (cs : List Value) (w : World) (hs : ClR w Any x cs) (hw : WfCl x) (hki : x.kind = 5) : Calls Tryz.prog 106 #[.agg cs.toArray] w (SomeT 2000000000 w) := by
  have HCL := hyd hs
  obtain ⟨ap,cp,va,vc,pa,pc,ai,ci,ao,co,at',ct,an,cn,rfl,hk,hpa,hex,hna,hit,hod,hsk,hli,hto,hns⟩ := cl_open hs
  have HPA := hyd hpa
  have HEX := hyd hex
  have HIT := hyd hit
  have HOD := hyd hod
  have HTO := hyd hto
  have HNS := hyd hns
  have WC := hyd hw
  have li10 : x.items.length ≤ 10 := hw.items.1
  have lo10 : x.orders.length ≤ 10 := hw.orders.1
  have lt10 : x.tos.length ≤ 10 := hw.tos.1
  have ln10 : x.names.length ≤ 10 := hw.names.1
  have hna100 : x.name.size ≤ 100 := hw.name
  have PE := hyd (fun (v : Ex) cs w (h : Wf 4 v) (k : ER w Any v cs) => (l4Put_all 4 (by decide) v cs w h k).mono fun e w' h => (h : SomeT (txtB 4) w e w'))
  have tb : txtB 4 = 15001500 := by decide
  rw [tb] at PE
  have KW := hyd ((Keep.refl Any w).alloc (.cells #[.int .i64 x.kind,.slice ap x.paths.length cp,.int .i64 x.ex.kind,.int .i64 x.ex.val.kind,.int .i64 x.ex.val.num,.string x.ex.val.text,.slice va x.ex.val.list.length vc,.string x.ex.name,.string x.ex.key,.slice pa x.ex.parts.length pc,.string x.name,.slice ai x.items.length ci,.bool x.distinct,.slice ao x.orders.length co,.int .i64 x.skip,.int .i64 x.limit,.slice at' x.tos.length ct,.slice an x.names.length cn,.bool x.detach] 122 (0,0)))
  have BX := hyd (blk_new w (.cells #[.int .i64 x.kind,.slice ap x.paths.length cp,.int .i64 x.ex.kind,.int .i64 x.ex.val.kind,.int .i64 x.ex.val.num,.string x.ex.val.text,.slice va x.ex.val.list.length vc,.string x.ex.name,.string x.ex.key,.slice pa x.ex.parts.length pc,.string x.name,.slice ai x.items.length ci,.bool x.distinct,.slice ao x.orders.length co,.int .i64 x.skip,.int .i64 x.limit,.slice at' x.tos.length ct,.slice an x.names.length cn,.bool x.detach] 122 (0,0)))
  clear hw hs hpa hex hit hod hto hns
  have q1 : (x.kind == 1) = false := by rw [hki];rfl
  have q2 : (x.kind == 2) = false := by rw [hki];rfl
  have q7 : (x.kind == 7) = false := by rw [hki];rfl
  have q3 : (x.kind == 3) = false := by rw [hki];rfl
  have q4 : (x.kind == 4) = false := by rw [hki];rfl
  have q5 : (x.kind == 5) = true := by rw [hki];rfl
  have q6 : (x.kind == 6) = false := by rw [hki];rfl
  have HKI := hyd hki
  clear hki
  go_enter Tryz.func106,Tryz.ntmps106
  go_upto_region 1 with fail
  generalize w.alloc (.cells #[.int .i64 x.kind,.slice ap x.paths.length cp,.int .i64 x.ex.kind,.int .i64 x.ex.val.kind,.int .i64 x.ex.val.num,.string x.ex.val.text,.slice va x.ex.val.list.length vc,.string x.ex.name,.string x.ex.key,.slice pa x.ex.parts.length pc,.string x.name,.slice ai x.items.length ci,.bool x.distinct,.slice ao x.orders.length co,.int .i64 x.skip,.int .i64 x.limit,.slice at' x.tos.length ct,.slice an x.names.length cn,.bool x.detach] 122 (0,0)) = w1 at *
  generalize (Value.agg #[.int .i64 x.kind,.slice ap x.paths.length cp,.int .i64 x.ex.kind,.int .i64 x.ex.val.kind,.int .i64 x.ex.val.num,.string x.ex.val.text,.slice va x.ex.val.list.length vc,.string x.ex.name,.string x.ex.key,.slice pa x.ex.parts.length pc,.string x.name,.slice ai x.items.length ci,.bool x.distinct,.slice ao x.orders.length co,.int .i64 x.skip,.int .i64 x.limit,.slice at' x.tos.length ct,.slice an x.names.length cn,.bool x.detach]) = A0
  obtain ⟨y0,y1,y2,y3,y4,y5,y6,y7,y8,y9,y10,y11,y12,y13,y14,y15,y16,y17,y18⟩ := at19c BX.out
  go_wp2_with (first | (refine wpList_load_row rfl 122 (.tmp 1) rfl w.heap.size rfl 122 #[.int .i64 x.kind,.slice ap x.paths.length cp,.int .i64 x.ex.kind,.int .i64 x.ex.val.kind,.int .i64 x.ex.val.num,.string x.ex.val.text,.slice va x.ex.val.list.length vc,.string x.ex.name,.string x.ex.key,.slice pa x.ex.parts.length pc,.string x.name,.slice ai x.items.length ci,.bool x.distinct,.slice ao x.orders.length co,.int .i64 x.skip,.int .i64 x.limit,.slice at' x.tos.length ct,.slice an x.names.length cn,.bool x.detach] (0,0) _ BX.out Tryz.underlying122 rfl infoCl ?_) | (go_at_call 139;refine (l5PutItems_calls x _ _ (HCL.out.keep KW.out) WC.out).mono ?_;rintro e w2 ⟨z1,hz1,rfl,hK2⟩;have KW := hyd (KW.out.trans hK2);have BX := hyd (blk_keep hK2 BX.out trivial);clear hK2;obtain ⟨y0,y1,y2,y3,y4,y5,y6,y7,y8,y9,y10,y11,y12,y13,y14,y15,y16,y17,y18⟩ := at19c BX.out;have n1 : ¬ 9223372036854775807 < 4 + z1.size := (by omega)))
  go_ret
  exact ⟨_,(by (try simp only [ByteArray.size_append]);(try simp only [show (⟨#[87,73,84,72]⟩ : ByteArray).size = 4 from rfl]);omega),rfl,KW.out⟩
theorem l5PutClause_k6 (x : Cl) (cs : List Value) (w : World) (hs : ClR w Any x cs) (hw : WfCl x) (hki : x.kind = 6) : Calls Tryz.prog 106 #[.agg cs.toArray] w (SomeT 2000000000 w) := by
  have HCL := hyd hs
  obtain ⟨ap,cp,va,vc,pa,pc,ai,ci,ao,co,at',ct,an,cn,rfl,hk,hpa,hex,hna,hit,hod,hsk,hli,hto,hns⟩ := cl_open hs
  have HPA := hyd hpa
  have HEX := hyd hex
  have HIT := hyd hit
  have HOD := hyd hod
  have HTO := hyd hto
  have HNS := hyd hns
  have WC := hyd hw
  have li10 : x.items.length ≤ 10 := hw.items.1
  have lo10 : x.orders.length ≤ 10 := hw.orders.1
  have lt10 : x.tos.length ≤ 10 := hw.tos.1
  have ln10 : x.names.length ≤ 10 := hw.names.1
  have hna100 : x.name.size ≤ 100 := hw.name
  have PE := hyd (fun (v : Ex) cs w (h : Wf 4 v) (k : ER w Any v cs) => (l4Put_all 4 (by decide) v cs w h k).mono fun e w' h => (h : SomeT (txtB 4) w e w'))
  have tb : txtB 4 = 15001500 := by decide
  rw [tb] at PE
  have KW := hyd ((Keep.refl Any w).alloc (.cells #[.int .i64 x.kind,.slice ap x.paths.length cp,.int .i64 x.ex.kind,.int .i64 x.ex.val.kind,.int .i64 x.ex.val.num,.string x.ex.val.text,.slice va x.ex.val.list.length vc,.string x.ex.name,.string x.ex.key,.slice pa x.ex.parts.length pc,.string x.name,.slice ai x.items.length ci,.bool x.distinct,.slice ao x.orders.length co,.int .i64 x.skip,.int .i64 x.limit,.slice at' x.tos.length ct,.slice an x.names.length cn,.bool x.detach] 122 (0,0)))
  have BX := hyd (blk_new w (.cells #[.int .i64 x.kind,.slice ap x.paths.length cp,.int .i64 x.ex.kind,.int .i64 x.ex.val.kind,.int .i64 x.ex.val.num,.string x.ex.val.text,.slice va x.ex.val.list.length vc,.string x.ex.name,.string x.ex.key,.slice pa x.ex.parts.length pc,.string x.name,.slice ai x.items.length ci,.bool x.distinct,.slice ao x.orders.length co,.int .i64 x.skip,.int .i64 x.limit,.slice at' x.tos.length ct,.slice an x.names.length cn,.bool x.detach] 122 (0,0)))
  clear hw hs hpa hex hit hod hto hns
  have q1 : (x.kind == 1) = false := by rw [hki];rfl
  have q2 : (x.kind == 2) = false := by rw [hki];rfl
  have q7 : (x.kind == 7) = false := by rw [hki];rfl
  have q3 : (x.kind == 3) = false := by rw [hki];rfl
  have q4 : (x.kind == 4) = false := by rw [hki];rfl
  have q5 : (x.kind == 5) = false := by rw [hki];rfl
  have q6 : (x.kind == 6) = true := by rw [hki];rfl
  have HKI := hyd hki
  clear hki
  go_enter Tryz.func106,Tryz.ntmps106
  go_upto_region 1 with fail
  generalize w.alloc (.cells #[.int .i64 x.kind,.slice ap x.paths.length cp,.int .i64 x.ex.kind,.int .i64 x.ex.val.kind,.int .i64 x.ex.val.num,.string x.ex.val.text,.slice va x.ex.val.list.length vc,.string x.ex.name,.string x.ex.key,.slice pa x.ex.parts.length pc,.string x.name,.slice ai x.items.length ci,.bool x.distinct,.slice ao x.orders.length co,.int .i64 x.skip,.int .i64 x.limit,.slice at' x.tos.length ct,.slice an x.names.length cn,.bool x.detach] 122 (0,0)) = w1 at *
  generalize (Value.agg #[.int .i64 x.kind,.slice ap x.paths.length cp,.int .i64 x.ex.kind,.int .i64 x.ex.val.kind,.int .i64 x.ex.val.num,.string x.ex.val.text,.slice va x.ex.val.list.length vc,.string x.ex.name,.string x.ex.key,.slice pa x.ex.parts.length pc,.string x.name,.slice ai x.items.length ci,.bool x.distinct,.slice ao x.orders.length co,.int .i64 x.skip,.int .i64 x.limit,.slice at' x.tos.length ct,.slice an x.names.length cn,.bool x.detach]) = A0
  obtain ⟨y0,y1,y2,y3,y4,y5,y6,y7,y8,y9,y10,y11,y12,y13,y14,y15,y16,y17,y18⟩ := at19c BX.out
  go_wp2_with (first | (refine wpList_load_row rfl 122 (.tmp 1) rfl w.heap.size rfl 122 #[.int .i64 x.kind,.slice ap x.paths.length cp,.int .i64 x.ex.kind,.int .i64 x.ex.val.kind,.int .i64 x.ex.val.num,.string x.ex.val.text,.slice va x.ex.val.list.length vc,.string x.ex.name,.string x.ex.key,.slice pa x.ex.parts.length pc,.string x.name,.slice ai x.items.length ci,.bool x.distinct,.slice ao x.orders.length co,.int .i64 x.skip,.int .i64 x.limit,.slice at' x.tos.length ct,.slice an x.names.length cn,.bool x.detach] (0,0) _ BX.out Tryz.underlying122 rfl infoCl ?_) | (go_at_call 139;refine (l5PutItems_calls x _ _ (HCL.out.keep KW.out) WC.out).mono ?_;rintro e w2 ⟨z1,hz1,rfl,hK2⟩;have KW := hyd (KW.out.trans hK2);have BX := hyd (blk_keep hK2 BX.out trivial);clear hK2;obtain ⟨y0,y1,y2,y3,y4,y5,y6,y7,y8,y9,y10,y11,y12,y13,y14,y15,y16,y17,y18⟩ := at19c BX.out;have n1 : ¬ 9223372036854775807 < 6 + z1.size := (by omega)))
  go_ret
  exact ⟨_,(by (try simp only [ByteArray.size_append]);(try simp only [show (⟨#[82,69,84,85,82,78]⟩ : ByteArray).size = 6 from rfl]);omega),rfl,KW.out⟩

/- The reference's checks of a clause come to some answer,for all that is well made. -/
set_option maxRecDepth 20000
set_option maxHeartbeats 4000000
theorem l5Items_calls (x : Cl) (cs : List Value) (w : World) (hs : ClR w Any x cs) (hw : WfCl x) : Calls Tryz.prog 126 #[.agg cs.toArray] w (SomeB w) := by
  obtain ⟨ap,cp,va,vc,pa,pc,ai,ci,ao,co,at',ct,an,cn,rfl,hk,hpa,hex,hna,hit,hod,hsk,hli,hto,hns⟩ := cl_open hs
  have HPA := hyd hpa
  have HEX := hyd hex
  have HIT := hyd hit
  have HOD := hyd hod
  have HTO := hyd hto
  have HNS := hyd hns
  have WC := hyd hw
  have lpa := sl_len hpa
  have lit := sl_len hit
  have lod := sl_len hod
  have lto := sl_len hto
  have lns := sl_len hns
  have KW := hyd ((Keep.refl Any w).alloc (.cells #[.int .i64 x.kind,.slice ap x.paths.length cp,.int .i64 x.ex.kind,.int .i64 x.ex.val.kind,.int .i64 x.ex.val.num,.string x.ex.val.text,.slice va x.ex.val.list.length vc,.string x.ex.name,.string x.ex.key,.slice pa x.ex.parts.length pc,.string x.name,.slice ai x.items.length ci,.bool x.distinct,.slice ao x.orders.length co,.int .i64 x.skip,.int .i64 x.limit,.slice at' x.tos.length ct,.slice an x.names.length cn,.bool x.detach] 122 (0,0)))
  have BX := hyd (blk_new w (.cells #[.int .i64 x.kind,.slice ap x.paths.length cp,.int .i64 x.ex.kind,.int .i64 x.ex.val.kind,.int .i64 x.ex.val.num,.string x.ex.val.text,.slice va x.ex.val.list.length vc,.string x.ex.name,.string x.ex.key,.slice pa x.ex.parts.length pc,.string x.name,.slice ai x.items.length ci,.bool x.distinct,.slice ao x.orders.length co,.int .i64 x.skip,.int .i64 x.limit,.slice at' x.tos.length ct,.slice an x.names.length cn,.bool x.detach] 122 (0,0)))
  clear hw hs hpa hex hit hod hto hns
  have K0 := hyd (KW.out.alloc (.cells #[] 9 (0,0)))
  have B0 := hyd (blk_alloc BX.out (.cells #[] 9 (0,0)))
  have O0 := hyd (OwnS.new (base := (w.heap.size + 1)) rfl (Nat.le_refl _) (blk_new1 w (.cells #[.int .i64 x.kind,.slice ap x.paths.length cp,.int .i64 x.ex.kind,.int .i64 x.ex.val.kind,.int .i64 x.ex.val.num,.string x.ex.val.text,.slice va x.ex.val.list.length vc,.string x.ex.name,.string x.ex.key,.slice pa x.ex.parts.length pc,.string x.name,.slice ai x.items.length ci,.bool x.distinct,.slice ao x.orders.length co,.int .i64 x.skip,.int .i64 x.limit,.slice at' x.tos.length ct,.slice an x.names.length cn,.bool x.detach] 122 (0,0)) (.cells #[] 9 (0,0))))
  go_enter Tryz.func126,Tryz.ntmps126
  go_wp2
  go_loopg [3,4] (x.items.length + 1) (fun g o i wr => ∃ k : Nat,k ≤ x.items.length ∧ i = .int .i64 k ∧ g = x.items.length + 1 - k ∧ OwnS wr (w.heap.size + 1) o ((x.items.take k).map (·.name)) ∧ (∀ y,y ∈ (x.items.take k).map (·.name) → Fits y) ∧ wr.heap[w.heap.size]? = some (.cells #[.int .i64 x.kind,.slice ap x.paths.length cp,.int .i64 x.ex.kind,.int .i64 x.ex.val.kind,.int .i64 x.ex.val.num,.string x.ex.val.text,.slice va x.ex.val.list.length vc,.string x.ex.name,.string x.ex.key,.slice pa x.ex.parts.length pc,.string x.name,.slice ai x.items.length ci,.bool x.distinct,.slice ao x.orders.length co,.int .i64 x.skip,.int .i64 x.limit,.slice at' x.tos.length ct,.slice an x.names.length cn,.bool x.detach] 122 (0,0)) ∧ Keep Any w wr)
  case atStart => exact ⟨0,by omega,rfl,rfl,O0.out,(fun y hy => by simp at hy),B0.out,K0.out⟩
  case round =>
    obtain ⟨k,hk,rfl,hg,hO,hF,hB,hK⟩ := hrel
    clear KW BX K0 B0 O0
    have HG := hyd hg
    have OL := hyd hO
    have FL := hyd hF
    have BX := hyd hB
    have KW := hyd hK
    clear hg hO hF hB hK
    obtain ⟨y0,y1,y2,y3,y4,y5,y6,y7,y8,y9,y10,y11,y12,y13,y14,y15,y16,y17,y18⟩ := at19c BX.out
    by_cases hlt : k < x.items.length
    · have hx : x.items[k]? = some x.items[k] := List.getElem?_eq_getElem hlt
      have WX := hyd (WC.out.items.2 _ (List.mem_of_getElem? hx))
      have TX := hyd (show (x.items.take (k + 1)).map (·.name) = (x.items.take k).map (·.name) ++ [x.items[k].name] by rw [List.take_succ_eq_append_getElem hlt,List.map_append];rfl)
      have LN := hyd (show ((x.items.take k).map (·.name)).length = k by rw [List.length_map,List.length_take];omega)
      have ln10 : x.items.length ≤ 10 := WC.out.items.1
      obtain ⟨adi,vax,vcx,pax,pcx,e,hFx,FX⟩ := its_all HIT.out hx
      have FX := hyd FX
      cases e
      generalize x.items[k] = z at *
      clear hx
      obtain ⟨hvx,cx0,cx1,cx2,cx3,cx4,cx5,cx6,cx7,cx8⟩ := FX.out _ KW.out
      have Hhvx := hyd hvx
      clear hvx
      have k0 : (0 : Int) ≤ (k : Int) := by omega
      have k1 : (k : Int) < (x.items.length : Int) := by omega
      go_wp2_with (first | (go_at_call 56;refine (nameB _ _ (by first | (have := hFx;unfold Fits at this;omega))).mono ?_;rintro e w2 ⟨b,rfl,hK2⟩;have OL := hyd (OL.out.keepA hK2);have KW := hyd (KW.out.trans hK2);have BX := hyd (blk_keep hK2 BX.out trivial);clear hK2;obtain ⟨y0,y1,y2,y3,y4,y5,y6,y7,y8,y9,y10,y11,y12,y13,y14,y15,y16,y17,y18⟩ := at19c BX.out;obtain ⟨hvx,cx0,cx1,cx2,cx3,cx4,cx5,cx6,cx7,cx8⟩ := FX.out _ KW.out;have Hhvx := hyd hvx;clear hvx;cases b) | (go_at_call 125;refine (ExprOk_calls 4 z.ex _ _ (by decide) WX.out.1 Hhvx.out).mono ?_;rintro e w2 ⟨b,rfl,hK2⟩;have OL := hyd (OL.out.keepA hK2);have KW := hyd (KW.out.trans hK2);have BX := hyd (blk_keep hK2 BX.out trivial);clear hK2;obtain ⟨y0,y1,y2,y3,y4,y5,y6,y7,y8,y9,y10,y11,y12,y13,y14,y15,y16,y17,y18⟩ := at19c BX.out;obtain ⟨hvx,cx0,cx1,cx2,cx3,cx4,cx5,cx6,cx7,cx8⟩ := FX.out _ KW.out;have Hhvx := hyd hvx;clear hvx;cases b) | (go_at_call 131;refine (l2Has_calls _ _ z.name _ (OL.out.strs FL.out (fun _ _ _ => trivial))).mono ?_;rintro e w2 ⟨b,rfl,hK2⟩;have OL := hyd (OL.out.keepA hK2);have KW := hyd (KW.out.trans hK2);have BX := hyd (blk_keep hK2 BX.out trivial);clear hK2;obtain ⟨y0,y1,y2,y3,y4,y5,y6,y7,y8,y9,y10,y11,y12,y13,y14,y15,y16,y17,y18⟩ := at19c BX.out;obtain ⟨hvx,cx0,cx1,cx2,cx3,cx4,cx5,cx6,cx7,cx8⟩ := FX.out _ KW.out;have Hhvx := hyd hvx;clear hvx;cases b) | (at_builtin;refine wpList_append_ex _ rfl (.tmp 42) (.tmp 49) 41 rfl _ _ rfl rfl (app_one _ _ (w.heap.size + 1) _ _ z.name OL.out (by have := KW.out.size;have := blk_lt BX.out;omega) hFx (by rw [LN.out];omega)) ?_;intro va2 wa ha;have OA := hyd ha.1;have KA := hyd (KW.out.low ha.2 (by omega));have BA := hyd (blk_keep ha.2 BX.out (by show w.heap.size < w.heap.size + 1;omega));clear ha))
      all_goals first
        | (go_ret
           exact ⟨_,rfl,KW.out⟩)
        | skip
      go_roundg (gk - 1)
      case rel => exact ⟨k + 1,by omega,by go_num,by have := HG.out;omega,by rw [TX.out];exact OA.out,by rw [TX.out];intro y hy;rcases List.mem_append.1 hy with h | h;exact FL.out y h;rw [List.mem_singleton.1 h];exact hFx,BA.out,KA.out⟩
      case measure => have := HG.out;omega
    · obtain rfl : k = x.items.length := by omega
      obtain ⟨aN,cN,rfl⟩ := OL.out.form
      have ln : ((x.items.take x.items.length).map (·.name)).length = x.items.length := by rw [List.length_map,List.length_take];omega
      have SN := hyd (show Strs wr Any _ _ from OL.out.strs FL.out (fun _ _ _ => trivial))
      rw [ln] at SN ⊢
      have KR := hyd (Keep.refl Any wr)
      generalize (x.items.take x.items.length).map (·.name) = nl at *
      obtain ⟨wy,hwy⟩ : ∃ y,y = wr := ⟨_,rfl⟩
      rw [← hwy] at SN
      clear OL
      have KY := hyd (show Keep Any wy wr from hwy ▸ Keep.refl _ _)
      clear hwy ln FL
      go_wp2
      go_loopg [5] (x.orders.length + 1) (fun g i wr => ∃ j : Nat,j ≤ x.orders.length ∧ i = .int .i64 j ∧ g = x.orders.length + 1 - j ∧ wr.heap[w.heap.size]? = some (.cells #[.int .i64 x.kind,.slice ap x.paths.length cp,.int .i64 x.ex.kind,.int .i64 x.ex.val.kind,.int .i64 x.ex.val.num,.string x.ex.val.text,.slice va x.ex.val.list.length vc,.string x.ex.name,.string x.ex.key,.slice pa x.ex.parts.length pc,.string x.name,.slice ai x.items.length ci,.bool x.distinct,.slice ao x.orders.length co,.int .i64 x.skip,.int .i64 x.limit,.slice at' x.tos.length ct,.slice an x.names.length cn,.bool x.detach] 122 (0,0)) ∧ Keep Any w wr ∧ Keep Any wy wr)
      case atStart => exact ⟨0,by omega,rfl,rfl,BX.out,KW.out,KY.out⟩
      case round =>
        obtain ⟨j,hj,rfl,hgj,hB,hK,hKY⟩ := hrel
        clear KW BX KY
        have HJ := hyd hgj
        have BX := hyd hB
        have KW := hyd hK
        have KY := hyd hKY
        clear hgj hB hK hKY
        obtain ⟨y0,y1,y2,y3,y4,y5,y6,y7,y8,y9,y10,y11,y12,y13,y14,y15,y16,y17,y18⟩ := at19c BX.out
        by_cases hlj : j < x.orders.length
        · have hx : x.orders[j]? = some x.orders[j] := List.getElem?_eq_getElem hlj
          obtain ⟨ado,e,hFx,FX⟩ := ods_all HOD.out hx
          have FX := hyd FX
          cases e
          generalize x.orders[j] = z at *
          clear hx
          obtain ⟨cx0,cx1⟩ := FX.out _ KW.out
          have j0 : (0 : Int) ≤ (j : Int) := by omega
          have j1 : (j : Int) < (x.orders.length : Int) := by omega
          go_wp2_with (go_at_call 131;refine (l2Has_calls _ _ z.name _ (Strs.keep SN.out KY.out)).mono ?_;rintro e w2 ⟨b,rfl,hK2⟩;have KY := hyd (KY.out.trans hK2);have KW := hyd (KW.out.trans hK2);have BX := hyd (blk_keep hK2 BX.out trivial);clear hK2;obtain ⟨y0,y1,y2,y3,y4,y5,y6,y7,y8,y9,y10,y11,y12,y13,y14,y15,y16,y17,y18⟩ := at19c BX.out;cases b)
          all_goals first
            | (go_ret
               exact ⟨_,rfl,KW.out⟩)
            | (go_roundg (gk - 1)
               case rel => exact ⟨j + 1,by omega,by go_num,by have := HJ.out;omega,BX.out,KW.out,KY.out⟩
               case measure => have := HJ.out;omega)
        · go_wp2_with (go_at_call 41;refine (inB _ _ _ _).mono ?_;rintro e w2 ⟨b,rfl,rfl⟩;cases b)
          all_goals
            go_ret
            exact ⟨_,rfl,KW.out⟩
end Go.Proofs.YtjopkcjpedgoaaaGreatDoor

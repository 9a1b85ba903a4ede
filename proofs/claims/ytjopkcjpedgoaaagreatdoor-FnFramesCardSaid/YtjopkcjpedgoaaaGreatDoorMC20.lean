/- The reference's scope of a clause, for some kinds of it. The reference's scope of a clause, for some kinds of it. The reference's form of a clause comes to some answer. The reference's scope of a clause; of a question. The reference's text of a question. -/
import Derived.Test.YtjopkcjpedgoaaaGreatDoorMC19
import Derived.Test.YtjopkcjpedgoaaaGreatDoorMCAt
import Derived.Test.YtjopkcjpedgoaaaGreatDoorMC15
import Derived.Test.YtjopkcjpedgoaaaGreatDoorMC16
import Derived.Test.YtjopkcjpedgoaaaGreatDoorMC17
import Derived.Test.YtjopkcjpedgoaaaGreatDoorMC18
import Derived.Test.YtjopkcjpedgoaaaGreatDoorMC10
import Derived.Test.YtjopkcjpedgoaaaGreatDoorMC14
/- The reference's scope of a clause,for some kinds of it. -/
namespace Go.Proofs.YtjopkcjpedgoaaaGreatDoor
open Go.RowKit
set_option linter.unusedVariables false
set_option linter.unusedSimpArgs false
set_option maxRecDepth 20000
set_option maxHeartbeats 4000000
theorem clause_k5 (n g : Nat) (x : Cl) (cs : List Value) (w : World) (hn9 : n ≤ 700) (h : Scp n w g) (hs : ClR w (But g) x cs) (hw : WfCl x) (hki : x.kind = 5) : Calls Tryz.prog 105 #[.pointer (some ⟨g,0,none⟩),.agg cs.toArray] w (GotScp (n + 10) g w) := by
  have zg : g < w.heap.size := by obtain ⟨v,l,c,hb,_⟩ := h;exact blk_lt hb
  obtain ⟨ap,cp,va,vc,pa,pc,ai,ci,ao,co,at',ct,an,cn,rfl,hk,hpa,hex,hna,hit,hod,hsk,hli,hto,hns⟩ := cl_open hs
  have HPA := hyd hpa
  have HEX := hyd hex
  have HIT := hyd hit
  have HTO := hyd hto
  have HNS := hyd hns
  have WC := hyd hw
  have H0 := hyd h
  have lpa := sl_len hpa
  have lit := sl_len hit
  have lto := sl_len hto
  have lns := sl_len hns
  have KW := hyd ((Keep.refl (But g) w).alloc (.cells #[.int .i64 x.kind,.slice ap x.paths.length cp,.int .i64 x.ex.kind,.int .i64 x.ex.val.kind,.int .i64 x.ex.val.num,.string x.ex.val.text,.slice va x.ex.val.list.length vc,.string x.ex.name,.string x.ex.key,.slice pa x.ex.parts.length pc,.string x.name,.slice ai x.items.length ci,.bool x.distinct,.slice ao x.orders.length co,.int .i64 x.skip,.int .i64 x.limit,.slice at' x.tos.length ct,.slice an x.names.length cn,.bool x.detach] 122 (0,0)))
  have BX := hyd (blk_new w (.cells #[.int .i64 x.kind,.slice ap x.paths.length cp,.int .i64 x.ex.kind,.int .i64 x.ex.val.kind,.int .i64 x.ex.val.num,.string x.ex.val.text,.slice va x.ex.val.list.length vc,.string x.ex.name,.string x.ex.key,.slice pa x.ex.parts.length pc,.string x.name,.slice ai x.items.length ci,.bool x.distinct,.slice ao x.orders.length co,.int .i64 x.skip,.int .i64 x.limit,.slice at' x.tos.length ct,.slice an x.names.length cn,.bool x.detach] 122 (0,0)))
  have SC := hyd (h.keep ((Keep.refl Any w).alloc (.cells #[.int .i64 x.kind,.slice ap x.paths.length cp,.int .i64 x.ex.kind,.int .i64 x.ex.val.kind,.int .i64 x.ex.val.num,.string x.ex.val.text,.slice va x.ex.val.list.length vc,.string x.ex.name,.string x.ex.key,.slice pa x.ex.parts.length pc,.string x.name,.slice ai x.items.length ci,.bool x.distinct,.slice ao x.orders.length co,.int .i64 x.skip,.int .i64 x.limit,.slice at' x.tos.length ct,.slice an x.names.length cn,.bool x.detach] 122 (0,0))))
  clear h hw hs hpa hex hit hod hto hns
  have q1 : (x.kind == 1) = false := by rw [hki];rfl
  have q2 : (x.kind == 2) = false := by rw [hki];rfl
  have q7 : (x.kind == 7) = false := by rw [hki];rfl
  have q3 : (x.kind == 3) = false := by rw [hki];rfl
  have q4 : (x.kind == 4) = false := by rw [hki];rfl
  have q5 : (x.kind == 5) = true := by rw [hki];rfl
  have q6 : (x.kind == 6) = false := by rw [hki];rfl
  have q8 : (x.kind == 8) = false := by rw [hki];rfl
  have q9 : (x.kind == 9) = false := by rw [hki];rfl
  have HKI := hyd hki
  clear hki
  obtain ⟨y0,y1,y2,y3,y4,y5,y6,y7,y8,y9,y10,y11,y12,y13,y14,y15,y16,y17,y18⟩ := at19c BX.out
  go_enter Tryz.func105,Tryz.ntmps105
  clear SC
  have K0 := hyd (KW.out.alloc (.cells #[] 9 (0,0)))
  have B0 := hyd (blk_alloc BX.out (.cells #[] 9 (0,0)))
  have O0 := hyd (OwnS.new (base := (w.heap.size + 1)) rfl (Nat.le_refl _) (blk_new1 w (.cells #[.int .i64 x.kind,.slice ap x.paths.length cp,.int .i64 x.ex.kind,.int .i64 x.ex.val.kind,.int .i64 x.ex.val.num,.string x.ex.val.text,.slice va x.ex.val.list.length vc,.string x.ex.name,.string x.ex.key,.slice pa x.ex.parts.length pc,.string x.name,.slice ai x.items.length ci,.bool x.distinct,.slice ao x.orders.length co,.int .i64 x.skip,.int .i64 x.limit,.slice at' x.tos.length ct,.slice an x.names.length cn,.bool x.detach] 122 (0,0)) (.cells #[] 9 (0,0))))
  obtain ⟨v0,l0,cd0,hb0,hs0,hn0,hl0,hcd0⟩ := H0.out
  have N0 := hyd hs0
  obtain ⟨a0,c0,rfl,_⟩ := hs0
  obtain ⟨n0,hn00⟩ : ∃ n0,n0 = l0.length := ⟨_,rfl⟩
  rw [← hn00] at hb0 N0
  have SC := hyd (show ScV (.slice a0 n0 c0) ((w.alloc (.cells #[.int .i64 x.kind,.slice ap x.paths.length cp,.int .i64 x.ex.kind,.int .i64 x.ex.val.kind,.int .i64 x.ex.val.num,.string x.ex.val.text,.slice va x.ex.val.list.length vc,.string x.ex.name,.string x.ex.key,.slice pa x.ex.parts.length pc,.string x.name,.slice ai x.items.length ci,.bool x.distinct,.slice ao x.orders.length co,.int .i64 x.skip,.int .i64 x.limit,.slice at' x.tos.length ct,.slice an x.names.length cn,.bool x.detach] 122 (0,0))).alloc (.cells #[] 9 (0,0))) g from ⟨cd0,blk_alloc (blk_alloc hb0 _) _,hcd0⟩)
  clear hb0 hl0 hn00
  go_wp2
  go_loopg [4,5] (x.items.length + 1) (fun gg o i wr => ∃ (k : Nat) (nl : List ByteArray),k ≤ x.items.length ∧ i = .int .i64 k ∧ gg = x.items.length + 1 - k ∧ OwnS wr (w.heap.size + 1) o nl ∧ nl.length = k ∧ (∀ y,y ∈ nl → y.size ≤ 100) ∧ ScV (.slice a0 n0 c0) wr g ∧ wr.heap[w.heap.size]? = some (.cells #[.int .i64 x.kind,.slice ap x.paths.length cp,.int .i64 x.ex.kind,.int .i64 x.ex.val.kind,.int .i64 x.ex.val.num,.string x.ex.val.text,.slice va x.ex.val.list.length vc,.string x.ex.name,.string x.ex.key,.slice pa x.ex.parts.length pc,.string x.name,.slice ai x.items.length ci,.bool x.distinct,.slice ao x.orders.length co,.int .i64 x.skip,.int .i64 x.limit,.slice at' x.tos.length ct,.slice an x.names.length cn,.bool x.detach] 122 (0,0)) ∧ Keep (But g) w wr)
  case atStart => exact ⟨0,[],by omega,rfl,rfl,O0.out,rfl,(fun y hy => by cases hy),SC.out,B0.out,K0.out⟩
  case round =>
    obtain ⟨k,nl,hk,rfl,hg,hO,hnl,hF,hS,hB,hK⟩ := hrel
    clear KW BX K0 B0 O0 SC
    have HG := hyd hg
    have OL := hyd hO
    have FL := hyd hF
    have BX := hyd hB
    have KW := hyd hK
    have SC := hyd hS
    have HN := hyd hnl
    have ln10 : x.items.length ≤ 10 := WC.out.items.1
    have hnl' : nl.length ≤ 10 := by omega
    clear hg hO hF hB hK hS hnl
    obtain ⟨y0,y1,y2,y3,y4,y5,y6,y7,y8,y9,y10,y11,y12,y13,y14,y15,y16,y17,y18⟩ := at19c BX.out
    by_cases hlt : k < x.items.length
    · have hx : x.items[k]? = some x.items[k] := List.getElem?_eq_getElem hlt
      have WX := hyd (WC.out.items.2 _ (List.mem_of_getElem? hx))
      obtain ⟨adi,vaz,vcz,paz,pcz,e,hFz,FX⟩ := its_all HIT.out hx
      have FX := hyd FX
      cases e
      generalize x.items[k] = z at *
      clear hx
      obtain ⟨hvz,cz0,cz1,cz2,cz3,cz4,cz5,cz6,cz7,cz8⟩ := FX.out _ KW.out
      have Hhvz := hyd hvz
      clear hvz
      have k0 : (0 : Int) ≤ (k : Int) := by omega
      have k1 : (k : Int) < (x.items.length : Int) := by omega
      go_wp2_with (first | (go_at_call 134;refine (l5Top_calls 4 z.ex _ _ (by decide) WX.out.1 Hhvz.out.any).mono ?_;rintro e w2 ⟨b,rfl,hK2⟩;have SC := hyd (SC.out.keep hK2 trivial);have hK2 := (Keep.any (ok := But g) hK2);have OL := hyd (OL.out.keepB hK2 (by omega));have KW := hyd (KW.out.trans hK2);have BX := hyd (blk_keep hK2 BX.out (by show w.heap.size ≠ g;omega));clear hK2;obtain ⟨y0,y1,y2,y3,y4,y5,y6,y7,y8,y9,y10,y11,y12,y13,y14,y15,y16,y17,y18⟩ := at19c BX.out;obtain ⟨hvz,cz0,cz1,cz2,cz3,cz4,cz5,cz6,cz7,cz8⟩ := FX.out _ KW.out;have Hhvz := hyd hvz;clear hvz;cases b) | (go_at_call 132;refine (fail2_calls _ g 2 _ ⟨by decide,by decide⟩ SC.out).mono ?_;rintro e w2 ⟨rfl,hS2,hK2⟩;have SC := hyd hS2;clear hS2;have OL := hyd (OL.out.keepB hK2 (by omega));have KW := hyd (KW.out.trans hK2);have BX := hyd (blk_keep hK2 BX.out (by show w.heap.size ≠ g;omega));clear hK2;obtain ⟨y0,y1,y2,y3,y4,y5,y6,y7,y8,y9,y10,y11,y12,y13,y14,y15,y16,y17,y18⟩ := at19c BX.out;obtain ⟨hvz,cz0,cz1,cz2,cz3,cz4,cz5,cz6,cz7,cz8⟩ := FX.out _ KW.out;have Hhvz := hyd hvz;clear hvz) | (go_at_call 136;refine (l4Names_all 4 (by decide) z.ex _ _ [] 0 _ WX.out.1 ((Hhvz.out.keep ((Keep.refl (But g) _).alloc (.cells #[] 9 (0,0)))).any) (strs_none (blk_new _ _) trivial) (by simp) (by decide) (fun x hx => by cases hx)).mono ?_;rintro e w2 ⟨o2,l2,rfl,hO2,hn2,hs2,hK2⟩;have hK2 := ((Keep.refl Any _).alloc (.cells #[] 9 (0,0))).trans hK2;have O2 := hyd hO2;clear hO2;have SC := hyd (SC.out.keep hK2 trivial);have hK2 := (Keep.any (ok := But g) hK2);have OL := hyd (OL.out.keepB hK2 (by omega));have KW := hyd (KW.out.trans hK2);have BX := hyd (blk_keep hK2 BX.out (by show w.heap.size ≠ g;omega));clear hK2;obtain ⟨y0,y1,y2,y3,y4,y5,y6,y7,y8,y9,y10,y11,y12,y13,y14,y15,y16,y17,y18⟩ := at19c BX.out;obtain ⟨hvz,cz0,cz1,cz2,cz3,cz4,cz5,cz6,cz7,cz8⟩ := FX.out _ KW.out;have Hhvz := hyd hvz;clear hvz) | (go_at_call 135;refine (asks2_calls a0 n0 c0 g l0 l2 _ _ SC.out (Strs.keep N0.out KW.out) (by obtain ⟨c,hb,_⟩ := SC.out;exact strs_but hb O2.out)).mono ?_;rintro e w2 ⟨rfl,hS2,hK2⟩;have SC := hyd hS2;clear hS2;have OL := hyd (OL.out.keepB hK2 (by omega));have KW := hyd (KW.out.trans hK2);have BX := hyd (blk_keep hK2 BX.out (by show w.heap.size ≠ g;omega));clear hK2;obtain ⟨y0,y1,y2,y3,y4,y5,y6,y7,y8,y9,y10,y11,y12,y13,y14,y15,y16,y17,y18⟩ := at19c BX.out;obtain ⟨hvz,cz0,cz1,cz2,cz3,cz4,cz5,cz6,cz7,cz8⟩ := FX.out _ KW.out;have Hhvz := hyd hvz;clear hvz) | (at_builtin;refine wpList_append_ex _ rfl (.tmp 78) (.tmp 85) 41 rfl _ _ rfl rfl (app_one _ _ (w.heap.size + 1) _ _ z.name OL.out (by have := KW.out.size;have := blk_lt BX.out;omega) hFz (by omega)) ?_;intro va2 wa ha;have OA := hyd ha.1;have KA := hyd (KW.out.low ha.2 (by omega));have BA := hyd (blk_keep ha.2 BX.out (by show w.heap.size < w.heap.size + 1;omega));have SA := hyd (SC.out.keep ha.2 (by show g < w.heap.size + 1;omega));clear ha))
      all_goals
        go_roundg (gk - 1)
        case rel => exact ⟨k + 1,nl ++ [z.name],by omega,by go_num,by have := HG.out;omega,OA.out,by rw [List.length_append,HN.out];rfl,(fun y hy => by rcases List.mem_append.1 hy with h | h;exact FL.out y h;rw [List.mem_singleton.1 h];exact WX.out.2),SA.out,BA.out,KA.out⟩
        case measure => have := HG.out;omega
    · obtain ⟨aN,cN,rfl⟩ := OL.out.form
      obtain ⟨cd,hbg,hcd⟩ := SC.out
      have x0 := (blk_cell hbg 0).trans rfl
      have f0 := blk_frozen hbg 0
      have zg2 := blk_lt hbg
      have HBG := hyd hbg
      clear hbg
      go_wp2
      go_end0
      refine ⟨rfl,⟨_,nl,cd,(blk_set HBG.out 0 _).trans rfl,?_,by omega,FL.out,hcd⟩,(KW.out).set _ _ (fun _ h => h rfl)⟩
      exact Sl.keep (OwnS.strs OL.out (fun y hy => by have := FL.out y hy;unfold Fits;omega) (fun k hk _ e => by have e : k = g := e;omega)) (fun _ _ _ h => h) ((Keep.refl (But g) _).set _ _ (fun _ h => h rfl))

/- The reference's scope of a clause,for some kinds of it. -/
set_option maxRecDepth 20000
set_option maxHeartbeats 4000000
theorem clause_k6 (n g : Nat) (x : Cl) (cs : List Value) (w : World) (hn9 : n ≤ 700) (h : Scp n w g) (hs : ClR w (But g) x cs) (hw : WfCl x) (hki : x.kind = 6) : Calls Tryz.prog 105 #[.pointer (some ⟨g,0,none⟩),.agg cs.toArray] w (GotScp (n + 10) g w) := by
  have zg : g < w.heap.size := by obtain ⟨v,l,c,hb,_⟩ := h;exact blk_lt hb
  obtain ⟨ap,cp,va,vc,pa,pc,ai,ci,ao,co,at',ct,an,cn,rfl,hk,hpa,hex,hna,hit,hod,hsk,hli,hto,hns⟩ := cl_open hs
  have HPA := hyd hpa
  have HEX := hyd hex
  have HIT := hyd hit
  have HTO := hyd hto
  have HNS := hyd hns
  have WC := hyd hw
  have H0 := hyd h
  have lpa := sl_len hpa
  have lit := sl_len hit
  have lto := sl_len hto
  have lns := sl_len hns
  have KW := hyd ((Keep.refl (But g) w).alloc (.cells #[.int .i64 x.kind,.slice ap x.paths.length cp,.int .i64 x.ex.kind,.int .i64 x.ex.val.kind,.int .i64 x.ex.val.num,.string x.ex.val.text,.slice va x.ex.val.list.length vc,.string x.ex.name,.string x.ex.key,.slice pa x.ex.parts.length pc,.string x.name,.slice ai x.items.length ci,.bool x.distinct,.slice ao x.orders.length co,.int .i64 x.skip,.int .i64 x.limit,.slice at' x.tos.length ct,.slice an x.names.length cn,.bool x.detach] 122 (0,0)))
  have BX := hyd (blk_new w (.cells #[.int .i64 x.kind,.slice ap x.paths.length cp,.int .i64 x.ex.kind,.int .i64 x.ex.val.kind,.int .i64 x.ex.val.num,.string x.ex.val.text,.slice va x.ex.val.list.length vc,.string x.ex.name,.string x.ex.key,.slice pa x.ex.parts.length pc,.string x.name,.slice ai x.items.length ci,.bool x.distinct,.slice ao x.orders.length co,.int .i64 x.skip,.int .i64 x.limit,.slice at' x.tos.length ct,.slice an x.names.length cn,.bool x.detach] 122 (0,0)))
  have SC := hyd (h.keep ((Keep.refl Any w).alloc (.cells #[.int .i64 x.kind,.slice ap x.paths.length cp,.int .i64 x.ex.kind,.int .i64 x.ex.val.kind,.int .i64 x.ex.val.num,.string x.ex.val.text,.slice va x.ex.val.list.length vc,.string x.ex.name,.string x.ex.key,.slice pa x.ex.parts.length pc,.string x.name,.slice ai x.items.length ci,.bool x.distinct,.slice ao x.orders.length co,.int .i64 x.skip,.int .i64 x.limit,.slice at' x.tos.length ct,.slice an x.names.length cn,.bool x.detach] 122 (0,0))))
  clear h hw hs hpa hex hit hod hto hns
  have q1 : (x.kind == 1) = false := by rw [hki];rfl
  have q2 : (x.kind == 2) = false := by rw [hki];rfl
  have q7 : (x.kind == 7) = false := by rw [hki];rfl
  have q3 : (x.kind == 3) = false := by rw [hki];rfl
  have q4 : (x.kind == 4) = false := by rw [hki];rfl
  have q5 : (x.kind == 5) = false := by rw [hki];rfl
  have q6 : (x.kind == 6) = true := by rw [hki];rfl
  have q8 : (x.kind == 8) = false := by rw [hki];rfl
  have q9 : (x.kind == 9) = false := by rw [hki];rfl
  have HKI := hyd hki
  clear hki
  obtain ⟨y0,y1,y2,y3,y4,y5,y6,y7,y8,y9,y10,y11,y12,y13,y14,y15,y16,y17,y18⟩ := at19c BX.out
  go_enter Tryz.func105,Tryz.ntmps105
  clear SC
  have K0 := hyd (KW.out.alloc (.cells #[] 9 (0,0)))
  have B0 := hyd (blk_alloc BX.out (.cells #[] 9 (0,0)))
  have O0 := hyd (OwnS.new (base := (w.heap.size + 1)) rfl (Nat.le_refl _) (blk_new1 w (.cells #[.int .i64 x.kind,.slice ap x.paths.length cp,.int .i64 x.ex.kind,.int .i64 x.ex.val.kind,.int .i64 x.ex.val.num,.string x.ex.val.text,.slice va x.ex.val.list.length vc,.string x.ex.name,.string x.ex.key,.slice pa x.ex.parts.length pc,.string x.name,.slice ai x.items.length ci,.bool x.distinct,.slice ao x.orders.length co,.int .i64 x.skip,.int .i64 x.limit,.slice at' x.tos.length ct,.slice an x.names.length cn,.bool x.detach] 122 (0,0)) (.cells #[] 9 (0,0))))
  obtain ⟨v0,l0,cd0,hb0,hs0,hn0,hl0,hcd0⟩ := H0.out
  have N0 := hyd hs0
  obtain ⟨a0,c0,rfl,_⟩ := hs0
  obtain ⟨n0,hn00⟩ : ∃ n0,n0 = l0.length := ⟨_,rfl⟩
  rw [← hn00] at hb0 N0
  have SC := hyd (show ScV (.slice a0 n0 c0) ((w.alloc (.cells #[.int .i64 x.kind,.slice ap x.paths.length cp,.int .i64 x.ex.kind,.int .i64 x.ex.val.kind,.int .i64 x.ex.val.num,.string x.ex.val.text,.slice va x.ex.val.list.length vc,.string x.ex.name,.string x.ex.key,.slice pa x.ex.parts.length pc,.string x.name,.slice ai x.items.length ci,.bool x.distinct,.slice ao x.orders.length co,.int .i64 x.skip,.int .i64 x.limit,.slice at' x.tos.length ct,.slice an x.names.length cn,.bool x.detach] 122 (0,0))).alloc (.cells #[] 9 (0,0))) g from ⟨cd0,blk_alloc (blk_alloc hb0 _) _,hcd0⟩)
  clear hb0 hl0 hn00
  go_wp2
  go_loopg [4,5] (x.items.length + 1) (fun gg o i wr => ∃ (k : Nat) (nl : List ByteArray),k ≤ x.items.length ∧ i = .int .i64 k ∧ gg = x.items.length + 1 - k ∧ OwnS wr (w.heap.size + 1) o nl ∧ nl.length = k ∧ (∀ y,y ∈ nl → y.size ≤ 100) ∧ ScV (.slice a0 n0 c0) wr g ∧ wr.heap[w.heap.size]? = some (.cells #[.int .i64 x.kind,.slice ap x.paths.length cp,.int .i64 x.ex.kind,.int .i64 x.ex.val.kind,.int .i64 x.ex.val.num,.string x.ex.val.text,.slice va x.ex.val.list.length vc,.string x.ex.name,.string x.ex.key,.slice pa x.ex.parts.length pc,.string x.name,.slice ai x.items.length ci,.bool x.distinct,.slice ao x.orders.length co,.int .i64 x.skip,.int .i64 x.limit,.slice at' x.tos.length ct,.slice an x.names.length cn,.bool x.detach] 122 (0,0)) ∧ Keep (But g) w wr)
  case atStart => exact ⟨0,[],by omega,rfl,rfl,O0.out,rfl,(fun y hy => by cases hy),SC.out,B0.out,K0.out⟩
  case round =>
    obtain ⟨k,nl,hk,rfl,hg,hO,hnl,hF,hS,hB,hK⟩ := hrel
    clear KW BX K0 B0 O0 SC
    have HG := hyd hg
    have OL := hyd hO
    have FL := hyd hF
    have BX := hyd hB
    have KW := hyd hK
    have SC := hyd hS
    have HN := hyd hnl
    have ln10 : x.items.length ≤ 10 := WC.out.items.1
    have hnl' : nl.length ≤ 10 := by omega
    clear hg hO hF hB hK hS hnl
    obtain ⟨y0,y1,y2,y3,y4,y5,y6,y7,y8,y9,y10,y11,y12,y13,y14,y15,y16,y17,y18⟩ := at19c BX.out
    by_cases hlt : k < x.items.length
    · have hx : x.items[k]? = some x.items[k] := List.getElem?_eq_getElem hlt
      have WX := hyd (WC.out.items.2 _ (List.mem_of_getElem? hx))
      obtain ⟨adi,vaz,vcz,paz,pcz,e,hFz,FX⟩ := its_all HIT.out hx
      have FX := hyd FX
      cases e
      generalize x.items[k] = z at *
      clear hx
      obtain ⟨hvz,cz0,cz1,cz2,cz3,cz4,cz5,cz6,cz7,cz8⟩ := FX.out _ KW.out
      have Hhvz := hyd hvz
      clear hvz
      have k0 : (0 : Int) ≤ (k : Int) := by omega
      have k1 : (k : Int) < (x.items.length : Int) := by omega
      go_wp2_with (first | (go_at_call 134;refine (l5Top_calls 4 z.ex _ _ (by decide) WX.out.1 Hhvz.out.any).mono ?_;rintro e w2 ⟨b,rfl,hK2⟩;have SC := hyd (SC.out.keep hK2 trivial);have hK2 := (Keep.any (ok := But g) hK2);have OL := hyd (OL.out.keepB hK2 (by omega));have KW := hyd (KW.out.trans hK2);have BX := hyd (blk_keep hK2 BX.out (by show w.heap.size ≠ g;omega));clear hK2;obtain ⟨y0,y1,y2,y3,y4,y5,y6,y7,y8,y9,y10,y11,y12,y13,y14,y15,y16,y17,y18⟩ := at19c BX.out;obtain ⟨hvz,cz0,cz1,cz2,cz3,cz4,cz5,cz6,cz7,cz8⟩ := FX.out _ KW.out;have Hhvz := hyd hvz;clear hvz;cases b) | (go_at_call 132;refine (fail2_calls _ g 2 _ ⟨by decide,by decide⟩ SC.out).mono ?_;rintro e w2 ⟨rfl,hS2,hK2⟩;have SC := hyd hS2;clear hS2;have OL := hyd (OL.out.keepB hK2 (by omega));have KW := hyd (KW.out.trans hK2);have BX := hyd (blk_keep hK2 BX.out (by show w.heap.size ≠ g;omega));clear hK2;obtain ⟨y0,y1,y2,y3,y4,y5,y6,y7,y8,y9,y10,y11,y12,y13,y14,y15,y16,y17,y18⟩ := at19c BX.out;obtain ⟨hvz,cz0,cz1,cz2,cz3,cz4,cz5,cz6,cz7,cz8⟩ := FX.out _ KW.out;have Hhvz := hyd hvz;clear hvz) | (go_at_call 136;refine (l4Names_all 4 (by decide) z.ex _ _ [] 0 _ WX.out.1 ((Hhvz.out.keep ((Keep.refl (But g) _).alloc (.cells #[] 9 (0,0)))).any) (strs_none (blk_new _ _) trivial) (by simp) (by decide) (fun x hx => by cases hx)).mono ?_;rintro e w2 ⟨o2,l2,rfl,hO2,hn2,hs2,hK2⟩;have hK2 := ((Keep.refl Any _).alloc (.cells #[] 9 (0,0))).trans hK2;have O2 := hyd hO2;clear hO2;have SC := hyd (SC.out.keep hK2 trivial);have hK2 := (Keep.any (ok := But g) hK2);have OL := hyd (OL.out.keepB hK2 (by omega));have KW := hyd (KW.out.trans hK2);have BX := hyd (blk_keep hK2 BX.out (by show w.heap.size ≠ g;omega));clear hK2;obtain ⟨y0,y1,y2,y3,y4,y5,y6,y7,y8,y9,y10,y11,y12,y13,y14,y15,y16,y17,y18⟩ := at19c BX.out;obtain ⟨hvz,cz0,cz1,cz2,cz3,cz4,cz5,cz6,cz7,cz8⟩ := FX.out _ KW.out;have Hhvz := hyd hvz;clear hvz) | (go_at_call 135;refine (asks2_calls a0 n0 c0 g l0 l2 _ _ SC.out (Strs.keep N0.out KW.out) (by obtain ⟨c,hb,_⟩ := SC.out;exact strs_but hb O2.out)).mono ?_;rintro e w2 ⟨rfl,hS2,hK2⟩;have SC := hyd hS2;clear hS2;have OL := hyd (OL.out.keepB hK2 (by omega));have KW := hyd (KW.out.trans hK2);have BX := hyd (blk_keep hK2 BX.out (by show w.heap.size ≠ g;omega));clear hK2;obtain ⟨y0,y1,y2,y3,y4,y5,y6,y7,y8,y9,y10,y11,y12,y13,y14,y15,y16,y17,y18⟩ := at19c BX.out;obtain ⟨hvz,cz0,cz1,cz2,cz3,cz4,cz5,cz6,cz7,cz8⟩ := FX.out _ KW.out;have Hhvz := hyd hvz;clear hvz) | (at_builtin;refine wpList_append_ex _ rfl (.tmp 78) (.tmp 85) 41 rfl _ _ rfl rfl (app_one _ _ (w.heap.size + 1) _ _ z.name OL.out (by have := KW.out.size;have := blk_lt BX.out;omega) hFz (by omega)) ?_;intro va2 wa ha;have OA := hyd ha.1;have KA := hyd (KW.out.low ha.2 (by omega));have BA := hyd (blk_keep ha.2 BX.out (by show w.heap.size < w.heap.size + 1;omega));have SA := hyd (SC.out.keep ha.2 (by show g < w.heap.size + 1;omega));clear ha))
      all_goals
        go_roundg (gk - 1)
        case rel => exact ⟨k + 1,nl ++ [z.name],by omega,by go_num,by have := HG.out;omega,OA.out,by rw [List.length_append,HN.out];rfl,(fun y hy => by rcases List.mem_append.1 hy with h | h;exact FL.out y h;rw [List.mem_singleton.1 h];exact WX.out.2),SA.out,BA.out,KA.out⟩
        case measure => have := HG.out;omega
    · obtain ⟨aN,cN,rfl⟩ := OL.out.form
      obtain ⟨cd,hbg,hcd⟩ := SC.out
      have x0 := (blk_cell hbg 0).trans rfl
      have f0 := blk_frozen hbg 0
      have zg2 := blk_lt hbg
      have HBG := hyd hbg
      clear hbg
      go_wp2
      go_end0
      refine ⟨rfl,⟨_,nl,cd,(blk_set HBG.out 0 _).trans rfl,?_,by omega,FL.out,hcd⟩,(KW.out).set _ _ (fun _ h => h rfl)⟩
      exact Sl.keep (OwnS.strs OL.out (fun y hy => by have := FL.out y hy;unfold Fits;omega) (fun k hk _ e => by have e : k = g := e;omega)) (fun _ _ _ h => h) ((Keep.refl (But g) _).set _ _ (fun _ h => h rfl))
theorem clause_k9 (n g : Nat) (x : Cl) (cs : List Value) (w : World) (hn9 : n ≤ 700) (h : Scp n w g) (hs : ClR w (But g) x cs) (hw : WfCl x) (hki : x.kind = 9) : Calls Tryz.prog 105 #[.pointer (some ⟨g,0,none⟩),.agg cs.toArray] w (GotScp (n + 10) g w) := by
  have zg : g < w.heap.size := by obtain ⟨v,l,c,hb,_⟩ := h;exact blk_lt hb
  obtain ⟨ap,cp,va,vc,pa,pc,ai,ci,ao,co,at',ct,an,cn,rfl,hk,hpa,hex,hna,hit,hod,hsk,hli,hto,hns⟩ := cl_open hs
  have HPA := hyd hpa
  have HEX := hyd hex
  have HIT := hyd hit
  have HTO := hyd hto
  have HNS := hyd hns
  have WC := hyd hw
  have H0 := hyd h
  have lpa := sl_len hpa
  have lit := sl_len hit
  have lto := sl_len hto
  have lns := sl_len hns
  have KW := hyd ((Keep.refl (But g) w).alloc (.cells #[.int .i64 x.kind,.slice ap x.paths.length cp,.int .i64 x.ex.kind,.int .i64 x.ex.val.kind,.int .i64 x.ex.val.num,.string x.ex.val.text,.slice va x.ex.val.list.length vc,.string x.ex.name,.string x.ex.key,.slice pa x.ex.parts.length pc,.string x.name,.slice ai x.items.length ci,.bool x.distinct,.slice ao x.orders.length co,.int .i64 x.skip,.int .i64 x.limit,.slice at' x.tos.length ct,.slice an x.names.length cn,.bool x.detach] 122 (0,0)))
  have BX := hyd (blk_new w (.cells #[.int .i64 x.kind,.slice ap x.paths.length cp,.int .i64 x.ex.kind,.int .i64 x.ex.val.kind,.int .i64 x.ex.val.num,.string x.ex.val.text,.slice va x.ex.val.list.length vc,.string x.ex.name,.string x.ex.key,.slice pa x.ex.parts.length pc,.string x.name,.slice ai x.items.length ci,.bool x.distinct,.slice ao x.orders.length co,.int .i64 x.skip,.int .i64 x.limit,.slice at' x.tos.length ct,.slice an x.names.length cn,.bool x.detach] 122 (0,0)))
  have SC := hyd (h.keep ((Keep.refl Any w).alloc (.cells #[.int .i64 x.kind,.slice ap x.paths.length cp,.int .i64 x.ex.kind,.int .i64 x.ex.val.kind,.int .i64 x.ex.val.num,.string x.ex.val.text,.slice va x.ex.val.list.length vc,.string x.ex.name,.string x.ex.key,.slice pa x.ex.parts.length pc,.string x.name,.slice ai x.items.length ci,.bool x.distinct,.slice ao x.orders.length co,.int .i64 x.skip,.int .i64 x.limit,.slice at' x.tos.length ct,.slice an x.names.length cn,.bool x.detach] 122 (0,0))))
  clear h hw hs hpa hex hit hod hto hns
  have q1 : (x.kind == 1) = false := by rw [hki];rfl
  have q2 : (x.kind == 2) = false := by rw [hki];rfl
  have q7 : (x.kind == 7) = false := by rw [hki];rfl
  have q3 : (x.kind == 3) = false := by rw [hki];rfl
  have q4 : (x.kind == 4) = false := by rw [hki];rfl
  have q5 : (x.kind == 5) = false := by rw [hki];rfl
  have q6 : (x.kind == 6) = false := by rw [hki];rfl
  have q8 : (x.kind == 8) = false := by rw [hki];rfl
  have q9 : (x.kind == 9) = true := by rw [hki];rfl
  have HKI := hyd hki
  clear hki
  obtain ⟨y0,y1,y2,y3,y4,y5,y6,y7,y8,y9,y10,y11,y12,y13,y14,y15,y16,y17,y18⟩ := at19c BX.out
  go_enter Tryz.func105,Tryz.ntmps105
  go_wp2_with (go_at_call 135;refine (asks_calls n g x.names _ _ SC.out (Strs.keep HNS.out KW.out)).mono ?_;rintro e w2 ⟨rfl,hS2,hK2⟩;have SC := hyd hS2;clear hS2;have KW := hyd (KW.out.trans hK2);have BX := hyd (blk_keep hK2 BX.out (by show w.heap.size ≠ g;omega));clear hK2;obtain ⟨y0,y1,y2,y3,y4,y5,y6,y7,y8,y9,y10,y11,y12,y13,y14,y15,y16,y17,y18⟩ := at19c BX.out)
  go_end0
  exact ⟨rfl,SC.out.up (by omega),KW.out⟩
theorem clause_k0 (n g : Nat) (x : Cl) (cs : List Value) (w : World) (hn9 : n ≤ 700) (h : Scp n w g) (hs : ClR w (But g) x cs) (hw : WfCl x) (hki : ¬ (1 ≤ x.kind ∧ x.kind ≤ 9)) : Calls Tryz.prog 105 #[.pointer (some ⟨g,0,none⟩),.agg cs.toArray] w (GotScp (n + 10) g w) := by
  have zg : g < w.heap.size := by obtain ⟨v,l,c,hb,_⟩ := h;exact blk_lt hb
  obtain ⟨ap,cp,va,vc,pa,pc,ai,ci,ao,co,at',ct,an,cn,rfl,hk,hpa,hex,hna,hit,hod,hsk,hli,hto,hns⟩ := cl_open hs
  have HPA := hyd hpa
  have HEX := hyd hex
  have HIT := hyd hit
  have HTO := hyd hto
  have HNS := hyd hns
  have WC := hyd hw
  have H0 := hyd h
  have lpa := sl_len hpa
  have lit := sl_len hit
  have lto := sl_len hto
  have lns := sl_len hns
  have KW := hyd ((Keep.refl (But g) w).alloc (.cells #[.int .i64 x.kind,.slice ap x.paths.length cp,.int .i64 x.ex.kind,.int .i64 x.ex.val.kind,.int .i64 x.ex.val.num,.string x.ex.val.text,.slice va x.ex.val.list.length vc,.string x.ex.name,.string x.ex.key,.slice pa x.ex.parts.length pc,.string x.name,.slice ai x.items.length ci,.bool x.distinct,.slice ao x.orders.length co,.int .i64 x.skip,.int .i64 x.limit,.slice at' x.tos.length ct,.slice an x.names.length cn,.bool x.detach] 122 (0,0)))
  have BX := hyd (blk_new w (.cells #[.int .i64 x.kind,.slice ap x.paths.length cp,.int .i64 x.ex.kind,.int .i64 x.ex.val.kind,.int .i64 x.ex.val.num,.string x.ex.val.text,.slice va x.ex.val.list.length vc,.string x.ex.name,.string x.ex.key,.slice pa x.ex.parts.length pc,.string x.name,.slice ai x.items.length ci,.bool x.distinct,.slice ao x.orders.length co,.int .i64 x.skip,.int .i64 x.limit,.slice at' x.tos.length ct,.slice an x.names.length cn,.bool x.detach] 122 (0,0)))
  have SC := hyd (h.keep ((Keep.refl Any w).alloc (.cells #[.int .i64 x.kind,.slice ap x.paths.length cp,.int .i64 x.ex.kind,.int .i64 x.ex.val.kind,.int .i64 x.ex.val.num,.string x.ex.val.text,.slice va x.ex.val.list.length vc,.string x.ex.name,.string x.ex.key,.slice pa x.ex.parts.length pc,.string x.name,.slice ai x.items.length ci,.bool x.distinct,.slice ao x.orders.length co,.int .i64 x.skip,.int .i64 x.limit,.slice at' x.tos.length ct,.slice an x.names.length cn,.bool x.detach] 122 (0,0))))
  clear h hw hs hpa hex hit hod hto hns
  have q1 : (x.kind == 1) = false := by rw [beq_eq_false_iff_ne];omega
  have q2 : (x.kind == 2) = false := by rw [beq_eq_false_iff_ne];omega
  have q7 : (x.kind == 7) = false := by rw [beq_eq_false_iff_ne];omega
  have q3 : (x.kind == 3) = false := by rw [beq_eq_false_iff_ne];omega
  have q4 : (x.kind == 4) = false := by rw [beq_eq_false_iff_ne];omega
  have q5 : (x.kind == 5) = false := by rw [beq_eq_false_iff_ne];omega
  have q6 : (x.kind == 6) = false := by rw [beq_eq_false_iff_ne];omega
  have q8 : (x.kind == 8) = false := by rw [beq_eq_false_iff_ne];omega
  have q9 : (x.kind == 9) = false := by rw [beq_eq_false_iff_ne];omega
  have HKI := hyd hki
  clear hki
  obtain ⟨y0,y1,y2,y3,y4,y5,y6,y7,y8,y9,y10,y11,y12,y13,y14,y15,y16,y17,y18⟩ := at19c BX.out
  go_enter Tryz.func105,Tryz.ntmps105
  go_wp2
  go_end0
  exact ⟨rfl,SC.out.up (by omega),KW.out⟩

/- The reference's form of a clause comes to some answer. -/
theorem l5Form_calls (x : Cl) (cs : List Value) (w : World) (hs : ClR w Any x cs) (hw : WfCl x) : Calls Tryz.prog 103 #[.agg cs.toArray] w (SomeB w) := by
  by_cases k1 : x.kind = 1
  · exact l5Form_k1 x cs w hs hw k1
  by_cases k2 : x.kind = 2
  · exact l5Form_k2 x cs w hs hw k2
  by_cases k7 : x.kind = 7
  · exact l5Form_k7 x cs w hs hw k7
  by_cases k3 : x.kind = 3
  · exact l5Form_k3 x cs w hs hw k3
  by_cases k4 : x.kind = 4
  · exact l5Form_k4 x cs w hs hw k4
  by_cases k5 : x.kind = 5
  · exact l5Form_k5 x cs w hs hw k5
  by_cases k6 : x.kind = 6
  · exact l5Form_k6 x cs w hs hw k6
  by_cases k8 : x.kind = 8
  · exact l5Form_k8 x cs w hs hw k8
  by_cases k9 : x.kind = 9
  · exact l5Form_k9 x cs w hs hw k9
  exact l5Form_k0 x cs w hs hw (by omega)

/- The reference's scope of a clause;of a question. -/
set_option maxRecDepth 20000
set_option maxHeartbeats 4000000
theorem clause_calls (n g : Nat) (x : Cl) (cs : List Value) (w : World) (hn9 : n ≤ 700) (h : Scp n w g) (hs : ClR w (But g) x cs) (hw : WfCl x) : Calls Tryz.prog 105 #[.pointer (some ⟨g,0,none⟩),.agg cs.toArray] w (GotScp (n + 10) g w) := by
  by_cases k1 : x.kind = 1
  · exact clause_k1 n g x cs w hn9 h hs hw k1
  by_cases k2 : x.kind = 2
  · exact clause_k2 n g x cs w hn9 h hs hw k2
  by_cases k7 : x.kind = 7
  · exact clause_k7 n g x cs w hn9 h hs hw k7
  by_cases k3 : x.kind = 3
  · exact clause_k3 n g x cs w hn9 h hs hw k3
  by_cases k4 : x.kind = 4
  · exact clause_k4 n g x cs w hn9 h hs hw k4
  by_cases k5 : x.kind = 5
  · exact clause_k5 n g x cs w hn9 h hs hw k5
  by_cases k6 : x.kind = 6
  · exact clause_k6 n g x cs w hn9 h hs hw k6
  by_cases k8 : x.kind = 8
  · exact clause_k8 n g x cs w hn9 h hs hw k8
  by_cases k9 : x.kind = 9
  · exact clause_k9 n g x cs w hn9 h hs hw k9
  exact clause_k0 n g x cs w hn9 h hs hw (by omega)
theorem l5Ends_calls (k : Int) (w : World) : Calls Tryz.prog 104 #[.int .i64 k] w (fun e w' => ∃ b : Bool,e = .returned (.bool b) ∧ w = w') := by
  go_enter Tryz.func104,Tryz.ntmps104
  go_wp2_with (go_at_call 41;refine (inB k 6 9 _).mono ?_;rintro e w2 ⟨b,rfl,rfl⟩)
  go_ret
  exact ⟨_,rfl,rfl⟩
def SomeI (w : World) (e : Ending) (w' : World) : Prop := ∃ k : Int,e = .returned (.int .i64 k) ∧ I64 k ∧ Keep Any w w'
theorem QueryCheck_calls (q : List Cl) (v : Value) (w : World) (hs : Cls w Any v q) (hw : WfQ q) : Calls Tryz.prog 80 #[v] w (SomeI w) := by
  have HL := hyd hs
  have WQ := hyd hw
  have hq6 : q.length ≤ 6 := hw.1
  obtain ⟨a,c,rfl,hc,hm,_⟩ := hs
  clear hw
  go_enter Tryz.func80,Tryz.ntmps80
  go_wp2_with (go_at_call 41;refine (inB (q.length : Int) 1 8 _).mono ?_;rintro e w2 ⟨b,rfl,rfl⟩;cases b)
  · go_ret
    exact ⟨1,rfl,⟨by decide,by decide⟩,Keep.refl _ _⟩
  go_loopg [3] (q.length + 1) (fun gg i wr => ∃ k : Nat,k ≤ q.length ∧ i = .int .i64 k ∧ gg = q.length + 1 - k ∧ Keep Any w wr)
  case atStart => exact ⟨0,by omega,rfl,rfl,Keep.refl _ _⟩
  case round =>
    obtain ⟨k,hk,rfl,hg,hK⟩ := hrel
    have HG := hyd hg
    have KW := hyd hK
    clear hg hK
    by_cases hlt : k < q.length
    · have hx : q[k]? = some q[k] := List.getElem?_eq_getElem hlt
      have WX := hyd (WQ.out.2 _ (List.mem_of_getElem? hx))
      obtain ⟨adz,csz,e,hlz,FX⟩ := cls_row HL.out hx
      have FX := hyd FX
      cases e
      generalize q[k] = z at *
      clear hx
      obtain ⟨hvz,cz0,hcz⟩ := FX.out _ KW.out
      have Hhvz := hyd hvz
      have HCZ := hyd hcz
      have HLZ := hyd (show (Tryz.prog.info? 122).map (·.size) = some csz.length by rw [hlz];exact infoCl)
      clear hvz hcz hlz
      have k0 : (0 : Int) ≤ (k : Int) := by omega
      have k1 : (k : Int) < (q.length : Int) := by omega
      go_wp2_with (first | (refine wpList_load_at rfl 122 (.tmp 20) rfl (adz.add (k * 19)) rfl csz _ HCZ.out Tryz.underlying122 rfl HLZ.out ?_) | (go_at_call 103;refine (l5Form_calls z csz _ Hhvz.out WX.out).mono ?_;rintro e w2 ⟨b,rfl,hK2⟩;have KW := hyd (KW.out.trans hK2);clear hK2;cases b))
      · go_ret
        exact ⟨1,rfl,⟨by decide,by decide⟩,KW.out⟩
      · go_roundg (gk - 1)
        case rel => exact ⟨k + 1,by omega,by go_num,by have := HG.out;omega,KW.out⟩
        case measure => have := HG.out;omega
    · go_wp2
      obtain ⟨wz,hwz⟩ : ∃ wz,wz = wr := ⟨_,rfl⟩
      subst hwz
      clear HG
      go_loopg [4] (q.length + 1) (fun gg i wr => ∃ k : Nat,k ≤ q.length ∧ i = .int .i64 k ∧ gg = q.length + 1 - k ∧ wr = wz)
      case atStart => exact ⟨0,by omega,rfl,rfl,rfl⟩
      case round =>
        clear hlt hk
        obtain ⟨k,hk,rfl,hg,rfl⟩ := hrel
        have HG := hyd hg
        clear hg
        by_cases hlt : k < q.length
        · have hx : q[k]? = some q[k] := List.getElem?_eq_getElem hlt
          have WX := hyd (WQ.out.2 _ (List.mem_of_getElem? hx))
          obtain ⟨adz,csz,e,hlz,FX⟩ := cls_row HL.out hx
          have FX := hyd FX
          cases e
          generalize q[k] = z at *
          clear hx
          obtain ⟨hvz,cz0,hcz⟩ := FX.out _ KW.out
          have Hhvz := hyd hvz
          have HCZ := hyd hcz
          have HLZ := hyd (show (Tryz.prog.info? 122).map (·.size) = some csz.length by rw [hlz];exact infoCl)
          clear hvz hcz hlz
          have k0 : (0 : Int) ≤ (k : Int) := by omega
          have k1 : (k : Int) < (q.length : Int) := by omega
          have e1 : IntKind.i64.wrap ((q.length : Int) - 1) = (q.length : Int) - 1 := IntWalk.i64_in _ ⟨by omega,by omega⟩
          obtain ⟨tl,htl⟩ : ∃ t,((k : Int) == (q.length : Int) - 1) = t := ⟨_,rfl⟩
          obtain ⟨t6,ht6⟩ : ∃ t,(z.kind == 6) = t := ⟨_,rfl⟩
          cases tl
          all_goals cases t6
          all_goals
            go_wp2_with (go_at_call 104;refine (l5Ends_calls z.kind _).mono ?_;rintro e w2 ⟨b,rfl,hw⟩;have hw := hw.symm;subst hw;cases b)
          all_goals first
            | (go_ret
               exact ⟨2,rfl,⟨by decide,by decide⟩,KW.out⟩)
            | (go_roundg (gk - 1)
               case rel => exact ⟨k + 1,by omega,by go_num,by have := HG.out;omega,rfl⟩
               case measure => have := HG.out;omega)
        · obtain ⟨wq,hwq⟩ : ∃ x,x = wr := ⟨_,rfl⟩
          rw [← hwq] at KW ⊢
          have KZ := hyd ((Keep.refl (But wq.heap.size) wq).alloc (.cells #[.slice none 0 0,.int .i64 0] 147 (0,0)))
          have S0 := hyd (show Scp 0 (wq.alloc (.cells #[.slice none 0 0,.int .i64 0] 147 (0,0))) wq.heap.size from ⟨_,[],0,blk_new _ _,⟨none,0,rfl,Nat.le_refl _,by decide,fun h => absurd rfl h⟩,Nat.le_refl _,(fun x hx => by cases hx),⟨by decide,by decide⟩⟩)
          have HLG := hyd (show Cls wq (But wq.heap.size) _ q from Cls.mono (Cls.keep HL.out KW.out) (fun k hk _ => by show k ≠ wq.heap.size;omega))
          clear hwq HG
          go_wp2
          clear hlt hk
          go_loopg [7] (q.length + 1) (fun gg i wr => ∃ k : Nat,k ≤ q.length ∧ i = .int .i64 k ∧ gg = q.length + 1 - k ∧ Scp (10 * k) wr wq.heap.size ∧ Keep (But wq.heap.size) wq wr)
          case atStart => exact ⟨0,by omega,rfl,rfl,S0.out,KZ.out⟩
          case round =>
            obtain ⟨k,hk,rfl,hg,hS,hK⟩ := hrel
            have K0 := hyd KW.out
            clear KW KZ S0
            have HG := hyd hg
            have KW := hyd hK
            have SC := hyd hS
            clear hg hK hS
            by_cases hlt : k < q.length
            · have hx : q[k]? = some q[k] := List.getElem?_eq_getElem hlt
              have WX := hyd (WQ.out.2 _ (List.mem_of_getElem? hx))
              obtain ⟨adz,csz,e,hlz,FX⟩ := cls_row HLG.out hx
              have FX := hyd FX
              cases e
              generalize q[k] = z at *
              clear hx
              obtain ⟨hvz,cz0,hcz⟩ := FX.out _ KW.out
              have Hhvz := hyd hvz
              have HCZ := hyd hcz
              have HLZ := hyd (show (Tryz.prog.info? 122).map (·.size) = some csz.length by rw [hlz];exact infoCl)
              clear hvz hcz hlz
              have k0 : (0 : Int) ≤ (k : Int) := by omega
              have k1 : (k : Int) < (q.length : Int) := by omega
              go_wp2_with (first | (refine wpList_load_at rfl 122 (.tmp 68) rfl (adz.add (k * 19)) rfl csz _ HCZ.out Tryz.underlying122 rfl HLZ.out ?_) | (go_at_call 105;refine (clause_calls (10 * k) wq.heap.size z csz _ (by omega) SC.out Hhvz.out WX.out).mono ?_;rintro e w2 ⟨rfl,hS2,hK2⟩;have SC := hyd hS2;clear hS2;have KW := hyd (KW.out.trans hK2);clear hK2))
              go_roundg (gk - 1)
              case rel => exact ⟨k + 1,by omega,by go_num,by have := HG.out;omega,SC.out.up (by omega),KW.out⟩
              case measure => have := HG.out;omega
            · obtain ⟨v,l,cd,hb,_,_,_,hcd⟩ := SC.out
              have x1 := (blk_cell hb 1).trans rfl
              have zg := blk_lt hb
              go_wp2
              go_ret
              exact ⟨cd,rfl,hcd,K0.out.then KW.out (fun i hi _ => by show i ≠ wq.heap.size;have := K0.out.size;omega)⟩

/- The reference's text of a question. -/
set_option maxRecDepth 20000
set_option maxHeartbeats 4000000
theorem l5PutClause_calls (x : Cl) (cs : List Value) (w : World) (hs : ClR w Any x cs) (hw : WfCl x) : Calls Tryz.prog 106 #[.agg cs.toArray] w (SomeT 2000000000 w) := by
  by_cases k1 : x.kind = 1
  · exact l5PutClause_k1 x cs w hs hw k1
  by_cases k2 : x.kind = 2
  · exact l5PutClause_k2 x cs w hs hw k2
  by_cases k7 : x.kind = 7
  · exact l5PutClause_k7 x cs w hs hw k7
  by_cases k3 : x.kind = 3
  · exact l5PutClause_k3 x cs w hs hw k3
  by_cases k4 : x.kind = 4
  · exact l5PutClause_k4 x cs w hs hw k4
  by_cases k5 : x.kind = 5
  · exact l5PutClause_k5 x cs w hs hw k5
  by_cases k6 : x.kind = 6
  · exact l5PutClause_k6 x cs w hs hw k6
  exact l5PutClause_k0 x cs w hs hw (by omega)
theorem l5Put_calls (q : List Cl) (v : Value) (w : World) (hs : Cls w Any v q) (hw : WfQ q) : Calls Tryz.prog 81 #[v] w (SomeT 13000000000 w) := by
  have HL := hyd hs
  have WQ := hyd hw
  have hq6 : q.length ≤ 6 := hw.1
  obtain ⟨a,c,rfl,hc,hm,_⟩ := hs
  clear hw
  go_enter Tryz.func81,Tryz.ntmps81
  go_wp2
  go_loopg [3,4] (q.length + 1) (fun g o i wr => ∃ (k : Nat) (t : ByteArray),k ≤ q.length ∧ o = .string t ∧ i = .int .i64 k ∧ g = q.length + 1 - k ∧ t.size ≤ k * 2000000001 ∧ Keep Any w wr)
  case atStart => exact ⟨0,⟨#[]⟩,by omega,rfl,rfl,rfl,by decide,Keep.refl _ _⟩
  case round =>
    obtain ⟨k,t,hk,rfl,rfl,hg,hT,hK⟩ := hrel
    have HG := hyd hg
    have KW := hyd hK
    clear hg hK
    by_cases hlt : k < q.length
    · have hx : q[k]? = some q[k] := List.getElem?_eq_getElem hlt
      have WX := hyd (WQ.out.2 _ (List.mem_of_getElem? hx))
      obtain ⟨adz,csz,e,hlz,FX⟩ := cls_row HL.out hx
      have FX := hyd FX
      cases e
      generalize q[k] = z at *
      clear hx
      obtain ⟨hvz,cz0,hcz⟩ := FX.out _ KW.out
      have Hhvz := hyd hvz
      have HCZ := hyd hcz
      have HLZ := hyd (show (Tryz.prog.info? 122).map (·.size) = some csz.length by rw [hlz];exact infoCl)
      clear hvz hcz hlz
      have k0 : (0 : Int) ≤ (k : Int) := by omega
      have k1 : (k : Int) < (q.length : Int) := by omega
      obtain ⟨tp,htp⟩ : ∃ t,decide (0 < k) = t := ⟨_,rfl⟩
      have n1 : ¬ 9223372036854775807 < t.size + 1 := by omega
      go_upto_if 12 with fail
      go_cut [3] from 13 to 14 (fun v wc => ∃ y : ByteArray,v = .string y ∧ y.size ≤ t.size + 1 ∧ wr = wc)
      case first =>
        cases tp
        all_goals
          go_wp2
          go_meet
          exact ⟨_,rfl,(by (try simp only [ByteArray.size_append]);(try simp only [show (⟨#[32]⟩ : ByteArray).size = 1 from rfl]);omega),rfl⟩
      case rest =>
      obtain ⟨t1,rfl,ht1,hw⟩ := hcut
      subst hw
      go_wp2_with (first | (refine wpList_load_at rfl 122 (.tmp 18) rfl (adz.add (k * 19)) rfl csz _ HCZ.out Tryz.underlying122 rfl HLZ.out ?_) | (go_at_call 106;refine (l5PutClause_calls z csz _ Hhvz.out WX.out).mono ?_;rintro e w2 ⟨z1,hz1,rfl,hK2⟩;have KW := hyd (KW.out.trans hK2);clear hK2;have n2 : ¬ 9223372036854775807 < t1.size + z1.size := (by omega)))
      go_roundg (gk - 1)
      case rel => exact ⟨k + 1,_,by omega,rfl,by go_num,by have := HG.out;omega,(by (try simp only [ByteArray.size_append]);(try simp only [show (⟨#[32]⟩ : ByteArray).size = 1 from rfl]);omega),KW.out⟩
      case measure => have := HG.out;omega
    · go_wp2
      go_ret
      exact ⟨_,by omega,rfl,KW.out⟩
theorem QueryPut_calls (q : List Cl) (v : Value) (w : World) (hs : Cls w Any v q) (hw : WfQ q) : Calls Tryz.prog 62 #[v] w (SomeT 13000000000 w) := by
  go_enter Tryz.func62,Tryz.ntmps62
  go_wp2_with (first | (go_at_call 80;refine (QueryCheck_calls q v _ hs hw).mono ?_;rintro e w2 ⟨k,rfl,hk,hK2⟩;have KW := hyd hK2;clear hK2) | (go_at_call 81;refine (l5Put_calls q v _ (Cls.keep hs KW.out) hw).mono ?_;rintro e w2 ⟨z1,hz1,rfl,hK2⟩;have KW := hyd (KW.out.trans hK2);clear hK2))
  all_goals
    go_ret
    exact ⟨_,(by (try simp only [ByteArray.size_append]);(try simp only [show (⟨#[]⟩ : ByteArray).size = 0 from rfl]);omega),rfl,KW.out⟩
end Go.Proofs.YtjopkcjpedgoaaaGreatDoor

/- The reference's scope of a clause; of a question. The reference's text of a question. -/
import Derived.Test.YtjopkcjpedgoaaaGreatDoorMG17
import Derived.Test.YtjopkcjpedgoaaaGreatDoorMG9
import Derived.Test.YtjopkcjpedgoaaaGreatDoorMG12
/- The reference's scope of a clause;of a question. -/
namespace Go.Proofs.YtjopkcjpedgoaaaGreatDoor
open Go.RowKit
set_option linter.unusedVariables false
set_option linter.unusedSimpArgs false
set_option maxRecDepth 20000
set_option maxHeartbeats 4000000
theorem clause_calls (n g : Nat) (x : Cl) (cs : List Value) (w : World) (hn9 : n ≤ 700) (h : Scp n w g) (hs : ClR w (But g) x cs) (hw : WfCl x) : Calls Tryz.prog 105 #[.pointer (some ⟨g,0,none⟩),.agg cs.toArray] w (GotScp (n + 10) g w) := by
  by_cases k1 : x.kind = 1
  · exact clause_k1 n g x cs w hn9 h hs hw k1
  by_cases k2 : x.kind = 2
  · exact clause_k2 n g x cs w hn9 h hs hw k2
  by_cases k7 : x.kind = 7
  · exact clause_k7 n g x cs w hn9 h hs hw k7
  by_cases k3 : x.kind = 3
  · exact clause_k3 n g x cs w hn9 h hs hw k3
  by_cases k4 : x.kind = 4
  · exact clause_k4 n g x cs w hn9 h hs hw k4
  by_cases k5 : x.kind = 5
  · exact clause_k5 n g x cs w hn9 h hs hw k5
  by_cases k6 : x.kind = 6
  · exact clause_k6 n g x cs w hn9 h hs hw k6
  by_cases k8 : x.kind = 8
  · exact clause_k8 n g x cs w hn9 h hs hw k8
  by_cases k9 : x.kind = 9
  · exact clause_k9 n g x cs w hn9 h hs hw k9
  exact clause_k0 n g x cs w hn9 h hs hw (by omega)
theorem l5Ends_calls (k : Int) (w : World) : Calls Tryz.prog 104 #[.int .i64 k] w (fun e w' => ∃ b : Bool,e = .returned (.bool b) ∧ w = w') := by
  go_enter Tryz.func104,Tryz.ntmps104
  go_wp2_with (go_at_call 41;refine (inB k 6 9 _).mono ?_;rintro e w2 ⟨b,rfl,rfl⟩)
  go_ret
  exact ⟨_,rfl,rfl⟩
def SomeI (w : World) (e : Ending) (w' : World) : Prop := ∃ k : Int,e = .returned (.int .i64 k) ∧ I64 k ∧ Keep Any w w'
theorem QueryCheck_calls (q : List Cl) (v : Value) (w : World) (hs : Cls w Any v q) (hw : WfQ q) : Calls Tryz.prog 80 #[v] w (SomeI w) := by
  have HL := hyd hs
  have WQ := hyd hw
  have hq6 : q.length ≤ 6 := hw.1
  obtain ⟨a,c,rfl,hc,hm,_⟩ := hs
  clear hw
  go_enter Tryz.func80,Tryz.ntmps80
  go_wp2_with (go_at_call 41;refine (inB (q.length : Int) 1 8 _).mono ?_;rintro e w2 ⟨b,rfl,rfl⟩;cases b)
  · go_ret
    exact ⟨1,rfl,⟨by decide,by decide⟩,Keep.refl _ _⟩
  go_loopg [3] (q.length + 1) (fun gg i wr => ∃ k : Nat,k ≤ q.length ∧ i = .int .i64 k ∧ gg = q.length + 1 - k ∧ Keep Any w wr)
  case atStart => exact ⟨0,by omega,rfl,rfl,Keep.refl _ _⟩
  case round =>
    obtain ⟨k,hk,rfl,hg,hK⟩ := hrel
    have HG := hyd hg
    have KW := hyd hK
    clear hg hK
    by_cases hlt : k < q.length
    · have hx : q[k]? = some q[k] := List.getElem?_eq_getElem hlt
      have WX := hyd (WQ.out.2 _ (List.mem_of_getElem? hx))
      obtain ⟨adz,csz,e,hlz,FX⟩ := cls_row HL.out hx
      have FX := hyd FX
      cases e
      generalize q[k] = z at *
      clear hx
      obtain ⟨hvz,cz0,hcz⟩ := FX.out _ KW.out
      have Hhvz := hyd hvz
      have HCZ := hyd hcz
      have HLZ := hyd (show (Tryz.prog.info? 122).map (·.size) = some csz.length by rw [hlz];exact infoCl)
      clear hvz hcz hlz
      have k0 : (0 : Int) ≤ (k : Int) := by omega
      have k1 : (k : Int) < (q.length : Int) := by omega
      go_wp2_with (first | (refine wpList_load_at rfl 122 (.tmp 20) rfl (adz.add (k * 19)) rfl csz _ HCZ.out Tryz.underlying122 rfl HLZ.out ?_) | (go_at_call 103;refine (l5Form_calls z csz _ Hhvz.out WX.out).mono ?_;rintro e w2 ⟨b,rfl,hK2⟩;have KW := hyd (KW.out.trans hK2);clear hK2;cases b))
      · go_ret
        exact ⟨1,rfl,⟨by decide,by decide⟩,KW.out⟩
      · go_roundg (gk - 1)
        case rel => exact ⟨k + 1,by omega,by go_num,by have := HG.out;omega,KW.out⟩
        case measure => have := HG.out;omega
    · go_wp2
      obtain ⟨wz,hwz⟩ : ∃ wz,wz = wr := ⟨_,rfl⟩
      subst hwz
      clear HG
      go_loopg [4] (q.length + 1) (fun gg i wr => ∃ k : Nat,k ≤ q.length ∧ i = .int .i64 k ∧ gg = q.length + 1 - k ∧ wr = wz)
      case atStart => exact ⟨0,by omega,rfl,rfl,rfl⟩
      case round =>
        clear hlt hk
        obtain ⟨k,hk,rfl,hg,rfl⟩ := hrel
        have HG := hyd hg
        clear hg
        by_cases hlt : k < q.length
        · have hx : q[k]? = some q[k] := List.getElem?_eq_getElem hlt
          have WX := hyd (WQ.out.2 _ (List.mem_of_getElem? hx))
          obtain ⟨adz,csz,e,hlz,FX⟩ := cls_row HL.out hx
          have FX := hyd FX
          cases e
          generalize q[k] = z at *
          clear hx
          obtain ⟨hvz,cz0,hcz⟩ := FX.out _ KW.out
          have Hhvz := hyd hvz
          have HCZ := hyd hcz
          have HLZ := hyd (show (Tryz.prog.info? 122).map (·.size) = some csz.length by rw [hlz];exact infoCl)
          clear hvz hcz hlz
          have k0 : (0 : Int) ≤ (k : Int) := by omega
          have k1 : (k : Int) < (q.length : Int) := by omega
          have e1 : IntKind.i64.wrap ((q.length : Int) - 1) = (q.length : Int) - 1 := IntWalk.i64_in _ ⟨by omega,by omega⟩
          obtain ⟨tl,htl⟩ : ∃ t,((k : Int) == (q.length : Int) - 1) = t := ⟨_,rfl⟩
          obtain ⟨t6,ht6⟩ : ∃ t,(z.kind == 6) = t := ⟨_,rfl⟩
          cases tl
          all_goals cases t6
          all_goals
            go_wp2_with (go_at_call 104;refine (l5Ends_calls z.kind _).mono ?_;rintro e w2 ⟨b,rfl,hw⟩;have hw := hw.symm;subst hw;cases b)
          all_goals first
            | (go_ret
               exact ⟨2,rfl,⟨by decide,by decide⟩,KW.out⟩)
            | (go_roundg (gk - 1)
               case rel => exact ⟨k + 1,by omega,by go_num,by have := HG.out;omega,rfl⟩
               case measure => have := HG.out;omega)
        · obtain ⟨wq,hwq⟩ : ∃ x,x = wr := ⟨_,rfl⟩
          rw [← hwq] at KW ⊢
          have KZ := hyd ((Keep.refl (But wq.heap.size) wq).alloc (.cells #[.slice none 0 0,.int .i64 0] 147 (0,0)))
          have S0 := hyd (show Scp 0 (wq.alloc (.cells #[.slice none 0 0,.int .i64 0] 147 (0,0))) wq.heap.size from ⟨_,[],0,blk_new _ _,⟨none,0,rfl,Nat.le_refl _,by decide,fun h => absurd rfl h⟩,Nat.le_refl _,(fun x hx => by cases hx),⟨by decide,by decide⟩⟩)
          have HLG := hyd (show Cls wq (But wq.heap.size) _ q from Cls.mono (Cls.keep HL.out KW.out) (fun k hk _ => by show k ≠ wq.heap.size;omega))
          clear hwq HG
          go_wp2
          clear hlt hk
          go_loopg [7] (q.length + 1) (fun gg i wr => ∃ k : Nat,k ≤ q.length ∧ i = .int .i64 k ∧ gg = q.length + 1 - k ∧ Scp (10 * k) wr wq.heap.size ∧ Keep (But wq.heap.size) wq wr)
          case atStart => exact ⟨0,by omega,rfl,rfl,S0.out,KZ.out⟩
          case round =>
            obtain ⟨k,hk,rfl,hg,hS,hK⟩ := hrel
            have K0 := hyd KW.out
            clear KW KZ S0
            have HG := hyd hg
            have KW := hyd hK
            have SC := hyd hS
            clear hg hK hS
            by_cases hlt : k < q.length
            · have hx : q[k]? = some q[k] := List.getElem?_eq_getElem hlt
              have WX := hyd (WQ.out.2 _ (List.mem_of_getElem? hx))
              obtain ⟨adz,csz,e,hlz,FX⟩ := cls_row HLG.out hx
              have FX := hyd FX
              cases e
              generalize q[k] = z at *
              clear hx
              obtain ⟨hvz,cz0,hcz⟩ := FX.out _ KW.out
              have Hhvz := hyd hvz
              have HCZ := hyd hcz
              have HLZ := hyd (show (Tryz.prog.info? 122).map (·.size) = some csz.length by rw [hlz];exact infoCl)
              clear hvz hcz hlz
              have k0 : (0 : Int) ≤ (k : Int) := by omega
              have k1 : (k : Int) < (q.length : Int) := by omega
              go_wp2_with (first | (refine wpList_load_at rfl 122 (.tmp 68) rfl (adz.add (k * 19)) rfl csz _ HCZ.out Tryz.underlying122 rfl HLZ.out ?_) | (go_at_call 105;refine (clause_calls (10 * k) wq.heap.size z csz _ (by omega) SC.out Hhvz.out WX.out).mono ?_;rintro e w2 ⟨rfl,hS2,hK2⟩;have SC := hyd hS2;clear hS2;have KW := hyd (KW.out.trans hK2);clear hK2))
              go_roundg (gk - 1)
              case rel => exact ⟨k + 1,by omega,by go_num,by have := HG.out;omega,SC.out.up (by omega),KW.out⟩
              case measure => have := HG.out;omega
            · obtain ⟨v,l,cd,hb,_,_,_,hcd⟩ := SC.out
              have x1 := (blk_cell hb 1).trans rfl
              have zg := blk_lt hb
              go_wp2
              go_ret
              exact ⟨cd,rfl,hcd,K0.out.then KW.out (fun i hi _ => by show i ≠ wq.heap.size;have := K0.out.size;omega)⟩

/- The reference's text of a question. -/
set_option maxRecDepth 20000
set_option maxHeartbeats 4000000
theorem l5PutClause_calls (x : Cl) (cs : List Value) (w : World) (hs : ClR w Any x cs) (hw : WfCl x) : Calls Tryz.prog 106 #[.agg cs.toArray] w (SomeT 2000000000 w) := by
  by_cases k1 : x.kind = 1
  · exact l5PutClause_k1 x cs w hs hw k1
  by_cases k2 : x.kind = 2
  · exact l5PutClause_k2 x cs w hs hw k2
  by_cases k7 : x.kind = 7
  · exact l5PutClause_k7 x cs w hs hw k7
  by_cases k3 : x.kind = 3
  · exact l5PutClause_k3 x cs w hs hw k3
  by_cases k4 : x.kind = 4
  · exact l5PutClause_k4 x cs w hs hw k4
  by_cases k5 : x.kind = 5
  · exact l5PutClause_k5 x cs w hs hw k5
  by_cases k6 : x.kind = 6
  · exact l5PutClause_k6 x cs w hs hw k6
  exact l5PutClause_k0 x cs w hs hw (by omega)
theorem l5Put_calls (q : List Cl) (v : Value) (w : World) (hs : Cls w Any v q) (hw : WfQ q) : Calls Tryz.prog 81 #[v] w (SomeT 13000000000 w) := by
  have HL := hyd hs
  have WQ := hyd hw
  have hq6 : q.length ≤ 6 := hw.1
  obtain ⟨a,c,rfl,hc,hm,_⟩ := hs
  clear hw
  go_enter Tryz.func81,Tryz.ntmps81
  go_wp2
  go_loopg [3,4] (q.length + 1) (fun g o i wr => ∃ (k : Nat) (t : ByteArray),k ≤ q.length ∧ o = .string t ∧ i = .int .i64 k ∧ g = q.length + 1 - k ∧ t.size ≤ k * 2000000001 ∧ Keep Any w wr)
  case atStart => exact ⟨0,⟨#[]⟩,by omega,rfl,rfl,rfl,by decide,Keep.refl _ _⟩
  case round =>
    obtain ⟨k,t,hk,rfl,rfl,hg,hT,hK⟩ := hrel
    have HG := hyd hg
    have KW := hyd hK
    clear hg hK
    by_cases hlt : k < q.length
    · have hx : q[k]? = some q[k] := List.getElem?_eq_getElem hlt
      have WX := hyd (WQ.out.2 _ (List.mem_of_getElem? hx))
      obtain ⟨adz,csz,e,hlz,FX⟩ := cls_row HL.out hx
      have FX := hyd FX
      cases e
      generalize q[k] = z at *
      clear hx
      obtain ⟨hvz,cz0,hcz⟩ := FX.out _ KW.out
      have Hhvz := hyd hvz
      have HCZ := hyd hcz
      have HLZ := hyd (show (Tryz.prog.info? 122).map (·.size) = some csz.length by rw [hlz];exact infoCl)
      clear hvz hcz hlz
      have k0 : (0 : Int) ≤ (k : Int) := by omega
      have k1 : (k : Int) < (q.length : Int) := by omega
      obtain ⟨tp,htp⟩ : ∃ t,decide (0 < k) = t := ⟨_,rfl⟩
      have n1 : ¬ 9223372036854775807 < t.size + 1 := by omega
      go_upto_if 12 with fail
      go_cut [3] from 13 to 14 (fun v wc => ∃ y : ByteArray,v = .string y ∧ y.size ≤ t.size + 1 ∧ wr = wc)
      case first =>
        cases tp
        all_goals
          go_wp2
          go_meet
          exact ⟨_,rfl,(by (try simp only [ByteArray.size_append]);(try simp only [show (⟨#[32]⟩ : ByteArray).size = 1 from rfl]);omega),rfl⟩
      case rest =>
      obtain ⟨t1,rfl,ht1,hw⟩ := hcut
      subst hw
      go_wp2_with (first | (refine wpList_load_at rfl 122 (.tmp 18) rfl (adz.add (k * 19)) rfl csz _ HCZ.out Tryz.underlying122 rfl HLZ.out ?_) | (go_at_call 106;refine (l5PutClause_calls z csz _ Hhvz.out WX.out).mono ?_;rintro e w2 ⟨z1,hz1,rfl,hK2⟩;have KW := hyd (KW.out.trans hK2);clear hK2;have n2 : ¬ 9223372036854775807 < t1.size + z1.size := (by omega)))
      go_roundg (gk - 1)
      case rel => exact ⟨k + 1,_,by omega,rfl,by go_num,by have := HG.out;omega,(by (try simp only [ByteArray.size_append]);(try simp only [show (⟨#[32]⟩ : ByteArray).size = 1 from rfl]);omega),KW.out⟩
      case measure => have := HG.out;omega
    · go_wp2
      go_ret
      exact ⟨_,by omega,rfl,KW.out⟩
theorem QueryPut_calls (q : List Cl) (v : Value) (w : World) (hs : Cls w Any v q) (hw : WfQ q) : Calls Tryz.prog 62 #[v] w (SomeT 13000000000 w) := by
  go_enter Tryz.func62,Tryz.ntmps62
  go_wp2_with (first | (go_at_call 80;refine (QueryCheck_calls q v _ hs hw).mono ?_;rintro e w2 ⟨k,rfl,hk,hK2⟩;have KW := hyd hK2;clear hK2) | (go_at_call 81;refine (l5Put_calls q v _ (Cls.keep hs KW.out) hw).mono ?_;rintro e w2 ⟨z1,hz1,rfl,hK2⟩;have KW := hyd (KW.out.trans hK2);clear hK2))
  all_goals
    go_ret
    exact ⟨_,(by (try simp only [ByteArray.size_append]);(try simp only [show (⟨#[]⟩ : ByteArray).size = 0 from rfl]);omega),rfl,KW.out⟩
end Go.Proofs.YtjopkcjpedgoaaaGreatDoor

/- The program's reading of a value, at each depth. For every text of at most 2^61 bytes. Which values are ok: the reference's ValueOk. For every value. The reference's l4Ok, ExprOk, l5Top, l5None come to some answer, for every expression that is well made. The reference's ExprOk, l5Top, l5None, l5Maybe come to some answer, for every expression that is well made. The reference's checks of the parts of a clause come to some answer, for all that is well made. The reference's text of a question's parts, for all that is well made: some text of bounded size. The reference's text of columns. -/
import Derived.Test.YtjopkcjpedgoaaaGreatDoorMG6
import Derived.Test.YtjopkcjpedgoaaaGreatDoorMG7
import Derived.Test.YtjopkcjpedgoaaaGreatDoorMG4
import Derived.Deep.QuietTactic
import Derived.IntWalk
import Derived.Test.YtjopkcjpedgoaaaGreatDoorMGAt
import Derived.Test.YtjopkcjpedgoaaaGreatDoorMG2
import Derived.Test.YtjopkcjpedgoaaaGreatDoorMG5
import Derived.Test.YtjopkcjpedgoaaaGreatDoorMG1
import Derived.Test.YtjopkcjpedgoaaaGreatDoorMG0
/- The program's reading of a value,at each depth. For every text of at most 2^61 bytes. -/
namespace Go.Proofs.YtjopkcjpedgoaaaGreatDoor
open Go.RowKit
set_option linter.unusedVariables false
set_option linter.unusedSimpArgs false
theorem rdV_zero : RdV 0 := by
  intro t a w ha ht
  obtain ⟨s,he⟩ : ∃ s,t.extract a t.size = s := ⟨_,rfl⟩
  go_enter Tryz.func71,Tryz.ntmps71
  go_wp2
  refine bodyPost_ret (v := .tuple #[.agg #[.int .i64 0,.int .i64 0,.string ⟨#[]⟩,.slice none 0 0],.int .i64 (-1)]) (by simp [results,Tryz.results71,go_sem]) rfl ?_
  exact ⟨⟨0,0,⟨#[]⟩,[]⟩,none,0,(-1),rfl,(Keep.refl _ _).alloc _,SV_flat _ _ _ _ _ (show I64 0 from ⟨by decide,by decide⟩) (show I64 0 from ⟨by decide,by decide⟩) fits_nil,.inl ⟨rfl,rfl⟩⟩
theorem rdV_all (d : Nat) : d ≤ 3 → RdV d := by
  induction d with
  | zero => intro _;exact rdV_zero
  | succ d ih => intro h;exact valueAt_of d (by omega) (ih (by omega))
theorem valueAt3 : RdV 3 := rdV_all 3 (by omega)
theorem VR.any {w : World} {ok : Nat → Prop} {v : V} {cs : List Value} (h : VR w ok v cs) : VR w Any v cs := h.mono fun _ _ _ => trivial
theorem at4 {w : World} {g : Nat} {T : TypeId} {a b c d : Value} (h : w.heap[g]? = some (.cells #[a,b,c,d] T (0,0))) : w.cell? ⟨g,0,none⟩ = some a ∧ w.cell? ⟨g,1,none⟩ = some b ∧ w.cell? ⟨g,2,none⟩ = some c ∧ w.cell? ⟨g,3,none⟩ = some d :=
  ⟨(blk_cell h 0).trans rfl,(blk_cell h 1).trans rfl,(blk_cell h 2).trans rfl,(blk_cell h 3).trans rfl⟩
def GotVG (o : Option V) (w : World) (e : Ending) (w' : World) : Prop :=
  Keep Any w w' ∧ ((o = none ∧ e = .returned (.tuple #[.agg #[.int .i64 0,.int .i64 0,.string ⟨#[]⟩,.slice none 0 0],.bool false])) ∨
    ∃ (v : V) (a : Option Addr) (c : Nat),o = some v ∧ e = .returned (.tuple #[.agg #[.int .i64 v.kind,.int .i64 v.num,.string v.text,.slice a v.list.length c],.bool true]) ∧ SV w' (Mid w.heap.size w'.heap.size) v [.int .i64 v.kind,.int .i64 v.num,.string v.text,.slice a v.list.length c])

/- Which values are ok: the reference's ValueOk. For every value. -/

theorem specValueOk_calls (v : V) (cs : List Value) (w : World) (hv : VR w Any v cs) : Calls Tryz.prog 74 #[.agg cs.toArray] w (Tells (okV 3 v) w) := by
  have IH := hyd fun w => l1Ok_calls 3 v cs w
  have HV := hyd hv
  obtain ⟨s,rfl,_⟩ := VR.iff.1 hv
  clear hv
  go_enter Tryz.func74,Tryz.ntmps74
  go_wp2_with (go_at_call 97;refine (IH.out _ (HV.out.keep ((Keep.refl _ _).alloc _)) (by omega) (by omega)).mono ?_;rintro e w' ⟨rfl,hK⟩)
  go_ret
  exact ⟨rfl,((Keep.refl _ _).alloc _).trans hK⟩

/- The reference's l4Ok,ExprOk,l5Top,l5None come to some answer,for every expression that is well made. -/
set_option maxRecDepth 20000
set_option maxHeartbeats 4000000
theorem SomeB.of {b : Bool} {w : World} {e : Ending} {w' : World} (h : Tells b w e w') : SomeB w e w' := ⟨b,h.1,h.2⟩
theorem nameB (t : ByteArray) (w : World) (hs : t.size ≤ 9223372036854775807) : Calls Tryz.prog 56 #[.string t] w (SomeB w) := (l2Name_calls t w hs).mono fun _ _ h => SomeB.of h
theorem okB (v : V) (cs : List Value) (w : World) (h : VR w Any v cs) : Calls Tryz.prog 74 #[.agg cs.toArray] w (SomeB w) := (specValueOk_calls v cs w h).mono fun _ _ h => SomeB.of h
theorem litB (v : V) (cs : List Value) (w : World) (h : VR w Any v cs) : Calls Tryz.prog 158 #[.agg cs.toArray] w (SomeB w) := l4Lit_calls v.w v cs w (Nat.le_refl _) h
theorem sameB (v v' : V) (cs cs' : List Value) (w : World) (h : VR w Any v cs) (h' : VR w Any v' cs') : Calls Tryz.prog 146 #[.agg cs.toArray,.agg cs'.toArray] w (SomeB w) := l1Same_calls v.w v v' cs cs' w (Nat.le_refl _) h h'
theorem VR.zero (w : World) : VR w Any ⟨0,0,⟨#[]⟩,[]⟩ [.int .i64 0,.int .i64 0,.string ⟨#[]⟩,.slice none 0 0] :=
  VR.iff.2 ⟨_,rfl,⟨by decide,by decide⟩,⟨by decide,by decide⟩,by unfold Fits;decide,none,0,rfl,Nat.le_refl _,by decide,fun h => absurd rfl h⟩
theorem l4Ok_calls (m : Nat) : ∀ (v : Ex) (cs : List Value) (d : Int) (w : World),0 ≤ d → d ≤ 100 → Wf m v → ER w Any v cs → Calls Tryz.prog 149 #[.agg cs.toArray,.int .i64 d] w (SomeB w) := by
  induction m with
  | zero => intro v cs d w _ _ h;exact h.elim
  | succ m ih =>
  intro v cs d w hd0 hd1 hw hv
  have IH := hyd ih
  obtain ⟨va,vc,s,rfl,h1,hvv,h3,h4,hs⟩ := ER.iff.1 hv
  have HS := hyd hs
  have HVV := hyd hvv
  have HW := hyd (fun (j : Nat) (x : Ex) (h : v.parts[j]? = some x) => hw.2.2.2.2.2.2 x (List.mem_of_getElem? h))
  obtain ⟨kind,val,name,key,list⟩ := v
  simp only at *
  obtain ⟨a,c,rfl,hc,hm,_⟩ := hs
  unfold Fits at h3 h4
  clear ih hv hw hvv
  have AR := hyd (fun k w => (l4Arity_calls k w).mono fun e w' h => (⟨h.1,h.2.symm⟩ : e = .returned (.int .i64 (arI k)) ∧ w' = w))
  go_enter Tryz.func149,Tryz.ntmps149
  go_upto_region 1 with fail
  have KW := hyd ((Keep.refl Any w).alloc (.cells #[.int .i64 kind,.int .i64 val.kind,.int .i64 val.num,.string val.text,.slice va val.list.length vc,.string name,.string key,.slice a list.length c] 117 (0,0)))
  have BX := hyd (blk_new w (.cells #[.int .i64 kind,.int .i64 val.kind,.int .i64 val.num,.string val.text,.slice va val.list.length vc,.string name,.string key,.slice a list.length c] 117 (0,0)))
  obtain ⟨y0,y1,y2,y3,y4,y5,y6,y7⟩ := at8c BX.out
  go_cut [5] from 10 to 33 (fun v wc => ∃ b : Bool,v = .bool b ∧ wc.heap[w.heap.size]? = some (.cells #[.int .i64 kind,.int .i64 val.kind,.int .i64 val.num,.string val.text,.slice va val.list.length vc,.string name,.string key,.slice a list.length c] 117 (0,0)) ∧ Keep Any w wc)
  case first =>
    by_cases k1 : kind = 1
    · subst k1
      go_wp2_with (first | (go_at_call 74;refine (okB val _ _ (HVV.out.keep KW.out)).mono ?_;rintro e w2 ⟨b,rfl,hK2⟩;have KW := hyd (KW.out.trans hK2);have BX := hyd (blk_keep hK2 BX.out trivial);obtain ⟨y0,y1,y2,y3,y4,y5,y6,y7⟩ := at8c BX.out;clear hK2;cases b) | (go_at_call 158;refine (litB val _ _ (HVV.out.keep KW.out)).mono ?_;rintro e w2 ⟨b,rfl,hK2⟩;have KW := hyd (KW.out.trans hK2);have BX := hyd (blk_keep hK2 BX.out trivial);obtain ⟨y0,y1,y2,y3,y4,y5,y6,y7⟩ := at8c BX.out;clear hK2;cases b) | (go_at_call 146;refine (sameB val _ _ _ _ (HVV.out.keep KW.out) (VR.zero _)).mono ?_;rintro e w2 ⟨b,rfl,hK2⟩;have KW := hyd (KW.out.trans hK2);have BX := hyd (blk_keep hK2 BX.out trivial);obtain ⟨y0,y1,y2,y3,y4,y5,y6,y7⟩ := at8c BX.out;clear hK2;cases b))
      all_goals
        go_meet
        exact ⟨_,rfl,BX.out,KW.out⟩
    · have q1 : (kind == 1) = false := by rw [beq_eq_false_iff_ne];exact k1
      have q2 : (kind != 1) = true := by rw [bne_iff_ne];exact k1
      go_wp2_with (first | (go_at_call 74;refine (okB val _ _ (HVV.out.keep KW.out)).mono ?_;rintro e w2 ⟨b,rfl,hK2⟩;have KW := hyd (KW.out.trans hK2);have BX := hyd (blk_keep hK2 BX.out trivial);obtain ⟨y0,y1,y2,y3,y4,y5,y6,y7⟩ := at8c BX.out;clear hK2;cases b) | (go_at_call 158;refine (litB val _ _ (HVV.out.keep KW.out)).mono ?_;rintro e w2 ⟨b,rfl,hK2⟩;have KW := hyd (KW.out.trans hK2);have BX := hyd (blk_keep hK2 BX.out trivial);obtain ⟨y0,y1,y2,y3,y4,y5,y6,y7⟩ := at8c BX.out;clear hK2;cases b) | (go_at_call 146;refine (sameB val _ _ _ _ (HVV.out.keep KW.out) (VR.zero _)).mono ?_;rintro e w2 ⟨b,rfl,hK2⟩;have KW := hyd (KW.out.trans hK2);have BX := hyd (blk_keep hK2 BX.out trivial);obtain ⟨y0,y1,y2,y3,y4,y5,y6,y7⟩ := at8c BX.out;clear hK2;cases b))
      all_goals
        go_meet
        exact ⟨_,rfl,BX.out,KW.out⟩
  case rest =>
    obtain ⟨b5,rfl,hB,hK⟩ := hcut
    have KW := hyd hK
    have BX := hyd hB
    clear hK hB
    obtain ⟨y0,y1,y2,y3,y4,y5,y6,y7⟩ := at8c BX.out
    go_upto_region 2 with fail
    go_cut [6] from 34 to 46 (fun v wc => ∃ b : Bool,v = .bool b ∧ wc.heap[w.heap.size]? = some (.cells #[.int .i64 kind,.int .i64 val.kind,.int .i64 val.num,.string val.text,.slice va val.list.length vc,.string name,.string key,.slice a list.length c] 117 (0,0)) ∧ Keep Any w wc)
    case first =>
      obtain ⟨t2,ht2⟩ : ∃ t,(kind == 2) = t := ⟨_,rfl⟩
      obtain ⟨t3,ht3⟩ : ∃ t,(kind == 3) = t := ⟨_,rfl⟩
      obtain ⟨t4,ht4⟩ : ∃ t,(kind == 4) = t := ⟨_,rfl⟩
      go_wp2
      all_goals
        go_meet
        exact ⟨_,rfl,BX.out,KW.out⟩
    case rest =>
      obtain ⟨b6,rfl,hB,hK⟩ := hcut
      have KW := hyd hK
      have BX := hyd hB
      clear hK hB
      obtain ⟨y0,y1,y2,y3,y4,y5,y6,y7⟩ := at8c BX.out
      go_upto_region 3 with fail
      go_cut [7] from 47 to 61 (fun v wc => ∃ b : Bool,v = .bool b ∧ wc.heap[w.heap.size]? = some (.cells #[.int .i64 kind,.int .i64 val.kind,.int .i64 val.num,.string val.text,.slice va val.list.length vc,.string name,.string key,.slice a list.length c] 117 (0,0)) ∧ Keep Any w wc)
      case first =>
        cases b6
        all_goals
          go_wp2_with (go_at_call 56;refine (nameB name _ h3).mono ?_;rintro e w2 ⟨b,rfl,hK2⟩;have KW := hyd (KW.out.trans hK2);have BX := hyd (blk_keep hK2 BX.out trivial);obtain ⟨y0,y1,y2,y3,y4,y5,y6,y7⟩ := at8c BX.out;clear hK2;cases b)
          all_goals
            go_meet
            exact ⟨_,rfl,BX.out,KW.out⟩
      case rest =>
        obtain ⟨b7,rfl,hB,hK⟩ := hcut
        have KW := hyd hK
        have BX := hyd hB
        clear hK hB
        obtain ⟨y0,y1,y2,y3,y4,y5,y6,y7⟩ := at8c BX.out
        go_upto_region 4 with fail
        go_cut [8] from 62 to 79 (fun v wc => ∃ b : Bool,v = .bool b ∧ wc.heap[w.heap.size]? = some (.cells #[.int .i64 kind,.int .i64 val.kind,.int .i64 val.num,.string val.text,.slice va val.list.length vc,.string name,.string key,.slice a list.length c] 117 (0,0)) ∧ Keep Any w wc)
        case first =>
          obtain ⟨t3,ht3⟩ : ∃ t,(kind == 3) = t := ⟨_,rfl⟩
          have hu3 : (kind != 3) = !t3 := by rw [bne,ht3]
          cases t3
          all_goals
            go_wp2_with (go_at_call 56;refine (nameB key _ h4).mono ?_;rintro e w2 ⟨b,rfl,hK2⟩;have KW := hyd (KW.out.trans hK2);have BX := hyd (blk_keep hK2 BX.out trivial);obtain ⟨y0,y1,y2,y3,y4,y5,y6,y7⟩ := at8c BX.out;clear hK2;cases b)
            all_goals
              go_meet
              exact ⟨_,rfl,BX.out,KW.out⟩
        case rest =>
          obtain ⟨b8,rfl,hB,hK⟩ := hcut
          have KW := hyd hK
          have BX := hyd hB
          clear hK hB
          obtain ⟨y0,y1,y2,y3,y4,y5,y6,y7⟩ := at8c BX.out
          obtain ⟨td,htd⟩ : ∃ t,decide (d < 1) = t := ⟨_,rfl⟩
          cases td
          case true =>
            go_wp2
            go_quiet (fail)
            go_wp2
            go_ret
            exact ⟨_,rfl,by first | exact KW.out | exact KW.out.drewN _⟩
          have DD := hyd (show 0 ≤ d - 1 ∧ d - 1 ≤ 100 by have := of_decide_eq_false htd;omega)
          cases b5
          case false =>
            go_wp2
            go_quiet (fail)
            go_wp2
            go_ret
            exact ⟨_,rfl,by first | exact KW.out | exact KW.out.drewN _⟩
          cases b7
          case false =>
            go_wp2
            go_quiet (fail)
            go_wp2
            go_ret
            exact ⟨_,rfl,by first | exact KW.out | exact KW.out.drewN _⟩
          cases b8
          case false =>
            go_wp2
            go_quiet (fail)
            go_wp2
            go_ret
            exact ⟨_,rfl,by first | exact KW.out | exact KW.out.drewN _⟩
          obtain ⟨ta,hta⟩ : ∃ t,((list.length : Int) != arI kind) = t := ⟨_,rfl⟩
          cases ta
          case true =>
            go_wp2
            go_quiet ((go_at_call 109;exact Calls.quiet_of_same (AR.out _ _)))
            go_wp2
            go_ret
            exact ⟨_,rfl,by first | exact KW.out | exact KW.out.drewN _⟩
          have d3 : IntKind.i64.wrap (d - 1) = d - 1 := by rw [IntWalk.i64_in _ (by omega)]
          have HD := hyd d3
          clear d3
          go_wp2
          go_quiet ((go_at_call 109;exact Calls.quiet_of_same (AR.out _ _)))
          go_wp2
          go_loopg [9] (list.length + 1) (fun g i wr => ∃ k : Nat,k ≤ list.length ∧ i = .int .i64 k ∧ g = list.length + 1 - k ∧ wr.cell? ⟨w.heap.size,7,none⟩ = some (.slice a list.length c) ∧ Keep Any w wr)
          case atStart => exact ⟨0,by omega,rfl,rfl,y7,KW.out.drewN _⟩
          case round =>
            obtain ⟨k,hk,rfl,hg,z7,hK⟩ := hrel
            have Z7 := hyd z7
            have HG := hyd hg
            have HK := hyd hK
            clear hg
            by_cases hlt : k < list.length
            · have hx : list[k]? = some list[k] := List.getElem?_eq_getElem hlt
              have HX := hyd (HW.out _ _ hx)
              obtain ⟨ad,xa,xc,pa,pc,rfl,hvx,c0,c1,c2,c3,c4,c5,c6,c7⟩ := exs_at HS.out hK hx
              generalize list[k] = x at *
              have HV := hyd hvx
              clear hx hvx hK
              go_wp2_with (first | (go_at_call 149;refine (IH.out _ _ _ _ DD.out.1 DD.out.2 HX.out HV.out).mono ?_;rintro e w2 ⟨b,rfl,hK2⟩;have HK2 := hyd hK2;clear hK2;cases b))
              · go_ret
                exact ⟨_,rfl,HK.out.trans HK2.out⟩
              · go_roundg (gk - 1)
                case rel => exact ⟨k + 1,by omega,by go_num,by have := HG.out;omega,HK2.out.cell Z7.out trivial,HK.out.trans HK2.out⟩
                case measure => have := HG.out;omega
            · clear hK
              go_wp2
              go_ret
              exact ⟨_,rfl,HK.out⟩

/- The reference's ExprOk,l5Top,l5None,l5Maybe come to some answer,for every expression that is well made. -/
set_option maxRecDepth 20000
set_option maxHeartbeats 1000000
theorem ExprOk_calls (d : Nat) (v : Ex) (cs : List Value) (w : World) (hd : d ≤ 5) (hw : Wf d v) (hv : ER w Any v cs) : Calls Tryz.prog 125 #[.agg cs.toArray] w (SomeB w) := by
  have HX := hyd hv
  have HWF := hyd hw
  obtain ⟨d,rfl⟩ : ∃ e,d = e + 1 := ⟨d - 1,by cases d with | zero => exact hw.elim | succ d => rfl⟩
  obtain ⟨va,vc,s,rfl,h1,hvv,h3,h4,hs⟩ := ER.iff.1 hv
  have HS := hyd hs
  have HVV := hyd hvv
  obtain ⟨g1,g2,g3,g4,g5,g6,g7⟩ := hw
  have G6 := hyd g6
  have G7 := hyd g7
  obtain ⟨kind,val,name,key,list⟩ := v
  simp only at *
  obtain ⟨a,c,rfl,hc,hm,_⟩ := hs
  have KW := hyd ((Keep.refl Any w).alloc (.cells #[.int .i64 kind,.int .i64 val.kind,.int .i64 val.num,.string val.text,.slice va val.list.length vc,.string name,.string key,.slice a list.length c] 117 (0,0)))
  have BX := hyd (blk_new w (.cells #[.int .i64 kind,.int .i64 val.kind,.int .i64 val.num,.string val.text,.slice va val.list.length vc,.string name,.string key,.slice a list.length c] 117 (0,0)))
  obtain ⟨y0,y1,y2,y3,y4,y5,y6,y7⟩ := at8c BX.out
  clear hv hvv g1 g6 g7
  go_enter Tryz.func125,Tryz.ntmps125
  go_wp2_with (go_at_call 149;refine (l4Ok_calls (d + 1) ⟨kind,val,name,key,list⟩ _ 4 _ (by decide) (by decide) HWF.out (HX.out.keep KW.out)).mono ?_;rintro e w2 ⟨b,rfl,hK2⟩)
  go_ret
  exact ⟨_,rfl,KW.out.trans hK2⟩
theorem l5Top_calls (d : Nat) (v : Ex) (cs : List Value) (w : World) (hd : d ≤ 5) (hw : Wf d v) (hv : ER w Any v cs) : Calls Tryz.prog 134 #[.agg cs.toArray] w (SomeB w) := by
  have HX := hyd hv
  have HWF := hyd hw
  obtain ⟨d,rfl⟩ : ∃ e,d = e + 1 := ⟨d - 1,by cases d with | zero => exact hw.elim | succ d => rfl⟩
  obtain ⟨va,vc,s,rfl,h1,hvv,h3,h4,hs⟩ := ER.iff.1 hv
  have HS := hyd hs
  have HVV := hyd hvv
  obtain ⟨g1,g2,g3,g4,g5,g6,g7⟩ := hw
  have G6 := hyd g6
  have G7 := hyd g7
  obtain ⟨kind,val,name,key,list⟩ := v
  simp only at *
  obtain ⟨a,c,rfl,hc,hm,_⟩ := hs
  have KW := hyd ((Keep.refl Any w).alloc (.cells #[.int .i64 kind,.int .i64 val.kind,.int .i64 val.num,.string val.text,.slice va val.list.length vc,.string name,.string key,.slice a list.length c] 117 (0,0)))
  have BX := hyd (blk_new w (.cells #[.int .i64 kind,.int .i64 val.kind,.int .i64 val.num,.string val.text,.slice va val.list.length vc,.string name,.string key,.slice a list.length c] 117 (0,0)))
  obtain ⟨y0,y1,y2,y3,y4,y5,y6,y7⟩ := at8c BX.out
  clear hv hvv g1 g6 g7
  by_cases k15 : kind = 15
  · have hl : list.length = 1 := by rw [G6.out,k15];rfl
    have hx : list[0]? = some (list[0]'(by omega)) := List.getElem?_eq_getElem (by omega)
    have hlt : (0 : Int) < (list.length : Int) := by omega
    obtain ⟨ad,xa,xc,pa,pc,rfl,hvx,c0,c1,c2,c3,c4,c5,c6,c7⟩ := exs_at HS.out KW.out hx
    have GX := hyd (G7.out _ (List.mem_of_getElem? hx))
    generalize list[0]'_ = x at *
    replace c0 : World.cell? _ ad = _ := c0
    replace c1 : World.cell? _ ⟨ad.block,ad.off + 1,none⟩ = _ := c1
    replace c2 : World.cell? _ ⟨ad.block,ad.off + 2,none⟩ = _ := c2
    replace c3 : World.cell? _ ⟨ad.block,ad.off + 3,none⟩ = _ := c3
    replace c4 : World.cell? _ ⟨ad.block,ad.off + 4,none⟩ = _ := c4
    replace c5 : World.cell? _ ⟨ad.block,ad.off + 5,none⟩ = _ := c5
    replace c6 : World.cell? _ ⟨ad.block,ad.off + 6,none⟩ = _ := c6
    replace c7 : World.cell? _ ⟨ad.block,ad.off + 7,none⟩ = _ := c7
    have HV := hyd hvx
    have q1 : (kind == 15) = true := by rw [k15];rfl
    clear hx hvx hl k15
    go_enter Tryz.func134,Tryz.ntmps134
    go_wp2_with (go_at_call 151;refine (l5Bare_calls d x _ _ GX.out HV.out).mono ?_;rintro e w2 ⟨b,rfl,hK2⟩)
    go_ret
    exact ⟨_,rfl,KW.out.trans hK2⟩
  · have q1 : (kind == 15) = false := by rw [beq_eq_false_iff_ne];exact k15
    obtain ⟨t2,ht2⟩ : ∃ t,(kind == 14) = t := ⟨_,rfl⟩
    cases t2
    all_goals
      go_enter Tryz.func134,Tryz.ntmps134
      go_wp2_with (go_at_call 151;refine (l5Bare_calls (d + 1) ⟨kind,val,name,key,list⟩ _ _ HWF.out (HX.out.keep KW.out)).mono ?_;rintro e w2 ⟨b,rfl,hK2⟩;have KW := hyd (KW.out.trans hK2);have BX := hyd (blk_keep hK2 BX.out trivial);obtain ⟨y0,y1,y2,y3,y4,y5,y6,y7⟩ := at8c BX.out;clear hK2)
      go_ret
      exact ⟨_,rfl,KW.out⟩
theorem l5None_calls (v : Ex) (cs : List Value) (w : World) (hv : ER w Any v cs) : Calls Tryz.prog 123 #[.agg cs.toArray] w (SomeB w) := by
  obtain ⟨va,vc,s,rfl,h1,hvv,h3,h4,hs⟩ := ER.iff.1 hv
  have HVV := hyd hvv
  obtain ⟨kind,val,name,key,list⟩ := v
  simp only at *
  obtain ⟨a,c,rfl,hc,hm,_⟩ := hs
  have KW := hyd ((Keep.refl Any w).alloc (.cells #[.int .i64 kind,.int .i64 val.kind,.int .i64 val.num,.string val.text,.slice va val.list.length vc,.string name,.string key,.slice a list.length c] 117 (0,0)))
  have BX := hyd (blk_new w (.cells #[.int .i64 kind,.int .i64 val.kind,.int .i64 val.num,.string val.text,.slice va val.list.length vc,.string name,.string key,.slice a list.length c] 117 (0,0)))
  obtain ⟨y0,y1,y2,y3,y4,y5,y6,y7⟩ := at8c BX.out
  clear hv hvv
  obtain ⟨t1,ht1⟩ : ∃ t,(kind == 0) = t := ⟨_,rfl⟩
  obtain ⟨t2,ht2⟩ : ∃ t,(name.toList == ([] : List UInt8)) = t := ⟨_,rfl⟩
  obtain ⟨t3,ht3⟩ : ∃ t,(key.toList == ([] : List UInt8)) = t := ⟨_,rfl⟩
  obtain ⟨t4,ht4⟩ : ∃ t,((list.length : Int) == 0) = t := ⟨_,rfl⟩
  go_enter Tryz.func123,Tryz.ntmps123
  go_wp2_with (go_at_call 146;refine (sameB val _ _ _ _ (HVV.out.keep KW.out) (VR.zero _)).mono ?_;rintro e w2 ⟨b,rfl,hK2⟩;have KW := hyd (KW.out.trans hK2);have BX := hyd (blk_keep hK2 BX.out trivial);obtain ⟨y0,y1,y2,y3,y4,y5,y6,y7⟩ := at8c BX.out;clear hK2;cases b)
  all_goals
    go_ret
    exact ⟨_,rfl,KW.out⟩
theorem l5Maybe_calls (t : ByteArray) (w : World) (hs : t.size ≤ 9223372036854775807) : Calls Tryz.prog 148 #[.string t] w (SomeB w) := by
  obtain ⟨b,hb⟩ : ∃ b,(t.toList == ([] : List UInt8)) = b := ⟨_,rfl⟩
  go_enter Tryz.func148,Tryz.ntmps148
  go_wp2_with (go_at_call 56;refine (nameB t _ hs).mono ?_;rintro e w2 ⟨b,rfl,hK2⟩)
  all_goals
    go_ret
    exact ⟨_,rfl,by first | exact hK2 | exact Keep.refl _ _⟩

/- The reference's checks of the parts of a clause come to some answer,for all that is well made. -/
set_option maxRecDepth 20000
set_option maxHeartbeats 4000000
theorem l5Pats_calls (l : List Pt) (v : Value) (w : World) (hs : Pts w Any v l) (hw : ∀ x,x ∈ l → WfPt x) : Calls Tryz.prog 157 #[v] w (SomeB w) := by
  have HS := hyd hs
  have HW := hyd hw
  obtain ⟨a,c,rfl,hc,hm,_⟩ := hs
  clear hw
  go_enter Tryz.func157,Tryz.ntmps157
  go_wp2
  go_loopg [3] (l.length + 1) (fun g i wr => ∃ k : Nat,k ≤ l.length ∧ i = .int .i64 k ∧ g = l.length + 1 - k ∧ Keep Any w wr)
  case atStart => exact ⟨0,by omega,rfl,rfl,Keep.refl _ _⟩
  case round =>
    obtain ⟨k,hk,rfl,hg,hK⟩ := hrel
    have HG := hyd hg
    have KW := hyd hK
    clear hg hK
    by_cases hlt : k < l.length
    · have hx : l[k]? = some l[k] := List.getElem?_eq_getElem hlt
      have WX := hyd (HW.out _ (List.mem_of_getElem? hx))
      obtain ⟨ad,vax,vcx,pax,pcx,rfl,hFx,FX⟩ := pts_all HS.out hx
      have FX := hyd FX
      generalize l[k] = x at *
      clear hx
      obtain ⟨hvx,cx0,cx1,cx2,cx3,cx4,cx5,cx6,cx7,cx8⟩ := FX.out _ KW.out
      have Hhvx := hyd hvx
      clear hvx
      have k0 : (0 : Int) ≤ (k : Int) := by omega
      have k1 : (k : Int) < (l.length : Int) := by omega
      go_wp2_with (first | (go_at_call 56;refine (nameB _ _ (by first | (have := hFx;unfold Fits at this;omega))).mono ?_;rintro e w2 ⟨b,rfl,hK2⟩;have KW := hyd (KW.out.trans hK2);clear hK2;obtain ⟨hvx,cx0,cx1,cx2,cx3,cx4,cx5,cx6,cx7,cx8⟩ := FX.out _ KW.out;have Hhvx := hyd hvx;clear hvx;cases b) | (go_at_call 125;refine (ExprOk_calls 4 x.ex _ _ (by decide) (WX.out.2) Hhvx.out).mono ?_;rintro e w2 ⟨b,rfl,hK2⟩;have KW := hyd (KW.out.trans hK2);clear hK2;obtain ⟨hvx,cx0,cx1,cx2,cx3,cx4,cx5,cx6,cx7,cx8⟩ := FX.out _ KW.out;have Hhvx := hyd hvx;clear hvx;cases b))
      · go_ret
        exact ⟨_,rfl,KW.out⟩
      · go_ret
        exact ⟨_,rfl,KW.out⟩
      · obtain ⟨gO,hgO⟩ : ∃ y,y = gk := ⟨_,rfl⟩
        subst hgO
        obtain ⟨wy,hwy⟩ : ∃ y,y = w2 := ⟨_,rfl⟩
        go_loopg [4] (k + 1) (fun g i wr => ∃ j : Nat,j ≤ k ∧ i = .int .i64 j ∧ g = k + 1 - j ∧ Keep Any w wr)
        case atStart => exact ⟨0,by omega,rfl,rfl,KW.out⟩
        case round =>
          obtain ⟨j,hj,rfl,hgj,hK⟩ := hrel
          have HJ := hyd hgj
          have KW := hyd hK
          clear hgj hK
          by_cases hlj : j < k
          · have hy : l[j]? = some l[j] := List.getElem?_eq_getElem (by omega)
            obtain ⟨ady,vay,vcy,pay,pcy,e,hFy,FY⟩ := pts_all HS.out hy
            have FY := hyd FY
            cases e
            generalize l[j] = y at *
            clear hy
            obtain ⟨hvx,cx0,cx1,cx2,cx3,cx4,cx5,cx6,cx7,cx8⟩ := FX.out _ KW.out
            have Hhvx := hyd hvx
            clear hvx
            obtain ⟨hvy,cy0,cy1,cy2,cy3,cy4,cy5,cy6,cy7,cy8⟩ := FY.out _ KW.out
            have Hhvy := hyd hvy
            clear hvy
            have j0 : (0 : Int) ≤ (j : Int) := by omega
            have j1 : (j : Int) < (l.length : Int) := by omega
            have j2 : (j : Int) < (k : Int) := by omega
            obtain ⟨t,ht⟩ : ∃ t,(y.name.toList == x.name.toList) = t := ⟨_,rfl⟩
            go_wp2
            go_quiet (fail)
            cases t
            · go_wp2
              go_roundg (gk - 1)
              case rel => exact ⟨j + 1,by omega,by go_num,by have := HJ.out;omega,KW.out.drewN _⟩
              case measure => have := HJ.out;omega
            · go_wp2
              go_ret
              exact ⟨_,rfl,KW.out.drewN _⟩
          · obtain rfl : j = k := by omega
            go_wp2
            go_roundg (gO - 1)
            case rel => exact ⟨j + 1,by omega,by go_num,by have := HG.out;omega,KW.out⟩
            case measure => have := HG.out;omega
    · go_wp2
      go_ret
      exact ⟨_,rfl,KW.out⟩
theorem inB (n a b : Int) (w : World) : Calls Tryz.prog 41 #[.int .i64 n,.int .i64 a,.int .i64 b] w (fun e w' => ∃ b : Bool,e = .returned (.bool b) ∧ w = w') := (l1In_calls n a b w).mono fun _ _ h => ⟨_,h.1,h.2⟩
theorem l5Names_calls (l : List ByteArray) (v : Value) (w : World) (hs : Strs w Any v l) : Calls Tryz.prog 128 #[v] w (SomeB w) := by
  have HS := hyd hs

  obtain ⟨a,c,rfl,hc,hm,_⟩ := hs
  go_enter Tryz.func128,Tryz.ntmps128
  go_wp2
  go_loopg [3] (l.length + 1) (fun g i wr => ∃ k : Nat,k ≤ l.length ∧ i = .int .i64 k ∧ g = l.length + 1 - k ∧ Keep Any w wr)
  case atStart => exact ⟨0,by omega,rfl,rfl,Keep.refl _ _⟩
  case round =>
    obtain ⟨k,hk,rfl,hg,hK⟩ := hrel
    have HG := hyd hg
    have KW := hyd hK
    clear hg hK
    by_cases hlt : k < l.length
    · have hx : l[k]? = some l[k] := List.getElem?_eq_getElem hlt
      have MX := hyd (List.mem_of_getElem? hx)
      obtain ⟨ad,rfl,hFx,FX⟩ := strs_all HS.out hx
      have FX := hyd FX
      generalize l[k] = x at *
      clear hx
      have cx0 := FX.out _ KW.out
      have k0 : (0 : Int) ≤ (k : Int) := by omega
      have k1 : (k : Int) < (l.length : Int) := by omega
      go_wp2_with (go_at_call 56;refine (nameB _ _ (by first | (have := hFx;unfold Fits at this;omega))).mono ?_;rintro e w2 ⟨b,rfl,hK2⟩;have KW := hyd (KW.out.trans hK2);clear hK2;have cx0 := FX.out _ KW.out;cases b)
      all_goals first
        | (go_ret
           exact ⟨_,rfl,KW.out⟩)
        | (go_roundg (gk - 1)
           case rel => exact ⟨k + 1,by omega,by go_num,by have := HG.out;omega,KW.out⟩
           case measure => have := HG.out;omega)
    · go_wp2_with (go_at_call 41;refine (inB (l.length : Int) 1 5 _).mono ?_;rintro e w2 ⟨b,rfl,rfl⟩;cases b)
      all_goals
        go_ret
        exact ⟨_,rfl,KW.out⟩
theorem l5Tos_calls (l : List Tt) (v : Value) (w : World) (hs : Tts w Any v l) (hw : ∀ x,x ∈ l → WfTt x) : Calls Tryz.prog 127 #[v] w (SomeB w) := by
  have HS := hyd hs
  have HW := hyd hw
  clear hw
  obtain ⟨a,c,rfl,hc,hm,_⟩ := hs
  go_enter Tryz.func127,Tryz.ntmps127
  go_wp2
  go_loopg [3] (l.length + 1) (fun g i wr => ∃ k : Nat,k ≤ l.length ∧ i = .int .i64 k ∧ g = l.length + 1 - k ∧ Keep Any w wr)
  case atStart => exact ⟨0,by omega,rfl,rfl,Keep.refl _ _⟩
  case round =>
    obtain ⟨k,hk,rfl,hg,hK⟩ := hrel
    have HG := hyd hg
    have KW := hyd hK
    clear hg hK
    by_cases hlt : k < l.length
    · have hx : l[k]? = some l[k] := List.getElem?_eq_getElem hlt
      have MX := hyd (List.mem_of_getElem? hx)
      obtain ⟨ad,vax,vcx,pax,pcx,rfl,hFx,hGx,FX⟩ := tts_all HS.out hx
      have FX := hyd FX
      generalize l[k] = x at *
      clear hx
      obtain ⟨hvx,cx0,cx1,cx2,cx3,cx4,cx5,cx6,cx7,cx8,cx9⟩ := FX.out _ KW.out
      have Hhvx := hyd hvx
      clear hvx
      have k0 : (0 : Int) ≤ (k : Int) := by omega
      have k1 : (k : Int) < (l.length : Int) := by omega
      go_wp2_with (first | (go_at_call 56;refine (nameB _ _ (by first | (have := hFx;unfold Fits at this;omega) | (have := hGx;unfold Fits at this;omega))).mono ?_;rintro e w2 ⟨b,rfl,hK2⟩;have KW := hyd (KW.out.trans hK2);clear hK2;obtain ⟨hvx,cx0,cx1,cx2,cx3,cx4,cx5,cx6,cx7,cx8,cx9⟩ := FX.out _ KW.out;have Hhvx := hyd hvx;clear hvx;cases b) | (go_at_call 125;refine (ExprOk_calls 4 x.ex _ _ (by decide) ((HW.out _ MX.out).2.2) Hhvx.out).mono ?_;rintro e w2 ⟨b,rfl,hK2⟩;have KW := hyd (KW.out.trans hK2);clear hK2;obtain ⟨hvx,cx0,cx1,cx2,cx3,cx4,cx5,cx6,cx7,cx8,cx9⟩ := FX.out _ KW.out;have Hhvx := hyd hvx;clear hvx;cases b))
      all_goals first
        | (go_ret
           exact ⟨_,rfl,KW.out⟩)
        | (go_roundg (gk - 1)
           case rel => exact ⟨k + 1,by omega,by go_num,by have := HG.out;omega,KW.out⟩
           case measure => have := HG.out;omega)
    · go_wp2_with (go_at_call 41;refine (inB (l.length : Int) 1 5 _).mono ?_;rintro e w2 ⟨b,rfl,rfl⟩;cases b)
      all_goals
        go_ret
        exact ⟨_,rfl,KW.out⟩
theorem l5Spot_calls (s : Sp) (cs : List Value) (w : World) (hs : SpR w Any s cs) (hw : WfSp s) : Calls Tryz.prog 147 #[.agg cs.toArray] w (SomeB w) := by
  have W4 := hyd hw.2.2.2
  obtain ⟨v,rfl,h1,h2,h3⟩ := hs
  obtain ⟨name,label,props⟩ := s
  simp only at *
  have HP := hyd h3
  obtain ⟨a,c,rfl,hc,hm,_⟩ := h3
  have KW := hyd ((Keep.refl Any w).alloc (.cells #[.string name,.string label,.slice a props.length c] 152 (0,0)))
  have BX := hyd (blk_new w (.cells #[.string name,.string label,.slice a props.length c] 152 (0,0)))
  clear hw
  obtain ⟨y0,y1,y2⟩ := at3c BX.out
  go_enter Tryz.func147,Tryz.ntmps147
  go_wp2_with (first | (go_at_call 148;refine (l5Maybe_calls _ _ (by first | (have := h1;unfold Fits at this;omega) | (have := h2;unfold Fits at this;omega))).mono ?_;rintro e w2 ⟨b,rfl,hK2⟩;have KW := hyd (KW.out.trans hK2);have BX := hyd (blk_keep hK2 BX.out trivial);clear hK2;obtain ⟨y0,y1,y2⟩ := at3c BX.out;cases b) | (go_at_call 157;refine (l5Pats_calls props _ _ (HP.out.keep KW.out) W4.out).mono ?_;rintro e w2 ⟨b,rfl,hK2⟩;have KW := hyd (KW.out.trans hK2);have BX := hyd (blk_keep hK2 BX.out trivial);clear hK2;obtain ⟨y0,y1,y2⟩ := at3c BX.out;cases b))
  all_goals
    go_ret
    exact ⟨_,rfl,KW.out⟩
theorem l5Paths_calls (l : List Pa) (v : Value) (w : World) (hs : Pas w Any v l) (hw : ∀ x,x ∈ l → WfPa x) : Calls Tryz.prog 124 #[v] w (SomeB w) := by
  have HS := hyd hs
  have HW := hyd hw
  obtain ⟨a,c,rfl,hc,hm,_⟩ := hs
  clear hw
  go_enter Tryz.func124,Tryz.ntmps124
  go_wp2
  go_loopg [3] (l.length + 1) (fun g i wr => ∃ k : Nat,k ≤ l.length ∧ i = .int .i64 k ∧ g = l.length + 1 - k ∧ Keep Any w wr)
  case atStart => exact ⟨0,by omega,rfl,rfl,Keep.refl _ _⟩
  case round =>
    obtain ⟨k,hk,rfl,hg,hK⟩ := hrel
    have HG := hyd hg
    have KW := hyd hK
    clear hg hK
    by_cases hlt : k < l.length
    · have hx : l[k]? = some l[k] := List.getElem?_eq_getElem hlt
      have WX := hyd (HW.out _ (List.mem_of_getElem? hx))
      obtain ⟨ad,pax,pcx,hax,hcx,rfl,FX⟩ := pas_all HS.out hx
      have FX := hyd FX
      generalize l[k] = x at *
      clear hx
      obtain ⟨hvx,hhx,cx0,cx1,cx2,cx3⟩ := FX.out _ KW.out
      have Hhvx := hyd hvx
      clear hvx
      have Hhhx := hyd hhx
      clear hhx
      have HHX := hyd (FX.out _ (Keep.refl _ _)).2.1
      have hhm := sl_len HHX.out
      have k0 : (0 : Int) ≤ (k : Int) := by omega
      have k1 : (k : Int) < (l.length : Int) := by omega
      go_wp2_with (go_at_call 147;refine (l5Spot_calls x.spot _ _ Hhvx.out WX.out.1).mono ?_;rintro e w2 ⟨b,rfl,hK2⟩;have KW := hyd (KW.out.trans hK2);clear hK2;obtain ⟨hvx,hhx,cx0,cx1,cx2,cx3⟩ := FX.out _ KW.out;have Hhvx := hyd hvx;clear hvx;have Hhhx := hyd hhx;clear hhx;cases b)
      all_goals first
        | (go_ret
           exact ⟨_,rfl,KW.out⟩)
        | skip
      obtain ⟨gO,hgO⟩ : ∃ y,y = gk := ⟨_,rfl⟩
      subst hgO
      obtain ⟨wy,hwy⟩ : ∃ y,y = w2 := ⟨_,rfl⟩
      go_loopg [4] (x.hops.length + 1) (fun g i wr => ∃ j : Nat,j ≤ x.hops.length ∧ i = .int .i64 j ∧ g = x.hops.length + 1 - j ∧ Keep Any w wr)
      case atStart => exact ⟨0,by omega,rfl,rfl,KW.out⟩
      case round =>
        obtain ⟨j,hj,rfl,hgj,hK⟩ := hrel
        have HJ := hyd hgj
        have KW := hyd hK
        clear hgj hK
        obtain ⟨hvx,hhx,cx0,cx1,cx2,cx3⟩ := FX.out _ KW.out
        have Hhvx := hyd hvx
        clear hvx
        have Hhhx := hyd hhx
        clear hhx
        by_cases hlj : j < x.hops.length
        · have hy : x.hops[j]? = some x.hops[j] := List.getElem?_eq_getElem hlj
          have WY := hyd (WX.out.2.2 _ (List.mem_of_getElem? hy))
          obtain ⟨adh,pay,pcy,e,hFy,hGy,hIy,FY⟩ := hps_all HHX.out hy
          have FY := hyd FY
          cases e
          generalize x.hops[j] = y at *
          clear hy
          obtain ⟨hvx,hhx,cx0,cx1,cx2,cx3⟩ := FX.out _ KW.out
          have Hhvx := hyd hvx
          clear hvx
          have Hhhx := hyd hhx
          clear hhx
          obtain ⟨hvy,cy0,cy1,cy2,cy3,cy4,cy5⟩ := FY.out _ KW.out
          have Hhvy := hyd hvy
          clear hvy
          have j0 : (0 : Int) ≤ (j : Int) := by omega
          have j1 : (j : Int) < (x.hops.length : Int) := by omega
          have BY := hyd (blk_new wr (.cells #[.string y.name,.string y.kind,.int .i64 y.way,.string y.spot.name,.string y.spot.label,.slice pay y.spot.props.length pcy] 181 (0,0)))
          have KW := hyd (KW.out.alloc (.cells #[.string y.name,.string y.kind,.int .i64 y.way,.string y.spot.name,.string y.spot.label,.slice pay y.spot.props.length pcy] 181 (0,0)))
          obtain ⟨z0,z1,z2,z3,z4,z5⟩ := at6c BY.out
          go_wp2_with (first | (go_at_call 148;refine (l5Maybe_calls _ _ (by first | (have := hFy;unfold Fits at this;omega) | (have := hGy;unfold Fits at this;omega))).mono ?_;rintro e w2 ⟨b,rfl,hK2⟩;have KW := hyd (KW.out.trans hK2);have BY := hyd (blk_keep hK2 BY.out trivial);clear hK2;obtain ⟨z0,z1,z2,z3,z4,z5⟩ := at6c BY.out;obtain ⟨hvx,hhx,cx0,cx1,cx2,cx3⟩ := FX.out _ KW.out;have Hhvx := hyd hvx;clear hvx;have Hhhx := hyd hhx;clear hhx;obtain ⟨hvy,cy0,cy1,cy2,cy3,cy4,cy5⟩ := FY.out _ KW.out;have Hhvy := hyd hvy;clear hvy;cases b) | (go_at_call 41;refine (inB y.way (-1) 1 _).mono ?_;rintro e w2 ⟨b,rfl,rfl⟩;cases b) | (go_at_call 147;refine (l5Spot_calls y.spot _ _ Hhvy.out WY.out.2.2).mono ?_;rintro e w2 ⟨b,rfl,hK2⟩;have KW := hyd (KW.out.trans hK2);have BY := hyd (blk_keep hK2 BY.out trivial);clear hK2;obtain ⟨z0,z1,z2,z3,z4,z5⟩ := at6c BY.out;obtain ⟨hvx,hhx,cx0,cx1,cx2,cx3⟩ := FX.out _ KW.out;have Hhvx := hyd hvx;clear hvx;have Hhhx := hyd hhx;clear hhx;obtain ⟨hvy,cy0,cy1,cy2,cy3,cy4,cy5⟩ := FY.out _ KW.out;have Hhvy := hyd hvy;clear hvy;cases b))
          all_goals first
            | (go_ret
               exact ⟨_,rfl,KW.out⟩)
            | (go_roundg (gk - 1)
               case rel => exact ⟨j + 1,by omega,by go_num,by have := HJ.out;omega,KW.out⟩
               case measure => have := HJ.out;omega)
        · obtain rfl : j = x.hops.length := by omega
          go_wp2
          go_roundg (gO - 1)
          case rel => exact ⟨k + 1,by omega,by go_num,by have := HG.out;omega,KW.out⟩
          case measure => have := HG.out;omega
    · go_wp2_with (go_at_call 41;refine (inB (l.length : Int) 1 2 _).mono ?_;rintro e w2 ⟨b,rfl,rfl⟩;cases b)
      all_goals
        go_ret
        exact ⟨_,rfl,KW.out⟩

/- The reference's text of a question's parts,for all that is well made: some text of bounded size. -/
set_option maxRecDepth 20000
set_option maxHeartbeats 4000000
theorem l5PutPats_calls (l : List Pt) (v : Value) (w : World) (hs : Pts w Any v l) (hl10 : l.length ≤ 10) (hw : ∀ x,x ∈ l → WfPt x) : Calls Tryz.prog 160 #[v] w (SomeT 200000000 w) := by
  have HS := hyd hs
  have HW := hyd hw
  have PE := hyd (fun (v : Ex) cs w (h : Wf 4 v) (k : ER w Any v cs) => (l4Put_all 4 (by decide) v cs w h k).mono fun e w' h => (h : SomeT (txtB 4) w e w'))
  have tb : txtB 4 = 15001500 := by decide
  rw [tb] at PE
  obtain ⟨a,c,rfl,hc,hm,_⟩ := hs
  clear hw
  go_enter Tryz.func160,Tryz.ntmps160
  go_wp2
  go_loopg [3,4] (l.length + 1) (fun g o i wr => ∃ (k : Nat) (t : ByteArray),k ≤ l.length ∧ o = .string t ∧ i = .int .i64 k ∧ g = l.length + 1 - k ∧ t.size ≤ k * 15001800 ∧ Keep Any w wr)
  case atStart => exact ⟨0,⟨#[]⟩,by omega,rfl,rfl,rfl,by decide,Keep.refl _ _⟩
  case round =>
    obtain ⟨k,t,hk,rfl,rfl,hg,hT,hK⟩ := hrel
    have HG := hyd hg
    have KW := hyd hK
    clear hg hK
    by_cases hlt : k < l.length
    · have hx : l[k]? = some l[k] := List.getElem?_eq_getElem hlt
      have WX := hyd (HW.out _ (List.mem_of_getElem? hx))
      obtain ⟨ad,vax,vcx,pax,pcx,rfl,hFx,FX⟩ := pts_all HS.out hx
      have FX := hyd FX
      generalize l[k] = x at *
      clear hx
      obtain ⟨hvx,cx0,cx1,cx2,cx3,cx4,cx5,cx6,cx7,cx8⟩ := FX.out _ KW.out
      have Hhvx := hyd hvx
      clear hvx
      have k0 : (0 : Int) ≤ (k : Int) := by omega
      have k1 : (k : Int) < (l.length : Int) := by omega
      have s1 : x.name.size ≤ 100 := WX.out.1
      have W2 := hyd (show Wf 4 x.ex from WX.out.2)
      obtain ⟨tp,htp⟩ : ∃ t,decide (0 < k) = t := ⟨_,rfl⟩
      have n1 : ¬ 9223372036854775807 < t.size + 2 := by omega
      go_upto_if 12 with fail
      go_cut [3] from 13 to 14 (fun v wc => ∃ y : ByteArray,v = .string y ∧ y.size ≤ t.size + 2 ∧ wr = wc)
      case first =>
        cases tp
        all_goals
          go_wp2
          go_meet
          exact ⟨_,rfl,(by (try simp only [ByteArray.size_append]);(try simp only [show (⟨#[44,32]⟩ : ByteArray).size = 2 from rfl]);omega),rfl⟩
      case rest =>
      obtain ⟨t1,rfl,ht1,hw⟩ := hcut
      subst hw
      have n2 : ¬ 9223372036854775807 < t1.size + x.name.size := by omega
      have n3 : ¬ 9223372036854775807 < t1.size + x.name.size + 2 := by omega
      go_wp2
      have kr : Keep Any wr wr.drew := (Keep.refl _ _).drew
      have SK := hyd (fun w' (h : Keep Any wr w') => (⟨h,h.cell cx0 trivial,h.cell cx1 trivial,h.cell cx2 trivial,h.cell cx3 trivial,h.cell cx4 trivial,h.cell cx5 trivial,h.cell cx6 trivial,h.cell cx7 trivial,h.cell cx8 trivial⟩ : Keep Any wr w' ∧ w'.cell? (ad.add (k * 9)) = some (.string x.name) ∧ w'.cell? ⟨(ad.add (k * 9)).block,(ad.add (k * 9)).off + 1,none⟩ = some (.int .i64 x.ex.kind) ∧ w'.cell? ⟨(ad.add (k * 9)).block,(ad.add (k * 9)).off + 2,none⟩ = some (.int .i64 x.ex.val.kind) ∧ w'.cell? ⟨(ad.add (k * 9)).block,(ad.add (k * 9)).off + 3,none⟩ = some (.int .i64 x.ex.val.num) ∧ w'.cell? ⟨(ad.add (k * 9)).block,(ad.add (k * 9)).off + 4,none⟩ = some (.string x.ex.val.text) ∧ w'.cell? ⟨(ad.add (k * 9)).block,(ad.add (k * 9)).off + 5,none⟩ = some (.slice vax x.ex.val.list.length vcx) ∧ w'.cell? ⟨(ad.add (k * 9)).block,(ad.add (k * 9)).off + 6,none⟩ = some (.string x.ex.name) ∧ w'.cell? ⟨(ad.add (k * 9)).block,(ad.add (k * 9)).off + 7,none⟩ = some (.string x.ex.key) ∧ w'.cell? ⟨(ad.add (k * 9)).block,(ad.add (k * 9)).off + 8,none⟩ = some (.slice pax x.ex.parts.length pcx)))
      go_region_held3 (fun w' => Keep Any wr w' ∧ w'.cell? (ad.add (k * 9)) = some (.string x.name) ∧ w'.cell? ⟨(ad.add (k * 9)).block,(ad.add (k * 9)).off + 1,none⟩ = some (.int .i64 x.ex.kind) ∧ w'.cell? ⟨(ad.add (k * 9)).block,(ad.add (k * 9)).off + 2,none⟩ = some (.int .i64 x.ex.val.kind) ∧ w'.cell? ⟨(ad.add (k * 9)).block,(ad.add (k * 9)).off + 3,none⟩ = some (.int .i64 x.ex.val.num) ∧ w'.cell? ⟨(ad.add (k * 9)).block,(ad.add (k * 9)).off + 4,none⟩ = some (.string x.ex.val.text) ∧ w'.cell? ⟨(ad.add (k * 9)).block,(ad.add (k * 9)).off + 5,none⟩ = some (.slice vax x.ex.val.list.length vcx) ∧ w'.cell? ⟨(ad.add (k * 9)).block,(ad.add (k * 9)).off + 6,none⟩ = some (.string x.ex.name) ∧ w'.cell? ⟨(ad.add (k * 9)).block,(ad.add (k * 9)).off + 7,none⟩ = some (.string x.ex.key) ∧ w'.cell? ⟨(ad.add (k * 9)).block,(ad.add (k * 9)).off + 8,none⟩ = some (.slice pax x.ex.parts.length pcx))
        (first | (go_split_ands;exact SK.out _ (Keep.trans (by first | assumption | exact Keep.drew (by assumption)) hK5)) | go_keep)
        (first | (go_at_call 138;(with_reducible refine (PE.out x.ex _ _ W2.out (Hhvx.out.keep (by first | assumption | exact kr.drew | exact Keep.drew (by assumption) | (go_split_ands;first | assumption | exact Keep.drew (by assumption))))).mono ?_);rintro e w5 ⟨z1,hz1,rfl,hK5⟩;have n4 : ¬ 9223372036854775807 < t1.size + x.name.size + 2 + z1.size := (by omega)))
      go_split_ands
      go_wp2
      go_roundg (gk - 1)
      case rel => exact ⟨k + 1,_,by omega,rfl,by go_num,by have := HG.out;omega,(by (try simp only [ByteArray.size_append]);(try simp only [show (⟨#[58,32]⟩ : ByteArray).size = 2 from rfl]);omega),KW.out.trans (by assumption)⟩
      case measure => have := HG.out;omega
    · have n1 : ¬ 9223372036854775807 < 1 + t.size := by omega
      have n2 : ¬ 9223372036854775807 < 1 + t.size + 1 := by omega
      go_wp2
      all_goals
        go_ret
        exact ⟨_,(by (try simp only [ByteArray.size_append]);(try simp only [show (⟨#[123]⟩ : ByteArray).size = 1 from rfl,show (⟨#[125]⟩ : ByteArray).size = 1 from rfl,show (⟨#[]⟩ : ByteArray).size = 0 from rfl]);omega),rfl,KW.out⟩
theorem l5PutSpot_calls (x : Sp) (cs : List Value) (w : World) (hs : SpR w Any x cs) (hw : WfSp x) : Calls Tryz.prog 153 #[.agg cs.toArray] w (SomeT 200001000 w) := by
  have WX := hyd hw
  have s1 : x.name.size ≤ 100 := hw.1
  have s2 : x.label.size ≤ 100 := hw.2.1
  obtain ⟨v,rfl,h1,h2,h3⟩ := hs
  have HP := hyd h3
  obtain ⟨pa,pc,rfl,_⟩ := h3
  have KW := hyd ((Keep.refl Any w).alloc (.cells #[.string x.name,.string x.label,.slice pa x.props.length pc] 152 (0,0)))
  have BX := hyd (blk_new w (.cells #[.string x.name,.string x.label,.slice pa x.props.length pc] 152 (0,0)))
  clear hw
  obtain ⟨y0,y1,y2⟩ := at3c BX.out
  obtain ⟨u,hu⟩ : ∃ t,(x.label.toList == ([] : List UInt8)) = t := ⟨_,rfl⟩
  have hu2 : (x.label.toList != ([] : List UInt8)) = !u := by rw [bne,hu]
  have n1 : ¬ 9223372036854775807 < x.name.size + 1 := by omega
  have n2 : ¬ 9223372036854775807 < x.name.size + 1 + x.label.size := by omega
  go_enter Tryz.func153,Tryz.ntmps153
  go_upto_region 1 with fail
  generalize w.alloc (.cells #[.string x.name,.string x.label,.slice pa x.props.length pc] 152 (0,0)) = w1 at *
  go_upto_if 9 with fail
  go_cut [3] from 10 to 14 (fun v wc => ∃ y : ByteArray,v = .string y ∧ y.size ≤ 201 ∧ w1 = wc)
  case first =>
    cases u
    all_goals
      go_wp2
      go_meet
      exact ⟨_,rfl,(by (try simp only [ByteArray.size_append]);(try simp only [show (⟨#[58]⟩ : ByteArray).size = 1 from rfl]);omega),rfl⟩
  case rest =>
  obtain ⟨t1,rfl,ht1,hw⟩ := hcut
  subst hw
  have n3 : ¬ 9223372036854775807 < 1 + t1.size := by omega
  have n6 : ¬ 9223372036854775807 < t1.size + 1 := by omega
  have n7 : ¬ 9223372036854775807 < 1 + (t1.size + 1) := by omega
  go_wp2_with (go_at_call 160;refine (l5PutPats_calls x.props _ _ (HP.out.keep KW.out) WX.out.2.2.1 WX.out.2.2.2).mono ?_;rintro e w2 ⟨z1,hz1,rfl,hK2⟩;have KW := hyd (KW.out.trans hK2);have BX := hyd (blk_keep hK2 BX.out trivial);clear hK2;obtain ⟨y0,y1,y2⟩ := at3c BX.out;have n4 : ¬ 9223372036854775807 < 1 + t1.size + z1.size := (by omega);have n5 : ¬ 9223372036854775807 < 1 + t1.size + z1.size + 1 := (by omega);have n8 : ¬ 9223372036854775807 < 1 + (t1.size + 1) + z1.size := (by omega);have n9 : ¬ 9223372036854775807 < 1 + (t1.size + 1) + z1.size + 1 := (by omega))
  all_goals
    go_ret
    exact ⟨_,(by (try simp only [ByteArray.size_append]);(try simp only [show (⟨#[40]⟩ : ByteArray).size = 1 from rfl,show (⟨#[41]⟩ : ByteArray).size = 1 from rfl,show (⟨#[32]⟩ : ByteArray).size = 1 from rfl]);omega),rfl,KW.out⟩
theorem l5PutHop_calls (x : Hp) (cs : List Value) (w : World) (hs : HpR w Any x cs) (hw : WfHp x) : Calls Tryz.prog 154 #[.agg cs.toArray] w (SomeT 200002000 w) := by
  have WX := hyd hw.2.2
  have s1 : x.name.size ≤ 100 := hw.1
  have s2 : x.kind.size ≤ 100 := hw.2.1
  obtain ⟨d,rfl,h1,h2,h4,h3⟩ := hs
  have HP := hyd h3
  obtain ⟨v,rfl,_,_,pa,pc,rfl,_⟩ := h3
  have KW := hyd ((Keep.refl Any w).alloc (.cells #[.string x.name,.string x.kind,.int .i64 x.way,.string x.spot.name,.string x.spot.label,.slice pa x.spot.props.length pc] 181 (0,0)))
  have BX := hyd (blk_new w (.cells #[.string x.name,.string x.kind,.int .i64 x.way,.string x.spot.name,.string x.spot.label,.slice pa x.spot.props.length pc] 181 (0,0)))
  clear hw
  obtain ⟨y0,y1,y2,y3,y4,y5⟩ := at6c BX.out
  obtain ⟨u,hu⟩ : ∃ t,(x.kind.toList == ([] : List UInt8)) = t := ⟨_,rfl⟩
  have hu2 : (x.kind.toList != ([] : List UInt8)) = !u := by rw [bne,hu]
  have n1 : ¬ 9223372036854775807 < 1 + x.name.size := by omega
  have n2 : ¬ 9223372036854775807 < 1 + x.name.size + 1 := by omega
  have n3 : ¬ 9223372036854775807 < 1 + x.name.size + 1 + x.kind.size := by omega
  go_enter Tryz.func154,Tryz.ntmps154
  go_upto_region 1 with fail
  generalize w.alloc (.cells #[.string x.name,.string x.kind,.int .i64 x.way,.string x.spot.name,.string x.spot.label,.slice pa x.spot.props.length pc] 181 (0,0)) = w1 at *
  go_upto_if 9 with fail
  go_cut [3] from 10 to 14 (fun v wc => ∃ y : ByteArray,v = .string y ∧ y.size ≤ 202 ∧ w1 = wc)
  case first =>
    cases u
    all_goals
      go_wp2
      go_meet
      exact ⟨_,rfl,(by (try simp only [ByteArray.size_append]);(try simp only [show (⟨#[58]⟩ : ByteArray).size = 1 from rfl,show (⟨#[91]⟩ : ByteArray).size = 1 from rfl]);omega),rfl⟩
  case rest =>
  obtain ⟨t1,rfl,ht1,hw⟩ := hcut
  subst hw
  have n4 : ¬ 9223372036854775807 < 1 + t1.size := by omega
  have n5 : ¬ 9223372036854775807 < 1 + t1.size + 2 := by omega
  have n6 : ¬ 9223372036854775807 < 1 + t1.size + 2 + 1 := by omega
  have n7 : ¬ 9223372036854775807 < 1 + (1 + t1.size + 2) := by omega
  go_wp2_with (go_at_call 153;refine (l5PutSpot_calls x.spot _ _ (HP.out.keep KW.out) WX.out).mono ?_;rintro e w2 ⟨z1,hz1,rfl,hK2⟩;have KW := hyd (KW.out.trans hK2);have BX := hyd (blk_keep hK2 BX.out trivial);clear hK2;obtain ⟨y0,y1,y2,y3,y4,y5⟩ := at6c BX.out;have n8 : ¬ 9223372036854775807 < 1 + t1.size + 2 + z1.size := (by omega);have n9 : ¬ 9223372036854775807 < 1 + t1.size + 2 + 1 + z1.size := (by omega);have n10 : ¬ 9223372036854775807 < 1 + (1 + t1.size + 2) + z1.size := (by omega))
  all_goals
    go_ret
    exact ⟨_,(by (try simp only [ByteArray.size_append]);(try simp only [show (⟨#[45]⟩ : ByteArray).size = 1 from rfl,show (⟨#[93,45]⟩ : ByteArray).size = 2 from rfl,show (⟨#[62]⟩ : ByteArray).size = 1 from rfl,show (⟨#[60]⟩ : ByteArray).size = 1 from rfl]);omega),rfl,KW.out⟩
theorem l5PutPaths_calls (l : List Pa) (v : Value) (w : World) (hs : Pas w Any v l) (hl2 : l.length ≤ 2) (hw : ∀ x,x ∈ l → WfPa x) : Calls Tryz.prog 137 #[v] w (SomeT 1400000000 w) := by
  have HS := hyd hs
  have HW := hyd hw
  obtain ⟨a,c,rfl,hc,hm,_⟩ := hs
  clear hw
  go_enter Tryz.func137,Tryz.ntmps137
  go_wp2
  go_loopg [3,4] (l.length + 1) (fun g o i wr => ∃ (k : Nat) (t : ByteArray),k ≤ l.length ∧ o = .string t ∧ i = .int .i64 k ∧ g = l.length + 1 - k ∧ t.size ≤ k * 700000000 ∧ Keep Any w wr)
  case atStart => exact ⟨0,⟨#[]⟩,by omega,rfl,rfl,rfl,by decide,Keep.refl _ _⟩
  case round =>
    obtain ⟨k,t,hk,rfl,rfl,hg,hT,hK⟩ := hrel
    have HG := hyd hg
    have KW := hyd hK
    clear hg hK
    by_cases hlt : k < l.length
    · have hx : l[k]? = some l[k] := List.getElem?_eq_getElem hlt
      have WX := hyd (HW.out _ (List.mem_of_getElem? hx))
      obtain ⟨ad,pax,pcx,hax,hcx,rfl,FX⟩ := pas_all HS.out hx
      have FX := hyd FX
      generalize l[k] = x at *
      clear hx
      obtain ⟨hvx,hhx,cx0,cx1,cx2,cx3⟩ := FX.out _ KW.out
      have Hhvx := hyd hvx
      clear hvx
      have Hhhx := hyd hhx
      clear hhx
      have HHX := hyd (FX.out _ (Keep.refl _ _)).2.1
      have hhm := sl_len HHX.out
      have hh2 : x.hops.length ≤ 2 := WX.out.2.1
      have k0 : (0 : Int) ≤ (k : Int) := by omega
      have k1 : (k : Int) < (l.length : Int) := by omega
      obtain ⟨tp,htp⟩ : ∃ t,decide (0 < k) = t := ⟨_,rfl⟩
      have n1 : ¬ 9223372036854775807 < t.size + 2 := by omega
      go_upto_if 13 with fail
      go_cut [3] from 14 to 15 (fun v wc => ∃ y : ByteArray,v = .string y ∧ y.size ≤ t.size + 2 ∧ wr = wc)
      case first =>
        cases tp
        all_goals
          go_wp2
          go_meet
          exact ⟨_,rfl,(by (try simp only [ByteArray.size_append]);(try simp only [show (⟨#[44,32]⟩ : ByteArray).size = 2 from rfl]);omega),rfl⟩
      case rest =>
      obtain ⟨t1,rfl,ht1,hw⟩ := hcut
      subst hw
      go_wp2_with (go_at_call 153;refine (l5PutSpot_calls x.spot _ _ Hhvx.out WX.out.1).mono ?_;rintro e w2 ⟨z1,hz1,rfl,hK2⟩;have KW := hyd (KW.out.trans hK2);clear hK2;obtain ⟨hvx,hhx,cx0,cx1,cx2,cx3⟩ := FX.out _ KW.out;have Hhvx := hyd hvx;clear hvx;have Hhhx := hyd hhx;clear hhx;have n2 : ¬ 9223372036854775807 < t1.size + z1.size := (by omega))
      obtain ⟨t2,ht2⟩ : ∃ t2,t2 = t1 ++ z1 := ⟨_,rfl⟩
      have hz2 : t2.size ≤ k * 700000000 + 200001002 := by rw [ht2];simp only [ByteArray.size_append];omega
      rw [← ht2]
      clear ht2 hz1 ht1 hT
      obtain ⟨gO,hgO⟩ : ∃ y,y = gk := ⟨_,rfl⟩
      subst hgO
      obtain ⟨wy,hwy⟩ : ∃ y,y = w2 := ⟨_,rfl⟩
      go_loopg [3,5] (x.hops.length + 1) (fun g o i wr => ∃ (j : Nat) (t : ByteArray),j ≤ x.hops.length ∧ o = .string t ∧ i = .int .i64 j ∧ g = x.hops.length + 1 - j ∧ t.size ≤ k * 700000000 + 200001002 + j * 200002000 ∧ Keep Any w wr)
      case atStart => exact ⟨0,t2,by omega,rfl,rfl,rfl,by omega,KW.out⟩
      case round =>
        clear KW
        obtain ⟨j,t,hj,rfl,rfl,hgj,hT,hK⟩ := hrel
        have HJ := hyd hgj
        have KW := hyd hK
        clear hgj hK
        obtain ⟨hvx,hhx,cx0,cx1,cx2,cx3⟩ := FX.out _ KW.out
        have Hhvx := hyd hvx
        clear hvx
        have Hhhx := hyd hhx
        clear hhx
        by_cases hlj : j < x.hops.length
        · have hy : x.hops[j]? = some x.hops[j] := List.getElem?_eq_getElem hlj
          have WY := hyd (WX.out.2.2 _ (List.mem_of_getElem? hy))
          obtain ⟨adh,pay,pcy,e,hFy,hGy,hIy,FY⟩ := hps_all HHX.out hy
          have FY := hyd FY
          cases e
          generalize x.hops[j] = y at *
          clear hy
          obtain ⟨hvx,hhx,cx0,cx1,cx2,cx3⟩ := FX.out _ KW.out
          have Hhvx := hyd hvx
          clear hvx
          have Hhhx := hyd hhx
          clear hhx
          obtain ⟨hvy,cy0,cy1,cy2,cy3,cy4,cy5⟩ := FY.out _ KW.out
          have Hhvy := hyd hvy
          clear hvy
          have j0 : (0 : Int) ≤ (j : Int) := by omega
          have j1 : (j : Int) < (x.hops.length : Int) := by omega
          go_wp2_with (go_at_call 154;refine (l5PutHop_calls y _ _ ⟨_,rfl,hFy,hGy,hIy,Hhvy.out⟩ WY.out).mono ?_;rintro e w2 ⟨z1,hz1,rfl,hK2⟩;have KW := hyd (KW.out.trans hK2);clear hK2;obtain ⟨hvx,hhx,cx0,cx1,cx2,cx3⟩ := FX.out _ KW.out;have Hhvx := hyd hvx;clear hvx;have Hhhx := hyd hhx;clear hhx;obtain ⟨hvy,cy0,cy1,cy2,cy3,cy4,cy5⟩ := FY.out _ KW.out;have Hhvy := hyd hvy;clear hvy;have n2 : ¬ 9223372036854775807 < t.size + z1.size := (by omega))
          go_roundg (gk - 1)
          case rel => exact ⟨j + 1,_,by omega,rfl,by go_num,by have := HJ.out;omega,(by (try simp only [ByteArray.size_append]);(try simp only [show (⟨#[44,32]⟩ : ByteArray).size = 2 from rfl]);omega),KW.out⟩
          case measure => have := HJ.out;omega
        · obtain rfl : j = x.hops.length := by omega
          go_wp2
          go_roundg (gO - 1)
          case rel => exact ⟨k + 1,_,by omega,rfl,by go_num,by have := HG.out;omega,by omega,KW.out⟩
          case measure => have := HG.out;omega
    · go_wp2
      go_ret
      exact ⟨_,by omega,rfl,KW.out⟩

/- The reference's text of columns. -/
set_option maxRecDepth 20000
set_option maxHeartbeats 4000000
theorem l1Dec_some (n : Int) (w : World) (h0 : -1000000000 ≤ n) (h1 : n ≤ 1000000000) : Calls Tryz.prog 24 #[.int .i64 n] w (SomeT 21 w) :=
  (l1Dec_calls n w (by omega) (by omega)).mono fun e w' h => ⟨_,by simp only [ByteArray.size,List.size_toArray];exact itoa_len2 n h0 h1,h.1,h.2⟩
theorem l5PutItems_calls (x : Cl) (cs : List Value) (w : World) (hs : ClR w Any x cs) (hw : WfCl x) : Calls Tryz.prog 139 #[.agg cs.toArray] w (SomeT 151000000 w) := by
  have hnums := hw.nums
  obtain ⟨ap,cp,va,vc,pa,pc,ai,ci,ao,co,at',ct,an,cn,rfl,hk,hpa,hex,hna,hit,hod,hsk,hli,hto,hns⟩ := cl_open hs
  have HPA := hyd hpa
  have HEX := hyd hex
  have HIT := hyd hit
  have HOD := hyd hod
  have HTO := hyd hto
  have HNS := hyd hns
  have WC := hyd hw
  have li10 : x.items.length ≤ 10 := hw.items.1
  have lo10 : x.orders.length ≤ 10 := hw.orders.1
  have lt10 : x.tos.length ≤ 10 := hw.tos.1
  have ln10 : x.names.length ≤ 10 := hw.names.1
  have hna100 : x.name.size ≤ 100 := hw.name
  have PE := hyd (fun (v : Ex) cs w (h : Wf 4 v) (k : ER w Any v cs) => (l4Put_all 4 (by decide) v cs w h k).mono fun e w' h => (h : SomeT (txtB 4) w e w'))
  have tb : txtB 4 = 15001500 := by decide
  rw [tb] at PE
  have KW := hyd ((Keep.refl Any w).alloc (.cells #[.int .i64 x.kind,.slice ap x.paths.length cp,.int .i64 x.ex.kind,.int .i64 x.ex.val.kind,.int .i64 x.ex.val.num,.string x.ex.val.text,.slice va x.ex.val.list.length vc,.string x.ex.name,.string x.ex.key,.slice pa x.ex.parts.length pc,.string x.name,.slice ai x.items.length ci,.bool x.distinct,.slice ao x.orders.length co,.int .i64 x.skip,.int .i64 x.limit,.slice at' x.tos.length ct,.slice an x.names.length cn,.bool x.detach] 122 (0,0)))
  have BX := hyd (blk_new w (.cells #[.int .i64 x.kind,.slice ap x.paths.length cp,.int .i64 x.ex.kind,.int .i64 x.ex.val.kind,.int .i64 x.ex.val.num,.string x.ex.val.text,.slice va x.ex.val.list.length vc,.string x.ex.name,.string x.ex.key,.slice pa x.ex.parts.length pc,.string x.name,.slice ai x.items.length ci,.bool x.distinct,.slice ao x.orders.length co,.int .i64 x.skip,.int .i64 x.limit,.slice at' x.tos.length ct,.slice an x.names.length cn,.bool x.detach] 122 (0,0)))
  clear hw hs hpa hex hit hod hto hns
  go_enter Tryz.func139,Tryz.ntmps139
  go_upto_region 1 with fail
  generalize w.alloc (.cells #[.int .i64 x.kind,.slice ap x.paths.length cp,.int .i64 x.ex.kind,.int .i64 x.ex.val.kind,.int .i64 x.ex.val.num,.string x.ex.val.text,.slice va x.ex.val.list.length vc,.string x.ex.name,.string x.ex.key,.slice pa x.ex.parts.length pc,.string x.name,.slice ai x.items.length ci,.bool x.distinct,.slice ao x.orders.length co,.int .i64 x.skip,.int .i64 x.limit,.slice at' x.tos.length ct,.slice an x.names.length cn,.bool x.detach] 122 (0,0)) = w1 at *
  generalize (Value.agg #[.int .i64 x.kind,.slice ap x.paths.length cp,.int .i64 x.ex.kind,.int .i64 x.ex.val.kind,.int .i64 x.ex.val.num,.string x.ex.val.text,.slice va x.ex.val.list.length vc,.string x.ex.name,.string x.ex.key,.slice pa x.ex.parts.length pc,.string x.name,.slice ai x.items.length ci,.bool x.distinct,.slice ao x.orders.length co,.int .i64 x.skip,.int .i64 x.limit,.slice at' x.tos.length ct,.slice an x.names.length cn,.bool x.detach]) = A0
  obtain ⟨y0,y1,y2,y3,y4,y5,y6,y7,y8,y9,y10,y11,y12,y13,y14,y15,y16,y17,y18⟩ := at19c BX.out
  obtain ⟨xd,hxd⟩ : ∃ t,x.distinct = t := ⟨_,rfl⟩
  go_upto_if 7 with fail
  go_cut [3] from 6 to 7 (fun v wc => ∃ y : ByteArray,v = .string y ∧ y.size ≤ 9 ∧ w1 = wc)
  case first =>
    cases xd
    all_goals
      go_wp2
      go_meet
      exact ⟨_,rfl,by decide,rfl⟩
  case rest =>
  obtain ⟨t0,rfl,ht0,hw⟩ := hcut
  subst hw
  clear hxd
  go_wp2
  go_loopg [3,4] (x.items.length + 1) (fun g o i wr => ∃ (k : Nat) (t : ByteArray),k ≤ x.items.length ∧ o = .string t ∧ i = .int .i64 k ∧ g = x.items.length + 1 - k ∧ t.size ≤ 9 + k * 15001700 ∧ wr.heap[w.heap.size]? = some (.cells #[.int .i64 x.kind,.slice ap x.paths.length cp,.int .i64 x.ex.kind,.int .i64 x.ex.val.kind,.int .i64 x.ex.val.num,.string x.ex.val.text,.slice va x.ex.val.list.length vc,.string x.ex.name,.string x.ex.key,.slice pa x.ex.parts.length pc,.string x.name,.slice ai x.items.length ci,.bool x.distinct,.slice ao x.orders.length co,.int .i64 x.skip,.int .i64 x.limit,.slice at' x.tos.length ct,.slice an x.names.length cn,.bool x.detach] 122 (0,0)) ∧ Keep Any w wr)
  case atStart => exact ⟨0,t0,by omega,rfl,rfl,rfl,by omega,BX.out,KW.out⟩
  case round =>
    clear KW BX
    obtain ⟨k,t,hk,rfl,rfl,hg,hT,hB,hK⟩ := hrel
    have HG := hyd hg
    have KW := hyd hK
    have BX := hyd hB
    clear hg hK hB
    obtain ⟨y0,y1,y2,y3,y4,y5,y6,y7,y8,y9,y10,y11,y12,y13,y14,y15,y16,y17,y18⟩ := at19c BX.out
    by_cases hlt : k < x.items.length
    · have hx : x.items[k]? = some x.items[k] := List.getElem?_eq_getElem hlt

      have WX := hyd (WC.out.items.2 _ (List.mem_of_getElem? hx))
      obtain ⟨adz,vaz,vcz,paz,pcz,e,hFz,FX⟩ := its_all HIT.out hx
      have FX := hyd FX
      cases e
      generalize x.items[k] = z at *
      clear hx
      obtain ⟨hvz,cz0,cz1,cz2,cz3,cz4,cz5,cz6,cz7,cz8⟩ := FX.out _ KW.out
      have Hhvz := hyd hvz
      clear hvz
      have k0 : (0 : Int) ≤ (k : Int) := by omega
      have k1 : (k : Int) < (x.items.length : Int) := by omega
      have s1 : z.name.size ≤ 100 := WX.out.2
      have W2 := hyd (show Wf 4 z.ex from WX.out.1)
      obtain ⟨tp,htp⟩ : ∃ t,decide (0 < k) = t := ⟨_,rfl⟩
      have n1 : ¬ 9223372036854775807 < t.size + 1 := by omega
      go_upto_if 16 with fail
      go_cut [3] from 17 to 18 (fun v wc => ∃ y : ByteArray,v = .string y ∧ y.size ≤ t.size + 1 ∧ wr = wc)
      case first =>
        cases tp
        all_goals
          go_wp2
          go_meet
          exact ⟨_,rfl,(by (try simp only [ByteArray.size_append]);(try simp only [show (⟨#[44]⟩ : ByteArray).size = 1 from rfl]);omega),rfl⟩
      case rest =>
      obtain ⟨t1,rfl,ht1,hw⟩ := hcut
      subst hw
      have n2 : ¬ 9223372036854775807 < t1.size + 1 := by omega
      go_wp2
      have kr : Keep Any wr wr.drew := (Keep.refl _ _).drew
      have SK := hyd (fun w' (h : Keep Any wr w') => (⟨h,h.cell cz0 trivial,h.cell cz1 trivial,h.cell cz2 trivial,h.cell cz3 trivial,h.cell cz4 trivial,h.cell cz5 trivial,h.cell cz6 trivial,h.cell cz7 trivial,h.cell cz8 trivial,h.cell y11 trivial⟩ : Keep Any wr w' ∧ w'.cell? (adz.add (k * 9)) = some (.int .i64 z.ex.kind) ∧ w'.cell? ⟨(adz.add (k * 9)).block,(adz.add (k * 9)).off + 1,none⟩ = some (.int .i64 z.ex.val.kind) ∧ w'.cell? ⟨(adz.add (k * 9)).block,(adz.add (k * 9)).off + 2,none⟩ = some (.int .i64 z.ex.val.num) ∧ w'.cell? ⟨(adz.add (k * 9)).block,(adz.add (k * 9)).off + 3,none⟩ = some (.string z.ex.val.text) ∧ w'.cell? ⟨(adz.add (k * 9)).block,(adz.add (k * 9)).off + 4,none⟩ = some (.slice vaz z.ex.val.list.length vcz) ∧ w'.cell? ⟨(adz.add (k * 9)).block,(adz.add (k * 9)).off + 5,none⟩ = some (.string z.ex.name) ∧ w'.cell? ⟨(adz.add (k * 9)).block,(adz.add (k * 9)).off + 6,none⟩ = some (.string z.ex.key) ∧ w'.cell? ⟨(adz.add (k * 9)).block,(adz.add (k * 9)).off + 7,none⟩ = some (.slice paz z.ex.parts.length pcz) ∧ w'.cell? ⟨(adz.add (k * 9)).block,(adz.add (k * 9)).off + 8,none⟩ = some (.string z.name) ∧ w'.cell? ⟨w.heap.size,11,none⟩ = some (.slice (some adz) x.items.length ci)))
      go_region_held3 (fun w' => Keep Any wr w' ∧ w'.cell? (adz.add (k * 9)) = some (.int .i64 z.ex.kind) ∧ w'.cell? ⟨(adz.add (k * 9)).block,(adz.add (k * 9)).off + 1,none⟩ = some (.int .i64 z.ex.val.kind) ∧ w'.cell? ⟨(adz.add (k * 9)).block,(adz.add (k * 9)).off + 2,none⟩ = some (.int .i64 z.ex.val.num) ∧ w'.cell? ⟨(adz.add (k * 9)).block,(adz.add (k * 9)).off + 3,none⟩ = some (.string z.ex.val.text) ∧ w'.cell? ⟨(adz.add (k * 9)).block,(adz.add (k * 9)).off + 4,none⟩ = some (.slice vaz z.ex.val.list.length vcz) ∧ w'.cell? ⟨(adz.add (k * 9)).block,(adz.add (k * 9)).off + 5,none⟩ = some (.string z.ex.name) ∧ w'.cell? ⟨(adz.add (k * 9)).block,(adz.add (k * 9)).off + 6,none⟩ = some (.string z.ex.key) ∧ w'.cell? ⟨(adz.add (k * 9)).block,(adz.add (k * 9)).off + 7,none⟩ = some (.slice paz z.ex.parts.length pcz) ∧ w'.cell? ⟨(adz.add (k * 9)).block,(adz.add (k * 9)).off + 8,none⟩ = some (.string z.name) ∧ w'.cell? ⟨w.heap.size,11,none⟩ = some (.slice (some adz) x.items.length ci))
        (first | (go_split_ands;exact SK.out _ (Keep.trans (by first | assumption | exact Keep.drew (by assumption)) hK5)) | go_keep)
        (first | (go_at_call 138;(with_reducible refine (PE.out z.ex _ _ W2.out (Hhvz.out.keep (by first | assumption | exact kr.drew | exact Keep.drew (by assumption) | (go_split_ands;first | assumption | exact Keep.drew (by assumption))))).mono ?_);rintro e w5 ⟨z1,hz1,rfl,hK5⟩;have n4 : ¬ 9223372036854775807 < t1.size + 1 + z1.size := (by omega);have n5 : ¬ 9223372036854775807 < t1.size + 1 + z1.size + 4 := (by omega);have n6 : ¬ 9223372036854775807 < t1.size + 1 + z1.size + 4 + z.name.size := (by omega)))
      go_split_ands
      have hKK := hyd (show Keep Any wr _ by assumption)
      go_wp2
      go_roundg (gk - 1)
      case rel => exact ⟨k + 1,_,by omega,rfl,by go_num,by have := HG.out;omega,(by (try simp only [ByteArray.size_append]);(try simp only [show (⟨#[32]⟩ : ByteArray).size = 1 from rfl,show (⟨#[32,65,83,32]⟩ : ByteArray).size = 4 from rfl]);omega),blk_keep hKK.out BX.out trivial,KW.out.trans hKK.out⟩
      case measure => have := HG.out;omega
    · go_wp2
      obtain ⟨wz,hwz⟩ : ∃ wz,wz = wr := ⟨_,rfl⟩
      rw [← hwz] at BX KW ⊢
      clear hwz HG
      have hT2 : t.size ≤ 150017009 := by omega
      clear hT
      obtain ⟨t2,ht2⟩ : ∃ t2,t2 = t := ⟨_,rfl⟩
      rw [← ht2] at hT2 ⊢
      clear ht2 hlt hk
      go_loopg [3,5] (x.orders.length + 1) (fun g o i wr => ∃ (k : Nat) (t : ByteArray),k ≤ x.orders.length ∧ o = .string t ∧ i = .int .i64 k ∧ g = x.orders.length + 1 - k ∧ t.size ≤ 150017009 + k * 120 ∧ wr.heap[w.heap.size]? = some (.cells #[.int .i64 x.kind,.slice ap x.paths.length cp,.int .i64 x.ex.kind,.int .i64 x.ex.val.kind,.int .i64 x.ex.val.num,.string x.ex.val.text,.slice va x.ex.val.list.length vc,.string x.ex.name,.string x.ex.key,.slice pa x.ex.parts.length pc,.string x.name,.slice ai x.items.length ci,.bool x.distinct,.slice ao x.orders.length co,.int .i64 x.skip,.int .i64 x.limit,.slice at' x.tos.length ct,.slice an x.names.length cn,.bool x.detach] 122 (0,0)) ∧ Keep Any w wr)
      case atStart => exact ⟨0,t2,by omega,rfl,rfl,rfl,by omega,BX.out,KW.out⟩
      case round =>
        clear KW BX
        obtain ⟨k,t,hk,rfl,rfl,hg,hT,hB,hK⟩ := hrel
        have HG := hyd hg
        have KW := hyd hK
        have BX := hyd hB
        clear hg hK hB
        obtain ⟨y0,y1,y2,y3,y4,y5,y6,y7,y8,y9,y10,y11,y12,y13,y14,y15,y16,y17,y18⟩ := at19c BX.out
        by_cases hlt : k < x.orders.length
        · have hx : x.orders[k]? = some x.orders[k] := List.getElem?_eq_getElem hlt

          obtain ⟨adz,e,hFz,FX⟩ := ods_all HOD.out hx
          have SX := hyd (WC.out.orders.2 _ (List.mem_of_getElem? hx))
          have FX := hyd FX
          cases e
          generalize x.orders[k] = z at *
          clear hx
          obtain ⟨cz0,cz1⟩ := FX.out _ KW.out
          have k0 : (0 : Int) ≤ (k : Int) := by omega
          have k1 : (k : Int) < (x.orders.length : Int) := by omega
          have s1 : z.name.size ≤ 100 := SX.out
          obtain ⟨tp,htp⟩ : ∃ t,((k : Int) == 0) = t := ⟨_,rfl⟩
          have n1 : ¬ 9223372036854775807 < t.size + 1 := by omega
          have n2 : ¬ 9223372036854775807 < t.size + 9 := by omega
          go_upto_if 45 with fail
          go_cut [3] from 46 to 49 (fun v wc => ∃ y : ByteArray,v = .string y ∧ y.size ≤ t.size + 9 ∧ wr = wc)
          case first =>
            cases tp
            all_goals
              go_wp2
              go_meet
              exact ⟨_,rfl,(by (try simp only [ByteArray.size_append]);(try simp only [show (⟨#[44]⟩ : ByteArray).size = 1 from rfl,show (⟨#[32,79,82,68,69,82,32,66,89]⟩ : ByteArray).size = 9 from rfl]);omega),rfl⟩
          case rest =>
          obtain ⟨t1,rfl,ht1,hw⟩ := hcut
          subst hw
          have n3 : ¬ 9223372036854775807 < t1.size + 1 := by omega
          have n4 : ¬ 9223372036854775807 < t1.size + 1 + z.name.size := by omega
          have n5 : ¬ 9223372036854775807 < t1.size + 1 + z.name.size + 5 := by omega
          go_wp2
          all_goals
            go_roundg (gk - 1)
            case rel => exact ⟨k + 1,_,by omega,rfl,by go_num,by have := HG.out;omega,(by (try simp only [ByteArray.size_append]);(try simp only [show (⟨#[32]⟩ : ByteArray).size = 1 from rfl,show (⟨#[32,68,69,83,67]⟩ : ByteArray).size = 5 from rfl]);omega),BX.out,KW.out⟩
            case measure => have := HG.out;omega
        · obtain ⟨ts,hts⟩ : ∃ t,decide (0 ≤ x.skip) = t := ⟨_,rfl⟩
          obtain ⟨tl,htl⟩ : ∃ t,decide (0 ≤ x.limit) = t := ⟨_,rfl⟩
          have hT3 : t.size ≤ 150018209 := by omega
          clear hT
          go_upto_if 69 with fail
          go_cut [3] from 70 to 75 (fun v wc => ∃ y : ByteArray,v = .string y ∧ y.size ≤ t.size + 27 ∧ wc.heap[w.heap.size]? = some (.cells #[.int .i64 x.kind,.slice ap x.paths.length cp,.int .i64 x.ex.kind,.int .i64 x.ex.val.kind,.int .i64 x.ex.val.num,.string x.ex.val.text,.slice va x.ex.val.list.length vc,.string x.ex.name,.string x.ex.key,.slice pa x.ex.parts.length pc,.string x.name,.slice ai x.items.length ci,.bool x.distinct,.slice ao x.orders.length co,.int .i64 x.skip,.int .i64 x.limit,.slice at' x.tos.length ct,.slice an x.names.length cn,.bool x.detach] 122 (0,0)) ∧ Keep Any w wc)
          case first =>
            have n6 : ¬ 9223372036854775807 < t.size + 6 := by omega
            cases ts
            all_goals
              go_wp2_with (go_at_call 24;refine (l1Dec_some x.skip _ (by omega) (by omega)).mono ?_;rintro e w2 ⟨z1,hz1,rfl,hK2⟩;have KW := hyd (KW.out.trans hK2);have BX := hyd (blk_keep hK2 BX.out trivial);clear hK2;obtain ⟨y0,y1,y2,y3,y4,y5,y6,y7,y8,y9,y10,y11,y12,y13,y14,y15,y16,y17,y18⟩ := at19c BX.out;have n7 : ¬ 9223372036854775807 < t.size + 6 + z1.size := (by omega))
              go_meet
              exact ⟨_,rfl,(by (try simp only [ByteArray.size_append]);(try simp only [show (⟨#[32,83,75,73,80,32]⟩ : ByteArray).size = 6 from rfl]);omega),BX.out,KW.out⟩
          case rest =>
          obtain ⟨t3,rfl,ht3,hB,hK⟩ := hcut
          clear KW BX
          have KW := hyd hK
          have BX := hyd hB
          clear hK hB
          obtain ⟨y0,y1,y2,y3,y4,y5,y6,y7,y8,y9,y10,y11,y12,y13,y14,y15,y16,y17,y18⟩ := at19c BX.out
          go_upto_if 78 with fail
          go_cut [3] from 79 to 84 (fun v wc => ∃ y : ByteArray,v = .string y ∧ y.size ≤ t3.size + 28 ∧ wc.heap[w.heap.size]? = some (.cells #[.int .i64 x.kind,.slice ap x.paths.length cp,.int .i64 x.ex.kind,.int .i64 x.ex.val.kind,.int .i64 x.ex.val.num,.string x.ex.val.text,.slice va x.ex.val.list.length vc,.string x.ex.name,.string x.ex.key,.slice pa x.ex.parts.length pc,.string x.name,.slice ai x.items.length ci,.bool x.distinct,.slice ao x.orders.length co,.int .i64 x.skip,.int .i64 x.limit,.slice at' x.tos.length ct,.slice an x.names.length cn,.bool x.detach] 122 (0,0)) ∧ Keep Any w wc)
          case first =>
            have n8 : ¬ 9223372036854775807 < t3.size + 7 := by omega
            cases tl
            all_goals
              go_wp2_with (go_at_call 24;refine (l1Dec_some x.limit _ (by omega) (by omega)).mono ?_;rintro e w2 ⟨z1,hz1,rfl,hK2⟩;have KW := hyd (KW.out.trans hK2);have BX := hyd (blk_keep hK2 BX.out trivial);clear hK2;obtain ⟨y0,y1,y2,y3,y4,y5,y6,y7,y8,y9,y10,y11,y12,y13,y14,y15,y16,y17,y18⟩ := at19c BX.out;have n9 : ¬ 9223372036854775807 < t3.size + 7 + z1.size := (by omega))
              go_meet
              exact ⟨_,rfl,(by (try simp only [ByteArray.size_append]);(try simp only [show (⟨#[32,76,73,77,73,84,32]⟩ : ByteArray).size = 7 from rfl]);omega),BX.out,KW.out⟩
          case rest =>
          obtain ⟨t4,rfl,ht4,hB,hK⟩ := hcut
          clear KW BX
          have KW := hyd hK
          have BX := hyd hB
          clear hK hB
          obtain ⟨y0,y1,y2,y3,y4,y5,y6,y7,y8,y9,y10,y11,y12,y13,y14,y15,y16,y17,y18⟩ := at19c BX.out
          go_wp2
          go_ret
          exact ⟨_,by omega,rfl,KW.out⟩
end Go.Proofs.YtjopkcjpedgoaaaGreatDoor

/- The reference's scope: expressions, props of patterns, spots. The reference's scope: spots, patterns. The reference's scope: patterns. The reference's scope: its names stay where it asks. The reference's scope of a clause, for some kinds of it. The reference's scope of a clause, for some kinds of it. The reference's scope of a clause, for some kinds of it. The reference's scope of a clause, for some kinds of it. The reference's form of a clause comes to some answer. -/
import Derived.Test.YtjopkcjpedgoaaaGreatDoorMG11
import Derived.Test.YtjopkcjpedgoaaaGreatDoorMGAt
import Derived.Test.YtjopkcjpedgoaaaGreatDoorMG13
import Derived.Test.YtjopkcjpedgoaaaGreatDoorMG14
import Derived.Test.YtjopkcjpedgoaaaGreatDoorMG15
import Derived.Test.YtjopkcjpedgoaaaGreatDoorMG16
/- The reference's scope: expressions,props of patterns,spots. -/
namespace Go.Proofs.YtjopkcjpedgoaaaGreatDoor
open Go.RowKit
set_option linter.unusedVariables false
set_option linter.unusedSimpArgs false
set_option maxRecDepth 20000
set_option maxHeartbeats 4000000
theorem l4Names_all : ∀ d,d ≤ 5 → NamesE d
  | 0,_ => fun v cs o l n w h _ => h.elim
  | d + 1,h => l4Names_of d (by omega) (l4Names_all d (by omega))
theorem strs_but {w : World} {g : Nat} {u : Value} {l : List ByteArray} {T : TypeId} {c : Int} {a : Option Addr} {n m : Nat} (hb : w.heap[g]? = some (.cells #[.slice a n m,.int .i64 c] T (0,0))) (h : Strs w Any u l) : Strs w (But g) u l := by
  obtain ⟨a',c',rfl,h1,h2,h3⟩ := h
  refine ⟨a',c',rfl,h1,h2,fun hn => ?_⟩
  obtain ⟨ad,e,_,hf⟩ := h3 hn
  refine ⟨ad,e,fun hg => ?_,fun j x hx => hf j x hx⟩
  obtain ⟨x,r,hcons⟩ := List.exists_cons_of_ne_nil hn
  obtain ⟨cs,⟨rfl,_⟩,_,hc⟩ := hf 0 x (by rw [hcons];rfl)
  have h0 := hc 0 _ rfl
  obtain ⟨b,o,p⟩ := ad
  have hg : b = g := hg
  subst hg
  have e : (⟨b,o,p⟩ : Addr).add (0 * 1 + 0) = ⟨b,o,p⟩ := by unfold Addr.add;simp
  rw [e] at h0
  unfold World.cell? at h0
  rw [hb] at h0
  match o,h0 with
  | 0,h0 => simp at h0
  | 1,h0 => simp at h0
  | o + 2,h0 => simp at h0
theorem Scp.but {n g : Nat} {w : World} {u : Value} {l : List ByteArray} (h : Scp n w g) (hu : Strs w Any u l) : Strs w (But g) u l := by
  obtain ⟨v,l',c,hb,⟨a,m,rfl,_⟩,_⟩ := h
  exact strs_but hb hu
theorem ER.any {w : World} {ok : Nat → Prop} {e : Ex} {cs : List Value} (h : ER w ok e cs) : ER w Any e cs := h.mono fun _ _ _ => trivial
theorem strs_none {w : World} {ok : Nat → Prop} {b : Nat} {T : TypeId} (h : w.heap[b]? = some (.cells #[] T (0,0))) (hb : ok b) : Strs w ok (.slice (some ⟨b,0,none⟩) 0 0) [] := strs_litF [] rfl h hb (by simp) (fun y hy => by cases hy)
theorem uses_calls (n g : Nat) (v : Ex) (cs : List Value) (w : World) (h : Scp n w g) (hv : ER w (But g) v cs) (hw : Wf 4 v) : Calls Tryz.prog 130 #[.pointer (some ⟨g,0,none⟩),.agg cs.toArray] w (GotScp n g w) := by
  have HV := hyd hv
  have WV := hyd hw
  have zg : g < w.heap.size := by obtain ⟨v,l,c,hb,_⟩ := h;exact blk_lt hb
  obtain ⟨va,vc,s,rfl,h1,hvv,h3,h4,hps⟩ := ER.iff.1 hv
  obtain ⟨pa,pc,rfl,_⟩ := hps
  have KW := hyd ((Keep.refl (But g) w).alloc (.cells #[.int .i64 v.kind,.int .i64 v.val.kind,.int .i64 v.val.num,.string v.val.text,.slice va v.val.list.length vc,.string v.name,.string v.key,.slice pa v.parts.length pc] 117 (0,0)))
  have BX := hyd (blk_new w (.cells #[.int .i64 v.kind,.int .i64 v.val.kind,.int .i64 v.val.num,.string v.val.text,.slice va v.val.list.length vc,.string v.name,.string v.key,.slice pa v.parts.length pc] 117 (0,0)))
  have SC := hyd (h.keep ((Keep.refl Any w).alloc (.cells #[.int .i64 v.kind,.int .i64 v.val.kind,.int .i64 v.val.num,.string v.val.text,.slice va v.val.list.length vc,.string v.name,.string v.key,.slice pa v.parts.length pc] 117 (0,0))))
  clear h hv hw hvv
  obtain ⟨y0,y1,y2,y3,y4,y5,y6,y7⟩ := at8c BX.out
  go_enter Tryz.func130,Tryz.ntmps130
  go_wp2_with (first | (go_at_call 151;refine (l5Bare_calls 4 v _ _ WV.out (HV.out.keep KW.out).any).mono ?_;rintro e w2 ⟨b,rfl,hK2⟩;have SC := hyd (SC.out.keep hK2);have hK2 := (Keep.any (ok := But g) hK2);have KW := hyd (KW.out.trans hK2);have BX := hyd (blk_keep hK2 BX.out (by show w.heap.size ≠ g;omega));clear hK2;obtain ⟨y0,y1,y2,y3,y4,y5,y6,y7⟩ := at8c BX.out;cases b) | (go_at_call 132;refine (fail_calls n g 2 _ ⟨by decide,by decide⟩ SC.out).mono ?_;rintro e w2 ⟨rfl,hS2,hK2⟩;have SC := hyd hS2;clear hS2;have KW := hyd (KW.out.trans hK2);have BX := hyd (blk_keep hK2 BX.out (by show w.heap.size ≠ g;omega));clear hK2;obtain ⟨y0,y1,y2,y3,y4,y5,y6,y7⟩ := at8c BX.out) | (go_at_call 136;refine (l4Names_all 4 (by decide) v _ _ [] 0 _ WV.out ((HV.out.keep (KW.out.alloc (.cells #[] 9 (0,0)))).any) (strs_none (blk_new _ _) trivial) (by simp) (by decide) (fun x hx => by cases hx)).mono ?_;rintro e w2 ⟨o2,l2,rfl,hO2,hn2,hs2,hK2⟩;have hK2 := ((Keep.refl Any _).alloc (.cells #[] 9 (0,0))).trans hK2;have O2 := hyd hO2;clear hO2;have SC := hyd (SC.out.keep hK2);have hK2 := (Keep.any (ok := But g) hK2);have KW := hyd (KW.out.trans hK2);have BX := hyd (blk_keep hK2 BX.out (by show w.heap.size ≠ g;omega));clear hK2;obtain ⟨y0,y1,y2,y3,y4,y5,y6,y7⟩ := at8c BX.out) | (go_at_call 135;refine (asks_calls n g l2 _ _ SC.out (SC.out.but O2.out)).mono ?_;rintro e w2 ⟨rfl,hS2,hK2⟩;have SC := hyd hS2;clear hS2;have KW := hyd (KW.out.trans hK2);have BX := hyd (blk_keep hK2 BX.out (by show w.heap.size ≠ g;omega));clear hK2;obtain ⟨y0,y1,y2,y3,y4,y5,y6,y7⟩ := at8c BX.out))
  all_goals
    go_end0
    exact ⟨rfl,SC.out,KW.out⟩
theorem pats_calls (n g : Nat) (l : List Pt) (v : Value) (w : World) (h : Scp n w g) (hl : Pts w (But g) v l) (hw : ∀ x,x ∈ l → WfPt x) : Calls Tryz.prog 159 #[.pointer (some ⟨g,0,none⟩),v] w (GotScp n g w) := by
  have HL := hyd hl
  have WL := hyd hw
  have H0 := hyd h
  obtain ⟨a,c,rfl,hc,hm,_⟩ := hl
  clear h hw
  go_enter Tryz.func159,Tryz.ntmps159
  go_wp2
  go_loopg [4] (l.length + 1) (fun gg i wr => ∃ k : Nat,k ≤ l.length ∧ i = .int .i64 k ∧ gg = l.length + 1 - k ∧ Scp n wr g ∧ Keep (But g) w wr)
  case atStart => exact ⟨0,by omega,rfl,rfl,H0.out,Keep.refl _ _⟩
  case round =>
    obtain ⟨k,hk,rfl,hg,hS,hK⟩ := hrel
    have HG := hyd hg
    have KW := hyd hK
    have SC := hyd hS
    clear hg hK hS
    by_cases hlt : k < l.length
    · have hx : l[k]? = some l[k] := List.getElem?_eq_getElem hlt
      have WX := hyd (WL.out _ (List.mem_of_getElem? hx))
      obtain ⟨ad,vax,vcx,pax,pcx,rfl,hFx,FX⟩ := pts_all HL.out hx
      have FX := hyd FX
      generalize l[k] = x at *
      clear hx
      obtain ⟨hvx,cx0,cx1,cx2,cx3,cx4,cx5,cx6,cx7,cx8⟩ := FX.out _ KW.out
      have Hhvx := hyd hvx
      clear hvx
      have k0 : (0 : Int) ≤ (k : Int) := by omega
      have k1 : (k : Int) < (l.length : Int) := by omega
      go_wp2_with (go_at_call 130;refine (uses_calls n g x.ex _ _ SC.out Hhvx.out WX.out.2).mono ?_;rintro e w2 ⟨rfl,hS2,hK2⟩;have SC := hyd hS2;clear hS2;have KW := hyd (KW.out.trans hK2);clear hK2;obtain ⟨hvx,cx0,cx1,cx2,cx3,cx4,cx5,cx6,cx7,cx8⟩ := FX.out _ KW.out;have Hhvx := hyd hvx;clear hvx)
      go_roundg (gk - 1)
      case rel => exact ⟨k + 1,by omega,by go_num,by have := HG.out;omega,SC.out,KW.out⟩
      case measure => have := HG.out;omega
    · go_wp2
      go_end0
      exact ⟨rfl,SC.out,KW.out⟩

/- The reference's scope: spots,patterns. -/
set_option maxRecDepth 20000
set_option maxHeartbeats 4000000
theorem spot_calls (n g : Nat) (x : Sp) (cs : List Value) (mk : Bool) (w : World) (hn9 : n ≤ 900) (h : Scp n w g) (hx : SpR w (But g) x cs) (hw : WfSp x) : Calls Tryz.prog 150 #[.pointer (some ⟨g,0,none⟩),.agg cs.toArray,.bool mk] w (GotScp (n + 1) g w) := by
  have WX := hyd hw
  have zg : g < w.heap.size := by obtain ⟨v,l,c,hb,_⟩ := h;exact blk_lt hb
  obtain ⟨v,rfl,h1,h2,h3⟩ := hx
  have HP := hyd h3
  obtain ⟨pa,pc,rfl,_⟩ := h3
  have KW := hyd ((Keep.refl (But g) w).alloc (.cells #[.string x.name,.string x.label,.slice pa x.props.length pc] 152 (0,0)))
  have BX := hyd (blk_new w (.cells #[.string x.name,.string x.label,.slice pa x.props.length pc] 152 (0,0)))
  have SC := hyd (h.keep ((Keep.refl Any w).alloc (.cells #[.string x.name,.string x.label,.slice pa x.props.length pc] 152 (0,0))))
  clear h hw
  obtain ⟨y0,y1,y2⟩ := at3c BX.out
  obtain ⟨u,hu⟩ : ∃ t,(x.label.toList == ([] : List UInt8)) = t := ⟨_,rfl⟩
  have hu2 : (x.label.toList != ([] : List UInt8)) = !u := by rw [bne,hu]
  obtain ⟨tp,htp⟩ : ∃ t,decide ((0 : Int) < (x.props.length : Int)) = t := ⟨_,rfl⟩
  go_enter Tryz.func150,Tryz.ntmps150
  go_wp2_with (go_at_call 159;refine (pats_calls n g x.props _ _ SC.out (Pts.keep HP.out KW.out) WX.out.2.2.2).mono ?_;rintro e w2 ⟨rfl,hS2,hK2⟩;have SC := hyd hS2;clear hS2;have KW := hyd (KW.out.trans hK2);have BX := hyd (blk_keep hK2 BX.out (by show w.heap.size ≠ g;omega));clear hK2;obtain ⟨y0,y1,y2⟩ := at3c BX.out)
  obtain ⟨vn,ln,cd,hbS,hsS,_,_,_⟩ := SC.out
  have NS := hyd hsS.any
  obtain ⟨an,cn,rfl,_⟩ := hsS
  have x0 := (blk_cell hbS 0).trans rfl
  have HQ := hyd (fun w' (k : Keep Any w2 w') => l2Has_quiet ln _ x.name w' (Strs.keep NS.out k))
  obtain ⟨tq,htq⟩ : ∃ t,hasB ln x.name = t := ⟨_,rfl⟩
  rw [htq] at HQ
  clear hbS
  have zg2 : g < w2.heap.size := by obtain ⟨v,l,c,hb,_⟩ := SC.out;exact blk_lt hb
  by_cases hp0 : (0 : Int) < (x.props.length : Int)
  all_goals cases mk
  all_goals cases u
  all_goals cases tq
  all_goals
    go_wp2
    go_quiet ((go_at_call 131;exact Calls.quiet_of_same (HQ.out _ (by first | exact Keep.refl _ _ | exact (Keep.refl _ _).drew | exact (Keep.refl _ _).drewN _))))
    go_wp2_with (first | (go_at_call 132;refine (fail_calls n g 4 _ ⟨by decide,by decide⟩ (SC.out.keep (by first | exact Keep.refl _ _ | exact (Keep.refl _ _).drew | exact (Keep.refl _ _).drewN _))).mono ?_;rintro e w2 ⟨rfl,hS2,hK2⟩;have SC := hyd hS2;clear hS2;have KW := hyd (KW.out.trans (Keep.trans (by first | exact Keep.refl _ _ | exact (Keep.refl _ _).drew | exact (Keep.refl _ _).drewN _) hK2));have BX := hyd (blk_keep (Keep.trans (by first | exact Keep.refl _ _ | exact (Keep.refl _ _).drew | exact (Keep.refl _ _).drewN _) hK2) BX.out (by show w.heap.size ≠ g;omega));obtain ⟨y0,y1,y2⟩ := at3c BX.out) | (go_at_call 133;refine (adds_calls n g x.name _ hn9 WX.out.1 (SC.out.keep (by first | exact Keep.refl _ _ | exact (Keep.refl _ _).drew | exact (Keep.refl _ _).drewN _))).mono ?_;rintro e w2 ⟨rfl,hS2,hK2⟩;have SC := hyd hS2;clear hS2;have KW := hyd (KW.out.trans (Keep.trans (by first | exact Keep.refl _ _ | exact (Keep.refl _ _).drew | exact (Keep.refl _ _).drewN _) hK2));have BX := hyd (blk_keep (Keep.trans (by first | exact Keep.refl _ _ | exact (Keep.refl _ _).drew | exact (Keep.refl _ _).drewN _) hK2) BX.out (by show w.heap.size ≠ g;omega));obtain ⟨y0,y1,y2⟩ := at3c BX.out))
    go_end0
    exact ⟨rfl,SC.out,KW.out⟩

/- The reference's scope: patterns. -/
set_option maxRecDepth 20000
set_option maxHeartbeats 4000000
theorem paths_calls (n g : Nat) (l : List Pa) (v : Value) (mk : Bool) (w : World) (hn9 : n + 5 * l.length ≤ 800) (h : Scp n w g) (hl : Pas w (But g) v l) (hw : ∀ x,x ∈ l → WfPa x) : Calls Tryz.prog 129 #[.pointer (some ⟨g,0,none⟩),v,.bool mk] w (GotScp (n + 5 * l.length) g w) := by
  have HL := hyd hl
  have WL := hyd hw
  have H0 := hyd h
  have zg : g < w.heap.size := by obtain ⟨v,l,c,hb,_⟩ := h;exact blk_lt hb
  obtain ⟨a,c,rfl,hc,hm,_⟩ := hl
  clear h hw
  go_enter Tryz.func129,Tryz.ntmps129
  go_wp2
  go_loopg [6] (l.length + 1) (fun gg i wr => ∃ k : Nat,k ≤ l.length ∧ i = .int .i64 k ∧ gg = l.length + 1 - k ∧ Scp (n + 5 * k) wr g ∧ Keep (But g) w wr)
  case atStart => exact ⟨0,by omega,rfl,rfl,H0.out,Keep.refl _ _⟩
  case round =>
    obtain ⟨k,hk,rfl,hg,hS,hK⟩ := hrel
    have HG := hyd hg
    have KW := hyd hK
    have SC := hyd hS
    clear hg hK hS
    by_cases hlt : k < l.length
    · have hx : l[k]? = some l[k] := List.getElem?_eq_getElem hlt
      have WX := hyd (WL.out _ (List.mem_of_getElem? hx))
      obtain ⟨ad,pax,pcx,hax,hcx,rfl,FX⟩ := pas_all HL.out hx
      have FX := hyd FX
      generalize l[k] = x at *
      clear hx
      obtain ⟨hvx,hhx,cx0,cx1,cx2,cx3⟩ := FX.out _ KW.out
      have Hhvx := hyd hvx
      clear hvx
      have Hhhx := hyd hhx
      clear hhx
      have HHX := hyd (FX.out _ (Keep.refl _ _)).2.1
      have hhm := sl_len HHX.out
      have hh2 : x.hops.length ≤ 2 := WX.out.2.1
      have k0 : (0 : Int) ≤ (k : Int) := by omega
      have k1 : (k : Int) < (l.length : Int) := by omega
      go_wp2_with (go_at_call 150;refine (spot_calls (n + 5 * k) g x.spot _ mk _ (by omega) SC.out Hhvx.out WX.out.1).mono ?_;rintro e w2 ⟨rfl,hS2,hK2⟩;have SC := hyd hS2;clear hS2;have KW := hyd (KW.out.trans hK2);clear hK2;obtain ⟨hvx,hhx,cx0,cx1,cx2,cx3⟩ := FX.out _ KW.out;have Hhvx := hyd hvx;clear hvx;have Hhhx := hyd hhx;clear hhx)
      obtain ⟨gO,hgO⟩ : ∃ y,y = gk := ⟨_,rfl⟩
      subst hgO
      obtain ⟨wy,hwy⟩ : ∃ y,y = w2 := ⟨_,rfl⟩
      go_loopg [7] (x.hops.length + 1) (fun g' i wr => ∃ j : Nat,j ≤ x.hops.length ∧ i = .int .i64 j ∧ g' = x.hops.length + 1 - j ∧ Scp (n + 5 * k + 1 + 2 * j) wr g ∧ Keep (But g) w wr)
      case atStart => exact ⟨0,by omega,rfl,rfl,SC.out,KW.out⟩
      case round =>
        clear KW SC
        obtain ⟨j,hj,rfl,hgj,hS,hK⟩ := hrel
        have HJ := hyd hgj
        have KW := hyd hK
        have SC := hyd hS
        clear hgj hK hS
        obtain ⟨hvx,hhx,cx0,cx1,cx2,cx3⟩ := FX.out _ KW.out
        have Hhvx := hyd hvx
        clear hvx
        have Hhhx := hyd hhx
        clear hhx
        by_cases hlj : j < x.hops.length
        · have hy : x.hops[j]? = some x.hops[j] := List.getElem?_eq_getElem hlj
          have WY := hyd (WX.out.2.2 _ (List.mem_of_getElem? hy))
          obtain ⟨adh,pay,pcy,e,hFy,hGy,hIy,FY⟩ := hps_all HHX.out hy
          have FY := hyd FY
          cases e
          generalize x.hops[j] = y at *
          clear hy
          obtain ⟨hvx,hhx,cx0,cx1,cx2,cx3⟩ := FX.out _ KW.out
          have Hhvx := hyd hvx
          clear hvx
          have Hhhx := hyd hhx
          clear hhx
          obtain ⟨hvy,cy0,cy1,cy2,cy3,cy4,cy5⟩ := FY.out _ KW.out
          have Hhvy := hyd hvy
          clear hvy
          have j0 : (0 : Int) ≤ (j : Int) := by omega
          have j1 : (j : Int) < (x.hops.length : Int) := by omega
          have zy : But g wr.heap.size := by show wr.heap.size ≠ g;have := KW.out.size;omega
          have BY := hyd (blk_new wr (.cells #[.string y.name,.string y.kind,.int .i64 y.way,.string y.spot.name,.string y.spot.label,.slice pay y.spot.props.length pcy] 181 (0,0)))
          have KW := hyd (KW.out.alloc (.cells #[.string y.name,.string y.kind,.int .i64 y.way,.string y.spot.name,.string y.spot.label,.slice pay y.spot.props.length pcy] 181 (0,0)))
          have SC := hyd (SC.out.keep ((Keep.refl Any wr).alloc (.cells #[.string y.name,.string y.kind,.int .i64 y.way,.string y.spot.name,.string y.spot.label,.slice pay y.spot.props.length pcy] 181 (0,0))))
          obtain ⟨z0,z1,z2,z3,z4,z5⟩ := at6c BY.out
          go_upto_region 8 with fail
          go_cut [51] from 41 to 50 (fun v wc => ∃ b : Bool,v = .bool b ∧ Scp (n + 5 * k + 1 + 2 * j) wc g ∧ wc.heap[wr.heap.size]? = some (.cells #[.string y.name,.string y.kind,.int .i64 y.way,.string y.spot.name,.string y.spot.label,.slice pay y.spot.props.length pcy] 181 (0,0)) ∧ Keep (But g) w wc)
          case first =>
            obtain ⟨u1,hu1⟩ : ∃ t,(y.kind.toList == ([] : List UInt8)) = t := ⟨_,rfl⟩
            obtain ⟨u2,hu2⟩ : ∃ t,(y.way == 0) = t := ⟨_,rfl⟩
            cases mk
            all_goals
              go_wp2
              all_goals
                go_meet
                exact ⟨_,rfl,SC.out,BY.out,KW.out⟩
          case rest =>
          obtain ⟨b51,rfl,hS,hB,hK⟩ := hcut
          clear KW BY SC
          have KW := hyd hK
          have BY := hyd hB
          have SC := hyd hS
          clear hK hB hS
          obtain ⟨z0,z1,z2,z3,z4,z5⟩ := at6c BY.out
          obtain ⟨hvx,hhx,cx0,cx1,cx2,cx3⟩ := FX.out _ KW.out
          have Hhvx := hyd hvx
          clear hvx
          have Hhhx := hyd hhx
          clear hhx
          obtain ⟨hvy,cy0,cy1,cy2,cy3,cy4,cy5⟩ := FY.out _ KW.out
          have Hhvy := hyd hvy
          clear hvy
          go_upto_if 51 with fail
          go_cut [6] from 52 to 53 (fun v wc => v = .int .i64 k ∧ Scp (n + 5 * k + 1 + 2 * j) wc g ∧ wc.heap[wr.heap.size]? = some (.cells #[.string y.name,.string y.kind,.int .i64 y.way,.string y.spot.name,.string y.spot.label,.slice pay y.spot.props.length pcy] 181 (0,0)) ∧ Keep (But g) w wc)
          case first =>
            cases b51
            all_goals
              go_wp2_with (go_at_call 132;refine (fail_calls (n + 5 * k + 1 + 2 * j) g 2 _ ⟨by decide,by decide⟩ SC.out).mono ?_;rintro e w2 ⟨rfl,hS2,hK2⟩;have SC := hyd hS2;clear hS2;have KW := hyd (KW.out.trans hK2);have BY := hyd (blk_keep hK2 BY.out zy);clear hK2;obtain ⟨z0,z1,z2,z3,z4,z5⟩ := at6c BY.out;obtain ⟨hvx,hhx,cx0,cx1,cx2,cx3⟩ := FX.out _ KW.out;have Hhvx := hyd hvx;clear hvx;have Hhhx := hyd hhx;clear hhx;obtain ⟨hvy,cy0,cy1,cy2,cy3,cy4,cy5⟩ := FY.out _ KW.out;have Hhvy := hyd hvy;clear hvy)
              go_meet
              exact ⟨rfl,SC.out,BY.out,KW.out⟩
          case rest =>
          obtain ⟨rfl,hS,hB,hK⟩ := hcut
          clear KW BY SC
          have KW := hyd hK
          have BY := hyd hB
          have SC := hyd hS
          clear hK hB hS
          obtain ⟨z0,z1,z2,z3,z4,z5⟩ := at6c BY.out
          obtain ⟨hvx,hhx,cx0,cx1,cx2,cx3⟩ := FX.out _ KW.out
          have Hhvx := hyd hvx
          clear hvx
          have Hhhx := hyd hhx
          clear hhx
          obtain ⟨hvy,cy0,cy1,cy2,cy3,cy4,cy5⟩ := FY.out _ KW.out
          have Hhvy := hyd hvy
          clear hvy
          go_upto_region 10 with fail
          go_cut [60] from 54 to 59 (fun v wc => ∃ b : Bool,v = .bool b ∧ Scp (n + 5 * k + 1 + 2 * j) wc g ∧ wc.heap[wr.heap.size]? = some (.cells #[.string y.name,.string y.kind,.int .i64 y.way,.string y.spot.name,.string y.spot.label,.slice pay y.spot.props.length pcy] 181 (0,0)) ∧ Keep (But g) w wc)
          case first =>
            obtain ⟨vn,ln,cd,hbS,hsS,_,_,_⟩ := SC.out
            have NS := hyd hsS.any
            obtain ⟨an,cn,rfl,_⟩ := hsS
            have x0 := (blk_cell hbS 0).trans rfl
            have HQ := hyd (fun w' (k : Keep Any wc w') => l2Has_quiet ln _ y.name w' (Strs.keep NS.out k))
            obtain ⟨tq,htq⟩ : ∃ t,hasB ln y.name = t := ⟨_,rfl⟩
            rw [htq] at HQ
            clear hbS
            have zg2 : g < wc.heap.size := by obtain ⟨v,l,c,hb,_⟩ := SC.out;exact blk_lt hb
            go_quiet ((go_at_call 131;exact Calls.quiet_of_same (HQ.out _ (by first | exact Keep.refl _ _ | exact (Keep.refl _ _).drew | exact (Keep.refl _ _).drewN _))))
            go_wp2
            go_meet
            exact ⟨_,rfl,SC.out.keep ((Keep.refl _ _).drewN _),BY.out,KW.out.drewN _⟩
          case rest =>
          obtain ⟨b60,rfl,hS,hB,hK⟩ := hcut
          clear KW BY SC
          have KW := hyd hK
          have BY := hyd hB
          have SC := hyd hS
          clear hK hB hS
          obtain ⟨z0,z1,z2,z3,z4,z5⟩ := at6c BY.out
          obtain ⟨hvx,hhx,cx0,cx1,cx2,cx3⟩ := FX.out _ KW.out
          have Hhvx := hyd hvx
          clear hvx
          have Hhhx := hyd hhx
          clear hhx
          obtain ⟨hvy,cy0,cy1,cy2,cy3,cy4,cy5⟩ := FY.out _ KW.out
          have Hhvy := hyd hvy
          clear hvy
          go_upto_if 60 with fail
          go_cut [6] from 61 to 62 (fun v wc => v = .int .i64 k ∧ Scp (n + 5 * k + 1 + 2 * j) wc g ∧ wc.heap[wr.heap.size]? = some (.cells #[.string y.name,.string y.kind,.int .i64 y.way,.string y.spot.name,.string y.spot.label,.slice pay y.spot.props.length pcy] 181 (0,0)) ∧ Keep (But g) w wc)
          case first =>
            cases b60
            all_goals
              go_wp2_with (go_at_call 132;refine (fail_calls (n + 5 * k + 1 + 2 * j) g 4 _ ⟨by decide,by decide⟩ SC.out).mono ?_;rintro e w2 ⟨rfl,hS2,hK2⟩;have SC := hyd hS2;clear hS2;have KW := hyd (KW.out.trans hK2);have BY := hyd (blk_keep hK2 BY.out zy);clear hK2;obtain ⟨z0,z1,z2,z3,z4,z5⟩ := at6c BY.out;obtain ⟨hvx,hhx,cx0,cx1,cx2,cx3⟩ := FX.out _ KW.out;have Hhvx := hyd hvx;clear hvx;have Hhhx := hyd hhx;clear hhx;obtain ⟨hvy,cy0,cy1,cy2,cy3,cy4,cy5⟩ := FY.out _ KW.out;have Hhvy := hyd hvy;clear hvy)
              go_meet
              exact ⟨rfl,SC.out,BY.out,KW.out⟩
          case rest =>
          obtain ⟨rfl,hS,hB,hK⟩ := hcut
          clear KW BY SC
          have KW := hyd hK
          have BY := hyd hB
          have SC := hyd hS
          clear hK hB hS
          obtain ⟨z0,z1,z2,z3,z4,z5⟩ := at6c BY.out
          obtain ⟨hvx,hhx,cx0,cx1,cx2,cx3⟩ := FX.out _ KW.out
          have Hhvx := hyd hvx
          clear hvx
          have Hhhx := hyd hhx
          clear hhx
          obtain ⟨hvy,cy0,cy1,cy2,cy3,cy4,cy5⟩ := FY.out _ KW.out
          have Hhvy := hyd hvy
          clear hvy
          go_wp2_with (first | (go_at_call 133;refine (adds_calls (n + 5 * k + 1 + 2 * j) g y.name _ (by omega) WY.out.1 SC.out).mono ?_;rintro e w2 ⟨rfl,hS2,hK2⟩;have SC := hyd hS2;clear hS2;have KW := hyd (KW.out.trans hK2);have BY := hyd (blk_keep hK2 BY.out zy);clear hK2;obtain ⟨z0,z1,z2,z3,z4,z5⟩ := at6c BY.out;obtain ⟨hvx,hhx,cx0,cx1,cx2,cx3⟩ := FX.out _ KW.out;have Hhvx := hyd hvx;clear hvx;have Hhhx := hyd hhx;clear hhx;obtain ⟨hvy,cy0,cy1,cy2,cy3,cy4,cy5⟩ := FY.out _ KW.out;have Hhvy := hyd hvy;clear hvy) | (go_at_call 150;refine (spot_calls ((n + 5 * k + 1 + 2 * j) + 1) g y.spot _ mk _ (by omega) SC.out Hhvy.out WY.out.2.2).mono ?_;rintro e w2 ⟨rfl,hS2,hK2⟩;have SC := hyd hS2;clear hS2;have KW := hyd (KW.out.trans hK2);have BY := hyd (blk_keep hK2 BY.out zy);clear hK2;obtain ⟨z0,z1,z2,z3,z4,z5⟩ := at6c BY.out;obtain ⟨hvx,hhx,cx0,cx1,cx2,cx3⟩ := FX.out _ KW.out;have Hhvx := hyd hvx;clear hvx;have Hhhx := hyd hhx;clear hhx;obtain ⟨hvy,cy0,cy1,cy2,cy3,cy4,cy5⟩ := FY.out _ KW.out;have Hhvy := hyd hvy;clear hvy))
          go_roundg (gk - 1)
          case rel => exact ⟨j + 1,by omega,by go_num,by have := HJ.out;omega,SC.out.up (by omega),KW.out⟩
          case measure => have := HJ.out;omega
        · obtain rfl : j = x.hops.length := by omega
          go_wp2
          go_roundg (gO - 1)
          case rel => exact ⟨k + 1,by omega,by go_num,by have := HG.out;omega,SC.out.up (by omega),KW.out⟩
          case measure => have := HG.out;omega
    · go_wp2
      go_end0
      exact ⟨rfl,SC.out.up (by omega),KW.out⟩

/- The reference's scope: its names stay where it asks. -/
set_option maxRecDepth 20000
set_option maxHeartbeats 4000000
def ScV (v : Value) (w : World) (g : Nat) : Prop := ∃ c : Int,w.heap[g]? = some (.cells #[v,.int .i64 c] 147 (0,0)) ∧ I64 c
theorem ScV.keep {v : Value} {g : Nat} {w w' : World} {ok : Nat → Prop} (h : ScV v w g) (k : Keep ok w w') (hg : ok g) : ScV v w' g := by
  obtain ⟨c,hb,hc⟩ := h
  exact ⟨c,blk_keep k hb hg,hc⟩
def GotScV (v : Value) (g : Nat) (w : World) (e : Ending) (w' : World) : Prop := e = .returned (.tuple #[]) ∧ ScV v w' g ∧ Keep (But g) w w'
theorem fail2_calls (v : Value) (g : Nat) (k : Int) (w : World) (hk : I64 k) (h : ScV v w g) : Calls Tryz.prog 132 #[.pointer (some ⟨g,0,none⟩),.int .i64 k] w (GotScV v g w) := by
  obtain ⟨c,hb,hc⟩ := h
  have x0 := (blk_cell hb 0).trans rfl
  have x1 := (blk_cell hb 1).trans rfl
  have f1 := blk_frozen hb 1
  have zg := blk_lt hb
  obtain ⟨t,ht⟩ : ∃ t,(c == 0) = t := ⟨_,rfl⟩
  go_enter Tryz.func132,Tryz.ntmps132
  cases t
  · go_wp2
    go_end0
    exact ⟨rfl,⟨c,hb,hc⟩,Keep.refl _ _⟩
  · go_wp2
    go_end0
    exact ⟨rfl,⟨k,(blk_set hb 1 _).trans rfl,hk⟩,(Keep.refl (But g) w).set _ _ (fun _ h => h rfl)⟩
theorem asks2_calls (an : Option Addr) (nn cn : Nat) (g : Nat) (ln : List ByteArray) (l : List ByteArray) (v : Value) (w : World) (h : ScV (.slice an nn cn) w g) (hn : Strs w (But g) (.slice an nn cn) ln) (hl : Strs w (But g) v l) : Calls Tryz.prog 135 #[.pointer (some ⟨g,0,none⟩),v] w (GotScV (.slice an nn cn) g w) := by
  have HL := hyd hl
  have H0 := hyd h
  have HN := hyd hn
  obtain ⟨a,c,rfl,hc,hm,_⟩ := hl
  clear h hn
  go_enter Tryz.func135,Tryz.ntmps135
  go_wp2
  go_loopg [4] (l.length + 1) (fun gg i wr => ∃ k : Nat,k ≤ l.length ∧ i = .int .i64 k ∧ gg = l.length + 1 - k ∧ ScV (.slice an nn cn) wr g ∧ Keep (But g) w wr)
  case atStart => exact ⟨0,by omega,rfl,rfl,H0.out,Keep.refl _ _⟩
  case round =>
    obtain ⟨k,hk,rfl,hg,hS,hK⟩ := hrel
    have HG := hyd hg
    have KW := hyd hK
    have SC := hyd hS
    clear hg hK hS
    by_cases hlt : k < l.length
    · have hx : l[k]? = some l[k] := List.getElem?_eq_getElem hlt
      obtain ⟨ad,rfl,hFx,FX⟩ := strs_all HL.out hx
      have c0 := FX _ KW.out
      generalize l[k] = x at *
      clear hx FX
      obtain ⟨cd,hb,hcd⟩ := SC.out
      have NS := hyd (Strs.keep HN.out KW.out).any
      have x0 := (blk_cell hb 0).trans rfl
      have zg := blk_lt hb
      have k0 : (0 : Int) ≤ (k : Int) := by omega
      have k1 : (k : Int) < (l.length : Int) := by omega
      have HQ := hyd (fun w' (k : Keep Any wr w') => l2Has_quiet ln _ x w' (Strs.keep NS.out k))
      obtain ⟨t,ht⟩ : ∃ t,hasB ln x = t := ⟨_,rfl⟩
      rw [ht] at HQ
      go_wp2
      go_quiet ((go_at_call 131;exact Calls.quiet_of_same (HQ.out _ (by first | exact Keep.refl _ _ | exact (Keep.refl _ _).drew | exact (Keep.refl _ _).drewN _))))
      cases t
      · go_wp2_with (go_at_call 132;refine (fail2_calls _ g 3 _ ⟨by decide,by decide⟩ (SC.out.keep (by first | exact Keep.refl Any _ | exact (Keep.refl Any _).drew | exact (Keep.refl Any _).drewN _) trivial)).mono ?_;rintro e w2 ⟨rfl,hS,hK⟩;have K2 := hyd ((KW.out.drewN _).trans hK);have S2 := hyd hS;clear hS hK)
        go_roundg (gk - 1)
        case rel => exact ⟨k + 1,by omega,by go_num,by have := HG.out;omega,S2.out,K2.out⟩
        case measure => have := HG.out;omega
      · go_wp2
        go_roundg (gk - 1)
        case rel => exact ⟨k + 1,by omega,by go_num,by have := HG.out;omega,SC.out.keep ((Keep.refl Any _).drewN _) trivial,KW.out.drewN _⟩
        case measure => have := HG.out;omega
    · go_wp2
      go_end0
      exact ⟨rfl,SC.out,KW.out⟩

/- The reference's scope of a clause,for some kinds of it. -/
set_option maxRecDepth 20000
set_option maxHeartbeats 4000000
theorem clause_k1 (n g : Nat) (x : Cl) (cs : List Value) (w : World) (hn9 : n ≤ 700) (h : Scp n w g) (hs : ClR w (But g) x cs) (hw : WfCl x) (hki : x.kind = 1) : Calls Tryz.prog 105 #[.pointer (some ⟨g,0,none⟩),.agg cs.toArray] w (GotScp (n + 10) g w) := by
  have zg : g < w.heap.size := by obtain ⟨v,l,c,hb,_⟩ := h;exact blk_lt hb
  obtain ⟨ap,cp,va,vc,pa,pc,ai,ci,ao,co,at',ct,an,cn,rfl,hk,hpa,hex,hna,hit,hod,hsk,hli,hto,hns⟩ := cl_open hs
  have HPA := hyd hpa
  have HEX := hyd hex
  have HIT := hyd hit
  have HTO := hyd hto
  have HNS := hyd hns
  have WC := hyd hw
  have H0 := hyd h
  have lpa := sl_len hpa
  have lit := sl_len hit
  have lto := sl_len hto
  have lns := sl_len hns
  have KW := hyd ((Keep.refl (But g) w).alloc (.cells #[.int .i64 x.kind,.slice ap x.paths.length cp,.int .i64 x.ex.kind,.int .i64 x.ex.val.kind,.int .i64 x.ex.val.num,.string x.ex.val.text,.slice va x.ex.val.list.length vc,.string x.ex.name,.string x.ex.key,.slice pa x.ex.parts.length pc,.string x.name,.slice ai x.items.length ci,.bool x.distinct,.slice ao x.orders.length co,.int .i64 x.skip,.int .i64 x.limit,.slice at' x.tos.length ct,.slice an x.names.length cn,.bool x.detach] 122 (0,0)))
  have BX := hyd (blk_new w (.cells #[.int .i64 x.kind,.slice ap x.paths.length cp,.int .i64 x.ex.kind,.int .i64 x.ex.val.kind,.int .i64 x.ex.val.num,.string x.ex.val.text,.slice va x.ex.val.list.length vc,.string x.ex.name,.string x.ex.key,.slice pa x.ex.parts.length pc,.string x.name,.slice ai x.items.length ci,.bool x.distinct,.slice ao x.orders.length co,.int .i64 x.skip,.int .i64 x.limit,.slice at' x.tos.length ct,.slice an x.names.length cn,.bool x.detach] 122 (0,0)))
  have SC := hyd (h.keep ((Keep.refl Any w).alloc (.cells #[.int .i64 x.kind,.slice ap x.paths.length cp,.int .i64 x.ex.kind,.int .i64 x.ex.val.kind,.int .i64 x.ex.val.num,.string x.ex.val.text,.slice va x.ex.val.list.length vc,.string x.ex.name,.string x.ex.key,.slice pa x.ex.parts.length pc,.string x.name,.slice ai x.items.length ci,.bool x.distinct,.slice ao x.orders.length co,.int .i64 x.skip,.int .i64 x.limit,.slice at' x.tos.length ct,.slice an x.names.length cn,.bool x.detach] 122 (0,0))))
  clear h hw hs hpa hex hit hod hto hns
  have q1 : (x.kind == 1) = true := by rw [hki];rfl
  have q2 : (x.kind == 2) = false := by rw [hki];rfl
  have q7 : (x.kind == 7) = false := by rw [hki];rfl
  have q3 : (x.kind == 3) = false := by rw [hki];rfl
  have q4 : (x.kind == 4) = false := by rw [hki];rfl
  have q5 : (x.kind == 5) = false := by rw [hki];rfl
  have q6 : (x.kind == 6) = false := by rw [hki];rfl
  have q8 : (x.kind == 8) = false := by rw [hki];rfl
  have q9 : (x.kind == 9) = false := by rw [hki];rfl
  have HKI := hyd hki
  clear hki
  obtain ⟨y0,y1,y2,y3,y4,y5,y6,y7,y8,y9,y10,y11,y12,y13,y14,y15,y16,y17,y18⟩ := at19c BX.out
  go_enter Tryz.func105,Tryz.ntmps105
  have lp2 : x.paths.length ≤ 2 := WC.out.paths.1
  go_wp2_with (go_at_call 129;refine (paths_calls n g x.paths _ false _ (by omega) SC.out (Pas.keep HPA.out KW.out) WC.out.paths.2).mono ?_;rintro e w2 ⟨rfl,hS2,hK2⟩;have SC := hyd hS2;clear hS2;have KW := hyd (KW.out.trans hK2);have BX := hyd (blk_keep hK2 BX.out (by show w.heap.size ≠ g;omega));clear hK2;obtain ⟨y0,y1,y2,y3,y4,y5,y6,y7,y8,y9,y10,y11,y12,y13,y14,y15,y16,y17,y18⟩ := at19c BX.out)
  go_end0
  exact ⟨rfl,SC.out.up (by omega),KW.out⟩
theorem clause_k2 (n g : Nat) (x : Cl) (cs : List Value) (w : World) (hn9 : n ≤ 700) (h : Scp n w g) (hs : ClR w (But g) x cs) (hw : WfCl x) (hki : x.kind = 2) : Calls Tryz.prog 105 #[.pointer (some ⟨g,0,none⟩),.agg cs.toArray] w (GotScp (n + 10) g w) := by
  have zg : g < w.heap.size := by obtain ⟨v,l,c,hb,_⟩ := h;exact blk_lt hb
  obtain ⟨ap,cp,va,vc,pa,pc,ai,ci,ao,co,at',ct,an,cn,rfl,hk,hpa,hex,hna,hit,hod,hsk,hli,hto,hns⟩ := cl_open hs
  have HPA := hyd hpa
  have HEX := hyd hex
  have HIT := hyd hit
  have HTO := hyd hto
  have HNS := hyd hns
  have WC := hyd hw
  have H0 := hyd h
  have lpa := sl_len hpa
  have lit := sl_len hit
  have lto := sl_len hto
  have lns := sl_len hns
  have KW := hyd ((Keep.refl (But g) w).alloc (.cells #[.int .i64 x.kind,.slice ap x.paths.length cp,.int .i64 x.ex.kind,.int .i64 x.ex.val.kind,.int .i64 x.ex.val.num,.string x.ex.val.text,.slice va x.ex.val.list.length vc,.string x.ex.name,.string x.ex.key,.slice pa x.ex.parts.length pc,.string x.name,.slice ai x.items.length ci,.bool x.distinct,.slice ao x.orders.length co,.int .i64 x.skip,.int .i64 x.limit,.slice at' x.tos.length ct,.slice an x.names.length cn,.bool x.detach] 122 (0,0)))
  have BX := hyd (blk_new w (.cells #[.int .i64 x.kind,.slice ap x.paths.length cp,.int .i64 x.ex.kind,.int .i64 x.ex.val.kind,.int .i64 x.ex.val.num,.string x.ex.val.text,.slice va x.ex.val.list.length vc,.string x.ex.name,.string x.ex.key,.slice pa x.ex.parts.length pc,.string x.name,.slice ai x.items.length ci,.bool x.distinct,.slice ao x.orders.length co,.int .i64 x.skip,.int .i64 x.limit,.slice at' x.tos.length ct,.slice an x.names.length cn,.bool x.detach] 122 (0,0)))
  have SC := hyd (h.keep ((Keep.refl Any w).alloc (.cells #[.int .i64 x.kind,.slice ap x.paths.length cp,.int .i64 x.ex.kind,.int .i64 x.ex.val.kind,.int .i64 x.ex.val.num,.string x.ex.val.text,.slice va x.ex.val.list.length vc,.string x.ex.name,.string x.ex.key,.slice pa x.ex.parts.length pc,.string x.name,.slice ai x.items.length ci,.bool x.distinct,.slice ao x.orders.length co,.int .i64 x.skip,.int .i64 x.limit,.slice at' x.tos.length ct,.slice an x.names.length cn,.bool x.detach] 122 (0,0))))
  clear h hw hs hpa hex hit hod hto hns
  have q1 : (x.kind == 1) = false := by rw [hki];rfl
  have q2 : (x.kind == 2) = true := by rw [hki];rfl
  have q7 : (x.kind == 7) = false := by rw [hki];rfl
  have q3 : (x.kind == 3) = false := by rw [hki];rfl
  have q4 : (x.kind == 4) = false := by rw [hki];rfl
  have q5 : (x.kind == 5) = false := by rw [hki];rfl
  have q6 : (x.kind == 6) = false := by rw [hki];rfl
  have q8 : (x.kind == 8) = false := by rw [hki];rfl
  have q9 : (x.kind == 9) = false := by rw [hki];rfl
  have HKI := hyd hki
  clear hki
  obtain ⟨y0,y1,y2,y3,y4,y5,y6,y7,y8,y9,y10,y11,y12,y13,y14,y15,y16,y17,y18⟩ := at19c BX.out
  go_enter Tryz.func105,Tryz.ntmps105
  have lp2 : x.paths.length ≤ 2 := WC.out.paths.1
  go_wp2_with (go_at_call 129;refine (paths_calls n g x.paths _ false _ (by omega) SC.out (Pas.keep HPA.out KW.out) WC.out.paths.2).mono ?_;rintro e w2 ⟨rfl,hS2,hK2⟩;have SC := hyd hS2;clear hS2;have KW := hyd (KW.out.trans hK2);have BX := hyd (blk_keep hK2 BX.out (by show w.heap.size ≠ g;omega));clear hK2;obtain ⟨y0,y1,y2,y3,y4,y5,y6,y7,y8,y9,y10,y11,y12,y13,y14,y15,y16,y17,y18⟩ := at19c BX.out)
  go_end0
  exact ⟨rfl,SC.out.up (by omega),KW.out⟩
theorem clause_k7 (n g : Nat) (x : Cl) (cs : List Value) (w : World) (hn9 : n ≤ 700) (h : Scp n w g) (hs : ClR w (But g) x cs) (hw : WfCl x) (hki : x.kind = 7) : Calls Tryz.prog 105 #[.pointer (some ⟨g,0,none⟩),.agg cs.toArray] w (GotScp (n + 10) g w) := by
  have zg : g < w.heap.size := by obtain ⟨v,l,c,hb,_⟩ := h;exact blk_lt hb
  obtain ⟨ap,cp,va,vc,pa,pc,ai,ci,ao,co,at',ct,an,cn,rfl,hk,hpa,hex,hna,hit,hod,hsk,hli,hto,hns⟩ := cl_open hs
  have HPA := hyd hpa
  have HEX := hyd hex
  have HIT := hyd hit
  have HTO := hyd hto
  have HNS := hyd hns
  have WC := hyd hw
  have H0 := hyd h
  have lpa := sl_len hpa
  have lit := sl_len hit
  have lto := sl_len hto
  have lns := sl_len hns
  have KW := hyd ((Keep.refl (But g) w).alloc (.cells #[.int .i64 x.kind,.slice ap x.paths.length cp,.int .i64 x.ex.kind,.int .i64 x.ex.val.kind,.int .i64 x.ex.val.num,.string x.ex.val.text,.slice va x.ex.val.list.length vc,.string x.ex.name,.string x.ex.key,.slice pa x.ex.parts.length pc,.string x.name,.slice ai x.items.length ci,.bool x.distinct,.slice ao x.orders.length co,.int .i64 x.skip,.int .i64 x.limit,.slice at' x.tos.length ct,.slice an x.names.length cn,.bool x.detach] 122 (0,0)))
  have BX := hyd (blk_new w (.cells #[.int .i64 x.kind,.slice ap x.paths.length cp,.int .i64 x.ex.kind,.int .i64 x.ex.val.kind,.int .i64 x.ex.val.num,.string x.ex.val.text,.slice va x.ex.val.list.length vc,.string x.ex.name,.string x.ex.key,.slice pa x.ex.parts.length pc,.string x.name,.slice ai x.items.length ci,.bool x.distinct,.slice ao x.orders.length co,.int .i64 x.skip,.int .i64 x.limit,.slice at' x.tos.length ct,.slice an x.names.length cn,.bool x.detach] 122 (0,0)))
  have SC := hyd (h.keep ((Keep.refl Any w).alloc (.cells #[.int .i64 x.kind,.slice ap x.paths.length cp,.int .i64 x.ex.kind,.int .i64 x.ex.val.kind,.int .i64 x.ex.val.num,.string x.ex.val.text,.slice va x.ex.val.list.length vc,.string x.ex.name,.string x.ex.key,.slice pa x.ex.parts.length pc,.string x.name,.slice ai x.items.length ci,.bool x.distinct,.slice ao x.orders.length co,.int .i64 x.skip,.int .i64 x.limit,.slice at' x.tos.length ct,.slice an x.names.length cn,.bool x.detach] 122 (0,0))))
  clear h hw hs hpa hex hit hod hto hns
  have q1 : (x.kind == 1) = false := by rw [hki];rfl
  have q2 : (x.kind == 2) = false := by rw [hki];rfl
  have q7 : (x.kind == 7) = true := by rw [hki];rfl
  have q3 : (x.kind == 3) = false := by rw [hki];rfl
  have q4 : (x.kind == 4) = false := by rw [hki];rfl
  have q5 : (x.kind == 5) = false := by rw [hki];rfl
  have q6 : (x.kind == 6) = false := by rw [hki];rfl
  have q8 : (x.kind == 8) = false := by rw [hki];rfl
  have q9 : (x.kind == 9) = false := by rw [hki];rfl
  have HKI := hyd hki
  clear hki
  obtain ⟨y0,y1,y2,y3,y4,y5,y6,y7,y8,y9,y10,y11,y12,y13,y14,y15,y16,y17,y18⟩ := at19c BX.out
  go_enter Tryz.func105,Tryz.ntmps105
  have lp2 : x.paths.length ≤ 2 := WC.out.paths.1
  go_wp2_with (go_at_call 129;refine (paths_calls n g x.paths _ true _ (by omega) SC.out (Pas.keep HPA.out KW.out) WC.out.paths.2).mono ?_;rintro e w2 ⟨rfl,hS2,hK2⟩;have SC := hyd hS2;clear hS2;have KW := hyd (KW.out.trans hK2);have BX := hyd (blk_keep hK2 BX.out (by show w.heap.size ≠ g;omega));clear hK2;obtain ⟨y0,y1,y2,y3,y4,y5,y6,y7,y8,y9,y10,y11,y12,y13,y14,y15,y16,y17,y18⟩ := at19c BX.out)
  go_end0
  exact ⟨rfl,SC.out.up (by omega),KW.out⟩
theorem clause_k3 (n g : Nat) (x : Cl) (cs : List Value) (w : World) (hn9 : n ≤ 700) (h : Scp n w g) (hs : ClR w (But g) x cs) (hw : WfCl x) (hki : x.kind = 3) : Calls Tryz.prog 105 #[.pointer (some ⟨g,0,none⟩),.agg cs.toArray] w (GotScp (n + 10) g w) := by
  have zg : g < w.heap.size := by obtain ⟨v,l,c,hb,_⟩ := h;exact blk_lt hb
  obtain ⟨ap,cp,va,vc,pa,pc,ai,ci,ao,co,at',ct,an,cn,rfl,hk,hpa,hex,hna,hit,hod,hsk,hli,hto,hns⟩ := cl_open hs
  have HPA := hyd hpa
  have HEX := hyd hex
  have HIT := hyd hit
  have HTO := hyd hto
  have HNS := hyd hns
  have WC := hyd hw
  have H0 := hyd h
  have lpa := sl_len hpa
  have lit := sl_len hit
  have lto := sl_len hto
  have lns := sl_len hns
  have KW := hyd ((Keep.refl (But g) w).alloc (.cells #[.int .i64 x.kind,.slice ap x.paths.length cp,.int .i64 x.ex.kind,.int .i64 x.ex.val.kind,.int .i64 x.ex.val.num,.string x.ex.val.text,.slice va x.ex.val.list.length vc,.string x.ex.name,.string x.ex.key,.slice pa x.ex.parts.length pc,.string x.name,.slice ai x.items.length ci,.bool x.distinct,.slice ao x.orders.length co,.int .i64 x.skip,.int .i64 x.limit,.slice at' x.tos.length ct,.slice an x.names.length cn,.bool x.detach] 122 (0,0)))
  have BX := hyd (blk_new w (.cells #[.int .i64 x.kind,.slice ap x.paths.length cp,.int .i64 x.ex.kind,.int .i64 x.ex.val.kind,.int .i64 x.ex.val.num,.string x.ex.val.text,.slice va x.ex.val.list.length vc,.string x.ex.name,.string x.ex.key,.slice pa x.ex.parts.length pc,.string x.name,.slice ai x.items.length ci,.bool x.distinct,.slice ao x.orders.length co,.int .i64 x.skip,.int .i64 x.limit,.slice at' x.tos.length ct,.slice an x.names.length cn,.bool x.detach] 122 (0,0)))
  have SC := hyd (h.keep ((Keep.refl Any w).alloc (.cells #[.int .i64 x.kind,.slice ap x.paths.length cp,.int .i64 x.ex.kind,.int .i64 x.ex.val.kind,.int .i64 x.ex.val.num,.string x.ex.val.text,.slice va x.ex.val.list.length vc,.string x.ex.name,.string x.ex.key,.slice pa x.ex.parts.length pc,.string x.name,.slice ai x.items.length ci,.bool x.distinct,.slice ao x.orders.length co,.int .i64 x.skip,.int .i64 x.limit,.slice at' x.tos.length ct,.slice an x.names.length cn,.bool x.detach] 122 (0,0))))
  clear h hw hs hpa hex hit hod hto hns
  have q1 : (x.kind == 1) = false := by rw [hki];rfl
  have q2 : (x.kind == 2) = false := by rw [hki];rfl
  have q7 : (x.kind == 7) = false := by rw [hki];rfl
  have q3 : (x.kind == 3) = true := by rw [hki];rfl
  have q4 : (x.kind == 4) = false := by rw [hki];rfl
  have q5 : (x.kind == 5) = false := by rw [hki];rfl
  have q6 : (x.kind == 6) = false := by rw [hki];rfl
  have q8 : (x.kind == 8) = false := by rw [hki];rfl
  have q9 : (x.kind == 9) = false := by rw [hki];rfl
  have HKI := hyd hki
  clear hki
  obtain ⟨y0,y1,y2,y3,y4,y5,y6,y7,y8,y9,y10,y11,y12,y13,y14,y15,y16,y17,y18⟩ := at19c BX.out
  go_enter Tryz.func105,Tryz.ntmps105
  have WE := hyd (WC.out.ex (by have := HKI.out;omega))
  go_wp2_with (go_at_call 130;refine (uses_calls n g x.ex _ _ SC.out (HEX.out.keep KW.out) WE.out).mono ?_;rintro e w2 ⟨rfl,hS2,hK2⟩;have SC := hyd hS2;clear hS2;have KW := hyd (KW.out.trans hK2);have BX := hyd (blk_keep hK2 BX.out (by show w.heap.size ≠ g;omega));clear hK2;obtain ⟨y0,y1,y2,y3,y4,y5,y6,y7,y8,y9,y10,y11,y12,y13,y14,y15,y16,y17,y18⟩ := at19c BX.out)
  go_end0
  exact ⟨rfl,SC.out.up (by omega),KW.out⟩

/- The reference's scope of a clause,for some kinds of it. -/
set_option maxRecDepth 20000
set_option maxHeartbeats 4000000
theorem clause_k4 (n g : Nat) (x : Cl) (cs : List Value) (w : World) (hn9 : n ≤ 700) (h : Scp n w g) (hs : ClR w (But g) x cs) (hw : WfCl x) (hki : x.kind = 4) : Calls Tryz.prog 105 #[.pointer (some ⟨g,0,none⟩),.agg cs.toArray] w (GotScp (n + 10) g w) := by
  have zg : g < w.heap.size := by obtain ⟨v,l,c,hb,_⟩ := h;exact blk_lt hb
  obtain ⟨ap,cp,va,vc,pa,pc,ai,ci,ao,co,at',ct,an,cn,rfl,hk,hpa,hex,hna,hit,hod,hsk,hli,hto,hns⟩ := cl_open hs
  have HPA := hyd hpa
  have HEX := hyd hex
  have HIT := hyd hit
  have HTO := hyd hto
  have HNS := hyd hns
  have WC := hyd hw
  have H0 := hyd h
  have lpa := sl_len hpa
  have lit := sl_len hit
  have lto := sl_len hto
  have lns := sl_len hns
  have KW := hyd ((Keep.refl (But g) w).alloc (.cells #[.int .i64 x.kind,.slice ap x.paths.length cp,.int .i64 x.ex.kind,.int .i64 x.ex.val.kind,.int .i64 x.ex.val.num,.string x.ex.val.text,.slice va x.ex.val.list.length vc,.string x.ex.name,.string x.ex.key,.slice pa x.ex.parts.length pc,.string x.name,.slice ai x.items.length ci,.bool x.distinct,.slice ao x.orders.length co,.int .i64 x.skip,.int .i64 x.limit,.slice at' x.tos.length ct,.slice an x.names.length cn,.bool x.detach] 122 (0,0)))
  have BX := hyd (blk_new w (.cells #[.int .i64 x.kind,.slice ap x.paths.length cp,.int .i64 x.ex.kind,.int .i64 x.ex.val.kind,.int .i64 x.ex.val.num,.string x.ex.val.text,.slice va x.ex.val.list.length vc,.string x.ex.name,.string x.ex.key,.slice pa x.ex.parts.length pc,.string x.name,.slice ai x.items.length ci,.bool x.distinct,.slice ao x.orders.length co,.int .i64 x.skip,.int .i64 x.limit,.slice at' x.tos.length ct,.slice an x.names.length cn,.bool x.detach] 122 (0,0)))
  have SC := hyd (h.keep ((Keep.refl Any w).alloc (.cells #[.int .i64 x.kind,.slice ap x.paths.length cp,.int .i64 x.ex.kind,.int .i64 x.ex.val.kind,.int .i64 x.ex.val.num,.string x.ex.val.text,.slice va x.ex.val.list.length vc,.string x.ex.name,.string x.ex.key,.slice pa x.ex.parts.length pc,.string x.name,.slice ai x.items.length ci,.bool x.distinct,.slice ao x.orders.length co,.int .i64 x.skip,.int .i64 x.limit,.slice at' x.tos.length ct,.slice an x.names.length cn,.bool x.detach] 122 (0,0))))
  clear h hw hs hpa hex hit hod hto hns
  have q1 : (x.kind == 1) = false := by rw [hki];rfl
  have q2 : (x.kind == 2) = false := by rw [hki];rfl
  have q7 : (x.kind == 7) = false := by rw [hki];rfl
  have q3 : (x.kind == 3) = false := by rw [hki];rfl
  have q4 : (x.kind == 4) = true := by rw [hki];rfl
  have q5 : (x.kind == 5) = false := by rw [hki];rfl
  have q6 : (x.kind == 6) = false := by rw [hki];rfl
  have q8 : (x.kind == 8) = false := by rw [hki];rfl
  have q9 : (x.kind == 9) = false := by rw [hki];rfl
  have HKI := hyd hki
  clear hki
  obtain ⟨y0,y1,y2,y3,y4,y5,y6,y7,y8,y9,y10,y11,y12,y13,y14,y15,y16,y17,y18⟩ := at19c BX.out
  go_enter Tryz.func105,Tryz.ntmps105
  have WE := hyd (WC.out.ex (by have := HKI.out;omega))
  go_wp2_with (go_at_call 130;refine (uses_calls n g x.ex _ _ SC.out (HEX.out.keep KW.out) WE.out).mono ?_;rintro e w2 ⟨rfl,hS2,hK2⟩;have SC := hyd hS2;clear hS2;have KW := hyd (KW.out.trans hK2);have BX := hyd (blk_keep hK2 BX.out (by show w.heap.size ≠ g;omega));clear hK2;obtain ⟨y0,y1,y2,y3,y4,y5,y6,y7,y8,y9,y10,y11,y12,y13,y14,y15,y16,y17,y18⟩ := at19c BX.out)
  obtain ⟨vn,ln,cd,hbS,hsS,_,_,_⟩ := SC.out
  have NS := hyd hsS.any
  obtain ⟨an,cn,rfl,_⟩ := hsS
  have x0 := (blk_cell hbS 0).trans rfl
  have HQ := hyd (fun w' (k : Keep Any w2 w') => l2Has_quiet ln _ x.name w' (Strs.keep NS.out k))
  obtain ⟨tq,htq⟩ : ∃ t,hasB ln x.name = t := ⟨_,rfl⟩
  rw [htq] at HQ
  clear hbS
  have zg2 : g < w2.heap.size := by obtain ⟨v,l,c,hb,_⟩ := SC.out;exact blk_lt hb
  go_quiet ((go_at_call 131;exact Calls.quiet_of_same (HQ.out _ (by first | exact Keep.refl _ _ | exact (Keep.refl _ _).drew | exact (Keep.refl _ _).drewN _))))
  cases tq
  all_goals
    go_wp2_with (first | (go_at_call 132;refine (fail_calls n g 4 _ ⟨by decide,by decide⟩ (SC.out.keep (by first | exact Keep.refl _ _ | exact (Keep.refl _ _).drew | exact (Keep.refl _ _).drewN _))).mono ?_;rintro e w2 ⟨rfl,hS2,hK2⟩;have SC := hyd hS2;clear hS2;have KW := hyd (KW.out.trans (Keep.trans (by first | exact Keep.refl _ _ | exact (Keep.refl _ _).drew | exact (Keep.refl _ _).drewN _) hK2));have BX := hyd (blk_keep (Keep.trans (by first | exact Keep.refl _ _ | exact (Keep.refl _ _).drew | exact (Keep.refl _ _).drewN _) hK2) BX.out (by show w.heap.size ≠ g;omega));obtain ⟨y0,y1,y2,y3,y4,y5,y6,y7,y8,y9,y10,y11,y12,y13,y14,y15,y16,y17,y18⟩ := at19c BX.out) | (go_at_call 133;refine (adds_calls n g x.name _ (by omega) WC.out.name (SC.out.keep (by first | exact Keep.refl _ _ | exact (Keep.refl _ _).drew | exact (Keep.refl _ _).drewN _))).mono ?_;rintro e w2 ⟨rfl,hS2,hK2⟩;have SC := hyd hS2;clear hS2;have KW := hyd (KW.out.trans (Keep.trans (by first | exact Keep.refl _ _ | exact (Keep.refl _ _).drew | exact (Keep.refl _ _).drewN _) hK2));have BX := hyd (blk_keep (Keep.trans (by first | exact Keep.refl _ _ | exact (Keep.refl _ _).drew | exact (Keep.refl _ _).drewN _) hK2) BX.out (by show w.heap.size ≠ g;omega));obtain ⟨y0,y1,y2,y3,y4,y5,y6,y7,y8,y9,y10,y11,y12,y13,y14,y15,y16,y17,y18⟩ := at19c BX.out))
    go_end0
    exact ⟨rfl,SC.out.up (by omega),KW.out⟩
theorem clause_k8 (n g : Nat) (x : Cl) (cs : List Value) (w : World) (hn9 : n ≤ 700) (h : Scp n w g) (hs : ClR w (But g) x cs) (hw : WfCl x) (hki : x.kind = 8) : Calls Tryz.prog 105 #[.pointer (some ⟨g,0,none⟩),.agg cs.toArray] w (GotScp (n + 10) g w) := by
  have zg : g < w.heap.size := by obtain ⟨v,l,c,hb,_⟩ := h;exact blk_lt hb
  obtain ⟨ap,cp,va,vc,pa,pc,ai,ci,ao,co,at',ct,an,cn,rfl,hk,hpa,hex,hna,hit,hod,hsk,hli,hto,hns⟩ := cl_open hs
  have HPA := hyd hpa
  have HEX := hyd hex
  have HIT := hyd hit
  have HTO := hyd hto
  have HNS := hyd hns
  have WC := hyd hw
  have H0 := hyd h
  have lpa := sl_len hpa
  have lit := sl_len hit
  have lto := sl_len hto
  have lns := sl_len hns
  have KW := hyd ((Keep.refl (But g) w).alloc (.cells #[.int .i64 x.kind,.slice ap x.paths.length cp,.int .i64 x.ex.kind,.int .i64 x.ex.val.kind,.int .i64 x.ex.val.num,.string x.ex.val.text,.slice va x.ex.val.list.length vc,.string x.ex.name,.string x.ex.key,.slice pa x.ex.parts.length pc,.string x.name,.slice ai x.items.length ci,.bool x.distinct,.slice ao x.orders.length co,.int .i64 x.skip,.int .i64 x.limit,.slice at' x.tos.length ct,.slice an x.names.length cn,.bool x.detach] 122 (0,0)))
  have BX := hyd (blk_new w (.cells #[.int .i64 x.kind,.slice ap x.paths.length cp,.int .i64 x.ex.kind,.int .i64 x.ex.val.kind,.int .i64 x.ex.val.num,.string x.ex.val.text,.slice va x.ex.val.list.length vc,.string x.ex.name,.string x.ex.key,.slice pa x.ex.parts.length pc,.string x.name,.slice ai x.items.length ci,.bool x.distinct,.slice ao x.orders.length co,.int .i64 x.skip,.int .i64 x.limit,.slice at' x.tos.length ct,.slice an x.names.length cn,.bool x.detach] 122 (0,0)))
  have SC := hyd (h.keep ((Keep.refl Any w).alloc (.cells #[.int .i64 x.kind,.slice ap x.paths.length cp,.int .i64 x.ex.kind,.int .i64 x.ex.val.kind,.int .i64 x.ex.val.num,.string x.ex.val.text,.slice va x.ex.val.list.length vc,.string x.ex.name,.string x.ex.key,.slice pa x.ex.parts.length pc,.string x.name,.slice ai x.items.length ci,.bool x.distinct,.slice ao x.orders.length co,.int .i64 x.skip,.int .i64 x.limit,.slice at' x.tos.length ct,.slice an x.names.length cn,.bool x.detach] 122 (0,0))))
  clear h hw hs hpa hex hit hod hto hns
  have q1 : (x.kind == 1) = false := by rw [hki];rfl
  have q2 : (x.kind == 2) = false := by rw [hki];rfl
  have q7 : (x.kind == 7) = false := by rw [hki];rfl
  have q3 : (x.kind == 3) = false := by rw [hki];rfl
  have q4 : (x.kind == 4) = false := by rw [hki];rfl
  have q5 : (x.kind == 5) = false := by rw [hki];rfl
  have q6 : (x.kind == 6) = false := by rw [hki];rfl
  have q8 : (x.kind == 8) = true := by rw [hki];rfl
  have q9 : (x.kind == 9) = false := by rw [hki];rfl
  have HKI := hyd hki
  clear hki
  obtain ⟨y0,y1,y2,y3,y4,y5,y6,y7,y8,y9,y10,y11,y12,y13,y14,y15,y16,y17,y18⟩ := at19c BX.out
  go_enter Tryz.func105,Tryz.ntmps105
  go_wp2
  go_loopg [6] (x.tos.length + 1) (fun gg i wr => ∃ k : Nat,k ≤ x.tos.length ∧ i = .int .i64 k ∧ gg = x.tos.length + 1 - k ∧ Scp n wr g ∧ wr.heap[w.heap.size]? = some (.cells #[.int .i64 x.kind,.slice ap x.paths.length cp,.int .i64 x.ex.kind,.int .i64 x.ex.val.kind,.int .i64 x.ex.val.num,.string x.ex.val.text,.slice va x.ex.val.list.length vc,.string x.ex.name,.string x.ex.key,.slice pa x.ex.parts.length pc,.string x.name,.slice ai x.items.length ci,.bool x.distinct,.slice ao x.orders.length co,.int .i64 x.skip,.int .i64 x.limit,.slice at' x.tos.length ct,.slice an x.names.length cn,.bool x.detach] 122 (0,0)) ∧ Keep (But g) w wr)
  case atStart => exact ⟨0,by omega,rfl,rfl,SC.out,BX.out,KW.out⟩
  case round =>
    clear KW BX SC
    obtain ⟨k,hk,rfl,hg,hS,hB,hK⟩ := hrel
    have HG := hyd hg
    have KW := hyd hK
    have BX := hyd hB
    have SC := hyd hS
    clear hg hS hB hK
    obtain ⟨y0,y1,y2,y3,y4,y5,y6,y7,y8,y9,y10,y11,y12,y13,y14,y15,y16,y17,y18⟩ := at19c BX.out
    have zr : But g wr.heap.size := by show wr.heap.size ≠ g;have := KW.out.size;omega
    by_cases hlt : k < x.tos.length
    · have hx : x.tos[k]? = some x.tos[k] := List.getElem?_eq_getElem hlt
      have WX := hyd (WC.out.tos.2 _ (List.mem_of_getElem? hx))
      obtain ⟨adz,vaz,vcz,paz,pcz,e,hFz,hGz,FX⟩ := tts_all HTO.out hx
      have FX := hyd FX
      cases e
      generalize x.tos[k] = z at *
      clear hx
      obtain ⟨hvz,cz0,cz1,cz2,cz3,cz4,cz5,cz6,cz7,cz8,cz9⟩ := FX.out _ KW.out
      have Hhvz := hyd hvz
      clear hvz
      have k0 : (0 : Int) ≤ (k : Int) := by omega
      have k1 : (k : Int) < (x.tos.length : Int) := by omega
      go_wp2_with (first | (go_at_call 135;refine (asks_calls n g [z.name] _ _ (SC.out.keep ((Keep.refl Any _).alloc _)) (strs_litF [z.name] rfl (blk_new _ _) zr (by simp) (fun y hy => by rw [List.mem_singleton.1 hy];exact hFz))).mono ?_;rintro e w2 ⟨rfl,hS2,hK2⟩;have hK2 := ((Keep.refl (But g) _).alloc _).trans hK2;have SC := hyd hS2;clear hS2;have KW := hyd (KW.out.trans hK2);have BX := hyd (blk_keep hK2 BX.out (by show w.heap.size ≠ g;omega));clear hK2;obtain ⟨y0,y1,y2,y3,y4,y5,y6,y7,y8,y9,y10,y11,y12,y13,y14,y15,y16,y17,y18⟩ := at19c BX.out;obtain ⟨hvz,cz0,cz1,cz2,cz3,cz4,cz5,cz6,cz7,cz8,cz9⟩ := FX.out _ KW.out;have Hhvz := hyd hvz;clear hvz) | (go_at_call 130;refine (uses_calls n g z.ex _ _ SC.out Hhvz.out WX.out.2.2).mono ?_;rintro e w2 ⟨rfl,hS2,hK2⟩;have SC := hyd hS2;clear hS2;have KW := hyd (KW.out.trans hK2);have BX := hyd (blk_keep hK2 BX.out (by show w.heap.size ≠ g;omega));clear hK2;obtain ⟨y0,y1,y2,y3,y4,y5,y6,y7,y8,y9,y10,y11,y12,y13,y14,y15,y16,y17,y18⟩ := at19c BX.out;obtain ⟨hvz,cz0,cz1,cz2,cz3,cz4,cz5,cz6,cz7,cz8,cz9⟩ := FX.out _ KW.out;have Hhvz := hyd hvz;clear hvz))
      go_roundg (gk - 1)
      case rel => exact ⟨k + 1,by omega,by go_num,by have := HG.out;omega,SC.out,BX.out,KW.out⟩
      case measure => have := HG.out;omega
    · go_wp2
      go_end0
      exact ⟨rfl,SC.out.up (by omega),KW.out⟩

/- The reference's scope of a clause,for some kinds of it. -/
set_option maxRecDepth 20000
set_option maxHeartbeats 4000000
theorem clause_k5 (n g : Nat) (x : Cl) (cs : List Value) (w : World) (hn9 : n ≤ 700) (h : Scp n w g) (hs : ClR w (But g) x cs) (hw : WfCl x) (hki : x.kind = 5) : Calls Tryz.prog 105 #[.pointer (some ⟨g,0,none⟩),.agg cs.toArray] w (GotScp (n + 10) g w) := by
  have zg : g < w.heap.size := by obtain ⟨v,l,c,hb,_⟩ := h;exact blk_lt hb
  obtain ⟨ap,cp,va,vc,pa,pc,ai,ci,ao,co,at',ct,an,cn,rfl,hk,hpa,hex,hna,hit,hod,hsk,hli,hto,hns⟩ := cl_open hs
  have HPA := hyd hpa
  have HEX := hyd hex
  have HIT := hyd hit
  have HTO := hyd hto
  have HNS := hyd hns
  have WC := hyd hw
  have H0 := hyd h
  have lpa := sl_len hpa
  have lit := sl_len hit
  have lto := sl_len hto
  have lns := sl_len hns
  have KW := hyd ((Keep.refl (But g) w).alloc (.cells #[.int .i64 x.kind,.slice ap x.paths.length cp,.int .i64 x.ex.kind,.int .i64 x.ex.val.kind,.int .i64 x.ex.val.num,.string x.ex.val.text,.slice va x.ex.val.list.length vc,.string x.ex.name,.string x.ex.key,.slice pa x.ex.parts.length pc,.string x.name,.slice ai x.items.length ci,.bool x.distinct,.slice ao x.orders.length co,.int .i64 x.skip,.int .i64 x.limit,.slice at' x.tos.length ct,.slice an x.names.length cn,.bool x.detach] 122 (0,0)))
  have BX := hyd (blk_new w (.cells #[.int .i64 x.kind,.slice ap x.paths.length cp,.int .i64 x.ex.kind,.int .i64 x.ex.val.kind,.int .i64 x.ex.val.num,.string x.ex.val.text,.slice va x.ex.val.list.length vc,.string x.ex.name,.string x.ex.key,.slice pa x.ex.parts.length pc,.string x.name,.slice ai x.items.length ci,.bool x.distinct,.slice ao x.orders.length co,.int .i64 x.skip,.int .i64 x.limit,.slice at' x.tos.length ct,.slice an x.names.length cn,.bool x.detach] 122 (0,0)))
  have SC := hyd (h.keep ((Keep.refl Any w).alloc (.cells #[.int .i64 x.kind,.slice ap x.paths.length cp,.int .i64 x.ex.kind,.int .i64 x.ex.val.kind,.int .i64 x.ex.val.num,.string x.ex.val.text,.slice va x.ex.val.list.length vc,.string x.ex.name,.string x.ex.key,.slice pa x.ex.parts.length pc,.string x.name,.slice ai x.items.length ci,.bool x.distinct,.slice ao x.orders.length co,.int .i64 x.skip,.int .i64 x.limit,.slice at' x.tos.length ct,.slice an x.names.length cn,.bool x.detach] 122 (0,0))))
  clear h hw hs hpa hex hit hod hto hns
  have q1 : (x.kind == 1) = false := by rw [hki];rfl
  have q2 : (x.kind == 2) = false := by rw [hki];rfl
  have q7 : (x.kind == 7) = false := by rw [hki];rfl
  have q3 : (x.kind == 3) = false := by rw [hki];rfl
  have q4 : (x.kind == 4) = false := by rw [hki];rfl
  have q5 : (x.kind == 5) = true := by rw [hki];rfl
  have q6 : (x.kind == 6) = false := by rw [hki];rfl
  have q8 : (x.kind == 8) = false := by rw [hki];rfl
  have q9 : (x.kind == 9) = false := by rw [hki];rfl
  have HKI := hyd hki
  clear hki
  obtain ⟨y0,y1,y2,y3,y4,y5,y6,y7,y8,y9,y10,y11,y12,y13,y14,y15,y16,y17,y18⟩ := at19c BX.out
  go_enter Tryz.func105,Tryz.ntmps105
  clear SC
  have K0 := hyd (KW.out.alloc (.cells #[] 9 (0,0)))
  have B0 := hyd (blk_alloc BX.out (.cells #[] 9 (0,0)))
  have O0 := hyd (OwnS.new (base := (w.heap.size + 1)) rfl (Nat.le_refl _) (blk_new1 w (.cells #[.int .i64 x.kind,.slice ap x.paths.length cp,.int .i64 x.ex.kind,.int .i64 x.ex.val.kind,.int .i64 x.ex.val.num,.string x.ex.val.text,.slice va x.ex.val.list.length vc,.string x.ex.name,.string x.ex.key,.slice pa x.ex.parts.length pc,.string x.name,.slice ai x.items.length ci,.bool x.distinct,.slice ao x.orders.length co,.int .i64 x.skip,.int .i64 x.limit,.slice at' x.tos.length ct,.slice an x.names.length cn,.bool x.detach] 122 (0,0)) (.cells #[] 9 (0,0))))
  obtain ⟨v0,l0,cd0,hb0,hs0,hn0,hl0,hcd0⟩ := H0.out
  have N0 := hyd hs0
  obtain ⟨a0,c0,rfl,_⟩ := hs0
  obtain ⟨n0,hn00⟩ : ∃ n0,n0 = l0.length := ⟨_,rfl⟩
  rw [← hn00] at hb0 N0
  have SC := hyd (show ScV (.slice a0 n0 c0) ((w.alloc (.cells #[.int .i64 x.kind,.slice ap x.paths.length cp,.int .i64 x.ex.kind,.int .i64 x.ex.val.kind,.int .i64 x.ex.val.num,.string x.ex.val.text,.slice va x.ex.val.list.length vc,.string x.ex.name,.string x.ex.key,.slice pa x.ex.parts.length pc,.string x.name,.slice ai x.items.length ci,.bool x.distinct,.slice ao x.orders.length co,.int .i64 x.skip,.int .i64 x.limit,.slice at' x.tos.length ct,.slice an x.names.length cn,.bool x.detach] 122 (0,0))).alloc (.cells #[] 9 (0,0))) g from ⟨cd0,blk_alloc (blk_alloc hb0 _) _,hcd0⟩)
  clear hb0 hl0 hn00
  go_wp2
  go_loopg [4,5] (x.items.length + 1) (fun gg o i wr => ∃ (k : Nat) (nl : List ByteArray),k ≤ x.items.length ∧ i = .int .i64 k ∧ gg = x.items.length + 1 - k ∧ OwnS wr (w.heap.size + 1) o nl ∧ nl.length = k ∧ (∀ y,y ∈ nl → y.size ≤ 100) ∧ ScV (.slice a0 n0 c0) wr g ∧ wr.heap[w.heap.size]? = some (.cells #[.int .i64 x.kind,.slice ap x.paths.length cp,.int .i64 x.ex.kind,.int .i64 x.ex.val.kind,.int .i64 x.ex.val.num,.string x.ex.val.text,.slice va x.ex.val.list.length vc,.string x.ex.name,.string x.ex.key,.slice pa x.ex.parts.length pc,.string x.name,.slice ai x.items.length ci,.bool x.distinct,.slice ao x.orders.length co,.int .i64 x.skip,.int .i64 x.limit,.slice at' x.tos.length ct,.slice an x.names.length cn,.bool x.detach] 122 (0,0)) ∧ Keep (But g) w wr)
  case atStart => exact ⟨0,[],by omega,rfl,rfl,O0.out,rfl,(fun y hy => by cases hy),SC.out,B0.out,K0.out⟩
  case round =>
    obtain ⟨k,nl,hk,rfl,hg,hO,hnl,hF,hS,hB,hK⟩ := hrel
    clear KW BX K0 B0 O0 SC
    have HG := hyd hg
    have OL := hyd hO
    have FL := hyd hF
    have BX := hyd hB
    have KW := hyd hK
    have SC := hyd hS
    have HN := hyd hnl
    have ln10 : x.items.length ≤ 10 := WC.out.items.1
    have hnl' : nl.length ≤ 10 := by omega
    clear hg hO hF hB hK hS hnl
    obtain ⟨y0,y1,y2,y3,y4,y5,y6,y7,y8,y9,y10,y11,y12,y13,y14,y15,y16,y17,y18⟩ := at19c BX.out
    by_cases hlt : k < x.items.length
    · have hx : x.items[k]? = some x.items[k] := List.getElem?_eq_getElem hlt
      have WX := hyd (WC.out.items.2 _ (List.mem_of_getElem? hx))
      obtain ⟨adi,vaz,vcz,paz,pcz,e,hFz,FX⟩ := its_all HIT.out hx
      have FX := hyd FX
      cases e
      generalize x.items[k] = z at *
      clear hx
      obtain ⟨hvz,cz0,cz1,cz2,cz3,cz4,cz5,cz6,cz7,cz8⟩ := FX.out _ KW.out
      have Hhvz := hyd hvz
      clear hvz
      have k0 : (0 : Int) ≤ (k : Int) := by omega
      have k1 : (k : Int) < (x.items.length : Int) := by omega
      go_wp2_with (first | (go_at_call 134;refine (l5Top_calls 4 z.ex _ _ (by decide) WX.out.1 Hhvz.out.any).mono ?_;rintro e w2 ⟨b,rfl,hK2⟩;have SC := hyd (SC.out.keep hK2 trivial);have hK2 := (Keep.any (ok := But g) hK2);have OL := hyd (OL.out.keepB hK2 (by omega));have KW := hyd (KW.out.trans hK2);have BX := hyd (blk_keep hK2 BX.out (by show w.heap.size ≠ g;omega));clear hK2;obtain ⟨y0,y1,y2,y3,y4,y5,y6,y7,y8,y9,y10,y11,y12,y13,y14,y15,y16,y17,y18⟩ := at19c BX.out;obtain ⟨hvz,cz0,cz1,cz2,cz3,cz4,cz5,cz6,cz7,cz8⟩ := FX.out _ KW.out;have Hhvz := hyd hvz;clear hvz;cases b) | (go_at_call 132;refine (fail2_calls _ g 2 _ ⟨by decide,by decide⟩ SC.out).mono ?_;rintro e w2 ⟨rfl,hS2,hK2⟩;have SC := hyd hS2;clear hS2;have OL := hyd (OL.out.keepB hK2 (by omega));have KW := hyd (KW.out.trans hK2);have BX := hyd (blk_keep hK2 BX.out (by show w.heap.size ≠ g;omega));clear hK2;obtain ⟨y0,y1,y2,y3,y4,y5,y6,y7,y8,y9,y10,y11,y12,y13,y14,y15,y16,y17,y18⟩ := at19c BX.out;obtain ⟨hvz,cz0,cz1,cz2,cz3,cz4,cz5,cz6,cz7,cz8⟩ := FX.out _ KW.out;have Hhvz := hyd hvz;clear hvz) | (go_at_call 136;refine (l4Names_all 4 (by decide) z.ex _ _ [] 0 _ WX.out.1 ((Hhvz.out.keep ((Keep.refl (But g) _).alloc (.cells #[] 9 (0,0)))).any) (strs_none (blk_new _ _) trivial) (by simp) (by decide) (fun x hx => by cases hx)).mono ?_;rintro e w2 ⟨o2,l2,rfl,hO2,hn2,hs2,hK2⟩;have hK2 := ((Keep.refl Any _).alloc (.cells #[] 9 (0,0))).trans hK2;have O2 := hyd hO2;clear hO2;have SC := hyd (SC.out.keep hK2 trivial);have hK2 := (Keep.any (ok := But g) hK2);have OL := hyd (OL.out.keepB hK2 (by omega));have KW := hyd (KW.out.trans hK2);have BX := hyd (blk_keep hK2 BX.out (by show w.heap.size ≠ g;omega));clear hK2;obtain ⟨y0,y1,y2,y3,y4,y5,y6,y7,y8,y9,y10,y11,y12,y13,y14,y15,y16,y17,y18⟩ := at19c BX.out;obtain ⟨hvz,cz0,cz1,cz2,cz3,cz4,cz5,cz6,cz7,cz8⟩ := FX.out _ KW.out;have Hhvz := hyd hvz;clear hvz) | (go_at_call 135;refine (asks2_calls a0 n0 c0 g l0 l2 _ _ SC.out (Strs.keep N0.out KW.out) (by obtain ⟨c,hb,_⟩ := SC.out;exact strs_but hb O2.out)).mono ?_;rintro e w2 ⟨rfl,hS2,hK2⟩;have SC := hyd hS2;clear hS2;have OL := hyd (OL.out.keepB hK2 (by omega));have KW := hyd (KW.out.trans hK2);have BX := hyd (blk_keep hK2 BX.out (by show w.heap.size ≠ g;omega));clear hK2;obtain ⟨y0,y1,y2,y3,y4,y5,y6,y7,y8,y9,y10,y11,y12,y13,y14,y15,y16,y17,y18⟩ := at19c BX.out;obtain ⟨hvz,cz0,cz1,cz2,cz3,cz4,cz5,cz6,cz7,cz8⟩ := FX.out _ KW.out;have Hhvz := hyd hvz;clear hvz) | (at_builtin;refine wpList_append_ex _ rfl (.tmp 78) (.tmp 85) 41 rfl _ _ rfl rfl (app_one _ _ (w.heap.size + 1) _ _ z.name OL.out (by have := KW.out.size;have := blk_lt BX.out;omega) hFz (by omega)) ?_;intro va2 wa ha;have OA := hyd ha.1;have KA := hyd (KW.out.low ha.2 (by omega));have BA := hyd (blk_keep ha.2 BX.out (by show w.heap.size < w.heap.size + 1;omega));have SA := hyd (SC.out.keep ha.2 (by show g < w.heap.size + 1;omega));clear ha))
      all_goals
        go_roundg (gk - 1)
        case rel => exact ⟨k + 1,nl ++ [z.name],by omega,by go_num,by have := HG.out;omega,OA.out,by rw [List.length_append,HN.out];rfl,(fun y hy => by rcases List.mem_append.1 hy with h | h;exact FL.out y h;rw [List.mem_singleton.1 h];exact WX.out.2),SA.out,BA.out,KA.out⟩
        case measure => have := HG.out;omega
    · obtain ⟨aN,cN,rfl⟩ := OL.out.form
      obtain ⟨cd,hbg,hcd⟩ := SC.out
      have x0 := (blk_cell hbg 0).trans rfl
      have f0 := blk_frozen hbg 0
      have zg2 := blk_lt hbg
      have HBG := hyd hbg
      clear hbg
      go_wp2
      go_end0
      refine ⟨rfl,⟨_,nl,cd,(blk_set HBG.out 0 _).trans rfl,?_,by omega,FL.out,hcd⟩,(KW.out).set _ _ (fun _ h => h rfl)⟩
      exact Sl.keep (OwnS.strs OL.out (fun y hy => by have := FL.out y hy;unfold Fits;omega) (fun k hk _ e => by have e : k = g := e;omega)) (fun _ _ _ h => h) ((Keep.refl (But g) _).set _ _ (fun _ h => h rfl))

/- The reference's scope of a clause,for some kinds of it. -/
set_option maxRecDepth 20000
set_option maxHeartbeats 4000000
theorem clause_k6 (n g : Nat) (x : Cl) (cs : List Value) (w : World) (hn9 : n ≤ 700) (h : Scp n w g) (hs : ClR w (But g) x cs) (hw : WfCl x) (hki : x.kind = 6) : Calls Tryz.prog 105 #[.pointer (some ⟨g,0,none⟩),.agg cs.toArray] w (GotScp (n + 10) g w) := by
  have zg : g < w.heap.size := by obtain ⟨v,l,c,hb,_⟩ := h;exact blk_lt hb
  obtain ⟨ap,cp,va,vc,pa,pc,ai,ci,ao,co,at',ct,an,cn,rfl,hk,hpa,hex,hna,hit,hod,hsk,hli,hto,hns⟩ := cl_open hs
  have HPA := hyd hpa
  have HEX := hyd hex
  have HIT := hyd hit
  have HTO := hyd hto
  have HNS := hyd hns
  have WC := hyd hw
  have H0 := hyd h
  have lpa := sl_len hpa
  have lit := sl_len hit
  have lto := sl_len hto
  have lns := sl_len hns
  have KW := hyd ((Keep.refl (But g) w).alloc (.cells #[.int .i64 x.kind,.slice ap x.paths.length cp,.int .i64 x.ex.kind,.int .i64 x.ex.val.kind,.int .i64 x.ex.val.num,.string x.ex.val.text,.slice va x.ex.val.list.length vc,.string x.ex.name,.string x.ex.key,.slice pa x.ex.parts.length pc,.string x.name,.slice ai x.items.length ci,.bool x.distinct,.slice ao x.orders.length co,.int .i64 x.skip,.int .i64 x.limit,.slice at' x.tos.length ct,.slice an x.names.length cn,.bool x.detach] 122 (0,0)))
  have BX := hyd (blk_new w (.cells #[.int .i64 x.kind,.slice ap x.paths.length cp,.int .i64 x.ex.kind,.int .i64 x.ex.val.kind,.int .i64 x.ex.val.num,.string x.ex.val.text,.slice va x.ex.val.list.length vc,.string x.ex.name,.string x.ex.key,.slice pa x.ex.parts.length pc,.string x.name,.slice ai x.items.length ci,.bool x.distinct,.slice ao x.orders.length co,.int .i64 x.skip,.int .i64 x.limit,.slice at' x.tos.length ct,.slice an x.names.length cn,.bool x.detach] 122 (0,0)))
  have SC := hyd (h.keep ((Keep.refl Any w).alloc (.cells #[.int .i64 x.kind,.slice ap x.paths.length cp,.int .i64 x.ex.kind,.int .i64 x.ex.val.kind,.int .i64 x.ex.val.num,.string x.ex.val.text,.slice va x.ex.val.list.length vc,.string x.ex.name,.string x.ex.key,.slice pa x.ex.parts.length pc,.string x.name,.slice ai x.items.length ci,.bool x.distinct,.slice ao x.orders.length co,.int .i64 x.skip,.int .i64 x.limit,.slice at' x.tos.length ct,.slice an x.names.length cn,.bool x.detach] 122 (0,0))))
  clear h hw hs hpa hex hit hod hto hns
  have q1 : (x.kind == 1) = false := by rw [hki];rfl
  have q2 : (x.kind == 2) = false := by rw [hki];rfl
  have q7 : (x.kind == 7) = false := by rw [hki];rfl
  have q3 : (x.kind == 3) = false := by rw [hki];rfl
  have q4 : (x.kind == 4) = false := by rw [hki];rfl
  have q5 : (x.kind == 5) = false := by rw [hki];rfl
  have q6 : (x.kind == 6) = true := by rw [hki];rfl
  have q8 : (x.kind == 8) = false := by rw [hki];rfl
  have q9 : (x.kind == 9) = false := by rw [hki];rfl
  have HKI := hyd hki
  clear hki
  obtain ⟨y0,y1,y2,y3,y4,y5,y6,y7,y8,y9,y10,y11,y12,y13,y14,y15,y16,y17,y18⟩ := at19c BX.out
  go_enter Tryz.func105,Tryz.ntmps105
  clear SC
  have K0 := hyd (KW.out.alloc (.cells #[] 9 (0,0)))
  have B0 := hyd (blk_alloc BX.out (.cells #[] 9 (0,0)))
  have O0 := hyd (OwnS.new (base := (w.heap.size + 1)) rfl (Nat.le_refl _) (blk_new1 w (.cells #[.int .i64 x.kind,.slice ap x.paths.length cp,.int .i64 x.ex.kind,.int .i64 x.ex.val.kind,.int .i64 x.ex.val.num,.string x.ex.val.text,.slice va x.ex.val.list.length vc,.string x.ex.name,.string x.ex.key,.slice pa x.ex.parts.length pc,.string x.name,.slice ai x.items.length ci,.bool x.distinct,.slice ao x.orders.length co,.int .i64 x.skip,.int .i64 x.limit,.slice at' x.tos.length ct,.slice an x.names.length cn,.bool x.detach] 122 (0,0)) (.cells #[] 9 (0,0))))
  obtain ⟨v0,l0,cd0,hb0,hs0,hn0,hl0,hcd0⟩ := H0.out
  have N0 := hyd hs0
  obtain ⟨a0,c0,rfl,_⟩ := hs0
  obtain ⟨n0,hn00⟩ : ∃ n0,n0 = l0.length := ⟨_,rfl⟩
  rw [← hn00] at hb0 N0
  have SC := hyd (show ScV (.slice a0 n0 c0) ((w.alloc (.cells #[.int .i64 x.kind,.slice ap x.paths.length cp,.int .i64 x.ex.kind,.int .i64 x.ex.val.kind,.int .i64 x.ex.val.num,.string x.ex.val.text,.slice va x.ex.val.list.length vc,.string x.ex.name,.string x.ex.key,.slice pa x.ex.parts.length pc,.string x.name,.slice ai x.items.length ci,.bool x.distinct,.slice ao x.orders.length co,.int .i64 x.skip,.int .i64 x.limit,.slice at' x.tos.length ct,.slice an x.names.length cn,.bool x.detach] 122 (0,0))).alloc (.cells #[] 9 (0,0))) g from ⟨cd0,blk_alloc (blk_alloc hb0 _) _,hcd0⟩)
  clear hb0 hl0 hn00
  go_wp2
  go_loopg [4,5] (x.items.length + 1) (fun gg o i wr => ∃ (k : Nat) (nl : List ByteArray),k ≤ x.items.length ∧ i = .int .i64 k ∧ gg = x.items.length + 1 - k ∧ OwnS wr (w.heap.size + 1) o nl ∧ nl.length = k ∧ (∀ y,y ∈ nl → y.size ≤ 100) ∧ ScV (.slice a0 n0 c0) wr g ∧ wr.heap[w.heap.size]? = some (.cells #[.int .i64 x.kind,.slice ap x.paths.length cp,.int .i64 x.ex.kind,.int .i64 x.ex.val.kind,.int .i64 x.ex.val.num,.string x.ex.val.text,.slice va x.ex.val.list.length vc,.string x.ex.name,.string x.ex.key,.slice pa x.ex.parts.length pc,.string x.name,.slice ai x.items.length ci,.bool x.distinct,.slice ao x.orders.length co,.int .i64 x.skip,.int .i64 x.limit,.slice at' x.tos.length ct,.slice an x.names.length cn,.bool x.detach] 122 (0,0)) ∧ Keep (But g) w wr)
  case atStart => exact ⟨0,[],by omega,rfl,rfl,O0.out,rfl,(fun y hy => by cases hy),SC.out,B0.out,K0.out⟩
  case round =>
    obtain ⟨k,nl,hk,rfl,hg,hO,hnl,hF,hS,hB,hK⟩ := hrel
    clear KW BX K0 B0 O0 SC
    have HG := hyd hg
    have OL := hyd hO
    have FL := hyd hF
    have BX := hyd hB
    have KW := hyd hK
    have SC := hyd hS
    have HN := hyd hnl
    have ln10 : x.items.length ≤ 10 := WC.out.items.1
    have hnl' : nl.length ≤ 10 := by omega
    clear hg hO hF hB hK hS hnl
    obtain ⟨y0,y1,y2,y3,y4,y5,y6,y7,y8,y9,y10,y11,y12,y13,y14,y15,y16,y17,y18⟩ := at19c BX.out
    by_cases hlt : k < x.items.length
    · have hx : x.items[k]? = some x.items[k] := List.getElem?_eq_getElem hlt
      have WX := hyd (WC.out.items.2 _ (List.mem_of_getElem? hx))
      obtain ⟨adi,vaz,vcz,paz,pcz,e,hFz,FX⟩ := its_all HIT.out hx
      have FX := hyd FX
      cases e
      generalize x.items[k] = z at *
      clear hx
      obtain ⟨hvz,cz0,cz1,cz2,cz3,cz4,cz5,cz6,cz7,cz8⟩ := FX.out _ KW.out
      have Hhvz := hyd hvz
      clear hvz
      have k0 : (0 : Int) ≤ (k : Int) := by omega
      have k1 : (k : Int) < (x.items.length : Int) := by omega
      go_wp2_with (first | (go_at_call 134;refine (l5Top_calls 4 z.ex _ _ (by decide) WX.out.1 Hhvz.out.any).mono ?_;rintro e w2 ⟨b,rfl,hK2⟩;have SC := hyd (SC.out.keep hK2 trivial);have hK2 := (Keep.any (ok := But g) hK2);have OL := hyd (OL.out.keepB hK2 (by omega));have KW := hyd (KW.out.trans hK2);have BX := hyd (blk_keep hK2 BX.out (by show w.heap.size ≠ g;omega));clear hK2;obtain ⟨y0,y1,y2,y3,y4,y5,y6,y7,y8,y9,y10,y11,y12,y13,y14,y15,y16,y17,y18⟩ := at19c BX.out;obtain ⟨hvz,cz0,cz1,cz2,cz3,cz4,cz5,cz6,cz7,cz8⟩ := FX.out _ KW.out;have Hhvz := hyd hvz;clear hvz;cases b) | (go_at_call 132;refine (fail2_calls _ g 2 _ ⟨by decide,by decide⟩ SC.out).mono ?_;rintro e w2 ⟨rfl,hS2,hK2⟩;have SC := hyd hS2;clear hS2;have OL := hyd (OL.out.keepB hK2 (by omega));have KW := hyd (KW.out.trans hK2);have BX := hyd (blk_keep hK2 BX.out (by show w.heap.size ≠ g;omega));clear hK2;obtain ⟨y0,y1,y2,y3,y4,y5,y6,y7,y8,y9,y10,y11,y12,y13,y14,y15,y16,y17,y18⟩ := at19c BX.out;obtain ⟨hvz,cz0,cz1,cz2,cz3,cz4,cz5,cz6,cz7,cz8⟩ := FX.out _ KW.out;have Hhvz := hyd hvz;clear hvz) | (go_at_call 136;refine (l4Names_all 4 (by decide) z.ex _ _ [] 0 _ WX.out.1 ((Hhvz.out.keep ((Keep.refl (But g) _).alloc (.cells #[] 9 (0,0)))).any) (strs_none (blk_new _ _) trivial) (by simp) (by decide) (fun x hx => by cases hx)).mono ?_;rintro e w2 ⟨o2,l2,rfl,hO2,hn2,hs2,hK2⟩;have hK2 := ((Keep.refl Any _).alloc (.cells #[] 9 (0,0))).trans hK2;have O2 := hyd hO2;clear hO2;have SC := hyd (SC.out.keep hK2 trivial);have hK2 := (Keep.any (ok := But g) hK2);have OL := hyd (OL.out.keepB hK2 (by omega));have KW := hyd (KW.out.trans hK2);have BX := hyd (blk_keep hK2 BX.out (by show w.heap.size ≠ g;omega));clear hK2;obtain ⟨y0,y1,y2,y3,y4,y5,y6,y7,y8,y9,y10,y11,y12,y13,y14,y15,y16,y17,y18⟩ := at19c BX.out;obtain ⟨hvz,cz0,cz1,cz2,cz3,cz4,cz5,cz6,cz7,cz8⟩ := FX.out _ KW.out;have Hhvz := hyd hvz;clear hvz) | (go_at_call 135;refine (asks2_calls a0 n0 c0 g l0 l2 _ _ SC.out (Strs.keep N0.out KW.out) (by obtain ⟨c,hb,_⟩ := SC.out;exact strs_but hb O2.out)).mono ?_;rintro e w2 ⟨rfl,hS2,hK2⟩;have SC := hyd hS2;clear hS2;have OL := hyd (OL.out.keepB hK2 (by omega));have KW := hyd (KW.out.trans hK2);have BX := hyd (blk_keep hK2 BX.out (by show w.heap.size ≠ g;omega));clear hK2;obtain ⟨y0,y1,y2,y3,y4,y5,y6,y7,y8,y9,y10,y11,y12,y13,y14,y15,y16,y17,y18⟩ := at19c BX.out;obtain ⟨hvz,cz0,cz1,cz2,cz3,cz4,cz5,cz6,cz7,cz8⟩ := FX.out _ KW.out;have Hhvz := hyd hvz;clear hvz) | (at_builtin;refine wpList_append_ex _ rfl (.tmp 78) (.tmp 85) 41 rfl _ _ rfl rfl (app_one _ _ (w.heap.size + 1) _ _ z.name OL.out (by have := KW.out.size;have := blk_lt BX.out;omega) hFz (by omega)) ?_;intro va2 wa ha;have OA := hyd ha.1;have KA := hyd (KW.out.low ha.2 (by omega));have BA := hyd (blk_keep ha.2 BX.out (by show w.heap.size < w.heap.size + 1;omega));have SA := hyd (SC.out.keep ha.2 (by show g < w.heap.size + 1;omega));clear ha))
      all_goals
        go_roundg (gk - 1)
        case rel => exact ⟨k + 1,nl ++ [z.name],by omega,by go_num,by have := HG.out;omega,OA.out,by rw [List.length_append,HN.out];rfl,(fun y hy => by rcases List.mem_append.1 hy with h | h;exact FL.out y h;rw [List.mem_singleton.1 h];exact WX.out.2),SA.out,BA.out,KA.out⟩
        case measure => have := HG.out;omega
    · obtain ⟨aN,cN,rfl⟩ := OL.out.form
      obtain ⟨cd,hbg,hcd⟩ := SC.out
      have x0 := (blk_cell hbg 0).trans rfl
      have f0 := blk_frozen hbg 0
      have zg2 := blk_lt hbg
      have HBG := hyd hbg
      clear hbg
      go_wp2
      go_end0
      refine ⟨rfl,⟨_,nl,cd,(blk_set HBG.out 0 _).trans rfl,?_,by omega,FL.out,hcd⟩,(KW.out).set _ _ (fun _ h => h rfl)⟩
      exact Sl.keep (OwnS.strs OL.out (fun y hy => by have := FL.out y hy;unfold Fits;omega) (fun k hk _ e => by have e : k = g := e;omega)) (fun _ _ _ h => h) ((Keep.refl (But g) _).set _ _ (fun _ h => h rfl))
theorem clause_k9 (n g : Nat) (x : Cl) (cs : List Value) (w : World) (hn9 : n ≤ 700) (h : Scp n w g) (hs : ClR w (But g) x cs) (hw : WfCl x) (hki : x.kind = 9) : Calls Tryz.prog 105 #[.pointer (some ⟨g,0,none⟩),.agg cs.toArray] w (GotScp (n + 10) g w) := by
  have zg : g < w.heap.size := by obtain ⟨v,l,c,hb,_⟩ := h;exact blk_lt hb
  obtain ⟨ap,cp,va,vc,pa,pc,ai,ci,ao,co,at',ct,an,cn,rfl,hk,hpa,hex,hna,hit,hod,hsk,hli,hto,hns⟩ := cl_open hs
  have HPA := hyd hpa
  have HEX := hyd hex
  have HIT := hyd hit
  have HTO := hyd hto
  have HNS := hyd hns
  have WC := hyd hw
  have H0 := hyd h
  have lpa := sl_len hpa
  have lit := sl_len hit
  have lto := sl_len hto
  have lns := sl_len hns
  have KW := hyd ((Keep.refl (But g) w).alloc (.cells #[.int .i64 x.kind,.slice ap x.paths.length cp,.int .i64 x.ex.kind,.int .i64 x.ex.val.kind,.int .i64 x.ex.val.num,.string x.ex.val.text,.slice va x.ex.val.list.length vc,.string x.ex.name,.string x.ex.key,.slice pa x.ex.parts.length pc,.string x.name,.slice ai x.items.length ci,.bool x.distinct,.slice ao x.orders.length co,.int .i64 x.skip,.int .i64 x.limit,.slice at' x.tos.length ct,.slice an x.names.length cn,.bool x.detach] 122 (0,0)))
  have BX := hyd (blk_new w (.cells #[.int .i64 x.kind,.slice ap x.paths.length cp,.int .i64 x.ex.kind,.int .i64 x.ex.val.kind,.int .i64 x.ex.val.num,.string x.ex.val.text,.slice va x.ex.val.list.length vc,.string x.ex.name,.string x.ex.key,.slice pa x.ex.parts.length pc,.string x.name,.slice ai x.items.length ci,.bool x.distinct,.slice ao x.orders.length co,.int .i64 x.skip,.int .i64 x.limit,.slice at' x.tos.length ct,.slice an x.names.length cn,.bool x.detach] 122 (0,0)))
  have SC := hyd (h.keep ((Keep.refl Any w).alloc (.cells #[.int .i64 x.kind,.slice ap x.paths.length cp,.int .i64 x.ex.kind,.int .i64 x.ex.val.kind,.int .i64 x.ex.val.num,.string x.ex.val.text,.slice va x.ex.val.list.length vc,.string x.ex.name,.string x.ex.key,.slice pa x.ex.parts.length pc,.string x.name,.slice ai x.items.length ci,.bool x.distinct,.slice ao x.orders.length co,.int .i64 x.skip,.int .i64 x.limit,.slice at' x.tos.length ct,.slice an x.names.length cn,.bool x.detach] 122 (0,0))))
  clear h hw hs hpa hex hit hod hto hns
  have q1 : (x.kind == 1) = false := by rw [hki];rfl
  have q2 : (x.kind == 2) = false := by rw [hki];rfl
  have q7 : (x.kind == 7) = false := by rw [hki];rfl
  have q3 : (x.kind == 3) = false := by rw [hki];rfl
  have q4 : (x.kind == 4) = false := by rw [hki];rfl
  have q5 : (x.kind == 5) = false := by rw [hki];rfl
  have q6 : (x.kind == 6) = false := by rw [hki];rfl
  have q8 : (x.kind == 8) = false := by rw [hki];rfl
  have q9 : (x.kind == 9) = true := by rw [hki];rfl
  have HKI := hyd hki
  clear hki
  obtain ⟨y0,y1,y2,y3,y4,y5,y6,y7,y8,y9,y10,y11,y12,y13,y14,y15,y16,y17,y18⟩ := at19c BX.out
  go_enter Tryz.func105,Tryz.ntmps105
  go_wp2_with (go_at_call 135;refine (asks_calls n g x.names _ _ SC.out (Strs.keep HNS.out KW.out)).mono ?_;rintro e w2 ⟨rfl,hS2,hK2⟩;have SC := hyd hS2;clear hS2;have KW := hyd (KW.out.trans hK2);have BX := hyd (blk_keep hK2 BX.out (by show w.heap.size ≠ g;omega));clear hK2;obtain ⟨y0,y1,y2,y3,y4,y5,y6,y7,y8,y9,y10,y11,y12,y13,y14,y15,y16,y17,y18⟩ := at19c BX.out)
  go_end0
  exact ⟨rfl,SC.out.up (by omega),KW.out⟩
theorem clause_k0 (n g : Nat) (x : Cl) (cs : List Value) (w : World) (hn9 : n ≤ 700) (h : Scp n w g) (hs : ClR w (But g) x cs) (hw : WfCl x) (hki : ¬ (1 ≤ x.kind ∧ x.kind ≤ 9)) : Calls Tryz.prog 105 #[.pointer (some ⟨g,0,none⟩),.agg cs.toArray] w (GotScp (n + 10) g w) := by
  have zg : g < w.heap.size := by obtain ⟨v,l,c,hb,_⟩ := h;exact blk_lt hb
  obtain ⟨ap,cp,va,vc,pa,pc,ai,ci,ao,co,at',ct,an,cn,rfl,hk,hpa,hex,hna,hit,hod,hsk,hli,hto,hns⟩ := cl_open hs
  have HPA := hyd hpa
  have HEX := hyd hex
  have HIT := hyd hit
  have HTO := hyd hto
  have HNS := hyd hns
  have WC := hyd hw
  have H0 := hyd h
  have lpa := sl_len hpa
  have lit := sl_len hit
  have lto := sl_len hto
  have lns := sl_len hns
  have KW := hyd ((Keep.refl (But g) w).alloc (.cells #[.int .i64 x.kind,.slice ap x.paths.length cp,.int .i64 x.ex.kind,.int .i64 x.ex.val.kind,.int .i64 x.ex.val.num,.string x.ex.val.text,.slice va x.ex.val.list.length vc,.string x.ex.name,.string x.ex.key,.slice pa x.ex.parts.length pc,.string x.name,.slice ai x.items.length ci,.bool x.distinct,.slice ao x.orders.length co,.int .i64 x.skip,.int .i64 x.limit,.slice at' x.tos.length ct,.slice an x.names.length cn,.bool x.detach] 122 (0,0)))
  have BX := hyd (blk_new w (.cells #[.int .i64 x.kind,.slice ap x.paths.length cp,.int .i64 x.ex.kind,.int .i64 x.ex.val.kind,.int .i64 x.ex.val.num,.string x.ex.val.text,.slice va x.ex.val.list.length vc,.string x.ex.name,.string x.ex.key,.slice pa x.ex.parts.length pc,.string x.name,.slice ai x.items.length ci,.bool x.distinct,.slice ao x.orders.length co,.int .i64 x.skip,.int .i64 x.limit,.slice at' x.tos.length ct,.slice an x.names.length cn,.bool x.detach] 122 (0,0)))
  have SC := hyd (h.keep ((Keep.refl Any w).alloc (.cells #[.int .i64 x.kind,.slice ap x.paths.length cp,.int .i64 x.ex.kind,.int .i64 x.ex.val.kind,.int .i64 x.ex.val.num,.string x.ex.val.text,.slice va x.ex.val.list.length vc,.string x.ex.name,.string x.ex.key,.slice pa x.ex.parts.length pc,.string x.name,.slice ai x.items.length ci,.bool x.distinct,.slice ao x.orders.length co,.int .i64 x.skip,.int .i64 x.limit,.slice at' x.tos.length ct,.slice an x.names.length cn,.bool x.detach] 122 (0,0))))
  clear h hw hs hpa hex hit hod hto hns
  have q1 : (x.kind == 1) = false := by rw [beq_eq_false_iff_ne];omega
  have q2 : (x.kind == 2) = false := by rw [beq_eq_false_iff_ne];omega
  have q7 : (x.kind == 7) = false := by rw [beq_eq_false_iff_ne];omega
  have q3 : (x.kind == 3) = false := by rw [beq_eq_false_iff_ne];omega
  have q4 : (x.kind == 4) = false := by rw [beq_eq_false_iff_ne];omega
  have q5 : (x.kind == 5) = false := by rw [beq_eq_false_iff_ne];omega
  have q6 : (x.kind == 6) = false := by rw [beq_eq_false_iff_ne];omega
  have q8 : (x.kind == 8) = false := by rw [beq_eq_false_iff_ne];omega
  have q9 : (x.kind == 9) = false := by rw [beq_eq_false_iff_ne];omega
  have HKI := hyd hki
  clear hki
  obtain ⟨y0,y1,y2,y3,y4,y5,y6,y7,y8,y9,y10,y11,y12,y13,y14,y15,y16,y17,y18⟩ := at19c BX.out
  go_enter Tryz.func105,Tryz.ntmps105
  go_wp2
  go_end0
  exact ⟨rfl,SC.out.up (by omega),KW.out⟩

/- The reference's form of a clause comes to some answer. -/
theorem l5Form_calls (x : Cl) (cs : List Value) (w : World) (hs : ClR w Any x cs) (hw : WfCl x) : Calls Tryz.prog 103 #[.agg cs.toArray] w (SomeB w) := by
  by_cases k1 : x.kind = 1
  · exact l5Form_k1 x cs w hs hw k1
  by_cases k2 : x.kind = 2
  · exact l5Form_k2 x cs w hs hw k2
  by_cases k7 : x.kind = 7
  · exact l5Form_k7 x cs w hs hw k7
  by_cases k3 : x.kind = 3
  · exact l5Form_k3 x cs w hs hw k3
  by_cases k4 : x.kind = 4
  · exact l5Form_k4 x cs w hs hw k4
  by_cases k5 : x.kind = 5
  · exact l5Form_k5 x cs w hs hw k5
  by_cases k6 : x.kind = 6
  · exact l5Form_k6 x cs w hs hw k6
  by_cases k8 : x.kind = 8
  · exact l5Form_k8 x cs w hs hw k8
  by_cases k9 : x.kind = 9
  · exact l5Form_k9 x cs w hs hw k9
  exact l5Form_k0 x cs w hs hw (by omega)
end Go.Proofs.YtjopkcjpedgoaaaGreatDoor

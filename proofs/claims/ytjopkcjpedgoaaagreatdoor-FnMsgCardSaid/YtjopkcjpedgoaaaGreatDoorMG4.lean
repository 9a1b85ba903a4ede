/- The reference's tests of expressions come to some answer, for every expression that is well made; how many parts a kind has. -/
import Derived.Test.YtjopkcjpedgoaaaGreatDoorMG0
import Derived.Test.YtjopkcjpedgoaaaGreatDoorMG2
import Derived.StillTailTactics
/- The reference's tests of expressions come to some answer,for every expression that is well made;how many parts a kind has. -/
namespace Go.Proofs.YtjopkcjpedgoaaaGreatDoor
open Go.RowKit
set_option linter.unusedVariables false
set_option linter.unusedSimpArgs false
set_option maxRecDepth 20000
set_option maxHeartbeats 1000000
def SomeB (w : World) (e : Ending) (w' : World) : Prop := ∃ b : Bool,e = .returned (.bool b) ∧ Keep Any w w'
def arI (k : Int) : Int := if (1 ≤ k ∧ k ≤ 4) ∨ k = 14 then 0 else if k = 9 ∨ k = 11 ∨ k = 13 ∨ k = 15 then 1 else if (5 ≤ k ∧ k ≤ 8) ∨ k = 10 ∨ k = 12 then 2 else -1
theorem l4Arity_calls (k : Int) (w : World) : Calls Tryz.prog 109 #[.int .i64 k] w fun e w' => e = .returned (.int .i64 (arI k)) ∧ w = w' := by
  have FIN := hyd (fun n (h : arI k = n) => (show Ending.returned (.int .i64 n) = .returned (.int .i64 (arI k)) by rw [h]))
  have I1 := hyd (fun b (h : inR k 1 4 = b) w => (show Calls Tryz.prog 41 #[.int .i64 k,.int .i64 1,.int .i64 4] w (Quiet b w) from h ▸ l1In_calls k 1 4 w))
  have I2 := hyd (fun b (h : inR k 5 8 = b) w => (show Calls Tryz.prog 41 #[.int .i64 k,.int .i64 5,.int .i64 8] w (Quiet b w) from h ▸ l1In_calls k 5 8 w))
  by_cases p1 : 1 ≤ k ∧ k ≤ 4
  · have J1 := hyd (I1.out true (by rw [inR];simp;omega))
    go_enter Tryz.func109,Tryz.ntmps109
    go_wp2_with ((with_reducible refine (J1.out _).mono ?_);rintro e w' ⟨rfl,rfl⟩)
    go_ret
    exact ⟨FIN.out _ (by unfold arI;rw [if_pos (.inl p1)]),rfl⟩
  have J1 := hyd (I1.out false (by rw [inR];simp;omega))
  have P1 := hyd p1
  clear p1
  by_cases p2 : 5 ≤ k ∧ k ≤ 8
  · have J2 := hyd (I2.out true (by rw [inR];simp;omega))
    have q1 : (k == 14) = false := by rw [beq_eq_false_iff_ne];omega
    have q2 : (k == 9) = false := by rw [beq_eq_false_iff_ne];omega
    have q3 : (k == 11) = false := by rw [beq_eq_false_iff_ne];omega
    have q4 : (k == 13) = false := by rw [beq_eq_false_iff_ne];omega
    have q5 : (k == 15) = false := by rw [beq_eq_false_iff_ne];omega
    have G := hyd (show arI k = 2 by unfold arI;rw [if_neg (by omega),if_neg (by omega),if_pos (by omega)])
    clear p2
    go_enter Tryz.func109,Tryz.ntmps109
    go_wp2_with (first | ((with_reducible refine (J1.out _).mono ?_);rintro e w' ⟨rfl,rfl⟩) | ((with_reducible refine (J2.out _).mono ?_);rintro e w' ⟨rfl,rfl⟩))
    go_ret
    exact ⟨FIN.out _ G.out,rfl⟩
  · have J2 := hyd (I2.out false (by rw [inR];simp;omega))
    have P2 := hyd p2
    clear p2
    go_enter Tryz.func109,Tryz.ntmps109
    go_wp2_with (first | ((with_reducible refine (J1.out _).mono ?_);rintro e w' ⟨rfl,rfl⟩) | ((with_reducible refine (J2.out _).mono ?_);rintro e w' ⟨rfl,rfl⟩))
    all_goals
      go_ret
      refine ⟨FIN.out _ ?_,rfl⟩
      have p1 := P1.out
      have p2 := P2.out
      simp only [beq_iff_eq,beq_eq_false_iff_ne,ne_eq] at *
      unfold arI
      first
        | (rw [if_pos (by omega)];done)
        | (rw [if_neg (by omega),if_pos (by omega)];done)
        | (rw [if_neg (by omega),if_neg (by omega),if_pos (by omega)];done)
        | (rw [if_neg (by omega),if_neg (by omega),if_neg (by omega)];done)
theorem l4Lit_calls (m : Nat) : ∀ (v : V) (cs : List Value) (w : World),v.w ≤ m → VR w Any v cs → Calls Tryz.prog 158 #[.agg cs.toArray] w (SomeB w) := by
  induction m with
  | zero => intro v cs w h;rw [V.w_eq] at h;omega
  | succ m ih =>
  intro v cs w hw hv
  have IH := hyd ih
  obtain ⟨s,rfl,h1,h2,h3,hs⟩ := VR.iff.1 hv
  have HS := hyd hs
  have HW := hyd (fun (j : Nat) (x : V) (h : v.list[j]? = some x) => (show x.w ≤ m by have := V.w_lt h;omega))
  obtain ⟨kind,num,text,list⟩ := v
  simp only at *
  obtain ⟨a,c,rfl,hc,hm,_⟩ := hs
  clear ih hv hw
  go_enter Tryz.func158,Tryz.ntmps158
  go_wp2
  go_loopg [3] (list.length + 1) (fun g i wr => ∃ k : Nat,k ≤ list.length ∧ i = .int .i64 k ∧ g = list.length + 1 - k ∧ wr.heap[w.heap.size]? = some (.cells #[.int .i64 kind,.int .i64 num,.string text,.slice a list.length c] 62 (0,0)) ∧ Keep Any w wr)
  case atStart => exact ⟨0,by omega,rfl,rfl,blk_new _ _,(Keep.refl _ _).alloc _⟩
  case round =>
    obtain ⟨k,hk,rfl,hg,hb,hK⟩ := hrel
    have b0 : wr.cell? ⟨w.heap.size,0,none⟩ = some (.int .i64 kind) := (blk_cell hb 0).trans rfl
    have b3 : wr.cell? ⟨w.heap.size,3,none⟩ = some (.slice a list.length c) := (blk_cell hb 3).trans rfl
    have HB := hyd hb
    have HG := hyd hg
    have HK := hyd hK
    clear hg hb
    by_cases hlt : k < list.length
    · have hx : list[k]? = some list[k] := List.getElem?_eq_getElem hlt
      have HX := hyd (HW.out _ _ hx)
      obtain ⟨ad,sa,sc,rfl,hvx,c0,c1,c2,c3⟩ := vals_at HS.out hK hx
      generalize list[k] = x at *
      have HV := hyd hvx
      clear hx hvx hK
      go_wp2_with (go_at_call 158;refine (IH.out _ _ _ HX.out HV.out).mono ?_;rintro e w2 ⟨b,rfl,hK2⟩;have HK2 := hyd hK2;clear hK2;cases b)
      · go_ret
        exact ⟨_,rfl,HK.out.trans HK2.out⟩
      · go_roundg (gk - 1)
        case rel => exact ⟨k + 1,by omega,by go_num,by have := HG.out;omega,blk_keep HK2.out HB.out trivial,HK.out.trans HK2.out⟩
        case measure => have := HG.out;omega
    · clear hK
      go_wp2
      all_goals
        go_ret
        exact ⟨_,rfl,HK.out⟩
theorem l1Same_calls (m : Nat) : ∀ (v v' : V) (cs cs' : List Value) (w : World),v.w ≤ m → VR w Any v cs → VR w Any v' cs' → Calls Tryz.prog 146 #[.agg cs.toArray,.agg cs'.toArray] w (SomeB w) := by
  induction m with
  | zero => intro v v' cs cs' w h;rw [V.w_eq] at h;omega
  | succ m ih =>
  intro v v' cs cs' w hw hv hv'
  have IH := hyd ih
  obtain ⟨s,rfl,h1,h2,h3,hs⟩ := VR.iff.1 hv
  obtain ⟨s',rfl,h1',h2',h3',hs'⟩ := VR.iff.1 hv'
  have HS := hyd hs
  have HS' := hyd hs'
  have HW := hyd (fun (j : Nat) (x : V) (h : v.list[j]? = some x) => (show x.w ≤ m by have := V.w_lt h;omega))
  obtain ⟨kind,num,text,list⟩ := v
  obtain ⟨kind',num',text',list'⟩ := v'
  simp only at *
  obtain ⟨a,c,rfl,hc,hm,_⟩ := hs
  obtain ⟨a',c',rfl,hc',hm',_⟩ := hs'
  clear ih hv hw hv'
  by_cases hl : list.length = list'.length
  case neg =>
    have hb : (!((list.length : Int) == (list'.length : Int))) = true := by rw [Bool.not_eq_true',beq_eq_false_iff_ne];omega
    have hb2 : ((list.length : Int) != (list'.length : Int)) = true := by rw [bne_iff_ne];omega
    clear hl
    go_enter Tryz.func146,Tryz.ntmps146
    go_wp2
    all_goals
      go_ret
      exact ⟨_,rfl,by repeat (first | exact Keep.refl _ _ | apply Keep.drewN | apply Keep.drew | apply Keep.alloc)⟩
  case pos =>
    have HL := hyd hl
    have hb : (!((list.length : Int) == (list'.length : Int))) = false := by rw [hl];simp
    have hb2 : ((list.length : Int) != (list'.length : Int)) = false := by rw [hl];simp
    clear hl
    go_enter Tryz.func146,Tryz.ntmps146
    go_wp2
    all_goals first | (go_ret;exact ⟨_,rfl,by repeat (first | exact Keep.refl _ _ | apply Keep.drewN | apply Keep.drew | apply Keep.alloc)⟩) | skip
    go_loopg [5] (list.length + 1) (fun g i wr => ∃ k : Nat,k ≤ list.length ∧ i = .int .i64 k ∧ g = list.length + 1 - k ∧ wr.cell? ⟨w.heap.size,3,none⟩ = some (.slice a list.length c) ∧ wr.cell? ⟨w.heap.size + 1,3,none⟩ = some (.slice a' list'.length c') ∧ Keep Any w wr)
    case atStart => exact ⟨0,by omega,rfl,rfl,(blk_cell (blk_alloc (blk_new _ _) _) 3).trans rfl,(blk_cell (by have := blk_new (w.alloc (.cells #[.int .i64 kind',.int .i64 num',.string text,.slice a list.length c] 62 (0,0))) (.cells #[.int .i64 kind',.int .i64 num',.string text',.slice a' list'.length c'] 62 (0,0));rwa [World.size_alloc] at this) 3).trans rfl,((Keep.refl _ _).alloc _).alloc _⟩
    case round =>
      obtain ⟨k,hk,rfl,hg,y3,x3,hK⟩ := hrel
      have Y3 := hyd y3
      have X3 := hyd x3
      have HG := hyd hg
      have HK := hyd hK
      clear hg
      by_cases hlt : k < list.length
      · have hx : list[k]? = some list[k] := List.getElem?_eq_getElem hlt
        have hx' : list'[k]? = some (list'[k]'(by have := HL.out;omega)) := List.getElem?_eq_getElem (by have := HL.out;omega)
        have hlt' : k < list'.length := by have := HL.out;omega
        have HX := hyd (HW.out _ _ hx)
        obtain ⟨ad,sa,sc,rfl,hvx,c0,c1,c2,c3⟩ := vals_at HS.out hK hx
        obtain ⟨ad',sa',sc',rfl,hux,d0,d1,d2,d3⟩ := vals_at HS'.out hK hx'
        generalize list[k] = x at *
        generalize list'[k] = x' at *
        have HV := hyd hvx
        have HU := hyd hux
        have k0 : (0 : Int) ≤ (k : Int) := by omega
        have k1 : (k : Int) < (list.length : Int) := by omega
        have k2 : (k : Int) < (list'.length : Int) := by omega
        clear hx hx' hvx hux hK
        go_wp2
        go_still_tail 10,(by kernel_rfl)
        change wpList _ _ _ _ _ wr.drew
        go_wp2_with (go_at_call 146;refine (IH.out _ _ _ _ _ HX.out (HV.out.keep ((Keep.refl _ _).drew)) (HU.out.keep ((Keep.refl _ _).drew))).mono ?_;rintro e w2 ⟨b,rfl,hK2⟩;have HK2 := hyd hK2;clear hK2;cases b)
        · go_ret
          exact ⟨_,rfl,HK.out.drew.trans HK2.out⟩
        · go_roundg (gk - 1)
          case rel => exact ⟨k + 1,by omega,by go_num,by have := HG.out;omega,HK2.out.cell Y3.out trivial,HK2.out.cell X3.out trivial,HK.out.drew.trans HK2.out⟩
          case measure => have := HG.out;omega
      · clear hK
        go_wp2
        all_goals
          go_ret
          exact ⟨_,rfl,HK.out⟩
theorem l5Bare_calls (d : Nat) : ∀ (v : Ex) (cs : List Value) (w : World),Wf d v → ER w Any v cs → Calls Tryz.prog 151 #[.agg cs.toArray] w (SomeB w) := by
  induction d with
  | zero => intro v cs w h;exact h.elim
  | succ d ih =>
  intro v cs w hw hv
  have IH := hyd ih
  obtain ⟨va,vc,s,rfl,h1,hvv,h3,h4,hs⟩ := ER.iff.1 hv
  have HS := hyd hs
  have HW := hyd (fun (j : Nat) (x : Ex) (h : v.parts[j]? = some x) => hw.2.2.2.2.2.2 x (List.mem_of_getElem? h))
  obtain ⟨kind,val,name,key,list⟩ := v
  simp only at *
  obtain ⟨a,c,rfl,hc,hm,_⟩ := hs
  clear ih hv hw hvv
  go_enter Tryz.func151,Tryz.ntmps151
  go_wp2
  go_loopg [3] (list.length + 1) (fun g i wr => ∃ k : Nat,k ≤ list.length ∧ i = .int .i64 k ∧ g = list.length + 1 - k ∧ wr.cell? ⟨w.heap.size,0,none⟩ = some (.int .i64 kind) ∧ wr.cell? ⟨w.heap.size,7,none⟩ = some (.slice a list.length c) ∧ Keep Any w wr)
  case atStart => exact ⟨0,by omega,rfl,rfl,(blk_cell (blk_new _ _) 0).trans rfl,(blk_cell (blk_new _ _) 7).trans rfl,(Keep.refl _ _).alloc _⟩
  case round =>
    obtain ⟨k,hk,rfl,hg,y0,y7,hK⟩ := hrel
    have Y0 := hyd y0
    have Y7 := hyd y7
    have HG := hyd hg
    have HK := hyd hK
    clear hg
    by_cases hlt : k < list.length
    · have hx : list[k]? = some list[k] := List.getElem?_eq_getElem hlt
      have HX := hyd (HW.out _ _ hx)
      obtain ⟨ad,xa,xc,pa,pc,rfl,hvx,c0,c1,c2,c3,c4,c5,c6,c7⟩ := exs_at HS.out hK hx
      generalize list[k] = x at *
      have HV := hyd hvx
      clear hx hvx hK
      go_wp2_with (go_at_call 151;refine (IH.out _ _ _ HX.out HV.out).mono ?_;rintro e w2 ⟨b,rfl,hK2⟩;have HK2 := hyd hK2;clear hK2;cases b)
      · go_ret
        exact ⟨_,rfl,HK.out.trans HK2.out⟩
      · go_roundg (gk - 1)
        case rel => exact ⟨k + 1,by omega,by go_num,by have := HG.out;omega,HK2.out.cell Y0.out trivial,HK2.out.cell Y7.out trivial,HK.out.trans HK2.out⟩
        case measure => have := HG.out;omega
    · clear hK
      go_wp2
      all_goals
        go_ret
        exact ⟨_,rfl,HK.out⟩
end Go.Proofs.YtjopkcjpedgoaaaGreatDoor

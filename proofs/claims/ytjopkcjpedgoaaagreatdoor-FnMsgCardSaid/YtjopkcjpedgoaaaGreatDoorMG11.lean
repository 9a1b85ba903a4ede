/- The reference's scope of a question: names that are there, a code; each step leaves such a scope. -/
import Derived.Test.YtjopkcjpedgoaaaGreatDoorMG8
import Derived.Test.YtjopkcjpedgoaaaGreatDoorMG2
import Derived.Test.YtjopkcjpedgoaaaGreatDoorMG5
import Derived.Deep.RegionHeld3
import Derived.Test.YtjopkcjpedgoaaaGreatDoorMGAt
/- The reference's scope of a question: names that are there,a code;each step leaves such a scope. -/
namespace Go.Proofs.YtjopkcjpedgoaaaGreatDoor
open Go.RowKit
set_option linter.unusedVariables false
set_option linter.unusedSimpArgs false
set_option maxRecDepth 20000
set_option maxHeartbeats 4000000
def Scp (n : Nat) (w : World) (g : Nat) : Prop := ∃ (v : Value) (l : List ByteArray) (c : Int),w.heap[g]? = some (.cells #[v,.int .i64 c] 147 (0,0)) ∧ Strs w (But g) v l ∧ l.length ≤ n ∧ (∀ x,x ∈ l → x.size ≤ 100) ∧ I64 c
def GotScp (n : Nat) (g : Nat) (w : World) (e : Ending) (w' : World) : Prop := e = .returned (.tuple #[]) ∧ Scp n w' g ∧ Keep (But g) w w'
theorem fail_calls (n g : Nat) (k : Int) (w : World) (hk : I64 k) (h : Scp n w g) : Calls Tryz.prog 132 #[.pointer (some ⟨g,0,none⟩),.int .i64 k] w (GotScp n g w) := by
  obtain ⟨v,l,c,hb,hs,hn,hl,hc⟩ := h
  have x0 := (blk_cell hb 0).trans rfl
  have x1 := (blk_cell hb 1).trans rfl
  have f1 := blk_frozen hb 1
  have zg := blk_lt hb
  obtain ⟨t,ht⟩ : ∃ t,(c == 0) = t := ⟨_,rfl⟩
  have HS := hyd hs
  clear hs
  go_enter Tryz.func132,Tryz.ntmps132
  cases t
  · go_wp2
    go_end0
    exact ⟨rfl,⟨v,l,c,hb,HS.out,hn,hl,hc⟩,Keep.refl _ _⟩
  · go_wp2
    go_end0
    exact ⟨rfl,⟨v,l,k,(blk_set hb 1 _).trans rfl,Sl.keep HS.out (fun _ _ _ h => h) ((Keep.refl (But g) w).set _ _ (fun _ h => h rfl)),hn,hl,hk⟩,(Keep.refl (But g) w).set _ _ (fun _ h => h rfl)⟩
def AddR (l : List ByteArray) (x : ByteArray) (w : World) (e : Ending) (w' : World) : Prop := ∃ (v' : Value) (l' : List ByteArray),e = .returned v' ∧ Strs w' Any v' l' ∧ l'.length ≤ l.length + 1 ∧ (∀ y,y ∈ l' → y ∈ l ∨ y = x) ∧ Keep Any w w'
theorem l2Add_calls (l : List ByteArray) (v : Value) (x : ByteArray) (w : World) (hs : Strs w Any v l) (hx : Fits x) (hl : l.length ≤ 1000) : Calls Tryz.prog 152 #[v,.string x] w (AddR l x w) := by
  have SW := hyd hs
  have FW := hyd (strs_fits hs)
  obtain ⟨a,c,rfl,hc,hm,_⟩ := hs
  go_enter Tryz.func152,Tryz.ntmps152
  go_wp2
  go_loopg [5] (l.length + 1) (fun g i wr => ∃ k : Nat,k ≤ l.length ∧ i = .int .i64 k ∧ g = l.length + 1 - k ∧ wr = w)
  case atStart => exact ⟨0,by omega,rfl,rfl,rfl⟩
  case round =>
    obtain ⟨k,hk,rfl,hg,rfl⟩ := hrel
    have HG := hyd hg
    clear hg
    by_cases hlt : k < l.length
    · have hy : l[k]? = some l[k] := List.getElem?_eq_getElem hlt
      obtain ⟨ad,rfl,_,c0⟩ := strs_at SW.out (Keep.refl Any wr) hy
      generalize l[k] = y at *
      clear hy
      have k1 : (k : Int) < (l.length : Int) := by omega
      have kc : k ≤ c := by omega
      go_wp2
      · go_roundg (gk - 1)
        case rel => exact ⟨k + 1,by omega,by go_num,by have := HG.out;omega,rfl⟩
        case measure => have := HG.out;omega
      · go_ret
        exact ⟨_,l,rfl,SW.out,by omega,fun y hy => .inl hy,Keep.refl _ _⟩
      · go_region_law (first | (refine step_app_ex _ rfl (.tmp 33) (.tmp 36) 41 rfl _ _ rfl rfl (app_strs _ _ wr.heap.size _ _ (OwnS.new rfl (by simp) (by first | exact blk_new _ _ | exact blk_new1 _ _ _ | exact blk_alloc (blk_new _ _) _)) (by first | (simp;done) | (simp;omega)) _ _ (Strs.keep (strs_upto SW.out hk) (by repeat (first | (with_reducible exact Keep.refl _ _) | (with_reducible refine Keep.alloc ?_ _) | (with_reducible refine Keep.drew ?_)))) (by first | (simp;done) | (simp;omega))) ?_;intro v1 w1 h1;have O1 := hyd h1.1;have G1 := hyd h1.2.1;have K1 := hyd (Keep.grown (ok := Any) (a := wr) (by repeat (first | (with_reducible exact Keep.refl _ _) | (with_reducible refine Keep.alloc ?_ _) | (with_reducible refine Keep.drew ?_))) h1.2.1 (fun i hi hlt => by first | (simp [Value.ownBlock] at hi;done) | (simp [Value.ownBlock] at hi;omega)));clear h1) | (refine step_app_ex _ rfl (.tmp 37) (.tmp 39) 41 rfl _ _ rfl rfl (app_strs _ _ wr.heap.size _ _ (O1.out.keepA (by repeat (first | (with_reducible exact Keep.refl _ _) | (with_reducible refine Keep.alloc ?_ _) | (with_reducible refine Keep.drew ?_)))) (by have := K1.out.size;simp;try omega) _ _ (strs_litF [x] rfl (by first | exact blk_new _ _ | exact (G1.out.block _ (by simp;try omega) (by simp [Value.ownBlock];try omega)).trans (by first | exact blk_new _ _ | exact blk_new1 _ _ _ | exact blk_alloc (blk_new _ _) _)) trivial (by simp) (fun y hy => by rw [List.mem_singleton.1 hy];exact hx)) (by first | (simp;done) | (simp;omega))) ?_;intro v2 w2 h2;have O2 := hyd h2.1;have G2 := hyd h2.2.1;have K2 := hyd (Keep.grown (ok := Any) (a := wr) (by repeat (first | (with_reducible exact K1.out) | (with_reducible refine Keep.alloc ?_ _) | (with_reducible refine Keep.drew ?_))) h2.2.1 (fun i hi hlt => by have := (World.ownsRow.lt O1.out i hi).1;omega));clear h2) | (refine step_app_ex _ rfl (.tmp 40) (.tmp 43) 41 rfl _ _ rfl rfl (app_strs _ _ wr.heap.size _ _ (O2.out.keepA (by repeat (first | (with_reducible exact Keep.refl _ _) | (with_reducible refine Keep.alloc ?_ _) | (with_reducible refine Keep.drew ?_)))) (by have := K2.out.size;simp;try omega) _ _ (Strs.keep (strs_from SW.out hk (by omega)) (by repeat (first | (with_reducible exact K2.out) | (with_reducible refine Keep.alloc ?_ _) | (with_reducible refine Keep.drew ?_)))) (by first | (simp;done) | (simp;omega))) ?_;intro v3 w3 h3;have O3 := hyd h3.1;have G3 := hyd h3.2.1;have K3 := hyd (Keep.grown (ok := Any) (a := wr) (by repeat (first | (with_reducible exact K2.out) | (with_reducible refine Keep.alloc ?_ _) | (with_reducible refine Keep.drew ?_))) h3.2.1 (fun i hi hlt => by have := (World.ownsRow.lt O2.out i hi).1;omega));clear h3))
        all_goals go_wp2
        all_goals
          go_ret
          refine ⟨_,_,rfl,O3.out.strs (fun y hy => ?_) (fun _ _ _ => trivial),by simp;omega,fun y hy => ?_,K3.out⟩
          · simp only [List.nil_append,List.mem_append,List.mem_singleton] at hy
            rcases hy with (h | h) | h
            · exact FW.out y (List.mem_of_mem_take h)
            · rw [h];exact hx
            · exact FW.out y (List.mem_of_mem_drop h)
          · simp only [List.nil_append,List.mem_append,List.mem_singleton] at hy
            rcases hy with (h | h) | h
            · exact .inl (List.mem_of_mem_take h)
            · exact .inr h
            · exact .inl (List.mem_of_mem_drop h)
    · have k1 : ¬ (k : Int) < (l.length : Int) := by omega
      have kc : k ≤ c := by omega
      go_wp2
      go_region_law (first | (refine step_app_ex _ rfl (.tmp 33) (.tmp 36) 41 rfl _ _ rfl rfl (app_strs _ _ wr.heap.size _ _ (OwnS.new rfl (by simp) (by first | exact blk_new _ _ | exact blk_new1 _ _ _ | exact blk_alloc (blk_new _ _) _)) (by first | (simp;done) | (simp;omega)) _ _ (Strs.keep (strs_upto SW.out hk) (by repeat (first | (with_reducible exact Keep.refl _ _) | (with_reducible refine Keep.alloc ?_ _) | (with_reducible refine Keep.drew ?_)))) (by first | (simp;done) | (simp;omega))) ?_;intro v1 w1 h1;have O1 := hyd h1.1;have G1 := hyd h1.2.1;have K1 := hyd (Keep.grown (ok := Any) (a := wr) (by repeat (first | (with_reducible exact Keep.refl _ _) | (with_reducible refine Keep.alloc ?_ _) | (with_reducible refine Keep.drew ?_))) h1.2.1 (fun i hi hlt => by first | (simp [Value.ownBlock] at hi;done) | (simp [Value.ownBlock] at hi;omega)));clear h1) | (refine step_app_ex _ rfl (.tmp 37) (.tmp 39) 41 rfl _ _ rfl rfl (app_strs _ _ wr.heap.size _ _ (O1.out.keepA (by repeat (first | (with_reducible exact Keep.refl _ _) | (with_reducible refine Keep.alloc ?_ _) | (with_reducible refine Keep.drew ?_)))) (by have := K1.out.size;simp;try omega) _ _ (strs_litF [x] rfl (by first | exact blk_new _ _ | exact (G1.out.block _ (by simp;try omega) (by simp [Value.ownBlock];try omega)).trans (by first | exact blk_new _ _ | exact blk_new1 _ _ _ | exact blk_alloc (blk_new _ _) _)) trivial (by simp) (fun y hy => by rw [List.mem_singleton.1 hy];exact hx)) (by first | (simp;done) | (simp;omega))) ?_;intro v2 w2 h2;have O2 := hyd h2.1;have G2 := hyd h2.2.1;have K2 := hyd (Keep.grown (ok := Any) (a := wr) (by repeat (first | (with_reducible exact K1.out) | (with_reducible refine Keep.alloc ?_ _) | (with_reducible refine Keep.drew ?_))) h2.2.1 (fun i hi hlt => by have := (World.ownsRow.lt O1.out i hi).1;omega));clear h2) | (refine step_app_ex _ rfl (.tmp 40) (.tmp 43) 41 rfl _ _ rfl rfl (app_strs _ _ wr.heap.size _ _ (O2.out.keepA (by repeat (first | (with_reducible exact Keep.refl _ _) | (with_reducible refine Keep.alloc ?_ _) | (with_reducible refine Keep.drew ?_)))) (by have := K2.out.size;simp;try omega) _ _ (Strs.keep (strs_from SW.out hk (by omega)) (by repeat (first | (with_reducible exact K2.out) | (with_reducible refine Keep.alloc ?_ _) | (with_reducible refine Keep.drew ?_)))) (by first | (simp;done) | (simp;omega))) ?_;intro v3 w3 h3;have O3 := hyd h3.1;have G3 := hyd h3.2.1;have K3 := hyd (Keep.grown (ok := Any) (a := wr) (by repeat (first | (with_reducible exact K2.out) | (with_reducible refine Keep.alloc ?_ _) | (with_reducible refine Keep.drew ?_))) h3.2.1 (fun i hi hlt => by have := (World.ownsRow.lt O2.out i hi).1;omega));clear h3))
      all_goals go_wp2
      all_goals
        go_ret
        refine ⟨_,_,rfl,O3.out.strs (fun y hy => ?_) (fun _ _ _ => trivial),by simp;omega,fun y hy => ?_,K3.out⟩
        · simp only [List.nil_append,List.mem_append,List.mem_singleton] at hy
          rcases hy with (h | h) | h
          · exact FW.out y (List.mem_of_mem_take h)
          · rw [h];exact hx
          · exact FW.out y (List.mem_of_mem_drop h)
        · simp only [List.nil_append,List.mem_append,List.mem_singleton] at hy
          rcases hy with (h | h) | h
          · exact .inl (List.mem_of_mem_take h)
          · exact .inr h
          · exact .inl (List.mem_of_mem_drop h)
theorem Scp.keep {n g : Nat} {w w' : World} (h : Scp n w g) (k : Keep Any w w') : Scp n w' g := by
  obtain ⟨v,l,c,hb,hs,hn,hl,hc⟩ := h
  exact ⟨v,l,c,blk_keep k hb trivial,Sl.keep hs (fun _ _ _ h => h) k.any,hn,hl,hc⟩
theorem Strs.any {w : World} {ok : Nat → Prop} {v : Value} {l : List ByteArray} (h : Strs w ok v l) : Strs w Any v l := Sl.mono h (fun _ _ _ h => h) (fun _ _ _ => trivial) (by decide)
theorem Scp.up {n m g : Nat} {w : World} (h : Scp n w g) (hm : n ≤ m) : Scp m w g := by
  obtain ⟨v,l,c,hb,hs,hn,hl,hc⟩ := h
  exact ⟨v,l,c,hb,hs,by omega,hl,hc⟩
theorem asks_calls (n g : Nat) (l : List ByteArray) (v : Value) (w : World) (h : Scp n w g) (hl : Strs w (But g) v l) : Calls Tryz.prog 135 #[.pointer (some ⟨g,0,none⟩),v] w (GotScp n g w) := by
  have HL := hyd hl
  have H0 := hyd h
  obtain ⟨a,c,rfl,hc,hm,_⟩ := hl
  clear h
  go_enter Tryz.func135,Tryz.ntmps135
  go_wp2
  go_loopg [4] (l.length + 1) (fun gg i wr => ∃ k : Nat,k ≤ l.length ∧ i = .int .i64 k ∧ gg = l.length + 1 - k ∧ Scp n wr g ∧ Keep (But g) w wr)
  case atStart => exact ⟨0,by omega,rfl,rfl,H0.out,Keep.refl _ _⟩
  case round =>
    obtain ⟨k,hk,rfl,hg,hS,hK⟩ := hrel
    have HG := hyd hg
    have KW := hyd hK
    have SC := hyd hS
    clear hg hK hS
    by_cases hlt : k < l.length
    · have hx : l[k]? = some l[k] := List.getElem?_eq_getElem hlt
      obtain ⟨ad,rfl,hFx,FX⟩ := strs_all HL.out hx
      have c0 := FX _ KW.out
      generalize l[k] = x at *
      clear hx FX
      obtain ⟨vn,ln,cd,hb,hs,hn,hl2,hcd⟩ := SC.out
      have NS := hyd hs.any
      obtain ⟨an,cn,rfl,_⟩ := hs
      have x0 := (blk_cell hb 0).trans rfl
      have zg := blk_lt hb
      have k0 : (0 : Int) ≤ (k : Int) := by omega
      have k1 : (k : Int) < (l.length : Int) := by omega
      have HQ := hyd (fun w' (k : Keep Any wr w') => l2Has_quiet ln _ x w' (Strs.keep NS.out k))
      obtain ⟨t,ht⟩ : ∃ t,hasB ln x = t := ⟨_,rfl⟩
      rw [ht] at HQ
      go_wp2
      go_quiet ((go_at_call 131;exact Calls.quiet_of_same (HQ.out _ (by first | exact Keep.refl _ _ | exact (Keep.refl _ _).drew | exact (Keep.refl _ _).drewN _))))
      cases t
      · go_wp2_with (go_at_call 132;refine (fail_calls n g 3 _ ⟨by decide,by decide⟩ (SC.out.keep (by first | exact Keep.refl _ _ | exact (Keep.refl _ _).drew | exact (Keep.refl _ _).drewN _))).mono ?_;rintro e w2 ⟨rfl,hS,hK⟩;have K2 := hyd ((KW.out.drewN _).trans hK);have S2 := hyd hS;clear hS hK)
        go_roundg (gk - 1)
        case rel => exact ⟨k + 1,by omega,by go_num,by have := HG.out;omega,S2.out,K2.out⟩
        case measure => have := HG.out;omega
      · go_wp2
        go_roundg (gk - 1)
        case rel => exact ⟨k + 1,by omega,by go_num,by have := HG.out;omega,SC.out.keep ((Keep.refl _ _).drewN _),KW.out.drewN _⟩
        case measure => have := HG.out;omega
    · go_wp2
      go_end0
      exact ⟨rfl,SC.out,KW.out⟩
theorem adds_calls (n g : Nat) (x : ByteArray) (w : World) (hn9 : n ≤ 900) (hx : x.size ≤ 100) (h : Scp n w g) : Calls Tryz.prog 133 #[.pointer (some ⟨g,0,none⟩),.string x] w (GotScp (n + 1) g w) := by
  have H0 := hyd h
  obtain ⟨vn,ln,cd,hb,hs,hn,hl2,hcd⟩ := h
  have hF : Fits x := by unfold Fits;omega
  have LF := hyd (strs_fits hs)
  have NS := hyd hs.any
  have L2 := hyd hl2
  obtain ⟨an,cn,rfl,_⟩ := hs
  have x0 := (blk_cell hb 0).trans rfl
  have f0 := blk_frozen hb 0
  have zg := blk_lt hb
  have HQ := hyd (fun w' (k : Keep Any w w') => l2Has_quiet ln _ x w' (Strs.keep NS.out k))
  obtain ⟨t,ht⟩ : ∃ t,hasB ln x = t := ⟨_,rfl⟩
  rw [ht] at HQ
  obtain ⟨u,hu⟩ : ∃ u,(x.toList == ([] : List UInt8)) = u := ⟨_,rfl⟩
  have hu2 : (x.toList != ([] : List UInt8)) = !u := by rw [bne,hu]
  clear hl2
  have ARM := True.intro
  go_enter Tryz.func133,Tryz.ntmps133
  cases u
  · cases t
    · go_wp2_with (first | (go_at_call 131;refine (HQ.out _ (Keep.refl _ _)).mono ?_;rintro e w' ⟨rfl,hw⟩;have hw := hw.symm;subst hw) | (at_builtin;refine wpList_append_ex _ rfl (.tmp 16) (.tmp 20) 41 rfl _ _ rfl rfl (app_strs _ _ w.heap.size _ [] (OwnS.new rfl (Nat.le_refl _) (blk_new _ _)) (by first | (simp;done) | (simp;omega)) _ ln (Strs.keep NS.out (by repeat (first | (with_reducible exact Keep.refl _ _) | (with_reducible refine Keep.alloc ?_ _) | (with_reducible refine Keep.drew ?_)))) (by rw [List.length_nil];omega)) ?_;intro v1 w1 h1;have O1 := hyd (show OwnS w1 w.heap.size v1 ln from h1.1);have K1 := hyd (Keep.grown (ok := Any) (a := w) (by repeat (first | (with_reducible exact Keep.refl _ _) | (with_reducible refine Keep.alloc ?_ _) | (with_reducible refine Keep.drew ?_))) h1.2.1 (fun i hi hlt => by first | (simp [Value.ownBlock] at hi;done) | (simp [Value.ownBlock] at hi;omega)));clear h1) | (at_builtin;refine wpList_append_ex _ rfl (.tmp 21) (.tmp 23) 41 rfl _ _ rfl rfl (app_one _ _ w.heap.size _ ln x O1.out K1.out.size hF (by omega)) ?_;intro v2 w2 h2;obtain ⟨a2,c2,hv2⟩ := h2.1.form;have hv3 : v2 = .slice a2 (ln.length + 1) c2 := (by rw [hv2,List.length_append];rfl);clear hv2;subst hv3;have O2 := hyd h2.1;have K2 := hyd (K1.out.low h2.2 (Nat.le_refl _));have G2 := hyd (blk_keep K2.out hb trivial);have x0 := (blk_cell G2.out 0).trans rfl;have f0 := blk_frozen G2.out 0;have zg2 := blk_lt G2.out;clear h2))
      go_end0
      refine ⟨rfl,⟨_,ln ++ [x],cd,(blk_set G2.out 0 _).trans rfl,?_,by rw [List.length_append];simp;omega,?_,hcd⟩,(K2.out.any).set _ _ (fun _ h => h rfl)⟩
      · exact Sl.keep (OwnS.strs O2.out (fun y hy => by rcases List.mem_append.1 hy with h | h;exact LF.out y h;rw [List.mem_singleton.1 h];exact hF) (fun k hk _ e => by have e : k = g := e;omega)) (fun _ _ _ h => h) ((Keep.refl (But g) _).set _ _ (fun _ h => h rfl))
      · intro y hy
        rcases List.mem_append.1 hy with h | h
        · exact L2.out y h
        · rw [List.mem_singleton.1 h];exact hx
    · go_wp2_with (go_at_call 131;refine (HQ.out _ (Keep.refl _ _)).mono ?_;rintro e w' ⟨rfl,hw⟩;have hw := hw.symm;subst hw)
      go_end0
      exact ⟨rfl,H0.out.up (by omega),Keep.refl _ _⟩
  · go_wp2
    go_end0
    exact ⟨rfl,H0.out.up (by omega),Keep.refl _ _⟩
def nm : Nat → Nat
  | 0 => 0
  | d + 1 => 2 * nm d + 1
theorem ar_le (k : Int) : ar k ≤ 2 := by unfold ar;split;decide;split <;> decide
def NamesE (d : Nat) : Prop := ∀ (v : Ex) (cs : List Value) (o : Value) (l : List ByteArray) (n : Nat) (w : World),Wf d v → ER w Any v cs → Strs w Any o l → l.length ≤ n → n + nm d ≤ 800 → (∀ x,x ∈ l → x.size ≤ 100) → Calls Tryz.prog 136 #[.agg cs.toArray,o] w (GotN (n + nm d) w)
theorem nm_le {d : Nat} (h : d ≤ 5) : nm d ≤ 31 := by
  obtain rfl | rfl | rfl | rfl | rfl | rfl : d = 0 ∨ d = 1 ∨ d = 2 ∨ d = 3 ∨ d = 4 ∨ d = 5 := by omega
  all_goals decide
theorem l4Names_of (d : Nat) (hd : d ≤ 4) (ih : NamesE d) : NamesE (d + 1) := by
  intro v cs o l n w hw hv ho hl hn hs
  have IH := hyd (fun v cs o l n w h1 h2 h3 h4 h5 h6 => ih v cs o l n w h1 h2 h3 h4 h5 h6)
  have hB : nm (d + 1) = 2 * nm d + 1 := rfl
  have hB2 := nm_le (show d ≤ 5 by omega)
  obtain ⟨va,vc,s,rfl,h1,hvv,h3,h4,hps⟩ := ER.iff.1 hv
  obtain ⟨g1,g2,g3,g4,g5,g6,g7⟩ := hw
  obtain ⟨kind,val,name,key,list⟩ := v
  simp only at *
  have hl2 : list.length ≤ 2 := by have := ar_le kind;omega
  have HS := hyd hps
  have G7 := hyd g7
  have HO := hyd ho
  have SZ := hyd hs
  obtain ⟨a,c,rfl,hc,hm,_⟩ := hps
  obtain ⟨ao,co,rfl,_⟩ := ho
  have KW := hyd ((Keep.refl Any w).alloc (.cells #[.int .i64 kind,.int .i64 val.kind,.int .i64 val.num,.string val.text,.slice va val.list.length vc,.string name,.string key,.slice a list.length c] 117 (0,0)))
  have BX := hyd (blk_new w (.cells #[.int .i64 kind,.int .i64 val.kind,.int .i64 val.num,.string val.text,.slice va val.list.length vc,.string name,.string key,.slice a list.length c] 117 (0,0)))
  clear ih hv hvv g1 g6 g7 hs
  obtain ⟨y0,y1,y2,y3,y4,y5,y6,y7⟩ := at8c BX.out
  obtain ⟨t2,ht2⟩ : ∃ t,(kind == 2) = t := ⟨_,rfl⟩
  obtain ⟨t3,ht3⟩ : ∃ t,(kind == 3) = t := ⟨_,rfl⟩
  go_enter Tryz.func136,Tryz.ntmps136
  go_upto_region 1 with fail
  go_cut [13] from 6 to 12 (fun v wc => ∃ b : Bool,v = .bool b ∧ wc.heap[w.heap.size]? = some (.cells #[.int .i64 kind,.int .i64 val.kind,.int .i64 val.num,.string val.text,.slice va val.list.length vc,.string name,.string key,.slice a list.length c] 117 (0,0)) ∧ Keep Any w wc)
  case first =>
    go_wp2
    all_goals
      go_meet
      exact ⟨_,rfl,BX.out,KW.out⟩
  case rest =>
  obtain ⟨b13,rfl,hB,hK⟩ := hcut
  clear KW BX
  have KW := hyd hK
  have BX := hyd hB
  clear hK hB
  obtain ⟨y0,y1,y2,y3,y4,y5,y6,y7⟩ := at8c BX.out
  go_upto_if 13 with fail
  go_cut [1] from 14 to 17 (fun o wc => ∃ (a1 : Option Addr) (c1 : Nat) (l1 : List ByteArray),o = .slice a1 l1.length c1 ∧ Strs wc Any o l1 ∧ l1.length ≤ n + 1 ∧ (∀ x,x ∈ l1 → x.size ≤ 100) ∧ wc.heap[w.heap.size]? = some (.cells #[.int .i64 kind,.int .i64 val.kind,.int .i64 val.num,.string val.text,.slice va val.list.length vc,.string name,.string key,.slice a list.length c] 117 (0,0)) ∧ Keep Any w wc)
  case first =>
    cases b13
    all_goals go_wp2_with (go_at_call 152;refine (l2Add_calls l _ name _ (Strs.keep HO.out KW.out) h3 (by omega)).mono ?_;rintro e w2 ⟨o2,l2,rfl,hO2,hn2,hm2,hK2⟩;have KW := hyd (KW.out.trans hK2);have BX := hyd (blk_keep hK2 BX.out trivial);clear hK2;obtain ⟨y0,y1,y2,y3,y4,y5,y6,y7⟩ := at8c BX.out;have O2 := hyd hO2;obtain ⟨a2,c2,rfl,_⟩ := hO2)
    all_goals
      go_meet
      first
        | exact ⟨_,_,l2,rfl,O2.out,by omega,fun y hy => by rcases hm2 y hy with h | h;exact SZ.out y h;rw [h];exact g2,BX.out,KW.out⟩
        | exact ⟨_,_,l,rfl,Strs.keep HO.out KW.out,by omega,SZ.out,BX.out,KW.out⟩
  case rest =>
    obtain ⟨a1,c1,l1,rfl,hO,hn1,hs1,hB,hK⟩ := hcut
    clear KW BX
    have KW := hyd hK
    have BX := hyd hB
    have O1 := hyd hO
    have S1 := hyd hs1
    clear hO hB hK hs1
    obtain ⟨y0,y1,y2,y3,y4,y5,y6,y7⟩ := at8c BX.out
    go_wp2
    go_loopg [1,5] (list.length + 1) (fun gg o i wr => ∃ (k : Nat) (a1 : Option Addr) (c1 : Nat) (l1 : List ByteArray),k ≤ list.length ∧ i = .int .i64 k ∧ gg = list.length + 1 - k ∧ o = .slice a1 l1.length c1 ∧ Strs wr Any o l1 ∧ l1.length ≤ n + 1 + k * nm d ∧ (∀ x,x ∈ l1 → x.size ≤ 100) ∧ wr.heap[w.heap.size]? = some (.cells #[.int .i64 kind,.int .i64 val.kind,.int .i64 val.num,.string val.text,.slice va val.list.length vc,.string name,.string key,.slice a list.length c] 117 (0,0)) ∧ Keep Any w wr)
    case atStart => exact ⟨0,_,_,l1,by omega,rfl,rfl,rfl,O1.out,by omega,S1.out,BX.out,KW.out⟩
    case round =>
      clear KW BX
      obtain ⟨k,a1,c1,l1,hk,rfl,hg,rfl,hO,hn1,hs1,hB,hK⟩ := hrel
      have HG := hyd hg
      have KW := hyd hK
      have BX := hyd hB
      have O1 := hyd hO
      have S1 := hyd hs1
      clear hg hO hB hK hs1
      obtain ⟨y0,y1,y2,y3,y4,y5,y6,y7⟩ := at8c BX.out
      by_cases hlt : k < list.length
      · have hx : list[k]? = some list[k] := List.getElem?_eq_getElem hlt
        have GX := hyd (G7.out _ (List.mem_of_getElem? hx))
        obtain ⟨adx,vax,vcx,pax,pcx,e,FX⟩ := exs_all HS.out hx
        have FX := hyd FX
        cases e
        generalize list[k] = x at *
        clear hx
        obtain ⟨hvx,cx0,cx1,cx2,cx3,cx4,cx5,cx6,cx7⟩ := FX.out _ KW.out
        have Hhvx := hyd hvx
        clear hvx
        have k0 : (0 : Int) ≤ (k : Int) := by omega
        have k1 : (k : Int) < (list.length : Int) := by omega
        have hkn : k * nm d + nm d ≤ 2 * nm d := by have : k + 1 ≤ 2 := (by omega);have := Nat.mul_le_mul_right (nm d) this;rw [Nat.add_mul,Nat.one_mul] at this;exact this
        go_wp2_with (go_at_call 136;refine (IH.out x _ _ l1 (n + 1 + k * nm d) _ GX.out Hhvx.out O1.out hn1 (by omega) S1.out).mono ?_;rintro e w2 ⟨o2,l2,rfl,hO2,hn2,hs2,hK2⟩;have KW := hyd (KW.out.trans hK2);have BX := hyd (blk_keep hK2 BX.out trivial);clear hK2;obtain ⟨y0,y1,y2,y3,y4,y5,y6,y7⟩ := at8c BX.out;have O2 := hyd hO2;obtain ⟨a2,c2,rfl,_⟩ := hO2)
        go_roundg (gk - 1)
        case rel => exact ⟨k + 1,_,_,l2,by omega,by go_num,by have := HG.out;omega,rfl,O2.out,by rw [Nat.add_mul,Nat.one_mul];omega,hs2,BX.out,KW.out⟩
        case measure => have := HG.out;omega
      · go_wp2
        go_ret
        have hkn : k * nm d ≤ 2 * nm d := Nat.mul_le_mul_right _ (by omega)
        exact ⟨_,l1,rfl,O1.out,by omega,S1.out,KW.out⟩
end Go.Proofs.YtjopkcjpedgoaaaGreatDoor

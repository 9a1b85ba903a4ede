/- Draws: the reader's place is bounded, names that are there; the elder contracts told so. No condition. A literal drawn. -/
import Derived.Test.YtjopkcjpedgoaaaGreatDoorMG22
import Derived.Test.YtjopkcjpedgoaaaGreatDoorMG0
import Derived.Test.YtjopkcjpedgoaaaGreatDoorMG1
import Derived.Test.YtjopkcjpedgoaaaGreatDoorMG2
/- Draws: the reader's place is bounded,names that are there;the elder contracts told so. No condition. -/
namespace Go.Proofs.YtjopkcjpedgoaaaGreatDoor
open Go.RowKit
set_option linter.unusedVariables false
set_option linter.unusedSimpArgs false
abbrev B2 (b g : Nat) (k : Nat) : Prop := k ≠ b ∧ k ≠ g
def BytO (ok : Nat → Prop) (w : World) (s : Value) (n : Nat) : Prop :=
  ∃ (a : Option Addr) (c : Nat),s = .slice a n c ∧ n ≤ c ∧ c ≤ 9223372036854775807 ∧ (0 < n → ∃ ad : Addr,a = some ad ∧ ok ad.block ∧ ∀ i,i < n → ∃ x : Nat,x < 256 ∧ w.cell? (ad.add i) = some (.int .u8 x))
theorem BytO.keep {ok : Nat → Prop} {w w' : World} {s : Value} {n : Nat} (h : BytO ok w s n) (k : Keep ok w w') : BytO ok w' s n := by
  obtain ⟨a,c,rfl,h1,h2,h3⟩ := h
  refine ⟨a,c,rfl,h1,h2,fun hn => ?_⟩
  obtain ⟨ad,rfl,hb,hf⟩ := h3 hn
  refine ⟨ad,rfl,hb,fun i hi => ?_⟩
  obtain ⟨x,hx,hc⟩ := hf i hi
  exact ⟨x,hx,k.cell hc (by rw [add_block];exact hb)⟩
theorem BytO.mono {ok ok' : Nat → Prop} {w : World} {s : Value} {n : Nat} (h : BytO ok w s n) (hi : ∀ k,k < w.heap.size → ok k → ok' k) : BytO ok' w s n := by
  obtain ⟨a,c,rfl,h1,h2,h3⟩ := h
  refine ⟨a,c,rfl,h1,h2,fun hn => ?_⟩
  obtain ⟨ad,rfl,hb,hf⟩ := h3 hn
  obtain ⟨x,hx,hc⟩ := hf 0 hn
  have := World.block_lt_of_cell? w _ hc
  rw [add_block] at this
  exact ⟨ad,rfl,hi _ this hb,hf⟩
theorem BytO.byt {w : World} {b : Nat} {s : Value} {n : Nat} (h : BytO (But b) w s n) : Byt w b s n := h
def RdB (b : Nat) (s : Value) (P : Nat) (w : World) : Prop := ∃ p : Nat,p ≤ P ∧ w.heap[b]? = some (.cells #[s,.int .i64 p] 77 (0,0))
theorem RdB.keep {ok : Nat → Prop} {b : Nat} {s : Value} {P : Nat} {w w' : World} (h : RdB b s P w) (k : Keep ok w w') (hb : ok b) : RdB b s P w' := by
  obtain ⟨p,hp,h⟩ := h
  exact ⟨p,hp,blk_keep k h hb⟩
theorem RdB.up {b : Nat} {s : Value} {P Q : Nat} {w : World} (h : RdB b s P w) (hq : P ≤ Q) : RdB b s Q w := by
  obtain ⟨p,hp,h⟩ := h
  exact ⟨p,by omega,h⟩
theorem RdB.lt {b : Nat} {s : Value} {P : Nat} {w : World} (h : RdB b s P w) : b < w.heap.size := by
  obtain ⟨p,hp,h⟩ := h
  exact blk_lt h
theorem pickA (k : Int) (b : Nat) (s : Value) (n P : Nat) (w : World) (hB : BytO (But b) w s n) (h : RdB b s P w) (hn : n ≤ 2000) (hP : P ≤ 900000) (hk : -1000000 ≤ k ∧ k ≤ 1000000) :
    Calls Tryz.prog 26 #[.pointer (some ⟨b,0,none⟩),.int .i64 k] w fun e w' => ∃ j : Int,e = .returned (.int .i64 j) ∧ 0 ≤ j ∧ (1 ≤ k → j < k) ∧ RdB b s (P + 1) w' ∧ Keep (But b) w w' := by
  obtain ⟨p,hp,h⟩ := h
  refine (pick_calls k w b s n p ⟨h,hB⟩ hn (by omega) hk).mono ?_
  rintro e w' ⟨j,rfl,h0,h1,h2,h3⟩
  exact ⟨j,rfl,h0,h1,⟨p + 1,by omega,h2.1⟩,h3⟩
theorem ofA (l : List ByteArray) (v : Value) (b : Nat) (s : Value) (n P : Nat) (w : World) (hB : BytO (But b) w s n) (h : RdB b s P w) (hn : n ≤ 2000) (hP : P ≤ 900000) (hl : 1 ≤ l.length) (hl2 : l.length ≤ 1000) (hv : Strs w (But b) v l) :
    Calls Tryz.prog 20 #[.pointer (some ⟨b,0,none⟩),v] w fun e w' => ∃ x,x ∈ l ∧ e = .returned (.string x) ∧ RdB b s (P + 1) w' ∧ Keep (But b) w w' := by
  obtain ⟨p,hp,h⟩ := h
  refine (of_calls l v w b s n p ⟨h,hB⟩ hn (by omega) hl hl2 hv).mono ?_
  rintro e w' ⟨x,hx,rfl,h2,h3⟩
  exact ⟨x,hx,rfl,⟨p + 1,by omega,h2.1⟩,h3⟩
theorem ofL (l : List ByteArray) (o : Obj) (b : Nat) (s : Value) (n P : Nat) (w : World) (cs : Array Value) (ho : o = .cells cs 9 (0,0)) (hcs : cs = (l.map Value.string).toArray) (hB : BytO (But b) w s n) (h : RdB b s P w) (hn : n ≤ 2000) (hP : P ≤ 900000) (hl : 1 ≤ l.length) (hl2 : l.length ≤ 1000) (hx : ∀ x,x ∈ l → x.size ≤ 100) :
    Calls Tryz.prog 20 #[.pointer (some ⟨b,0,none⟩),.slice (some ⟨w.heap.size,0,none⟩) l.length l.length] (w.alloc o) fun e w' => ∃ x,x ∈ l ∧ x.size ≤ 100 ∧ e = .returned (.string x) ∧ RdB b s (P + 1) w' ∧ Keep (But b) w w' := by
  have hb := h.lt
  subst ho
  refine (ofA l _ b s n P _ (hB.keep ((Keep.refl _ _).alloc _)) (h.keep ((Keep.refl Any _).alloc _) trivial) hn hP hl hl2 (strs_lit l hcs (blk_new _ _) (show w.heap.size ≠ b by omega) hl2 (fun x h => Nat.le_trans (hx x h) (by decide)))).mono ?_
  rintro e w' ⟨x,hm,rfl,h2,h3⟩
  exact ⟨x,hm,hx x hm,rfl,h2,((Keep.refl _ _).alloc _).trans h3⟩
theorem oneL (l : List Int) (o : Obj) (b : Nat) (s : Value) (n P : Nat) (w : World) (cs : Array Value) (ho : o = .cells cs 3 (0,0)) (hcs : cs = (l.map (Value.int .i64)).toArray) (hB : BytO (But b) w s n) (h : RdB b s P w) (hn : n ≤ 2000) (hP : P ≤ 900000) (hl : 1 ≤ l.length) (hl2 : l.length ≤ 1000) :
    Calls Tryz.prog 43 #[.pointer (some ⟨b,0,none⟩),.slice (some ⟨w.heap.size,0,none⟩) l.length l.length] (w.alloc o) fun e w' => ∃ x,x ∈ l ∧ e = .returned (.int .i64 x) ∧ RdB b s (P + 1) w' ∧ Keep (But b) w w' := by
  have hb := h.lt
  subst ho
  subst hcs
  obtain ⟨p,hp,h⟩ := h
  refine (one_calls l _ _ b s n p ⟨blk_alloc h _,hB.keep ((Keep.refl _ _).alloc _)⟩ hn (by omega) hl hl2 ⟨⟨w.heap.size,0,none⟩,l.length,rfl,Nat.le_refl _,by omega,(show w.heap.size ≠ b by omega),fun i x hx => new_cells w (l.map (Value.int .i64)) _ rfl i _ (by rw [List.getElem?_map,hx];rfl)⟩).mono ?_
  rintro e w' ⟨x,hx,rfl,h2,h3⟩
  exact ⟨x,hx,rfl,⟨p + 1,by omega,h2.1⟩,((Keep.refl _ _).alloc _).trans h3⟩
def GotVal (c : Nat) (b : Nat) (s : Value) (P : Nat) (w : World) (e : Ending) (w' : World) : Prop :=
  ∃ (v : V) (a : Option Addr) (m : Nat),okV 3 v = true ∧ e = .returned (.agg #[.int .i64 v.kind,.int .i64 v.num,.string v.text,.slice a v.list.length m]) ∧ SV w' (Mid w.heap.size w'.heap.size) v [.int .i64 v.kind,.int .i64 v.num,.string v.text,.slice a v.list.length m] ∧ RdB b s (P + c) w' ∧ Keep (But b) w w'
theorem plainA (b : Nat) (s : Value) (n P : Nat) (w : World) (hB : BytO (But b) w s n) (h : RdB b s P w) (hn : n ≤ 2000) (hP : P ≤ 900000) :
    Calls Tryz.prog 101 #[.pointer (some ⟨b,0,none⟩),.int .i64 2] w (GotVal 84 b s P w) := by
  obtain ⟨p,hp,h⟩ := h
  refine (plainO_all 2 (by decide) w b s n p ⟨h,hB⟩ hn (show p + 84 ≤ 1000000 by omega)).mono ?_
  rintro e w' ⟨v,a,m,p',ho,rfl,hs,h1,h2,h3,h4⟩
  exact ⟨v,a,m,ho,rfl,hs,⟨p',by have : cost 2 = 84 := rfl;omega,h3.1⟩,h4⟩
def Nms (ok : Nat → Prop) (g m : Nat) (w : World) : Prop := ∃ (a : Option Addr) (cp : Nat) (l : List ByteArray) (c : Nat),w.heap[g]? = some (.cells #[.slice a l.length cp,.int .i64 c] 112 (0,0)) ∧ Strs w ok (.slice a l.length cp) l ∧ l.length ≤ m ∧ (∀ x,x ∈ l → x.size ≤ 100) ∧ c ≤ m
theorem Nms.keep {ok : Nat → Prop} {g m : Nat} {w w' : World} (h : Nms ok g m w) (k : Keep ok w w') (hg : w'.heap[g]? = w.heap[g]?) : Nms ok g m w' := by
  obtain ⟨a,cp,l,c,h1,h2,h3⟩ := h
  exact ⟨a,cp,l,c,hg.trans h1,Strs.keep h2 k,h3⟩
theorem Nms.mono {ok ok' : Nat → Prop} {g m m' : Nat} {w : World} (h : Nms ok g m w) (hi : ∀ k,k < w.heap.size → ok k → ok' k) (hm : m ≤ m') : Nms ok' g m' w := by
  obtain ⟨a,cp,l,c,h1,h2,h3,h4,h5⟩ := h
  exact ⟨a,cp,l,c,h1,Strs.mono h2 hi,by omega,h4,by omega⟩
theorem Nms.lt {ok : Nat → Prop} {g m : Nat} {w : World} (h : Nms ok g m w) : g < w.heap.size := by
  obtain ⟨a,cp,l,c,h1,_⟩ := h
  exact blk_lt h1

/- A literal drawn. -/
set_option maxRecDepth 20000
set_option maxHeartbeats 4000000
theorem infoV4 : (Tryz.prog.info? 62).map (·.size) = some 4 := by kernel_rfl
theorem infoE8 : (Tryz.prog.info? 117).map (·.size) = some 8 := by kernel_rfl
theorem infoEx : (Tryz.prog.info? 117).map (fun i => (i.zero,i.size,i.bytes)) = some (some (.agg #[.int .i64 0,.int .i64 0,.int .i64 0,.string ⟨#[]⟩,.slice none 0 0,.string ⟨#[]⟩,.string ⟨#[]⟩,.slice none 0 0]),8,120) := by kernel_rfl
theorem l11Lit_calls (b : Nat) (s : Value) (n P : Nat) (w : World) (hB : BytO (But b) w s n) (h : RdB b s P w) (hn : n ≤ 2000) (hP : P ≤ 800000) :
    Calls Tryz.prog 78 #[.pointer (some ⟨b,0,none⟩)] w (GotVal 90 b s P w) := by
  have zb := h.lt
  have HB := hyd hB
  have RB := hyd (h.keep ((Keep.refl Any w).alloc (.cells #[.int .i64 0,.int .i64 0,.string ⟨#[]⟩,.slice none 0 0] 62 (0,0))) trivial)
  have KW := hyd ((Keep.refl (But b) w).alloc (.cells #[.int .i64 0,.int .i64 0,.string ⟨#[]⟩,.slice none 0 0] 62 (0,0)))
  have BX := hyd (blk_new w (.cells #[.int .i64 0,.int .i64 0,.string ⟨#[]⟩,.slice none 0 0] 62 (0,0)))
  clear hB h
  go_enter Tryz.func78,Tryz.ntmps78
  go_wp2_with (first | (go_at_call 26;(with_reducible_and_instances refine at_args #[_,.int .i64 8] ?_);refine (pickA 8 b s n _ _ (HB.out.keep KW.out) RB.out hn (by omega) (by omega)).mono ?_;rintro e w2 ⟨j,rfl,j0,j1,hRd,hK2⟩;have j2 := j1 (by omega);clear j1;have BX := hyd (blk_keep hK2 BX.out (show w.heap.size ≠ b by omega));have KW := hyd (KW.out.trans hK2);have hsz := hK2.size;clear hK2;have RB := hyd hRd;clear hRd;obtain ⟨t,ht⟩ : ∃ t,(j == 0) = t := ⟨_,rfl⟩;cases t) | (go_at_call 101;refine (plainA b s n _ _ (HB.out.keep KW.out) RB.out hn (by omega)).mono ?_;rintro e w2 ⟨v,a,m,hv,rfl,hSV,hRd,hK2⟩;have hxl := blk_lt BX.out;have BX := hyd (blk_keep hK2 BX.out (show w.heap.size ≠ b by omega));have KW := hyd (KW.out.trans hK2);have hsz := hK2.size;clear hK2;have RB := hyd hRd;clear hRd;have DV := hyd hSV;clear hSV) | ((with_reducible_and_instances refine at_store 62 (.tmp 2) (.tmp 6) ?_);refine wpList_store_in rfl 62 (.tmp 2) (.tmp 6) rfl (w.heap.size) 0 62 _ (.agg #[.int .i64 0,.int .i64 0,.string ⟨#[]⟩,.slice none 0 0]) #[.int .i64 0,.int .i64 0,.string ⟨#[]⟩,.slice none 0 0] #[.int .i64 0,.int .i64 0,.string ⟨#[]⟩,.slice none 0 0] (by simp [Act.eval,Act.put]) (by simp [Act.eval,Act.put]) rfl BX.out (by simp) infoV4 (by simp [Value.oneCell']) rfl ?_;intro w3 hb3 hk3;have BX := hyd hb3;have RB := hyd (RB.out.keep hk3 (show b ≠ w.heap.size by omega));have KW := hyd (KW.out.then hk3 (fun i hi _ => by show i ≠ w.heap.size;omega));have hsz := hk3.size;clear hb3 hk3) | ((with_reducible_and_instances refine at_store 62 (.tmp 2) (.tmp 8) ?_);refine wpList_store_in rfl 62 (.tmp 2) (.tmp 8) rfl (w.heap.size) 0 62 _ (.agg #[.int .i64 v.kind,.int .i64 v.num,.string v.text,.slice a v.list.length m]) #[.int .i64 v.kind,.int .i64 v.num,.string v.text,.slice a v.list.length m] #[.int .i64 v.kind,.int .i64 v.num,.string v.text,.slice a v.list.length m] (by simp [Act.eval,Act.put]) (by simp [Act.eval,Act.put]) rfl BX.out (by simp) infoV4 (by simp [Value.oneCell']) rfl ?_;intro w3 hb3 hk3;have DV := hyd (DV.out.keep (hk3.mono (fun i _ hi => by have := hi.1;have := hi.2;show i ≠ w.heap.size;omega)));have BX := hyd hb3;have RB := hyd (RB.out.keep hk3 (show b ≠ w.heap.size by omega));have KW := hyd (KW.out.then hk3 (fun i hi _ => by show i ≠ w.heap.size;omega));have hsz := hk3.size;clear hb3 hk3))
  · refine bodyPost_ret (v := .agg #[.int .i64 v.kind,.int .i64 v.num,.string v.text,.slice a v.list.length m]) (results_cell_row Tryz.results78 _ _ w.heap.size _ _ (0,0) _ (by simp [Act.put]) BX.out Tryz.underlying62 rfl infoV4) rfl ?_
    exact ⟨v,a,m,hv,rfl,DV.out.mono (fun i hi => ⟨by have := hi.1;omega,by have := hi.2;omega⟩),RB.out.up (by omega),KW.out⟩
  · refine bodyPost_ret (v := .agg #[.int .i64 0,.int .i64 0,.string ⟨#[]⟩,.slice none 0 0]) (results_cell_row Tryz.results78 _ _ w.heap.size _ _ (0,0) _ (by simp [Act.put]) BX.out Tryz.underlying62 rfl infoV4) rfl ?_
    exact ⟨⟨0,0,⟨#[]⟩,[]⟩,none,0,by simp [okV,V.bare],rfl,SV_flat _ _ _ _ _ ⟨by decide,by decide⟩ ⟨by decide,by decide⟩ fits_nil,RB.out.up (by omega),KW.out⟩
end Go.Proofs.YtjopkcjpedgoaaaGreatDoor

/- A plain value drawn: one that is ok. -/
import Derived.Test.YtjopkcjpedgoaaaGreatDoorMG21
import Derived.Test.YtjopkcjpedgoaaaGreatDoorMGAt
/- A plain value drawn: one that is ok. -/
namespace Go.Proofs.YtjopkcjpedgoaaaGreatDoor
open Go.RowKit
set_option linter.unusedVariables false
set_option linter.unusedSimpArgs false
set_option maxRecDepth 20000
set_option maxHeartbeats 4000000
theorem plainO_of (d : Nat) (hd : d ≤ 10) (ih : ∀ e,d = e + 1 → PlainO e) : PlainO d := by
  intro w b s n p hr hn hp
  have HR := hyd hr
  have hb := hr.lt
  have hc4 : 4 ≤ cost d := by cases d <;> simp [cost]
  have PK := hyd (fun (k : Int) (w : World) (p : Nat) h hp hk => pick_calls k w b s n p h hn hp hk)
  clear hr
  go_enter Tryz.func101,Tryz.ntmps101
  go_wp2_with fail
  refine (PK.out 6 _ p (HR.out.keep ((Keep.refl _ _).alloc _)) (by omega) (by omega)).mono ?_
  rintro e w2 ⟨j,rfl,j0,j1,hR2,hK2⟩
  have j2 := j1 (by omega)
  have R2 := hyd hR2
  have K2 := hyd (((Keep.refl (But b) w).alloc _).trans hK2)
  have Z2 := hyd (show w.heap.size + 1 ≤ w2.heap.size by have := hK2.size;rwa [World.size_alloc] at this)
  have B2 := hyd (blk_keep hK2 (blk_new _ _) (show w.heap.size ≠ b by omega))
  clear hR2 hK2 j1
  obtain rfl | rfl | rfl | rfl | rfl | rfl : j = 0 ∨ j = 1 ∨ j = 2 ∨ j = 3 ∨ j = 4 ∨ j = 5 := by omega
  · have LB := hyd (fun b w => (l1Bool_calls b w).mono fun e w' h => (⟨if b then 1 else 0,by split <;> omega,by split <;> omega,h.1,h.2⟩ : ∃ z : Int,0 ≤ z ∧ z ≤ 1 ∧ e = .returned (.agg #[.int .i64 1,.int .i64 z,.string ⟨#[]⟩,.slice none 0 0]) ∧ Keep Any w w'))
    go_wp2_with fail
    refine (PK.out 2 _ (p + 1) R2.out (by omega) (by omega)).mono ?_
    rintro e w3 ⟨j,rfl,j0,j1,hR3,hK3⟩
    have R3 := hyd hR3
    have K3 := hyd (K2.out.trans hK3)
    have Z3 := hyd (Nat.le_trans Z2.out hK3.size)
    have B3 := hyd (blk_keep hK3 B2.out (show w.heap.size ≠ b by omega))
    clear hR3 hK3 j1
    go_wp2_with fail
    refine (LB.out _ _).mono ?_
    rintro e w4 ⟨z,z0,z1,rfl,hK4⟩
    have R4 := hyd (R3.out.keep hK4)
    have K4 := hyd (K3.out.trans hK4.any)
    have B4 := hyd (blk_keep hK4 B3.out trivial)
    have Z4 := hyd (Nat.le_trans Z3.out hK4.size)
    clear hK4
    obtain ⟨y0,y1,y2,y3⟩ := at4 B4.out
    obtain ⟨f0,f1,f2,f3⟩ := fr4c B4.out
    have x0 := blk_lt B4.out
    go_wp2
    refine bodyPost_ret (v := .agg #[.int .i64 1,.int .i64 z,.string ⟨#[]⟩,.slice none 0 0]) (by simp [results,Tryz.results101,go_sem,y0,y1,y2,y3,f0,f1,f2,f3,x0]) rfl ?_
    have hK : ∀ w',Keep (But b) w w' → w'.heap[b]? = w4.heap[b]? → Rdr w' b s n (p + 1 + 1) ∧ Keep (But b) w w' := fun w' h e => ⟨⟨e.trans R4.out.1,HR.out.2.keep h⟩,h⟩
    refine ⟨⟨1,z,⟨#[]⟩,[]⟩,none,0,p + 1 + 1,okV_bool z0 z1,rfl,SV_flat _ _ _ _ _ ?_ ?_ ?_,by omega,by omega,hK _ ?_ ?_⟩
    · exact ⟨by decide,by decide⟩
    · exact ⟨by show (-9223372036854775808 : Int) ≤ z;omega,by show z ≤ 9223372036854775807;omega⟩
    · exact fits_nil
    · repeat (first | (with_reducible exact K4.out) | (with_reducible refine Keep.alloc ?_ _) | (refine Keep.set ?_ _ _ (fun h _ => Nat.lt_irrefl _ h)))
    · repeat (first | rfl | (refine (Below.heap_setCell _ _ _ _ (show b ≠ w.heap.size by omega)).trans ?_) | (refine (Below.heap_alloc _ _ _ (by have := Z4.out;omega)).trans ?_))
  · have MN := hyd l1Many16_calls
    have OF := hyd (fun (w : World) (l : List ByteArray) v h hl hl2 hv => of_calls l v w b s n (p + 1) h hn (by omega) hl hl2 hv)
    go_wp2_with fail
    refine (MN.out _).mono ?_
    rintro e w3 ⟨rfl,hK3⟩
    have R3 := hyd (R2.out.keep hK3)
    have K3 := hyd (K2.out.trans hK3.any)
    have Z3 := hyd (Nat.le_trans Z2.out hK3.size)
    have B3 := hyd (blk_keep hK3 B2.out trivial)
    clear hK3
    go_wp2_with fail
    refine (OF.out _ [⟨#[]⟩,⟨#[97]⟩,⟨#[98]⟩,⟨#[116,119,111,32,119,111,114,100,115]⟩,t16] _ (R3.out.keep ((Keep.refl _ _).alloc _)) (by simp) (by simp) (SStrs.strs (strs_blkD (ok := But b) (blk_new _ _) (show w3.heap.size ≠ b by have := Z3.out;omega) (by simp) (fun y hy => by
      simp only [List.mem_cons,List.not_mem_nil,or_false] at hy
      unfold Fits
      rcases hy with rfl | rfl | rfl | rfl | rfl
      · decide
      · decide
      · decide
      · decide
      · decide)))).mono ?_
    rintro e w4 ⟨z,hz,rfl,hR4,hK4⟩
    have z1 : textOk z = true := by
      simp only [List.mem_cons,List.not_mem_nil,or_false] at hz
      rcases hz with rfl | rfl | rfl | rfl | rfl <;> decide
    have z0 : Fits z := by
      simp only [List.mem_cons,List.not_mem_nil,or_false] at hz
      unfold Fits
      rcases hz with rfl | rfl | rfl | rfl | rfl
      · decide
      · decide
      · decide
      · decide
      · decide
    have R4 := hyd hR4
    have K4 := hyd ((K3.out.alloc _).trans hK4)
    have B4 := hyd (blk_keep hK4 (blk_alloc B3.out _) (show w.heap.size ≠ b by omega))
    have Z4 := hyd (show w.heap.size + 1 ≤ w4.heap.size by have h1 := hK4.size;rw [World.size_alloc] at h1;have := Z3.out;omega)
    clear hR4 hK4 hz
    obtain ⟨y0,y1,y2,y3⟩ := at4 B4.out
    obtain ⟨f0,f1,f2,f3⟩ := fr4c B4.out
    have x0 := blk_lt B4.out
    go_wp2
    refine bodyPost_ret (v := .agg #[.int .i64 3,.int .i64 0,.string z,.slice none 0 0]) (by simp [results,Tryz.results101,go_sem,y0,y1,y2,y3,f0,f1,f2,f3,x0]) rfl ?_
    have hK : ∀ w',Keep (But b) w w' → w'.heap[b]? = w4.heap[b]? → Rdr w' b s n (p + 1 + 1) ∧ Keep (But b) w w' := fun w' h e => ⟨⟨e.trans R4.out.1,HR.out.2.keep h⟩,h⟩
    refine ⟨⟨3,0,z,[]⟩,none,0,p + 1 + 1,okV_txt z1,rfl,SV_flat _ _ _ _ _ ?_ ?_ ?_,by omega,by omega,hK _ ?_ ?_⟩
    · exact ⟨by decide,by decide⟩
    · exact ⟨by decide,by decide⟩
    · exact z0
    · repeat (first | (with_reducible exact K4.out) | (with_reducible refine Keep.alloc ?_ _) | (refine Keep.set ?_ _ _ (fun h _ => Nat.lt_irrefl _ h)))
    · repeat (first | rfl | (refine (Below.heap_setCell _ _ _ _ (show b ≠ w.heap.size by omega)).trans ?_) | (refine (Below.heap_alloc _ _ _ (by have := Z4.out;omega)).trans ?_))
  · have MN := hyd l1Many16_calls
    have OF := hyd (fun (w : World) (l : List ByteArray) v h hl hl2 hv => of_calls l v w b s n (p + 1) h hn (by omega) hl hl2 hv)
    go_wp2_with fail
    refine (MN.out _).mono ?_
    rintro e w3 ⟨rfl,hK3⟩
    have R3 := hyd (R2.out.keep hK3)
    have K3 := hyd (K2.out.trans hK3.any)
    have Z3 := hyd (Nat.le_trans Z2.out hK3.size)
    have B3 := hyd (blk_keep hK3 B2.out trivial)
    clear hK3
    go_wp2_with fail
    refine (OF.out _ [⟨#[]⟩,⟨#[97]⟩,⟨#[98]⟩,⟨#[116,119,111,32,119,111,114,100,115]⟩,t16] _ (R3.out.keep ((Keep.refl _ _).alloc _)) (by simp) (by simp) (SStrs.strs (strs_blkD (ok := But b) (blk_new _ _) (show w3.heap.size ≠ b by have := Z3.out;omega) (by simp) (fun y hy => by
      simp only [List.mem_cons,List.not_mem_nil,or_false] at hy
      unfold Fits
      rcases hy with rfl | rfl | rfl | rfl | rfl
      · decide
      · decide
      · decide
      · decide
      · decide)))).mono ?_
    rintro e w4 ⟨z,hz,rfl,hR4,hK4⟩
    have z1 : textOk z = true := by
      simp only [List.mem_cons,List.not_mem_nil,or_false] at hz
      rcases hz with rfl | rfl | rfl | rfl | rfl <;> decide
    have z0 : Fits z := by
      simp only [List.mem_cons,List.not_mem_nil,or_false] at hz
      unfold Fits
      rcases hz with rfl | rfl | rfl | rfl | rfl
      · decide
      · decide
      · decide
      · decide
      · decide
    have R4 := hyd hR4
    have K4 := hyd ((K3.out.alloc _).trans hK4)
    have B4 := hyd (blk_keep hK4 (blk_alloc B3.out _) (show w.heap.size ≠ b by omega))
    have Z4 := hyd (show w.heap.size + 1 ≤ w4.heap.size by have h1 := hK4.size;rw [World.size_alloc] at h1;have := Z3.out;omega)
    clear hR4 hK4 hz
    obtain ⟨y0,y1,y2,y3⟩ := at4 B4.out
    obtain ⟨f0,f1,f2,f3⟩ := fr4c B4.out
    have x0 := blk_lt B4.out
    go_wp2
    refine bodyPost_ret (v := .agg #[.int .i64 3,.int .i64 0,.string z,.slice none 0 0]) (by simp [results,Tryz.results101,go_sem,y0,y1,y2,y3,f0,f1,f2,f3,x0]) rfl ?_
    have hK : ∀ w',Keep (But b) w w' → w'.heap[b]? = w4.heap[b]? → Rdr w' b s n (p + 1 + 1) ∧ Keep (But b) w w' := fun w' h e => ⟨⟨e.trans R4.out.1,HR.out.2.keep h⟩,h⟩
    refine ⟨⟨3,0,z,[]⟩,none,0,p + 1 + 1,okV_txt z1,rfl,SV_flat _ _ _ _ _ ?_ ?_ ?_,by omega,by omega,hK _ ?_ ?_⟩
    · exact ⟨by decide,by decide⟩
    · exact ⟨by decide,by decide⟩
    · exact z0
    · repeat (first | (with_reducible exact K4.out) | (with_reducible refine Keep.alloc ?_ _) | (refine Keep.set ?_ _ _ (fun h _ => Nat.lt_irrefl _ h)))
    · repeat (first | rfl | (refine (Below.heap_setCell _ _ _ _ (show b ≠ w.heap.size by omega)).trans ?_) | (refine (Below.heap_alloc _ _ _ (by have := Z4.out;omega)).trans ?_))
  · by_cases hd1 : d ≤ 1
    · have c1 : ¬ (1 : Int) < (d : Int) := by omega
      have ON := hyd (fun (w : World) (l : List Int) v h hl hl2 hv => one_calls l v w b s n (p + 1) h hn (by omega) hl hl2 hv)
      go_wp2_with fail
      refine (ON.out _ [0,1,2,3,-1,7,1000000000] _ (R2.out.keep ((Keep.refl _ _).alloc _)) (by decide) (by decide) ⟨⟨w2.heap.size,0,none⟩,7,rfl,by decide,by decide,(show w2.heap.size ≠ b by have := Z2.out;omega),fun i x hx => new_cells w2 ([0,1,2,3,-1,7,1000000000].map (Value.int .i64)) _ rfl i _ (by rw [List.getElem?_map,hx];rfl)⟩).mono ?_
      rintro e w4 ⟨z,hz,rfl,hR4,hK4⟩
      have z0 : -1 ≤ z ∧ z ≤ 1000000000 := by simp only [List.mem_cons,List.not_mem_nil,or_false] at hz;omega
      have R4 := hyd hR4
      have K4 := hyd ((K2.out.alloc _).trans hK4)
      have B4 := hyd (blk_keep hK4 (blk_alloc B2.out _) (show w.heap.size ≠ b by omega))
      have Z4 := hyd (show w.heap.size + 1 ≤ w4.heap.size by have h1 := hK4.size;rw [World.size_alloc] at h1;have := Z2.out;omega)
      clear hR4 hK4 hz
      obtain ⟨y0,y1,y2,y3⟩ := at4 B4.out
      obtain ⟨f0,f1,f2,f3⟩ := fr4c B4.out
      have x0 := blk_lt B4.out
      go_wp2
      refine bodyPost_ret (v := .agg #[.int .i64 2,.int .i64 z,.string ⟨#[]⟩,.slice none 0 0]) (by simp [results,Tryz.results101,go_sem,y0,y1,y2,y3,f0,f1,f2,f3,x0]) rfl ?_
      have hK : ∀ w',Keep (But b) w w' → w'.heap[b]? = w4.heap[b]? → Rdr w' b s n (p + 1 + 1) ∧ Keep (But b) w w' := fun w' h e => ⟨⟨e.trans R4.out.1,HR.out.2.keep h⟩,h⟩
      refine ⟨⟨2,z,⟨#[]⟩,[]⟩,none,0,p + 1 + 1,okV_number z0.1 z0.2,rfl,SV_flat _ _ _ _ _ ?_ ?_ ?_,by omega,by omega,hK _ ?_ ?_⟩
      · exact ⟨by decide,by decide⟩
      · exact ⟨by show (-9223372036854775808 : Int) ≤ z;omega,by show z ≤ 9223372036854775807;omega⟩
      · exact fits_nil
      · repeat (first | (with_reducible exact K4.out) | (with_reducible refine Keep.alloc ?_ _) | (refine Keep.set ?_ _ _ (fun h _ => Nat.lt_irrefl _ h)))
      · repeat (first | rfl | (refine (Below.heap_setCell _ _ _ _ (show b ≠ w.heap.size by omega)).trans ?_) | (refine (Below.heap_alloc _ _ _ (by have := Z4.out;omega)).trans ?_))
    · obtain ⟨d1,hd2⟩ : ∃ e,d = e + 1 := ⟨d - 1,by omega⟩
      have IH := hyd (ih d1 hd2)
      have HDD := hyd hd2
      have HD := hyd (show IntKind.i64.wrap ((d : Int) - 1) = (d1 : Int) by rw [IntWalk.i64_in _ ⟨by omega,by omega⟩];omega)
      have hcc : 4 + 4 * cost d1 ≤ cost d := by rw [hd2];exact Nat.le_refl _
      have c1 : (1 : Int) < (d : Int) := by omega
      clear hd2
      obtain ⟨i0,hi,hzz⟩ := Option.map_eq_some_iff.1 infoValR
      simp only [Prod.mk.injEq] at hzz
      obtain ⟨hz0,hz1,hz2⟩ := hzz
      go_wp2_with fail
      refine (PK.out 4 _ (p + 1) (R2.out.keep ((Keep.refl _ _).alloc _)) (by omega) (by omega)).mono ?_
      rintro e w3 ⟨j,rfl,j0,j1,hR3,hK3⟩
      have j2 := j1 (by omega)
      obtain ⟨m,rfl⟩ := Int.eq_ofNat_of_zero_le j0
      have R3 := hyd hR3
      have K3 := hyd ((K2.out.alloc _).trans hK3)
      have Z3 := hyd (show w2.heap.size + 1 ≤ w3.heap.size by have h1 := hK3.size;rwa [World.size_alloc] at h1)
      have B3 := hyd (blk_keep hK3 (blk_alloc B2.out _) (show w.heap.size ≠ b by omega))
      have N3 := hyd (blk_keep hK3 (blk_new _ _) (show w2.heap.size ≠ b by have := Z2.out;omega))
      clear hR3 hK3 j1
      go_wp2
      go_loopg [6] (m + 1) (fun g x wr => ∃ (k : Nat) (acc : List V) (css : List (List Value)) (top p' : Nat) (v : Value),k + acc.length ≤ 3 ∧ x = .int .i64 k ∧ g = k + 1 ∧ wr.heap[w.heap.size]? = some (.cells #[.int .i64 0,.int .i64 0,.string ⟨#[]⟩,.slice none 0 0] 62 (0,0)) ∧ wr.heap[w2.heap.size]? = some (.cells #[.int .i64 4,.int .i64 0,.string ⟨#[]⟩,v] 62 (0,0)) ∧
        SRow 4 SV wr (w2.heap.size + 1) top 62 v acc css ∧ Rdr wr b s n p' ∧ p ≤ p' ∧ p' ≤ p + 2 + acc.length * (cost d1) ∧ Keep (But b) w wr ∧ (∀ x,x ∈ acc → okV (d1 + 1) x = true))
      case atStart => exact ⟨m,[],[],w2.heap.size + 1,p + 1 + 1,.slice none 0 0,by simp;omega,rfl,rfl,B3.out,N3.out,SRow.nil _ _ _ _ (Nat.le_refl _) Z3.out,R3.out,by omega,by omega,K3.out,(fun x h => by cases h)⟩
      case round =>
        obtain ⟨k,acc,css,top,p',v,hka,rfl,hg,hz,hn1,hS,hRr,hp1,hp2,hK,hO⟩ := hrel
        have HO := hyd hO
        clear hO
        have HG := hyd hg
        have HZ := hyd hz
        have HN := hyd hn1
        have HS := hyd hS
        have HK := hyd hK
        have HRr := hyd hRr
        obtain ⟨av,cv,rfl,hnil⟩ := hS.form
        obtain ⟨r0,r1,r2,r3⟩ := at4 hz
        have f0 := blk_frozen hz 0
        have f1 := blk_frozen hz 1
        have f2 := blk_frozen hz 2
        have f3 := blk_frozen hz 3
        obtain ⟨n0,n1,n2,n3⟩ := at4 hn1
        have g3 := blk_frozen hn1 3
        have z0 := blk_lt hz
        have z1 := blk_lt hn1
        have HC3 : acc.length * (cost d1) ≤ 3 * (cost d1) := Nat.mul_le_mul_right _ (by omega)
        have HC := hyd (show acc.length * (cost d1) ≤ 2 * (cost d1) ∨ k = 0 by
          by_cases h : k = 0
          · exact .inr h
          · exact .inl (Nat.mul_le_mul_right _ (by omega)))
        clear hg hz hn1 hS hK hRr hnil
        by_cases h0 : 0 < k
        · have c0 : (0 : Int) < (k : Int) := by omega
          have HDo := HD.out
          have hpc : p' + (cost d1) ≤ 1000000 := by rcases HC.out with h | h <;> omega
          have HKD := hyd ((Keep.refl (But b) wr).drew)
          have HRD := hyd (show Rdr wr.drew b s n p' from ⟨HRr.out.1,HRr.out.2.keep ((Keep.refl (But b) wr).drew)⟩)
          go_wp2
          go_region_law (first | (go_simp;go_at_call 101;refine (IH.out _ _ _ _ _ HRD.out hn hpc).mono ?_;rintro e w5 ⟨v1,a1,m1,p1,hO5,rfl,hSv,hq1,hq2,hR5,hK5⟩;have HS5 := hyd (rowV_keepB HS.out (HKD.out.trans hK5) (show b < w2.heap.size + 1 by have := Z2.out;omega));have HV5 := hyd hSv;have R5 := hyd hR5;have K5 := hyd (HKD.out.trans hK5);have N5 := hyd (blk_keep K5.out HN.out (show w2.heap.size ≠ b by have := Z2.out;omega));have n5 := (blk_cell N5.out 3).trans rfl;have g5 := blk_frozen N5.out 3;have z5 := blk_lt N5.out;have O5 := hyd hO5;clear hSv hR5 hK5 hO5) | (refine step_append_lies _ rfl (.tmp 35) (.tmp 40) 60 rfl (w2.heap.size + 1) 62 i0 _ 4 56 Tryz.underlying60 hi hz0 hz1 hz2 rfl (by decide) (.slice av acc.length cv) acc.length css.flatten (by simp [Act.eval,Act.put]) (rowV_keep HS5.out ((Keep.refl _ _).alloc _)).own ⟨w5.heap.size,0,none⟩ 1 1 [.int .i64 v1.kind,.int .i64 v1.num,.string v1.text,.slice a1 v1.list.length m1] (by simp [Act.eval,Act.put]) rfl (new_cells _ _ _ rfl) (by simp [Value.oneCell']) (by omega) (by unfold maxLen;omega) (by omega) (by have := HS5.out.base_le;simp;omega) _ rfl ?_;intro gB cap w6 hown hgrow hblk hlt;have HS6 := hyd (rowV_snoc (rowV_keep HS5.out ((Keep.refl _ _).alloc _)) hown hgrow (hblk.elim (fun h => .inl h.symm) fun h => .inr (congrArg some h)) (HV5.out.keep ((Keep.refl _ _).alloc _)) (fun i hi => ⟨Nat.le_trans HS.out.top_le hi.1,by have := hi.2;simp;omega⟩));have HB5 := hyd (show ∀ k,(Value.slice av acc.length cv).ownBlock = some k → w2.heap.size + 1 ≤ k from fun k hk => (HS.out.own.lt k hk).1);have K6 := hyd (((HK.out.trans K5.out).alloc _).grown hgrow (fun i hi hlt => by have := HB5.out i hi;have := Z2.out;omega));have ZZ := K5.out.size;have N6 := hyd ((hgrow.block _ (by have := blk_lt HN.out;simp;omega) (fun e => by have := HB5.out _ e.symm;omega)).trans (blk_alloc N5.out _));have Z6 := hyd ((hgrow.block _ (by have := blk_lt HZ.out;simp;omega) (fun e => by have := HB5.out _ e.symm;have := Z2.out;omega)).trans (blk_alloc (blk_keep K5.out HZ.out (show w.heap.size ≠ b by omega)) _));have R6 := hyd ((hgrow.block b (by have := blk_lt HZ.out;simp;omega) (fun e => by have := HB5.out _ e.symm;have := Z2.out;omega)).trans (blk_alloc R5.out.1 _));have n6 := (blk_cell N6.out 3).trans rfl;have g6 := blk_frozen N6.out 3;have z6 := blk_lt N6.out;clear hown hgrow hblk ZZ))
          all_goals
            go_wp2
            go_roundg (gk - 1)
            case rel => exact ⟨k - 1,acc ++ [v1],_,w6.heap.size,p1,.slice (some ⟨gB,0,none⟩) (acc.length + 1) cap,by rw [List.length_append,List.length_singleton];omega,by go_num,by have := HG.out;omega,blk_far Z6.out _ _ (show w.heap.size ≠ w2.heap.size by have := Z2.out;omega),(blk_set N6.out 3 _).trans rfl,rowV_set HS6.out (by omega),⟨(Below.heap_setCell _ _ _ _ (show b ≠ w2.heap.size by have := Z2.out;omega)).trans R6.out,HR.out.2.keep (K6.out.set _ _ (fun h _ => by have h : w2.heap.size < w.heap.size := h;have := Z2.out;omega))⟩,by omega,by rw [List.length_append,List.length_singleton,Nat.add_mul,Nat.one_mul];omega,K6.out.set _ _ (fun h _ => by have h : w2.heap.size < w.heap.size := h;have := Z2.out;omega),fun x hx => by rcases List.mem_append.1 hx with h | h;exact HO.out x h;rw [List.mem_singleton.1 h];exact O5.out⟩
            case measure => have := HG.out;omega
        · have h0' : ¬ (0 : Int) < (k : Int) := by omega
          go_wp2
          refine bodyPost_ret (v := .agg #[.int .i64 4,.int .i64 0,.string ⟨#[]⟩,.slice av acc.length cv]) (by simp [results,Tryz.results101,go_sem,r0,r1,r2,r3,f0,f1,f2,f3,z0]) rfl ?_
          refine ⟨⟨4,0,⟨#[]⟩,acc⟩,av,cv,p',okV_acc HDD.out (by omega) HO.out,rfl,(SV.iff.2 ⟨_,rfl,(show I64 4 from ⟨by decide,by decide⟩),(show I64 0 from ⟨by decide,by decide⟩),fits_nil,SSl.mono (SVs.keep (HS.out.slice (ok := Mid (w2.heap.size + 1) wr.heap.size) fun i h1 h2 => ⟨h1,h2⟩) (w' := _) (by repeat (first | (with_reducible exact Keep.refl _ _) | (refine Keep.set ?_ _ _ (fun _ h => by have h1 := h.1;have h1 : w2.heap.size + 1 ≤ w.heap.size := h1;have := Z2.out;omega))))) fun i hi => ⟨by have := hi.1;have := Z2.out;omega,by simpa using hi.2⟩⟩),hp1,by omega,⟨?_,HR.out.2.keep ?_⟩,?_⟩
          · repeat (first | exact HRr.out.1 | (refine (Below.heap_setCell _ _ _ _ (show b ≠ w.heap.size by omega)).trans ?_))
          · have hK1 := HK.out
            repeat (first | (with_reducible exact hK1) | (refine Keep.set ?_ _ _ (fun h _ => Nat.lt_irrefl _ h)))
          · have hK1 := HK.out
            repeat (first | (with_reducible exact hK1) | (refine Keep.set ?_ _ _ (fun h _ => Nat.lt_irrefl _ h)))
  · have ON := hyd (fun (w : World) (l : List Int) v h hl hl2 hv => one_calls l v w b s n (p + 1) h hn (by omega) hl hl2 hv)
    go_wp2_with fail
    refine (ON.out _ [0,1,2,3,-1,7,1000000000] _ (R2.out.keep ((Keep.refl _ _).alloc _)) (by decide) (by decide) ⟨⟨w2.heap.size,0,none⟩,7,rfl,by decide,by decide,(show w2.heap.size ≠ b by have := Z2.out;omega),fun i x hx => new_cells w2 ([0,1,2,3,-1,7,1000000000].map (Value.int .i64)) _ rfl i _ (by rw [List.getElem?_map,hx];rfl)⟩).mono ?_
    rintro e w4 ⟨z,hz,rfl,hR4,hK4⟩
    have z0 : -1 ≤ z ∧ z ≤ 1000000000 := by simp only [List.mem_cons,List.not_mem_nil,or_false] at hz;omega
    have R4 := hyd hR4
    have K4 := hyd ((K2.out.alloc _).trans hK4)
    have B4 := hyd (blk_keep hK4 (blk_alloc B2.out _) (show w.heap.size ≠ b by omega))
    have Z4 := hyd (show w.heap.size + 1 ≤ w4.heap.size by have h1 := hK4.size;rw [World.size_alloc] at h1;have := Z2.out;omega)
    clear hR4 hK4 hz
    obtain ⟨y0,y1,y2,y3⟩ := at4 B4.out
    obtain ⟨f0,f1,f2,f3⟩ := fr4c B4.out
    have x0 := blk_lt B4.out
    go_wp2
    refine bodyPost_ret (v := .agg #[.int .i64 2,.int .i64 z,.string ⟨#[]⟩,.slice none 0 0]) (by simp [results,Tryz.results101,go_sem,y0,y1,y2,y3,f0,f1,f2,f3,x0]) rfl ?_
    have hK : ∀ w',Keep (But b) w w' → w'.heap[b]? = w4.heap[b]? → Rdr w' b s n (p + 1 + 1) ∧ Keep (But b) w w' := fun w' h e => ⟨⟨e.trans R4.out.1,HR.out.2.keep h⟩,h⟩
    refine ⟨⟨2,z,⟨#[]⟩,[]⟩,none,0,p + 1 + 1,okV_number z0.1 z0.2,rfl,SV_flat _ _ _ _ _ ?_ ?_ ?_,by omega,by omega,hK _ ?_ ?_⟩
    · exact ⟨by decide,by decide⟩
    · exact ⟨by show (-9223372036854775808 : Int) ≤ z;omega,by show z ≤ 9223372036854775807;omega⟩
    · exact fits_nil
    · repeat (first | (with_reducible exact K4.out) | (with_reducible refine Keep.alloc ?_ _) | (refine Keep.set ?_ _ _ (fun h _ => Nat.lt_irrefl _ h)))
    · repeat (first | rfl | (refine (Below.heap_setCell _ _ _ _ (show b ≠ w.heap.size by omega)).trans ?_) | (refine (Below.heap_alloc _ _ _ (by have := Z4.out;omega)).trans ?_))
  · have ON := hyd (fun (w : World) (l : List Int) v h hl hl2 hv => one_calls l v w b s n (p + 1) h hn (by omega) hl hl2 hv)
    go_wp2_with fail
    refine (ON.out _ [0,1,2,3,-1,7,1000000000] _ (R2.out.keep ((Keep.refl _ _).alloc _)) (by decide) (by decide) ⟨⟨w2.heap.size,0,none⟩,7,rfl,by decide,by decide,(show w2.heap.size ≠ b by have := Z2.out;omega),fun i x hx => new_cells w2 ([0,1,2,3,-1,7,1000000000].map (Value.int .i64)) _ rfl i _ (by rw [List.getElem?_map,hx];rfl)⟩).mono ?_
    rintro e w4 ⟨z,hz,rfl,hR4,hK4⟩
    have z0 : -1 ≤ z ∧ z ≤ 1000000000 := by simp only [List.mem_cons,List.not_mem_nil,or_false] at hz;omega
    have R4 := hyd hR4
    have K4 := hyd ((K2.out.alloc _).trans hK4)
    have B4 := hyd (blk_keep hK4 (blk_alloc B2.out _) (show w.heap.size ≠ b by omega))
    have Z4 := hyd (show w.heap.size + 1 ≤ w4.heap.size by have h1 := hK4.size;rw [World.size_alloc] at h1;have := Z2.out;omega)
    clear hR4 hK4 hz
    obtain ⟨y0,y1,y2,y3⟩ := at4 B4.out
    obtain ⟨f0,f1,f2,f3⟩ := fr4c B4.out
    have x0 := blk_lt B4.out
    go_wp2
    refine bodyPost_ret (v := .agg #[.int .i64 2,.int .i64 z,.string ⟨#[]⟩,.slice none 0 0]) (by simp [results,Tryz.results101,go_sem,y0,y1,y2,y3,f0,f1,f2,f3,x0]) rfl ?_
    have hK : ∀ w',Keep (But b) w w' → w'.heap[b]? = w4.heap[b]? → Rdr w' b s n (p + 1 + 1) ∧ Keep (But b) w w' := fun w' h e => ⟨⟨e.trans R4.out.1,HR.out.2.keep h⟩,h⟩
    refine ⟨⟨2,z,⟨#[]⟩,[]⟩,none,0,p + 1 + 1,okV_number z0.1 z0.2,rfl,SV_flat _ _ _ _ _ ?_ ?_ ?_,by omega,by omega,hK _ ?_ ?_⟩
    · exact ⟨by decide,by decide⟩
    · exact ⟨by show (-9223372036854775808 : Int) ≤ z;omega,by show z ≤ 9223372036854775807;omega⟩
    · exact fits_nil
    · repeat (first | (with_reducible exact K4.out) | (with_reducible refine Keep.alloc ?_ _) | (refine Keep.set ?_ _ _ (fun h _ => Nat.lt_irrefl _ h)))
    · repeat (first | rfl | (refine (Below.heap_setCell _ _ _ _ (show b ≠ w.heap.size by omega)).trans ?_) | (refine (Below.heap_alloc _ _ _ (by have := Z4.out;omega)).trans ?_))
theorem plainO_all : ∀ d,d ≤ 10 → PlainO d
  | 0,h => plainO_of 0 h fun e he => by cases he
  | d + 1,h => plainO_of (d + 1) h fun e he => by cases he;exact plainO_all d (by omega)
end Go.Proofs.YtjopkcjpedgoaaaGreatDoor

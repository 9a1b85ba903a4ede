/- The reference's reading of a value: l1List, l1Read. For every text of at most 2^61 bytes. -/
import Derived.Test.YtjopkcjpedgoaaaGreatDoorMG10
import Derived.Test.YtjopkcjpedgoaaaGreatDoorMG8
import Derived.Test.YtjopkcjpedgoaaaGreatDoorMGAt
/- The reference's reading of a value: l1List,l1Read. For every text of at most 2^61 bytes. -/
namespace Go.Proofs.YtjopkcjpedgoaaaGreatDoor
open Go.RowKit
set_option linter.unusedVariables false
set_option linter.unusedSimpArgs false
set_option maxRecDepth 20000
set_option maxHeartbeats 8000000
def GotR (o : Option (V × List UInt8)) (s : ByteArray) (w : World) (e : Ending) (w' : World) : Prop :=
  ∃ (v : V) (a : Option Addr) (c : Nat) (z : Nat),e = .returned (.tuple #[.agg #[.int .i64 v.kind,.int .i64 v.num,.string v.text,.slice a v.list.length c],.int .i64 z]) ∧ Keep Any w w' ∧ SV w' (Mid w.heap.size w'.heap.size) v [.int .i64 v.kind,.int .i64 v.num,.string v.text,.slice a v.list.length c] ∧
    ((o = none ∧ z = 0) ∨ (0 < z ∧ z ≤ s.size ∧ o = some (v,s.data.toList.drop z)))
def RdS (d : Nat) : Prop := ∀ (s : ByteArray) (w : World),s.size ≤ 2305843009213693952 → Calls Tryz.prog 77 #[.string s,.int .i64 d] w (GotR (sV d s.data.toList) s w)
theorem RdS.none' {d : Nat} (ih : RdS d) {s : ByteArray} (hs : s.size ≤ 2305843009213693952) (h : sV d s.data.toList = none) :
    ∀ w,Calls Tryz.prog 77 #[.string s,.int .i64 d] w fun e w' => ∃ (v : V) (a : Option Addr) (c : Nat),e = .returned (.tuple #[.agg #[.int .i64 v.kind,.int .i64 v.num,.string v.text,.slice a v.list.length c],.int .i64 0]) ∧ Keep Any w w' := fun w =>
  (ih s w hs).mono fun e w' ⟨v,a,c,z,he,hK,hS,hz⟩ => by
    rcases hz with ⟨_,rfl⟩ | ⟨_,_,hk⟩
    · exact ⟨v,a,c,he,hK⟩
    · rw [h] at hk;cases hk
theorem RdS.some' {d : Nat} (ih : RdS d) {s : ByteArray} (hs : s.size ≤ 2305843009213693952) {v : V} {r : List UInt8} (h : sV d s.data.toList = some (v,r)) :
    ∀ w,Calls Tryz.prog 77 #[.string s,.int .i64 d] w fun e w' => ∃ (a : Option Addr) (c z : Nat),e = .returned (.tuple #[.agg #[.int .i64 v.kind,.int .i64 v.num,.string v.text,.slice a v.list.length c],.int .i64 z]) ∧ Keep Any w w' ∧
      SV w' (Mid w.heap.size w'.heap.size) v [.int .i64 v.kind,.int .i64 v.num,.string v.text,.slice a v.list.length c] ∧ 0 < z ∧ z ≤ s.size ∧ s.data.toList.drop z = r := fun w =>
  (ih s w hs).mono fun e w' ⟨v',a,c,z,he,hK,hS,hz⟩ => by
    rcases hz with ⟨hn,_⟩ | ⟨h0,h1,hk⟩
    · rw [h] at hn;cases hn
    · rw [h] at hk
      cases hk
      exact ⟨a,c,z,he,hK,hS,h0,h1,rfl⟩
theorem sLs_nil {rd : List UInt8 → Option (V × List UInt8)} {f : Nat} {b : Bool} : sLs rd f b [] = none := by unfold sLs;simp
theorem sLs_end {rd : List UInt8 → Option (V × List UInt8)} {f : Nat} {b : Bool} {l : List UInt8} (h : l ≠ []) (h1 : l.headD 0 = 93) : sLs rd f b l = some ([],l.drop 1) := by unfold sLs;rw [if_neg h,if_pos h1]
theorem sLs_full {rd : List UInt8 → Option (V × List UInt8)} {b : Bool} {l : List UInt8} (h : l ≠ []) (h1 : ¬ l.headD 0 = 93) : sLs rd 0 b l = none := by unfold sLs;rw [if_neg h,if_neg h1]
theorem sLs_bad {rd : List UInt8 → Option (V × List UInt8)} {f : Nat} {l : List UInt8} (h : l ≠ []) (h1 : ¬ l.headD 0 = 93) (h2 : hasP [44,32] l = false) : sLs rd f false l = none := by
  unfold sLs;rw [if_neg h,if_neg h1]
  cases f with
  | zero => rfl
  | succ f => exact if_pos ⟨rfl,h2⟩
theorem sLs_first {rd : List UInt8 → Option (V × List UInt8)} {f : Nat} {l : List UInt8} (h : l ≠ []) (h1 : ¬ l.headD 0 = 93) : sLs rd (f + 1) true l = match rd l with | none => none | some (v,r) => (sLs rd f false r).map fun p => (v :: p.1,p.2) := by
  conv => lhs;unfold sLs
  rw [if_neg h,if_neg h1]
  simp only [Bool.true_eq_false,false_and,if_false,if_true]
  cases rd l <;> rfl
theorem sLs_more {rd : List UInt8 → Option (V × List UInt8)} {f : Nat} {l : List UInt8} (h : l ≠ []) (h1 : ¬ l.headD 0 = 93) (h2 : hasP [44,32] l = true) : sLs rd (f + 1) false l = match rd (l.drop 2) with | none => none | some (v,r) => (sLs rd f false r).map fun p => (v :: p.1,p.2) := by
  conv => lhs;unfold sLs
  rw [if_neg h,if_neg h1]
  simp only [h2,Bool.false_eq_true,Bool.true_eq_false,and_false,if_false]
  cases rd (l.drop 2) <;> rfl
theorem at_tail {s : ByteArray} {j : Nat} (h : j + 1 < s.size) : at_ (s.extract 1 s.size) j = at_ s (j + 1) := by
  have h1 : (s.extract 1 s.size).size = s.size - 1 := by rw [ByteArray.size_extract];omega
  have h2 : j < (s.extract 1 s.size).size := by omega
  simp only [at_,h2,h,dif_pos]
  rw [ByteArray.getElem_extract]
  congr 2
  omega
theorem drop_ne {s : ByteArray} {b : Nat} (h : b < s.size) : s.data.toList.drop b ≠ [] := by rw [drop_at h];simp
theorem head_drop {s : ByteArray} {b : Nat} (h : b < s.size) (c : UInt8) : (s.data.toList.drop b).headD 0 = c ↔ at_ s b = c.toNat := by
  rw [drop_at h,List.headD_cons,← at_eq s b h]
  exact ⟨fun e => by rw [e],fun e => UInt8.toNat_inj.1 e⟩
theorem two_eq {s : ByteArray} {b : Nat} (h : b + 2 ≤ s.size) (p : List UInt8) (hp : p.length = 2) : ((s.extract b (b + 2)).data.toList = p) ↔ hasP p (s.data.toList.drop b) = true := by
  rw [Lib.extract_data,Nat.add_sub_cancel_left,List.isPrefixOf_iff_prefix,List.prefix_iff_eq_take,hp]
  exact eq_comm
theorem blk_at2 {w : World} {a b : Nat} {o : Obj} (e : a = b) (h : w.heap[a]? = some o) : w.heap[b]? = some o := e ▸ h
theorem SRow.base_le {α : Type} {sz : Nat} {R : World → (Nat → Prop) → α → List Value → Prop} {w : World} {base top : Nat} {T : TypeId} {v : Value} {l : List α} {css : List (List Value)} (h : SRow sz R w base top T v l css) : base ≤ w.heap.size := by
  obtain ⟨g,h1,h2,h3,h4,h5,h6,h7,h8,h9⟩ := h;omega
theorem rowV_set {w : World} {base top b o : Nat} {T : TypeId} {v u : Value} {l : List V} {css : List (List Value)} (h : SRow 4 SV w base top T v l css) (hb : b < base) : SRow 4 SV (w.setCell ⟨b,o,none⟩ u) base top T v l css := by
  obtain ⟨g,h1,h2,h3,h4,h5,h6,h7,h8,h9⟩ := h
  refine ⟨g,h1,h2.kept (row := some b) ⟨rfl,rfl,rfl,by simp,fun k hk hn => Below.heap_setCell w ⟨b,o,none⟩ u k (fun e => hn (by rw [e]))⟩ ?_,h3,fun j x cs hx hc => (h4 j x cs hx hc).keep ((Keep.refl _ _).set _ _ fun _ hk => by have := (h5 j b hk).1;omega),h5,h6,h7,by simpa using h8,h9⟩
  cases hv : v.ownBlock with
  | none => exact .inl rfl
  | some k => exact .inr fun e => by cases e;have := (h2.lt _ hv).1;omega
theorem l1List_of (d : Nat) (hd : d ≤ 4) (ih : RdS d) (s : ByteArray) (w : World) (h1 : 1 ≤ s.size) (hs : s.size ≤ 2305843009213693952) : Calls Tryz.prog 98 #[.string s,.int .i64 (d + 1 : Nat)] w (GotR ((sLs (sV d) 7 true (s.data.toList.drop 1)).map fun p => (⟨4,0,⟨#[]⟩,p.1⟩,p.2)) s w) := by
  have IH := hyd ih
  clear ih
  obtain ⟨o,ho⟩ : ∃ o,o = sLs (sV d) 7 true (s.data.toList.drop 1) := ⟨_,rfl⟩
  rw [← ho]
  have HO := hyd ho
  clear ho
  have hd1 : IntKind.i64.wrap (((d + 1 : Nat) : Int) - 1) = (d : Int) := by rw [IntWalk.i64_in _ ⟨by omega,by omega⟩];omega
  have HD := hyd hd1
  clear hd1
  obtain ⟨i0,hi,hzz⟩ := Option.map_eq_some_iff.1 infoValR
  simp only [Prod.mk.injEq] at hzz
  obtain ⟨hz0,hz1,hz2⟩ := hzz
  go_enter Tryz.func98,Tryz.ntmps98
  go_wp2
  go_loopg [7] 8 (fun g x wr => ∃ (acc : List V) (css : List (List Value)) (top b : Nat) (v : Value),1 ≤ b ∧ b ≤ s.size ∧ acc.length ≤ 7 ∧ x = .int .i64 b ∧ g = 8 - acc.length ∧ wr.heap[w.heap.size]? = some (.cells #[.int .i64 0,.int .i64 0,.string ⟨#[]⟩,.slice none 0 0] 62 (0,0)) ∧ wr.heap[w.heap.size + 1]? = some (.cells #[.int .i64 4,.int .i64 0,.string ⟨#[]⟩,v] 62 (0,0)) ∧
    SRow 4 SV wr (w.heap.size + 2) top 62 v acc css ∧ Keep Any w wr ∧ o = (sLs (sV d) (7 - acc.length) acc.isEmpty (s.data.toList.drop b)).map (fun p => (acc ++ p.1,p.2)))
  case atStart => exact ⟨[],[],w.heap.size + 2,1,.slice none 0 0,by omega,h1,by simp,rfl,rfl,blk_alloc (blk_new _ _) _,blk_at2 (by simp) (blk_new _ _),SRow.nil _ _ _ _ (Nat.le_refl _) (by simp),((Keep.refl _ _).alloc _).alloc _,by rw [HO.out];simp⟩
  case round =>
    obtain ⟨acc,css,top,b,v,hb1,hb,hl,rfl,hg,hz,hn,hS,hK,hr⟩ := hrel
    have HG := hyd hg
    have HZ := hyd hz
    have HN := hyd hn
    have HS := hyd hS
    have HK := hyd hK
    have HR := hyd hr
    obtain ⟨av,cv,rfl,hnil⟩ := hS.form
    obtain ⟨r0,r1,r2,r3⟩ := at4 hz
    have f0 := blk_frozen hz 0
    have f1 := blk_frozen hz 1
    have f2 := blk_frozen hz 2
    have f3 := blk_frozen hz 3
    obtain ⟨n0,n1,n2,n3⟩ := at4 hn
    have g3 := blk_frozen hn 3
    have z0 := blk_lt hz
    have z1 := blk_lt hn
    clear hg hz hn hS hK hr hnil
    by_cases hlt : b < s.size
    · have e1 := at_eq s b hlt
      have NE := hyd (drop_ne hlt)
      by_cases h93 : at_ s b = 93
      · have q1 : (((at_ s b : Nat) : Int) != 93) = false := by rw [h93];rfl
        have HE := hyd (sLs_end (rd := sV d) (f := 7 - acc.length) (b := acc.isEmpty) (drop_ne hlt) ((head_drop hlt 93).2 h93))
        clear h93
        go_wp2
        refine bodyPost_ret (v := .tuple #[.agg #[.int .i64 4,.int .i64 0,.string ⟨#[]⟩,.slice av acc.length cv],.int .i64 ((b : Int) + 1)]) (by simp [results,Tryz.results98,go_sem,r0,r1,r2,r3,f0,f1,f2,f3,z0]) rfl ?_
        exact ⟨⟨4,0,⟨#[]⟩,acc⟩,av,cv,b + 1,rfl,(by have hK1 := HK.out;repeat (first | (with_reducible exact hK1) | (refine Keep.set ?_ _ _ (fun h _ => Nat.lt_irrefl _ h)))),(SV.iff.2 ⟨_,rfl,(show I64 4 from ⟨by decide,by decide⟩),(show I64 0 from ⟨by decide,by decide⟩),fits_nil,SSl.mono (SVs.keep (HS.out.slice (ok := Mid (w.heap.size + 2) wr.heap.size) fun i h1 h2 => ⟨h1,h2⟩) (w' := _) (by repeat (first | (with_reducible exact Keep.refl _ _) | (refine Keep.set ?_ _ _ (fun _ h => by have h1 := h.1;have h1 : w.heap.size + 2 ≤ w.heap.size := h1;omega))))) fun i hi => ⟨by have := hi.1;omega,by simpa using hi.2⟩⟩),.inr ⟨by omega,by omega,by rw [HR.out,HE.out,List.drop_drop];simp⟩⟩
      · have q1 : (((at_ s b : Nat) : Int) != 93) = true := by rw [bne_iff_ne];omega
        have H93 := hyd (fun h => h93 ((head_drop hlt 93).1 h))
        clear h93
        by_cases h7 : acc.length = 7
        · have q8 : decide ((acc.length : Int) ≤ 6) = false := by rw [decide_eq_false_iff_not];omega
          have HE := hyd (show sLs (sV d) (7 - acc.length) acc.isEmpty (s.data.toList.drop b) = none by rw [h7];exact sLs_full NE.out H93.out)
          have hl6 : (6 : Int) < (acc.length : Int) := by omega
          clear h7
          go_wp2
          refine bodyPost_ret (v := .tuple #[.agg #[.int .i64 4,.int .i64 0,.string ⟨#[]⟩,.slice av acc.length cv],.int .i64 0]) (by simp [results,Tryz.results98,go_sem,r0,r1,r2,r3,f0,f1,f2,f3,z0]) rfl ?_
          exact ⟨⟨4,0,⟨#[]⟩,acc⟩,av,cv,0,rfl,(by have hK1 := HK.out;repeat (first | (with_reducible exact hK1) | (refine Keep.set ?_ _ _ (fun h _ => Nat.lt_irrefl _ h)))),(SV.iff.2 ⟨_,rfl,(show I64 4 from ⟨by decide,by decide⟩),(show I64 0 from ⟨by decide,by decide⟩),fits_nil,SSl.mono (SVs.keep (HS.out.slice (ok := Mid (w.heap.size + 2) wr.heap.size) fun i h1 h2 => ⟨h1,h2⟩) (w' := _) (by repeat (first | (with_reducible exact Keep.refl _ _) | (refine Keep.set ?_ _ _ (fun _ h => by have h1 := h.1;have h1 : w.heap.size + 2 ≤ w.heap.size := h1;omega))))) fun i hi => ⟨by have := hi.1;omega,by simpa using hi.2⟩⟩),.inl ⟨by rw [HR.out,HE.out];rfl,rfl⟩⟩
        have hl6 : acc.length ≤ 6 := by omega
        clear h7
        by_cases he : acc.length = 0
        · have hacc : acc = [] := List.eq_nil_of_length_eq_zero he
          have hemp : acc.isEmpty = true := by rw [hacc];rfl
          have HEM := hyd hemp
          have HL0 := hyd he
          have q0 : decide (0 < acc.length) = false := by rw [decide_eq_false_iff_not];omega
          have q0' : ¬ (0 < acc.length) := by omega
          have QE := hyd (sLs_first (rd := sV d) (f := 6 - acc.length) NE.out H93.out)
          clear he hacc hemp
          rcases hv : sV d (s.data.toList.drop (b)) with _ | ⟨v1,rr⟩
          · have RN := hyd (IH.out.none' (s := s.extract (b) s.size) (by rw [ByteArray.size_extract];omega) (by rw [rest_data];exact hv))
            have HE := hyd (show sLs (sV d) (7 - acc.length) acc.isEmpty (s.data.toList.drop b) = none by rw [HEM.out,show 7 - acc.length = (6 - acc.length) + 1 by omega,QE.out,hv])
            have HDo := HD.out
            clear hv
            go_wp2_with (go_at_call 77;refine (RN.out _).mono ?_;rintro e w2 ⟨v2,a2,c2,rfl,hK2⟩;have HK2 := hyd hK2;clear r0 r1 r2 r3 f0 f1 f2 f3 n0 n1 n2 n3 g3 z0 z1;have HZ2 := hyd (blk_keep hK2 HZ.out trivial);have HN2 := hyd (blk_keep hK2 HN.out trivial);obtain ⟨r0,r1,r2,r3⟩ := at4 HZ2.out;obtain ⟨f0,f1,f2,f3⟩ := fr4c HZ2.out;obtain ⟨n0,n1,n2,n3⟩ := at4 HN2.out;have g3 := blk_frozen HN2.out 3;have z0 := blk_lt HZ2.out;have z1 := blk_lt HN2.out;clear hK2)
            refine bodyPost_ret (v := .tuple #[.agg #[.int .i64 4,.int .i64 0,.string ⟨#[]⟩,.slice av acc.length cv],.int .i64 0]) (by simp [results,Tryz.results98,go_sem,r0,r1,r2,r3,f0,f1,f2,f3,z0]) rfl ?_
            exact ⟨⟨4,0,⟨#[]⟩,acc⟩,av,cv,0,rfl,(by have hK1 := HK.out.trans HK2.out;repeat (first | (with_reducible exact hK1) | (refine Keep.set ?_ _ _ (fun h _ => Nat.lt_irrefl _ h)) | (refine Keep.alloc ?_ _))),(SV.iff.2 ⟨_,rfl,(show I64 4 from ⟨by decide,by decide⟩),(show I64 0 from ⟨by decide,by decide⟩),fits_nil,SSl.mono (SVs.keep ((rowV_keep HS.out HK2.out).slice (ok := Mid (w.heap.size + 2) w2.heap.size) fun i h1 h2 => ⟨h1,h2⟩) (w' := _) (by repeat (first | (with_reducible exact Keep.refl _ _) | (refine Keep.set ?_ _ _ (fun _ h => by have h1 := h.1;have h1 : w.heap.size + 2 ≤ w.heap.size := h1;omega)) | (refine Keep.alloc ?_ _)))) fun i hi => ⟨by have := hi.1;omega,by have := hi.2;simp;omega⟩⟩),.inl ⟨by rw [HR.out,HE.out];rfl,rfl⟩⟩
          · have RS := hyd (IH.out.some' (s := s.extract (b) s.size) (by rw [ByteArray.size_extract];omega) (by rw [rest_data];exact hv))
            have HE := hyd (show sLs (sV d) (7 - acc.length) acc.isEmpty (s.data.toList.drop b) = (sLs (sV d) (6 - acc.length) false rr).map (fun p => (v1 :: p.1,p.2)) by rw [HEM.out,show 7 - acc.length = (6 - acc.length) + 1 by omega,QE.out,hv])
            have HDo := HD.out
            clear hv
            go_wp2_with (first | (go_at_call 77;refine (RS.out _).mono ?_;rintro e w2 ⟨a2,c2,z,rfl,hK2,hS2,hz0',hz1',hzr⟩;have HS2 := hyd hS2;have HK2 := hyd hK2;have zl : b + z ≤ s.size := (by rw [ByteArray.size_extract] at hz1';omega);have q9 : ((z : Int) == 0) = false := (by rw [beq_eq_false_iff_ne];omega);have HZR := hyd (show s.data.toList.drop (b + z) = rr by rw [← hzr,rest_data,List.drop_drop]);clear hS2 hz1' hzr;clear r0 r1 r2 r3 f0 f1 f2 f3 n0 n1 n2 n3 g3 z0 z1;have HZ2 := hyd (blk_keep hK2 HZ.out trivial);have HN2 := hyd (blk_keep hK2 HN.out trivial);obtain ⟨r0,r1,r2,r3⟩ := at4 HZ2.out;obtain ⟨f0,f1,f2,f3⟩ := fr4c HZ2.out;obtain ⟨n0,n1,n2,n3⟩ := at4 HN2.out;have g3 := blk_frozen HN2.out 3;have z0 := blk_lt HZ2.out;have z1 := blk_lt HN2.out;clear hK2) | (at_builtin;refine wpList_append_sep _ rfl _ _ 60 rfl (w.heap.size + 2) 62 i0 _ 4 56 Tryz.underlying60 hi hz0 hz1 hz2 rfl (by decide) (.slice av acc.length cv) acc.length css.flatten rfl (rowV_keep HS.out ((HK2.out.alloc _).alloc _)).own ⟨w2.heap.size + 1,0,none⟩ 1 1 [.int .i64 v1.kind,.int .i64 v1.num,.string v1.text,.slice a2 v1.list.length c2] rfl rfl (new_cells _ _ _ (by simp)) (by simp [Value.oneCell']) (by unfold maxLen;omega) (by omega) (by have := HS.out.base_le;have := HK2.out.size;simp;omega) (by omega) ?_;intro v' w5 hown' hgrow hblk;have HS5 := hyd (rowV_snoc (rowV_keep HS.out ((HK2.out.alloc _).alloc _)) hown' hgrow hblk (HS2.out.keep (((Keep.refl _ _).alloc _).alloc _)) (fun i hi => ⟨Nat.le_trans HS.out.top_le hi.1,by have := hi.2;simp;omega⟩));have HB5 := hyd (show ∀ k,(Value.slice av acc.length cv).ownBlock = some k → w.heap.size + 2 ≤ k from fun k hk => (HS.out.own.lt k hk).1);have HK5 := hyd ((((HK.out.trans HK2.out).alloc _).alloc _).grown hgrow (fun i hi hlt => by have := HB5.out i hi;omega));have HN5 := hyd ((hgrow.block _ (by have := blk_lt HN.out;have := HK2.out.size;simp;omega) (fun e => by have := HB5.out _ e.symm;omega)).trans (blk_alloc (blk_alloc (blk_keep HK2.out HN.out trivial) _) _));have HZ5 := hyd ((hgrow.block _ (by have := blk_lt HZ.out;have := HK2.out.size;simp;omega) (fun e => by have := HB5.out _ e.symm;omega)).trans (blk_alloc (blk_alloc (blk_keep HK2.out HZ.out trivial) _) _));clear hown' hgrow hblk r0 r1 r2 r3 f0 f1 f2 f3 n0 n1 n2 n3 g3 z0 z1;have n3 := (blk_cell HN5.out 3).trans rfl;have g3 := blk_frozen HN5.out 3;have z1 := blk_lt HN5.out;obtain ⟨av',cv',rfl⟩ : ∃ a c,v' = .slice a (acc.length + 1) c := (by obtain ⟨a,c,e,_⟩ := HS5.out.form;exact ⟨a,c,by rw [e,List.length_append];rfl⟩)))
            go_roundg (gk - 1)
            case rel => exact ⟨acc ++ [v1],_,w5.heap.size,b + z,.slice av' (acc.length + 1) cv',by omega,by omega,by rw [List.length_append,List.length_singleton];omega,by go_num,by have := HG.out;rw [List.length_append,List.length_singleton];omega,blk_far HZ5.out _ _ (by show w.heap.size ≠ w.heap.size + 1;omega),(blk_set HN5.out 3 _).trans rfl,rowV_set HS5.out (by omega),HK5.out.set _ _ (fun h _ => by have h : w.heap.size + 1 < w.heap.size := h;omega),by rw [HR.out,HE.out,Option.map_map,HZR.out,show 7 - (acc ++ [v1]).length = 6 - acc.length by rw [List.length_append,List.length_singleton];omega,show (acc ++ [v1]).isEmpty = false by simp];congr 1;funext p;simp⟩
            case measure => have := HG.out;omega
        · have hemp : acc.isEmpty = false := by cases acc with | nil => exact absurd rfl he | cons x l => rfl
          have HEM := hyd hemp
          have q0' : 0 < acc.length := by omega
          clear he hemp
          rcases hp : hasP [44,32] (s.data.toList.drop b) with _ | _
          · have HE := hyd (show sLs (sV d) (7 - acc.length) acc.isEmpty (s.data.toList.drop b) = none by rw [HEM.out];exact sLs_bad NE.out H93.out hp)
            by_cases h2 : s.size < b + 2
            · clear hp
              go_wp2
              refine bodyPost_ret (v := .tuple #[.agg #[.int .i64 4,.int .i64 0,.string ⟨#[]⟩,.slice av acc.length cv],.int .i64 0]) (by simp [results,Tryz.results98,go_sem,r0,r1,r2,r3,f0,f1,f2,f3,z0]) rfl ?_
              exact ⟨⟨4,0,⟨#[]⟩,acc⟩,av,cv,0,rfl,(by have hK1 := HK.out;repeat (first | (with_reducible exact hK1) | (refine Keep.set ?_ _ _ (fun h _ => Nat.lt_irrefl _ h)))),(SV.iff.2 ⟨_,rfl,(show I64 4 from ⟨by decide,by decide⟩),(show I64 0 from ⟨by decide,by decide⟩),fits_nil,SSl.mono (SVs.keep (HS.out.slice (ok := Mid (w.heap.size + 2) wr.heap.size) fun i h1 h2 => ⟨h1,h2⟩) (w' := _) (by repeat (first | (with_reducible exact Keep.refl _ _) | (refine Keep.set ?_ _ _ (fun _ h => by have h1 := h.1;have h1 : w.heap.size + 2 ≤ w.heap.size := h1;omega))))) fun i hi => ⟨by have := hi.1;omega,by simpa using hi.2⟩⟩),.inl ⟨by rw [HR.out,HE.out];rfl,rfl⟩⟩
            · obtain ⟨tw,htw⟩ : ∃ tw,s.extract b (b + 2) = tw := ⟨_,rfl⟩
              have hne : ¬ tw.data.toList = [44,32] := fun e => by rw [← htw,two_eq (by omega) _ rfl,hp] at e;cases e
              have b1 := str_no hne
              have b2 : (tw.toList != [44,32]) = true := by rw [bne,b1];rfl
              clear hp hne
              go_wp2
              refine bodyPost_ret (v := .tuple #[.agg #[.int .i64 4,.int .i64 0,.string ⟨#[]⟩,.slice av acc.length cv],.int .i64 0]) (by simp [results,Tryz.results98,go_sem,r0,r1,r2,r3,f0,f1,f2,f3,z0]) rfl ?_
              exact ⟨⟨4,0,⟨#[]⟩,acc⟩,av,cv,0,rfl,(by have hK1 := HK.out;repeat (first | (with_reducible exact hK1) | (refine Keep.set ?_ _ _ (fun h _ => Nat.lt_irrefl _ h)))),(SV.iff.2 ⟨_,rfl,(show I64 4 from ⟨by decide,by decide⟩),(show I64 0 from ⟨by decide,by decide⟩),fits_nil,SSl.mono (SVs.keep (HS.out.slice (ok := Mid (w.heap.size + 2) wr.heap.size) fun i h1 h2 => ⟨h1,h2⟩) (w' := _) (by repeat (first | (with_reducible exact Keep.refl _ _) | (refine Keep.set ?_ _ _ (fun _ h => by have h1 := h.1;have h1 : w.heap.size + 2 ≤ w.heap.size := h1;omega))))) fun i hi => ⟨by have := hi.1;omega,by simpa using hi.2⟩⟩),.inl ⟨by rw [HR.out,HE.out];rfl,rfl⟩⟩
          · have h2 := hasP_len hp hb
            have h2 : b + 2 ≤ s.size := by simpa using h2
            obtain ⟨tw,htw⟩ : ∃ tw,s.extract b (b + 2) = tw := ⟨_,rfl⟩
            have hne : tw.data.toList = [44,32] := by rw [← htw];exact (two_eq h2 _ rfl).2 hp
            have b1 := str_yes hne
            have b2 : (tw.toList != [44,32]) = false := by rw [bne,b1];rfl
            have QE := hyd (sLs_more (rd := sV d) (f := 6 - acc.length) NE.out H93.out hp)
            clear hp hne
            rcases hv : sV d (s.data.toList.drop (b + 2)) with _ | ⟨v1,rr⟩
            · have RN := hyd (IH.out.none' (s := s.extract (b + 2) s.size) (by rw [ByteArray.size_extract];omega) (by rw [rest_data];exact hv))
              have HE := hyd (show sLs (sV d) (7 - acc.length) acc.isEmpty (s.data.toList.drop b) = none by rw [HEM.out,show 7 - acc.length = (6 - acc.length) + 1 by omega,QE.out,List.drop_drop,hv])
              have HDo := HD.out
              clear hv
              go_wp2_with (go_at_call 77;refine (RN.out _).mono ?_;rintro e w2 ⟨v2,a2,c2,rfl,hK2⟩;have HK2 := hyd hK2;clear r0 r1 r2 r3 f0 f1 f2 f3 n0 n1 n2 n3 g3 z0 z1;have HZ2 := hyd (blk_keep hK2 HZ.out trivial);have HN2 := hyd (blk_keep hK2 HN.out trivial);obtain ⟨r0,r1,r2,r3⟩ := at4 HZ2.out;obtain ⟨f0,f1,f2,f3⟩ := fr4c HZ2.out;obtain ⟨n0,n1,n2,n3⟩ := at4 HN2.out;have g3 := blk_frozen HN2.out 3;have z0 := blk_lt HZ2.out;have z1 := blk_lt HN2.out;clear hK2)
              refine bodyPost_ret (v := .tuple #[.agg #[.int .i64 4,.int .i64 0,.string ⟨#[]⟩,.slice av acc.length cv],.int .i64 0]) (by simp [results,Tryz.results98,go_sem,r0,r1,r2,r3,f0,f1,f2,f3,z0]) rfl ?_
              exact ⟨⟨4,0,⟨#[]⟩,acc⟩,av,cv,0,rfl,(by have hK1 := HK.out.trans HK2.out;repeat (first | (with_reducible exact hK1) | (refine Keep.set ?_ _ _ (fun h _ => Nat.lt_irrefl _ h)) | (refine Keep.alloc ?_ _))),(SV.iff.2 ⟨_,rfl,(show I64 4 from ⟨by decide,by decide⟩),(show I64 0 from ⟨by decide,by decide⟩),fits_nil,SSl.mono (SVs.keep ((rowV_keep HS.out HK2.out).slice (ok := Mid (w.heap.size + 2) w2.heap.size) fun i h1 h2 => ⟨h1,h2⟩) (w' := _) (by repeat (first | (with_reducible exact Keep.refl _ _) | (refine Keep.set ?_ _ _ (fun _ h => by have h1 := h.1;have h1 : w.heap.size + 2 ≤ w.heap.size := h1;omega)) | (refine Keep.alloc ?_ _)))) fun i hi => ⟨by have := hi.1;omega,by have := hi.2;simp;omega⟩⟩),.inl ⟨by rw [HR.out,HE.out];rfl,rfl⟩⟩
            · have RS := hyd (IH.out.some' (s := s.extract (b + 2) s.size) (by rw [ByteArray.size_extract];omega) (by rw [rest_data];exact hv))
              have HE := hyd (show sLs (sV d) (7 - acc.length) acc.isEmpty (s.data.toList.drop b) = (sLs (sV d) (6 - acc.length) false rr).map (fun p => (v1 :: p.1,p.2)) by rw [HEM.out,show 7 - acc.length = (6 - acc.length) + 1 by omega,QE.out,List.drop_drop,hv])
              have HDo := HD.out
              clear hv
              go_wp2_with (first | (go_at_call 77;refine (RS.out _).mono ?_;rintro e w2 ⟨a2,c2,z,rfl,hK2,hS2,hz0',hz1',hzr⟩;have HS2 := hyd hS2;have HK2 := hyd hK2;have zl : b + 2 + z ≤ s.size := (by rw [ByteArray.size_extract] at hz1';omega);have q9 : ((z : Int) == 0) = false := (by rw [beq_eq_false_iff_ne];omega);have HZR := hyd (show s.data.toList.drop (b + 2 + z) = rr by rw [← hzr,rest_data,List.drop_drop]);clear hS2 hz1' hzr;clear r0 r1 r2 r3 f0 f1 f2 f3 n0 n1 n2 n3 g3 z0 z1;have HZ2 := hyd (blk_keep hK2 HZ.out trivial);have HN2 := hyd (blk_keep hK2 HN.out trivial);obtain ⟨r0,r1,r2,r3⟩ := at4 HZ2.out;obtain ⟨f0,f1,f2,f3⟩ := fr4c HZ2.out;obtain ⟨n0,n1,n2,n3⟩ := at4 HN2.out;have g3 := blk_frozen HN2.out 3;have z0 := blk_lt HZ2.out;have z1 := blk_lt HN2.out;clear hK2) | (at_builtin;refine wpList_append_sep _ rfl _ _ 60 rfl (w.heap.size + 2) 62 i0 _ 4 56 Tryz.underlying60 hi hz0 hz1 hz2 rfl (by decide) (.slice av acc.length cv) acc.length css.flatten rfl (rowV_keep HS.out ((HK2.out.alloc _).alloc _)).own ⟨w2.heap.size + 1,0,none⟩ 1 1 [.int .i64 v1.kind,.int .i64 v1.num,.string v1.text,.slice a2 v1.list.length c2] rfl rfl (new_cells _ _ _ (by simp)) (by simp [Value.oneCell']) (by unfold maxLen;omega) (by omega) (by have := HS.out.base_le;have := HK2.out.size;simp;omega) (by omega) ?_;intro v' w5 hown' hgrow hblk;have HS5 := hyd (rowV_snoc (rowV_keep HS.out ((HK2.out.alloc _).alloc _)) hown' hgrow hblk (HS2.out.keep (((Keep.refl _ _).alloc _).alloc _)) (fun i hi => ⟨Nat.le_trans HS.out.top_le hi.1,by have := hi.2;simp;omega⟩));have HB5 := hyd (show ∀ k,(Value.slice av acc.length cv).ownBlock = some k → w.heap.size + 2 ≤ k from fun k hk => (HS.out.own.lt k hk).1);have HK5 := hyd ((((HK.out.trans HK2.out).alloc _).alloc _).grown hgrow (fun i hi hlt => by have := HB5.out i hi;omega));have HN5 := hyd ((hgrow.block _ (by have := blk_lt HN.out;have := HK2.out.size;simp;omega) (fun e => by have := HB5.out _ e.symm;omega)).trans (blk_alloc (blk_alloc (blk_keep HK2.out HN.out trivial) _) _));have HZ5 := hyd ((hgrow.block _ (by have := blk_lt HZ.out;have := HK2.out.size;simp;omega) (fun e => by have := HB5.out _ e.symm;omega)).trans (blk_alloc (blk_alloc (blk_keep HK2.out HZ.out trivial) _) _));clear hown' hgrow hblk r0 r1 r2 r3 f0 f1 f2 f3 n0 n1 n2 n3 g3 z0 z1;have n3 := (blk_cell HN5.out 3).trans rfl;have g3 := blk_frozen HN5.out 3;have z1 := blk_lt HN5.out;obtain ⟨av',cv',rfl⟩ : ∃ a c,v' = .slice a (acc.length + 1) c := (by obtain ⟨a,c,e,_⟩ := HS5.out.form;exact ⟨a,c,by rw [e,List.length_append];rfl⟩)))
              go_roundg (gk - 1)
              case rel => exact ⟨acc ++ [v1],_,w5.heap.size,b + 2 + z,.slice av' (acc.length + 1) cv',by omega,by omega,by rw [List.length_append,List.length_singleton];omega,by go_num,by have := HG.out;rw [List.length_append,List.length_singleton];omega,blk_far HZ5.out _ _ (by show w.heap.size ≠ w.heap.size + 1;omega),(blk_set HN5.out 3 _).trans rfl,rowV_set HS5.out (by omega),HK5.out.set _ _ (fun h _ => by have h : w.heap.size + 1 < w.heap.size := h;omega),by rw [HR.out,HE.out,Option.map_map,HZR.out,show 7 - (acc ++ [v1]).length = 6 - acc.length by rw [List.length_append,List.length_singleton];omega,show (acc ++ [v1]).isEmpty = false by simp];congr 1;funext p;simp⟩
              case measure => have := HG.out;omega
    · have HE := hyd (show sLs (sV d) (7 - acc.length) acc.isEmpty (s.data.toList.drop b) = none by rw [List.drop_of_length_le (by rw [← Lib.size_eq];omega)];exact sLs_nil)
      go_wp2
      refine bodyPost_ret (v := .tuple #[.agg #[.int .i64 4,.int .i64 0,.string ⟨#[]⟩,.slice av acc.length cv],.int .i64 0]) (by simp [results,Tryz.results98,go_sem,r0,r1,r2,r3,f0,f1,f2,f3,z0]) rfl ?_
      exact ⟨⟨4,0,⟨#[]⟩,acc⟩,av,cv,0,rfl,(by have hK1 := HK.out;repeat (first | (with_reducible exact hK1) | (refine Keep.set ?_ _ _ (fun h _ => Nat.lt_irrefl _ h)))),(SV.iff.2 ⟨_,rfl,(show I64 4 from ⟨by decide,by decide⟩),(show I64 0 from ⟨by decide,by decide⟩),fits_nil,SSl.mono (SVs.keep (HS.out.slice (ok := Mid (w.heap.size + 2) wr.heap.size) fun i h1 h2 => ⟨h1,h2⟩) (w' := _) (by repeat (first | (with_reducible exact Keep.refl _ _) | (refine Keep.set ?_ _ _ (fun _ h => by have h1 := h.1;have h1 : w.heap.size + 2 ≤ w.heap.size := h1;omega))))) fun i hi => ⟨by have := hi.1;omega,by simpa using hi.2⟩⟩),.inl ⟨by rw [HR.out,HE.out];rfl,rfl⟩⟩
end Go.Proofs.YtjopkcjpedgoaaaGreatDoor

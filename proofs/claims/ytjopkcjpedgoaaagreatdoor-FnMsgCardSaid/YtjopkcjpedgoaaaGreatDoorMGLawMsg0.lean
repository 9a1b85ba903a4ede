/- Bytes that can be read, to begin a reader with. No condition. Which replies have a form, as a plain function. A reply's text, as a plain function. For every reply. A map of one's own, from texts to numbers, that holds 1 for each text seen. No condition. A text with a cut, or one sign more: some text at most one byte longer. A frame's text: the program's FramePut and the reference's write the same. For every body. A frame is read back, whatever stands behind it; no beginning of it is; what is read was written just so. For every body and text. strings.Builder's WriteString over this dump (the shelf's own contract could not be laid): a builder of one's own gains the text. Under Go's own limit of length. The laws' comparison of values (asValue): of two that hold the same it says yes. The laws' comparison asMsg of two messages that hold the same. -/
import Derived.Test.YtjopkcjpedgoaaaGreatDoorMG0
import Derived.WideKeyMaps2
import Derived.Laws.IdiomMaps
import Derived.Test.YtjopkcjpedgoaaaGreatDoorMG1
import Derived.Deep.RegionLaw
import Derived.Lib.Strings
import Derived.Lib.Slices
import Derived.Lib.Walk
import Derived.Lib.Builder
import Derived.Lib.AppendStr
import Derived.Lib.UnsafeStr
import Derived.Laws.Externs
import Derived.Laws.IdiomCopy
import Derived.StillTailTactics
/- Bytes that can be read,to begin a reader with. No condition. -/
namespace Go.Proofs.YtjopkcjpedgoaaaGreatDoor
open Go.RowKit
set_option linter.unusedVariables false
def BytIn (w : World) (s : Value) (n : Nat) : Prop :=
  ∃ (a : Option Addr) (c : Nat),s = .slice a n c ∧ n ≤ c ∧ c ≤ 9223372036854775807 ∧ (0 < n → ∃ ad : Addr,a = some ad ∧ ∀ i,i < n → ∃ x : Nat,x < 256 ∧ w.cell? (ad.add i) = some (.int .u8 x))
theorem BytIn.keep {w w' : World} {s : Value} {n : Nat} (h : BytIn w s n) (k : Keep Any w w') : BytIn w' s n := by
  obtain ⟨a,c,rfl,h1,h2,h3⟩ := h
  refine ⟨a,c,rfl,h1,h2,fun hn => ?_⟩
  obtain ⟨ad,rfl,hf⟩ := h3 hn
  exact ⟨ad,rfl,fun i hi => by obtain ⟨x,hx,hc⟩ := hf i hi;exact ⟨x,hx,k.cell hc trivial⟩⟩
theorem BytIn.byt {w : World} {s : Value} {n b : Nat} (h : BytIn w s n) (hb : w.heap.size ≤ b) : Byt w b s n := by
  obtain ⟨a,c,rfl,h1,h2,h3⟩ := h
  refine ⟨a,c,rfl,h1,h2,fun hn => ?_⟩
  obtain ⟨ad,rfl,hf⟩ := h3 hn
  refine ⟨ad,rfl,fun e => ?_,hf⟩
  obtain ⟨x,hx,hc⟩ := hf 0 hn
  have := World.block_lt_of_cell? w _ hc
  rw [add_block] at this
  omega

/- Which replies have a form,as a plain function. -/
end Go.Proofs.YtjopkcjpedgoaaaGreatDoor

/- A reply's text,as a plain function. For every reply. -/
namespace Go.Proofs.YtjopkcjpedgoaaaGreatDoor
open Go.RowKit
set_option linter.unusedVariables false
set_option linter.unusedSimpArgs false
theorem name_size {t : ByteArray} (h : nameOk t = true) : t.size ≤ 8 := by
  simp only [nameOk,nameShape,Bool.and_eq_true,decide_eq_true_eq] at h
  omega
theorem flat_len {b : Nat} : ∀ (l : List (List UInt8)),(∀ x,x ∈ l → x.length ≤ b) → l.flatten.length ≤ l.length * b
  | [],_ => by simp
  | x :: r,h => by
    have := flat_len r fun y hy => h y (List.mem_cons_of_mem _ hy)
    have h0 := h x (List.mem_cons_self ..)
    rw [List.flatten_cons,List.length_append,List.length_cons,Nat.add_mul]
    omega
end Go.Proofs.YtjopkcjpedgoaaaGreatDoor

/- A map of one's own,from texts to numbers,that holds 1 for each text seen. No condition. -/
namespace Go.Proofs.YtjopkcjpedgoaaaGreatDoor
open Go.RowKit Go.WideMaps Go.MapKept Go.ChangeMaps
set_option linter.unusedVariables false
def Seen (w : World) (b : Nat) (l : List ByteArray) : Prop := ∃ es clock,w.heap[b]? = some (.map es clock) ∧ es.toList.map (fun x => (x.key,x.val)) = l.map fun s => (Value.string s,Value.int .i64 1)
section
variable {P : Program} {k e t : TypeId} {w : World} {b : Nat} {l : List ByteArray}
theorem Seen.keep {ok : Nat → Prop} {w' : World} (h : Seen w b l) (hk : Keep ok w w') (ho : ok b) : Seen w' b l := by
  obtain ⟨es,c,hb,he⟩ := h
  exact ⟨es,c,blk_keep hk hb ho,he⟩
theorem Seen.made (w : World) : Seen (w.alloc (.map #[] 0)) w.heap.size [] := ⟨#[],0,blk_new _ _,rfl⟩
theorem Seen.lt (h : Seen w b l) : b < w.heap.size := by obtain ⟨es,c,hb,_⟩ := h;exact blk_lt hb
theorem seen_key (hk : P.underlying k = some .string) {s : ByteArray} (hs : Fits s) : keyOf P k (.string s) = some (.string s.data.toList) := keyOf_string_mk hk (by simpa [Fits,maxLen] using hs)
theorem seen_entry {es : Array MapEntry} (he : es.toList.map (fun x => (x.key,x.val)) = l.map fun s => (Value.string s,Value.int .i64 1)) {x : MapEntry} (hx : x ∈ es.toList) : ∃ s,s ∈ l ∧ x.key = .string s ∧ x.val = .int .i64 1 := by
  have : (x.key,x.val) ∈ es.toList.map (fun x => (x.key,x.val)) := List.mem_map.2 ⟨x,hx,rfl⟩
  rw [he] at this
  obtain ⟨s,hs,e⟩ := List.mem_map.1 this
  exact ⟨s,hs,(congrArg Prod.fst e).symm,(congrArg Prod.snd e).symm⟩
theorem seen_of {es : Array MapEntry} (he : es.toList.map (fun x => (x.key,x.val)) = l.map fun s => (Value.string s,Value.int .i64 1)) {s : ByteArray} (hs : s ∈ l) : ∃ x,x ∈ es.toList ∧ x.key = .string s := by
  have : (Value.string s,Value.int .i64 1) ∈ es.toList.map (fun x => (x.key,x.val)) := by rw [he];exact List.mem_map.2 ⟨s,hs,rfl⟩
  obtain ⟨x,hx,e⟩ := List.mem_map.1 this
  exact ⟨x,hx,congrArg Prod.fst e⟩
theorem seen_lookup (hk : P.underlying k = some .string) (ht : P.underlying t = some (.map k e)) (hz : ∀ u : World,(zeroValue e).run P u = .ok (.int .i64 0) u) (h : Seen w b l) (hl : ∀ x,x ∈ l → Fits x) {s : ByteArray} (hs : Fits s) :
    (s ∈ l → (Instr.lookup t (.map (some b)) (.string s) false).run P w = .ok (.int .i64 1) w) ∧ (¬ s ∈ l → (Instr.lookup t (.map (some b)) (.string s) false).run P w = .ok (.int .i64 0) w) := by
  obtain ⟨es,clock,hb,he⟩ := h
  have K : KeyLaw P k := string_law hk
  have hkey := seen_key hk hs
  rcases K.find w hkey es.toList (fun x hx => by obtain ⟨s',hs',e1,_⟩ := seen_entry he hx;exact ⟨_,e1 ▸ seen_key hk (hl _ hs')⟩) with ⟨h1,h2⟩ | ⟨j,e0,h1,h2,h3⟩
  · refine ⟨fun hm => ?_,fun _ => by simp [Instr.lookup,run_underlying ht,MapKept.run_getObj_map hb,K.check w _ hkey,h1,hz,Result.andThen]⟩
    obtain ⟨x,hx,e1⟩ := seen_of he hm
    exact absurd e1 (h2 x hx)
  · obtain ⟨s',hs',e1,e2⟩ := seen_entry he (List.mem_of_getElem? h2)
    rw [h3] at e1
    cases e1
    exact ⟨fun _ => by simp [Instr.lookup,run_underlying ht,MapKept.run_getObj_map hb,K.check w _ hkey,h1,e2,Result.andThen],fun hn => absurd hs' hn⟩
theorem keep_setBlock (w : World) (b : Nat) (o : Obj) : Keep (But b) w (setBlock w b o) :=
  ⟨rfl,rfl,rfl,by simp [setBlock],fun k hk hn => by simp [setBlock,Array.getElem?_setIfInBounds_ne (Ne.symm hn)]⟩
theorem seen_update (hk : P.underlying k = some .string) (ht : P.underlying t = some (.map k e)) (h : Seen w b l) (hl : ∀ x,x ∈ l → Fits x) {s : ByteArray} (hs : Fits s) (hn : ¬ s ∈ l) :
    ∃ w',(Instr.mapUpdate t (.map (some b)) (.string s) (.int .i64 1)).run P w = .ok () w' ∧ Seen w' b (l ++ [s]) ∧ Keep (But b) w w' := by
  obtain ⟨es,clock,hb,he⟩ := h
  have K : KeyLaw P k := string_law hk
  have hkey := seen_key hk hs
  rcases K.find w hkey es.toList (fun x hx => by obtain ⟨s',hs',e1,_⟩ := seen_entry he hx;exact ⟨_,e1 ▸ seen_key hk (hl _ hs')⟩) with ⟨h1,h2⟩ | ⟨j,e0,h1,h2,h3⟩
  · refine ⟨setBlock w b (.map (es.push ⟨.string s,.int .i64 1,clock⟩) (clock + 1)),by simp [Instr.mapUpdate,run_underlying ht,MapKept.run_getObj_map hb,K.check w false hkey,h1,MapKept.run_setObj_map _ hb,Result.andThen,setBlock],⟨es.push ⟨.string s,.int .i64 1,clock⟩,clock + 1,?_,?_⟩,keep_setBlock _ _ _⟩
    · have := blk_lt hb
      simp [setBlock,this]
    · simp [he]
  · obtain ⟨s',hs',e1,e2⟩ := seen_entry he (List.mem_of_getElem? h2)
    rw [h3] at e1
    cases e1
    exact absurd hs' hn
end
end Go.Proofs.YtjopkcjpedgoaaaGreatDoor

/- A text with a cut,or one sign more: some text at most one byte longer. -/
namespace Go.Proofs.YtjopkcjpedgoaaaGreatDoor
open Go.RowKit
set_option linter.unusedVariables false
set_option linter.unusedSimpArgs false
set_option maxRecDepth 20000
set_option maxHeartbeats 1000000
theorem l11Cut_calls (t : ByteArray) (ht : t.size ≤ 900000) (w : World) (b : Nat) (s : Value) (n p : Nat) (hr : Rdr w b s n p) (hn : n ≤ 2000) (hp : p ≤ 900000) :
    Calls Tryz.prog 27 #[.pointer (some ⟨b,0,none⟩),.string t] w fun e w' => ∃ (x : ByteArray) (p' : Nat),x.size ≤ t.size + 1 ∧ e = .returned (.string x) ∧ Rdr w' b s n p' ∧ p ≤ p' ∧ p' ≤ p + 3 ∧ Keep (But b) w w' := by
  have HR := hyd hr
  have hb := blk_lt hr.1
  have PK := hyd (fun (k : Int) (w : World) (p : Nat) h hp hk => pick_calls k w b s n p h hn hp hk)
  have OF := hyd (fun (w : World) (p : Nat) (l : List ByteArray) v h hp hl hl2 hv => of_calls l v w b s n p h hn hp hl hl2 hv)
  clear hr
  go_enter Tryz.func27,Tryz.ntmps27
  go_wp2_with fail
  refine (PK.out ((t.size : Int) + 1) _ p HR.out (by omega) (by omega)).mono ?_
  rintro e w2 ⟨j,rfl,j0,j1,hR2,hK2⟩
  have j2 := j1 (by omega)
  obtain ⟨k,rfl⟩ := Int.eq_ofNat_of_zero_le j0
  have hk : k ≤ t.size := by omega
  have R2 := hyd hR2
  have K2 := hyd hK2
  clear hR2 hK2 j1 j2 j0
  go_wp2_with fail
  refine (PK.out 5 _ (p + 1) R2.out (by omega) (by omega)).mono ?_
  rintro e w3 ⟨j,rfl,j0,j1,hR3,hK3⟩
  have R3 := hyd hR3
  have K3 := hyd (K2.out.trans hK3)
  have Z3 := hyd (Nat.le_trans K2.out.size hK3.size)
  clear hR3 hK3 j1
  by_cases h0 : j = 0
  · have q0 : (j == 0) = true := by rw [h0];rfl
    clear h0
    obtain ⟨ob,hob⟩ : ∃ ob,(Obj.cells (([⟨#[32]⟩,⟨#[40]⟩,⟨#[93]⟩,⟨#[44]⟩,⟨#[48]⟩,⟨#[120]⟩,⟨#[10]⟩,⟨#[39]⟩] : List ByteArray).map Value.string).toArray 9 (0,0)) = ob := ⟨_,rfl⟩
    have hsz : ∀ y,y ∈ ([⟨#[32]⟩,⟨#[40]⟩,⟨#[93]⟩,⟨#[44]⟩,⟨#[48]⟩,⟨#[120]⟩,⟨#[10]⟩,⟨#[39]⟩] : List ByteArray) → y.size = 1 := fun y hy => by
      simp only [List.mem_cons,List.not_mem_nil,or_false] at hy
      rcases hy with rfl | rfl | rfl | rfl | rfl | rfl | rfl | rfl <;> rfl
    have HSZ := hyd hsz
    have HS := hyd (show Strs (w3.alloc ob).drew (But b) (.slice (some ⟨w3.heap.size,0,none⟩) 8 8) [⟨#[32]⟩,⟨#[40]⟩,⟨#[93]⟩,⟨#[44]⟩,⟨#[48]⟩,⟨#[120]⟩,⟨#[10]⟩,⟨#[39]⟩] from SStrs.strs (SStrs.keep (strs_blkD (l := [⟨#[32]⟩,⟨#[40]⟩,⟨#[93]⟩,⟨#[44]⟩,⟨#[48]⟩,⟨#[120]⟩,⟨#[10]⟩,⟨#[39]⟩]) (ok := But b) (by rw [← hob];exact blk_new w3 _) (show w3.heap.size ≠ b by have := Z3.out;omega) (by decide) (fun x hx => by rw [Fits,hsz x hx];decide)) ((Keep.refl _ _).drew)))
    have HRD := hyd (show Rdr (w3.alloc ob).drew b s n (p + 1 + 1) from ⟨blk_alloc R3.out.1 ob,R3.out.2.keep (((Keep.refl (But b) w3).alloc ob).drew)⟩)
    have HKD := hyd (show Keep (But b) w (w3.alloc ob).drew from (K3.out.alloc ob).drew)
    have s1 : (t.extract 0 k).size = k := by rw [ByteArray.size_extract];omega
    have s2 : (t.extract k t.size).size = t.size - k := by rw [ByteArray.size_extract];omega
    obtain ⟨x1,he1⟩ : ∃ x1,t.extract 0 k = x1 := ⟨_,rfl⟩
    obtain ⟨x2,he2⟩ : ∃ x2,t.extract k t.size = x2 := ⟨_,rfl⟩
    rw [he1] at s1
    rw [he2] at s2
    have S1 := hyd s1
    have S2 := hyd s2
    clear hsz s1 s2
    subst hob
    have OFD := hyd (OF.out _ (p + 1 + 1) [⟨#[32]⟩,⟨#[40]⟩,⟨#[93]⟩,⟨#[44]⟩,⟨#[48]⟩,⟨#[120]⟩,⟨#[10]⟩,⟨#[39]⟩] _ HRD.out (by omega) (by simp) (by simp) HS.out)
    go_wp2
    go_region_law (go_simp;go_at_call 20;refine OFD.out.mono ?_;rintro e w4 ⟨x,hx,rfl,hR4,hK4⟩;have HX := hyd (HSZ.out x hx);have R4 := hyd hR4;have K4 := hyd (HKD.out.trans hK4);have n1 : ¬ 9223372036854775807 < x1.size + x.size := (by rw [S1.out,HX.out];omega);have n2 : ¬ 9223372036854775807 < x1.size + x.size + x2.size := (by rw [S1.out,HX.out,S2.out];omega);clear hx hR4 hK4)
    all_goals
      go_wp2
      go_ret
      exact ⟨_,p + 1 + 1 + 1,by rw [ByteArray.size_append,ByteArray.size_append,S1.out,HX.out,S2.out];omega,rfl,R4.out,by omega,by omega,K4.out⟩
  · have q0 : (j == 0) = false := by rw [beq_eq_false_iff_ne];exact h0
    clear h0
    by_cases h1 : j = 1
    · have q1 : (j == 1) = true := by rw [h1];rfl
      clear h1
      go_wp2
      go_ret
      exact ⟨_,p + 1 + 1,by rw [ByteArray.size_extract];omega,rfl,R3.out,by omega,by omega,K3.out⟩
    · have q1 : (j == 1) = false := by rw [beq_eq_false_iff_ne];exact h1
      clear h1
      go_wp2
      go_ret
      exact ⟨_,p + 1 + 1,by omega,rfl,R3.out,by omega,by omega,K3.out⟩

/- A frame's text: the program's FramePut and the reference's write the same. For every body. -/


/- A frame is read back,whatever stands behind it;no beginning of it is;what is read was written just so. For every body and text. -/

/- strings.Builder's WriteString over this dump (the shelf's own contract could not be laid): a builder of one's own gains the text. Under Go's own limit of length. -/
set_option maxRecDepth 100000
set_option maxHeartbeats 2000000
theorem sizeBuilder : (Tryz.prog.info? 54).map (·.size) = some 2 := by kernel_rfl
theorem liesBuilder : liesAt Tryz.prog Tryz.prog.depth 54 (2 / Tryz.prog.cellsOf 54) 0 54 1 = true := by kernel_rfl
theorem infoByte : (Tryz.prog.info? 5).map (fun i => (i.zero,i.size,i.bytes)) = some (some (.int .u8 0),1,1) := by kernel_rfl
theorem copyCheck_used (b : Nat) (w : World) (h0 : w.cell? ⟨b,0,none⟩ = some (.pointer (some ⟨b,0,none⟩))) :
    Calls Tryz.prog 51 #[.pointer (some ⟨b,0,none⟩)] w fun e w' => e = .returned (.tuple #[]) ∧ w' = w := by
  obtain ⟨j,hj,_⟩ := Option.map_eq_some_iff.1 sizeBuilder
  go_enter Tryz.func51,Tryz.ntmps51
  go_wp2
  rw [Lib.run_neq_ptr_same w _ Tryz.underlying52 hj]
  go_wp2
  go_end0
  exact ⟨rfl,rfl⟩
theorem copyCheck_fresh (b : Nat) (w : World) (h0 : w.cell? ⟨b,0,none⟩ = some (.pointer none)) (hsh : w.shape? b = some (54,2)) (hfz : w.frozen? ⟨b,0,none⟩ = false) :
    Calls Tryz.prog 51 #[.pointer (some ⟨b,0,none⟩)] w fun e w' => e = .returned (.tuple #[]) ∧ w' = w.setCell ⟨b,0,none⟩ (.pointer (some ⟨b,0,none⟩)) := by
  obtain ⟨j,hj,hjs⟩ := Option.map_eq_some_iff.1 sizeBuilder
  go_enter Tryz.func51,Tryz.ntmps51
  go_wp2
  rw [Lib.run_to_unsafe w ⟨b,0,none⟩ Tryz.underlying52 Tryz.underlying101 hj (by rw [hjs];decide) hsh (Nat.zero_lt_succ 1)]
  simp only [Result.andThen]
  rw [Oper.upon_value]
  go_wp2
  rw [run_callFunc_extern Tryz.func68 (by kernel_rfl) (by kernel_rfl) (by kernel_rfl) (e := Extern.AbiNoEscape.same) (by kernel_rfl)]
  rw [Lib.run_noEscape]
  simp only [Result.andThen]
  rw [Oper.upon_value]
  go_wp2
  rw [Lib.run_from_unsafe w ⟨b,0,none⟩ Tryz.underlying101 Tryz.underlying52 hj hsh liesBuilder]
  simp only [Result.andThen]
  rw [Oper.upon_value]
  go_wp2
  go_end0
  exact ⟨rfl,rfl⟩
abbrev IsB (b : Nat) (l : List UInt8) (w : World) : Prop := Lib.IsBuilder 54 5 b b (Lib.byteCells l) w
theorem copyCheck_calls (B b : Nat) (bs : List Value) (w : World) (h : Lib.IsBuilder 54 5 B b bs w) :
    Calls Tryz.prog 51 #[.pointer (some ⟨b,0,none⟩)] w fun e w' => e = .returned (.tuple #[]) ∧ (Lib.BuilderAt 54 5 B b (.pointer (some ⟨b,0,none⟩)) bs w' ∧ Below B w w') := by
  rcases h with h | h
  · refine (copyCheck_fresh b w h.cell0 h.shape h.frozen0).mono ?_
    rintro e w' ⟨rfl,rfl⟩
    exact ⟨rfl,h.used _,(Below.refl B w).setCell (p := ⟨b,0,none⟩) h.1 _⟩
  · refine (copyCheck_used b w h.cell0).mono ?_
    rintro e w' ⟨rfl,rfl⟩
    exact ⟨rfl,h,Below.refl B _⟩
theorem writeString_calls (B b : Nat) (bs : List Value) (s : ByteArray) (w : World) (h : Lib.IsBuilder 54 5 B b bs w) (hlen : bs.length + s.size ≤ 140737488355328) (hBw : B ≤ w.heap.size) :
    Calls Tryz.prog 31 #[.pointer (some ⟨b,0,none⟩),.string s] w fun e w' => e = .returned (.tuple #[.int .i64 s.size,.nilIface]) ∧ (Lib.BuilderAt 54 5 B b (.pointer (some ⟨b,0,none⟩)) (bs ++ Lib.strCells s) w' ∧ Below B w w') := by
  obtain ⟨i0,hi,hzz⟩ := Option.map_eq_some_iff.1 infoByte
  simp only [Prod.mk.injEq] at hzz
  obtain ⟨hz0,hz1,hz2⟩ := hzz
  go_enter Tryz.func31,Tryz.ntmps31
  go_wp2_with (go_at_call 51;refine (copyCheck_calls B b bs _ h).mono ?_)
  rintro e w1 ⟨rfl,h1,hb1⟩
  obtain ⟨hB,v,hbk,hown,hne⟩ := h1
  have c0 : w1.cell? ⟨b,0,none⟩ = some (.pointer (some ⟨b,0,none⟩)) := by rw [Lib.cell_of_heap hbk];rfl
  have c1 : w1.cell? ⟨b,1,none⟩ = some v := by rw [Lib.cell_of_heap hbk];rfl
  go_wp2_with (at_builtin;refine Lib.wpList_append_own_string _ rfl _ _ 22 9 rfl B 5 i0 Tryz.underlying22 Tryz.underlying9 hi hz0 hz1 hz2 _ _ _ rfl hown s rfl ?c3 ?c4 ?c5 ?_)
  case c3 => unfold maxLen;omega
  case c4 => omega
  case c5 => have := hb1.size;omega
  intro v' w2 hown' hgrow _
  have hlt : b < w1.heap.size := by
    rcases Nat.lt_or_ge b w1.heap.size with h' | h'
    · exact h'
    · simp [Array.getElem?_eq_none h'] at hbk
  have hb2 : w2.heap[b]? = some (.cells #[.pointer (some ⟨b,0,none⟩),v] 54 (0,0)) := by
    rw [hgrow.block b hlt (fun e => hne e.symm)]
    exact hbk
  have d0 : w2.cell? ⟨b,0,none⟩ = some (.pointer (some ⟨b,0,none⟩)) := by rw [Lib.cell_of_heap hb2];rfl
  have d1 : w2.cell? ⟨b,1,none⟩ = some v := by rw [Lib.cell_of_heap hb2];rfl
  have f1 : w2.frozen? ⟨b,1,none⟩ = false := Lib.frozen_of_heap hb2 1
  obtain ⟨ao,n',cap,rfl⟩ : ∃ ao n' cap,v' = .slice ao n' cap := by
    rcases hown'.2 with ⟨hv,_⟩ | ⟨g,cap,cur,hv,_⟩
    · exact ⟨_,_,_,hv⟩
    · exact ⟨_,_,_,hv⟩
  go_wp2
  go_ret2
  refine ⟨rfl,?_,?_⟩
  · exact Lib.BuilderAt.put (T := 54) (e := 5) hB hb2 (bs' := bs ++ Lib.strCells s) (by simpa [Lib.strCells_length] using hown') (by decide)
  · exact (hb1.grown hgrow (by have := hb1.size;omega) (fun k hk => (hown.lt k hk).1)).setCell (p := ⟨b,1,none⟩) hB _
theorem IsB.keep {b : Nat} {l : List UInt8} {w w' : World} (h : IsB b l w) (k : Keep Any w w') : IsB b l w' := by
  have key : ∀ p,Lib.BuilderAt 54 5 b b p (Lib.byteCells l) w → Lib.BuilderAt 54 5 b b p (Lib.byteCells l) w' := by
    rintro p ⟨hB,v,hb,hown,hne⟩
    exact ⟨hB,v,blk_keep k hb trivial,hown.kept (row := none) (k.grownBy0 none) (by cases hv : v.ownBlock with | none => exact .inl rfl | some g => exact .inr (by simp)),hne⟩
  rcases h with h | h
  · exact .inl (key _ h)
  · exact .inr (key _ h)
theorem IsB.made (w : World) : IsB w.heap.size [] (w.alloc (.cells #[.pointer none,.slice none 0 0] 54 (0,0))) :=
  .inl ⟨Nat.le_refl _,_,blk_new _ _,⟨by simp,.inl ⟨rfl,rfl⟩⟩,by simp [Value.ownBlock]⟩
theorem IsB.lt {b : Nat} {l : List UInt8} {w : World} (h : IsB b l w) : b < w.heap.size := by
  rcases h with h | h
  · exact h.lt
  · exact h.lt
theorem write_calls (b : Nat) (l : List UInt8) (s : ByteArray) (w : World) (h : IsB b l w) (hlen : l.length + s.size ≤ 140737488355328) :
    Calls Tryz.prog 31 #[.pointer (some ⟨b,0,none⟩),.string s] w fun e w' => e = .returned (.tuple #[.int .i64 s.size,.nilIface]) ∧ IsB b (l ++ s.data.toList) w' ∧ Keep (fun k => k < b) w w' := by
  refine (writeString_calls b b _ s w h (by simpa [Lib.byteCells_length] using hlen) (by have := h.lt;omega)).mono ?_
  rintro e w' ⟨rfl,h1,hb⟩
  refine ⟨rfl,.inr ?_,⟨hb.os,hb.tape,hb.output,hb.size,fun k _ hk => hb.block k hk⟩⟩
  have e1 : Lib.byteCells (l ++ s.data.toList) = Lib.byteCells l ++ Lib.strCells s := by simp [Lib.byteCells,Lib.strCells]
  rw [e1]
  exact h1

/- The laws' comparison of values (asValue): of two that hold the same it says yes. -/
set_option maxRecDepth 20000

def AsVal (v : V) : Prop := ∀ (a c a' c' : _) (w : World),VR w Any v [.int .i64 v.kind,.int .i64 v.num,.string v.text,.slice a v.list.length c] → VR w Any v [.int .i64 v.kind,.int .i64 v.num,.string v.text,.slice a' v.list.length c'] →
  Calls Tryz.prog 59 #[.agg #[.int .i64 v.kind,.int .i64 v.num,.string v.text,.slice a v.list.length c],.agg #[.int .i64 v.kind,.int .i64 v.num,.string v.text,.slice a' v.list.length c']] w (Tells true w)
theorem asVal_of (v : V) (ih : ∀ x,x ∈ v.list → AsVal x) : AsVal v := by
  intro a c a' c' w hv hu
  obtain ⟨s,e1,h1,h2,h3,hs⟩ := VR.iff.1 hv
  obtain ⟨t,e2,_,_,_,ht⟩ := VR.iff.1 hu
  simp only [List.cons.injEq,and_true,true_and] at e1 e2
  subst e1 e2
  have HS := hyd hs
  have HT := hyd ht
  have IH := hyd ih
  obtain ⟨_,_,_,hc,hm,_⟩ := hs
  have hlm : v.list.length ≤ 9223372036854775807 := by omega
  clear hv hu ih ht hc hm
  have b1 : (v.kind != v.kind) = false := by simp
  have b2 : (v.num != v.num) = false := by simp
  have b3 : (v.text.toList != v.text.toList) = false := by simp
  have b4 : (((v.list.length : Nat) : Int) != ((v.list.length : Nat) : Int)) = false := by simp
  go_enter Tryz.func59,Tryz.ntmps59
  go_wp2
  go_loopg [5] (v.list.length + 1) (fun g i wr => ∃ k : Nat,k ≤ v.list.length ∧ i = .int .i64 k ∧ g = v.list.length + 1 - k ∧ Keep Any ((w.alloc (.cells #[.int .i64 v.kind,.int .i64 v.num,.string v.text,.slice a v.list.length c] 62 (0,0))).alloc (.cells #[.int .i64 v.kind,.int .i64 v.num,.string v.text,.slice a' v.list.length c'] 62 (0,0))) wr)
  case atStart => exact ⟨0,by omega,rfl,rfl,Keep.refl _ _⟩
  case round =>
    obtain ⟨k,hk,rfl,hg,hK⟩ := hrel
    have HG := hyd hg
    clear hg
    have KW := hyd ((((Keep.refl Any w).alloc _).alloc _).trans hK)
    have bA := blk_keep hK (blk_alloc (blk_new w _) _) trivial
    have bB := blk_keep hK (blk_new _ _) trivial
    rw [World.size_alloc] at bB
    have y3 := (blk_cell bA 3).trans rfl
    have x3 := (blk_cell bB 3).trans rfl
    have z1 := blk_lt bA
    have z2 := blk_lt bB
    clear bA bB
    by_cases hlt : k < v.list.length
    · have hx : v.list[k]? = some v.list[k] := List.getElem?_eq_getElem hlt
      have IX := hyd (IH.out _ (List.mem_of_getElem? hx))
      obtain ⟨ad,sa,sc,rfl,hvx,c0,c1,c2,c3⟩ := vals_at HS.out KW.out hx
      obtain ⟨ad',sa',sc',rfl,hux,d0,d1,d2,d3⟩ := vals_at HT.out KW.out hx
      generalize v.list[k] = x at *
      have HV := hyd hvx
      have HU := hyd hux
      have HK := hyd hK
      have k0 : (0 : Int) ≤ (k : Int) := by omega
      have k1 : (k : Int) < (v.list.length : Int) := by omega
      clear hx hvx hux hK
      go_wp2
      go_still_tail 10,(by kernel_rfl)
      change wpList _ _ _ _ _ wr.drew
      go_wp2_with (go_at_call 59;refine (IX.out _ _ _ _ _ (HV.out.keep ((Keep.refl _ _).drew)) (HU.out.keep ((Keep.refl _ _).drew))).mono ?_;rintro e w2 ⟨rfl,hK2⟩)
      go_roundg (gk - 1)
      case rel => exact ⟨k + 1,by omega,by go_num,by have := HG.out;omega,HK.out.drew.trans hK2⟩
      case measure => have := HG.out;omega
    · go_wp2
      go_ret
      exact ⟨rfl,KW.out⟩
theorem asVal_all (n : Nat) : ∀ v : V,v.w = n → AsVal v := by
  induction n using Nat.strongRecOn with
  | _ n ih => exact fun v hv => asVal_of v (fun x hx => by
      obtain ⟨j,hj,rfl⟩ := List.getElem_of_mem hx
      exact ih _ (hv ▸ V.w_lt (List.getElem?_eq_getElem hj)) _ rfl)

/- The laws' comparison asMsg of two messages that hold the same. -/
set_option maxRecDepth 20000
set_option maxHeartbeats 1000000
theorem asRow_calls (l : List Ce) (s t : Value) (w : World) (hs : Ces w Any s l) (ht : Ces w Any t l) :
    Calls Tryz.prog 39 #[s,t] w (Tells true w) := by
  have HS := hyd hs
  have HT := hyd ht
  obtain ⟨ad,c,rfl,hc,hm,_⟩ := hs
  obtain ⟨ad',c',rfl,hc',hm',_⟩ := ht
  have hl : (((l.length : Nat) : Int) != ((l.length : Nat) : Int)) = false := by simp
  go_enter Tryz.func39,Tryz.ntmps39
  go_wp2
  go_loopg [5] (l.length + 1) (fun g i wr => ∃ k : Nat,k ≤ l.length ∧ i = .int .i64 k ∧ g = l.length + 1 - k ∧ Keep Any w wr)
  case atStart => exact ⟨0,by omega,rfl,rfl,Keep.refl _ _⟩
  case round =>
    obtain ⟨k,hk,rfl,hg,hK⟩ := hrel
    have HG := hyd hg
    clear hg
    by_cases hlt : k < l.length
    · have hx : l[k]? = some l[k] := List.getElem?_eq_getElem hlt
      obtain ⟨ad,sa,sc,rfl,_,hvx,c0,c1,c2,c3,c4⟩ := ces_at HS.out hK hx
      obtain ⟨ad',sa',sc',rfl,_,hux,d0,d1,d2,d3,d4⟩ := ces_at HT.out hK hx
      generalize l[k] = x at *
      have HV := hyd hvx
      have HU := hyd hux
      have HK := hyd hK
      have k0 : (0 : Int) ≤ (k : Int) := by omega
      have k1 : (k : Int) < (l.length : Int) := by omega
      have b1 : (x.name.toList != x.name.toList) = false := by simp
      have b2 : (!(x.name.toList == x.name.toList)) = false := by simp
      clear hx hvx hux hK
      go_wp2
      go_still_tail 22,(by kernel_rfl)
      change wpList _ _ _ _ _ wr.drew
      go_wp2_with (go_at_call 59;refine (asVal_all _ x.val rfl _ _ _ _ _ (HV.out.keep ((Keep.refl _ _).drew)) (HU.out.keep ((Keep.refl _ _).drew))).mono ?_;rintro e w2 ⟨rfl,hK2⟩)
      go_roundg (gk - 1)
      case rel => exact ⟨k + 1,by omega,by go_num,by have := HG.out;omega,HK.out.drew.trans hK2⟩
      case measure => have := HG.out;omega
    · go_wp2
      go_ret
      exact ⟨rfl,hK⟩
theorem asMsg_calls (m : Ms) (cs ds : List Value) (w : World) (hr : MR w Any m cs) (hq : MR w Any m ds) :
    Calls Tryz.prog 16 #[.agg cs.toArray,.agg ds.toArray] w (Tells true w) := by
  obtain ⟨s1,rfl,h1,h2,h3,h4⟩ := hr
  obtain ⟨t1,rfl,_,_,_,g4⟩ := hq
  have H4 := hyd h4
  have G4 := hyd g4
  clear h4 g4
  have b1 : (m.kind == m.kind) = true := by simp
  have b2 : (m.num == m.num) = true := by simp
  have b3 : (m.text.toList == m.text.toList) = true := by simp
  go_enter Tryz.func16,Tryz.ntmps16
  go_wp2_with (go_at_call 39;refine (asRow_calls m.given _ _ _ (Ces.keep H4.out (((Keep.refl _ _).alloc _).alloc _)) (Ces.keep G4.out (((Keep.refl _ _).alloc _).alloc _))).mono ?_;rintro e w2 ⟨rfl,hK⟩;obtain ⟨hc,hf⟩ := hK.cells;have z0 : w.heap.size < w2.heap.size := (by have := hK.size;simp at this;omega);have z1 : w.heap.size + 1 < w2.heap.size := (by have := hK.size;simp at this;omega))
  go_ret
  exact ⟨rfl,(((Keep.refl _ _).alloc _).alloc _).trans hK⟩
end Go.Proofs.YtjopkcjpedgoaaaGreatDoor

/- A value's text: the reference's l1Put. For every value that is ok. -/
import Derived.Test.YtjopkcjpedgoaaaGreatDoorMC1
/- A value's text: the reference's l1Put. For every value that is ok. -/
namespace Go.Proofs.YtjopkcjpedgoaaaGreatDoor
open Go.RowKit
set_option linter.unusedVariables false
set_option linter.unusedSimpArgs false
set_option maxRecDepth 20000
def L1Put (d : Nat) : Prop := ∀ (v : V) (cs : List Value) (w : World),VR w Any v cs → okV d v = true → Calls Tryz.prog 76 #[.agg cs.toArray] w (Str v.put w)
theorem slit_app (a : UInt8) (l : List UInt8) : (⟨#[a]⟩ : ByteArray) ++ ⟨l.toArray⟩ = ⟨(a :: l).toArray⟩ := by
  apply ByteArray.ext
  simp [ByteArray.data_append]
theorem squo_app (t : ByteArray) : (⟨#[39]⟩ : ByteArray) ++ t ++ ⟨#[39]⟩ = ⟨(39 :: (t.data.toList ++ [39])).toArray⟩ := by
  apply ByteArray.ext
  simp [ByteArray.data_append]
theorem outV_step0 {l : List V} {x : V} (h : l[0]? = some x) : (⟨(outV l 0).toArray⟩ : ByteArray) ++ ⟨x.put.toArray⟩ = ⟨(outV l 1).toArray⟩ := by
  rw [outV_succ h];simp [outV,Lib.join_nil];exact slit_app _ _
theorem outV_step {l : List V} {k : Nat} {x : V} (h : l[k]? = some x) (hk : 0 < k) : (⟨(outV l k).toArray⟩ : ByteArray) ++ ⟨#[44,32]⟩ ++ ⟨x.put.toArray⟩ = ⟨(outV l (k + 1)).toArray⟩ := by
  rw [outV_succ h,if_neg (by omega),← bytes_app,← bytes_app]
theorem outV_end (l : List V) : (⟨(outV l l.length).toArray⟩ : ByteArray) ++ ⟨#[93]⟩ = ⟨(rowTxt l).toArray⟩ := by
  rw [← outV_all,← bytes_app]
theorem l1Put_list (d : Nat) (hd : d ≤ 3) (ih : L1Put d) (num : Int) (text : ByteArray) (list : List V) (s : Value) (w : World) (hs : Vals w Any s list) (hl : list.length ≤ 6) (hok : ∀ x,x ∈ list → okV d x = true) :
    Calls Tryz.prog 76 #[.agg #[.int .i64 4,.int .i64 num,.string text,s]] w (Str (rowTxt list) w) := by
  have HS := hyd hs
  have HOK := hyd hok
  have IH := hyd ih
  clear ih hok
  obtain ⟨ad,c,rfl,hc,hm,_⟩ := hs
  have hz : (⟨#[91]⟩ : ByteArray) = ⟨(outV list 0).toArray⟩ := by simp [outV,Lib.join_nil]
  go_enter Tryz.func76,Tryz.ntmps76
  go_wp2
  go_loopg [3,4] (list.length + 1) (fun g o i wr => ∃ k : Nat,k ≤ list.length ∧ o = .string ⟨(outV list k).toArray⟩ ∧ i = .int .i64 k ∧ g = list.length + 1 - k ∧ wr.heap[w.heap.size]? = some (.cells #[.int .i64 4,.int .i64 num,.string text,.slice ad list.length c] 62 (0,0)) ∧ Keep Any w wr)
  case atStart => exact ⟨0,by omega,by rw [← hz],rfl,rfl,blk_new _ _,(Keep.refl _ _).alloc _⟩
  case round =>
    obtain ⟨k,hk,rfl,rfl,hg,hB,hK⟩ := hrel
    have HG := hyd hg
    have x3 := blk_cell hB 3
    simp only [List.getElem?_toArray,List.getElem?_cons_succ,List.getElem?_cons_zero] at x3
    have HB := hyd hB
    have hlen := outV_len (k := k) (b := 1000000) (l := list) (fun x hx => put_len3 (HOK.out x hx) hd) hl
    have hlen : (outV list k).length ≤ 10000000 := by omega
    clear hg hz hB
    by_cases hlt : k < list.length
    · have hx : list[k]? = some list[k] := List.getElem?_eq_getElem hlt
      have HX := hyd hx
      obtain ⟨ad,sa,sc,rfl,hvx,c0,c1,c2,c3⟩ := vals_at HS.out hK hx
      have hpl : list[k].put.length ≤ 1000000 := put_len3 (HOK.out _ (List.mem_of_getElem? hx)) hd
      generalize list[k] = x at *
      have HV := hyd hvx
      have HO := hyd (HOK.out x (List.mem_of_getElem? HX.out))
      clear hx hvx
      by_cases h0 : k = 0
      · have H0 := hyd h0
        have h0' : ¬ 0 < k := by omega
        clear h0
        go_wp2_with (go_at_call 76;refine (IH.out _ _ _ HV.out HO.out).mono ?_;rintro e w2 ⟨rfl,hK2⟩)
        go_roundg (gk - 1)
        case rel => exact ⟨k + 1,by omega,by have hx := HX.out;obtain rfl : k = 0 := H0.out;exact congrArg Value.string (outV_step0 hx),by go_num,by have := HG.out;omega,blk_keep hK2 HB.out trivial,hK.trans hK2⟩
        case measure => have := HG.out;omega
      · have hp : 0 < k := by omega
        go_wp2_with (go_at_call 76;refine (IH.out _ _ _ HV.out HO.out).mono ?_;rintro e w2 ⟨rfl,hK2⟩)
        go_roundg (gk - 1)
        case rel => exact ⟨k + 1,by omega,congrArg Value.string (outV_step HX.out hp),by go_num,by have := HG.out;omega,blk_keep hK2 HB.out trivial,hK.trans hK2⟩
        case measure => have := HG.out;omega
    · obtain rfl : k = list.length := by omega
      go_wp2
      go_ret
      exact ⟨congrArg (fun s => Ending.returned (.string s)) (outV_end _),hK⟩
theorem l1Put_of (d : Nat) (hd : d + 1 ≤ 3) (ih : L1Put d) : L1Put (d + 1) := by
  intro v cs w hv hok
  obtain ⟨kind,num,text,list⟩ := v
  obtain ⟨s,rfl,h1,h2,h3,hs⟩ := VR.iff.1 hv
  by_cases e4 : kind = 4
  · subst e4
    obtain ⟨hl,ha⟩ := okV_list hok
    rw [put_list]
    exact l1Put_list d (by omega) ih num text list s w hs hl ha
  · obtain ⟨n0,n1⟩ := okV_num hok
    have n0 : -1000000000 ≤ num := n0
    have n1 : num ≤ 1000000000 := n1
    have hlen := itoa_len2 num n0 n1
    have IT := hyd fun w => l1Dec_calls num w (by omega) (by omega)
    have htx := okV_text hok
    have htx : kind = 3 → text.size ≤ 16 := htx
    clear hs ih hv hok
    by_cases e1 : kind = 1
    · subst e1
      by_cases hn : num = 1
      · subst hn
        go_enter Tryz.func76,Tryz.ntmps76
        go_wp2
        go_ret
        exact ⟨by simp [V.put],(Keep.refl _ _).alloc _⟩
      · go_enter Tryz.func76,Tryz.ntmps76
        go_wp2
        go_ret
        exact ⟨by simp [V.put,hn],(Keep.refl _ _).alloc _⟩
    · by_cases e3 : kind = 3
      · have hq := htx e3
        subst e3
        go_enter Tryz.func76,Tryz.ntmps76
        go_wp2
        go_ret
        exact ⟨by rw [V.put];exact congrArg (fun s => Ending.returned (.string s)) (squo_app _),(Keep.refl _ _).alloc _⟩
      · clear htx
        by_cases e2 : kind = 2
        · subst e2
          go_enter Tryz.func76,Tryz.ntmps76
          go_wp2_with (go_at_call 24;refine (IT.out _).mono ?_;rintro e w2 ⟨rfl,hK2⟩)
          go_ret
          exact ⟨by rw [V.put];rfl,((Keep.refl _ _).alloc _).trans hK2⟩
        · by_cases e5 : kind = 5
          · subst e5
            go_enter Tryz.func76,Tryz.ntmps76
            go_wp2_with (go_at_call 24;refine (IT.out _).mono ?_;rintro e w2 ⟨rfl,hK2⟩)
            go_ret
            exact ⟨by rw [V.put];exact congrArg (fun s => Ending.returned (.string s)) (slit_app _ _),((Keep.refl _ _).alloc _).trans hK2⟩
          · by_cases e6 : kind = 6
            · subst e6
              go_enter Tryz.func76,Tryz.ntmps76
              go_wp2_with (go_at_call 24;refine (IT.out _).mono ?_;rintro e w2 ⟨rfl,hK2⟩)
              go_ret
              exact ⟨by rw [V.put];exact congrArg (fun s => Ending.returned (.string s)) (slit_app _ _),((Keep.refl _ _).alloc _).trans hK2⟩
            · go_enter Tryz.func76,Tryz.ntmps76
              go_wp2
              go_ret
              exact ⟨by rw [V.put,if_neg e1,if_neg e2,if_neg e3,if_neg e4,if_neg e5,if_neg e6];rfl,(Keep.refl _ _).alloc _⟩
theorem l1Put_all : ∀ d,d ≤ 3 → L1Put d
  | 0,_ => fun v cs w _ h => by simp [okV] at h
  | d + 1,h => l1Put_of d h (l1Put_all d (by omega))
theorem l1Put_calls : L1Put 3 := l1Put_all 3 (by omega)
end Go.Proofs.YtjopkcjpedgoaaaGreatDoor

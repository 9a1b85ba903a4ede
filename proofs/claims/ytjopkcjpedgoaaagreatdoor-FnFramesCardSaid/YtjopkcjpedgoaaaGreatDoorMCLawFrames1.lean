/- What the program's FrameGet computes. For every text of at most 2^62 bytes. -/
import Derived.Test.YtjopkcjpedgoaaaGreatDoorMC0
/- What the program's FrameGet computes. For every text of at most 2^62 bytes. -/
namespace Go.Proofs.YtjopkcjpedgoaaaGreatDoor
open Go.RowKit
set_option linter.unusedVariables false

def Fr (w : World) (b : Nat) (t : ByteArray) (a s : Int) (bd : ByteArray) (l : Int) : Prop :=
  w.heap[b]? = some (.cells #[.string t,.int .i64 a,.int .i64 s,.string bd,.int .i64 l] 45 (0,0))

def lookV : Nat → Value
  | 0 => .nilFunc
  | 1 => .func (.func 25) #[] #[]
  | 2 => .func (.func 48) #[] #[]
  | _ => .func (.func 65) #[] #[]
def St (t : ByteArray) (b u m : Nat) (w : World) : Prop :=
  (u = 0 ∧ ∃ (a s : Int) (bd : ByteArray) (l : Int),Fr w b t a s bd l ∧ frameGet t = (bd,l)) ∨
  (∃ (a s : Nat),Fr w b t a s ⟨#[]⟩ 0 ∧ a ≤ t.size ∧ s ≤ 6000 ∧
    ((u = 1 ∧ a = 0 ∧ s = 0 ∧ t.size + 3 < m) ∨ (u = 2 ∧ frameGet t = frMore t a s ∧ t.size - a + 2 < m) ∨ (u = 3 ∧ frameGet t = frBody t a s ∧ 1 < m)))
def Looked (t : ByteArray) (b m : Nat) (w : World) (e : Ending) (w' : World) : Prop := ∃ u,u ≤ 3 ∧ e = .returned (lookV u) ∧ St t b u (m - 1) w' ∧ Keep (But b) w w'
theorem keep_set1 (b : Nat) (w : World) (n i : Nat) (u : Value) : Keep (But b) w ((w.drewN n).setCell ⟨b,i,none⟩ u) := ((Keep.refl _ _).drewN n).set _ _ fun _ h => h rfl
theorem keep_set2 (b : Nat) (w : World) (n i j : Nat) (u v : Value) : Keep (But b) w (((w.drewN n).setCell ⟨b,i,none⟩ u).setCell ⟨b,j,none⟩ v) := (keep_set1 b w n i u).set _ _ fun _ h => h rfl

theorem keep_set3 (b : Nat) (w : World) (n i j k : Nat) (u v x : Value) : Keep (But b) w ((((w.drewN n).setCell ⟨b,i,none⟩ u).setCell ⟨b,j,none⟩ v).setCell ⟨b,k,none⟩ x) := (keep_set2 b w n i j u v).set _ _ fun _ h => h rfl
theorem St.body {t : ByteArray} {b m : Nat} {w : World} (h : St t b 3 m w) : ∃ a s : Nat,Fr w b t a s ⟨#[]⟩ 0 ∧ a ≤ t.size ∧ s ≤ 6000 ∧ frameGet t = frBody t a s ∧ 1 < m := by
  rcases h with ⟨h,_⟩ | ⟨a,s,h,ha,hs,⟨h3,_⟩ | ⟨h3,_⟩ | ⟨_,h4,h5⟩⟩ <;> first | omega | exact ⟨a,s,h,ha,hs,h4,h5⟩
theorem St.more {t : ByteArray} {b m : Nat} {w : World} (h : St t b 2 m w) : ∃ a s : Nat,Fr w b t a s ⟨#[]⟩ 0 ∧ a ≤ t.size ∧ s ≤ 6000 ∧ frameGet t = frMore t a s ∧ t.size - a + 2 < m := by
  rcases h with ⟨h,_⟩ | ⟨a,s,h,ha,hs,⟨h3,_⟩ | ⟨_,h4,h5⟩ | ⟨h3,_⟩⟩ <;> first | omega | exact ⟨a,s,h,ha,hs,h4,h5⟩
theorem St.one {t : ByteArray} {b m : Nat} {w : World} (h : St t b 1 m w) : Fr w b t 0 0 ⟨#[]⟩ 0 ∧ t.size + 3 < m := by
  rcases h with ⟨h,_⟩ | ⟨a,s,h,ha,hs,⟨_,h4,h5,h6⟩ | ⟨h3,_⟩ | ⟨h3,_⟩⟩ <;> first | omega | (subst h4 h5;exact ⟨h,h6⟩)
theorem St.pos {t : ByteArray} {b u m : Nat} {w : World} (h : St t b u m w) (hu : u ≠ 0) : 1 < m := by
  rcases h with ⟨h,_⟩ | ⟨a,s,_,_,_,h | h | h⟩ <;> omega
theorem frameBody_calls (b : Nat) (t : ByteArray) (m : Nat) (w : World) (h : St t b 3 m w) (ht : t.size ≤ 4611686018427387904) :
    Calls Tryz.prog 65 #[.pointer (some ⟨b,0,none⟩)] w (Looked t b m w) := by
  obtain ⟨a,s,h,ha,hs,hF,hm⟩ := h.body
  have HF := hyd hF
  have HT := hyd h
  clear hF
  have h0 : w.cell? ⟨b,0,none⟩ = some (.string t) := (blk_cell h 0).trans rfl
  have h1 : w.cell? ⟨b,1,none⟩ = some (.int .i64 a) := (blk_cell h 1).trans rfl
  have h2 : w.cell? ⟨b,2,none⟩ = some (.int .i64 s) := (blk_cell h 2).trans rfl
  have h3 : w.cell? ⟨b,3,none⟩ = some (.string ⟨#[]⟩) := (blk_cell h 3).trans rfl
  have h4 : w.cell? ⟨b,4,none⟩ = some (.int .i64 0) := (blk_cell h 4).trans rfl
  have f3 := blk_frozen h 3
  have f4 := blk_frozen h 4
  clear h
  by_cases c1 : t.size ≤ a + s
  · go_enter Tryz.func65,Tryz.ntmps65
    go_wp2
    go_quiet (fail)
    go_wp2
    go_ret
    exact ⟨0,by omega,rfl,.inl ⟨rfl,a,s,_,_,blk_set HT.out 4 _,by rw [HF.out];simp [frBody,c1]⟩,keep_set1 ..⟩
  · have q0 : (0 : Int) ≤ (a : Int) := by omega
    have q1 : (a : Int) ≤ (a : Int) + (s : Int) := by omega
    have q2 : (a : Int) + (s : Int) ≤ (t.size : Int) := by omega
    have e1 := at_eq t (a + s) (by omega)
    go_enter Tryz.func65,Tryz.ntmps65
    go_wp2
    go_quiet (fail)
    go_wp2
    · have hq : (((at_ t (a + s) : Nat) : Int) != 10) = true := by assumption
      go_ret
      exact ⟨0,by omega,rfl,.inl ⟨rfl,a,s,_,_,blk_set HT.out 4 _,by
        rw [HF.out];simp only [frBody];rw [if_neg c1,if_pos (by intro h;simp [h] at hq)]⟩,keep_set1 ..⟩
    · have hq : (((at_ t (a + s) : Nat) : Int) != 10) = false := by assumption
      go_region
      go_wp2
      go_ret
      exact ⟨0,by omega,rfl,.inl ⟨rfl,a,s,_,_,blk_set (blk_set HT.out 3 _) 4 _,by
        rw [HF.out];simp only [frBody];rw [if_neg c1,if_neg (by intro h;exact h (by simp at hq;omega))]⟩,keep_set2 ..⟩

theorem frameMore_calls (b : Nat) (t : ByteArray) (m : Nat) (w : World) (h : St t b 2 m w) (ht : t.size ≤ 4611686018427387904) :
    Calls Tryz.prog 48 #[.pointer (some ⟨b,0,none⟩)] w (Looked t b m w) := by
  obtain ⟨a,s,h,ha,hs,hF,hm⟩ := h.more
  have HF := hyd hF
  have HT := hyd h
  clear hF
  have h0 : w.cell? ⟨b,0,none⟩ = some (.string t) := (blk_cell h 0).trans rfl
  have h1 : w.cell? ⟨b,1,none⟩ = some (.int .i64 a) := (blk_cell h 1).trans rfl
  have h2 : w.cell? ⟨b,2,none⟩ = some (.int .i64 s) := (blk_cell h 2).trans rfl
  have h4 : w.cell? ⟨b,4,none⟩ = some (.int .i64 0) := (blk_cell h 4).trans rfl
  have f1 := blk_frozen h 1
  have f2 := blk_frozen h 2
  have f4 := blk_frozen h 4
  clear h
  by_cases c1 : a = t.size
  · have hd : (((a : Nat) : Int) == ((t.size : Nat) : Int)) = true := by simp [c1]
    have C1 := hyd c1
    clear c1
    go_enter Tryz.func48,Tryz.ntmps48
    go_wp2
    go_quiet (fail)
    go_wp2
    go_ret
    exact ⟨0,by omega,rfl,.inl ⟨rfl,a,s,_,_,blk_set HT.out 4 _,by rw [HF.out,frMore];simp [C1.out]⟩,keep_set1 ..⟩
  · have hd : (((a : Nat) : Int) == ((t.size : Nat) : Int)) = false := by simp;omega
    have q0 : (0 : Int) ≤ (a : Int) := by omega
    have q1 : (a : Int) < (t.size : Int) := by omega
    have e1 := at_eq t a (by omega)
    go_enter Tryz.func48,Tryz.ntmps48
    go_wp2
    go_quiet (fail)
    go_wp2
    go_quiet (fail)
    go_wp2
    · have g : (((at_ t a : Nat) : Int) == 58) = true := by assumption
      go_ret
      exact ⟨3,by omega,rfl,.inr ⟨a + 1,s,blk_set HT.out 1 _,by omega,hs,.inr (.inr ⟨rfl,by rw [HF.out,frMore_colon (by omega) (by simp at g;omega)],by omega⟩)⟩,keep_set1 ..⟩
    · have g : (((at_ t a : Nat) : Int) == 58) = false := by assumption
      have gs : (((s : Nat) : Int) == 0) = true := by assumption
      go_ret
      exact ⟨0,by omega,rfl,.inl ⟨rfl,_,_,_,_,blk_set (blk_set HT.out 1 _) 4 _,by rw [HF.out,frMore_bad (by omega) (by simp at g;omega) (.inr (by simp at gs;omega))]⟩,keep_set2 ..⟩
    · have gz : (((s : Nat) : Int) == 0) = false := by assumption
      have g0 : (48 : Int) ≤ ((at_ t a : Nat) : Int) := by assumption
      have g1 : ((at_ t a : Nat) : Int) ≤ (57 : Int) := by assumption
      have gs : (6000 : Int) < ((s : Nat) : Int) * 10 + (((at_ t a : Nat) : Int) - 48) := by assumption
      go_ret
      exact ⟨0,by omega,rfl,.inl ⟨rfl,_,_,_,_,blk_set (blk_set (blk_set HT.out 1 _) 2 _) 4 _,by rw [HF.out,frMore_big (by omega) (by omega) (by omega) (by simp at gz;omega) (by omega)]⟩,keep_set3 ..⟩
    · have gz : (((s : Nat) : Int) == 0) = false := by assumption
      have g0 : (48 : Int) ≤ ((at_ t a : Nat) : Int) := by assumption
      have g1 : ((at_ t a : Nat) : Int) ≤ (57 : Int) := by assumption
      have gs : ((s : Nat) : Int) * 10 + (((at_ t a : Nat) : Int) - 48) ≤ 6000 := by assumption
      have ge : ((s : Nat) : Int) * 10 + (((at_ t a : Nat) : Int) - 48) = ((s * 10 + (at_ t a - 48) : Nat) : Int) := by omega
      go_ret
      rw [ge]
      exact ⟨2,by omega,rfl,.inr ⟨a + 1,s * 10 + (at_ t a - 48),blk_set (blk_set HT.out 1 _) 2 _,by omega,by omega,.inr (.inl ⟨rfl,by rw [HF.out,frMore_go (by omega) (by omega) (by omega) (by simp at gz;omega) (by omega)],by omega⟩)⟩,keep_set2 ..⟩
    all_goals
      have g : (((at_ t a : Nat) : Int) == 58) = false := by assumption
      have gs : ((at_ t a : Nat) : Int) < 48 ∨ 57 < ((at_ t a : Nat) : Int) := by first | exact .inl (by assumption) | exact .inr (by assumption)
      go_ret
      exact ⟨0,by omega,rfl,.inl ⟨rfl,_,_,_,_,blk_set (blk_set HT.out 1 _) 4 _,by rw [HF.out,frMore_bad (by omega) (by simp at g;omega) (.inl (by omega))]⟩,keep_set2 ..⟩

theorem frameSize_calls (b : Nat) (t : ByteArray) (m : Nat) (w : World) (h : St t b 1 m w) (ht : t.size ≤ 4611686018427387904) :
    Calls Tryz.prog 25 #[.pointer (some ⟨b,0,none⟩)] w (Looked t b m w) := by
  obtain ⟨h,hm⟩ := h.one
  have HT := hyd h
  have h0 : w.cell? ⟨b,0,none⟩ = some (.string t) := (blk_cell h 0).trans rfl
  have h1 : w.cell? ⟨b,1,none⟩ = some (.int .i64 0) := (blk_cell h 1).trans rfl
  have h2 : w.cell? ⟨b,2,none⟩ = some (.int .i64 0) := (blk_cell h 2).trans rfl
  have h4 : w.cell? ⟨b,4,none⟩ = some (.int .i64 0) := (blk_cell h 4).trans rfl
  have f1 := blk_frozen h 1
  have f2 := blk_frozen h 2
  have f4 := blk_frozen h 4
  clear h
  by_cases c1 : t.size = 0
  · have hd : (t.toList == ([] : List UInt8)) = true := empty_true t c1
    have C1 := hyd c1
    clear c1
    go_enter Tryz.func25,Tryz.ntmps25
    go_wp2
    go_ret
    exact ⟨0,by omega,rfl,.inl ⟨rfl,_,_,_,_,blk_set HT.out 4 _,by simp [frameGet,C1.out]⟩,(Keep.refl _ _).set _ _ fun _ h => h rfl⟩
  · have hd : (t.toList == ([] : List UInt8)) = false := empty_false t c1
    have q1 : 0 < t.size := by omega
    have e1 := at_eq t 0 (by omega)
    go_enter Tryz.func25,Tryz.ntmps25
    go_wp2
    · have g0 : (48 : Int) ≤ ((at_ t 0 : Nat) : Int) := by assumption
      have g1 : (!decide (((at_ t 0 : Nat) : Int) ≤ (57 : Int))) = true := by assumption
      go_ret
      exact ⟨0,by omega,rfl,.inl ⟨rfl,_,_,_,_,blk_set HT.out 4 _,by simp at g1;simp only [frameGet];rw [if_neg c1,if_pos (by simp [fig];omega)]⟩,(Keep.refl _ _).set _ _ fun _ h => h rfl⟩
    · have g0 : (48 : Int) ≤ ((at_ t 0 : Nat) : Int) := by assumption
      have g1 : (!decide (((at_ t 0 : Nat) : Int) ≤ (57 : Int))) = false := by assumption
      have ge : (((at_ t 0 : Nat) : Int) - 48) % 256 = ((at_ t 0 - 48 : Nat) : Int) := by simp at g1;omega
      go_ret
      rw [ge]
      exact ⟨2,by omega,rfl,.inr ⟨1,at_ t 0 - 48,blk_set (blk_set HT.out 2 _) 1 _,by omega,by simp at g1;omega,.inr (.inl ⟨rfl,by simp at g1;simp only [frameGet];rw [if_neg c1,if_neg (by simp [fig];omega)],by omega⟩)⟩,((Keep.refl _ _).set _ _ fun _ h => h rfl).set _ _ fun _ h => h rfl⟩
    · have g0 : ((at_ t 0 : Nat) : Int) < 48 := by assumption
      go_ret
      exact ⟨0,by omega,rfl,.inl ⟨rfl,_,_,_,_,blk_set HT.out 4 _,by simp only [frameGet];rw [if_neg c1,if_pos (by simp [fig];omega)]⟩,(Keep.refl _ _).set _ _ fun _ h => h rfl⟩

theorem look_nil (w : World) : (binOp BinOp.neq 47 Value.nilFunc Value.nilFunc).run Tryz.prog w = .ok (.bool false) w := by kernel_rfl
theorem look_func (w : World) (f : Nat) : (binOp BinOp.neq 47 (.func (.func f) #[] #[]) Value.nilFunc).run Tryz.prog w = .ok (.bool true) w := by kernel_rfl
def GotFrame (t : ByteArray) (w : World) (e : Ending) (w' : World) : Prop := e = .returned (.tuple #[.string (frameGet t).1,.int .i64 (frameGet t).2]) ∧ Keep Any w w'
theorem frameGet_calls (t : ByteArray) (w : World) (ht : t.size ≤ 4611686018427387904) :
    Calls Tryz.prog 9 #[.string t] w (GotFrame t w) := by
  go_enter Tryz.func9,Tryz.ntmps9
  go_wp2
  go_loopg [5] (t.size + 4) (fun k v wr => ∃ u,u ≤ 3 ∧ v = lookV u ∧ St t w.heap.size u k wr ∧ Keep Any w wr)
  case atStart => exact ⟨1,by omega,rfl,.inr ⟨0,0,blk_new _ _,by omega,by omega,.inl ⟨rfl,rfl,rfl,by omega⟩⟩,(Keep.refl _ _).alloc _⟩
  case round =>
    have qn := look_nil
    have qf := look_func
    obtain ⟨u,hu,rfl,hS0,hK⟩ := hrel
    have hS := hyd hS0
    rcases (show u = 0 ∨ u = 1 ∨ u = 2 ∨ u = 3 by omega) with rfl | rfl | rfl | rfl
    · rcases hS0 with ⟨_,a,s,bd,l,h,hf⟩ | ⟨a,s,h,_,_,h3⟩
      · have h3 : wr.cell? ⟨w.heap.size,3,none⟩ = some (.string bd) := (blk_cell h 3).trans rfl
        have h4 : wr.cell? ⟨w.heap.size,4,none⟩ = some (.int .i64 l) := (blk_cell h 4).trans rfl
        have HF := hyd hf
        clear hf h
        simp only [lookV]
        go_wp2
        go_quiet (fail)
        go_wp2
        go_ret2
        exact ⟨by rw [HF.out];rfl,hK.drewN _⟩
      · omega
    all_goals (clear hS0;simp only [lookV])
    · go_wp2_with (go_at_call 25;refine (frameSize_calls _ _ _ _ hS.out ht).mono ?_;rintro e w1 ⟨u1,hu1,rfl,hS1,hK1⟩;have HS1 := hyd hS1;clear hS1)
      go_roundg (gk - 1)
      case rel => exact ⟨u1,hu1,rfl,HS1.out,hK.then hK1 fun i hi _ => by show i ≠ _;omega⟩
      case measure => have := St.pos hS.out (by omega);omega
    · go_wp2_with (go_at_call 48;refine (frameMore_calls _ _ _ _ hS.out ht).mono ?_;rintro e w1 ⟨u1,hu1,rfl,hS1,hK1⟩;have HS1 := hyd hS1;clear hS1)
      go_roundg (gk - 1)
      case rel => exact ⟨u1,hu1,rfl,HS1.out,hK.then hK1 fun i hi _ => by show i ≠ _;omega⟩
      case measure => have := St.pos hS.out (by omega);omega
    · go_wp2_with (go_at_call 65;refine (frameBody_calls _ _ _ _ hS.out ht).mono ?_;rintro e w1 ⟨u1,hu1,rfl,hS1,hK1⟩;have HS1 := hyd hS1;clear hS1)
      go_roundg (gk - 1)
      case rel => exact ⟨u1,hu1,rfl,HS1.out,hK.then hK1 fun i hi _ => by show i ≠ _;omega⟩
      case measure => have := St.pos hS.out (by omega);omega
end Go.Proofs.YtjopkcjpedgoaaaGreatDoor

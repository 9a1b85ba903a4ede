/- A plain value drawn: one that is ok. -/
import Derived.Test.YtjopkcjpedgoaaaGreatDoorMG20
/- A plain value drawn: one that is ok. -/
namespace Go.Proofs.YtjopkcjpedgoaaaGreatDoor
open Go.RowKit
set_option linter.unusedVariables false
set_option linter.unusedSimpArgs false
set_option maxRecDepth 20000
def t16 : ByteArray := ⟨#[116,116,116,116,116,116,116,116,116,116,116,116,116,116,116,116]⟩
def manyAt : Nat → ByteArray × Nat × ByteArray
  | 0 => (⟨#[116]⟩,16,⟨#[]⟩)
  | 1 => (⟨#[116,116]⟩,8,⟨#[]⟩)
  | 2 => (⟨#[116,116,116,116]⟩,4,⟨#[]⟩)
  | 3 => (⟨#[116,116,116,116,116,116,116,116]⟩,2,⟨#[]⟩)
  | 4 => (⟨#[116,116,116,116,116,116,116,116,116,116,116,116,116,116,116,116]⟩,1,⟨#[]⟩)
  | _ => (⟨#[116,116,116,116,116,116,116,116,116,116,116,116,116,116,116,116,116,116,116,116,116,116,116,116,116,116,116,116,116,116,116,116]⟩,0,⟨#[116,116,116,116,116,116,116,116,116,116,116,116,116,116,116,116]⟩)
theorem l1Many16_calls (w : World) : Calls Tryz.prog 21 #[.string ⟨#[116]⟩,.int .i64 16] w fun e w' => e = .returned (.string t16) ∧ Keep Any w w' := by
  go_enter Tryz.func21,Tryz.ntmps21
  go_wp2
  go_loopg [0,1,5] 6 (fun g x y z wr => ∃ i,i ≤ 5 ∧ x = .string (manyAt i).1 ∧ y = .int .i64 (manyAt i).2.1 ∧ z = .string (manyAt i).2.2 ∧ g = 6 - i ∧ wr = w)
  case atStart => exact ⟨0,by omega,rfl,rfl,rfl,rfl,rfl⟩
  case round =>
    obtain ⟨i,hi,rfl,rfl,rfl,hg,rfl⟩ := hrel
    have HG := hyd hg
    clear hg
    obtain rfl | rfl | rfl | rfl | rfl | rfl : i = 0 ∨ i = 1 ∨ i = 2 ∨ i = 3 ∨ i = 4 ∨ i = 5 := by omega
    · simp only [manyAt]
      go_wp2
      go_roundg (gk - 1)
      case rel => exact ⟨1,by omega,rfl,rfl,rfl,by have := HG.out;omega,rfl⟩
      case measure => have := HG.out;omega
    · simp only [manyAt]
      go_wp2
      go_roundg (gk - 1)
      case rel => exact ⟨2,by omega,rfl,rfl,rfl,by have := HG.out;omega,rfl⟩
      case measure => have := HG.out;omega
    · simp only [manyAt]
      go_wp2
      go_roundg (gk - 1)
      case rel => exact ⟨3,by omega,rfl,rfl,rfl,by have := HG.out;omega,rfl⟩
      case measure => have := HG.out;omega
    · simp only [manyAt]
      go_wp2
      go_roundg (gk - 1)
      case rel => exact ⟨4,by omega,rfl,rfl,rfl,by have := HG.out;omega,rfl⟩
      case measure => have := HG.out;omega
    · simp only [manyAt]
      go_wp2
      go_roundg (gk - 1)
      case rel => exact ⟨5,by omega,rfl,rfl,rfl,by have := HG.out;omega,rfl⟩
      case measure => have := HG.out;omega
    · simp only [manyAt]
      go_wp2
      go_ret
      exact ⟨rfl,Keep.refl _ _⟩
def DrawnO (d c : Nat) (w : World) (b : Nat) (s : Value) (n p : Nat) (e : Ending) (w' : World) : Prop :=
  ∃ (v : V) (a : Option Addr) (m : Nat) (p' : Nat),okV (d + 1) v = true ∧ e = .returned (.agg #[.int .i64 v.kind,.int .i64 v.num,.string v.text,.slice a v.list.length m]) ∧ SV w' (Mid w.heap.size w'.heap.size) v [.int .i64 v.kind,.int .i64 v.num,.string v.text,.slice a v.list.length m] ∧
    p ≤ p' ∧ p' ≤ p + c ∧ Rdr w' b s n p' ∧ Keep (But b) w w'
def PlainO (d : Nat) : Prop := ∀ (w : World) (b : Nat) (s : Value) (n p : Nat),Rdr w b s n p → n ≤ 2000 → p + cost d ≤ 1000000 → Calls Tryz.prog 101 #[.pointer (some ⟨b,0,none⟩),.int .i64 d] w (DrawnO d (cost d) w b s n p)
theorem okV_acc {d d1 : Nat} {acc : List V} (h : d = d1 + 1) (hl : acc.length ≤ 3) (ho : ∀ x,x ∈ acc → okV (d1 + 1) x = true) : okV (d + 1) ⟨4,0,⟨#[]⟩,acc⟩ = true := by
  subst h
  have h1 : acc.all (okV (d1 + 1)) = true := List.all_eq_true.2 ho
  have h2 : decide ((acc.length : Int) ≤ 6) = true := decide_eq_true (by omega)
  rw [okV]
  simp only [h1,h2]
  have h3 : ((⟨#[]⟩ : ByteArray).toList == ([] : List UInt8)) = true := by simp
  simp only [h3]
  simp
theorem okV_bool {d : Nat} {z : Int} (h0 : 0 ≤ z) (h1 : z ≤ 1) : okV (d + 1) ⟨1,z,⟨#[]⟩,[]⟩ = true := by
  obtain rfl | rfl : z = 0 ∨ z = 1 := by omega
  · simp [okV,V.bare]
  · simp [okV,V.bare]
theorem okV_number {d : Nat} {z : Int} (h0 : -1 ≤ z) (h1 : z ≤ 1000000000) : okV (d + 1) ⟨2,z,⟨#[]⟩,[]⟩ = true := by
  simp [okV,V.bare]
  omega
theorem okV_txt {d : Nat} {z : ByteArray} (h : textOk z = true) : okV (d + 1) ⟨3,0,z,[]⟩ = true := by
  simp [okV,h]
end Go.Proofs.YtjopkcjpedgoaaaGreatDoor

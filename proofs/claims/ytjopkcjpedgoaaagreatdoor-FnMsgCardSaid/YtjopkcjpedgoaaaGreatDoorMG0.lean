/- What a call leaves of memory: 'Keep ok w w'': every block of w that is ok is in w' as it was; and small laws on one's own blocks. No condition. What the walks share: the kit's tactics, and the shapes of what is told. No condition. How Go's data lie in memory: a kind says which cells hold a datum; rows of such; the tree of values. 'ok': in which blocks. No condition. The reading of a frame, as plain functions: how the program reads it, byte by byte, and how the reference does; both answer the same. No condition. Which values are ok, as a plain function. Which texts are names, as a plain function. How what is said lies in memory: cells (a name and a value), a list of them, what is said. And which has a form, as plain functions. No condition. Data of one's own: no two parts of it share memory; a slice of such, one of its elements turned, one more behind it. No condition. The drawing of numbers out of bytes: a number from 0 to n-1 comes of each pick, whatever the bytes. One of a list of texts, drawn; a reader begun. One of a list of numbers, drawn. A text many times: some text of bounded size. A number's figures, and one byte as a text. No condition. A number in decimals: the reference's l1Dec writes what strconv.Itoa writes. For every int. A value's text, as a plain function; how long it is. For every value. -/
import Derived.Below
import Derived.Deep.Draws
import Derived.Laws.AppendOwn
import Derived.Laws.Rows
import Derived.Laws.IdiomRangeMap
import Derived.Test.YtjopkcjpedgoaaaGreatDoorProg
import Derived.WalkKit
import Derived.KernelRfl
import Derived.Deep.QuietTactic
import Derived.BigQuiet
import Derived.BigRegion
import Derived.WideLaws
import Derived.Outline
import Derived.OwnWalk
import Derived.WalkSpells
import Derived.Lib.Hide
import Derived.Deep.LoopGhost
import Derived.Deep.DeepCutAuto
import Derived.Deep.CutBlock
import Derived.Deep.RegionWith
import Derived.Deep.Light
import Derived.Lib.Bytes
import Derived.Lib.ItoaNum
import Derived.Lib.ItoaLen
import Derived.Lib.ConvBytes
import Derived.Lib.Join
/- What a call leaves of memory: 'Keep ok w w'': every block of w that is ok is in w' as it was;and small laws on one's own blocks. No condition. -/
namespace Go.Proofs.YtjopkcjpedgoaaaGreatDoor
open Go.RowKit
set_option linter.unusedVariables false
theorem hyd {p : Prop} (h : p) : Go.RowKit.Hid p := Go.Lib.hid h

structure Keep (ok : Nat → Prop) (w w' : World) : Prop where
  os : w'.os = w.os
  tape : w'.tape = w.tape
  output : w'.output = w.output
  size : w.heap.size ≤ w'.heap.size
  block : ∀ k,k < w.heap.size → ok k → w'.heap[k]? = w.heap[k]?

abbrev Any (_ : Nat) : Prop := True
abbrev But (b : Nat) (k : Nat) : Prop := k ≠ b

theorem Keep.refl (ok : Nat → Prop) (w : World) : Keep ok w w := ⟨rfl,rfl,rfl,Nat.le_refl _,fun _ _ _ => rfl⟩
theorem Keep.trans {ok : Nat → Prop} {a b c : World} (h : Keep ok a b) (k : Keep ok b c) : Keep ok a c :=
  ⟨k.os.trans h.os,k.tape.trans h.tape,k.output.trans h.output,Nat.le_trans h.size k.size,fun i hi ho => (k.block i (Nat.lt_of_lt_of_le hi h.size) ho).trans (h.block i hi ho)⟩
theorem Keep.mono {ok ok' : Nat → Prop} {w w' : World} (h : Keep ok w w') (hi : ∀ k,k < w.heap.size → ok' k → ok k) : Keep ok' w w' := ⟨h.os,h.tape,h.output,h.size,fun k hk ho => h.block k hk (hi k hk ho)⟩
theorem Keep.any {ok : Nat → Prop} {w w' : World} (h : Keep Any w w') : Keep ok w w' := h.mono fun _ _ _ => trivial
theorem Keep.then {ok ok' : Nat → Prop} {a b c : World} (h : Keep ok a b) (k : Keep ok' b c) (hi : ∀ i,i < a.heap.size → ok i → ok' i) : Keep ok a c :=
  ⟨k.os.trans h.os,k.tape.trans h.tape,k.output.trans h.output,Nat.le_trans h.size k.size,fun i hl ho => (k.block i (Nat.lt_of_lt_of_le hl h.size) (hi i hl ho)).trans (h.block i hl ho)⟩
theorem Keep.drew {ok : Nat → Prop} {a w : World} (h : Keep ok a w) : Keep ok a w.drew := ⟨h.os,h.tape,h.output,h.size,h.block⟩
theorem Keep.drewN {ok : Nat → Prop} {a w : World} (h : Keep ok a w) (n : Nat) : Keep ok a (w.drewN n) := ⟨h.os,h.tape,h.output,h.size,h.block⟩
theorem Keep.alloc {ok : Nat → Prop} {a w : World} (h : Keep ok a w) (o : Obj) : Keep ok a (w.alloc o) :=
  ⟨h.os,h.tape,h.output,by have := h.size;simp only [World.size_alloc];omega,fun k hk ho => (Below.heap_alloc w o k (Nat.lt_of_lt_of_le hk h.size)).trans (h.block k hk ho)⟩
theorem Keep.set {ok : Nat → Prop} {a w : World} (h : Keep ok a w) (p : Addr) (u : Value) (hp : p.block < a.heap.size → ¬ ok p.block) : Keep ok a (w.setCell p u) :=
  ⟨h.os,h.tape,h.output,by simpa using h.size,fun k hk ho => (Below.heap_setCell w p u k (fun e => hp (e ▸ hk) (e ▸ ho))).trans (h.block k hk ho)⟩
theorem Keep.grown {ok : Nat → Prop} {a w w' : World} {row : Option Nat} (h : Keep ok a w) (hg : w.grownBy w' row) (hr : ∀ k,row = some k → k < a.heap.size → ¬ ok k) : Keep ok a w' :=
  ⟨hg.os.trans h.os,hg.tape.trans h.tape,hg.output.trans h.output,Nat.le_trans h.size hg.size,fun k hk ho =>
    (hg.block k (Nat.lt_of_lt_of_le hk h.size) (fun e => hr k e.symm hk ho)).trans (h.block k hk ho)⟩
theorem Keep.below {w w' : World} (h : Keep Any w w') : Below w.heap.size w w' := ⟨h.os,h.tape,h.output,h.size,fun k hk => h.block k hk trivial⟩
theorem Keep.of_below {ok : Nat → Prop} {w w' : World} (h : Below w.heap.size w w') : Keep ok w w' := ⟨h.os,h.tape,h.output,h.size,fun k hk _ => h.block k hk⟩
theorem Keep.grownBy {b : Nat} {w w' : World} (h : Keep (But b) w w') : w.grownBy w' (some b) := ⟨h.os,h.tape,h.output,h.size,fun k hk hn => h.block k hk (fun e => hn (by rw [e]))⟩
theorem Keep.grownBy0 {w w' : World} (h : Keep Any w w') (row : Option Nat) : w.grownBy w' row := ⟨h.os,h.tape,h.output,h.size,fun k hk _ => h.block k hk trivial⟩
theorem Keep.cell {ok : Nat → Prop} {w w' : World} (h : Keep ok w w') {p : Addr} {v : Value} (hc : w.cell? p = some v) (ho : ok p.block) : w'.cell? p = some v :=
  (World.cell?_of_block (h.block _ (World.block_lt_of_cell? w p hc) ho)).trans hc

theorem Keep.cells {W w1 : World} (h : Keep Any W w1) : (∀ b o,b < W.heap.size → w1.cell? ⟨b,o,none⟩ = W.cell? ⟨b,o,none⟩) ∧ (∀ b o,b < W.heap.size → w1.frozen? ⟨b,o,none⟩ = W.frozen? ⟨b,o,none⟩) :=
  ⟨fun b o hb => World.cell?_of_block (h.block b hb trivial),fun b o hb => World.frozen?_of_block (h.block b hb trivial)⟩

theorem blk_lt {w : World} {g : Nat} {o : Obj} (h : w.heap[g]? = some o) : g < w.heap.size := (Array.getElem?_eq_some_iff.1 h).1
theorem blk_keep {ok : Nat → Prop} {w w' : World} {g : Nat} {o : Obj} (k : Keep ok w w') (h : w.heap[g]? = some o) (ho : ok g) : w'.heap[g]? = some o := (k.block g (blk_lt h) ho).trans h
theorem blk_cell {w : World} {g : Nat} {t : TypeId} {cs : Array Value} (h : w.heap[g]? = some (.cells cs t (0,0))) (i : Nat) : w.cell? ⟨g,i,none⟩ = cs[i]? := by simp [World.cell?,h]
theorem blk_frozen {w : World} {g : Nat} {t : TypeId} {cs : Array Value} (h : w.heap[g]? = some (.cells cs t (0,0))) (i : Nat) : w.frozen? ⟨g,i,none⟩ = false := by simp [World.frozen?,h]
theorem blk_set {w : World} {g : Nat} {t : TypeId} {cs : Array Value} (h : w.heap[g]? = some (.cells cs t (0,0))) (i : Nat) (u : Value) : (w.setCell ⟨g,i,none⟩ u).heap[g]? = some (.cells (cs.setIfInBounds i u) t (0,0)) := by
  simp [World.setCell,Array.getElem?_modify,h]
theorem blk_new (w : World) (o : Obj) : (w.alloc o).heap[w.heap.size]? = some o := heap_alloc_new w o
theorem blk_alloc {w : World} {g : Nat} {o : Obj} (h : w.heap[g]? = some o) (p : Obj) : (w.alloc p).heap[g]? = some o := (Below.heap_alloc w p g (blk_lt h)).trans h
theorem blk_far {w : World} {g : Nat} {o : Obj} (h : w.heap[g]? = some o) (p : Addr) (u : Value) (hp : g ≠ p.block) : (w.setCell p u).heap[g]? = some o := (Below.heap_setCell w p u g hp).trans h

/- What the walks share: the kit's tactics,and the shapes of what is told. No condition. -/

def Quiet (b : Bool) (w : World) (e : Ending) (w' : World) : Prop := e = .returned (.bool b) ∧ w = w'
def Tells (b : Bool) (w : World) (e : Ending) (w' : World) : Prop := e = .returned (.bool b) ∧ Keep Any w w'
def Str (l : List UInt8) (w : World) (e : Ending) (w' : World) : Prop := e = .returned (.string ⟨l.toArray⟩) ∧ Keep Any w w'
def Num (n : Int) (w : World) (e : Ending) (w' : World) : Prop := e = .returned (.int .i64 n) ∧ Keep Any w w'
theorem ret_bool {a b : Bool} (h : a = b) : Ending.returned (.bool a) = .returned (.bool b) := by rw [h]
theorem ret_int {k : IntKind} {a b : Int} (h : a = b) : Ending.returned (.int k a) = .returned (.int k b) := by rw [h]
theorem Quiet.tells {b : Bool} {w : World} {e : Ending} {w' : World} (h : Quiet b w e w') : Tells b w e w' := ⟨h.1,h.2 ▸ Keep.refl _ _⟩

/- How Go's data lie in memory: a kind says which cells hold a datum;rows of such;the tree of values. 'ok': in which blocks. No condition. -/

def I64 (n : Int) : Prop := -9223372036854775808 ≤ n ∧ n ≤ 9223372036854775807
def Fits (s : ByteArray) : Prop := s.size ≤ 9223372036854775807

structure K (α : Type) where
  sz : Nat
  rep : World → (Nat → Prop) → α → List Value → Prop
  len : ∀ {w ok x cs},rep w ok x cs → cs.length = sz
  keep : ∀ {w w' ok x cs},rep w ok x cs → Keep ok w w' → rep w' ok x cs
  mono : ∀ {w ok ok' x cs},rep w ok x cs → (∀ k,k < w.heap.size → ok k → ok' k) → rep w ok' x cs

def Cells (w : World) (ad : Addr) (o : Nat) (cs : List Value) : Prop := ∀ i u,cs[i]? = some u → w.cell? (ad.add (o + i)) = some u
theorem add_block (a : Addr) (n : Nat) : (a.add n).block = a.block := by unfold Addr.add;split <;> rfl
theorem Cells.keep {ok : Nat → Prop} {w w' : World} {ad : Addr} {o : Nat} {cs : List Value} (h : Cells w ad o cs) (k : Keep ok w w') (ho : ok ad.block) : Cells w' ad o cs :=
  fun i u hu => k.cell (h i u hu) (by rw [add_block];exact ho)

def Sl {α : Type} (sz : Nat) (R : α → List Value → Prop) (w : World) (ok : Nat → Prop) (v : Value) (l : List α) : Prop :=
  ∃ (a : Option Addr) (c : Nat),v = .slice a l.length c ∧ l.length ≤ c ∧ c ≤ 9223372036854775807 ∧
    (l ≠ [] → ∃ ad,a = some ad ∧ ok ad.block ∧ ∀ j x,l[j]? = some x → ∃ cs,R x cs ∧ cs.length = sz ∧ Cells w ad (j * sz) cs)
theorem Sl.mono {α : Type} {sz : Nat} {R R' : α → List Value → Prop} {w : World} {ok ok' : Nat → Prop} {v : Value} {l : List α} (h : Sl sz R w ok v l)
    (hR : ∀ x cs,x ∈ l → R x cs → R' x cs) (ho : ∀ k,k < w.heap.size → ok k → ok' k) (hs : 0 < sz) : Sl sz R' w ok' v l := by
  obtain ⟨a,c,rfl,h1,h2,h3⟩ := h
  refine ⟨a,c,rfl,h1,h2,fun hn => ?_⟩
  obtain ⟨ad,rfl,hb,hc⟩ := h3 hn
  refine ⟨ad,rfl,?_,fun j x hx => ?_⟩
  · obtain ⟨x,r,rfl⟩ := List.exists_cons_of_ne_nil hn
    obtain ⟨cs,_,hl,hcs⟩ := hc 0 x rfl
    have := World.block_lt_of_cell? w _ (hcs 0 _ (List.getElem?_eq_getElem (by omega)))
    rw [add_block] at this
    exact ho _ this hb
  · obtain ⟨cs,h,hl,hcs⟩ := hc j x hx
    exact ⟨cs,hR x cs (List.mem_of_getElem? hx) h,hl,hcs⟩
theorem Sl.keep {α : Type} {sz : Nat} {R R' : α → List Value → Prop} {w w' : World} {ok : Nat → Prop} {v : Value} {l : List α} (h : Sl sz R w ok v l)
    (hR : ∀ x cs,x ∈ l → R x cs → R' x cs) (k : Keep ok w w') : Sl sz R' w' ok v l := by
  obtain ⟨a,c,rfl,h1,h2,h3⟩ := h
  refine ⟨a,c,rfl,h1,h2,fun hn => ?_⟩
  obtain ⟨ad,rfl,hb,hc⟩ := h3 hn
  refine ⟨ad,rfl,hb,fun j x hx => ?_⟩
  obtain ⟨cs,h,hl,hcs⟩ := hc j x hx
  exact ⟨cs,hR x cs (List.mem_of_getElem? hx) h,hl,hcs.keep k hb⟩

namespace K
def int : K Int := ⟨1,fun _ _ n cs => cs = [.int .i64 n] ∧ I64 n,fun h => by rw [h.1];rfl,fun h _ => h,fun h _ => h⟩
def bool : K Bool := ⟨1,fun _ _ b cs => cs = [.bool b],fun h => by rw [h];rfl,fun h _ => h,fun h _ => h⟩
def slice {α : Type} (a : K α) (hs : 0 < a.sz) : K (List α) where
  sz := 1
  rep w ok l cs := ∃ v,cs = [v] ∧ Sl a.sz (a.rep w ok) w ok v l
  len := by rintro w ok x cs ⟨v,rfl,_⟩;rfl
  keep := by rintro w w' ok x cs ⟨v,rfl,h⟩ k;exact ⟨v,rfl,h.keep (fun _ _ _ h => a.keep h k) k⟩
  mono := by rintro w ok ok' x cs ⟨v,rfl,h⟩ k;exact ⟨v,rfl,h.mono (fun _ _ _ h => a.mono h k) k hs⟩
end K

structure V where
  kind : Int
  num : Int
  text : ByteArray
  list : List V
inductive VR (w : World) (ok : Nat → Prop) : V → List Value → Prop where
  | mk (v : V) (a : Option Addr) (c : Nat) (ad : Addr) (f : Nat → List Value) (h1 : I64 v.kind) (h2 : I64 v.num) (h3 : Fits v.text) (hc : v.list.length ≤ c) (hm : c ≤ 9223372036854775807)
      (ha : v.list ≠ [] → a = some ad) (ho : v.list ≠ [] → ok ad.block) (hr : ∀ j x,v.list[j]? = some x → VR w ok x (f j)) (hcell : ∀ j x,v.list[j]? = some x → Cells w ad (j * 4) (f j)) :
      VR w ok v [.int .i64 v.kind,.int .i64 v.num,.string v.text,.slice a v.list.length c]
theorem VR.len {w : World} {ok : Nat → Prop} {v : V} {cs : List Value} (h : VR w ok v cs) : cs.length = 4 := by cases h;rfl
theorem VR.keep {w w' : World} {ok : Nat → Prop} {v : V} {cs : List Value} (h : VR w ok v cs) (k : Keep ok w w') : VR w' ok v cs := by
  induction h with
  | mk v a c ad f h1 h2 h3 hc hm ha ho hr hcell ih =>
    exact .mk v a c ad f h1 h2 h3 hc hm ha ho ih fun j x hx => (hcell j x hx).keep k (ho (fun e => by rw [e] at hx;cases hx))
theorem VR.mono {w : World} {ok ok' : Nat → Prop} {v : V} {cs : List Value} (h : VR w ok v cs) (k : ∀ k,k < w.heap.size → ok k → ok' k) : VR w ok' v cs := by
  induction h with
  | mk v a c ad f h1 h2 h3 hc hm ha ho hr hcell ih =>
    refine .mk v a c ad f h1 h2 h3 hc hm ha (fun hn => k _ ?_ (ho hn)) ih hcell
    obtain ⟨x,r,e⟩ := List.exists_cons_of_ne_nil hn
    have hx : v.list[0]? = some x := by rw [e];rfl
    have hl := (hr 0 x hx).len
    have := World.block_lt_of_cell? w _ (hcell 0 x hx 0 _ (List.getElem?_eq_getElem (by omega)))
    rwa [add_block] at this
def K.val : K V := ⟨4,VR,VR.len,VR.keep,VR.mono⟩
theorem VR.iff {w : World} {ok : Nat → Prop} {v : V} {cs : List Value} : VR w ok v cs ↔ ∃ s,cs = [.int .i64 v.kind,.int .i64 v.num,.string v.text,s] ∧ I64 v.kind ∧ I64 v.num ∧ Fits v.text ∧ Sl 4 (VR w ok) w ok s v.list := by
  constructor
  · rintro ⟨_,a,c,ad,f,h1,h2,h3,hc,hm,ha,ho,hr,hcell⟩
    exact ⟨_,rfl,h1,h2,h3,a,c,rfl,hc,hm,fun hn => ⟨ad,ha hn,ho hn,fun j x hx => ⟨f j,hr j x hx,(hr j x hx).len,hcell j x hx⟩⟩⟩
  · rintro ⟨s,rfl,h1,h2,h3,a,c,rfl,hc,hm,h⟩
    by_cases hn : v.list = []
    · exact .mk v a c ⟨0,0,none⟩ (fun _ => []) h1 h2 h3 hc hm (fun h => absurd hn h) (fun h => absurd hn h) (fun j x hx => by rw [hn] at hx;cases hx) (fun j x hx => by rw [hn] at hx;cases hx)
    · obtain ⟨ad,rfl,ho,hf⟩ := h hn
      have hf' : ∀ j,∃ cs,∀ x,v.list[j]? = some x → VR w ok x cs ∧ Cells w ad (j * 4) cs := fun j => by
        cases hx : v.list[j]? with
        | none => exact ⟨[],fun x h => by cases h⟩
        | some x => obtain ⟨cs,h,_,h'⟩ := hf j x hx;exact ⟨cs,fun y hy => by cases hy;exact ⟨h,h'⟩⟩
      exact .mk v _ c ad (fun j => (hf' j).choose) h1 h2 h3 hc hm (fun _ => rfl) (fun _ => ho) (fun j x hx => ((hf' j).choose_spec x hx).1) (fun j x hx => ((hf' j).choose_spec x hx).2)
theorem add_field (a : Addr) (n m : Nat) (h : 0 < m) : a.add (n + m) = ⟨(a.add n).block,(a.add n).off + m,none⟩ := by
  unfold Addr.add
  by_cases h0 : n = 0
  · subst h0;rw [if_neg (by omega),if_pos rfl];simp
  · rw [if_neg (by omega),if_neg h0];simp [Nat.add_assoc]
theorem vals_at {w w' : World} {ok : Nat → Prop} {a : Option Addr} {n c : Nat} {l : List V} (h : Sl 4 (VR w ok) w ok (.slice a n c) l) (k : Keep ok w w') {j : Nat} {x : V} (hx : l[j]? = some x) :
    ∃ ad a' c',a = some ad ∧ VR w' ok x [.int .i64 x.kind,.int .i64 x.num,.string x.text,.slice a' x.list.length c'] ∧ w'.cell? (ad.add (j * 4)) = some (.int .i64 x.kind) ∧ w'.cell? ⟨(ad.add (j * 4)).block,(ad.add (j * 4)).off + 1,none⟩ = some (.int .i64 x.num) ∧
      w'.cell? ⟨(ad.add (j * 4)).block,(ad.add (j * 4)).off + 2,none⟩ = some (.string x.text) ∧ w'.cell? ⟨(ad.add (j * 4)).block,(ad.add (j * 4)).off + 3,none⟩ = some (.slice a' x.list.length c') := by
  obtain ⟨a',c',e,h1,h2,h3⟩ := h
  cases e
  obtain ⟨ad,rfl,hb,hf⟩ := h3 (fun e => by rw [e] at hx;cases hx)
  obtain ⟨cs,hv,hl,hc⟩ := hf j x hx
  obtain ⟨s,rfl,_,_,_,a2,c2,rfl,_⟩ := VR.iff.1 hv
  have hc' := hc.keep k hb
  refine ⟨ad,a2,c2,rfl,hv.keep k,hc' 0 _ rfl,?_,?_,?_⟩
  · rw [← add_field _ _ 1 (by omega)];exact hc' 1 _ rfl
  · rw [← add_field _ _ 2 (by omega)];exact hc' 2 _ rfl
  · rw [← add_field _ _ 3 (by omega)];exact hc' 3 _ rfl
abbrev StrR (s : ByteArray) (cs : List Value) : Prop := cs = [.string s] ∧ Fits s
abbrev Strs (w : World) (ok : Nat → Prop) (v : Value) (l : List ByteArray) : Prop := Sl 1 StrR w ok v l
abbrev Vals (w : World) (ok : Nat → Prop) (v : Value) (l : List V) : Prop := Sl 4 (VR w ok) w ok v l
theorem Vals.keep {w w' : World} {ok : Nat → Prop} {v : Value} {l : List V} (h : Vals w ok v l) (k : Keep ok w w') : Vals w' ok v l := Sl.keep h (fun _ _ _ h => h.keep k) k
theorem Vals.mono {w : World} {ok ok' : Nat → Prop} {v : Value} {l : List V} (h : Vals w ok v l) (k : ∀ k,k < w.heap.size → ok k → ok' k) : Vals w ok' v l := Sl.mono h (fun _ _ _ h => h.mono k) k (by decide)
theorem Strs.keep {w w' : World} {ok : Nat → Prop} {v : Value} {l : List ByteArray} (h : Strs w ok v l) (k : Keep ok w w') : Strs w' ok v l := Sl.keep h (fun _ _ _ h => h) k
theorem Strs.mono {w : World} {ok ok' : Nat → Prop} {v : Value} {l : List ByteArray} (h : Strs w ok v l) (k : ∀ k,k < w.heap.size → ok k → ok' k) : Strs w ok' v l := Sl.mono h (fun _ _ _ h => h) k (by decide)
theorem strs_at {w w' : World} {ok : Nat → Prop} {a : Option Addr} {n c : Nat} {l : List ByteArray} (h : Strs w ok (.slice a n c) l) (k : Keep ok w w') {j : Nat} {x : ByteArray} (hx : l[j]? = some x) :
    ∃ ad,a = some ad ∧ Fits x ∧ w'.cell? (ad.add j) = some (.string x) := by
  obtain ⟨a',c',e,h1,h2,h3⟩ := h
  cases e
  obtain ⟨ad,rfl,hb,hf⟩ := h3 (fun e => by rw [e] at hx;cases hx)
  obtain ⟨cs,⟨rfl,hF⟩,_,hc⟩ := hf j x hx
  have := (hc.keep k hb) 0 _ rfl
  exact ⟨ad,rfl,hF,by simpa using this⟩
mutual
def V.w : V → Nat
  | ⟨_,_,_,l⟩ => V.ws l + 1
def V.ws : List V → Nat
  | [] => 0
  | x :: l => V.w x + V.ws l
end
theorem V.w_eq (v : V) : v.w = V.ws v.list + 1 := by cases v;rw [V.w]
theorem V.ws_get {l : List V} {j : Nat} {x : V} (h : l[j]? = some x) : x.w ≤ V.ws l := by
  induction l generalizing j with
  | nil => cases h
  | cons y l ih =>
    rw [V.ws]
    cases j with
    | zero => simp only [List.getElem?_cons_zero,Option.some.injEq] at h;subst h;omega
    | succ j => have := ih (by simpa using h);omega
theorem V.w_lt {v : V} {j : Nat} {x : V} (h : v.list[j]? = some x) : x.w < v.w := by rw [V.w_eq v];have := V.ws_get h;omega

structure Rp where
  kind : Int
  names : List ByteArray
  row : List V
  code : Int
  more : Bool
def RR (w : World) (ok : Nat → Prop) (r : Rp) (cs : List Value) : Prop :=
  ∃ s1 s2,cs = [.int .i64 r.kind,s1,s2,.int .i64 r.code,.bool r.more] ∧ I64 r.kind ∧ I64 r.code ∧ Strs w ok s1 r.names ∧ Vals w ok s2 r.row
theorem RR.keep {w w' : World} {ok : Nat → Prop} {r : Rp} {cs : List Value} (h : RR w ok r cs) (k : Keep ok w w') : RR w' ok r cs := by
  obtain ⟨s1,s2,rfl,h1,h2,h3,h4⟩ := h
  exact ⟨s1,s2,rfl,h1,h2,h3.keep k,h4.keep k⟩
theorem RR.mono {w : World} {ok ok' : Nat → Prop} {r : Rp} {cs : List Value} (h : RR w ok r cs) (k : ∀ k,k < w.heap.size → ok k → ok' k) : RR w ok' r cs := by
  obtain ⟨s1,s2,rfl,h1,h2,h3,h4⟩ := h
  exact ⟨s1,s2,rfl,h1,h2,h3.mono k,h4.mono k⟩

/- The reading of a frame,as plain functions: how the program reads it,byte by byte,and how the reference does;both answer the same. No condition. -/

def at_ (t : ByteArray) (i : Nat) : Nat := if h : i < t.size then (t[i]'h).toNat else 0
theorem at_eq (t : ByteArray) (i : Nat) (h : i < t.size) : (t[i]'h).toNat = at_ t i := by simp [at_,h]
theorem at_lt (t : ByteArray) (i : Nat) : at_ t i < 256 := by
  unfold at_;split
  · exact UInt8.toNat_lt _
  · omega
theorem empty_true (t : ByteArray) (h : t.size = 0) : (t.toList == ([] : List UInt8)) = true := by
  have : t.toList.length = 0 := by rw [Lib.toList_data,← Lib.size_eq];exact h
  simpa using this
theorem empty_false (t : ByteArray) (h : ¬ t.size = 0) : (t.toList == ([] : List UInt8)) = false := by
  have : ¬ t.toList.length = 0 := by rw [Lib.toList_data,← Lib.size_eq];exact h
  simpa using this
theorem size_true (t : ByteArray) (h : t.size = 0) : (((t.size : Nat) : Int) == 0) = true := by simp [h]
theorem size_false (t : ByteArray) (h : ¬ t.size = 0) : (((t.size : Nat) : Int) == 0) = false := by rw [beq_eq_false_iff_ne];omega
def fig (b : Nat) : Bool := 48 ≤ b && b ≤ 57

def frBody (t : ByteArray) (at' size : Nat) : ByteArray × Int :=
  if t.size ≤ at' + size then (⟨#[]⟩,0) else if at_ t (at' + size) ≠ 10 then (⟨#[]⟩,-1) else (t.extract at' (at' + size),at' + size + 1)
def frMore (t : ByteArray) (at' size : Nat) : ByteArray × Int :=
  if h : at' < t.size then
    if at_ t at' = 58 then frBody t (at' + 1) size
    else if fig (at_ t at') = false ∨ size = 0 then (⟨#[]⟩,-1)
    else if 6000 < size * 10 + (at_ t at' - 48) then (⟨#[]⟩,-1)
    else frMore t (at' + 1) (size * 10 + (at_ t at' - 48))
  else (⟨#[]⟩,0)
termination_by t.size - at'
def frameGet (t : ByteArray) : ByteArray × Int :=
  if t.size = 0 then (⟨#[]⟩,0) else if fig (at_ t 0) = false then (⟨#[]⟩,-1) else frMore t 1 (at_ t 0 - 48)

def val (t : ByteArray) : Nat → Nat
  | 0 => 0
  | k + 1 => val t k * 10 + (at_ t k - 48)
def numGo (t : ByteArray) (i n : Nat) : Option Nat :=
  if h : i < t.size then if at_ t i < 48 ∨ 57 < at_ t i ∨ 10 ≤ i then none else numGo t (i + 1) (n * 10 + (at_ t i - 48)) else some n
termination_by t.size - i
def l1Num (t : ByteArray) : Int := match numGo t 0 0 with
  | none => -1
  | some n => if t.size = 0 ∨ (1 < t.size ∧ at_ t 0 = 48) then -1 else n
theorem numGo_go {t : ByteArray} {i n : Nat} (h : i < t.size) (h0 : 48 ≤ at_ t i) (h1 : at_ t i ≤ 57) (h2 : i < 10) : numGo t i n = numGo t (i + 1) (n * 10 + (at_ t i - 48)) := by
  rw [numGo,dif_pos h,if_neg (by omega)]
theorem numGo_none {t : ByteArray} {i n : Nat} (h : i < t.size) (h0 : at_ t i < 48 ∨ 57 < at_ t i ∨ 10 ≤ i) : numGo t i n = none := by rw [numGo,dif_pos h,if_pos h0]
theorem numGo_end {t : ByteArray} {i n : Nat} (h : ¬ i < t.size) : numGo t i n = some n := by rw [numGo,dif_neg h]
theorem l1Num_none {t : ByteArray} (h : numGo t 0 0 = none) : -1 = l1Num t := by rw [l1Num,h]
theorem l1Num_bad {t : ByteArray} {n : Nat} (h : numGo t 0 0 = some n) (h1 : t.size = 0 ∨ (1 < t.size ∧ at_ t 0 = 48)) : -1 = l1Num t := by rw [l1Num,h];simp only;rw [if_pos h1]
theorem l1Num_some {t : ByteArray} {n : Nat} (h : numGo t 0 0 = some n) (h1 : ¬ (t.size = 0 ∨ (1 < t.size ∧ at_ t 0 = 48))) : (n : Int) = l1Num t := by rw [l1Num,h];simp only;rw [if_neg h1]

/- Which values are ok,as a plain function. -/

def textOk (s : ByteArray) : Bool := decide (s.size ≤ 16) && s.data.toList.all fun b => 32 ≤ b.toNat && b.toNat ≤ 126 && b.toNat != 39
def V.bare (v : V) : Bool := (v.text.toList == ([] : List UInt8)) && ((v.list.length : Int) == 0)
def okV : Nat → V → Bool
  | 0,_ => false
  | d + 1,v =>
    if v.kind = 0 then v.num == 0 && v.bare else if v.kind = 1 then (v.num == 0 || v.num == 1) && v.bare
    else if v.kind = 2 then decide (-1000000000 ≤ v.num) && decide (v.num ≤ 1000000000) && v.bare
    else if v.kind = 3 then v.num == 0 && textOk v.text && ((v.list.length : Int) == 0)
    else if v.kind = 4 then v.num == 0 && (v.text.toList == ([] : List UInt8)) && decide ((v.list.length : Int) ≤ 6) && v.list.all (okV d)
    else if v.kind = 5 ∨ v.kind = 6 then decide (0 ≤ v.num) && decide (v.num ≤ 1000000000) && v.bare
    else false

/- Which texts are names,as a plain function. -/

def letter (b : Nat) : Bool := (decide (97 ≤ b) && decide (b ≤ 122)) || (decide (65 ≤ b) && decide (b ≤ 90))
def words : List (List UInt8) := [[77,65,84,67,72],[79,80,84,73,79,78,65,76],[87,72,69,82,69],[85,78,87,73,78,68],[87,73,84,72],[82,69,84,85,82,78],[67,82,69,65,84,69],[83,69,84],[68,69,76,69,84,69],[68,69,84,65,67,72],
  [65,83],[65,78,68],[79,82],[78,79,84],[73,83],[78,85,76,76],[73,78],[68,73,83,84,73,78,67,84],[79,82,68,69,82],[66,89],[68,69,83,67],[83,75,73,80],[76,73,77,73,84],[110,117,108,108],[116,114,117,101],[102,97,108,115,101],[99,111,117,110,116],[115,117,109],[115,105,122,101]]
def kept (t : ByteArray) : Bool := words.any fun x => t.toList == x
def nameShape (t : ByteArray) : Bool := decide (1 ≤ t.size) && decide (t.size ≤ 8) && letter (at_ t 0) && (List.range t.size).all fun i => letter (at_ t i) || fig (at_ t i)
def nameOk (t : ByteArray) : Bool := nameShape t && !kept t
theorem shape_bad {t : ByteArray} {i : Nat} (h : i < t.size) (hl : letter (at_ t i) = false) (hf : fig (at_ t i) = false ∨ i = 0) : nameShape t = false := by
  unfold nameShape
  by_cases h0 : i = 0
  · subst h0;rw [hl];simp
  · rw [Bool.and_eq_false_iff];right
    rw [List.all_eq_false]
    exact ⟨i,List.mem_range.2 h,by rw [hl];rcases hf with hf | hf;rw [hf];decide;exact absurd hf h0⟩
theorem shape_long {t : ByteArray} (h : t.size = 0 ∨ 8 < t.size) : nameShape t = false := by
  unfold nameShape
  rcases h with h | h
  · simp [h]
  · have : decide (t.size ≤ 8) = false := by simp;omega
    rw [this];simp
theorem shape_good {t : ByteArray} (h1 : 1 ≤ t.size) (h8 : t.size ≤ 8) (h0 : letter (at_ t 0) = true) (ha : ∀ i,i < t.size → letter (at_ t i) = true ∨ fig (at_ t i) = true) : nameShape t = true := by
  unfold nameShape
  simp only [Bool.and_eq_true,decide_eq_true_eq]
  exact ⟨⟨⟨h1,h8⟩,h0⟩,List.all_eq_true.2 fun i hi => by rw [Bool.or_eq_true];exact ha i (List.mem_range.1 hi)⟩

/- How what is said lies in memory: cells (a name and a value),a list of them,what is said. And which has a form,as plain functions. No condition. -/
structure Ce where
  name : ByteArray
  val : V
def CeR (w : World) (ok : Nat → Prop) (c : Ce) (cs : List Value) : Prop := ∃ d,cs = .string c.name :: d ∧ Fits c.name ∧ VR w ok c.val d
theorem CeR.keep {w w' : World} {ok : Nat → Prop} {c : Ce} {cs : List Value} (h : CeR w ok c cs) (k : Keep ok w w') : CeR w' ok c cs := by
  obtain ⟨d,rfl,h1,h2⟩ := h;exact ⟨d,rfl,h1,h2.keep k⟩
theorem CeR.mono {w : World} {ok ok' : Nat → Prop} {c : Ce} {cs : List Value} (h : CeR w ok c cs) (k : ∀ k,k < w.heap.size → ok k → ok' k) : CeR w ok' c cs := by
  obtain ⟨d,rfl,h1,h2⟩ := h;exact ⟨d,rfl,h1,h2.mono k⟩
theorem CeR.cells {w : World} {ok : Nat → Prop} {c : Ce} {cs : List Value} (h : CeR w ok c cs) : ∃ a n,cs = [.string c.name,.int .i64 c.val.kind,.int .i64 c.val.num,.string c.val.text,.slice a c.val.list.length n] ∧
    VR w ok c.val [.int .i64 c.val.kind,.int .i64 c.val.num,.string c.val.text,.slice a c.val.list.length n] := by
  obtain ⟨d,rfl,h1,h2⟩ := h
  obtain ⟨s,rfl,_,_,_,a,n,rfl,_⟩ := VR.iff.1 h2
  exact ⟨a,n,rfl,h2⟩
abbrev Ces (w : World) (ok : Nat → Prop) (v : Value) (l : List Ce) : Prop := Sl 5 (CeR w ok) w ok v l
theorem Ces.keep {w w' : World} {ok : Nat → Prop} {v : Value} {l : List Ce} (h : Ces w ok v l) (k : Keep ok w w') : Ces w' ok v l := Sl.keep h (fun _ _ _ h => h.keep k) k
theorem Ces.mono {w : World} {ok ok' : Nat → Prop} {v : Value} {l : List Ce} (h : Ces w ok v l) (k : ∀ k,k < w.heap.size → ok k → ok' k) : Ces w ok' v l := Sl.mono h (fun _ _ _ h => h.mono k) k (by decide)
theorem ces_at {w w' : World} {ok : Nat → Prop} {a : Option Addr} {n c : Nat} {l : List Ce} (h : Ces w ok (.slice a n c) l) (k : Keep ok w w') {j : Nat} {x : Ce} (hx : l[j]? = some x) :
    ∃ ad a' c',a = some ad ∧ Fits x.name ∧ VR w' ok x.val [.int .i64 x.val.kind,.int .i64 x.val.num,.string x.val.text,.slice a' x.val.list.length c'] ∧ w'.cell? (ad.add (j * 5)) = some (.string x.name) ∧ w'.cell? ⟨(ad.add (j * 5)).block,(ad.add (j * 5)).off + 1,none⟩ = some (.int .i64 x.val.kind) ∧ w'.cell? ⟨(ad.add (j * 5)).block,(ad.add (j * 5)).off + 2,none⟩ = some (.int .i64 x.val.num) ∧
      w'.cell? ⟨(ad.add (j * 5)).block,(ad.add (j * 5)).off + 3,none⟩ = some (.string x.val.text) ∧ w'.cell? ⟨(ad.add (j * 5)).block,(ad.add (j * 5)).off + 4,none⟩ = some (.slice a' x.val.list.length c') := by
  obtain ⟨a',c',e,h1,h2,h3⟩ := h
  cases e
  obtain ⟨ad,rfl,hb,hf⟩ := h3 (fun e => by rw [e] at hx;cases hx)
  obtain ⟨cs,hv,hl,hc⟩ := hf j x hx
  have hF : Fits x.name := by obtain ⟨_,_,h,_⟩ := hv;exact h
  obtain ⟨a2,c2,rfl,hv2⟩ := hv.cells
  have hc' := hc.keep k hb
  refine ⟨ad,a2,c2,rfl,hF,hv2.keep k,hc' 0 _ rfl,?_,?_,?_,?_⟩
  · rw [← add_field _ _ 1 (by omega)];exact hc' 1 _ rfl
  · rw [← add_field _ _ 2 (by omega)];exact hc' 2 _ rfl
  · rw [← add_field _ _ 3 (by omega)];exact hc' 3 _ rfl
  · rw [← add_field _ _ 4 (by omega)];exact hc' 4 _ rfl
structure Ms where
  kind : Int
  text : ByteArray
  given : List Ce
  num : Int
def MR (w : World) (ok : Nat → Prop) (m : Ms) (cs : List Value) : Prop :=
  ∃ s,cs = [.int .i64 m.kind,.string m.text,s,.int .i64 m.num] ∧ I64 m.kind ∧ I64 m.num ∧ Fits m.text ∧ Ces w ok s m.given
theorem MR.keep {w w' : World} {ok : Nat → Prop} {m : Ms} {cs : List Value} (h : MR w ok m cs) (k : Keep ok w w') : MR w' ok m cs := by
  obtain ⟨s,rfl,h1,h2,h3,h4⟩ := h
  exact ⟨s,rfl,h1,h2,h3,Ces.keep h4 k⟩
theorem MR.mono {w : World} {ok ok' : Nat → Prop} {m : Ms} {cs : List Value} (h : MR w ok m cs) (k : ∀ k,k < w.heap.size → ok k → ok' k) : MR w ok' m cs := by
  obtain ⟨s,rfl,h1,h2,h3,h4⟩ := h
  exact ⟨s,rfl,h1,h2,h3,Ces.mono h4 k⟩
def cellGood (l : List Ce) (k : Nat) : Bool := match l[k]? with
  | none => false
  | some c => nameOk c.name && okV 3 c.val && !((l.take k).any fun d => decide (d.name = c.name))
def okCells (l : List Ce) : Bool := (List.range l.length).all (cellGood l)
def okM (m : Ms) : Bool :=
  if m.kind = 1 then nameOk m.text && ((m.given.length : Int) == 0) && m.num == 0
  else if m.kind = 2 then decide ((m.text.size : Int) ≤ 1000) && decide ((m.given.length : Int) ≤ 5) && okCells m.given && m.num == 0
  else if m.kind = 3 then (m.text.toList == ([] : List UInt8)) && ((m.given.length : Int) == 0) && decide (1 ≤ m.num) && decide (m.num ≤ 60)
  else if 4 ≤ m.kind ∧ m.kind ≤ 9 then (m.text.toList == ([] : List UInt8)) && ((m.given.length : Int) == 0) && m.num == 0
  else false

/- Data of one's own: no two parts of it share memory;a slice of such,one of its elements turned,one more behind it. No condition. -/

def SSl {α : Type} (sz : Nat) (R : World → (Nat → Prop) → α → List Value → Prop) (w : World) (ok : Nat → Prop) (v : Value) (l : List α) : Prop :=
  ∃ (a : Option Addr) (c : Nat),v = .slice a l.length c ∧ l.length ≤ c ∧ c ≤ 9223372036854775807 ∧
    (l ≠ [] → ∃ (b : Nat) (T : TypeId) (cur : Array Value) (g : Nat → Nat → Prop),a = some ⟨b,0,none⟩ ∧ ok b ∧ w.heap[b]? = some (.cells cur T (0,0)) ∧ (∀ j k,g j k → ok k ∧ k ≠ b) ∧ (∀ i j k,i ≠ j → g i k → ¬ g j k) ∧
      ∀ j x,l[j]? = some x → ∃ cs,R w (g j) x cs ∧ cs.length = sz ∧ ∀ i u,cs[i]? = some u → cur[j * sz + i]? = some u)
theorem blk_cells {w : World} {b : Nat} {T : TypeId} {cur : Array Value} {sz j : Nat} {cs : List Value} (h : w.heap[b]? = some (.cells cur T (0,0))) (hc : ∀ i u,cs[i]? = some u → cur[j * sz + i]? = some u) : Cells w ⟨b,0,none⟩ (j * sz) cs := by
  intro i u hu
  have e : (⟨b,0,none⟩ : Addr).add (j * sz + i) = ⟨b,j * sz + i,none⟩ := by unfold Addr.add;split <;> simp_all
  rw [e,blk_cell h]
  exact hc i u hu
theorem SSl.sl {α : Type} {sz : Nat} {R : World → (Nat → Prop) → α → List Value → Prop} {R' : α → List Value → Prop} {w : World} {ok : Nat → Prop} {v : Value} {l : List α} (h : SSl sz R w ok v l)
    (hR : ∀ g x cs,x ∈ l → (∀ k,g k → ok k) → R w g x cs → R' x cs) : Sl sz R' w ok v l := by
  obtain ⟨a,c,rfl,h1,h2,h3⟩ := h
  refine ⟨a,c,rfl,h1,h2,fun hn => ?_⟩
  obtain ⟨b,T,cur,g,rfl,hb,hh,hsub,hdis,hf⟩ := h3 hn
  refine ⟨_,rfl,hb,fun j x hx => ?_⟩
  obtain ⟨cs,h4,h5,h6⟩ := hf j x hx
  exact ⟨cs,hR (g j) x cs (List.mem_of_getElem? hx) (fun k hk => (hsub j k hk).1) h4,h5,blk_cells hh h6⟩
theorem SSl.mono {α : Type} {sz : Nat} {R : World → (Nat → Prop) → α → List Value → Prop} {w : World} {ok ok' : Nat → Prop} {v : Value} {l : List α} (h : SSl sz R w ok v l)
    (ho : ∀ k,ok k → ok' k) : SSl sz R w ok' v l := by
  obtain ⟨a,c,rfl,h1,h2,h3⟩ := h
  refine ⟨a,c,rfl,h1,h2,fun hn => ?_⟩
  obtain ⟨b,T,cur,g,rfl,hb,hh,hsub,hdis,hf⟩ := h3 hn
  exact ⟨b,T,cur,g,rfl,ho _ hb,hh,fun j k hk => ⟨ho _ (hsub j k hk).1,(hsub j k hk).2⟩,hdis,hf⟩
theorem SSl.keep {α : Type} {sz : Nat} {R : World → (Nat → Prop) → α → List Value → Prop} {w w' : World} {ok : Nat → Prop} {v : Value} {l : List α} (h : SSl sz R w ok v l)
    (hR : ∀ g x cs,x ∈ l → R w g x cs → Keep g w w' → R w' g x cs) (k : Keep ok w w') : SSl sz R w' ok v l := by
  obtain ⟨a,c,rfl,h1,h2,h3⟩ := h
  refine ⟨a,c,rfl,h1,h2,fun hn => ?_⟩
  obtain ⟨b,T,cur,g,rfl,hb,hh,hsub,hdis,hf⟩ := h3 hn
  refine ⟨b,T,cur,g,rfl,hb,blk_keep k hh hb,hsub,hdis,fun j x hx => ?_⟩
  obtain ⟨cs,h4,h5,h6⟩ := hf j x hx
  exact ⟨cs,hR (g j) x cs (List.mem_of_getElem? hx) h4 (k.mono fun i _ hi => (hsub j i hi).1),h5,h6⟩
theorem SSl.nil {α : Type} {sz : Nat} {R : World → (Nat → Prop) → α → List Value → Prop} {w : World} {ok : Nat → Prop} : SSl sz R w ok (.slice none 0 0) [] :=
  ⟨none,0,rfl,Nat.le_refl _,by omega,fun h => absurd rfl h⟩
inductive SV (w : World) : (Nat → Prop) → V → List Value → Prop where
  | mk (ok : Nat → Prop) (v : V) (a : Option Addr) (c : Nat) (b : Nat) (T : TypeId) (cur : Array Value) (f : Nat → List Value) (g : Nat → Nat → Prop) (h1 : I64 v.kind) (h2 : I64 v.num) (h3 : Fits v.text) (hc : v.list.length ≤ c) (hm : c ≤ 9223372036854775807)
      (ha : v.list ≠ [] → a = some ⟨b,0,none⟩) (ho : v.list ≠ [] → ok b) (hh : v.list ≠ [] → w.heap[b]? = some (.cells cur T (0,0))) (hsub : ∀ j k,v.list ≠ [] → g j k → ok k ∧ k ≠ b) (hdis : ∀ i j k,i ≠ j → g i k → ¬ g j k)
      (hr : ∀ j x,v.list[j]? = some x → SV w (g j) x (f j)) (hcell : ∀ j x,v.list[j]? = some x → ∀ i u,(f j)[i]? = some u → cur[j * 4 + i]? = some u) :
      SV w ok v [.int .i64 v.kind,.int .i64 v.num,.string v.text,.slice a v.list.length c]
theorem SV.len {w : World} {ok : Nat → Prop} {v : V} {cs : List Value} (h : SV w ok v cs) : cs.length = 4 := by cases h;rfl
theorem SV.vr {w : World} {ok : Nat → Prop} {v : V} {cs : List Value} (h : SV w ok v cs) : VR w ok v cs := by
  induction h with
  | mk ok v a c b T cur f g h1 h2 h3 hc hm ha ho hh hsub hdis hr hcell ih =>
    exact .mk v a c ⟨b,0,none⟩ f h1 h2 h3 hc hm ha ho (fun j x hx => (ih j x hx).mono fun k _ hk => (hsub j k (fun e => by rw [e] at hx;cases hx) hk).1) fun j x hx => blk_cells (hh (fun e => by rw [e] at hx;cases hx)) (hcell j x hx)
theorem SV.keep {w w' : World} {ok : Nat → Prop} {v : V} {cs : List Value} (h : SV w ok v cs) (k : Keep ok w w') : SV w' ok v cs := by
  induction h with
  | mk ok v a c b T cur f g h1 h2 h3 hc hm ha ho hh hsub hdis hr hcell ih =>
    exact .mk ok v a c b T cur f g h1 h2 h3 hc hm ha ho (fun hn => blk_keep k (hh hn) (ho hn)) hsub hdis (fun j x hx => ih j x hx (k.mono fun i _ hi => (hsub j i (fun e => by rw [e] at hx;cases hx) hi).1)) hcell
theorem SV.mono {w : World} {ok ok' : Nat → Prop} {v : V} {cs : List Value} (h : SV w ok v cs) (k : ∀ k,ok k → ok' k) : SV w ok' v cs := by
  cases h with
  | mk _ _ a c b T cur f g h1 h2 h3 hc hm ha ho hh hsub hdis hr hcell =>
    exact .mk ok' v a c b T cur f g h1 h2 h3 hc hm ha (fun hn => k _ (ho hn)) hh (fun j i hn hi => ⟨k _ (hsub j i hn hi).1,(hsub j i hn hi).2⟩) hdis hr hcell
abbrev SVs (w : World) (ok : Nat → Prop) (v : Value) (l : List V) : Prop := SSl 4 SV w ok v l
theorem SVs.keep {w w' : World} {ok : Nat → Prop} {v : Value} {l : List V} (h : SVs w ok v l) (k : Keep ok w w') : SVs w' ok v l := SSl.keep h (fun _ _ _ _ h k => h.keep k) k
theorem SV.iff {w : World} {ok : Nat → Prop} {v : V} {cs : List Value} : SV w ok v cs ↔ ∃ s,cs = [.int .i64 v.kind,.int .i64 v.num,.string v.text,s] ∧ I64 v.kind ∧ I64 v.num ∧ Fits v.text ∧ SVs w ok s v.list := by
  constructor
  · rintro ⟨_,_,a,c,b,T,cur,f,g,h1,h2,h3,hc,hm,ha,ho,hh,hsub,hdis,hr,hcell⟩
    exact ⟨_,rfl,h1,h2,h3,a,c,rfl,hc,hm,fun hn => ⟨b,T,cur,g,ha hn,ho hn,hh hn,fun j k => hsub j k hn,hdis,fun j x hx => ⟨f j,hr j x hx,(hr j x hx).len,hcell j x hx⟩⟩⟩
  · rintro ⟨s,rfl,h1,h2,h3,a,c,rfl,hc,hm,h⟩
    by_cases hn : v.list = []
    · exact .mk ok v a c 0 0 #[] (fun _ => []) (fun _ _ => False) h1 h2 h3 hc hm (fun h => absurd hn h) (fun h => absurd hn h) (fun h => absurd hn h) (fun _ _ h => absurd hn h) (fun _ _ _ _ h => h.elim) (fun j x hx => by rw [hn] at hx;cases hx) (fun j x hx => by rw [hn] at hx;cases hx)
    · obtain ⟨b,T,cur,g,rfl,ho,hh,hsub,hdis,hf⟩ := h hn
      have hf' : ∀ j,∃ cs,∀ x,v.list[j]? = some x → SV w (g j) x cs ∧ ∀ i u,cs[i]? = some u → cur[j * 4 + i]? = some u := fun j => by
        cases hx : v.list[j]? with
        | none => exact ⟨[],fun x h => by cases h⟩
        | some x => obtain ⟨cs,h,_,h'⟩ := hf j x hx;exact ⟨cs,fun y hy => by cases hy;exact ⟨h,h'⟩⟩
      exact .mk ok v _ c b T cur (fun j => (hf' j).choose) g h1 h2 h3 hc hm (fun _ => rfl) (fun _ => ho) (fun _ => hh) (fun j k _ => hsub j k) hdis (fun j x hx => ((hf' j).choose_spec x hx).1) (fun j x hx => ((hf' j).choose_spec x hx).2)
def SCe (w : World) (ok : Nat → Prop) (c : Ce) (cs : List Value) : Prop := ∃ d,cs = .string c.name :: d ∧ Fits c.name ∧ SV w ok c.val d
theorem SCe.keep {w w' : World} {ok : Nat → Prop} {c : Ce} {cs : List Value} (h : SCe w ok c cs) (k : Keep ok w w') : SCe w' ok c cs := by
  obtain ⟨d,rfl,h1,h2⟩ := h;exact ⟨d,rfl,h1,h2.keep k⟩
theorem SCe.ce {w : World} {ok : Nat → Prop} {c : Ce} {cs : List Value} (h : SCe w ok c cs) : CeR w ok c cs := by
  obtain ⟨d,rfl,h1,h2⟩ := h;exact ⟨d,rfl,h1,h2.vr⟩
theorem SCe.len {w : World} {ok : Nat → Prop} {c : Ce} {cs : List Value} (h : SCe w ok c cs) : cs.length = 5 := by
  obtain ⟨d,rfl,h1,h2⟩ := h;rw [List.length_cons,h2.len]
abbrev SCes (w : World) (ok : Nat → Prop) (v : Value) (l : List Ce) : Prop := SSl 5 SCe w ok v l
theorem SCes.keep {w w' : World} {ok : Nat → Prop} {v : Value} {l : List Ce} (h : SCes w ok v l) (k : Keep ok w w') : SCes w' ok v l := SSl.keep h (fun _ _ _ _ h k => h.keep k) k
theorem SCes.ces {w : World} {ok : Nat → Prop} {v : Value} {l : List Ce} (h : SCes w ok v l) : Ces w ok v l := SSl.sl h fun g x cs _ hg h => h.ce.mono fun k _ hk => hg k hk
def SStr (_ : World) (_ : Nat → Prop) (s : ByteArray) (cs : List Value) : Prop := cs = [.string s] ∧ Fits s
abbrev SStrs (w : World) (ok : Nat → Prop) (v : Value) (l : List ByteArray) : Prop := SSl 1 SStr w ok v l
theorem SStrs.keep {w w' : World} {ok : Nat → Prop} {v : Value} {l : List ByteArray} (h : SStrs w ok v l) (k : Keep ok w w') : SStrs w' ok v l := SSl.keep h (fun _ _ _ _ h _ => h) k
theorem SStrs.strs {w : World} {ok : Nat → Prop} {v : Value} {l : List ByteArray} (h : SStrs w ok v l) : Strs w ok v l := SSl.sl h fun g x cs _ hg h => h

def SRow {α : Type} (sz : Nat) (R : World → (Nat → Prop) → α → List Value → Prop) (w : World) (base top : Nat) (T : TypeId) (v : Value) (l : List α) (css : List (List Value)) : Prop :=
  ∃ (g : Nat → Nat → Prop),css.length = l.length ∧ w.ownsRow base T sz v l.length css.flatten ∧ (∀ c,c ∈ css → c.length = sz) ∧
    (∀ j x cs,l[j]? = some x → css[j]? = some cs → R w (g j) x cs) ∧ (∀ j k,g j k → base ≤ k ∧ k < top ∧ v.ownBlock ≠ some k) ∧ (∀ i j k,i ≠ j → g i k → ¬ g j k) ∧ base ≤ top ∧ top ≤ w.heap.size ∧ (∀ k,v.ownBlock = some k → k < top)
theorem SRow.nil {α : Type} {sz : Nat} {R : World → (Nat → Prop) → α → List Value → Prop} (w : World) (base top : Nat) (T : TypeId) (h1 : base ≤ top) (h2 : top ≤ w.heap.size) : SRow sz R w base top T (.slice none 0 0) ([] : List α) [] :=
  ⟨fun _ _ => False,rfl,World.ownsRow_nil ..,(fun _ h => by cases h),(fun j x cs h => by cases h),fun _ _ h => h.elim,fun _ _ _ _ h => h.elim,h1,h2,(fun k h => by cases h)⟩
theorem flatten_at {sz : Nat} : ∀ {css : List (List Value)} {j i : Nat} {cs : List Value} {u : Value},(∀ c,c ∈ css → c.length = sz) → css[j]? = some cs → cs[i]? = some u → css.flatten[j * sz + i]? = some u
  | [],j,_,_,_,_,h,_ => by simp at h
  | c :: css,0,i,cs,u,hl,h,hu => by
    simp only [List.getElem?_cons_zero,Option.some.injEq] at h
    subst h
    rw [List.flatten_cons,Nat.zero_mul,Nat.zero_add,List.getElem?_append_left (List.getElem?_eq_some_iff.1 hu).1,hu]
  | c :: css,j + 1,i,cs,u,hl,h,hu => by
    rw [List.getElem?_cons_succ] at h
    have hc := hl c (List.mem_cons_self ..)
    rw [List.flatten_cons,List.getElem?_append_right (by rw [hc,Nat.add_mul,Nat.one_mul];omega),hc,show (j + 1) * sz + i - sz = j * sz + i by rw [Nat.add_mul,Nat.one_mul];omega]
    exact flatten_at (fun d hd => hl d (List.mem_cons_of_mem _ hd)) h hu
theorem SRow.keep {α : Type} {sz : Nat} {R : World → (Nat → Prop) → α → List Value → Prop} {w w' : World} {base top : Nat} {T : TypeId} {v : Value} {l : List α} {css : List (List Value)} (hk : ∀ {w w' ok x cs},R w ok x cs → Keep ok w w' → R w' ok x cs)
    (h : SRow sz R w base top T v l css) (k : Keep Any w w') : SRow sz R w' base top T v l css := by
  obtain ⟨g,h1,h2,h3,h4,h5,h6,h7,h8,h9⟩ := h
  exact ⟨g,h1,h2.kept (row := none) (k.grownBy0 none) (by cases hv : v.ownBlock with | none => exact .inl rfl | some b => exact .inr (by simp)),h3,fun j x cs hx hc => hk (h4 j x cs hx hc) k.any,h5,h6,h7,Nat.le_trans h8 k.size,h9⟩
theorem SRow.own {α : Type} {sz : Nat} {R : World → (Nat → Prop) → α → List Value → Prop} {w : World} {base top : Nat} {T : TypeId} {v : Value} {l : List α} {css : List (List Value)} (h : SRow sz R w base top T v l css) : w.ownsRow base T sz v l.length css.flatten := by
  obtain ⟨g,h1,h2,_⟩ := h;exact h2
theorem SRow.snoc {α : Type} {sz : Nat} {R : World → (Nat → Prop) → α → List Value → Prop} {w w' : World} {base top : Nat} {T : TypeId} {v v' : Value} {l : List α} {css : List (List Value)} {x : α} {cs : List Value} {gx : Nat → Prop}
    (hk : ∀ {w w' ok x cs},R w ok x cs → Keep ok w w' → R w' ok x cs) (h : SRow sz R w base top T v l css)
    (hown : w'.ownsRow base T sz v' (l.length + 1) (css.flatten ++ cs)) (hg : w.grownBy w' v.ownBlock) (hv : v'.ownBlock = v.ownBlock ∨ v'.ownBlock = some w.heap.size)
    (hx : R w gx x cs) (hl : cs.length = sz) (hgx : ∀ k,gx k → top ≤ k ∧ k < w.heap.size) : SRow sz R w' base w'.heap.size T v' (l ++ [x]) (css ++ [cs]) := by
  obtain ⟨g,h1,h2,h3,h4,h5,h6,h7,h8,h9⟩ := h
  have hsz := hg.size
  have hnew : ∀ k,k < w.heap.size → v.ownBlock ≠ some k → v'.ownBlock ≠ some k := fun k hk hn he => by
    rcases hv with hv | hv
    · exact hn (hv ▸ he)
    · rw [hv] at he;cases he;omega
  have hgk : ∀ gg : Nat → Prop,(∀ k,gg k → v.ownBlock ≠ some k) → Keep gg w w' := fun gg hn => (Keep.refl gg w).grown hg fun k e _ hk => hn k hk e
  refine ⟨fun j k => if j < l.length then g j k else j = l.length ∧ gx k,by simp [h1],by simpa using hown,fun c hc => ?_,fun j y ds hy hd => ?_,fun j k hj => ?_,fun i j k hij hi hj => ?_,by omega,Nat.le_refl _,fun k e => (hown.lt k e).2⟩
  · rcases List.mem_append.1 hc with hc | hc
    · exact h3 c hc
    · rw [List.mem_singleton.1 hc];exact hl
  · by_cases hlt : j < l.length
    · rw [List.getElem?_append_left hlt] at hy
      rw [List.getElem?_append_left (by omega)] at hd
      simp only [hlt,if_true]
      exact hk (h4 j y ds hy hd) (hgk _ fun k hk => (h5 j k hk).2.2)
    · have hj : j = l.length := by
        have := (List.getElem?_eq_some_iff.1 hy).1
        simp only [List.length_append,List.length_singleton] at this
        omega
      subst hj
      rw [List.getElem?_append_right (Nat.le_refl _),Nat.sub_self] at hy
      rw [List.getElem?_append_right (by omega),h1,Nat.sub_self] at hd
      cases hy
      cases hd
      simp only [Nat.lt_irrefl,if_false,true_and]
      exact hk hx (hgk _ fun k hk e => by have := h9 k e;have := (hgx k hk).1;omega)
  · by_cases hlt : j < l.length
    · simp only [hlt,if_true] at hj
      obtain ⟨a1,a2,a3⟩ := h5 j k hj
      exact ⟨a1,by omega,hnew k (by omega) a3⟩
    · simp only [hlt,if_false] at hj
      obtain ⟨a1,a2⟩ := hgx k hj.2
      exact ⟨by omega,by omega,hnew k a2 fun e => by have := h9 k e;omega⟩
  · by_cases hi' : i < l.length <;> by_cases hj' : j < l.length <;> simp only [hi',hj',if_true,if_false] at hi hj
    · exact h6 i j k hij hi hj
    · have := (h5 i k hi).2.1;have := (hgx k hj.2).1;omega
    · have := (h5 j k hj).2.1;have := (hgx k hi.2).1;omega
    · omega
theorem SRow.slice {α : Type} {sz : Nat} {R : World → (Nat → Prop) → α → List Value → Prop} {w : World} {base top : Nat} {T : TypeId} {v : Value} {l : List α} {css : List (List Value)} (h : SRow sz R w base top T v l css) {ok : Nat → Prop}
    (ho : ∀ k,base ≤ k → k < w.heap.size → ok k) : SSl sz R w ok v l := by
  obtain ⟨g,h1,h2,h3,h4,h5,h6,h7,h8,h9⟩ := h
  rcases h2.2 with ⟨rfl,h0⟩ | ⟨b,cap,cur,rfl,hb,hh,hc,hm,hs,ht⟩
  · have : l = [] := List.eq_nil_of_length_eq_zero h0
    subst this
    exact SSl.nil
  · refine ⟨_,cap,rfl,hc,by unfold maxLen at hm;omega,fun hn => ⟨b,T,cur,g,rfl,ho b hb (blk_lt hh),hh,fun j k hk => ?_,h6,fun j x hx => ?_⟩⟩
    · obtain ⟨a1,a2,a3⟩ := h5 j k hk
      exact ⟨ho k a1 (by omega),fun e => a3 (by rw [e];rfl)⟩
    · have hj := (List.getElem?_eq_some_iff.1 hx).1
      have hcs : css[j]? = some css[j] := List.getElem?_eq_getElem (by omega)
      refine ⟨_,h4 j x _ hx hcs,h3 _ (List.getElem_mem _),fun i u hu => ?_⟩
      have := flatten_at h3 hcs hu
      rw [← ht,List.getElem?_take] at this
      split at this
      · simpa using this
      · cases this
theorem rowV_keep {w w' : World} {base top : Nat} {T : TypeId} {v : Value} {l : List V} {css : List (List Value)} (h : SRow 4 SV w base top T v l css) (k : Keep Any w w') : SRow 4 SV w' base top T v l css := SRow.keep (R := SV) (fun h k => SV.keep h k) h k
theorem rowV_snoc {w w' : World} {base top : Nat} {T : TypeId} {v v' : Value} {l : List V} {css : List (List Value)} {x : V} {cs : List Value} {gx : Nat → Prop} (h : SRow 4 SV w base top T v l css)
    (hown : w'.ownsRow base T 4 v' (l.length + 1) (css.flatten ++ cs)) (hg : w.grownBy w' v.ownBlock) (hv : v'.ownBlock = v.ownBlock ∨ v'.ownBlock = some w.heap.size)
    (hx : SV w gx x cs) (hgx : ∀ k,gx k → top ≤ k ∧ k < w.heap.size) : SRow 4 SV w' base w'.heap.size T v' (l ++ [x]) (css ++ [cs]) := SRow.snoc (R := SV) (fun h k => SV.keep h k) h hown hg hv hx hx.len hgx
theorem rowC_keep {w w' : World} {base top : Nat} {T : TypeId} {v : Value} {l : List Ce} {css : List (List Value)} (h : SRow 5 SCe w base top T v l css) (k : Keep Any w w') : SRow 5 SCe w' base top T v l css := SRow.keep (R := SCe) (fun h k => SCe.keep h k) h k
theorem rowC_snoc {w w' : World} {base top : Nat} {T : TypeId} {v v' : Value} {l : List Ce} {css : List (List Value)} {x : Ce} {cs : List Value} {gx : Nat → Prop} (h : SRow 5 SCe w base top T v l css)
    (hown : w'.ownsRow base T 5 v' (l.length + 1) (css.flatten ++ cs)) (hg : w.grownBy w' v.ownBlock) (hv : v'.ownBlock = v.ownBlock ∨ v'.ownBlock = some w.heap.size)
    (hx : SCe w gx x cs) (hgx : ∀ k,gx k → top ≤ k ∧ k < w.heap.size) : SRow 5 SCe w' base w'.heap.size T v' (l ++ [x]) (css ++ [cs]) := SRow.snoc (R := SCe) (fun h k => SCe.keep h k) h hown hg hv hx hx.len hgx
section
variable {P : Program} (w : World)
theorem run_append_sep (base : Nat) (t ty e : TypeId) (i : TypeInfo) (z : Value) (size bytes : Nat) (ht : P.underlying t = some (.slice e)) (hi : P.info? e = some i) (hz : i.zero = some z)
    (hsize : i.size = size) (hby : i.bytes = bytes) (hzs : z.cells.size = size) (hsz : 0 < size)
    (v : Value) (n : Nat) (xs : List Value) (hown : w.ownsRow base e size v n xs)
    (a : Addr) (m c : Nat) (news : List Value) (hl : news.length = m * size) (hnews : ∀ j u,news[j]? = some u → w.cell? (a.add j) = some u) (h1 : ∀ u ∈ news,u.oneCell' = true)
    (h63 : n + m ≤ maxLen) (hbytes : (n + m) * bytes ≤ 140737488355328) (hbase : base ≤ w.heap.size) (hm : 0 < m) :
    ∃ v' w',(Builtin.append_ #[t,t] ty #[v,.slice (some a) m c]).run P w = .ok v' w' ∧ w'.ownsRow base e size v' (n + m) (xs ++ news) ∧ w.grownBy w' v.ownBlock ∧ (v'.ownBlock = v.ownBlock ∨ v'.ownBlock = some w.heap.size) := by
  obtain ⟨v',w',hr,h2,h3,_⟩ := run_append_own (P := P) w base t ty e i z size bytes ht hi hz hsize hby hzs hsz v n xs hown a m c news hl hnews h1 h63 hbytes hbase
  refine ⟨v',w',hr,h2,h3,?_⟩
  subst hsize
  subst hby
  have hsmall : n + m ≤ 9223372036854775807 := by simp only [maxLen] at h63;omega
  rcases hown.2 with ⟨rfl,rfl⟩ | ⟨g,cap,cur,rfl,hbg,hg,hnc,hcm,hcs,htake⟩
  · have hx := run_append_nil (P := P) w t ty e i z ht hi hz a m c news hl hnews hm (by omega) (by have hb := hbytes;simp only [Nat.zero_add] at hb;omega)
    rw [hr] at hx
    simp only [Result.ok.injEq] at hx
    rw [hx.1]
    exact .inr rfl
  · by_cases hroom : n + m ≤ cap
    · have hfit : n * i.size + news.length ≤ cur.size := by rw [hl,hcs,← Nat.add_mul];exact Nat.mul_le_mul_right _ hroom
      have hx := run_append_room (P := P) w t ty e i ht hi g n cap cur hg a m c news hl hnews h1 hroom hfit
      rw [hr] at hx
      simp only [Result.ok.injEq] at hx
      rw [hx.1]
      exact .inl rfl
    · have holds : ∀ j u,xs[j]? = some u → w.cell? ((⟨g,0,none⟩ : Addr).add j) = some u := hown.cells (g := g) rfl
      have hx := run_append_grow (P := P) w t ty e i z ht hi hz ⟨g,0,none⟩ n cap xs hown.1 holds a m c news hl hnews (by omega) (by omega) (growslice_fits (by omega) hbytes)
      rw [hr] at hx
      simp only [Result.ok.injEq] at hx
      rw [hx.1]
      exact .inr rfl
theorem wpList_append_sep {ops : Array Oper} {rest : List Oper} {o : Oper} {a : Act} {Q : Exit → Act → World → Prop} (hgd : o.guard = none) (s x : Operand) (t : TypeId)
    (ho : o.op = .call { callee := .builtin .append,args := #[s,x],argTypes := #[t,t] })
    (base : Nat) (e : TypeId) (i : TypeInfo) (z : Value) (size bytes : Nat) (ht : P.underlying t = some (.slice e)) (hi : P.info? e = some i) (hz : i.zero = some z)
    (hsize : i.size = size) (hby : i.bytes = bytes) (hzs : z.cells.size = size) (hsz : 0 < size)
    (v : Value) (n : Nat) (xs : List Value) (hs : a.eval s = v) (hown : w.ownsRow base e size v n xs)
    (ad : Addr) (m c : Nat) (news : List Value) (hx : a.eval x = .slice (some ad) m c) (hl : news.length = m * size) (hnews : ∀ j u,news[j]? = some u → w.cell? (ad.add j) = some u) (h1 : ∀ u ∈ news,u.oneCell' = true)
    (h63 : n + m ≤ maxLen) (hbytes : (n + m) * bytes ≤ 140737488355328) (hbase : base ≤ w.heap.size) (hm : 0 < m)
    (h : ∀ v' w',w'.ownsRow base e size v' (n + m) (xs ++ news) → w.grownBy w' v.ownBlock → (v'.ownBlock = v.ownBlock ∨ v'.ownBlock = some w.heap.size) → wpList P ops Q rest (a.put o.dst v') w') : wpList P ops Q (o :: rest) a w :=
  wpList_plain hgd fun _ hK => by
    obtain ⟨v',w',hr,h2,h3,h4⟩ := run_append_sep (P := P) w base t o.type e i z size bytes ht hi hz hsize hby hzs hsz v n xs hown ad m c news hl hnews h1 h63 hbytes hbase hm
    unfold Oper.wp execOp
    simp only [ho,resolve,invoke,builtin,Sem.run_bind,Sem.run_pure,Result.andThen_ok,List.map_toArray,List.map_cons,List.map_nil,hs,hx,hr]
    exact hK _ _ (h v' w' h2 h3 h4)
end
end Go.Proofs.YtjopkcjpedgoaaaGreatDoor

/- The drawing of numbers out of bytes: a number from 0 to n-1 comes of each pick,whatever the bytes. -/
namespace Go.Proofs.YtjopkcjpedgoaaaGreatDoor
open Go.RowKit
set_option linter.unusedVariables false
set_option linter.unusedSimpArgs false
set_option maxRecDepth 20000
set_option maxHeartbeats 4000000
def Byt (w : World) (b : Nat) (s : Value) (n : Nat) : Prop :=
  ∃ (a : Option Addr) (c : Nat),s = .slice a n c ∧ n ≤ c ∧ c ≤ 9223372036854775807 ∧ (0 < n → ∃ ad : Addr,a = some ad ∧ ad.block ≠ b ∧ ∀ i,i < n → ∃ x : Nat,x < 256 ∧ w.cell? (ad.add i) = some (.int .u8 x))
def Rdr (w : World) (b : Nat) (s : Value) (n p : Nat) : Prop := w.heap[b]? = some (.cells #[s,.int .i64 p] 77 (0,0)) ∧ Byt w b s n
theorem Byt.keep {w w' : World} {b : Nat} {s : Value} {n : Nat} (h : Byt w b s n) (k : Keep (But b) w w') : Byt w' b s n := by
  obtain ⟨a,c,rfl,h1,h2,h3⟩ := h
  refine ⟨a,c,rfl,h1,h2,fun hn => ?_⟩
  obtain ⟨ad,rfl,hb,hf⟩ := h3 hn
  refine ⟨ad,rfl,hb,fun i hi => ?_⟩
  obtain ⟨x,hx,hc⟩ := hf i hi
  exact ⟨x,hx,k.cell hc (by rw [add_block];exact hb)⟩
theorem xor_i64_nat (a b : Nat) (ha : a < 4611686018427387904) (hb : b < 4611686018427387904) : bits .xor .i64 (a : Int) (b : Int) = ((a ^^^ b : Nat) : Int) := by
  have hx : a ^^^ b < 2 ^ 62 := Nat.xor_lt_two_pow (by omega) (by omega)
  have h1 : (BitVec.ofInt 64 (a : Int)).toNat = a := by
    rw [BitVec.ofInt_natCast,BitVec.toNat_ofNat];exact Nat.mod_eq_of_lt (by omega)
  have h2 : (BitVec.ofInt 64 (b : Int)).toNat = b := by
    rw [BitVec.ofInt_natCast,BitVec.toNat_ofNat];exact Nat.mod_eq_of_lt (by omega)
  show IntKind.i64.wrap ((BitVec.ofInt 64 (a : Int) ^^^ BitVec.ofInt 64 (b : Int)).toNat : Int) = _
  rw [BitVec.toNat_xor,h1,h2]
  simp [IntKind.wrap,IntKind.bits,IntKind.signed]
  omega
theorem xor_shift (X : Int) (h0 : 0 ≤ X) (h1 : X < 4611686018427387904) : 0 ≤ bits .xor .i64 X (X / 64) := by
  obtain ⟨n,rfl⟩ := Int.eq_ofNat_of_zero_le h0
  have e : ((n : Int) / 64) = ((n / 64 : Nat) : Int) := by omega
  rw [e,xor_i64_nat n (n / 64) (by omega) (by omega)]
  omega
def Picked (k : Int) (w : World) (b : Nat) (s : Value) (n p : Nat) (e : Ending) (w' : World) : Prop :=
  ∃ j : Int,e = .returned (.int .i64 j) ∧ 0 ≤ j ∧ (1 ≤ k → j < k) ∧ Rdr w' b s n (p + 1) ∧ Keep (But b) w w'
theorem pick_calls (k : Int) (w : World) (b : Nat) (s : Value) (n p : Nat) (h : Rdr w b s n p) (hn : n ≤ 2000) (hp : p ≤ 1000000) (hk : -1000000 ≤ k ∧ k ≤ 1000000) :
    Calls Tryz.prog 26 #[.pointer (some ⟨b,0,none⟩),.int .i64 k] w (Picked k w b s n p) := by
  obtain ⟨hb,hs⟩ := h
  have HB := hyd hb
  have HS := hyd hs
  have y0 : w.cell? ⟨b,0,none⟩ = some s := (blk_cell hb 0).trans rfl
  have y1 : w.cell? ⟨b,1,none⟩ = some (.int .i64 p) := (blk_cell hb 1).trans rfl
  have f0 := blk_frozen hb 0
  have f1 := blk_frozen hb 1
  have zb := blk_lt hb
  have hR := hyd (show ∀ w',Keep (But b) (w.setCell ⟨b,1,none⟩ (.int .i64 ((p : Int) + 1))) w' → w'.heap[b]? = (w.setCell ⟨b,1,none⟩ (.int .i64 ((p : Int) + 1))).heap[b]? → Rdr w' b s n (p + 1) ∧ Keep (But b) w w' from fun w' hk he => by
    have k1 : Keep (But b) w w' := ((Keep.refl _ _).set _ _ (fun _ h => h rfl)).trans hk
    exact ⟨⟨he.trans ((blk_set hb 1 _).trans rfl),hs.keep k1⟩,k1⟩)
  obtain ⟨a,c,rfl,h1,h2,h3⟩ := hs
  clear hb
  by_cases hk1 : k < 1
  · go_enter Tryz.func26,Tryz.ntmps26
    go_wp2
    go_ret
    exact ⟨0,rfl,by omega,fun h => by omega,hR.out _ (Keep.refl _ _) rfl⟩
  by_cases hn0 : n = 0
  · have q0 : ((n : Int) == 0) = true := by rw [hn0];rfl
    clear hn0
    go_enter Tryz.func26,Tryz.ntmps26
    go_wp2
    go_ret
    exact ⟨0,rfl,by omega,fun h => by omega,hR.out _ (Keep.refl _ _) rfl⟩
  have q0 : ((n : Int) == 0) = false := by rw [beq_eq_false_iff_ne];omega
  obtain ⟨ad,rfl,had,hf⟩ := h3 (by omega)
  have HF := hyd hf
  have HAD := hyd had
  clear hf h3
  by_cases hpn : p < n
  · obtain ⟨x,hx,hc⟩ := HF.out p hpn
    have hc2 := ((Keep.refl (But b) w).set ⟨b,1,none⟩ (.int .i64 ((p : Int) + 1)) (fun _ h => h rfl)).cell hc (show But b _ by rw [add_block];exact had)
    have cc : (p : Int) < (n : Int) := by omega
    clear hc had
    go_enter Tryz.func26,Tryz.ntmps26
    go_wp2
    go_ret
    exact ⟨(x : Int) % k,rfl,Int.emod_nonneg _ (by omega),fun _ => Int.emod_lt_of_pos _ (by omega),hR.out _ (Keep.refl _ _) rfl⟩
  · have cc : ¬ (p : Int) < (n : Int) := by omega
    obtain ⟨i1,hi1⟩ : ∃ i : Nat,i = p % n := ⟨_,rfl⟩
    obtain ⟨i2,hi2⟩ : ∃ i : Nat,i = (p * 7 + 3) % n := ⟨_,rfl⟩
    have l1 : i1 < n := hi1 ▸ Nat.mod_lt _ (by omega)
    have l2 : i2 < n := hi2 ▸ Nat.mod_lt _ (by omega)
    obtain ⟨x1,hx1,hc1⟩ := HF.out i1 l1
    obtain ⟨x2,hx2,hc2⟩ := HF.out i2 l2
    have hd1 := ((Keep.refl (But b) w).set ⟨b,1,none⟩ (.int .i64 ((p : Int) + 1)) (fun _ h => h rfl)).cell hc1 (show But b _ by rw [add_block];exact had)
    have hd2 := ((Keep.refl (But b) w).set ⟨b,1,none⟩ (.int .i64 ((p : Int) + 1)) (fun _ h => h rfl)).cell hc2 (show But b _ by rw [add_block];exact had)
    have e1 : (p : Int) % (n : Int) = (i1 : Int) := by rw [hi1];rfl
    have e2 : ((p : Int) * 7 + 3) % (n : Int) = (i2 : Int) := by rw [hi2];push_cast;rfl
    have n0 : (n : Int) ≠ 0 := by omega
    obtain ⟨i3,hi3⟩ : ∃ i : Nat,i = p / n := ⟨_,rfl⟩
    have l3 : i3 ≤ p := hi3 ▸ Nat.div_le_self _ _
    have e3 : (p : Int) / (n : Int) = (i3 : Int) := by rw [hi3];push_cast;rfl
    clear hi3
    clear hc1 hc2 had hi1 hi2
    go_enter Tryz.func26,Tryz.ntmps26
    go_wp2
    go_quiet (fail)
    go_wp2
    go_ret
    exact ⟨_,rfl,Int.tmod_nonneg _ (xor_shift _ (by omega) (by omega)),fun _ => Int.tmod_lt_of_pos _ (by omega),hR.out _ ((Keep.refl _ _).drewN _) rfl⟩

/- One of a list of texts,drawn;a reader begun. -/
set_option maxRecDepth 20000
theorem of_calls (l : List ByteArray) (v : Value) (w : World) (b : Nat) (s : Value) (n p : Nat) (h : Rdr w b s n p) (hn : n ≤ 2000) (hp : p ≤ 1000000) (hl : 1 ≤ l.length) (hl2 : l.length ≤ 1000) (hv : Strs w (But b) v l) :
    Calls Tryz.prog 20 #[.pointer (some ⟨b,0,none⟩),v] w fun e w' => ∃ x,x ∈ l ∧ e = .returned (.string x) ∧ Rdr w' b s n (p + 1) ∧ Keep (But b) w w' := by
  have HV := hyd hv
  have PK := hyd (pick_calls (l.length : Int) w b s n p h hn hp (by omega))
  obtain ⟨a,c,rfl,h1,h2,_⟩ := hv
  clear h
  go_enter Tryz.func20,Tryz.ntmps20
  go_wp2_with fail
  refine PK.out.mono ?_
  rintro e w2 ⟨j,rfl,j0,j1,hR2,hK2⟩
  have j2 := j1 (by omega)
  obtain ⟨i,rfl⟩ := Int.eq_ofNat_of_zero_le j0
  have hi : i < l.length := by omega
  obtain ⟨ad,rfl,hx,hc⟩ := strs_at HV.out hK2 (List.getElem?_eq_getElem hi)
  have R2 := hyd hR2
  have K2 := hyd hK2
  have HM := hyd (show l[i] ∈ l from List.getElem_mem hi)
  generalize l[i] = x at *
  clear hR2 hK2 j1
  go_wp2
  go_ret
  exact ⟨x,HM.out,rfl,R2.out,K2.out⟩
theorem l1Open_calls (v : Value) (n : Nat) (w : World) (hv : Byt w w.heap.size v n) : Calls Tryz.prog 19 #[v] w fun e w' => ∃ (s : Value) (m : Nat),m ≤ 2000 ∧ e = .returned (.pointer (some ⟨w.heap.size,0,none⟩)) ∧ Rdr w' w.heap.size s m 0 ∧ Keep Any w w' := by
  obtain ⟨a,c,rfl,h1,h2,h3⟩ := hv
  have H3 := hyd h3
  clear h3
  by_cases hn : 2000 < n
  · have c1 : (2000 : Int) < (n : Int) := by omega
    obtain ⟨ad,rfl,hb,hf⟩ := H3.out (by omega)
    have HF := hyd hf
    have HB := hyd hb
    clear hb hf
    go_enter Tryz.func19,Tryz.ntmps19
    go_wp2
    go_ret
    exact ⟨.slice (some ad) 2000 c,2000,by omega,rfl,⟨blk_new _ _,some ad,c,rfl,by omega,h2,fun _ => ⟨ad,rfl,HB.out,fun i hi => by obtain ⟨x,hx,hc⟩ := HF.out i (by omega);exact ⟨x,hx,((Keep.refl Any w).alloc _).cell hc trivial⟩⟩⟩,(Keep.refl _ _).alloc _⟩
  · have c1 : ¬ (2000 : Int) < (n : Int) := by omega
    go_enter Tryz.func19,Tryz.ntmps19
    go_wp2
    go_ret
    exact ⟨.slice a n c,n,by omega,rfl,⟨blk_new _ _,a,c,rfl,h1,h2,fun hn => by obtain ⟨ad,rfl,hb,hf⟩ := H3.out hn;exact ⟨ad,rfl,hb,fun i hi => by obtain ⟨x,hx,hc⟩ := hf i hi;exact ⟨x,hx,((Keep.refl Any w).alloc _).cell hc trivial⟩⟩⟩,(Keep.refl _ _).alloc _⟩

/- One of a list of numbers,drawn. -/
set_option maxRecDepth 20000
def Ints (w : World) (b : Nat) (v : Value) (l : List Int) : Prop := ∃ (ad : Addr) (c : Nat),v = .slice (some ad) l.length c ∧ l.length ≤ c ∧ c ≤ 9223372036854775807 ∧ ad.block ≠ b ∧ ∀ i x,l[i]? = some x → w.cell? (ad.add i) = some (.int .i64 x)
theorem one_calls (l : List Int) (v : Value) (w : World) (b : Nat) (s : Value) (n p : Nat) (h : Rdr w b s n p) (hn : n ≤ 2000) (hp : p ≤ 1000000) (hl : 1 ≤ l.length) (hl2 : l.length ≤ 1000) (hv : Ints w b v l) :
    Calls Tryz.prog 43 #[.pointer (some ⟨b,0,none⟩),v] w fun e w' => ∃ x,x ∈ l ∧ e = .returned (.int .i64 x) ∧ Rdr w' b s n (p + 1) ∧ Keep (But b) w w' := by
  have PK := hyd (pick_calls (l.length : Int) w b s n p h hn hp (by omega))
  obtain ⟨ad,c,rfl,h1,h2,h3,h4⟩ := hv
  have H4 := hyd h4
  have H3 := hyd h3
  clear h h4 h3
  go_enter Tryz.func43,Tryz.ntmps43
  go_wp2_with fail
  refine PK.out.mono ?_
  rintro e w2 ⟨j,rfl,j0,j1,hR2,hK2⟩
  have j2 := j1 (by omega)
  obtain ⟨i,rfl⟩ := Int.eq_ofNat_of_zero_le j0
  have hi : i < l.length := by omega
  have hc := hK2.cell (H4.out i _ (List.getElem?_eq_getElem hi)) (show But b _ by rw [add_block];exact H3.out)
  have R2 := hyd hR2
  have K2 := hyd hK2
  have HM := hyd (show l[i] ∈ l from List.getElem_mem hi)
  generalize l[i] = x at *
  clear hR2 hK2 j1
  go_wp2
  go_ret
  exact ⟨x,HM.out,rfl,R2.out,K2.out⟩

/- A text many times: some text of bounded size. -/
set_option maxRecDepth 20000
theorem l1Many_calls (t : ByteArray) (n : Nat) (w : World) (hb : t.size * n ≤ 1000000) (hn : n ≤ 1000000) (ht : t.size ≤ 1000000) : Calls Tryz.prog 21 #[.string t,.int .i64 n] w fun e w' => ∃ x : ByteArray,x.size ≤ 1000000 ∧ e = .returned (.string x) ∧ Keep Any w w' := by
  go_enter Tryz.func21,Tryz.ntmps21
  go_wp2
  go_loopg [0,1,5] (n + 1) (fun g x y z wr => ∃ (s o : ByteArray) (m : Nat),x = .string s ∧ y = .int .i64 m ∧ z = .string o ∧ m < g ∧ m ≤ n ∧ o.size + s.size * m ≤ 1000000 ∧ Keep Any w wr)
  case atStart => exact ⟨t,⟨#[]⟩,n,rfl,rfl,rfl,by omega,by omega,by have e : (⟨#[]⟩ : ByteArray).size = 0 := rfl;omega,Keep.refl _ _⟩
  case round =>
    obtain ⟨s,o,m,rfl,rfl,rfl,hg,hm,hs,hK⟩ := hrel
    have HK := hyd hK
    clear hK
    by_cases h0 : 0 < m
    · have c0 : (0 : Int) < (m : Int) := by omega
      have hs1 : s.size ≤ s.size * m := Nat.le_mul_of_pos_right _ h0
      have nn : ¬ 9223372036854775807 < s.size + s.size := by omega
      have n2 : ¬ 9223372036854775807 < o.size + s.size := by omega
      have HS := hyd hs
      have e1 : m = 2 * (m / 2) + m % 2 := by omega
      have E1 := hyd (show s.size * m = (s.size + s.size) * (m / 2) + s.size * (m % 2) from (congrArg (s.size * ·) e1).trans (by rw [Nat.mul_add,← Nat.mul_assoc,Nat.mul_two]))
      clear hs e1
      by_cases h1 : m % 2 = 1
      · have q1 : (((m : Int) % 2) == 1) = true := by rw [beq_iff_eq];omega
        have H1 := hyd h1
        clear h1
        go_wp2
        go_roundg (gk - 1)
        case rel => exact ⟨s ++ s,o ++ s,m / 2,rfl,by go_num,rfl,by omega,by omega,by rw [ByteArray.size_append,ByteArray.size_append];have h1 := E1.out;rw [H1.out,Nat.mul_one] at h1;have := HS.out;omega,HK.out⟩
        case measure => omega
      · have q1 : (((m : Int) % 2) == 1) = false := by rw [beq_eq_false_iff_ne];omega
        have H1 := hyd (show m % 2 = 0 by omega)
        clear h1
        go_wp2
        go_roundg (gk - 1)
        case rel => exact ⟨s ++ s,o,m / 2,rfl,by go_num,rfl,by omega,by omega,by rw [ByteArray.size_append];have h1 := E1.out;rw [H1.out,Nat.mul_zero] at h1;have := HS.out;omega,HK.out⟩
        case measure => omega
    · go_wp2
      go_ret
      exact ⟨o,by omega,rfl,HK.out⟩

/- A number's figures,and one byte as a text. No condition. -/

theorem one_byte (W : World) (g : Nat) (x : Int) (h : W.cell? ⟨g,0,none⟩ = some (.int .u8 x)) :
    (convert 22 9 (.slice (some ⟨g,0,none⟩) 1 1)).run Tryz.prog W = .ok (.string ⟨#[UInt8.ofNat x.toNat]⟩) W := by
  refine (run_convert_bytes_arg W 22 5 Tryz.underlying22 Tryz.underlying5 g 0 1 1 [x] rfl (fun i hi => ?_) 9 Tryz.underlying9).trans rfl
  obtain rfl : i = 0 := by simpa using hi
  exact h
theorem dec_big {n : Nat} (h : ¬ n < 10) : Lib.decDigits n = Lib.decDigits (n / 10) ++ [UInt8.ofNat (48 + n % 10)] := by rw [Lib.decDigits,dif_neg h]
theorem dec_small {n : Nat} (h : n < 10) : Lib.decDigits n = [UInt8.ofNat (48 + n)] := by rw [Lib.decDigits,dif_pos h]
theorem dec_len (n : Nat) (h : n < 18446744073709551616) : (Lib.decDigits n).length ≤ 20 := by rw [Lib.decDigits_length];exact Lib.nDigits_le20 n h
theorem bytes_app (l m : List UInt8) : (⟨l.toArray⟩ : ByteArray) ++ ⟨m.toArray⟩ = ⟨(l ++ m).toArray⟩ := by
  apply ByteArray.ext
  simp [ByteArray.data_append]
theorem dec_join {n : Nat} (h : ¬ n < 10) : (⟨(Lib.decDigits (n / 10)).toArray⟩ : ByteArray) ++ ⟨#[48 + UInt8.ofNat (n % 10)]⟩ = ⟨(Lib.decDigits n).toArray⟩ := by
  rw [dec_big h,← bytes_app]
  simp [UInt8.ofNat_add]

/- A number in decimals: the reference's l1Dec writes what strconv.Itoa writes. For every int. -/
set_option maxRecDepth 20000
theorem l1Dec_nat (n : Nat) : ∀ (w : World),n ≤ 9223372036854775807 →
    Calls Tryz.prog 24 #[.int .i64 n] w (Str (Lib.decDigits n) w) := by
  induction n using Nat.strongRecOn with
  | _ n ih =>
  intro w hn
  have HN := hyd hn
  clear hn
  have b0 : decide ((n : Int) < -9223372036854775807) = false := by rw [decide_eq_false_iff_not];omega
  have b1 : decide ((n : Int) < 0) = false := by rw [decide_eq_false_iff_not];omega
  have kc := one_byte
  by_cases h : n < 10
  · go_enter Tryz.func24,Tryz.ntmps24
    go_wp2
    go_ret
    exact ⟨by rw [dec_small h];rfl,(Keep.refl _ _).alloc _⟩
  · have IH := hyd fun w => ih (n / 10) (by omega) w (by have := HN.out;omega)
    clear ih
    go_enter Tryz.func24,Tryz.ntmps24
    go_wp2
    have q1 : IntKind.i64.wrap ((n : Int) / 10) = ((n / 10 : Nat) : Int) := by have := HN.out;rw [IntWalk.i64_in _ ⟨by omega,by omega⟩];omega
    have q2 : IntKind.u8.wrap (IntKind.i64.wrap (48 + (n : Int).tmod 10)) = ((48 + n % 10 : Nat) : Int) := by
      rw [Int.tmod_eq_emod_of_nonneg (by omega),IntWalk.i64_in _ ⟨by omega,by omega⟩,IntWalk.u8_in _ ⟨by omega,by omega⟩];omega
    have hl := dec_len (n / 10) (by have := HN.out;omega)
    go_region_with (go_at_call 24;refine (IH.out _).mono ?_;rintro e w' ⟨rfl,hK⟩;obtain ⟨hc,hf⟩ := hK.cells)
    all_goals clear q1 q2
    all_goals go_wp2
    all_goals
      go_ret
      exact ⟨congrArg (fun s => Ending.returned (.string s)) (dec_join h),by first | exact ((Keep.refl _ _).drew.trans hK).alloc _ | exact ((Keep.refl _ _).alloc _).drew.trans hK⟩

theorem min_dec : Lib.itoa (-9223372036854775808) = [45,57,50,50,51,51,55,50,48,51,54,56,53,52,55,55,53,56,48,56] := by
  simp [Lib.itoa,Lib.decDigits]
theorem l1Dec_calls (n : Int) (w : World) (h0 : -9223372036854775808 ≤ n) (h1 : n ≤ 9223372036854775807) :
    Calls Tryz.prog 24 #[.int .i64 n] w (Str (Lib.itoa n) w) := by
  by_cases h : 0 ≤ n
  · obtain ⟨m,rfl⟩ := Int.eq_ofNat_of_zero_le h
    have := l1Dec_nat m w (by omega)
    rwa [show Lib.itoa (m : Int) = Lib.decDigits m by simp only [Lib.itoa];rw [if_neg (by omega)];simp]
  · by_cases hm : n < -9223372036854775807
    · obtain rfl : n = -9223372036854775808 := by omega
      rw [min_dec]
      go_enter Tryz.func24,Tryz.ntmps24
      go_wp2
      go_ret
      exact ⟨rfl,Keep.refl _ _⟩
    · obtain ⟨m,rfl⟩ : ∃ m : Nat,n = -(m : Int) := ⟨n.natAbs,by omega⟩
      have IH := hyd fun w => l1Dec_nat m w (by omega)
      have hl := dec_len m (by omega)
      have he : Lib.itoa (-(m : Int)) = 45 :: Lib.decDigits m := by simp only [Lib.itoa];rw [if_pos (by omega),show (-(m : Int)).natAbs = m by omega]
      have HE := hyd he
      have b0 : decide (-(m : Int) < -9223372036854775807) = false := by rw [decide_eq_false_iff_not];omega
      have b1 : decide (-(m : Int) < 0) = true := by rw [decide_eq_true_iff];omega
      have b2 : decide (9223372036854775807 < (m : Int)) = false := by rw [decide_eq_false_iff_not];omega
      have b3 : decide (0 < (m : Int)) = true := by rw [decide_eq_true_iff];omega
      have q1 : IntKind.i64.wrap (m : Int) = (m : Int) := IntWalk.i64_in _ ⟨by omega,by omega⟩
      have q2 : IntKind.i64.wrap (- -(m : Int)) = (m : Int) := by rw [Int.neg_neg];exact q1
      have b4 : 0 < m := by omega
      clear he h0 h1 h hm
      go_enter Tryz.func24,Tryz.ntmps24
      go_wp2_with (go_at_call 24;refine (IH.out _).mono ?_;rintro e w' ⟨rfl,hK⟩)
      all_goals
        go_ret
        exact ⟨congrArg (fun s => Ending.returned (.string s)) (by rw [HE.out];exact bytes_app [45] _),hK⟩

/- A value's text,as a plain function;how long it is. For every value. -/
mutual
def V.put : V → List UInt8
  | ⟨k,n,t,l⟩ => if k = 1 then (if n = 1 then [116,114,117,101] else [102,97,108,115,101]) else if k = 2 then Lib.itoa n else if k = 3 then 39 :: (t.data.toList ++ [39])
    else if k = 4 then 91 :: (Lib.join (V.putL l) [44,32] ++ [93]) else if k = 5 then 35 :: Lib.itoa n else if k = 6 then 64 :: Lib.itoa n else [110,117,108,108]
def V.putL : List V → List (List UInt8)
  | [] => []
  | x :: l => V.put x :: V.putL l
end
theorem V.putL_map : ∀ l : List V,V.putL l = l.map V.put
  | [] => by rw [V.putL];rfl
  | x :: l => by rw [V.putL,V.putL_map l];rfl
def rowTxt (l : List V) : List UInt8 := 91 :: (Lib.join (l.map V.put) [44,32] ++ [93])
theorem put_list (n : Int) (t : ByteArray) (l : List V) : V.put ⟨4,n,t,l⟩ = rowTxt l := by rw [V.put,V.putL_map];rfl
theorem join_snoc (xs : List (List UInt8)) (x sep : List UInt8) : Lib.join (xs ++ [x]) sep = if xs = [] then x else Lib.join xs sep ++ sep ++ x := by
  cases xs with
  | nil => simp [Lib.join_one]
  | cons y r => simp [Lib.join_cons,Lib.joinTail]
theorem joinTail_len (b : Nat) : ∀ (xs : List (List UInt8)),(∀ x,x ∈ xs → x.length ≤ b) → (Lib.joinTail [44,32] xs).length ≤ xs.length * (b + 2)
  | [],_ => by simp [Lib.joinTail]
  | x :: r,h => by
    have := joinTail_len b r fun y hy => h y (List.mem_cons_of_mem _ hy)
    have h0 := h x (List.mem_cons_self ..)
    have e : Lib.joinTail [44,32] (x :: r) = [44,32] ++ x ++ Lib.joinTail [44,32] r := by simp [Lib.joinTail]
    rw [e]
    simp only [List.length_append,List.length_cons,List.length_nil,Nat.add_mul] at *
    omega
theorem join_len (b : Nat) (xs : List (List UInt8)) (h : ∀ x,x ∈ xs → x.length ≤ b) : (Lib.join xs [44,32]).length ≤ xs.length * (b + 2) := by
  cases xs with
  | nil => simp [Lib.join_nil]
  | cons x r =>
    rw [Lib.join_cons]
    have := joinTail_len b r fun y hy => h y (List.mem_cons_of_mem _ hy)
    have h0 := h x (List.mem_cons_self ..)
    simp only [List.length_append,List.length_cons,Nat.add_mul] at *
    omega
theorem itoa_len2 (n : Int) (h0 : -1000000000 ≤ n) (h1 : n ≤ 1000000000) : (Lib.itoa n).length ≤ 21 := by
  simp only [Lib.itoa]
  have := dec_len n.natAbs (by omega)
  have := dec_len n.toNat (by omega)
  split <;> simp <;> omega
theorem okV_list {d : Nat} {n : Int} {t : ByteArray} {l : List V} (h : okV (d + 1) ⟨4,n,t,l⟩ = true) : l.length ≤ 6 ∧ ∀ x,x ∈ l → okV d x = true := by
  simp [okV] at h
  exact ⟨by omega,h.2⟩
theorem okV_num {d : Nat} {v : V} (h : okV d v = true) : -1000000000 ≤ v.num ∧ v.num ≤ 1000000000 := by
  cases d with
  | zero => simp [okV] at h
  | succ d =>
    obtain ⟨k,n,t,l⟩ := v
    simp only [okV] at h
    (repeat' split at h) <;> simp at h <;> simp only <;> omega
theorem okV_text {d : Nat} {v : V} (h : okV d v = true) (hk : v.kind = 3) : v.text.size ≤ 16 := by
  cases d with
  | zero => simp [okV] at h
  | succ d =>
    obtain ⟨k,n,t,l⟩ := v
    simp only at hk
    subst hk
    simp [okV,textOk] at h
    exact h.1.2.1
theorem rowTxt_len {b : Nat} {l : List V} (h : ∀ x,x ∈ l → x.put.length ≤ b) : (rowTxt l).length ≤ l.length * (b + 2) + 2 := by
  have := join_len b (l.map V.put) fun x hx => by obtain ⟨y,hy,rfl⟩ := List.mem_map.1 hx;exact h y hy
  simp only [rowTxt,List.length_cons,List.length_append,List.length_map,List.length_nil] at *
  omega
theorem put_len : ∀ (d : Nat) (v : V),okV d v = true → v.put.length ≤ 100 ^ d
  | 0,v,h => by simp [okV] at h
  | d + 1,v,h => by
    have hn := okV_num h
    have ht := okV_text h
    have hp : 1 ≤ 100 ^ d := Nat.one_le_pow _ _ (by omega)
    rw [Nat.pow_succ]
    obtain ⟨k,n,t,l⟩ := v
    by_cases h4 : k = 4
    · subst h4
      obtain ⟨hl,ha⟩ := okV_list h
      rw [put_list]
      have := rowTxt_len fun x hx => put_len d x (ha x hx)
      have : l.length * (100 ^ d + 2) ≤ 6 * (100 ^ d + 2) := Nat.mul_le_mul_right _ hl
      omega
    · have hi := itoa_len2 n hn.1 hn.2
      have ht : k = 3 → t.size ≤ 16 := ht
      simp only [Lib.size_eq] at ht
      rw [V.put]
      rw [if_neg h4]
      (repeat' split) <;> (try simp only [List.length_cons,List.length_append,List.length_nil]) <;> (try have := ht ‹_›) <;> omega
theorem put_len3 {d : Nat} {v : V} (h : okV d v = true) (hd : d ≤ 3) : v.put.length ≤ 1000000 :=
  Nat.le_trans (put_len d v h) (by calc 100 ^ d ≤ 100 ^ 3 := Nat.pow_le_pow_right (by omega) hd
                                       _ = 1000000 := rfl)
def outV (l : List V) (k : Nat) : List UInt8 := 91 :: Lib.join ((l.take k).map V.put) [44,32]
theorem outV_succ {l : List V} {k : Nat} {x : V} (h : l[k]? = some x) : outV l (k + 1) = if k = 0 then 91 :: x.put else outV l k ++ [44,32] ++ x.put := by
  have hk : k < l.length := (List.getElem?_eq_some_iff.1 h).1
  have e : l.take (k + 1) = l.take k ++ [x] := by rw [List.take_add_one,h];rfl
  rw [outV,outV,e,List.map_append,List.map_cons,List.map_nil,join_snoc]
  by_cases h0 : k = 0
  · subst h0;simp
  · rw [if_neg (by intro hn;have := congrArg List.length hn;rw [List.length_map,List.length_take,List.length_nil] at this;omega),if_neg h0]
    simp
theorem outV_all (l : List V) : outV l l.length ++ [93] = rowTxt l := by rw [outV,List.take_length];rfl
theorem outV_len {b : Nat} {l : List V} {k : Nat} (h : ∀ x,x ∈ l → x.put.length ≤ b) (hl : l.length ≤ 6) : (outV l k).length ≤ 6 * (b + 2) + 1 := by
  have := join_len b ((l.take k).map V.put) fun x hx => by obtain ⟨y,hy,rfl⟩ := List.mem_map.1 hx;exact h y (List.mem_of_mem_take hy)
  have hk : ((l.take k).map V.put).length ≤ 6 := by simp;omega
  have : ((l.take k).map V.put).length * (b + 2) ≤ 6 * (b + 2) := Nat.mul_le_mul_right _ hk
  simp only [outV,List.length_cons]
  omega
end Go.Proofs.YtjopkcjpedgoaaaGreatDoor

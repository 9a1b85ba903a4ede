/- Lists of texts that grow: what an append of texts leaves. No condition. A list of texts that grows by one text at a time, beside other data. No condition. A row of one's own that grows by one element; all that it holds lies in blocks of a kind. No condition. How expressions lie in memory; an element of any slice, its cells as a walk reads them. No condition. How questions lie in memory: props of patterns, spots, hops, paths, columns, orders, what is set, clauses. No condition. What lies at a place of a slice, told for all later worlds at once. No condition. A whole struct is read out of a row, wherever it lies; a clause of a question. No condition. Which texts are names: the reference's test, for every text. A value's text: the reference's l1Put. For every value that is ok. -/
import Derived.Test.YtjopkcjpedgoaaaGreatDoorMG0
import Derived.Test.YtjopkcjpedgoaaaGreatDoorMG1
import Derived.Laws.Rows
/- Lists of texts that grow: what an append of texts leaves. No condition. -/
namespace Go.Proofs.YtjopkcjpedgoaaaGreatDoor
open Go.RowKit
set_option linter.unusedVariables false
set_option linter.unusedSimpArgs false
theorem infoStr : (Tryz.prog.info? 9).map (fun i => (i.zero,i.size,i.bytes)) = some (some (.string ⟨#[]⟩),1,16) := by kernel_rfl
def OwnS (w : World) (base : Nat) (v : Value) (l : List ByteArray) : Prop := w.ownsRow base 9 1 v l.length (l.map Value.string)
theorem OwnS.strs {w : World} {base : Nat} {v : Value} {l : List ByteArray} {ok : Nat → Prop} (h : OwnS w base v l) (hf : ∀ x,x ∈ l → Fits x) (ho : ∀ k,base ≤ k → k < w.heap.size → ok k) : Strs w ok v l := by
  rcases h.2 with ⟨rfl,h0⟩ | ⟨g,cap,cur,rfl,hb,hg,hnc,hm,hs,ht⟩
  · obtain rfl : l = [] := List.eq_nil_of_length_eq_zero h0
    exact ⟨none,0,rfl,Nat.le_refl _,by decide,fun h => absurd rfl h⟩
  · refine ⟨_,cap,rfl,hnc,by unfold maxLen at hm;omega,fun hn => ⟨_,rfl,ho g hb (blk_lt hg),fun j x hx => ⟨[.string x],⟨rfl,hf x (List.mem_of_getElem? hx)⟩,rfl,fun i u hu => ?_⟩⟩⟩
    cases i with
    | succ i => cases hu
    | zero =>
      cases hu
      have h1 : (l.map Value.string)[j]? = some (.string x) := by rw [List.getElem?_map,hx];rfl
      rw [← ht,List.getElem?_take] at h1
      split at h1
      · have e : (⟨g,0,none⟩ : Addr).add (j * 1 + 0) = ⟨g,j,none⟩ := by unfold Addr.add;split <;> simp_all
        rw [e,blk_cell hg]
        simpa using h1
      · cases h1
theorem OwnS.new {w : World} {base b : Nat} {T : TypeId} (hT : T = 9) (hb : base ≤ b) (h : w.heap[b]? = some (.cells #[] T (0,0))) : OwnS w base (.slice (some ⟨b,0,none⟩) 0 0) [] := by
  subst hT
  exact ⟨rfl,.inr ⟨b,0,#[],rfl,hb,h,Nat.le_refl _,by decide,rfl,rfl⟩⟩
section
variable {P : Program} (w : World)
theorem wpList_append_ex {ops : Array Oper} {rest : List Oper} {o : Oper} {a : Act} {Q : Exit → Act → World → Prop} {R : Value → World → Prop} (hgd : o.guard = none) (s x : Operand) (t : TypeId)
    (ho : o.op = .call { callee := .builtin .append,args := #[s,x],argTypes := #[t,t] }) (v y : Value) (hs : a.eval s = v) (hx : a.eval x = y)
    (hr : ∃ v' w',(Builtin.append_ #[t,t] o.type #[v,y]).run P w = .ok v' w' ∧ R v' w') (h : ∀ v' w',R v' w' → wpList P ops Q rest (a.put o.dst v') w') : wpList P ops Q (o :: rest) a w := by
  obtain ⟨v',w',h1,h2⟩ := hr
  exact wpList_append_by w hgd s x t ho v y v' w' hs hx h1 (h v' w' h2)
theorem run_append_none (t ty e : TypeId) (i : TypeInfo) (z : Value) (ht : P.underlying t = some (.slice e)) (hi : P.info? e = some i) (hz : i.zero = some z) (sa : Option Addr) (n cp : Nat) (hle : n ≤ cp) (a : Option Addr) (c : Nat) :
    (Builtin.append_ #[t,t] ty #[.slice sa n cp,.slice a 0 c]).run P w = .ok (.slice sa n cp) w := by
  cases a with
  | none => cases sa <;> simp [Builtin.append_,run_underlying ht,sizeOf,typeInfo,zeroValue,hi,hz,Builtin.lenOf,run_firstCells_none,storeCells,hle]
  | some a =>
    have hf := run_firstCells_some (P := P) w i.size 0 a 0 c [] (by simp) (by simp)
    cases sa <;> simp [Builtin.append_,run_underlying ht,sizeOf,typeInfo,zeroValue,hi,hz,Builtin.lenOf,hf,storeCells,hle]
end
def AppS (w : World) (base : Nat) (v : Value) (l : List ByteArray) (v' : Value) (w' : World) : Prop := OwnS w' base v' l ∧ w.grownBy w' v.ownBlock ∧ (v'.ownBlock = v.ownBlock ∨ v'.ownBlock = some w.heap.size)
theorem app_strs (w : World) (ty : TypeId) (base : Nat) (v : Value) (l1 : List ByteArray) (hown : OwnS w base v l1) (hbase : base ≤ w.heap.size) (y : Value) (l2 : List ByteArray) (hs : Strs w Any y l2) (hl : l1.length + l2.length ≤ 1000000) :
    ∃ v' w',(Builtin.append_ #[41,41] ty #[v,y]).run Tryz.prog w = .ok v' w' ∧ AppS w base v (l1 ++ l2) v' w' := by
  obtain ⟨i0,hi,hzz⟩ := Option.map_eq_some_iff.1 infoStr
  simp only [Prod.mk.injEq] at hzz
  obtain ⟨hz0,hz1,hz2⟩ := hzz
  obtain ⟨a,c,rfl,h1,h2,h3⟩ := hs
  by_cases hn : l2 = []
  · subst hn
    have hg : w.grownBy w v.ownBlock := (Keep.refl Any w).grownBy0 _
    rcases hown.2 with ⟨rfl,h0⟩ | ⟨g,cap,cur,rfl,hb,hh,hnc,hm,hs,ht⟩
    · exact ⟨_,w,run_append_none (P := Tryz.prog) w _ ty _ i0 _ Tryz.underlying41 hi hz0 none 0 0 (Nat.le_refl _) a c,by rw [List.append_nil];exact hown,hg,.inl rfl⟩
    · exact ⟨_,w,run_append_none (P := Tryz.prog) w _ ty _ i0 _ Tryz.underlying41 hi hz0 _ _ cap hnc a c,by rw [List.append_nil];exact hown,hg,.inl rfl⟩
  · obtain ⟨ad,rfl,_,hf⟩ := h3 hn
    have hlen : 0 < l2.length := List.length_pos_iff.2 hn
    obtain ⟨v',w',hr,ho,hg,hb⟩ := run_append_sep (P := Tryz.prog) w base 41 ty 9 i0 _ 1 16 Tryz.underlying41 hi hz0 hz1 hz2 rfl (by decide) v l1.length _ hown ad l2.length c (l2.map Value.string) (by simp) (fun j u hu => by
      rw [List.getElem?_map] at hu
      obtain ⟨x,hx,rfl⟩ := Option.map_eq_some_iff.1 hu
      obtain ⟨cs,⟨rfl,_⟩,_,hc⟩ := hf j x hx
      have := hc 0 _ rfl
      simpa using this) (fun u hu => by obtain ⟨x,_,rfl⟩ := List.mem_map.1 hu;rfl) (by unfold maxLen;omega) (by omega) hbase hlen
    refine ⟨v',w',hr,?_,hg,hb⟩
    unfold OwnS
    rw [List.length_append,List.map_append]
    exact ho
theorem strs_fits {w : World} {ok : Nat → Prop} {v : Value} {l : List ByteArray} (h : Strs w ok v l) : ∀ x,x ∈ l → Fits x := fun x hx => by
  obtain ⟨j,hj⟩ := List.getElem?_of_mem hx
  obtain ⟨a',c',e,h1,h2,h3⟩ := h
  obtain ⟨ad,e,hb,hf⟩ := h3 (fun e => by rw [e] at hj;cases hj)
  obtain ⟨cs,⟨_,h⟩,_⟩ := hf j x hj
  exact h
theorem blk_new1 (w : World) (o p : Obj) : ((w.alloc o).alloc p).heap[w.heap.size + 1]? = some p := by rw [← World.size_alloc w o];exact blk_new _ _
theorem strs_litF {w : World} {ok : Nat → Prop} {b : Nat} {T : TypeId} {cs : Array Value} (l : List ByteArray) (hcs : cs = (l.map Value.string).toArray) (h : w.heap[b]? = some (.cells cs T (0,0))) (hb : ok b) (hl : l.length ≤ 1000) (hf : ∀ x,x ∈ l → Fits x) : Strs w ok (.slice (some ⟨b,0,none⟩) l.length l.length) l := by
  subst hcs
  refine ⟨_,_,rfl,Nat.le_refl _,by omega,fun _ => ⟨_,rfl,hb,fun j x hx => ⟨[.string x],⟨rfl,hf x (List.mem_of_getElem? hx)⟩,rfl,fun i u hu => ?_⟩⟩⟩
  cases i with
  | succ i => cases hu
  | zero =>
    cases hu
    have e : (⟨b,0,none⟩ : Addr).add (j * 1 + 0) = ⟨b,j,none⟩ := by unfold Addr.add;split <;> simp_all
    rw [e,blk_cell h]
    simp [hx]
theorem strs_lit {w : World} {ok : Nat → Prop} {b : Nat} {T : TypeId} {cs : Array Value} (l : List ByteArray) (hcs : cs = (l.map Value.string).toArray) (h : w.heap[b]? = some (.cells cs T (0,0))) (hb : ok b) (hl : l.length ≤ 1000) (hf : ∀ x,x ∈ l → x.size ≤ 1000) : Strs w ok (.slice (some ⟨b,0,none⟩) l.length l.length) l :=
  strs_litF l hcs h hb hl fun x hx => by have := hf x hx;unfold Fits;omega
theorem OwnS.keepA {w w' : World} {base : Nat} {v : Value} {l : List ByteArray} (h : OwnS w base v l) (k : Keep Any w w') : OwnS w' base v l :=
  World.ownsRow.kept (row := none) h (k.grownBy0 none) (by cases hv : v.ownBlock with | none => exact .inl rfl | some b => exact .inr (by simp))

/- A list of texts that grows by one text at a time,beside other data. No condition. -/
section
variable {P : Program} (w : World)
theorem step_app_ex {ops : Array Oper} {o : Oper} {a : Act} {K : Act → World → Prop} {Q : Exit → Act → World → Prop} {E : Prop} {R : Value → World → Prop} (hgd : o.guard = none) (s x : Operand) (t : TypeId)
    (ho : o.op = .call { callee := .builtin .append,args := #[s,x],argTypes := #[t,t] }) (v y : Value) (hs : a.eval s = v) (hx : a.eval x = y)
    (hr : ∃ v' w',(Builtin.append_ #[t,t] o.type #[v,y]).run P w = .ok v' w' ∧ R v' w') (h : ∀ v' w',R v' w' → K (a.put o.dst v') w') : if Region.wanted o (yielded ops a.tmps) = true then Oper.wp P o a w K Q else E := by
  obtain ⟨v',w',h1,h2⟩ := hr
  exact step_append_by w hgd s x t ho v y v' w' hs hx h1 (h v' w' h2)
end
abbrev Lo (n : Nat) (k : Nat) : Prop := k < n
theorem app_one (w1 : World) (ty : TypeId) (base : Nat) (v : Value) (l : List ByteArray) (x : ByteArray) (h : OwnS w1 base v l) (hb : base ≤ w1.heap.size) (hx : Fits x) (hl : l.length ≤ 1000) :
    ∃ v' w',(Builtin.append_ #[41,41] ty #[v,.slice (some ⟨w1.heap.size,0,none⟩) 1 1]).run Tryz.prog (w1.alloc (.cells #[.string x] 9 (0,0))) = .ok v' w' ∧ (OwnS w' base v' (l ++ [x]) ∧ Keep (Lo base) w1 w') := by
  obtain ⟨v',w',hr,ho,hg,_⟩ := app_strs (w1.alloc (.cells #[.string x] 9 (0,0))) ty base v l (h.keepA ((Keep.refl Any w1).alloc _)) (by simp only [World.size_alloc];omega) (.slice (some ⟨w1.heap.size,0,none⟩) 1 1) [x] (strs_litF [x] rfl (blk_new _ _) trivial (by simp) (fun y hy => by rw [List.mem_singleton.1 hy];exact hx)) (by simp only [List.length_cons,List.length_nil];omega)
  refine ⟨v',w',hr,ho,((Keep.refl (Lo base) w1).alloc _).grown hg fun k hk _ hlt => ?_⟩
  have := (World.ownsRow.lt h k hk).1
  have hlt : k < base := hlt
  omega
theorem OwnS.form {w : World} {base : Nat} {v : Value} {l : List ByteArray} (h : OwnS w base v l) : ∃ a c,v = .slice a l.length c := by
  rcases h.2 with ⟨rfl,h0⟩ | ⟨g,cap,cur,rfl,_⟩
  · exact ⟨none,0,by rw [h0]⟩
  · exact ⟨_,cap,rfl⟩
theorem OwnS.keepB {w w' : World} {base g : Nat} {v : Value} {l : List ByteArray} (h : OwnS w base v l) (k : Keep (But g) w w') (hg : g < base) : OwnS w' base v l :=
  World.ownsRow.kept (row := some g) h k.grownBy (by
    cases hv : v.ownBlock with
    | none => exact .inl rfl
    | some b => exact .inr (by have := (World.ownsRow.lt h b hv).1;intro e;cases e;omega))
theorem Keep.low {ok : Nat → Prop} {a b c : World} {n : Nat} (h : Keep ok a b) (k : Keep (Lo n) b c) (hn : a.heap.size ≤ n) : Keep ok a c := h.then k fun i hi _ => Nat.lt_of_lt_of_le hi hn
theorem strs_upto {w : World} {ok : Nat → Prop} {a : Option Addr} {n c : Nat} {l : List ByteArray} (h : Strs w ok (.slice a n c) l) {k : Nat} (hk : k ≤ l.length) : Strs w ok (.slice a k c) (l.take k) := by
  obtain ⟨a',c',e,h1,h2,h3⟩ := h
  cases e
  refine ⟨a,c,by rw [List.length_take,Nat.min_eq_left hk],by rw [List.length_take];omega,h2,fun hn => ?_⟩
  obtain ⟨ad,e,hb,hf⟩ := h3 (fun e => hn (by rw [e,List.take_nil]))
  exact ⟨ad,e,hb,fun j x hx => hf j x (by rw [List.getElem?_take] at hx;split at hx;exact hx;cases hx)⟩
theorem strs_from {w : World} {ok : Nat → Prop} {a : Option Addr} {n c : Nat} {l : List ByteArray} (h : Strs w ok (.slice a n c) l) {k m : Nat} (hk : k ≤ l.length) (hm : m = l.length - k) : Strs w ok (.slice (if c = k then a else a.map (·.add k)) m (c - k)) (l.drop k) := by
  subst hm
  obtain ⟨a',c',e,h1,h2,h3⟩ := h
  cases e
  refine ⟨_,c - k,by rw [List.length_drop],by rw [List.length_drop];omega,by omega,fun hn => ?_⟩
  have hlt : k < l.length := by
    by_cases h : k < l.length
    · exact h
    · exact absurd (List.drop_eq_nil_of_le (by omega)) hn
  obtain ⟨ad,rfl,hb,hf⟩ := h3 (fun e => by rw [e] at hlt;simp at hlt)
  refine ⟨ad.add k,by rw [if_neg (by omega)];rfl,by rw [add_block];exact hb,fun j x hx => ?_⟩
  obtain ⟨cs,h1,h2,h3⟩ := hf (k + j) x (by rw [List.getElem?_drop] at hx;exact hx)
  refine ⟨cs,h1,h2,fun i u hu => ?_⟩
  have := h3 i u hu
  rw [show (ad.add k).add (j * 1 + i) = ad.add ((k + j) * 1 + i) from by rw [Addr.add_add];congr 1;omega]
  exact this

/- A row of one's own that grows by one element;all that it holds lies in blocks of a kind. No condition. -/
def GRow {α : Type} (sz : Nat) (R : World → (Nat → Prop) → α → List Value → Prop) (w : World) (ok : Nat → Prop) (T : TypeId) (v : Value) (l : List α) : Prop :=
  ∃ css : List (List Value),css.length = l.length ∧ w.ownsRow 0 T sz v l.length css.flatten ∧ (∀ c,c ∈ css → c.length = sz) ∧
    (∀ (j : Nat) (x : α) (cs : List Value),l[j]? = some x → css[j]? = some cs → R w (fun k => ok k ∧ k < w.heap.size ∧ v.ownBlock ≠ some k) x cs) ∧ (∀ k,v.ownBlock = some k → ok k)
abbrev NotOwn (v : Value) (k : Nat) : Prop := v.ownBlock ≠ some k
section
variable {α : Type} {sz : Nat} {R : World → (Nat → Prop) → α → List Value → Prop}
theorem GRow.nil (w : World) (ok : Nat → Prop) (T : TypeId) : GRow sz R w ok T (.slice none 0 0) ([] : List α) :=
  ⟨[],rfl,World.ownsRow_nil ..,(fun _ h => by cases h),(fun j x cs h => by cases h),fun k h => by cases h⟩
theorem GRow.new {w : World} {ok : Nat → Prop} {b : Nat} {T T' : TypeId} (hT : T' = T) (h : w.heap[b]? = some (.cells #[] T' (0,0))) (hb : ok b) : GRow sz R w ok T (.slice (some ⟨b,0,none⟩) 0 0) ([] : List α) := by
  subst hT
  refine ⟨[],rfl,⟨by simp,.inr ⟨b,0,#[],rfl,Nat.zero_le _,h,Nat.le_refl _,by decide,by simp,by simp⟩⟩,(fun _ h => by cases h),(fun j x cs h => by cases h),fun k e => ?_⟩
  have e : some b = some k := e
  cases e;exact hb
theorem GRow.one (hm : ∀ {w ok ok' x cs},R w ok x cs → (∀ k,ok k → ok' k) → R w ok' x cs) {w : World} {ok : Nat → Prop} {b : Nat} {T : TypeId} {x : α} {cs : List Value} {gx : Nat → Prop} (h : w.heap[b]? = some (.cells cs.toArray T (0,0))) (hx : R w gx x cs) (hl : cs.length = sz) (hb : ok b) (hg : ∀ k,gx k → ok k ∧ k < w.heap.size ∧ k ≠ b) : GRow sz R w ok T (.slice (some ⟨b,0,none⟩) 1 1) [x] := by
  refine ⟨[cs],rfl,⟨by simp [hl],.inr ⟨b,1,cs.toArray,rfl,Nat.zero_le _,h,Nat.le_refl _,by decide,by simp [hl],by simp [← hl]⟩⟩,(fun c hc => by rw [List.mem_singleton.1 hc];exact hl),(fun j y ds hy hd => ?_),(fun k e => ?_)⟩
  · cases j with
    | zero => cases hy;cases hd;exact hm hx fun k hk => ⟨(hg k hk).1,(hg k hk).2.1,fun e => (hg k hk).2.2 (by have e : some b = some k := e;cases e;rfl)⟩
    | succ j => cases hy
  · have e : some b = some k := e
    cases e;exact hb
theorem GRow.form {w : World} {ok : Nat → Prop} {T : TypeId} {v : Value} {l : List α} (h : GRow sz R w ok T v l) : ∃ a c,v = .slice a l.length c := by
  obtain ⟨css,h1,h2,_⟩ := h
  rcases h2.2 with ⟨rfl,h0⟩ | ⟨g,cap,cur,rfl,_⟩
  · exact ⟨none,0,by rw [h0]⟩
  · exact ⟨_,cap,rfl⟩
theorem GRow.own {w : World} {ok : Nat → Prop} {T : TypeId} {v : Value} {l : List α} (h : GRow sz R w ok T v l) : ∀ k,v.ownBlock = some k → ok k ∧ k < w.heap.size := fun k e => by
  obtain ⟨css,h1,h2,h3,h4,h5⟩ := h
  exact ⟨h5 k e,(World.ownsRow.lt h2 k e).2⟩
theorem GRow.mono (hm : ∀ {w ok ok' x cs},R w ok x cs → (∀ k,ok k → ok' k) → R w ok' x cs) {w : World} {ok ok' : Nat → Prop} {T : TypeId} {v : Value} {l : List α} (h : GRow sz R w ok T v l) (hi : ∀ k,k < w.heap.size → ok k → ok' k) : GRow sz R w ok' T v l := by
  have ho := h.own
  obtain ⟨css,h1,h2,h3,h4,h5⟩ := h
  exact ⟨css,h1,h2,h3,fun j x cs hx hc => hm (h4 j x cs hx hc) fun k hk => ⟨hi k hk.2.1 hk.1,hk.2⟩,fun k e => hi k (ho k e).2 (h5 k e)⟩
theorem GRow.keep (hk : ∀ {w w' ok x cs},R w ok x cs → Keep ok w w' → R w' ok x cs) (hm : ∀ {w ok ok' x cs},R w ok x cs → (∀ k,ok k → ok' k) → R w ok' x cs) {w w' : World} {ok : Nat → Prop} {T : TypeId} {v : Value} {l : List α} (h : GRow sz R w ok T v l) (k : Keep ok w w') : GRow sz R w' ok T v l := by
  obtain ⟨css,h1,h2,h3,h4,h5⟩ := h
  refine ⟨css,h1,?_,h3,fun j x cs hx hc => hm (hk (h4 j x cs hx hc) (k.mono fun i _ hi => hi.1)) fun i hi => ⟨hi.1,Nat.lt_of_lt_of_le hi.2.1 k.size,hi.2.2⟩,h5⟩
  rcases h2 with ⟨ha,hb⟩
  refine ⟨ha,hb.imp id ?_⟩
  rintro ⟨b,cap,cur,e,hb1,hb2,hr⟩
  exact ⟨b,cap,cur,e,hb1,blk_keep k hb2 (h5 b (by rw [e];rfl)),hr⟩
theorem GRow.slice (hm : ∀ {w ok ok' x cs},R w ok x cs → (∀ k,ok k → ok' k) → R w ok' x cs) {w : World} {ok ok' : Nat → Prop} {T : TypeId} {v : Value} {l : List α} (h : GRow sz R w ok T v l) (hok : ∀ i,i < w.heap.size → ok i → ok' i) : Sl sz (R w ok') w ok' v l := by
  have ho := h.own
  obtain ⟨css,h1,h2,h3,h4,h5⟩ := h
  rcases h2.2 with ⟨rfl,h0⟩ | ⟨b,cap,cur,rfl,hb,hg,hnc,hmx,hs,ht⟩
  · obtain rfl : l = [] := List.eq_nil_of_length_eq_zero h0
    exact ⟨none,0,rfl,Nat.le_refl _,by decide,fun h => absurd rfl h⟩
  · refine ⟨_,cap,rfl,hnc,by unfold maxLen at hmx;omega,fun hn => ⟨_,rfl,hok b (blk_lt hg) (h5 b rfl),fun j x hx => ?_⟩⟩
    have hj : j < css.length := by rw [h1];exact (List.getElem?_eq_some_iff.1 hx).1
    have hc : css[j]? = some css[j] := List.getElem?_eq_getElem hj
    refine ⟨css[j],hm (h4 j x _ hx hc) (fun k hk => hok k hk.2.1 hk.1),h3 _ (List.getElem_mem hj),fun i u hu => ?_⟩
    have h1 := flatten_at h3 hc hu
    rw [← ht,List.getElem?_take] at h1
    split at h1
    · have e : (⟨b,0,none⟩ : Addr).add (j * sz + i) = ⟨b,j * sz + i,none⟩ := by unfold Addr.add;split <;> simp_all
      rw [e,blk_cell hg]
      simpa using h1
    · cases h1
theorem app_row (hk : ∀ {w w' ok x cs},R w ok x cs → Keep ok w w' → R w' ok x cs) (hm : ∀ {w ok ok' x cs},R w ok x cs → (∀ k,ok k → ok' k) → R w ok' x cs) (tS T ty : TypeId) (z : Value) (bytes : Nat)
    (ht : Tryz.prog.underlying tS = some (.slice T)) (hinf : (Tryz.prog.info? T).map (fun i => (i.zero,i.size,i.bytes)) = some (some z,sz,bytes)) (hzs : z.cells.size = sz) (hsz : 0 < sz) (hb : bytes ≤ 1000)
    (w : World) (ok : Nat → Prop) (v : Value) (l : List α) (h : GRow sz R w ok T v l) (x : α) (cs : List Value) (gx : Nat → Prop) (hx : R w gx x cs) (hlen : cs.length = sz) (hone : ∀ u ∈ cs,u.oneCell' = true)
    (hgx : ∀ k,gx k → ¬ ok k ∧ k < w.heap.size) (hl : l.length ≤ 1000) (m : Nat) (hml : l.length + 1 = m) :
    ∃ v' w',(Builtin.append_ #[tS,tS] ty #[v,.slice (some ⟨w.heap.size,0,none⟩) 1 1]).run Tryz.prog (w.alloc (.cells cs.toArray T (0,0))) = .ok v' w' ∧ (∃ a c,v' = .slice a m c) ∧ GRow sz R w' (fun k => ok k ∨ gx k ∨ w.heap.size ≤ k) T v' (l ++ [x]) ∧ Keep (NotOwn v) w w' ∧ (∀ k,v'.ownBlock = some k → v.ownBlock = some k ∨ w.heap.size ≤ k) := by
  subst hml
  obtain ⟨i0,hi,hzz⟩ := Option.map_eq_some_iff.1 hinf
  simp only [Prod.mk.injEq] at hzz
  obtain ⟨hz0,hz1,hz2⟩ := hzz
  have hown0 := h.own
  obtain ⟨css,h1,h2,h3,h4,h5⟩ := h
  have hA : Keep Any w (w.alloc (.cells cs.toArray T (0,0))) := (Keep.refl Any w).alloc _
  have h2' : (w.alloc (.cells cs.toArray T (0,0))).ownsRow 0 T sz v l.length css.flatten := h2.kept (row := none) (hA.grownBy0 none) (by cases hv : v.ownBlock with | none => exact .inl rfl | some b => exact .inr (by simp))
  have hsa : (w.alloc (.cells cs.toArray T (0,0))).heap.size = w.heap.size + 1 := World.size_alloc ..
  obtain ⟨v',w',hr,ho,hg,hbk⟩ := run_append_sep (P := Tryz.prog) (w.alloc (.cells cs.toArray T (0,0))) 0 tS ty T i0 _ sz bytes ht hi hz0 hz1 hz2 hzs hsz v l.length _ h2' ⟨w.heap.size,0,none⟩ 1 1 cs (by rw [hlen,Nat.one_mul]) (fun j u hu => by
      have e : (⟨w.heap.size,0,none⟩ : Addr).add j = ⟨w.heap.size,j,none⟩ := by unfold Addr.add;split <;> simp_all
      rw [e,blk_cell (blk_new w _)]
      simpa using hu) hone (by unfold maxLen;omega) (by have : (l.length + 1) * bytes ≤ 1001 * 1000 := Nat.mul_le_mul (by omega) hb;omega) (Nat.zero_le _) (by decide)
  have hKN : Keep (NotOwn v) w w' := ((Keep.refl (NotOwn v) w).alloc _).grown hg fun k hk _ h => h hk
  have hnew : ∀ k,v'.ownBlock = some k → v.ownBlock = some k ∨ w.heap.size ≤ k := fun k e => by
    rcases hbk with h | h
    · exact .inl (h ▸ e)
    · rw [h] at e;cases e;exact .inr (by omega)
  have hsz2 : w.heap.size ≤ w'.heap.size := hKN.size
  have hG : GRow sz R w' (fun k => ok k ∨ gx k ∨ w.heap.size ≤ k) T v' (l ++ [x]) := by
    refine ⟨css ++ [cs],by simp [h1],by simpa using ho,fun c hc => ?_,fun j y ds hy hd => ?_,fun k e => ?_⟩
    · rcases List.mem_append.1 hc with hc | hc
      · exact h3 c hc
      · rw [List.mem_singleton.1 hc];exact hlen
    · by_cases hlt : j < l.length
      · rw [List.getElem?_append_left hlt] at hy
        rw [List.getElem?_append_left (by omega)] at hd
        refine hm (hk (h4 j y ds hy hd) (hKN.mono fun i _ hi => hi.2.2)) fun i hi => ⟨.inl hi.1,by omega,fun e => ?_⟩
        rcases hnew i e with h | h
        · exact hi.2.2 h
        · omega
      · have hj : j = l.length := by
          have := (List.getElem?_eq_some_iff.1 hy).1
          simp only [List.length_append,List.length_singleton] at this
          omega
        subst hj
        rw [List.getElem?_append_right (Nat.le_refl _),Nat.sub_self] at hy
        rw [List.getElem?_append_right (by omega),h1,Nat.sub_self] at hd
        cases hy
        cases hd
        have hno : ∀ i,gx i → v.ownBlock ≠ some i := fun i hi e => (hgx i hi).1 (hown0 i e).1
        refine hm (hk hx (hKN.mono fun i _ hi => hno i hi)) fun i hi => ⟨.inr (.inl hi),by have := (hgx i hi).2;omega,fun e => ?_⟩
        rcases hnew i e with h | h
        · exact hno i hi h
        · have := (hgx i hi).2;omega
    · rcases hnew k e with h | h
      · exact .inl (h5 k h)
      · exact .inr (.inr h)
  obtain ⟨a,c,e⟩ := GRow.form hG
  exact ⟨v',w',hr,⟨a,c,by rw [e,List.length_append];rfl⟩,hG,hKN,hnew⟩
theorem Keep.offRow {w w1 w2 : World} {ok : Nat → Prop} {T : TypeId} {v : Value} {l : List α} (k : Keep (NotOwn v) w1 w2) (h : GRow sz R w ok T v l) : Keep (fun i => ¬ ok i) w1 w2 :=
  k.mono fun i _ hi e => hi (h.own i e).1
end

/- How expressions lie in memory;an element of any slice,its cells as a walk reads them. No condition. -/

theorem Sl.at {α : Type} {sz : Nat} {R : α → List Value → Prop} {w w' : World} {ok : Nat → Prop} {a : Option Addr} {n c : Nat} {l : List α} (h : Sl sz R w ok (.slice a n c) l) (k : Keep ok w w') {j : Nat} {x : α} (hx : l[j]? = some x) :
    ∃ ad cs,a = some ad ∧ ok ad.block ∧ R x cs ∧ cs.length = sz ∧ (∀ u,cs[0]? = some u → w'.cell? (ad.add (j * sz)) = some u) ∧
      ∀ i u,0 < i → cs[i]? = some u → w'.cell? ⟨(ad.add (j * sz)).block,(ad.add (j * sz)).off + i,none⟩ = some u := by
  obtain ⟨a',c',e,h1,h2,h3⟩ := h
  cases e
  obtain ⟨ad,rfl,hb,hf⟩ := h3 (fun e => by rw [e] at hx;cases hx)
  obtain ⟨cs,hv,hl,hc⟩ := hf j x hx
  have hc' := hc.keep k hb
  exact ⟨ad,cs,rfl,hb,hv,hl,fun u hu => hc' 0 u hu,fun i u hi hu => by rw [← add_field _ _ i hi];exact hc' i u hu⟩

structure Ex where
  kind : Int
  val : V
  name : ByteArray
  key : ByteArray
  parts : List Ex
inductive ER (w : World) (ok : Nat → Prop) : Ex → List Value → Prop where
  | mk (e : Ex) (va : Option Addr) (vc : Nat) (a : Option Addr) (c : Nat) (ad : Addr) (f : Nat → List Value) (h1 : I64 e.kind)
      (hv : VR w ok e.val [.int .i64 e.val.kind,.int .i64 e.val.num,.string e.val.text,.slice va e.val.list.length vc]) (h3 : Fits e.name) (h4 : Fits e.key) (hc : e.parts.length ≤ c) (hm : c ≤ 9223372036854775807)
      (ha : e.parts ≠ [] → a = some ad) (ho : e.parts ≠ [] → ok ad.block) (hr : ∀ j x,e.parts[j]? = some x → ER w ok x (f j)) (hcell : ∀ j x,e.parts[j]? = some x → Cells w ad (j * 8) (f j)) :
      ER w ok e [.int .i64 e.kind,.int .i64 e.val.kind,.int .i64 e.val.num,.string e.val.text,.slice va e.val.list.length vc,.string e.name,.string e.key,.slice a e.parts.length c]
theorem ER.len {w : World} {ok : Nat → Prop} {e : Ex} {cs : List Value} (h : ER w ok e cs) : cs.length = 8 := by cases h;rfl
theorem ER.keep {w w' : World} {ok : Nat → Prop} {e : Ex} {cs : List Value} (h : ER w ok e cs) (k : Keep ok w w') : ER w' ok e cs := by
  induction h with
  | mk e va vc a c ad f h1 hv h3 h4 hc hm ha ho hr hcell ih =>
    exact .mk e va vc a c ad f h1 (hv.keep k) h3 h4 hc hm ha ho ih fun j x hx => (hcell j x hx).keep k (ho (fun e => by rw [e] at hx;cases hx))
theorem ER.mono {w : World} {ok ok' : Nat → Prop} {e : Ex} {cs : List Value} (h : ER w ok e cs) (k : ∀ k,k < w.heap.size → ok k → ok' k) : ER w ok' e cs := by
  induction h with
  | mk e va vc a c ad f h1 hv h3 h4 hc hm ha ho hr hcell ih =>
    refine .mk e va vc a c ad f h1 (hv.mono k) h3 h4 hc hm ha (fun hn => k _ ?_ (ho hn)) ih hcell
    obtain ⟨x,r,hcons⟩ := List.exists_cons_of_ne_nil hn
    have hx : e.parts[0]? = some x := by rw [hcons];rfl
    have hl := (hr 0 x hx).len
    have := World.block_lt_of_cell? w _ (hcell 0 x hx 0 _ (List.getElem?_eq_getElem (by omega)))
    rwa [add_block] at this
abbrev Exs (w : World) (ok : Nat → Prop) (v : Value) (l : List Ex) : Prop := Sl 8 (ER w ok) w ok v l
theorem Exs.keep {w w' : World} {ok : Nat → Prop} {v : Value} {l : List Ex} (h : Exs w ok v l) (k : Keep ok w w') : Exs w' ok v l := Sl.keep h (fun _ _ _ h => h.keep k) k
theorem Exs.mono {w : World} {ok ok' : Nat → Prop} {v : Value} {l : List Ex} (h : Exs w ok v l) (k : ∀ k,k < w.heap.size → ok k → ok' k) : Exs w ok' v l := Sl.mono h (fun _ _ _ h => h.mono k) k (by decide)
theorem ER.iff {w : World} {ok : Nat → Prop} {e : Ex} {cs : List Value} : ER w ok e cs ↔ ∃ va vc s,cs = [.int .i64 e.kind,.int .i64 e.val.kind,.int .i64 e.val.num,.string e.val.text,.slice va e.val.list.length vc,.string e.name,.string e.key,s] ∧
    I64 e.kind ∧ VR w ok e.val [.int .i64 e.val.kind,.int .i64 e.val.num,.string e.val.text,.slice va e.val.list.length vc] ∧ Fits e.name ∧ Fits e.key ∧ Exs w ok s e.parts := by
  constructor
  · rintro ⟨_,va,vc,a,c,ad,f,h1,hv,h3,h4,hc,hm,ha,ho,hr,hcell⟩
    exact ⟨va,vc,_,rfl,h1,hv,h3,h4,a,c,rfl,hc,hm,fun hn => ⟨ad,ha hn,ho hn,fun j x hx => ⟨f j,hr j x hx,(hr j x hx).len,hcell j x hx⟩⟩⟩
  · rintro ⟨va,vc,s,rfl,h1,hv,h3,h4,a,c,rfl,hc,hm,h⟩
    by_cases hn : e.parts = []
    · exact .mk e va vc a c ⟨0,0,none⟩ (fun _ => []) h1 hv h3 h4 hc hm (fun h => absurd hn h) (fun h => absurd hn h) (fun j x hx => by rw [hn] at hx;cases hx) (fun j x hx => by rw [hn] at hx;cases hx)
    · obtain ⟨ad,rfl,ho,hf⟩ := h hn
      have hf' : ∀ j,∃ cs,∀ x,e.parts[j]? = some x → ER w ok x cs ∧ Cells w ad (j * 8) cs := fun j => by
        cases hx : e.parts[j]? with
        | none => exact ⟨[],fun x h => by cases h⟩
        | some x => obtain ⟨cs,h,_,h'⟩ := hf j x hx;exact ⟨cs,fun y hy => by cases hy;exact ⟨h,h'⟩⟩
      exact .mk e va vc _ c ad (fun j => (hf' j).choose) h1 hv h3 h4 hc hm (fun _ => rfl) (fun _ => ho) (fun j x hx => ((hf' j).choose_spec x hx).1) (fun j x hx => ((hf' j).choose_spec x hx).2)
theorem exs_at {w w' : World} {ok : Nat → Prop} {a : Option Addr} {n c : Nat} {l : List Ex} (h : Exs w ok (.slice a n c) l) (k : Keep ok w w') {j : Nat} {x : Ex} (hx : l[j]? = some x) :
    ∃ ad va vc pa pc,a = some ad ∧ ER w' ok x [.int .i64 x.kind,.int .i64 x.val.kind,.int .i64 x.val.num,.string x.val.text,.slice va x.val.list.length vc,.string x.name,.string x.key,.slice pa x.parts.length pc] ∧
      w'.cell? (ad.add (j * 8)) = some (.int .i64 x.kind) ∧ w'.cell? ⟨(ad.add (j * 8)).block,(ad.add (j * 8)).off + 1,none⟩ = some (.int .i64 x.val.kind) ∧ w'.cell? ⟨(ad.add (j * 8)).block,(ad.add (j * 8)).off + 2,none⟩ = some (.int .i64 x.val.num) ∧
      w'.cell? ⟨(ad.add (j * 8)).block,(ad.add (j * 8)).off + 3,none⟩ = some (.string x.val.text) ∧ w'.cell? ⟨(ad.add (j * 8)).block,(ad.add (j * 8)).off + 4,none⟩ = some (.slice va x.val.list.length vc) ∧
      w'.cell? ⟨(ad.add (j * 8)).block,(ad.add (j * 8)).off + 5,none⟩ = some (.string x.name) ∧ w'.cell? ⟨(ad.add (j * 8)).block,(ad.add (j * 8)).off + 6,none⟩ = some (.string x.key) ∧ w'.cell? ⟨(ad.add (j * 8)).block,(ad.add (j * 8)).off + 7,none⟩ = some (.slice pa x.parts.length pc) := by
  obtain ⟨ad,cs,rfl,_,hr,_,h0,hi⟩ := Sl.at h k hx
  obtain ⟨va,vc,s,rfl,_,_,_,_,pa,pc,rfl,_⟩ := ER.iff.1 hr
  exact ⟨ad,va,vc,pa,pc,rfl,hr.keep k,h0 _ rfl,hi 1 _ (by decide) rfl,hi 2 _ (by decide) rfl,hi 3 _ (by decide) rfl,hi 4 _ (by decide) rfl,hi 5 _ (by decide) rfl,hi 6 _ (by decide) rfl,hi 7 _ (by decide) rfl⟩
def ar (k : Int) : Nat := if k = 9 ∨ k = 11 ∨ k = 13 ∨ k = 15 then 1 else if k = 5 ∨ k = 6 ∨ k = 7 ∨ k = 8 ∨ k = 10 ∨ k = 12 then 2 else 0
def Wf : Nat → Ex → Prop
  | 0,_ => False
  | d + 1,e => okV 3 e.val = true ∧ e.name.size ≤ 100 ∧ e.key.size ≤ 100 ∧ 1 ≤ e.kind ∧ e.kind ≤ 15 ∧ e.parts.length = ar e.kind ∧ ∀ x,x ∈ e.parts → Wf d x
theorem Wf.up {d : Nat} : ∀ {d' : Nat} {e : Ex},d ≤ d' → Wf d e → Wf d' e := by
  induction d with
  | zero => intro d' e _ h;exact h.elim
  | succ d ih =>
    intro d' e hd h
    obtain ⟨d',rfl⟩ : ∃ x,d' = x + 1 := ⟨d' - 1,by omega⟩
    exact ⟨h.1,h.2.1,h.2.2.1,h.2.2.2.1,h.2.2.2.2.1,h.2.2.2.2.2.1,fun x hx => ih (by omega) (h.2.2.2.2.2.2 x hx)⟩

/- How questions lie in memory: props of patterns,spots,hops,paths,columns,orders,what is set,clauses. No condition. -/

structure Pt where
  name : ByteArray
  ex : Ex
def PtR (w : World) (ok : Nat → Prop) (p : Pt) (cs : List Value) : Prop := ∃ d,cs = .string p.name :: d ∧ Fits p.name ∧ ER w ok p.ex d
theorem PtR.keep {w w' : World} {ok : Nat → Prop} {p : Pt} {cs : List Value} (h : PtR w ok p cs) (k : Keep ok w w') : PtR w' ok p cs := by obtain ⟨d,rfl,h1,h2⟩ := h;exact ⟨d,rfl,h1,h2.keep k⟩
theorem PtR.mono {w : World} {ok ok' : Nat → Prop} {p : Pt} {cs : List Value} (h : PtR w ok p cs) (k : ∀ k,k < w.heap.size → ok k → ok' k) : PtR w ok' p cs := by obtain ⟨d,rfl,h1,h2⟩ := h;exact ⟨d,rfl,h1,h2.mono k⟩
theorem PtR.len {w : World} {ok : Nat → Prop} {p : Pt} {cs : List Value} (h : PtR w ok p cs) : cs.length = 9 := by obtain ⟨d,rfl,h1,h2⟩ := h;rw [List.length_cons,h2.len]
abbrev Pts (w : World) (ok : Nat → Prop) (v : Value) (l : List Pt) : Prop := Sl 9 (PtR w ok) w ok v l
theorem Pts.keep {w w' : World} {ok : Nat → Prop} {v : Value} {l : List Pt} (h : Pts w ok v l) (k : Keep ok w w') : Pts w' ok v l := Sl.keep h (fun _ _ _ h => h.keep k) k
theorem Pts.mono {w : World} {ok ok' : Nat → Prop} {v : Value} {l : List Pt} (h : Pts w ok v l) (k : ∀ k,k < w.heap.size → ok k → ok' k) : Pts w ok' v l := Sl.mono h (fun _ _ _ h => h.mono k) k (by decide)
structure Sp where
  name : ByteArray
  label : ByteArray
  props : List Pt
def SpR (w : World) (ok : Nat → Prop) (s : Sp) (cs : List Value) : Prop := ∃ v,cs = [.string s.name,.string s.label,v] ∧ Fits s.name ∧ Fits s.label ∧ Pts w ok v s.props
theorem SpR.keep {w w' : World} {ok : Nat → Prop} {p : Sp} {cs : List Value} (h : SpR w ok p cs) (k : Keep ok w w') : SpR w' ok p cs := by obtain ⟨v,rfl,h1,h2,h3⟩ := h;exact ⟨v,rfl,h1,h2,h3.keep k⟩
theorem SpR.mono {w : World} {ok ok' : Nat → Prop} {p : Sp} {cs : List Value} (h : SpR w ok p cs) (k : ∀ k,k < w.heap.size → ok k → ok' k) : SpR w ok' p cs := by obtain ⟨v,rfl,h1,h2,h3⟩ := h;exact ⟨v,rfl,h1,h2,h3.mono k⟩
theorem SpR.len {w : World} {ok : Nat → Prop} {p : Sp} {cs : List Value} (h : SpR w ok p cs) : cs.length = 3 := by obtain ⟨v,rfl,_⟩ := h;rfl
structure Hp where
  name : ByteArray
  kind : ByteArray
  way : Int
  spot : Sp
def HpR (w : World) (ok : Nat → Prop) (h : Hp) (cs : List Value) : Prop := ∃ d,cs = .string h.name :: .string h.kind :: .int .i64 h.way :: d ∧ Fits h.name ∧ Fits h.kind ∧ I64 h.way ∧ SpR w ok h.spot d
theorem HpR.keep {w w' : World} {ok : Nat → Prop} {p : Hp} {cs : List Value} (h : HpR w ok p cs) (k : Keep ok w w') : HpR w' ok p cs := by obtain ⟨d,rfl,h1,h2,h3,h4⟩ := h;exact ⟨d,rfl,h1,h2,h3,h4.keep k⟩
theorem HpR.mono {w : World} {ok ok' : Nat → Prop} {p : Hp} {cs : List Value} (h : HpR w ok p cs) (k : ∀ k,k < w.heap.size → ok k → ok' k) : HpR w ok' p cs := by obtain ⟨d,rfl,h1,h2,h3,h4⟩ := h;exact ⟨d,rfl,h1,h2,h3,h4.mono k⟩
theorem HpR.len {w : World} {ok : Nat → Prop} {p : Hp} {cs : List Value} (h : HpR w ok p cs) : cs.length = 6 := by obtain ⟨d,rfl,_,_,_,h4⟩ := h;simp [h4.len]
abbrev Hps (w : World) (ok : Nat → Prop) (v : Value) (l : List Hp) : Prop := Sl 6 (HpR w ok) w ok v l
theorem Hps.keep {w w' : World} {ok : Nat → Prop} {v : Value} {l : List Hp} (h : Hps w ok v l) (k : Keep ok w w') : Hps w' ok v l := Sl.keep h (fun _ _ _ h => h.keep k) k
theorem Hps.mono {w : World} {ok ok' : Nat → Prop} {v : Value} {l : List Hp} (h : Hps w ok v l) (k : ∀ k,k < w.heap.size → ok k → ok' k) : Hps w ok' v l := Sl.mono h (fun _ _ _ h => h.mono k) k (by decide)
structure Pa where
  spot : Sp
  hops : List Hp
def PaR (w : World) (ok : Nat → Prop) (p : Pa) (cs : List Value) : Prop := ∃ d v,cs = d ++ [v] ∧ SpR w ok p.spot d ∧ Hps w ok v p.hops
theorem PaR.keep {w w' : World} {ok : Nat → Prop} {p : Pa} {cs : List Value} (h : PaR w ok p cs) (k : Keep ok w w') : PaR w' ok p cs := by obtain ⟨d,v,rfl,h1,h2⟩ := h;exact ⟨d,v,rfl,h1.keep k,h2.keep k⟩
theorem PaR.mono {w : World} {ok ok' : Nat → Prop} {p : Pa} {cs : List Value} (h : PaR w ok p cs) (k : ∀ k,k < w.heap.size → ok k → ok' k) : PaR w ok' p cs := by obtain ⟨d,v,rfl,h1,h2⟩ := h;exact ⟨d,v,rfl,h1.mono k,h2.mono k⟩
theorem PaR.len {w : World} {ok : Nat → Prop} {p : Pa} {cs : List Value} (h : PaR w ok p cs) : cs.length = 4 := by obtain ⟨d,v,rfl,h1,_⟩ := h;simp [h1.len]
abbrev Pas (w : World) (ok : Nat → Prop) (v : Value) (l : List Pa) : Prop := Sl 4 (PaR w ok) w ok v l
theorem Pas.keep {w w' : World} {ok : Nat → Prop} {v : Value} {l : List Pa} (h : Pas w ok v l) (k : Keep ok w w') : Pas w' ok v l := Sl.keep h (fun _ _ _ h => h.keep k) k
theorem Pas.mono {w : World} {ok ok' : Nat → Prop} {v : Value} {l : List Pa} (h : Pas w ok v l) (k : ∀ k,k < w.heap.size → ok k → ok' k) : Pas w ok' v l := Sl.mono h (fun _ _ _ h => h.mono k) k (by decide)
structure It where
  ex : Ex
  name : ByteArray
def ItR (w : World) (ok : Nat → Prop) (p : It) (cs : List Value) : Prop := ∃ d,cs = d ++ [.string p.name] ∧ ER w ok p.ex d ∧ Fits p.name
theorem ItR.keep {w w' : World} {ok : Nat → Prop} {p : It} {cs : List Value} (h : ItR w ok p cs) (k : Keep ok w w') : ItR w' ok p cs := by obtain ⟨d,rfl,h1,h2⟩ := h;exact ⟨d,rfl,h1.keep k,h2⟩
theorem ItR.mono {w : World} {ok ok' : Nat → Prop} {p : It} {cs : List Value} (h : ItR w ok p cs) (k : ∀ k,k < w.heap.size → ok k → ok' k) : ItR w ok' p cs := by obtain ⟨d,rfl,h1,h2⟩ := h;exact ⟨d,rfl,h1.mono k,h2⟩
theorem ItR.len {w : World} {ok : Nat → Prop} {p : It} {cs : List Value} (h : ItR w ok p cs) : cs.length = 9 := by obtain ⟨d,rfl,h1,_⟩ := h;simp [h1.len]
abbrev Its (w : World) (ok : Nat → Prop) (v : Value) (l : List It) : Prop := Sl 9 (ItR w ok) w ok v l
theorem Its.keep {w w' : World} {ok : Nat → Prop} {v : Value} {l : List It} (h : Its w ok v l) (k : Keep ok w w') : Its w' ok v l := Sl.keep h (fun _ _ _ h => h.keep k) k
theorem Its.mono {w : World} {ok ok' : Nat → Prop} {v : Value} {l : List It} (h : Its w ok v l) (k : ∀ k,k < w.heap.size → ok k → ok' k) : Its w ok' v l := Sl.mono h (fun _ _ _ h => h.mono k) k (by decide)
structure Od where
  name : ByteArray
  down : Bool
def OdR (o : Od) (cs : List Value) : Prop := cs = [.string o.name,.bool o.down] ∧ Fits o.name
theorem OdR.len {o : Od} {cs : List Value} (h : OdR o cs) : cs.length = 2 := by rw [h.1];rfl
abbrev Ods (w : World) (ok : Nat → Prop) (v : Value) (l : List Od) : Prop := Sl 2 OdR w ok v l
theorem Ods.keep {w w' : World} {ok : Nat → Prop} {v : Value} {l : List Od} (h : Ods w ok v l) (k : Keep ok w w') : Ods w' ok v l := Sl.keep h (fun _ _ _ h => h) k
theorem Ods.mono {w : World} {ok ok' : Nat → Prop} {v : Value} {l : List Od} (h : Ods w ok v l) (k : ∀ k,k < w.heap.size → ok k → ok' k) : Ods w ok' v l := Sl.mono h (fun _ _ _ h => h) k (by decide)
structure Tt where
  name : ByteArray
  key : ByteArray
  ex : Ex
def TtR (w : World) (ok : Nat → Prop) (p : Tt) (cs : List Value) : Prop := ∃ d,cs = .string p.name :: .string p.key :: d ∧ Fits p.name ∧ Fits p.key ∧ ER w ok p.ex d
theorem TtR.keep {w w' : World} {ok : Nat → Prop} {p : Tt} {cs : List Value} (h : TtR w ok p cs) (k : Keep ok w w') : TtR w' ok p cs := by obtain ⟨d,rfl,h1,h2,h3⟩ := h;exact ⟨d,rfl,h1,h2,h3.keep k⟩
theorem TtR.mono {w : World} {ok ok' : Nat → Prop} {p : Tt} {cs : List Value} (h : TtR w ok p cs) (k : ∀ k,k < w.heap.size → ok k → ok' k) : TtR w ok' p cs := by obtain ⟨d,rfl,h1,h2,h3⟩ := h;exact ⟨d,rfl,h1,h2,h3.mono k⟩
theorem TtR.len {w : World} {ok : Nat → Prop} {p : Tt} {cs : List Value} (h : TtR w ok p cs) : cs.length = 10 := by obtain ⟨d,rfl,_,_,h3⟩ := h;simp [h3.len]
abbrev Tts (w : World) (ok : Nat → Prop) (v : Value) (l : List Tt) : Prop := Sl 10 (TtR w ok) w ok v l
theorem Tts.keep {w w' : World} {ok : Nat → Prop} {v : Value} {l : List Tt} (h : Tts w ok v l) (k : Keep ok w w') : Tts w' ok v l := Sl.keep h (fun _ _ _ h => h.keep k) k
theorem Tts.mono {w : World} {ok ok' : Nat → Prop} {v : Value} {l : List Tt} (h : Tts w ok v l) (k : ∀ k,k < w.heap.size → ok k → ok' k) : Tts w ok' v l := Sl.mono h (fun _ _ _ h => h.mono k) k (by decide)
structure Cl where
  kind : Int
  paths : List Pa
  ex : Ex
  name : ByteArray
  items : List It
  distinct : Bool
  orders : List Od
  skip : Int
  limit : Int
  tos : List Tt
  names : List ByteArray
  detach : Bool
def ClR (w : World) (ok : Nat → Prop) (c : Cl) (cs : List Value) : Prop :=
  ∃ vp va vc ve vi vo vt vn,cs = [.int .i64 c.kind,vp,.int .i64 c.ex.kind,.int .i64 c.ex.val.kind,.int .i64 c.ex.val.num,.string c.ex.val.text,.slice va c.ex.val.list.length vc,.string c.ex.name,.string c.ex.key,ve,.string c.name,vi,.bool c.distinct,vo,.int .i64 c.skip,.int .i64 c.limit,vt,vn,.bool c.detach] ∧
    I64 c.kind ∧ Pas w ok vp c.paths ∧ ER w ok c.ex [.int .i64 c.ex.kind,.int .i64 c.ex.val.kind,.int .i64 c.ex.val.num,.string c.ex.val.text,.slice va c.ex.val.list.length vc,.string c.ex.name,.string c.ex.key,ve] ∧ Fits c.name ∧
    Its w ok vi c.items ∧ Ods w ok vo c.orders ∧ I64 c.skip ∧ I64 c.limit ∧ Tts w ok vt c.tos ∧ Strs w ok vn c.names
theorem ClR.keep {w w' : World} {ok : Nat → Prop} {c : Cl} {cs : List Value} (h : ClR w ok c cs) (k : Keep ok w w') : ClR w' ok c cs := by
  obtain ⟨vp,va,vc,ve,vi,vo,vt,vn,rfl,h1,h2,h3,h4,h5,h6,h7,h8,h9,h10⟩ := h
  exact ⟨vp,va,vc,ve,vi,vo,vt,vn,rfl,h1,h2.keep k,h3.keep k,h4,h5.keep k,h6.keep k,h7,h8,h9.keep k,h10.keep k⟩
theorem ClR.mono {w : World} {ok ok' : Nat → Prop} {c : Cl} {cs : List Value} (h : ClR w ok c cs) (k : ∀ k,k < w.heap.size → ok k → ok' k) : ClR w ok' c cs := by
  obtain ⟨vp,va,vc,ve,vi,vo,vt,vn,rfl,h1,h2,h3,h4,h5,h6,h7,h8,h9,h10⟩ := h
  exact ⟨vp,va,vc,ve,vi,vo,vt,vn,rfl,h1,h2.mono k,h3.mono k,h4,h5.mono k,h6.mono k,h7,h8,h9.mono k,h10.mono k⟩
theorem ClR.len {w : World} {ok : Nat → Prop} {c : Cl} {cs : List Value} (h : ClR w ok c cs) : cs.length = 19 := by
  obtain ⟨vp,va,vc,ve,vi,vo,vt,vn,rfl,_⟩ := h;rfl
abbrev Cls (w : World) (ok : Nat → Prop) (v : Value) (l : List Cl) : Prop := Sl 19 (ClR w ok) w ok v l
theorem Cls.keep {w w' : World} {ok : Nat → Prop} {v : Value} {l : List Cl} (h : Cls w ok v l) (k : Keep ok w w') : Cls w' ok v l := Sl.keep h (fun _ _ _ h => h.keep k) k
theorem Cls.mono {w : World} {ok ok' : Nat → Prop} {v : Value} {l : List Cl} (h : Cls w ok v l) (k : ∀ k,k < w.heap.size → ok k → ok' k) : Cls w ok' v l := Sl.mono h (fun _ _ _ h => h.mono k) k (by decide)
abbrev Short (t : ByteArray) : Prop := t.size ≤ 100
def WfPt (p : Pt) : Prop := Short p.name ∧ Wf 4 p.ex
def WfSp (s : Sp) : Prop := Short s.name ∧ Short s.label ∧ s.props.length ≤ 10 ∧ ∀ x,x ∈ s.props → WfPt x
def WfHp (h : Hp) : Prop := Short h.name ∧ Short h.kind ∧ WfSp h.spot
def WfPa (p : Pa) : Prop := WfSp p.spot ∧ p.hops.length ≤ 2 ∧ ∀ x,x ∈ p.hops → WfHp x
def WfIt (i : It) : Prop := Wf 4 i.ex ∧ Short i.name
def WfTt (t : Tt) : Prop := Short t.name ∧ Short t.key ∧ Wf 4 t.ex
structure WfCl (c : Cl) : Prop where
  paths : c.paths.length ≤ 2 ∧ ∀ x,x ∈ c.paths → WfPa x
  ex : c.kind = 3 ∨ c.kind = 4 → Wf 4 c.ex
  name : Short c.name
  items : c.items.length ≤ 10 ∧ ∀ x,x ∈ c.items → WfIt x
  orders : c.orders.length ≤ 10 ∧ ∀ x,x ∈ c.orders → Short x.name
  nums : -1000000 ≤ c.skip ∧ c.skip ≤ 1000000 ∧ -1000000 ≤ c.limit ∧ c.limit ≤ 1000000
  tos : c.tos.length ≤ 10 ∧ ∀ x,x ∈ c.tos → WfTt x
  names : c.names.length ≤ 10 ∧ ∀ x,x ∈ c.names → Short x
def WfQ (q : List Cl) : Prop := q.length ≤ 6 ∧ ∀ c,c ∈ q → WfCl c

/- What lies at a place of a slice,told for all later worlds at once. No condition. -/
theorem sl_len {α : Type} {sz : Nat} {R : α → List Value → Prop} {w : World} {ok : Nat → Prop} {v : Value} {l : List α} (h : Sl sz R w ok v l) : l.length ≤ 9223372036854775807 := by
  obtain ⟨a,c,e,h1,h2,_⟩ := h;omega
theorem Sl.all {α : Type} {sz : Nat} {R : α → List Value → Prop} {w : World} {ok : Nat → Prop} {a : Option Addr} {n c : Nat} {l : List α} (h : Sl sz R w ok (.slice a n c) l) {j : Nat} {x : α} (hx : l[j]? = some x) :
    ∃ ad cs,a = some ad ∧ ok ad.block ∧ R x cs ∧ ∀ w',Keep ok w w' → (∀ u,cs[0]? = some u → w'.cell? (ad.add (j * sz)) = some u) ∧ ∀ i u,0 < i → cs[i]? = some u → w'.cell? ⟨(ad.add (j * sz)).block,(ad.add (j * sz)).off + i,none⟩ = some u := by
  obtain ⟨a',c',e,h1,h2,h3⟩ := h
  cases e
  obtain ⟨ad,rfl,hb,hf⟩ := h3 (fun e => by rw [e] at hx;cases hx)
  obtain ⟨cs,hv,hl,hc⟩ := hf j x hx
  exact ⟨ad,cs,rfl,hb,hv,fun w' k => ⟨fun u hu => by have := (hc.keep k hb) 0 u hu;simpa using this,fun i u hi hu => by rw [← add_field _ _ i hi];exact (hc.keep k hb) i u hu⟩⟩
theorem exs_all {w : World} {ok : Nat → Prop} {a : Option Addr} {n c : Nat} {l : List Ex} (h : Exs w ok (.slice a n c) l) {j : Nat} {x : Ex} (hx : l[j]? = some x) :
    ∃ ad va vc pa pc,a = some ad ∧ ∀ w',Keep ok w w' → ER w' ok x [.int .i64 x.kind,.int .i64 x.val.kind,.int .i64 x.val.num,.string x.val.text,.slice va x.val.list.length vc,.string x.name,.string x.key,.slice pa x.parts.length pc] ∧ w'.cell? (ad.add (j * 8)) = some (.int .i64 x.kind) ∧ w'.cell? ⟨(ad.add (j * 8)).block,(ad.add (j * 8)).off + 1,none⟩ = some (.int .i64 x.val.kind) ∧ w'.cell? ⟨(ad.add (j * 8)).block,(ad.add (j * 8)).off + 2,none⟩ = some (.int .i64 x.val.num) ∧ w'.cell? ⟨(ad.add (j * 8)).block,(ad.add (j * 8)).off + 3,none⟩ = some (.string x.val.text) ∧ w'.cell? ⟨(ad.add (j * 8)).block,(ad.add (j * 8)).off + 4,none⟩ = some (.slice va x.val.list.length vc) ∧ w'.cell? ⟨(ad.add (j * 8)).block,(ad.add (j * 8)).off + 5,none⟩ = some (.string x.name) ∧ w'.cell? ⟨(ad.add (j * 8)).block,(ad.add (j * 8)).off + 6,none⟩ = some (.string x.key) ∧ w'.cell? ⟨(ad.add (j * 8)).block,(ad.add (j * 8)).off + 7,none⟩ = some (.slice pa x.parts.length pc) := by
  obtain ⟨ad,cs,rfl,_,hr,hi⟩ := Sl.all h hx
  obtain ⟨va,vc,s,rfl,_,_,_,_,pa,pc,rfl,_⟩ := ER.iff.1 hr
  exact ⟨ad,va,vc,pa,pc,rfl,fun w' k => ⟨hr.keep k,(hi w' k).1 _ rfl,(hi w' k).2 1 _ (by decide) rfl,(hi w' k).2 2 _ (by decide) rfl,(hi w' k).2 3 _ (by decide) rfl,(hi w' k).2 4 _ (by decide) rfl,(hi w' k).2 5 _ (by decide) rfl,(hi w' k).2 6 _ (by decide) rfl,(hi w' k).2 7 _ (by decide) rfl⟩⟩
theorem its_all {w : World} {ok : Nat → Prop} {a : Option Addr} {n c : Nat} {l : List It} (h : Its w ok (.slice a n c) l) {j : Nat} {x : It} (hx : l[j]? = some x) :
    ∃ ad va vc pa pc,a = some ad ∧ Fits x.name ∧ ∀ w',Keep ok w w' → ER w' ok x.ex [.int .i64 x.ex.kind,.int .i64 x.ex.val.kind,.int .i64 x.ex.val.num,.string x.ex.val.text,.slice va x.ex.val.list.length vc,.string x.ex.name,.string x.ex.key,.slice pa x.ex.parts.length pc] ∧ w'.cell? (ad.add (j * 9)) = some (.int .i64 x.ex.kind) ∧ w'.cell? ⟨(ad.add (j * 9)).block,(ad.add (j * 9)).off + 1,none⟩ = some (.int .i64 x.ex.val.kind) ∧ w'.cell? ⟨(ad.add (j * 9)).block,(ad.add (j * 9)).off + 2,none⟩ = some (.int .i64 x.ex.val.num) ∧ w'.cell? ⟨(ad.add (j * 9)).block,(ad.add (j * 9)).off + 3,none⟩ = some (.string x.ex.val.text) ∧ w'.cell? ⟨(ad.add (j * 9)).block,(ad.add (j * 9)).off + 4,none⟩ = some (.slice va x.ex.val.list.length vc) ∧ w'.cell? ⟨(ad.add (j * 9)).block,(ad.add (j * 9)).off + 5,none⟩ = some (.string x.ex.name) ∧ w'.cell? ⟨(ad.add (j * 9)).block,(ad.add (j * 9)).off + 6,none⟩ = some (.string x.ex.key) ∧ w'.cell? ⟨(ad.add (j * 9)).block,(ad.add (j * 9)).off + 7,none⟩ = some (.slice pa x.ex.parts.length pc) ∧ w'.cell? ⟨(ad.add (j * 9)).block,(ad.add (j * 9)).off + 8,none⟩ = some (.string x.name) := by
  obtain ⟨ad,cs,rfl,_,⟨d,rfl,hr,hF⟩,hi⟩ := Sl.all h hx
  obtain ⟨va,vc,s,rfl,_,_,_,_,pa,pc,rfl,_⟩ := ER.iff.1 hr
  exact ⟨ad,va,vc,pa,pc,rfl,hF,fun w' k => ⟨hr.keep k,(hi w' k).1 _ rfl,(hi w' k).2 1 _ (by decide) rfl,(hi w' k).2 2 _ (by decide) rfl,(hi w' k).2 3 _ (by decide) rfl,(hi w' k).2 4 _ (by decide) rfl,(hi w' k).2 5 _ (by decide) rfl,(hi w' k).2 6 _ (by decide) rfl,(hi w' k).2 7 _ (by decide) rfl,(hi w' k).2 8 _ (by decide) rfl⟩⟩
theorem pts_all {w : World} {ok : Nat → Prop} {a : Option Addr} {n c : Nat} {l : List Pt} (h : Pts w ok (.slice a n c) l) {j : Nat} {x : Pt} (hx : l[j]? = some x) :
    ∃ ad va vc pa pc,a = some ad ∧ Fits x.name ∧ ∀ w',Keep ok w w' → ER w' ok x.ex [.int .i64 x.ex.kind,.int .i64 x.ex.val.kind,.int .i64 x.ex.val.num,.string x.ex.val.text,.slice va x.ex.val.list.length vc,.string x.ex.name,.string x.ex.key,.slice pa x.ex.parts.length pc] ∧ w'.cell? (ad.add (j * 9)) = some (.string x.name) ∧ w'.cell? ⟨(ad.add (j * 9)).block,(ad.add (j * 9)).off + 1,none⟩ = some (.int .i64 x.ex.kind) ∧ w'.cell? ⟨(ad.add (j * 9)).block,(ad.add (j * 9)).off + 2,none⟩ = some (.int .i64 x.ex.val.kind) ∧ w'.cell? ⟨(ad.add (j * 9)).block,(ad.add (j * 9)).off + 3,none⟩ = some (.int .i64 x.ex.val.num) ∧ w'.cell? ⟨(ad.add (j * 9)).block,(ad.add (j * 9)).off + 4,none⟩ = some (.string x.ex.val.text) ∧ w'.cell? ⟨(ad.add (j * 9)).block,(ad.add (j * 9)).off + 5,none⟩ = some (.slice va x.ex.val.list.length vc) ∧ w'.cell? ⟨(ad.add (j * 9)).block,(ad.add (j * 9)).off + 6,none⟩ = some (.string x.ex.name) ∧ w'.cell? ⟨(ad.add (j * 9)).block,(ad.add (j * 9)).off + 7,none⟩ = some (.string x.ex.key) ∧ w'.cell? ⟨(ad.add (j * 9)).block,(ad.add (j * 9)).off + 8,none⟩ = some (.slice pa x.ex.parts.length pc) := by
  obtain ⟨ad,cs,rfl,_,⟨d,rfl,hF,hr⟩,hi⟩ := Sl.all h hx
  obtain ⟨va,vc,s,rfl,_,_,_,_,pa,pc,rfl,_⟩ := ER.iff.1 hr
  exact ⟨ad,va,vc,pa,pc,rfl,hF,fun w' k => ⟨hr.keep k,(hi w' k).1 _ rfl,(hi w' k).2 1 _ (by decide) rfl,(hi w' k).2 2 _ (by decide) rfl,(hi w' k).2 3 _ (by decide) rfl,(hi w' k).2 4 _ (by decide) rfl,(hi w' k).2 5 _ (by decide) rfl,(hi w' k).2 6 _ (by decide) rfl,(hi w' k).2 7 _ (by decide) rfl,(hi w' k).2 8 _ (by decide) rfl⟩⟩
theorem tts_all {w : World} {ok : Nat → Prop} {a : Option Addr} {n c : Nat} {l : List Tt} (h : Tts w ok (.slice a n c) l) {j : Nat} {x : Tt} (hx : l[j]? = some x) :
    ∃ ad va vc pa pc,a = some ad ∧ Fits x.name ∧ Fits x.key ∧ ∀ w',Keep ok w w' → ER w' ok x.ex [.int .i64 x.ex.kind,.int .i64 x.ex.val.kind,.int .i64 x.ex.val.num,.string x.ex.val.text,.slice va x.ex.val.list.length vc,.string x.ex.name,.string x.ex.key,.slice pa x.ex.parts.length pc] ∧ w'.cell? (ad.add (j * 10)) = some (.string x.name) ∧ w'.cell? ⟨(ad.add (j * 10)).block,(ad.add (j * 10)).off + 1,none⟩ = some (.string x.key) ∧ w'.cell? ⟨(ad.add (j * 10)).block,(ad.add (j * 10)).off + 2,none⟩ = some (.int .i64 x.ex.kind) ∧ w'.cell? ⟨(ad.add (j * 10)).block,(ad.add (j * 10)).off + 3,none⟩ = some (.int .i64 x.ex.val.kind) ∧ w'.cell? ⟨(ad.add (j * 10)).block,(ad.add (j * 10)).off + 4,none⟩ = some (.int .i64 x.ex.val.num) ∧ w'.cell? ⟨(ad.add (j * 10)).block,(ad.add (j * 10)).off + 5,none⟩ = some (.string x.ex.val.text) ∧ w'.cell? ⟨(ad.add (j * 10)).block,(ad.add (j * 10)).off + 6,none⟩ = some (.slice va x.ex.val.list.length vc) ∧ w'.cell? ⟨(ad.add (j * 10)).block,(ad.add (j * 10)).off + 7,none⟩ = some (.string x.ex.name) ∧ w'.cell? ⟨(ad.add (j * 10)).block,(ad.add (j * 10)).off + 8,none⟩ = some (.string x.ex.key) ∧ w'.cell? ⟨(ad.add (j * 10)).block,(ad.add (j * 10)).off + 9,none⟩ = some (.slice pa x.ex.parts.length pc) := by
  obtain ⟨ad,cs,rfl,_,⟨d,rfl,hF,hG,hr⟩,hi⟩ := Sl.all h hx
  obtain ⟨va,vc,s,rfl,_,_,_,_,pa,pc,rfl,_⟩ := ER.iff.1 hr
  exact ⟨ad,va,vc,pa,pc,rfl,hF,hG,fun w' k => ⟨hr.keep k,(hi w' k).1 _ rfl,(hi w' k).2 1 _ (by decide) rfl,(hi w' k).2 2 _ (by decide) rfl,(hi w' k).2 3 _ (by decide) rfl,(hi w' k).2 4 _ (by decide) rfl,(hi w' k).2 5 _ (by decide) rfl,(hi w' k).2 6 _ (by decide) rfl,(hi w' k).2 7 _ (by decide) rfl,(hi w' k).2 8 _ (by decide) rfl,(hi w' k).2 9 _ (by decide) rfl⟩⟩
theorem ods_all {w : World} {ok : Nat → Prop} {a : Option Addr} {n c : Nat} {l : List Od} (h : Ods w ok (.slice a n c) l) {j : Nat} {x : Od} (hx : l[j]? = some x) :
    ∃ ad,a = some ad ∧ Fits x.name ∧ ∀ w',Keep ok w w' → w'.cell? (ad.add (j * 2)) = some (.string x.name) ∧ w'.cell? ⟨(ad.add (j * 2)).block,(ad.add (j * 2)).off + 1,none⟩ = some (.bool x.down) := by
  obtain ⟨ad,cs,rfl,_,⟨rfl,hF⟩,hi⟩ := Sl.all h hx
  exact ⟨ad,rfl,hF,fun w' k => ⟨(hi w' k).1 _ rfl,(hi w' k).2 1 _ (by decide) rfl⟩⟩
theorem pas_all {w : World} {ok : Nat → Prop} {a : Option Addr} {n c : Nat} {l : List Pa} (h : Pas w ok (.slice a n c) l) {j : Nat} {x : Pa} (hx : l[j]? = some x) :
    ∃ ad pa pc ha hc,a = some ad ∧ ∀ w',Keep ok w w' → SpR w' ok x.spot [.string x.spot.name,.string x.spot.label,.slice pa x.spot.props.length pc] ∧ Hps w' ok (.slice ha x.hops.length hc) x.hops ∧ w'.cell? (ad.add (j * 4)) = some (.string x.spot.name) ∧ w'.cell? ⟨(ad.add (j * 4)).block,(ad.add (j * 4)).off + 1,none⟩ = some (.string x.spot.label) ∧ w'.cell? ⟨(ad.add (j * 4)).block,(ad.add (j * 4)).off + 2,none⟩ = some (.slice pa x.spot.props.length pc) ∧ w'.cell? ⟨(ad.add (j * 4)).block,(ad.add (j * 4)).off + 3,none⟩ = some (.slice ha x.hops.length hc) := by
  obtain ⟨ad,cs,rfl,_,⟨d,v,rfl,hr,hh⟩,hi⟩ := Sl.all h hx
  have hr' := hr
  have hh' := hh
  obtain ⟨u,rfl,_,_,pa,pc,rfl,_⟩ := hr
  obtain ⟨ha,hc,rfl,_⟩ := hh
  exact ⟨ad,pa,pc,ha,hc,rfl,fun w' k => ⟨hr'.keep k,hh'.keep k,(hi w' k).1 _ rfl,(hi w' k).2 1 _ (by decide) rfl,(hi w' k).2 2 _ (by decide) rfl,(hi w' k).2 3 _ (by decide) rfl⟩⟩
theorem hps_all {w : World} {ok : Nat → Prop} {a : Option Addr} {n c : Nat} {l : List Hp} (h : Hps w ok (.slice a n c) l) {j : Nat} {x : Hp} (hx : l[j]? = some x) :
    ∃ ad pa pc,a = some ad ∧ Fits x.name ∧ Fits x.kind ∧ I64 x.way ∧ ∀ w',Keep ok w w' → SpR w' ok x.spot [.string x.spot.name,.string x.spot.label,.slice pa x.spot.props.length pc] ∧ w'.cell? (ad.add (j * 6)) = some (.string x.name) ∧ w'.cell? ⟨(ad.add (j * 6)).block,(ad.add (j * 6)).off + 1,none⟩ = some (.string x.kind) ∧ w'.cell? ⟨(ad.add (j * 6)).block,(ad.add (j * 6)).off + 2,none⟩ = some (.int .i64 x.way) ∧ w'.cell? ⟨(ad.add (j * 6)).block,(ad.add (j * 6)).off + 3,none⟩ = some (.string x.spot.name) ∧ w'.cell? ⟨(ad.add (j * 6)).block,(ad.add (j * 6)).off + 4,none⟩ = some (.string x.spot.label) ∧ w'.cell? ⟨(ad.add (j * 6)).block,(ad.add (j * 6)).off + 5,none⟩ = some (.slice pa x.spot.props.length pc) := by
  obtain ⟨ad,cs,rfl,_,⟨d,rfl,hF,hG,hI,hr⟩,hi⟩ := Sl.all h hx
  have hr' := hr
  obtain ⟨u,rfl,_,_,pa,pc,rfl,_⟩ := hr
  exact ⟨ad,pa,pc,rfl,hF,hG,hI,fun w' k => ⟨hr'.keep k,(hi w' k).1 _ rfl,(hi w' k).2 1 _ (by decide) rfl,(hi w' k).2 2 _ (by decide) rfl,(hi w' k).2 3 _ (by decide) rfl,(hi w' k).2 4 _ (by decide) rfl,(hi w' k).2 5 _ (by decide) rfl⟩⟩
theorem strs_all {w : World} {ok : Nat → Prop} {a : Option Addr} {n c : Nat} {l : List ByteArray} (h : Strs w ok (.slice a n c) l) {j : Nat} {x : ByteArray} (hx : l[j]? = some x) :
    ∃ ad,a = some ad ∧ Fits x ∧ ∀ w',Keep ok w w' → w'.cell? (ad.add j) = some (.string x) := by
  obtain ⟨ad,cs,rfl,_,⟨rfl,hF⟩,hi⟩ := Sl.all h hx
  exact ⟨ad,rfl,hF,fun w' k => by have := (hi w' k).1 _ rfl;simpa using this⟩
theorem cl_open {w : World} {ok : Nat → Prop} {x : Cl} {cs : List Value} (h : ClR w ok x cs) : ∃ ap cp va vc pa pc ai ci ao co at' ct an cn,cs = [.int .i64 x.kind,.slice ap x.paths.length cp,.int .i64 x.ex.kind,.int .i64 x.ex.val.kind,.int .i64 x.ex.val.num,.string x.ex.val.text,.slice va x.ex.val.list.length vc,.string x.ex.name,.string x.ex.key,.slice pa x.ex.parts.length pc,.string x.name,.slice ai x.items.length ci,.bool x.distinct,.slice ao x.orders.length co,.int .i64 x.skip,.int .i64 x.limit,.slice at' x.tos.length ct,.slice an x.names.length cn,.bool x.detach] ∧ I64 x.kind ∧ Pas w ok (.slice ap x.paths.length cp) x.paths ∧ ER w ok x.ex [.int .i64 x.ex.kind,.int .i64 x.ex.val.kind,.int .i64 x.ex.val.num,.string x.ex.val.text,.slice va x.ex.val.list.length vc,.string x.ex.name,.string x.ex.key,.slice pa x.ex.parts.length pc] ∧ Fits x.name ∧ Its w ok (.slice ai x.items.length ci) x.items ∧ Ods w ok (.slice ao x.orders.length co) x.orders ∧ I64 x.skip ∧ I64 x.limit ∧ Tts w ok (.slice at' x.tos.length ct) x.tos ∧ Strs w ok (.slice an x.names.length cn) x.names := by
  obtain ⟨vp,va,vc,ve,vi,vo,vt,vn,rfl,h1,h2,he,h4,h5,h6,h7,h8,h9,h10⟩ := h
  have he' := he
  have h2' := h2
  have h5' := h5
  have h6' := h6
  have h9' := h9
  have h10' := h10
  obtain ⟨ap,cp,rfl,_⟩ := h2
  obtain ⟨ai,ci,rfl,_⟩ := h5
  obtain ⟨ao,co,rfl,_⟩ := h6
  obtain ⟨at',ct,rfl,_⟩ := h9
  obtain ⟨an,cn,rfl,_⟩ := h10
  obtain ⟨va',vc',s,e,_,_,_,_,pa,pc,rfl,_⟩ := ER.iff.1 he
  simp only [List.cons.injEq] at e
  obtain ⟨_,_,_,_,e1,_,_,rfl,_⟩ := e
  exact ⟨ap,cp,va,vc,pa,pc,ai,ci,ao,co,at',ct,an,cn,rfl,h1,h2',he',h4,h5',h6',h7,h8,h9',h10'⟩

/- A whole struct is read out of a row,wherever it lies;a clause of a question. No condition. -/
section
variable {P : Program}
theorem run_loadVar_at (w : World) (a : Addr) (ty : TypeId) (cs : List Value) (d : TypeDesc) (hc : ∀ j v,cs[j]? = some v → w.cell? (a.add j) = some v)
    (hu : P.underlying ty = some d) (hd : (match d with | .struct _ | .array _ _ => true | _ => false) = true) (hi : (P.info? ty).map (·.size) = some cs.length) :
    (loadVar ty a).run P w = .ok (.agg cs.toArray) w := by
  have hl : (loadCells a cs.length).run P w = .ok cs.toArray w := run_loadCells_list (P := P) w a cs hc
  cases hq : P.info? ty with
  | none => simp [hq] at hi
  | some i =>
    have hs : i.size = cs.length := by simpa [hq] using hi
    have hagg : (isAgg ty).run P w = .ok true w := by
      unfold isAgg
      rw [Sem.run_bind,run_underlying hu w]
      cases d <;> simp_all
    simp [loadVar,Sem.run_bind,hagg,sizeOf,typeInfo,hq,hs,hl]
theorem wp_load_at {o : Oper} {a : Act} {w : World} {K : Act → World → Prop} {Q : Exit → Act → World → Prop} (ty : TypeId) (x : Operand) (ho : o.op = .load ty x)
    (ad : Addr) (hx : a.eval x = .pointer (some ad)) (cs : List Value) (d : TypeDesc) (hc : ∀ j v,cs[j]? = some v → w.cell? (ad.add j) = some v)
    (hu : P.underlying ty = some d) (hd : (match d with | .struct _ | .array _ _ => true | _ => false) = true) (hi : (P.info? ty).map (·.size) = some cs.length)
    (h : K (a.put o.dst (.agg cs.toArray)) w) : o.wp P a w K Q := by
  unfold Oper.wp execOp
  simp only [ho,hx,Instr.loadAt,Instr.sureAddr,Sem.run_bind,Sem.run_pure,Result.andThen_ok,run_loadVar_at w ad ty cs d hc hu hd hi]
  exact h
theorem wpList_load_at {ops : Array Oper} {rest : List Oper} {o : Oper} {a : Act} {w : World} {Q : Exit → Act → World → Prop} (hgd : o.guard = none) (ty : TypeId) (x : Operand) (ho : o.op = .load ty x)
    (ad : Addr) (hx : a.eval x = .pointer (some ad)) (cs : List Value) (d : TypeDesc) (hc : ∀ j v,cs[j]? = some v → w.cell? (ad.add j) = some v)
    (hu : P.underlying ty = some d) (hd : (match d with | .struct _ | .array _ _ => true | _ => false) = true) (hi : (P.info? ty).map (·.size) = some cs.length)
    (h : wpList P ops Q rest (a.put o.dst (.agg cs.toArray)) w) : wpList P ops Q (o :: rest) a w :=
  wpList_plain hgd fun _ hK => wp_load_at ty x ho ad hx cs d hc hu hd hi (hK _ _ h)
end
theorem infoCl : (Tryz.prog.info? 122).map (·.size) = some 19 := by kernel_rfl
theorem cls_row {w : World} {ok : Nat → Prop} {a : Option Addr} {n c : Nat} {l : List Cl} (h : Cls w ok (.slice a n c) l) {j : Nat} {x : Cl} (hx : l[j]? = some x) :
    ∃ ad cs,a = some ad ∧ cs.length = 19 ∧ ∀ w',Keep ok w w' → ClR w' ok x cs ∧ w'.cell? (ad.add (j * 19)) = some (.int .i64 x.kind) ∧ ∀ i v,cs[i]? = some v → w'.cell? ((ad.add (j * 19)).add i) = some v := by
  obtain ⟨a',c',e,h1,h2,h3⟩ := h
  cases e
  obtain ⟨ad,rfl,hb,hf⟩ := h3 (fun e => by rw [e] at hx;cases hx)
  obtain ⟨cs,hv,hl,hc⟩ := hf j x hx
  refine ⟨ad,cs,rfl,hl,fun w' k => ?_⟩
  have hr := hv.keep k
  have hc' := hc.keep k hb
  have hat : ∀ i v,cs[i]? = some v → w'.cell? ((ad.add (j * 19)).add i) = some v := fun i v hv => by rw [Addr.add_add];exact hc' i v hv
  refine ⟨hr,?_,hat⟩
  obtain ⟨vp,va,vc,ve,vi,vo,vt,vn,rfl,_⟩ := hr
  have := hc' 0 _ rfl
  simpa using this

/- Which texts are names: the reference's test,for every text. -/
set_option maxHeartbeats 1000000

def inR (n a b : Int) : Bool := decide (a ≤ n) && decide (n ≤ b)
theorem l1In_calls (n a b : Int) (w : World) : Calls Tryz.prog 41 #[.int .i64 n,.int .i64 a,.int .i64 b] w (Quiet (inR n a b) w) := by
  go_enter Tryz.func41,Tryz.ntmps41
  go_wp2 <;> (go_ret;exact ⟨ret_bool (by rw [inR,Bool.eq_iff_iff];simp [*] <;> omega),rfl⟩)
theorem l2Letter_calls (c : Nat) (w : World) : Calls Tryz.prog 72 #[.int .u8 c] w (Quiet (letter c) w) := by
  go_enter Tryz.func72,Tryz.ntmps72
  go_wp2 <;> (go_ret;exact ⟨ret_bool (by rw [letter,Bool.eq_iff_iff];simp [*] <;> omega),rfl⟩)

theorem l2Kept_calls (t : ByteArray) (w : World) : Calls Tryz.prog 73 #[.string t] w (Tells (kept t) w) := by
  go_enter Tryz.func73,Tryz.ntmps73
  go_wp2
  go_loopg [4] 30 (fun g i wr => ∃ k : Nat,k ≤ 29 ∧ i = .int .i64 k ∧ g = 30 - k ∧ (∀ j x,j < k → words[j]? = some x → t.toList ≠ x) ∧ wr.heap[w.heap.size]? = some (.cells (words.map fun l => Value.string ⟨l.toArray⟩).toArray 9 (0,0)) ∧ Keep Any w wr)
  case atStart => exact ⟨0,by omega,rfl,rfl,fun j x hj => by omega,blk_new _ _,(Keep.refl _ _).alloc _⟩
  case round =>
    obtain ⟨k,hk,rfl,hg,hall,hb,hK⟩ := hrel
    have HG := hyd hg
    have HA := hyd hall
    have HB := hyd hb
    by_cases hlt : k < 29
    · have hx : words[k]? = some (words[k]'hlt) := List.getElem?_eq_getElem hlt
      have hc : wr.cell? ⟨w.heap.size,k,none⟩ = some (.string ⟨(words[k]'hlt).toArray⟩) := by
        rw [blk_cell hb,List.getElem?_toArray,List.getElem?_map,hx];rfl
      generalize words[k]'hlt = x at *
      have HX := hyd hx
      clear hg hall hb hx
      rcases hq : x == t.toList with _ | _
      · have hq2 : t.toList ≠ x := fun h => by rw [h] at hq;simp at hq
        have HQ := hyd hq2
        clear hq2
        go_wp2
        go_roundg (gk - 1)
        case rel => exact ⟨k + 1,by omega,by go_num,by have := HG.out;omega,fun j y hj hy => by rcases Nat.lt_succ_iff_lt_or_eq.1 hj with hj | rfl;exact HA.out j y hj hy;rw [HX.out] at hy;cases hy;exact HQ.out,HB.out,hK⟩
        case measure => have := HG.out;omega
      · have hr : kept t = true := List.any_eq_true.2 ⟨x,List.mem_of_getElem? HX.out,by rw [beq_iff_eq] at hq ⊢;exact hq.symm⟩
        have HR := hyd hr
        clear hr
        go_wp2
        go_ret
        exact ⟨ret_bool HR.out.symm,hK⟩
    · have hr : kept t = false := List.any_eq_false.2 fun x hx => by
        obtain ⟨j,hj,rfl⟩ := List.getElem_of_mem hx
        simpa using hall j _ (by have : words.length = 29 := rfl;omega) (List.getElem?_eq_getElem hj)
      have HR := hyd hr
      clear hr hall hb hg
      go_wp2
      go_ret
      exact ⟨ret_bool HR.out.symm,hK⟩

theorem l2Name_calls (t : ByteArray) (w : World) (hs : t.size ≤ 9223372036854775807) : Calls Tryz.prog 56 #[.string t] w (Tells (nameOk t) w) := by
  have IL := hyd l2Letter_calls
  have IK := hyd l2Kept_calls
  have II := hyd l1In_calls
  go_enter Tryz.func56,Tryz.ntmps56
  go_wp2
  go_outline
  go_loop [3] (fun i => ∃ k : Nat,k ≤ t.size ∧ i = .int .i64 k ∧ ∀ j,j < k → letter (at_ t j) = true ∨ (0 < j ∧ fig (at_ t j) = true)) (fun i => t.size - (intOf i).toNat)
  case atStart => exact ⟨0,by omega,rfl,fun j hj => by omega⟩
  case round =>
    obtain ⟨k,hk,rfl,hg⟩ := hrel
    have HG := hyd hg
    clear hg
    by_cases hlt : k < t.size
    · have e2 := at_eq t k hlt
      rcases hl : letter (at_ t k) with _ | _
      · have HL := hyd hl
        by_cases hf : k = 0 ∨ fig (at_ t k) = false
        · have hr : nameOk t = false := by rw [nameOk,shape_bad hlt hl hf.symm];rfl
          have HR := hyd hr
          have hf' : (((k : Nat) : Int) == 0) = true ∨ ((((k : Nat) : Int) == 0) = false ∧ (at_ t k < 48 ∨ 57 < at_ t k)) := by
            rcases hf with h | h
            · left;simp [h]
            · by_cases h0 : k = 0
              · left;simp [h0]
              · right;refine ⟨by simp;omega,?_⟩;simp only [fig,Bool.and_eq_false_iff,decide_eq_false_iff_not] at h;omega
          clear hr hl hf
          rcases hf' with b | ⟨b,b1 | b1⟩
          all_goals
            go_wp2_with (go_at_call 72;refine (IL.out _ _).mono ?_;rintro e w' ⟨rfl,rfl⟩;rw [HL.out])
            all_goals
              go_ret
              exact ⟨ret_bool HR.out.symm,Keep.refl _ _⟩
        · have b : (((k : Nat) : Int) == 0) = false := by simp;omega
          have hfig : fig (at_ t k) = true := by rcases h : fig (at_ t k) with _ | _;exact absurd (.inr h) hf;rfl
          obtain ⟨b1,b2⟩ : 48 ≤ at_ t k ∧ at_ t k ≤ 57 := by simpa [fig] using hfig
          have HF := hyd hfig
          have k0 : 0 < k := by omega
          clear hl hf hfig
          go_wp2_with (go_at_call 72;refine (IL.out _ _).mono ?_;rintro e w' ⟨rfl,rfl⟩;rw [HL.out])
          go_round
          case rel => exact ⟨k + 1,by omega,by go_num,fun j hj => by rcases Nat.lt_succ_iff_lt_or_eq.1 hj with hj | rfl;exact HG.out j hj;exact .inr ⟨k0,HF.out⟩⟩
          case measure => simp [intOf];omega
      · have HL := hyd hl
        clear hl
        go_wp2_with (go_at_call 72;refine (IL.out _ _).mono ?_;rintro e w' ⟨rfl,rfl⟩;rw [HL.out])
        go_round
        case rel => exact ⟨k + 1,by omega,by go_num,fun j hj => by rcases Nat.lt_succ_iff_lt_or_eq.1 hj with hj | rfl;exact HG.out j hj;exact .inl HL.out⟩
        case measure => simp [intOf];omega
    · by_cases hz : 1 ≤ t.size ∧ t.size ≤ 8
      · obtain ⟨z1,z2⟩ := hz
        have hsh := shape_good z1 z2 (by rcases HG.out 0 (by omega) with h | h;exact h;omega) (fun j hj => by rcases HG.out j (by omega) with h | h;exact .inl h;exact .inr h.2)
        have hr : nameOk t = !kept t := by rw [nameOk,hsh];rfl
        have HR := hyd hr
        clear hr hsh
        rcases hq : kept t with _ | _
        all_goals
          have HQ := hyd hq
          clear hq
          go_wp2_with (first | (go_at_call 41;refine (II.out _ _ _ _).mono ?_;rintro e w' ⟨rfl,rfl⟩;rw [show inR t.size 1 8 = true by simp [inR];omega]) | (go_at_call 73;refine (IK.out _ _).mono ?_;rintro e w' ⟨rfl,hK⟩;rw [HQ.out]))
          go_ret
          exact ⟨ret_bool (by rw [HR.out,HQ.out];rfl),hK⟩
      · have hz' : t.size = 0 ∨ 8 < t.size := by omega
        have hr : nameOk t = false := by rw [nameOk,shape_long hz'];rfl
        have HR := hyd hr
        clear hr hz
        have hz2 : t.size ≤ 0 ∨ 8 < t.size := by omega
        clear hz'
        rcases hz2 with h | h
        all_goals
          go_wp2
          go_ret
          exact ⟨ret_bool HR.out.symm,Keep.refl _ _⟩

/- A value's text: the reference's l1Put. For every value that is ok. -/
set_option maxRecDepth 20000
def L1Put (d : Nat) : Prop := ∀ (v : V) (cs : List Value) (w : World),VR w Any v cs → okV d v = true → Calls Tryz.prog 76 #[.agg cs.toArray] w (Str v.put w)
theorem slit_app (a : UInt8) (l : List UInt8) : (⟨#[a]⟩ : ByteArray) ++ ⟨l.toArray⟩ = ⟨(a :: l).toArray⟩ := by
  apply ByteArray.ext
  simp [ByteArray.data_append]
theorem squo_app (t : ByteArray) : (⟨#[39]⟩ : ByteArray) ++ t ++ ⟨#[39]⟩ = ⟨(39 :: (t.data.toList ++ [39])).toArray⟩ := by
  apply ByteArray.ext
  simp [ByteArray.data_append]
theorem outV_step0 {l : List V} {x : V} (h : l[0]? = some x) : (⟨(outV l 0).toArray⟩ : ByteArray) ++ ⟨x.put.toArray⟩ = ⟨(outV l 1).toArray⟩ := by
  rw [outV_succ h];simp [outV,Lib.join_nil];exact slit_app _ _
theorem outV_step {l : List V} {k : Nat} {x : V} (h : l[k]? = some x) (hk : 0 < k) : (⟨(outV l k).toArray⟩ : ByteArray) ++ ⟨#[44,32]⟩ ++ ⟨x.put.toArray⟩ = ⟨(outV l (k + 1)).toArray⟩ := by
  rw [outV_succ h,if_neg (by omega),← bytes_app,← bytes_app]
theorem outV_end (l : List V) : (⟨(outV l l.length).toArray⟩ : ByteArray) ++ ⟨#[93]⟩ = ⟨(rowTxt l).toArray⟩ := by
  rw [← outV_all,← bytes_app]
theorem l1Put_list (d : Nat) (hd : d ≤ 3) (ih : L1Put d) (num : Int) (text : ByteArray) (list : List V) (s : Value) (w : World) (hs : Vals w Any s list) (hl : list.length ≤ 6) (hok : ∀ x,x ∈ list → okV d x = true) :
    Calls Tryz.prog 76 #[.agg #[.int .i64 4,.int .i64 num,.string text,s]] w (Str (rowTxt list) w) := by
  have HS := hyd hs
  have HOK := hyd hok
  have IH := hyd ih
  clear ih hok
  obtain ⟨ad,c,rfl,hc,hm,_⟩ := hs
  have hz : (⟨#[91]⟩ : ByteArray) = ⟨(outV list 0).toArray⟩ := by simp [outV,Lib.join_nil]
  go_enter Tryz.func76,Tryz.ntmps76
  go_wp2
  go_loopg [3,4] (list.length + 1) (fun g o i wr => ∃ k : Nat,k ≤ list.length ∧ o = .string ⟨(outV list k).toArray⟩ ∧ i = .int .i64 k ∧ g = list.length + 1 - k ∧ wr.heap[w.heap.size]? = some (.cells #[.int .i64 4,.int .i64 num,.string text,.slice ad list.length c] 62 (0,0)) ∧ Keep Any w wr)
  case atStart => exact ⟨0,by omega,by rw [← hz],rfl,rfl,blk_new _ _,(Keep.refl _ _).alloc _⟩
  case round =>
    obtain ⟨k,hk,rfl,rfl,hg,hB,hK⟩ := hrel
    have HG := hyd hg
    have x3 := blk_cell hB 3
    simp only [List.getElem?_toArray,List.getElem?_cons_succ,List.getElem?_cons_zero] at x3
    have HB := hyd hB
    have hlen := outV_len (k := k) (b := 1000000) (l := list) (fun x hx => put_len3 (HOK.out x hx) hd) hl
    have hlen : (outV list k).length ≤ 10000000 := by omega
    clear hg hz hB
    by_cases hlt : k < list.length
    · have hx : list[k]? = some list[k] := List.getElem?_eq_getElem hlt
      have HX := hyd hx
      obtain ⟨ad,sa,sc,rfl,hvx,c0,c1,c2,c3⟩ := vals_at HS.out hK hx
      have hpl : list[k].put.length ≤ 1000000 := put_len3 (HOK.out _ (List.mem_of_getElem? hx)) hd
      generalize list[k] = x at *
      have HV := hyd hvx
      have HO := hyd (HOK.out x (List.mem_of_getElem? HX.out))
      clear hx hvx
      by_cases h0 : k = 0
      · have H0 := hyd h0
        have h0' : ¬ 0 < k := by omega
        clear h0
        go_wp2_with (go_at_call 76;refine (IH.out _ _ _ HV.out HO.out).mono ?_;rintro e w2 ⟨rfl,hK2⟩)
        go_roundg (gk - 1)
        case rel => exact ⟨k + 1,by omega,by have hx := HX.out;obtain rfl : k = 0 := H0.out;exact congrArg Value.string (outV_step0 hx),by go_num,by have := HG.out;omega,blk_keep hK2 HB.out trivial,hK.trans hK2⟩
        case measure => have := HG.out;omega
      · have hp : 0 < k := by omega
        go_wp2_with (go_at_call 76;refine (IH.out _ _ _ HV.out HO.out).mono ?_;rintro e w2 ⟨rfl,hK2⟩)
        go_roundg (gk - 1)
        case rel => exact ⟨k + 1,by omega,congrArg Value.string (outV_step HX.out hp),by go_num,by have := HG.out;omega,blk_keep hK2 HB.out trivial,hK.trans hK2⟩
        case measure => have := HG.out;omega
    · obtain rfl : k = list.length := by omega
      go_wp2
      go_ret
      exact ⟨congrArg (fun s => Ending.returned (.string s)) (outV_end _),hK⟩
theorem l1Put_of (d : Nat) (hd : d + 1 ≤ 3) (ih : L1Put d) : L1Put (d + 1) := by
  intro v cs w hv hok
  obtain ⟨kind,num,text,list⟩ := v
  obtain ⟨s,rfl,h1,h2,h3,hs⟩ := VR.iff.1 hv
  by_cases e4 : kind = 4
  · subst e4
    obtain ⟨hl,ha⟩ := okV_list hok
    rw [put_list]
    exact l1Put_list d (by omega) ih num text list s w hs hl ha
  · obtain ⟨n0,n1⟩ := okV_num hok
    have n0 : -1000000000 ≤ num := n0
    have n1 : num ≤ 1000000000 := n1
    have hlen := itoa_len2 num n0 n1
    have IT := hyd fun w => l1Dec_calls num w (by omega) (by omega)
    have htx := okV_text hok
    have htx : kind = 3 → text.size ≤ 16 := htx
    clear hs ih hv hok
    by_cases e1 : kind = 1
    · subst e1
      by_cases hn : num = 1
      · subst hn
        go_enter Tryz.func76,Tryz.ntmps76
        go_wp2
        go_ret
        exact ⟨by simp [V.put],(Keep.refl _ _).alloc _⟩
      · go_enter Tryz.func76,Tryz.ntmps76
        go_wp2
        go_ret
        exact ⟨by simp [V.put,hn],(Keep.refl _ _).alloc _⟩
    · by_cases e3 : kind = 3
      · have hq := htx e3
        subst e3
        go_enter Tryz.func76,Tryz.ntmps76
        go_wp2
        go_ret
        exact ⟨by rw [V.put];exact congrArg (fun s => Ending.returned (.string s)) (squo_app _),(Keep.refl _ _).alloc _⟩
      · clear htx
        by_cases e2 : kind = 2
        · subst e2
          go_enter Tryz.func76,Tryz.ntmps76
          go_wp2_with (go_at_call 24;refine (IT.out _).mono ?_;rintro e w2 ⟨rfl,hK2⟩)
          go_ret
          exact ⟨by rw [V.put];rfl,((Keep.refl _ _).alloc _).trans hK2⟩
        · by_cases e5 : kind = 5
          · subst e5
            go_enter Tryz.func76,Tryz.ntmps76
            go_wp2_with (go_at_call 24;refine (IT.out _).mono ?_;rintro e w2 ⟨rfl,hK2⟩)
            go_ret
            exact ⟨by rw [V.put];exact congrArg (fun s => Ending.returned (.string s)) (slit_app _ _),((Keep.refl _ _).alloc _).trans hK2⟩
          · by_cases e6 : kind = 6
            · subst e6
              go_enter Tryz.func76,Tryz.ntmps76
              go_wp2_with (go_at_call 24;refine (IT.out _).mono ?_;rintro e w2 ⟨rfl,hK2⟩)
              go_ret
              exact ⟨by rw [V.put];exact congrArg (fun s => Ending.returned (.string s)) (slit_app _ _),((Keep.refl _ _).alloc _).trans hK2⟩
            · go_enter Tryz.func76,Tryz.ntmps76
              go_wp2
              go_ret
              exact ⟨by rw [V.put,if_neg e1,if_neg e2,if_neg e3,if_neg e4,if_neg e5,if_neg e6];rfl,(Keep.refl _ _).alloc _⟩
theorem l1Put_all : ∀ d,d ≤ 3 → L1Put d
  | 0,_ => fun v cs w _ h => by simp [okV] at h
  | d + 1,h => l1Put_of d h (l1Put_all d (by omega))
theorem l1Put_calls : L1Put 3 := l1Put_all 3 (by omega)
end Go.Proofs.YtjopkcjpedgoaaaGreatDoor

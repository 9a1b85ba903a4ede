/- Data of one's own: no two parts of it share memory; a slice of such, one of its elements turned, one more behind it. No condition. The drawing of numbers out of bytes: a number from 0 to n-1 comes of each pick, whatever the bytes. One of a list of texts, drawn; a reader begun. Texts and rules among others (slices.Index, slices.Contains, l6Column): where the first is that is the same. For every list. -/
import Derived.Test.YtngghnakbhoiaaaGreatDoorMLawSvBegin0
import Derived.Laws.AppendOwn
import Derived.StillTailTactics
/- Data of one's own: no two parts of it share memory; a slice of such, one of its elements turned, one more behind it. No condition. -/
namespace Go.Proofs.YtngghnakbhoiaaaGreatDoor
open Go.RowKit
set_option linter.unusedVariables false

/-- A slice of one's own: no two elements share a block, none lies in the slice's own. -/
def SSl {α : Type} (sz : Nat) (R : World → (Nat → Prop) → α → List Value → Prop) (w : World) (ok : Nat → Prop) (v : Value) (l : List α) : Prop :=
  ∃ (a : Option Addr) (c : Nat), v = .slice a l.length c ∧ l.length ≤ c ∧ c ≤ 9223372036854775807 ∧
    (l ≠ [] → ∃ (b : Nat) (T : TypeId) (cur : Array Value) (g : Nat → Nat → Prop), a = some ⟨b, 0, none⟩ ∧ ok b ∧ w.heap[b]? = some (.cells cur T (0, 0)) ∧ (∀ j k, g j k → ok k ∧ k ≠ b) ∧ (∀ i j k, i ≠ j → g i k → ¬ g j k) ∧
      ∀ j x, l[j]? = some x → ∃ cs, R w (g j) x cs ∧ cs.length = sz ∧ ∀ i u, cs[i]? = some u → cur[j * sz + i]? = some u)
theorem blk_cells {w : World} {b : Nat} {T : TypeId} {cur : Array Value} {sz j : Nat} {cs : List Value} (h : w.heap[b]? = some (.cells cur T (0, 0))) (hc : ∀ i u, cs[i]? = some u → cur[j * sz + i]? = some u) : Cells w ⟨b, 0, none⟩ (j * sz) cs := by
  intro i u hu
  have e : (⟨b, 0, none⟩ : Addr).add (j * sz + i) = ⟨b, j * sz + i, none⟩ := by unfold Addr.add; split <;> simp_all
  rw [e, blk_cell h]
  exact hc i u hu
theorem SSl.sl {α : Type} {sz : Nat} {R : World → (Nat → Prop) → α → List Value → Prop} {R' : α → List Value → Prop} {w : World} {ok : Nat → Prop} {v : Value} {l : List α} (h : SSl sz R w ok v l)
    (hR : ∀ g x cs, x ∈ l → (∀ k, g k → ok k) → R w g x cs → R' x cs) : Sl sz R' w ok v l := by
  obtain ⟨a, c, rfl, h1, h2, h3⟩ := h
  refine ⟨a, c, rfl, h1, h2, fun hn => ?_⟩
  obtain ⟨b, T, cur, g, rfl, hb, hh, hsub, hdis, hf⟩ := h3 hn
  refine ⟨_, rfl, hb, fun j x hx => ?_⟩
  obtain ⟨cs, h4, h5, h6⟩ := hf j x hx
  exact ⟨cs, hR (g j) x cs (List.mem_of_getElem? hx) (fun k hk => (hsub j k hk).1) h4, h5, blk_cells hh h6⟩
theorem SSl.mono {α : Type} {sz : Nat} {R : World → (Nat → Prop) → α → List Value → Prop} {w : World} {ok ok' : Nat → Prop} {v : Value} {l : List α} (h : SSl sz R w ok v l)
    (ho : ∀ k, ok k → ok' k) : SSl sz R w ok' v l := by
  obtain ⟨a, c, rfl, h1, h2, h3⟩ := h
  refine ⟨a, c, rfl, h1, h2, fun hn => ?_⟩
  obtain ⟨b, T, cur, g, rfl, hb, hh, hsub, hdis, hf⟩ := h3 hn
  exact ⟨b, T, cur, g, rfl, ho _ hb, hh, fun j k hk => ⟨ho _ (hsub j k hk).1, (hsub j k hk).2⟩, hdis, hf⟩
theorem SSl.keep {α : Type} {sz : Nat} {R : World → (Nat → Prop) → α → List Value → Prop} {w w' : World} {ok : Nat → Prop} {v : Value} {l : List α} (h : SSl sz R w ok v l)
    (hR : ∀ g x cs, x ∈ l → R w g x cs → Keep g w w' → R w' g x cs) (k : Keep ok w w') : SSl sz R w' ok v l := by
  obtain ⟨a, c, rfl, h1, h2, h3⟩ := h
  refine ⟨a, c, rfl, h1, h2, fun hn => ?_⟩
  obtain ⟨b, T, cur, g, rfl, hb, hh, hsub, hdis, hf⟩ := h3 hn
  refine ⟨b, T, cur, g, rfl, hb, blk_keep k hh hb, hsub, hdis, fun j x hx => ?_⟩
  obtain ⟨cs, h4, h5, h6⟩ := hf j x hx
  exact ⟨cs, hR (g j) x cs (List.mem_of_getElem? hx) h4 (k.mono fun i _ hi => (hsub j i hi).1), h5, h6⟩
theorem SSl.nil {α : Type} {sz : Nat} {R : World → (Nat → Prop) → α → List Value → Prop} {w : World} {ok : Nat → Prop} : SSl sz R w ok (.slice none 0 0) [] :=
  ⟨none, 0, rfl, Nat.le_refl _, by omega, fun h => absurd rfl h⟩
/-- One element, to be read and turned: all else stays. -/
theorem SSl.lens {α : Type} {sz : Nat} {R : World → (Nat → Prop) → α → List Value → Prop} {w : World} {ok : Nat → Prop} {a : Option Addr} {n c : Nat} {l : List α}
    (hk : ∀ {w w' ok x cs}, R w ok x cs → Keep ok w w' → R w' ok x cs) (h : SSl sz R w ok (.slice a n c) l) {j : Nat} {x : α} (hx : l[j]? = some x) :
    ∃ (b : Nat) (T : TypeId) (cur : Array Value) (gj : Nat → Prop) (cs : List Value), a = some ⟨b, 0, none⟩ ∧ ok b ∧ (∀ k, gj k → ok k ∧ k ≠ b) ∧ w.heap[b]? = some (.cells cur T (0, 0)) ∧ R w gj x cs ∧ cs.length = sz ∧
      (∀ i u, cs[i]? = some u → cur[j * sz + i]? = some u) ∧
      ∀ (w' : World) (cur' : Array Value) (y : α) (ds : List Value), w'.heap[b]? = some (.cells cur' T (0, 0)) → (∀ i, i < j * sz ∨ j * sz + sz ≤ i → cur'[i]? = cur[i]?) → R w' gj y ds → ds.length = sz →
        (∀ i u, ds[i]? = some u → cur'[j * sz + i]? = some u) → Keep (fun k => k ≠ b ∧ ¬ gj k) w w' → SSl sz R w' ok (.slice a n c) (l.set j y) := by
  obtain ⟨a', c', e, h1, h2, h3⟩ := h
  cases e
  obtain ⟨b, T, cur, g, rfl, hb, hh, hsub, hdis, hf⟩ := h3 (fun e => by rw [e] at hx; cases hx)
  obtain ⟨cs, h4, h5, h6⟩ := hf j x hx
  refine ⟨b, T, cur, g j, cs, rfl, hb, hsub j, hh, h4, h5, h6, fun w' cur' y ds k1 k2 k3 k4 k5 k6 => ?_⟩
  refine ⟨_, c, by rw [List.length_set], by rw [List.length_set]; exact h1, h2, fun _ => ⟨b, T, cur', g, rfl, hb, k1, hsub, hdis, fun i z hz => ?_⟩⟩
  by_cases hij : i = j
  · subst hij
    have hz' : (l.set i y)[i]? = some y := by rw [List.getElem?_set_self (List.getElem?_eq_some_iff.1 hx).1]
    rw [hz'] at hz
    cases hz
    exact ⟨ds, k3, k4, k5⟩
  · rw [List.getElem?_set_ne (fun e => hij e.symm)] at hz
    obtain ⟨es, m1, m2, m3⟩ := hf i z hz
    refine ⟨es, hk m1 (k6.mono fun k _ hk => ⟨(hsub i k hk).2, hdis i j k hij hk⟩), m2, fun o u hu => ?_⟩
    have ho : o < sz := by rw [← m2]; exact (List.getElem?_eq_some_iff.1 hu).1
    rw [k2 (i * sz + o) ?_]
    · exact m3 o u hu
    · rcases Nat.lt_or_gt_of_ne hij with hlt | hgt
      · left
        calc i * sz + o < i * sz + sz := by omega
          _ = (i + 1) * sz := by rw [Nat.add_mul, Nat.one_mul]
          _ ≤ j * sz := Nat.mul_le_mul_right _ hlt
      · right
        calc j * sz + sz = (j + 1) * sz := by rw [Nat.add_mul, Nat.one_mul]
          _ ≤ i * sz := Nat.mul_le_mul_right _ hgt
          _ ≤ i * sz + o := by omega

/-! values of one's own -/
inductive SV (w : World) : (Nat → Prop) → V → List Value → Prop where
  | mk (ok : Nat → Prop) (v : V) (a : Option Addr) (c : Nat) (b : Nat) (T : TypeId) (cur : Array Value) (f : Nat → List Value) (g : Nat → Nat → Prop) (h1 : I64 v.kind) (h2 : I64 v.num) (h3 : Fits v.text) (hc : v.list.length ≤ c) (hm : c ≤ 9223372036854775807)
      (ha : v.list ≠ [] → a = some ⟨b, 0, none⟩) (ho : v.list ≠ [] → ok b) (hh : v.list ≠ [] → w.heap[b]? = some (.cells cur T (0, 0))) (hsub : ∀ j k, v.list ≠ [] → g j k → ok k ∧ k ≠ b) (hdis : ∀ i j k, i ≠ j → g i k → ¬ g j k)
      (hr : ∀ j x, v.list[j]? = some x → SV w (g j) x (f j)) (hcell : ∀ j x, v.list[j]? = some x → ∀ i u, (f j)[i]? = some u → cur[j * 4 + i]? = some u) :
      SV w ok v [.int .i64 v.kind, .int .i64 v.num, .string v.text, .slice a v.list.length c]
theorem SV.len {w : World} {ok : Nat → Prop} {v : V} {cs : List Value} (h : SV w ok v cs) : cs.length = 4 := by cases h; rfl
theorem SV.vr {w : World} {ok : Nat → Prop} {v : V} {cs : List Value} (h : SV w ok v cs) : VR w ok v cs := by
  induction h with
  | mk ok v a c b T cur f g h1 h2 h3 hc hm ha ho hh hsub hdis hr hcell ih =>
    exact .mk v a c ⟨b, 0, none⟩ f h1 h2 h3 hc hm ha ho (fun j x hx => (ih j x hx).mono fun k _ hk => (hsub j k (fun e => by rw [e] at hx; cases hx) hk).1) fun j x hx => blk_cells (hh (fun e => by rw [e] at hx; cases hx)) (hcell j x hx)
theorem SV.keep {w w' : World} {ok : Nat → Prop} {v : V} {cs : List Value} (h : SV w ok v cs) (k : Keep ok w w') : SV w' ok v cs := by
  induction h with
  | mk ok v a c b T cur f g h1 h2 h3 hc hm ha ho hh hsub hdis hr hcell ih =>
    exact .mk ok v a c b T cur f g h1 h2 h3 hc hm ha ho (fun hn => blk_keep k (hh hn) (ho hn)) hsub hdis (fun j x hx => ih j x hx (k.mono fun i _ hi => (hsub j i (fun e => by rw [e] at hx; cases hx) hi).1)) hcell
theorem SV.mono {w : World} {ok ok' : Nat → Prop} {v : V} {cs : List Value} (h : SV w ok v cs) (k : ∀ k, ok k → ok' k) : SV w ok' v cs := by
  cases h with
  | mk _ _ a c b T cur f g h1 h2 h3 hc hm ha ho hh hsub hdis hr hcell =>
    exact .mk ok' v a c b T cur f g h1 h2 h3 hc hm ha (fun hn => k _ (ho hn)) hh (fun j i hn hi => ⟨k _ (hsub j i hn hi).1, (hsub j i hn hi).2⟩) hdis hr hcell
abbrev SVs (w : World) (ok : Nat → Prop) (v : Value) (l : List V) : Prop := SSl 4 SV w ok v l
theorem SVs.keep {w w' : World} {ok : Nat → Prop} {v : Value} {l : List V} (h : SVs w ok v l) (k : Keep ok w w') : SVs w' ok v l := SSl.keep h (fun _ _ _ _ h k => h.keep k) k
theorem SVs.vals {w : World} {ok : Nat → Prop} {v : Value} {l : List V} (h : SVs w ok v l) : Vals w ok v l := SSl.sl h fun g x cs _ hg h => h.vr.mono fun k _ hk => hg k hk
theorem SV.iff {w : World} {ok : Nat → Prop} {v : V} {cs : List Value} : SV w ok v cs ↔ ∃ s, cs = [.int .i64 v.kind, .int .i64 v.num, .string v.text, s] ∧ I64 v.kind ∧ I64 v.num ∧ Fits v.text ∧ SVs w ok s v.list := by
  constructor
  · rintro ⟨_, _, a, c, b, T, cur, f, g, h1, h2, h3, hc, hm, ha, ho, hh, hsub, hdis, hr, hcell⟩
    exact ⟨_, rfl, h1, h2, h3, a, c, rfl, hc, hm, fun hn => ⟨b, T, cur, g, ha hn, ho hn, hh hn, fun j k => hsub j k hn, hdis, fun j x hx => ⟨f j, hr j x hx, (hr j x hx).len, hcell j x hx⟩⟩⟩
  · rintro ⟨s, rfl, h1, h2, h3, a, c, rfl, hc, hm, h⟩
    by_cases hn : v.list = []
    · exact .mk ok v a c 0 0 #[] (fun _ => []) (fun _ _ => False) h1 h2 h3 hc hm (fun h => absurd hn h) (fun h => absurd hn h) (fun h => absurd hn h) (fun _ _ h => absurd hn h) (fun _ _ _ _ h => h.elim) (fun j x hx => by rw [hn] at hx; cases hx) (fun j x hx => by rw [hn] at hx; cases hx)
    · obtain ⟨b, T, cur, g, rfl, ho, hh, hsub, hdis, hf⟩ := h hn
      have hf' : ∀ j, ∃ cs, ∀ x, v.list[j]? = some x → SV w (g j) x cs ∧ ∀ i u, cs[i]? = some u → cur[j * 4 + i]? = some u := fun j => by
        cases hx : v.list[j]? with
        | none => exact ⟨[], fun x h => by cases h⟩
        | some x => obtain ⟨cs, h, _, h'⟩ := hf j x hx; exact ⟨cs, fun y hy => by cases hy; exact ⟨h, h'⟩⟩
      exact .mk ok v _ c b T cur (fun j => (hf' j).choose) g h1 h2 h3 hc hm (fun _ => rfl) (fun _ => ho) (fun _ => hh) (fun j k _ => hsub j k) hdis (fun j x hx => ((hf' j).choose_spec x hx).1) (fun j x hx => ((hf' j).choose_spec x hx).2)
/-! cells (a name and a value), texts, of one's own -/
def SCe (w : World) (ok : Nat → Prop) (c : Ce) (cs : List Value) : Prop := ∃ d, cs = .string c.name :: d ∧ Fits c.name ∧ SV w ok c.val d
theorem SCe.keep {w w' : World} {ok : Nat → Prop} {c : Ce} {cs : List Value} (h : SCe w ok c cs) (k : Keep ok w w') : SCe w' ok c cs := by
  obtain ⟨d, rfl, h1, h2⟩ := h; exact ⟨d, rfl, h1, h2.keep k⟩
theorem SCe.ce {w : World} {ok : Nat → Prop} {c : Ce} {cs : List Value} (h : SCe w ok c cs) : CeR w ok c cs := by
  obtain ⟨d, rfl, h1, h2⟩ := h; exact ⟨d, rfl, h1, h2.vr⟩
theorem SCe.len {w : World} {ok : Nat → Prop} {c : Ce} {cs : List Value} (h : SCe w ok c cs) : cs.length = 5 := by
  obtain ⟨d, rfl, h1, h2⟩ := h; rw [List.length_cons, h2.len]
abbrev SCes (w : World) (ok : Nat → Prop) (v : Value) (l : List Ce) : Prop := SSl 5 SCe w ok v l
theorem SCes.keep {w w' : World} {ok : Nat → Prop} {v : Value} {l : List Ce} (h : SCes w ok v l) (k : Keep ok w w') : SCes w' ok v l := SSl.keep h (fun _ _ _ _ h k => h.keep k) k
theorem SCes.ces {w : World} {ok : Nat → Prop} {v : Value} {l : List Ce} (h : SCes w ok v l) : Ces w ok v l := SSl.sl h fun g x cs _ hg h => h.ce.mono fun k _ hk => hg k hk
def SStr (_ : World) (_ : Nat → Prop) (s : ByteArray) (cs : List Value) : Prop := cs = [.string s] ∧ Fits s
abbrev SStrs (w : World) (ok : Nat → Prop) (v : Value) (l : List ByteArray) : Prop := SSl 1 SStr w ok v l
theorem SStrs.keep {w w' : World} {ok : Nat → Prop} {v : Value} {l : List ByteArray} (h : SStrs w ok v l) (k : Keep ok w w') : SStrs w' ok v l := SSl.keep h (fun _ _ _ _ h _ => h) k
theorem SStrs.strs {w : World} {ok : Nat → Prop} {v : Value} {l : List ByteArray} (h : SStrs w ok v l) : Strs w ok v l := SSl.sl h fun g x cs _ hg h => h

/-! a slice of one's own that grows by append -/
/-- The value of a slice that this call made by append, with what it holds: the elements' own blocks lie below 'top', none in the slice's own. -/
def SRow {α : Type} (sz : Nat) (R : World → (Nat → Prop) → α → List Value → Prop) (w : World) (base top : Nat) (T : TypeId) (v : Value) (l : List α) (css : List (List Value)) : Prop :=
  ∃ (g : Nat → Nat → Prop), css.length = l.length ∧ w.ownsRow base T sz v l.length css.flatten ∧ (∀ c, c ∈ css → c.length = sz) ∧
    (∀ j x cs, l[j]? = some x → css[j]? = some cs → R w (g j) x cs) ∧ (∀ j k, g j k → base ≤ k ∧ k < top ∧ v.ownBlock ≠ some k) ∧ (∀ i j k, i ≠ j → g i k → ¬ g j k) ∧ base ≤ top ∧ top ≤ w.heap.size ∧ (∀ k, v.ownBlock = some k → k < top)
theorem SRow.nil {α : Type} {sz : Nat} {R : World → (Nat → Prop) → α → List Value → Prop} (w : World) (base top : Nat) (T : TypeId) (h1 : base ≤ top) (h2 : top ≤ w.heap.size) : SRow sz R w base top T (.slice none 0 0) ([] : List α) [] :=
  ⟨fun _ _ => False, rfl, World.ownsRow_nil .., (fun _ h => by cases h), (fun j x cs h => by cases h), fun _ _ h => h.elim, fun _ _ _ _ h => h.elim, h1, h2, (fun k h => by cases h)⟩
theorem flatten_at {sz : Nat} : ∀ {css : List (List Value)} {j i : Nat} {cs : List Value} {u : Value}, (∀ c, c ∈ css → c.length = sz) → css[j]? = some cs → cs[i]? = some u → css.flatten[j * sz + i]? = some u
  | [], j, _, _, _, _, h, _ => by simp at h
  | c :: css, 0, i, cs, u, hl, h, hu => by
    simp only [List.getElem?_cons_zero, Option.some.injEq] at h
    subst h
    rw [List.flatten_cons, Nat.zero_mul, Nat.zero_add, List.getElem?_append_left (List.getElem?_eq_some_iff.1 hu).1, hu]
  | c :: css, j + 1, i, cs, u, hl, h, hu => by
    rw [List.getElem?_cons_succ] at h
    have hc := hl c (List.mem_cons_self ..)
    rw [List.flatten_cons, List.getElem?_append_right (by rw [hc, Nat.add_mul, Nat.one_mul]; omega), hc, show (j + 1) * sz + i - sz = j * sz + i by rw [Nat.add_mul, Nat.one_mul]; omega]
    exact flatten_at (fun d hd => hl d (List.mem_cons_of_mem _ hd)) h hu
theorem SRow.keep {α : Type} {sz : Nat} {R : World → (Nat → Prop) → α → List Value → Prop} {w w' : World} {base top : Nat} {T : TypeId} {v : Value} {l : List α} {css : List (List Value)} (hk : ∀ {w w' ok x cs}, R w ok x cs → Keep ok w w' → R w' ok x cs)
    (h : SRow sz R w base top T v l css) (k : Keep Any w w') : SRow sz R w' base top T v l css := by
  obtain ⟨g, h1, h2, h3, h4, h5, h6, h7, h8, h9⟩ := h
  exact ⟨g, h1, h2.kept (row := none) (k.grownBy0 none) (by cases hv : v.ownBlock with | none => exact .inl rfl | some b => exact .inr (by simp)), h3, fun j x cs hx hc => hk (h4 j x cs hx hc) k.any, h5, h6, h7, Nat.le_trans h8 k.size, h9⟩
theorem SRow.own {α : Type} {sz : Nat} {R : World → (Nat → Prop) → α → List Value → Prop} {w : World} {base top : Nat} {T : TypeId} {v : Value} {l : List α} {css : List (List Value)} (h : SRow sz R w base top T v l css) : w.ownsRow base T sz v l.length css.flatten := by
  obtain ⟨g, h1, h2, _⟩ := h; exact h2
/-- One more, behind an append: its own blocks are new since the row was as it is. -/
theorem SRow.snoc {α : Type} {sz : Nat} {R : World → (Nat → Prop) → α → List Value → Prop} {w w' : World} {base top : Nat} {T : TypeId} {v v' : Value} {l : List α} {css : List (List Value)} {x : α} {cs : List Value} {gx : Nat → Prop}
    (hk : ∀ {w w' ok x cs}, R w ok x cs → Keep ok w w' → R w' ok x cs) (h : SRow sz R w base top T v l css)
    (hown : w'.ownsRow base T sz v' (l.length + 1) (css.flatten ++ cs)) (hg : w.grownBy w' v.ownBlock) (hv : v'.ownBlock = v.ownBlock ∨ v'.ownBlock = some w.heap.size)
    (hx : R w gx x cs) (hl : cs.length = sz) (hgx : ∀ k, gx k → top ≤ k ∧ k < w.heap.size) : SRow sz R w' base w'.heap.size T v' (l ++ [x]) (css ++ [cs]) := by
  obtain ⟨g, h1, h2, h3, h4, h5, h6, h7, h8, h9⟩ := h
  have hsz := hg.size
  have hnew : ∀ k, k < w.heap.size → v.ownBlock ≠ some k → v'.ownBlock ≠ some k := fun k hk hn he => by
    rcases hv with hv | hv
    · exact hn (hv ▸ he)
    · rw [hv] at he; cases he; omega
  have hgk : ∀ gg : Nat → Prop, (∀ k, gg k → v.ownBlock ≠ some k) → Keep gg w w' := fun gg hn => (Keep.refl gg w).grown hg fun k e _ hk => hn k hk e
  refine ⟨fun j k => if j < l.length then g j k else j = l.length ∧ gx k, by simp [h1], by simpa using hown, fun c hc => ?_, fun j y ds hy hd => ?_, fun j k hj => ?_, fun i j k hij hi hj => ?_, by omega, Nat.le_refl _, fun k e => (hown.lt k e).2⟩
  · rcases List.mem_append.1 hc with hc | hc
    · exact h3 c hc
    · rw [List.mem_singleton.1 hc]; exact hl
  · by_cases hlt : j < l.length
    · rw [List.getElem?_append_left hlt] at hy
      rw [List.getElem?_append_left (by omega)] at hd
      simp only [hlt, if_true]
      exact hk (h4 j y ds hy hd) (hgk _ fun k hk => (h5 j k hk).2.2)
    · have hj : j = l.length := by
        have := (List.getElem?_eq_some_iff.1 hy).1
        simp only [List.length_append, List.length_singleton] at this
        omega
      subst hj
      rw [List.getElem?_append_right (Nat.le_refl _), Nat.sub_self] at hy
      rw [List.getElem?_append_right (by omega), h1, Nat.sub_self] at hd
      cases hy
      cases hd
      simp only [Nat.lt_irrefl, if_false, true_and]
      exact hk hx (hgk _ fun k hk e => by have := h9 k e; have := (hgx k hk).1; omega)
  · by_cases hlt : j < l.length
    · simp only [hlt, if_true] at hj
      obtain ⟨a1, a2, a3⟩ := h5 j k hj
      exact ⟨a1, by omega, hnew k (by omega) a3⟩
    · simp only [hlt, if_false] at hj
      obtain ⟨a1, a2⟩ := hgx k hj.2
      exact ⟨by omega, by omega, hnew k a2 fun e => by have := h9 k e; omega⟩
  · by_cases hi' : i < l.length <;> by_cases hj' : j < l.length <;> simp only [hi', hj', if_true, if_false] at hi hj
    · exact h6 i j k hij hi hj
    · have := (h5 i k hi).2.1; have := (hgx k hj.2).1; omega
    · have := (h5 j k hj).2.1; have := (hgx k hi.2).1; omega
    · omega
theorem SRow.slice {α : Type} {sz : Nat} {R : World → (Nat → Prop) → α → List Value → Prop} {w : World} {base top : Nat} {T : TypeId} {v : Value} {l : List α} {css : List (List Value)} (h : SRow sz R w base top T v l css) {ok : Nat → Prop}
    (ho : ∀ k, base ≤ k → k < w.heap.size → ok k) : SSl sz R w ok v l := by
  obtain ⟨g, h1, h2, h3, h4, h5, h6, h7, h8, h9⟩ := h
  rcases h2.2 with ⟨rfl, h0⟩ | ⟨b, cap, cur, rfl, hb, hh, hc, hm, hs, ht⟩
  · have : l = [] := List.eq_nil_of_length_eq_zero h0
    subst this
    exact SSl.nil
  · refine ⟨_, cap, rfl, hc, by unfold maxLen at hm; omega, fun hn => ⟨b, T, cur, g, rfl, ho b hb (blk_lt hh), hh, fun j k hk => ?_, h6, fun j x hx => ?_⟩⟩
    · obtain ⟨a1, a2, a3⟩ := h5 j k hk
      exact ⟨ho k a1 (by omega), fun e => a3 (by rw [e]; rfl)⟩
    · have hj := (List.getElem?_eq_some_iff.1 hx).1
      have hcs : css[j]? = some css[j] := List.getElem?_eq_getElem (by omega)
      refine ⟨_, h4 j x _ hx hcs, h3 _ (List.getElem_mem _), fun i u hu => ?_⟩
      have := flatten_at h3 hcs hu
      rw [← ht, List.getElem?_take] at this
      split at this
      · simpa using this
      · cases this
theorem rowV_keep {w w' : World} {base top : Nat} {T : TypeId} {v : Value} {l : List V} {css : List (List Value)} (h : SRow 4 SV w base top T v l css) (k : Keep Any w w') : SRow 4 SV w' base top T v l css := SRow.keep (R := SV) (fun h k => SV.keep h k) h k
theorem rowV_snoc {w w' : World} {base top : Nat} {T : TypeId} {v v' : Value} {l : List V} {css : List (List Value)} {x : V} {cs : List Value} {gx : Nat → Prop} (h : SRow 4 SV w base top T v l css)
    (hown : w'.ownsRow base T 4 v' (l.length + 1) (css.flatten ++ cs)) (hg : w.grownBy w' v.ownBlock) (hv : v'.ownBlock = v.ownBlock ∨ v'.ownBlock = some w.heap.size)
    (hx : SV w gx x cs) (hgx : ∀ k, gx k → top ≤ k ∧ k < w.heap.size) : SRow 4 SV w' base w'.heap.size T v' (l ++ [x]) (css ++ [cs]) := SRow.snoc (R := SV) (fun h k => SV.keep h k) h hown hg hv hx hx.len hgx
theorem rowC_keep {w w' : World} {base top : Nat} {T : TypeId} {v : Value} {l : List Ce} {css : List (List Value)} (h : SRow 5 SCe w base top T v l css) (k : Keep Any w w') : SRow 5 SCe w' base top T v l css := SRow.keep (R := SCe) (fun h k => SCe.keep h k) h k
theorem rowC_snoc {w w' : World} {base top : Nat} {T : TypeId} {v v' : Value} {l : List Ce} {css : List (List Value)} {x : Ce} {cs : List Value} {gx : Nat → Prop} (h : SRow 5 SCe w base top T v l css)
    (hown : w'.ownsRow base T 5 v' (l.length + 1) (css.flatten ++ cs)) (hg : w.grownBy w' v.ownBlock) (hv : v'.ownBlock = v.ownBlock ∨ v'.ownBlock = some w.heap.size)
    (hx : SCe w gx x cs) (hgx : ∀ k, gx k → top ≤ k ∧ k < w.heap.size) : SRow 5 SCe w' base w'.heap.size T v' (l ++ [x]) (css ++ [cs]) := SRow.snoc (R := SCe) (fun h k => SCe.keep h k) h hown hg hv hx hx.len hgx
section
variable {P : Program} (w : World)
/-- An append tells also where the row lies then. -/
theorem run_append_sep (base : Nat) (t ty e : TypeId) (i : TypeInfo) (z : Value) (size bytes : Nat) (ht : P.underlying t = some (.slice e)) (hi : P.info? e = some i) (hz : i.zero = some z)
    (hsize : i.size = size) (hby : i.bytes = bytes) (hzs : z.cells.size = size) (hsz : 0 < size)
    (v : Value) (n : Nat) (xs : List Value) (hown : w.ownsRow base e size v n xs)
    (a : Addr) (m c : Nat) (news : List Value) (hl : news.length = m * size) (hnews : ∀ j u, news[j]? = some u → w.cell? (a.add j) = some u) (h1 : ∀ u ∈ news, u.oneCell' = true)
    (h63 : n + m ≤ maxLen) (hbytes : (n + m) * bytes ≤ 140737488355328) (hbase : base ≤ w.heap.size) (hm : 0 < m) :
    ∃ v' w', (Builtin.append_ #[t, t] ty #[v, .slice (some a) m c]).run P w = .ok v' w' ∧ w'.ownsRow base e size v' (n + m) (xs ++ news) ∧ w.grownBy w' v.ownBlock ∧ (v'.ownBlock = v.ownBlock ∨ v'.ownBlock = some w.heap.size) := by
  obtain ⟨v', w', hr, h2, h3, _⟩ := run_append_own (P := P) w base t ty e i z size bytes ht hi hz hsize hby hzs hsz v n xs hown a m c news hl hnews h1 h63 hbytes hbase
  refine ⟨v', w', hr, h2, h3, ?_⟩
  subst hsize
  subst hby
  have hsmall : n + m ≤ 9223372036854775807 := by simp only [maxLen] at h63; omega
  rcases hown.2 with ⟨rfl, rfl⟩ | ⟨g, cap, cur, rfl, hbg, hg, hnc, hcm, hcs, htake⟩
  · have hx := run_append_nil (P := P) w t ty e i z ht hi hz a m c news hl hnews hm (by omega) (by have hb := hbytes; simp only [Nat.zero_add] at hb; omega)
    rw [hr] at hx
    simp only [Result.ok.injEq] at hx
    rw [hx.1]
    exact .inr rfl
  · by_cases hroom : n + m ≤ cap
    · have hfit : n * i.size + news.length ≤ cur.size := by rw [hl, hcs, ← Nat.add_mul]; exact Nat.mul_le_mul_right _ hroom
      have hx := run_append_room (P := P) w t ty e i ht hi g n cap cur hg a m c news hl hnews h1 hroom hfit
      rw [hr] at hx
      simp only [Result.ok.injEq] at hx
      rw [hx.1]
      exact .inl rfl
    · have holds : ∀ j u, xs[j]? = some u → w.cell? ((⟨g, 0, none⟩ : Addr).add j) = some u := hown.cells (g := g) rfl
      have hx := run_append_grow (P := P) w t ty e i z ht hi hz ⟨g, 0, none⟩ n cap xs hown.1 holds a m c news hl hnews (by omega) (by omega) (growslice_fits (by omega) hbytes)
      rw [hr] at hx
      simp only [Result.ok.injEq] at hx
      rw [hx.1]
      exact .inr rfl
theorem wpList_append_sep {ops : Array Oper} {rest : List Oper} {o : Oper} {a : Act} {Q : Exit → Act → World → Prop} (hgd : o.guard = none) (s x : Operand) (t : TypeId)
    (ho : o.op = .call { callee := .builtin .append, args := #[s, x], argTypes := #[t, t] })
    (base : Nat) (e : TypeId) (i : TypeInfo) (z : Value) (size bytes : Nat) (ht : P.underlying t = some (.slice e)) (hi : P.info? e = some i) (hz : i.zero = some z)
    (hsize : i.size = size) (hby : i.bytes = bytes) (hzs : z.cells.size = size) (hsz : 0 < size)
    (v : Value) (n : Nat) (xs : List Value) (hs : a.eval s = v) (hown : w.ownsRow base e size v n xs)
    (ad : Addr) (m c : Nat) (news : List Value) (hx : a.eval x = .slice (some ad) m c) (hl : news.length = m * size) (hnews : ∀ j u, news[j]? = some u → w.cell? (ad.add j) = some u) (h1 : ∀ u ∈ news, u.oneCell' = true)
    (h63 : n + m ≤ maxLen) (hbytes : (n + m) * bytes ≤ 140737488355328) (hbase : base ≤ w.heap.size) (hm : 0 < m)
    (h : ∀ v' w', w'.ownsRow base e size v' (n + m) (xs ++ news) → w.grownBy w' v.ownBlock → (v'.ownBlock = v.ownBlock ∨ v'.ownBlock = some w.heap.size) → wpList P ops Q rest (a.put o.dst v') w') : wpList P ops Q (o :: rest) a w :=
  wpList_plain hgd fun _ hK => by
    obtain ⟨v', w', hr, h2, h3, h4⟩ := run_append_sep (P := P) w base t o.type e i z size bytes ht hi hz hsize hby hzs hsz v n xs hown ad m c news hl hnews h1 h63 hbytes hbase hm
    unfold Oper.wp execOp
    simp only [ho, resolve, invoke, builtin, Sem.run_bind, Sem.run_pure, Result.andThen_ok, List.map_toArray, List.map_cons, List.map_nil, hs, hx, hr]
    exact hK _ _ (h v' w' h2 h3 h4)
end
end Go.Proofs.YtngghnakbhoiaaaGreatDoor

/- The drawing of numbers out of bytes: a number from 0 to n-1 comes of each pick, whatever the bytes. -/
namespace Go.Proofs.YtngghnakbhoiaaaGreatDoor
open Go.RowKit
set_option linter.unusedVariables false
set_option linter.unusedSimpArgs false
/-- n bytes that can be read, none of them in the block b -/
def Byt (w : World) (b : Nat) (s : Value) (n : Nat) : Prop :=
  ∃ (a : Option Addr) (c : Nat), s = .slice a n c ∧ n ≤ c ∧ c ≤ 9223372036854775807 ∧ (0 < n → ∃ ad : Addr, a = some ad ∧ ad.block ≠ b ∧ ∀ i, i < n → ∃ x : Nat, x < 256 ∧ w.cell? (ad.add i) = some (.int .u8 x))
/-- the reader of them, in its own block -/
def Rdr (w : World) (b : Nat) (s : Value) (n p : Nat) : Prop := w.heap[b]? = some (.cells #[s, .int .i64 p] 82 (0, 0)) ∧ Byt w b s n
theorem Byt.keep {w w' : World} {b : Nat} {s : Value} {n : Nat} (h : Byt w b s n) (k : Keep (But b) w w') : Byt w' b s n := by
  obtain ⟨a, c, rfl, h1, h2, h3⟩ := h
  refine ⟨a, c, rfl, h1, h2, fun hn => ?_⟩
  obtain ⟨ad, rfl, hb, hf⟩ := h3 hn
  refine ⟨ad, rfl, hb, fun i hi => ?_⟩
  obtain ⟨x, hx, hc⟩ := hf i hi
  exact ⟨x, hx, k.cell hc (by rw [add_block]; exact hb)⟩
theorem xor_i64_nat (a b : Nat) (ha : a < 4611686018427387904) (hb : b < 4611686018427387904) : bits .xor .i64 (a : Int) (b : Int) = ((a ^^^ b : Nat) : Int) := by
  have hx : a ^^^ b < 2 ^ 62 := Nat.xor_lt_two_pow (by omega) (by omega)
  have h1 : (BitVec.ofInt 64 (a : Int)).toNat = a := by
    rw [BitVec.ofInt_natCast, BitVec.toNat_ofNat]; exact Nat.mod_eq_of_lt (by omega)
  have h2 : (BitVec.ofInt 64 (b : Int)).toNat = b := by
    rw [BitVec.ofInt_natCast, BitVec.toNat_ofNat]; exact Nat.mod_eq_of_lt (by omega)
  show IntKind.i64.wrap ((BitVec.ofInt 64 (a : Int) ^^^ BitVec.ofInt 64 (b : Int)).toNat : Int) = _
  rw [BitVec.toNat_xor, h1, h2]
  simp [IntKind.wrap, IntKind.bits, IntKind.signed]
  omega
theorem xor_shift (X : Int) (h0 : 0 ≤ X) (h1 : X < 4611686018427387904) : 0 ≤ bits .xor .i64 X (X / 64) := by
  obtain ⟨n, rfl⟩ := Int.eq_ofNat_of_zero_le h0
  have e : ((n : Int) / 64) = ((n / 64 : Nat) : Int) := by omega
  rw [e, xor_i64_nat n (n / 64) (by omega) (by omega)]
  omega
/-- a number was picked -/
def Picked (k : Int) (w : World) (b : Nat) (s : Value) (n p : Nat) (e : Ending) (w' : World) : Prop :=
  ∃ j : Int, e = .returned (.int .i64 j) ∧ 0 ≤ j ∧ (1 ≤ k → j < k) ∧ Rdr w' b s n (p + 1) ∧ Keep (But b) w w'
set_option maxHeartbeats 4000000 in
set_option maxRecDepth 20000 in
theorem pick_calls (k : Int) (w : World) (b : Nat) (s : Value) (n p : Nat) (h : Rdr w b s n p) (hn : n ≤ 2000) (hp : p ≤ 1000000) (hk : -1000000 ≤ k ∧ k ≤ 1000000) :
    Calls Tryz.prog 14 #[.pointer (some ⟨b, 0, none⟩), .int .i64 k] w (Picked k w b s n p) := by
  obtain ⟨hb, hs⟩ := h
  have HB := Lib.hid hb
  have HS := Lib.hid hs
  have y0 : w.cell? ⟨b, 0, none⟩ = some s := (blk_cell hb 0).trans rfl
  have y1 : w.cell? ⟨b, 1, none⟩ = some (.int .i64 p) := (blk_cell hb 1).trans rfl
  have f0 := blk_frozen hb 0
  have f1 := blk_frozen hb 1
  have zb := blk_lt hb
  have hR := Lib.hid (show ∀ w', Keep (But b) (w.setCell ⟨b, 1, none⟩ (.int .i64 ((p : Int) + 1))) w' → w'.heap[b]? = (w.setCell ⟨b, 1, none⟩ (.int .i64 ((p : Int) + 1))).heap[b]? → Rdr w' b s n (p + 1) ∧ Keep (But b) w w' from fun w' hk he => by
    have k1 : Keep (But b) w w' := ((Keep.refl _ _).set _ _ (fun _ h => h rfl)).trans hk
    exact ⟨⟨he.trans ((blk_set hb 1 _).trans rfl), hs.keep k1⟩, k1⟩)
  obtain ⟨a, c, rfl, h1, h2, h3⟩ := hs
  clear hb
  by_cases hk1 : k < 1
  · go_enter Tryz.func14, Tryz.ntmps14
    go_wp2
    go_ret
    exact ⟨0, rfl, by omega, fun h => by omega, hR.out _ (Keep.refl _ _) rfl⟩
  by_cases hn0 : n = 0
  · have q0 : ((n : Int) == 0) = true := by rw [hn0]; rfl
    clear hn0
    go_enter Tryz.func14, Tryz.ntmps14
    go_wp2
    go_ret
    exact ⟨0, rfl, by omega, fun h => by omega, hR.out _ (Keep.refl _ _) rfl⟩
  have q0 : ((n : Int) == 0) = false := by rw [beq_eq_false_iff_ne]; omega
  obtain ⟨ad, rfl, had, hf⟩ := h3 (by omega)
  have HF := Lib.hid hf
  have HAD := Lib.hid had
  clear hf h3
  by_cases hpn : p < n
  · obtain ⟨x, hx, hc⟩ := HF.out p hpn
    have hc2 := ((Keep.refl (But b) w).set ⟨b, 1, none⟩ (.int .i64 ((p : Int) + 1)) (fun _ h => h rfl)).cell hc (show But b _ by rw [add_block]; exact had)
    have cc : (p : Int) < (n : Int) := by omega
    clear hc had
    go_enter Tryz.func14, Tryz.ntmps14
    go_wp2
    go_ret
    exact ⟨(x : Int) % k, rfl, Int.emod_nonneg _ (by omega), fun _ => Int.emod_lt_of_pos _ (by omega), hR.out _ (Keep.refl _ _) rfl⟩
  · have cc : ¬ (p : Int) < (n : Int) := by omega
    obtain ⟨i1, hi1⟩ : ∃ i : Nat, i = p % n := ⟨_, rfl⟩
    obtain ⟨i2, hi2⟩ : ∃ i : Nat, i = (p * 7 + 3) % n := ⟨_, rfl⟩
    have l1 : i1 < n := hi1 ▸ Nat.mod_lt _ (by omega)
    have l2 : i2 < n := hi2 ▸ Nat.mod_lt _ (by omega)
    obtain ⟨x1, hx1, hc1⟩ := HF.out i1 l1
    obtain ⟨x2, hx2, hc2⟩ := HF.out i2 l2
    have hd1 := ((Keep.refl (But b) w).set ⟨b, 1, none⟩ (.int .i64 ((p : Int) + 1)) (fun _ h => h rfl)).cell hc1 (show But b _ by rw [add_block]; exact had)
    have hd2 := ((Keep.refl (But b) w).set ⟨b, 1, none⟩ (.int .i64 ((p : Int) + 1)) (fun _ h => h rfl)).cell hc2 (show But b _ by rw [add_block]; exact had)
    have e1 : (p : Int) % (n : Int) = (i1 : Int) := by rw [hi1]; rfl
    have e2 : ((p : Int) * 7 + 3) % (n : Int) = (i2 : Int) := by rw [hi2]; push_cast; rfl
    have n0 : (n : Int) ≠ 0 := by omega
    obtain ⟨i3, hi3⟩ : ∃ i : Nat, i = p / n := ⟨_, rfl⟩
    have l3 : i3 ≤ p := hi3 ▸ Nat.div_le_self _ _
    have e3 : (p : Int) / (n : Int) = (i3 : Int) := by rw [hi3]; push_cast; rfl
    clear hi3
    clear hc1 hc2 had hi1 hi2
    go_enter Tryz.func14, Tryz.ntmps14
    go_wp2
    go_quiet (fail)
    go_wp2
    go_ret
    exact ⟨_, rfl, Int.tmod_nonneg _ (xor_shift _ (by omega) (by omega)), fun _ => Int.tmod_lt_of_pos _ (by omega), hR.out _ ((Keep.refl _ _).drewN _) rfl⟩
end Go.Proofs.YtngghnakbhoiaaaGreatDoor

/- One of a list of texts, drawn; a reader begun. -/
namespace Go.Proofs.YtngghnakbhoiaaaGreatDoor
open Go.RowKit
set_option linter.unusedVariables false
set_option linter.unusedSimpArgs false
set_option maxRecDepth 20000 in
theorem of_calls (l : List ByteArray) (v : Value) (w : World) (b : Nat) (s : Value) (n p : Nat) (h : Rdr w b s n p) (hn : n ≤ 2000) (hp : p ≤ 1000000) (hl : 1 ≤ l.length) (hl2 : l.length ≤ 1000) (hv : Strs w (But b) v l) :
    Calls Tryz.prog 32 #[.pointer (some ⟨b, 0, none⟩), v] w fun e w' => ∃ x, x ∈ l ∧ e = .returned (.string x) ∧ Rdr w' b s n (p + 1) ∧ Keep (But b) w w' := by
  have HV := Lib.hid hv
  have PK := Lib.hid (pick_calls (l.length : Int) w b s n p h hn hp (by omega))
  obtain ⟨a, c, rfl, h1, h2, _⟩ := hv
  clear h
  go_enter Tryz.func32, Tryz.ntmps32
  go_wp2_with fail
  refine PK.out.mono ?_
  rintro e w2 ⟨j, rfl, j0, j1, hR2, hK2⟩
  have j2 := j1 (by omega)
  obtain ⟨i, rfl⟩ := Int.eq_ofNat_of_zero_le j0
  have hi : i < l.length := by omega
  obtain ⟨ad, rfl, hx, hc⟩ := strs_at HV.out hK2 (List.getElem?_eq_getElem hi)
  have R2 := Lib.hid hR2
  have K2 := Lib.hid hK2
  have HM := Lib.hid (show l[i] ∈ l from List.getElem_mem hi)
  generalize l[i] = x at *
  clear hR2 hK2 j1
  go_wp2
  go_ret
  exact ⟨x, HM.out, rfl, R2.out, K2.out⟩
set_option maxRecDepth 20000 in
theorem l1Open_calls (v : Value) (n : Nat) (w : World) (hv : Byt w w.heap.size v n) : Calls Tryz.prog 11 #[v] w fun e w' => ∃ (s : Value) (m : Nat), m ≤ 2000 ∧ e = .returned (.pointer (some ⟨w.heap.size, 0, none⟩)) ∧ Rdr w' w.heap.size s m 0 ∧ Keep Any w w' := by
  obtain ⟨a, c, rfl, h1, h2, h3⟩ := hv
  have H3 := Lib.hid h3
  clear h3
  by_cases hn : 2000 < n
  · have c1 : (2000 : Int) < (n : Int) := by omega
    obtain ⟨ad, rfl, hb, hf⟩ := H3.out (by omega)
    have HF := Lib.hid hf
    have HB := Lib.hid hb
    clear hb hf
    go_enter Tryz.func11, Tryz.ntmps11
    go_wp2
    go_ret
    exact ⟨.slice (some ad) 2000 c, 2000, by omega, rfl, ⟨blk_new _ _, some ad, c, rfl, by omega, h2, fun _ => ⟨ad, rfl, HB.out, fun i hi => by obtain ⟨x, hx, hc⟩ := HF.out i (by omega); exact ⟨x, hx, ((Keep.refl Any w).alloc _).cell hc trivial⟩⟩⟩, (Keep.refl _ _).alloc _⟩
  · have c1 : ¬ (2000 : Int) < (n : Int) := by omega
    go_enter Tryz.func11, Tryz.ntmps11
    go_wp2
    go_ret
    exact ⟨.slice a n c, n, by omega, rfl, ⟨blk_new _ _, a, c, rfl, h1, h2, fun hn => by obtain ⟨ad, rfl, hb, hf⟩ := H3.out hn; exact ⟨ad, rfl, hb, fun i hi => by obtain ⟨x, hx, hc⟩ := hf i hi; exact ⟨x, hx, ((Keep.refl Any w).alloc _).cell hc trivial⟩⟩⟩, (Keep.refl _ _).alloc _⟩
end Go.Proofs.YtngghnakbhoiaaaGreatDoor

/- Texts and rules among others (slices.Index, slices.Contains, l6Column): where the first is that is the same. For every list. -/
namespace Go.Proofs.YtngghnakbhoiaaaGreatDoor
open Go.RowKit
set_option linter.unusedVariables false
set_option linter.unusedSimpArgs false
theorem str_same {x y : ByteArray} : (x.toList == y.toList) = true ↔ x = y := by
  rw [beq_iff_eq, ByteArray.toList_eq, ByteArray.toList_eq]
  exact ⟨fun h => ByteArray.ext (Array.toList_inj.1 h), fun h => by rw [h]⟩
theorem str_diff {x y : ByteArray} (h : ¬ x = y) : (x.toList == y.toList) = false := by
  cases hb : x.toList == y.toList with
  | false => rfl
  | true => exact absurd (str_same.1 hb) h
/-- n is the place of the first that is x; -1 if there is none -/
def First {α : Type} (l : List α) (x : α) (n : Int) : Prop := (n = -1 ∧ x ∉ l) ∨ ∃ j : Nat, n = j ∧ l[j]? = some x ∧ x ∉ l.take j
theorem First.mem {α : Type} {l : List α} {x : α} {n : Int} (h : First l x n) : 0 ≤ n ↔ x ∈ l := by
  rcases h with ⟨rfl, h⟩ | ⟨j, rfl, h, _⟩
  · exact ⟨fun h0 => absurd h0 (by decide), fun hx => absurd hx h⟩
  · exact ⟨fun _ => List.mem_of_getElem? h, fun _ => Int.natCast_nonneg _⟩
theorem First.bd {α : Type} {l : List α} {x : α} {n : Int} (h : First l x n) : -1 ≤ n ∧ n < l.length := by
  rcases h with ⟨rfl, h⟩ | ⟨j, rfl, h, _⟩
  · omega
  · have := (List.getElem?_eq_some_iff.1 h).1; omega
/-- it is its own place just if it is not ahead -/
theorem First.own {α : Type} {l : List α} {x : α} {n : Int} {i : Nat} (h : First l x n) (hx : l[i]? = some x) : n = i ↔ x ∉ l.take i := by
  rcases h with ⟨rfl, h⟩ | ⟨j, rfl, h, hj⟩
  · exact absurd (List.mem_of_getElem? hx) h
  · have key : ∀ {a b : Nat}, l[a]? = some x → a < b → x ∈ l.take b := fun {a b} ha hab => by
      refine List.mem_of_getElem? (i := a) ?_
      rw [List.getElem?_take, if_pos hab]
      exact ha
    constructor
    · intro e
      have : j = i := by omega
      rw [← this]; exact hj
    · intro hi
      rcases Nat.lt_trichotomy j i with hlt | heq | hgt
      · exact absurd (key h hlt) hi
      · omega
      · exact absurd (key hx hgt) hj
theorem take_none {α : Type} {l : List α} {x : α} {k : Nat} (h : ∀ j y, j < k → l[j]? = some y → ¬ x = y) : x ∉ l.take k := fun hm => by
  obtain ⟨j, hj⟩ := List.getElem?_of_mem hm
  rw [List.getElem?_take] at hj
  split at hj
  · exact h j x ‹_› hj rfl
  · cases hj
theorem take_next {α : Type} {l : List α} {x y : α} {k : Nat} (h : x ∉ l.take k) (hy : l[k]? = some y) (hne : ¬ x = y) : x ∉ l.take (k + 1) := by
  rw [List.take_add_one, hy]
  simp only [Option.toList_some, List.mem_append, List.mem_singleton]
  rintro (hm | hm)
  · exact h hm
  · exact hne hm
def Found {α : Type} (l : List α) (x : α) (w : World) (e : Ending) (w' : World) : Prop := ∃ n : Int, e = .returned (.int .i64 n) ∧ First l x n ∧ Keep Any w w'
theorem indexStr_calls (l : List ByteArray) (x : ByteArray) (v : Value) (w : World) (hs : Strs w Any v l) : Calls Tryz.prog 54 #[v, .string x] w (Found l x w) := by
  have HS := Lib.hid hs
  obtain ⟨ad, c, rfl, hc, hm, _⟩ := hs
  go_enter Tryz.func54, Tryz.ntmps54
  go_wp2
  go_loopg [8] (l.length + 1) (fun g i wr => ∃ k : Nat, k ≤ l.length ∧ i = .int .i64 k ∧ g = l.length + 1 - k ∧ x ∉ l.take k ∧ w = wr)
  case atStart => exact ⟨0, by omega, rfl, rfl, by simp, rfl⟩
  case round =>
    obtain ⟨k, hk, rfl, hg, hN, rfl⟩ := hrel
    have HG := Lib.hid hg
    have HN := Lib.hid hN
    clear hg hN
    by_cases hlt : k < l.length
    · have hx : l[k]? = some l[k] := List.getElem?_eq_getElem hlt
      obtain ⟨ad, rfl, _, c0⟩ := strs_at HS.out (Keep.refl _ _) hx
      have HX := Lib.hid hx
      generalize l[k] = y at *
      clear hx
      have k0 : (0 : Int) ≤ (k : Int) := by omega
      have k1 : (k : Int) < (l.length : Int) := by omega
      by_cases hxy : x = y
      · have q := str_same.2 hxy
        have HXY := Lib.hid hxy
        clear hxy
        go_wp2
        go_ret
        exact ⟨k, rfl, .inr ⟨k, rfl, by rw [HXY.out]; exact HX.out, HN.out⟩, Keep.refl _ _⟩
      · have q := str_diff hxy
        have HXY := Lib.hid hxy
        clear hxy
        go_wp2
        go_roundg (gk - 1)
        case rel => exact ⟨k + 1, by omega, by go_num, by have := HG.out; omega, take_next HN.out HX.out HXY.out, rfl⟩
        case measure => have := HG.out; omega
    · have HE := Lib.hid (show k = l.length by omega)
      go_wp2
      go_ret
      exact ⟨-1, rfl, .inl ⟨rfl, by have h := HN.out; rwa [HE.out, List.take_length] at h⟩, Keep.refl _ _⟩
/-- is it one of them? -/
def Among {α : Type} (l : List α) (x : α) (w : World) (e : Ending) (w' : World) : Prop := ∃ b : Bool, e = .returned (.bool b) ∧ (b = true ↔ x ∈ l) ∧ Keep Any w w'
theorem containsStr_calls (l : List ByteArray) (x : ByteArray) (v : Value) (w : World) (hs : Strs w Any v l) : Calls Tryz.prog 34 #[v, .string x] w (Among l x w) := by
  have IX := Lib.hid (indexStr_calls l x v w hs)
  obtain ⟨ad, c, rfl, hc, hm, _⟩ := hs
  go_enter Tryz.func34, Tryz.ntmps34
  go_wp2_with fail
  refine IX.out.mono ?_
  rintro e w2 ⟨n, rfl, hF, hK⟩
  have HF := Lib.hid hF
  have HK := Lib.hid hK
  have hbd := hF.bd
  clear hF hK
  go_wp2
  go_ret
  exact ⟨decide (0 ≤ n), rfl, by rw [decide_eq_true_eq]; exact HF.out.mem, HK.out⟩
theorem l6Column_calls (l : List ByteArray) (x : ByteArray) (v : Value) (w : World) (hs : Strs w Any v l) : Calls Tryz.prog 19 #[v, .string x] w (Found l x w) := by
  have HS := Lib.hid hs
  obtain ⟨ad, c, rfl, hc, hm, _⟩ := hs
  go_enter Tryz.func19, Tryz.ntmps19
  go_wp2
  go_loopg [5] (l.length + 1) (fun g i wr => ∃ k : Nat, k ≤ l.length ∧ i = .int .i64 k ∧ g = l.length + 1 - k ∧ x ∉ l.take k ∧ w = wr)
  case atStart => exact ⟨0, by omega, rfl, rfl, by simp, rfl⟩
  case round =>
    obtain ⟨k, hk, rfl, hg, hN, rfl⟩ := hrel
    have HG := Lib.hid hg
    have HN := Lib.hid hN
    clear hg hN
    by_cases hlt : k < l.length
    · have hx : l[k]? = some l[k] := List.getElem?_eq_getElem hlt
      obtain ⟨ad, rfl, _, c0⟩ := strs_at HS.out (Keep.refl _ _) hx
      have HX := Lib.hid hx
      generalize l[k] = y at *
      clear hx
      by_cases hxy : y = x
      · have q := str_same.2 hxy
        have HXY := Lib.hid hxy
        clear hxy
        go_wp2
        go_ret
        exact ⟨k, rfl, .inr ⟨k, rfl, by rw [← HXY.out]; exact HX.out, HN.out⟩, Keep.refl _ _⟩
      · have q := str_diff hxy
        have HXY := Lib.hid hxy
        clear hxy
        go_wp2
        go_roundg (gk - 1)
        case rel => exact ⟨k + 1, by omega, by go_num, by have := HG.out; omega, take_next HN.out HX.out (fun e => HXY.out e.symm), rfl⟩
        case measure => have := HG.out; omega
    · have HE := Lib.hid (show k = l.length by omega)
      go_wp2
      go_ret
      exact ⟨-1, rfl, .inl ⟨rfl, by have h := HN.out; rwa [HE.out, List.take_length] at h⟩, Keep.refl _ _⟩
/-! rules -/
structure Ru where
  label : ByteArray
  name : ByteArray
abbrev RuR (r : Ru) (cs : List Value) : Prop := cs = [.string r.label, .string r.name] ∧ Fits r.label ∧ Fits r.name
abbrev Rus (w : World) (ok : Nat → Prop) (v : Value) (l : List Ru) : Prop := Sl 2 RuR w ok v l
theorem Rus.keep {w w' : World} {ok : Nat → Prop} {v : Value} {l : List Ru} (h : Rus w ok v l) (k : Keep ok w w') : Rus w' ok v l := Sl.keep h (fun _ _ _ h => h) k
theorem Rus.mono {w : World} {ok ok' : Nat → Prop} {v : Value} {l : List Ru} (h : Rus w ok v l) (k : ∀ k, k < w.heap.size → ok k → ok' k) : Rus w ok' v l := Sl.mono h (fun _ _ _ h => h) k (by decide)
theorem rus_at {w w' : World} {ok : Nat → Prop} {a : Option Addr} {n c : Nat} {l : List Ru} (h : Rus w ok (.slice a n c) l) (k : Keep ok w w') {j : Nat} {x : Ru} (hx : l[j]? = some x) :
    ∃ ad, a = some ad ∧ Fits x.label ∧ Fits x.name ∧ w'.cell? (ad.add (j * 2)) = some (.string x.label) ∧ w'.cell? ⟨(ad.add (j * 2)).block, (ad.add (j * 2)).off + 1, none⟩ = some (.string x.name) := by
  obtain ⟨a', c', e, h1, h2, h3⟩ := h
  cases e
  obtain ⟨ad, rfl, hb, hf⟩ := h3 (fun e => by rw [e] at hx; cases hx)
  obtain ⟨cs, ⟨rfl, hF, hG⟩, _, hc⟩ := hf j x hx
  have h0 := (hc.keep k hb) 0 _ rfl
  have h1 := (hc.keep k hb) 1 _ rfl
  rw [add_field _ _ _ (by decide)] at h1
  exact ⟨ad, rfl, hF, hG, by simpa using h0, h1⟩
theorem Ru.ext' {a b : Ru} (h1 : a.label = b.label) (h2 : a.name = b.name) : a = b := by cases a; cases b; simp only at h1 h2; rw [h1, h2]
end Go.Proofs.YtngghnakbhoiaaaGreatDoor

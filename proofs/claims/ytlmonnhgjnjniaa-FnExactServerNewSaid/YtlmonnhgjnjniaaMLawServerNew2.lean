/- Data of one's own: no two parts of it share memory; a slice of such, one of its elements turned, one more behind it. No condition. What an append does, by its run; nothing behind nothing. No condition. -/
import Derived.Test.YtlmonnhgjnjniaaMLawServerNew1
import Derived.Laws.AppendOwn
import Derived.Test.YtlmonnhgjnjniaaMLawServerNew0
/- Data of one's own: no two parts of it share memory; a slice of such, one of its elements turned, one more behind it. No condition. -/
namespace Go.Proofs.Ytlmonnhgjnjniaa
open Go.RowKit
set_option linter.unusedVariables false

/-- A slice of one's own: no two elements share a block, none lies in the slice's own. -/
def SSl {α : Type} (sz : Nat) (R : World → (Nat → Prop) → α → List Value → Prop) (w : World) (ok : Nat → Prop) (v : Value) (l : List α) : Prop :=
  ∃ (a : Option Addr) (c : Nat), v = .slice a l.length c ∧ l.length ≤ c ∧ c ≤ 9223372036854775807 ∧
    (l ≠ [] → ∃ (b : Nat) (T : TypeId) (cur : Array Value) (g : Nat → Nat → Prop), a = some ⟨b, 0, none⟩ ∧ ok b ∧ w.heap[b]? = some (.cells cur T (0, 0)) ∧ (∀ j k, g j k → ok k ∧ k ≠ b) ∧ (∀ i j k, i ≠ j → g i k → ¬ g j k) ∧
      ∀ j x, l[j]? = some x → ∃ cs, R w (g j) x cs ∧ cs.length = sz ∧ ∀ i u, cs[i]? = some u → cur[j * sz + i]? = some u)
theorem blk_cells {w : World} {b : Nat} {T : TypeId} {cur : Array Value} {sz j : Nat} {cs : List Value} (h : w.heap[b]? = some (.cells cur T (0, 0))) (hc : ∀ i u, cs[i]? = some u → cur[j * sz + i]? = some u) : Cells w ⟨b, 0, none⟩ (j * sz) cs := by
  intro i u hu
  have e : (⟨b, 0, none⟩ : Addr).add (j * sz + i) = ⟨b, j * sz + i, none⟩ := by unfold Addr.add; split <;> simp_all
  rw [e, blk_cell h]
  exact hc i u hu
theorem SSl.sl {α : Type} {sz : Nat} {R : World → (Nat → Prop) → α → List Value → Prop} {R' : α → List Value → Prop} {w : World} {ok : Nat → Prop} {v : Value} {l : List α} (h : SSl sz R w ok v l)
    (hR : ∀ g x cs, x ∈ l → (∀ k, g k → ok k) → R w g x cs → R' x cs) : Sl sz R' w ok v l := by
  obtain ⟨a, c, rfl, h1, h2, h3⟩ := h
  refine ⟨a, c, rfl, h1, h2, fun hn => ?_⟩
  obtain ⟨b, T, cur, g, rfl, hb, hh, hsub, hdis, hf⟩ := h3 hn
  refine ⟨_, rfl, hb, fun j x hx => ?_⟩
  obtain ⟨cs, h4, h5, h6⟩ := hf j x hx
  exact ⟨cs, hR (g j) x cs (List.mem_of_getElem? hx) (fun k hk => (hsub j k hk).1) h4, h5, blk_cells hh h6⟩
theorem SSl.mono {α : Type} {sz : Nat} {R : World → (Nat → Prop) → α → List Value → Prop} {w : World} {ok ok' : Nat → Prop} {v : Value} {l : List α} (h : SSl sz R w ok v l)
    (ho : ∀ k, ok k → ok' k) : SSl sz R w ok' v l := by
  obtain ⟨a, c, rfl, h1, h2, h3⟩ := h
  refine ⟨a, c, rfl, h1, h2, fun hn => ?_⟩
  obtain ⟨b, T, cur, g, rfl, hb, hh, hsub, hdis, hf⟩ := h3 hn
  exact ⟨b, T, cur, g, rfl, ho _ hb, hh, fun j k hk => ⟨ho _ (hsub j k hk).1, (hsub j k hk).2⟩, hdis, hf⟩
theorem SSl.keep {α : Type} {sz : Nat} {R : World → (Nat → Prop) → α → List Value → Prop} {w w' : World} {ok : Nat → Prop} {v : Value} {l : List α} (h : SSl sz R w ok v l)
    (hR : ∀ g x cs, x ∈ l → R w g x cs → Keep g w w' → R w' g x cs) (k : Keep ok w w') : SSl sz R w' ok v l := by
  obtain ⟨a, c, rfl, h1, h2, h3⟩ := h
  refine ⟨a, c, rfl, h1, h2, fun hn => ?_⟩
  obtain ⟨b, T, cur, g, rfl, hb, hh, hsub, hdis, hf⟩ := h3 hn
  refine ⟨b, T, cur, g, rfl, hb, blk_keep k hh hb, hsub, hdis, fun j x hx => ?_⟩
  obtain ⟨cs, h4, h5, h6⟩ := hf j x hx
  exact ⟨cs, hR (g j) x cs (List.mem_of_getElem? hx) h4 (k.mono fun i _ hi => (hsub j i hi).1), h5, h6⟩
theorem SSl.nil {α : Type} {sz : Nat} {R : World → (Nat → Prop) → α → List Value → Prop} {w : World} {ok : Nat → Prop} : SSl sz R w ok (.slice none 0 0) [] :=
  ⟨none, 0, rfl, Nat.le_refl _, by omega, fun h => absurd rfl h⟩
/-- One element, to be read and turned: all else stays. -/
theorem SSl.lens {α : Type} {sz : Nat} {R : World → (Nat → Prop) → α → List Value → Prop} {w : World} {ok : Nat → Prop} {a : Option Addr} {n c : Nat} {l : List α}
    (hk : ∀ {w w' ok x cs}, R w ok x cs → Keep ok w w' → R w' ok x cs) (h : SSl sz R w ok (.slice a n c) l) {j : Nat} {x : α} (hx : l[j]? = some x) :
    ∃ (b : Nat) (T : TypeId) (cur : Array Value) (gj : Nat → Prop) (cs : List Value), a = some ⟨b, 0, none⟩ ∧ ok b ∧ (∀ k, gj k → ok k ∧ k ≠ b) ∧ w.heap[b]? = some (.cells cur T (0, 0)) ∧ R w gj x cs ∧ cs.length = sz ∧
      (∀ i u, cs[i]? = some u → cur[j * sz + i]? = some u) ∧
      ∀ (w' : World) (cur' : Array Value) (y : α) (ds : List Value), w'.heap[b]? = some (.cells cur' T (0, 0)) → (∀ i, i < j * sz ∨ j * sz + sz ≤ i → cur'[i]? = cur[i]?) → R w' gj y ds → ds.length = sz →
        (∀ i u, ds[i]? = some u → cur'[j * sz + i]? = some u) → Keep (fun k => k ≠ b ∧ ¬ gj k) w w' → SSl sz R w' ok (.slice a n c) (l.set j y) := by
  obtain ⟨a', c', e, h1, h2, h3⟩ := h
  cases e
  obtain ⟨b, T, cur, g, rfl, hb, hh, hsub, hdis, hf⟩ := h3 (fun e => by rw [e] at hx; cases hx)
  obtain ⟨cs, h4, h5, h6⟩ := hf j x hx
  refine ⟨b, T, cur, g j, cs, rfl, hb, hsub j, hh, h4, h5, h6, fun w' cur' y ds k1 k2 k3 k4 k5 k6 => ?_⟩
  refine ⟨_, c, by rw [List.length_set], by rw [List.length_set]; exact h1, h2, fun _ => ⟨b, T, cur', g, rfl, hb, k1, hsub, hdis, fun i z hz => ?_⟩⟩
  by_cases hij : i = j
  · subst hij
    have hz' : (l.set i y)[i]? = some y := by rw [List.getElem?_set_self (List.getElem?_eq_some_iff.1 hx).1]
    rw [hz'] at hz
    cases hz
    exact ⟨ds, k3, k4, k5⟩
  · rw [List.getElem?_set_ne (fun e => hij e.symm)] at hz
    obtain ⟨es, m1, m2, m3⟩ := hf i z hz
    refine ⟨es, hk m1 (k6.mono fun k _ hk => ⟨(hsub i k hk).2, hdis i j k hij hk⟩), m2, fun o u hu => ?_⟩
    have ho : o < sz := by rw [← m2]; exact (List.getElem?_eq_some_iff.1 hu).1
    rw [k2 (i * sz + o) ?_]
    · exact m3 o u hu
    · rcases Nat.lt_or_gt_of_ne hij with hlt | hgt
      · left
        calc i * sz + o < i * sz + sz := by omega
          _ = (i + 1) * sz := by rw [Nat.add_mul, Nat.one_mul]
          _ ≤ j * sz := Nat.mul_le_mul_right _ hlt
      · right
        calc j * sz + sz = (j + 1) * sz := by rw [Nat.add_mul, Nat.one_mul]
          _ ≤ i * sz := Nat.mul_le_mul_right _ hgt
          _ ≤ i * sz + o := by omega

/-! values of one's own -/
inductive SV (w : World) : (Nat → Prop) → V → List Value → Prop where
  | mk (ok : Nat → Prop) (v : V) (a : Option Addr) (c : Nat) (b : Nat) (T : TypeId) (cur : Array Value) (f : Nat → List Value) (g : Nat → Nat → Prop) (h1 : I64 v.kind) (h2 : I64 v.num) (h3 : Fits v.text) (hc : v.list.length ≤ c) (hm : c ≤ 9223372036854775807)
      (ha : v.list ≠ [] → a = some ⟨b, 0, none⟩) (ho : v.list ≠ [] → ok b) (hh : v.list ≠ [] → w.heap[b]? = some (.cells cur T (0, 0))) (hsub : ∀ j k, v.list ≠ [] → g j k → ok k ∧ k ≠ b) (hdis : ∀ i j k, i ≠ j → g i k → ¬ g j k)
      (hr : ∀ j x, v.list[j]? = some x → SV w (g j) x (f j)) (hcell : ∀ j x, v.list[j]? = some x → ∀ i u, (f j)[i]? = some u → cur[j * 4 + i]? = some u) :
      SV w ok v [.int .i64 v.kind, .int .i64 v.num, .string v.text, .slice a v.list.length c]
theorem SV.len {w : World} {ok : Nat → Prop} {v : V} {cs : List Value} (h : SV w ok v cs) : cs.length = 4 := by cases h; rfl
theorem SV.vr {w : World} {ok : Nat → Prop} {v : V} {cs : List Value} (h : SV w ok v cs) : VR w ok v cs := by
  induction h with
  | mk ok v a c b T cur f g h1 h2 h3 hc hm ha ho hh hsub hdis hr hcell ih =>
    exact .mk v a c ⟨b, 0, none⟩ f h1 h2 h3 hc hm ha ho (fun j x hx => (ih j x hx).mono fun k _ hk => (hsub j k (fun e => by rw [e] at hx; cases hx) hk).1) fun j x hx => blk_cells (hh (fun e => by rw [e] at hx; cases hx)) (hcell j x hx)
theorem SV.keep {w w' : World} {ok : Nat → Prop} {v : V} {cs : List Value} (h : SV w ok v cs) (k : Keep ok w w') : SV w' ok v cs := by
  induction h with
  | mk ok v a c b T cur f g h1 h2 h3 hc hm ha ho hh hsub hdis hr hcell ih =>
    exact .mk ok v a c b T cur f g h1 h2 h3 hc hm ha ho (fun hn => blk_keep k (hh hn) (ho hn)) hsub hdis (fun j x hx => ih j x hx (k.mono fun i _ hi => (hsub j i (fun e => by rw [e] at hx; cases hx) hi).1)) hcell
theorem SV.mono {w : World} {ok ok' : Nat → Prop} {v : V} {cs : List Value} (h : SV w ok v cs) (k : ∀ k, ok k → ok' k) : SV w ok' v cs := by
  cases h with
  | mk _ _ a c b T cur f g h1 h2 h3 hc hm ha ho hh hsub hdis hr hcell =>
    exact .mk ok' v a c b T cur f g h1 h2 h3 hc hm ha (fun hn => k _ (ho hn)) hh (fun j i hn hi => ⟨k _ (hsub j i hn hi).1, (hsub j i hn hi).2⟩) hdis hr hcell
abbrev SVs (w : World) (ok : Nat → Prop) (v : Value) (l : List V) : Prop := SSl 4 SV w ok v l
theorem SVs.keep {w w' : World} {ok : Nat → Prop} {v : Value} {l : List V} (h : SVs w ok v l) (k : Keep ok w w') : SVs w' ok v l := SSl.keep h (fun _ _ _ _ h k => h.keep k) k
theorem SVs.vals {w : World} {ok : Nat → Prop} {v : Value} {l : List V} (h : SVs w ok v l) : Vals w ok v l := SSl.sl h fun g x cs _ hg h => h.vr.mono fun k _ hk => hg k hk
theorem SV.iff {w : World} {ok : Nat → Prop} {v : V} {cs : List Value} : SV w ok v cs ↔ ∃ s, cs = [.int .i64 v.kind, .int .i64 v.num, .string v.text, s] ∧ I64 v.kind ∧ I64 v.num ∧ Fits v.text ∧ SVs w ok s v.list := by
  constructor
  · rintro ⟨_, _, a, c, b, T, cur, f, g, h1, h2, h3, hc, hm, ha, ho, hh, hsub, hdis, hr, hcell⟩
    exact ⟨_, rfl, h1, h2, h3, a, c, rfl, hc, hm, fun hn => ⟨b, T, cur, g, ha hn, ho hn, hh hn, fun j k => hsub j k hn, hdis, fun j x hx => ⟨f j, hr j x hx, (hr j x hx).len, hcell j x hx⟩⟩⟩
  · rintro ⟨s, rfl, h1, h2, h3, a, c, rfl, hc, hm, h⟩
    by_cases hn : v.list = []
    · exact .mk ok v a c 0 0 #[] (fun _ => []) (fun _ _ => False) h1 h2 h3 hc hm (fun h => absurd hn h) (fun h => absurd hn h) (fun h => absurd hn h) (fun _ _ h => absurd hn h) (fun _ _ _ _ h => h.elim) (fun j x hx => by rw [hn] at hx; cases hx) (fun j x hx => by rw [hn] at hx; cases hx)
    · obtain ⟨b, T, cur, g, rfl, ho, hh, hsub, hdis, hf⟩ := h hn
      have hf' : ∀ j, ∃ cs, ∀ x, v.list[j]? = some x → SV w (g j) x cs ∧ ∀ i u, cs[i]? = some u → cur[j * 4 + i]? = some u := fun j => by
        cases hx : v.list[j]? with
        | none => exact ⟨[], fun x h => by cases h⟩
        | some x => obtain ⟨cs, h, _, h'⟩ := hf j x hx; exact ⟨cs, fun y hy => by cases hy; exact ⟨h, h'⟩⟩
      exact .mk ok v _ c b T cur (fun j => (hf' j).choose) g h1 h2 h3 hc hm (fun _ => rfl) (fun _ => ho) (fun _ => hh) (fun j k _ => hsub j k) hdis (fun j x hx => ((hf' j).choose_spec x hx).1) (fun j x hx => ((hf' j).choose_spec x hx).2)
/-! cells (a name and a value), texts, of one's own -/
def SCe (w : World) (ok : Nat → Prop) (c : Ce) (cs : List Value) : Prop := ∃ d, cs = .string c.name :: d ∧ Fits c.name ∧ SV w ok c.val d
theorem SCe.keep {w w' : World} {ok : Nat → Prop} {c : Ce} {cs : List Value} (h : SCe w ok c cs) (k : Keep ok w w') : SCe w' ok c cs := by
  obtain ⟨d, rfl, h1, h2⟩ := h; exact ⟨d, rfl, h1, h2.keep k⟩
theorem SCe.ce {w : World} {ok : Nat → Prop} {c : Ce} {cs : List Value} (h : SCe w ok c cs) : CeR w ok c cs := by
  obtain ⟨d, rfl, h1, h2⟩ := h; exact ⟨d, rfl, h1, h2.vr⟩
theorem SCe.len {w : World} {ok : Nat → Prop} {c : Ce} {cs : List Value} (h : SCe w ok c cs) : cs.length = 5 := by
  obtain ⟨d, rfl, h1, h2⟩ := h; rw [List.length_cons, h2.len]
abbrev SCes (w : World) (ok : Nat → Prop) (v : Value) (l : List Ce) : Prop := SSl 5 SCe w ok v l
theorem SCes.keep {w w' : World} {ok : Nat → Prop} {v : Value} {l : List Ce} (h : SCes w ok v l) (k : Keep ok w w') : SCes w' ok v l := SSl.keep h (fun _ _ _ _ h k => h.keep k) k
theorem SCes.ces {w : World} {ok : Nat → Prop} {v : Value} {l : List Ce} (h : SCes w ok v l) : Ces w ok v l := SSl.sl h fun g x cs _ hg h => h.ce.mono fun k _ hk => hg k hk
def SStr (_ : World) (_ : Nat → Prop) (s : ByteArray) (cs : List Value) : Prop := cs = [.string s] ∧ Fits s
abbrev SStrs (w : World) (ok : Nat → Prop) (v : Value) (l : List ByteArray) : Prop := SSl 1 SStr w ok v l
theorem SStrs.keep {w w' : World} {ok : Nat → Prop} {v : Value} {l : List ByteArray} (h : SStrs w ok v l) (k : Keep ok w w') : SStrs w' ok v l := SSl.keep h (fun _ _ _ _ h _ => h) k
theorem SStrs.strs {w : World} {ok : Nat → Prop} {v : Value} {l : List ByteArray} (h : SStrs w ok v l) : Strs w ok v l := SSl.sl h fun g x cs _ hg h => h

/-! a slice of one's own that grows by append -/
/-- The value of a slice that this call made by append, with what it holds: the elements' own blocks lie below 'top', none in the slice's own. -/
def SRow {α : Type} (sz : Nat) (R : World → (Nat → Prop) → α → List Value → Prop) (w : World) (base top : Nat) (T : TypeId) (v : Value) (l : List α) (css : List (List Value)) : Prop :=
  ∃ (g : Nat → Nat → Prop), css.length = l.length ∧ w.ownsRow base T sz v l.length css.flatten ∧ (∀ c, c ∈ css → c.length = sz) ∧
    (∀ j x cs, l[j]? = some x → css[j]? = some cs → R w (g j) x cs) ∧ (∀ j k, g j k → base ≤ k ∧ k < top ∧ v.ownBlock ≠ some k) ∧ (∀ i j k, i ≠ j → g i k → ¬ g j k) ∧ base ≤ top ∧ top ≤ w.heap.size ∧ (∀ k, v.ownBlock = some k → k < top)
theorem SRow.nil {α : Type} {sz : Nat} {R : World → (Nat → Prop) → α → List Value → Prop} (w : World) (base top : Nat) (T : TypeId) (h1 : base ≤ top) (h2 : top ≤ w.heap.size) : SRow sz R w base top T (.slice none 0 0) ([] : List α) [] :=
  ⟨fun _ _ => False, rfl, World.ownsRow_nil .., (fun _ h => by cases h), (fun j x cs h => by cases h), fun _ _ h => h.elim, fun _ _ _ _ h => h.elim, h1, h2, (fun k h => by cases h)⟩
theorem flatten_at {sz : Nat} : ∀ {css : List (List Value)} {j i : Nat} {cs : List Value} {u : Value}, (∀ c, c ∈ css → c.length = sz) → css[j]? = some cs → cs[i]? = some u → css.flatten[j * sz + i]? = some u
  | [], j, _, _, _, _, h, _ => by simp at h
  | c :: css, 0, i, cs, u, hl, h, hu => by
    simp only [List.getElem?_cons_zero, Option.some.injEq] at h
    subst h
    rw [List.flatten_cons, Nat.zero_mul, Nat.zero_add, List.getElem?_append_left (List.getElem?_eq_some_iff.1 hu).1, hu]
  | c :: css, j + 1, i, cs, u, hl, h, hu => by
    rw [List.getElem?_cons_succ] at h
    have hc := hl c (List.mem_cons_self ..)
    rw [List.flatten_cons, List.getElem?_append_right (by rw [hc, Nat.add_mul, Nat.one_mul]; omega), hc, show (j + 1) * sz + i - sz = j * sz + i by rw [Nat.add_mul, Nat.one_mul]; omega]
    exact flatten_at (fun d hd => hl d (List.mem_cons_of_mem _ hd)) h hu
theorem SRow.keep {α : Type} {sz : Nat} {R : World → (Nat → Prop) → α → List Value → Prop} {w w' : World} {base top : Nat} {T : TypeId} {v : Value} {l : List α} {css : List (List Value)} (hk : ∀ {w w' ok x cs}, R w ok x cs → Keep ok w w' → R w' ok x cs)
    (h : SRow sz R w base top T v l css) (k : Keep Any w w') : SRow sz R w' base top T v l css := by
  obtain ⟨g, h1, h2, h3, h4, h5, h6, h7, h8, h9⟩ := h
  exact ⟨g, h1, h2.kept (row := none) (k.grownBy0 none) (by cases hv : v.ownBlock with | none => exact .inl rfl | some b => exact .inr (by simp)), h3, fun j x cs hx hc => hk (h4 j x cs hx hc) k.any, h5, h6, h7, Nat.le_trans h8 k.size, h9⟩
theorem SRow.own {α : Type} {sz : Nat} {R : World → (Nat → Prop) → α → List Value → Prop} {w : World} {base top : Nat} {T : TypeId} {v : Value} {l : List α} {css : List (List Value)} (h : SRow sz R w base top T v l css) : w.ownsRow base T sz v l.length css.flatten := by
  obtain ⟨g, h1, h2, _⟩ := h; exact h2
/-- One more, behind an append: its own blocks are new since the row was as it is. -/
theorem SRow.snoc {α : Type} {sz : Nat} {R : World → (Nat → Prop) → α → List Value → Prop} {w w' : World} {base top : Nat} {T : TypeId} {v v' : Value} {l : List α} {css : List (List Value)} {x : α} {cs : List Value} {gx : Nat → Prop}
    (hk : ∀ {w w' ok x cs}, R w ok x cs → Keep ok w w' → R w' ok x cs) (h : SRow sz R w base top T v l css)
    (hown : w'.ownsRow base T sz v' (l.length + 1) (css.flatten ++ cs)) (hg : w.grownBy w' v.ownBlock) (hv : v'.ownBlock = v.ownBlock ∨ v'.ownBlock = some w.heap.size)
    (hx : R w gx x cs) (hl : cs.length = sz) (hgx : ∀ k, gx k → top ≤ k ∧ k < w.heap.size) : SRow sz R w' base w'.heap.size T v' (l ++ [x]) (css ++ [cs]) := by
  obtain ⟨g, h1, h2, h3, h4, h5, h6, h7, h8, h9⟩ := h
  have hsz := hg.size
  have hnew : ∀ k, k < w.heap.size → v.ownBlock ≠ some k → v'.ownBlock ≠ some k := fun k hk hn he => by
    rcases hv with hv | hv
    · exact hn (hv ▸ he)
    · rw [hv] at he; cases he; omega
  have hgk : ∀ gg : Nat → Prop, (∀ k, gg k → v.ownBlock ≠ some k) → Keep gg w w' := fun gg hn => (Keep.refl gg w).grown hg fun k e _ hk => hn k hk e
  refine ⟨fun j k => if j < l.length then g j k else j = l.length ∧ gx k, by simp [h1], by simpa using hown, fun c hc => ?_, fun j y ds hy hd => ?_, fun j k hj => ?_, fun i j k hij hi hj => ?_, by omega, Nat.le_refl _, fun k e => (hown.lt k e).2⟩
  · rcases List.mem_append.1 hc with hc | hc
    · exact h3 c hc
    · rw [List.mem_singleton.1 hc]; exact hl
  · by_cases hlt : j < l.length
    · rw [List.getElem?_append_left hlt] at hy
      rw [List.getElem?_append_left (by omega)] at hd
      simp only [hlt, if_true]
      exact hk (h4 j y ds hy hd) (hgk _ fun k hk => (h5 j k hk).2.2)
    · have hj : j = l.length := by
        have := (List.getElem?_eq_some_iff.1 hy).1
        simp only [List.length_append, List.length_singleton] at this
        omega
      subst hj
      rw [List.getElem?_append_right (Nat.le_refl _), Nat.sub_self] at hy
      rw [List.getElem?_append_right (by omega), h1, Nat.sub_self] at hd
      cases hy
      cases hd
      simp only [Nat.lt_irrefl, if_false, true_and]
      exact hk hx (hgk _ fun k hk e => by have := h9 k e; have := (hgx k hk).1; omega)
  · by_cases hlt : j < l.length
    · simp only [hlt, if_true] at hj
      obtain ⟨a1, a2, a3⟩ := h5 j k hj
      exact ⟨a1, by omega, hnew k (by omega) a3⟩
    · simp only [hlt, if_false] at hj
      obtain ⟨a1, a2⟩ := hgx k hj.2
      exact ⟨by omega, by omega, hnew k a2 fun e => by have := h9 k e; omega⟩
  · by_cases hi' : i < l.length <;> by_cases hj' : j < l.length <;> simp only [hi', hj', if_true, if_false] at hi hj
    · exact h6 i j k hij hi hj
    · have := (h5 i k hi).2.1; have := (hgx k hj.2).1; omega
    · have := (h5 j k hj).2.1; have := (hgx k hi.2).1; omega
    · omega
theorem SRow.slice {α : Type} {sz : Nat} {R : World → (Nat → Prop) → α → List Value → Prop} {w : World} {base top : Nat} {T : TypeId} {v : Value} {l : List α} {css : List (List Value)} (h : SRow sz R w base top T v l css) {ok : Nat → Prop}
    (ho : ∀ k, base ≤ k → k < w.heap.size → ok k) : SSl sz R w ok v l := by
  obtain ⟨g, h1, h2, h3, h4, h5, h6, h7, h8, h9⟩ := h
  rcases h2.2 with ⟨rfl, h0⟩ | ⟨b, cap, cur, rfl, hb, hh, hc, hm, hs, ht⟩
  · have : l = [] := List.eq_nil_of_length_eq_zero h0
    subst this
    exact SSl.nil
  · refine ⟨_, cap, rfl, hc, by unfold maxLen at hm; omega, fun hn => ⟨b, T, cur, g, rfl, ho b hb (blk_lt hh), hh, fun j k hk => ?_, h6, fun j x hx => ?_⟩⟩
    · obtain ⟨a1, a2, a3⟩ := h5 j k hk
      exact ⟨ho k a1 (by omega), fun e => a3 (by rw [e]; rfl)⟩
    · have hj := (List.getElem?_eq_some_iff.1 hx).1
      have hcs : css[j]? = some css[j] := List.getElem?_eq_getElem (by omega)
      refine ⟨_, h4 j x _ hx hcs, h3 _ (List.getElem_mem _), fun i u hu => ?_⟩
      have := flatten_at h3 hcs hu
      rw [← ht, List.getElem?_take] at this
      split at this
      · simpa using this
      · cases this
theorem rowV_keep {w w' : World} {base top : Nat} {T : TypeId} {v : Value} {l : List V} {css : List (List Value)} (h : SRow 4 SV w base top T v l css) (k : Keep Any w w') : SRow 4 SV w' base top T v l css := SRow.keep (R := SV) (fun h k => SV.keep h k) h k
theorem rowV_snoc {w w' : World} {base top : Nat} {T : TypeId} {v v' : Value} {l : List V} {css : List (List Value)} {x : V} {cs : List Value} {gx : Nat → Prop} (h : SRow 4 SV w base top T v l css)
    (hown : w'.ownsRow base T 4 v' (l.length + 1) (css.flatten ++ cs)) (hg : w.grownBy w' v.ownBlock) (hv : v'.ownBlock = v.ownBlock ∨ v'.ownBlock = some w.heap.size)
    (hx : SV w gx x cs) (hgx : ∀ k, gx k → top ≤ k ∧ k < w.heap.size) : SRow 4 SV w' base w'.heap.size T v' (l ++ [x]) (css ++ [cs]) := SRow.snoc (R := SV) (fun h k => SV.keep h k) h hown hg hv hx hx.len hgx
theorem rowC_keep {w w' : World} {base top : Nat} {T : TypeId} {v : Value} {l : List Ce} {css : List (List Value)} (h : SRow 5 SCe w base top T v l css) (k : Keep Any w w') : SRow 5 SCe w' base top T v l css := SRow.keep (R := SCe) (fun h k => SCe.keep h k) h k
theorem rowC_snoc {w w' : World} {base top : Nat} {T : TypeId} {v v' : Value} {l : List Ce} {css : List (List Value)} {x : Ce} {cs : List Value} {gx : Nat → Prop} (h : SRow 5 SCe w base top T v l css)
    (hown : w'.ownsRow base T 5 v' (l.length + 1) (css.flatten ++ cs)) (hg : w.grownBy w' v.ownBlock) (hv : v'.ownBlock = v.ownBlock ∨ v'.ownBlock = some w.heap.size)
    (hx : SCe w gx x cs) (hgx : ∀ k, gx k → top ≤ k ∧ k < w.heap.size) : SRow 5 SCe w' base w'.heap.size T v' (l ++ [x]) (css ++ [cs]) := SRow.snoc (R := SCe) (fun h k => SCe.keep h k) h hown hg hv hx hx.len hgx
section
variable {P : Program} (w : World)
/-- An append tells also where the row lies then. -/
theorem run_append_sep (base : Nat) (t ty e : TypeId) (i : TypeInfo) (z : Value) (size bytes : Nat) (ht : P.underlying t = some (.slice e)) (hi : P.info? e = some i) (hz : i.zero = some z)
    (hsize : i.size = size) (hby : i.bytes = bytes) (hzs : z.cells.size = size) (hsz : 0 < size)
    (v : Value) (n : Nat) (xs : List Value) (hown : w.ownsRow base e size v n xs)
    (a : Addr) (m c : Nat) (news : List Value) (hl : news.length = m * size) (hnews : ∀ j u, news[j]? = some u → w.cell? (a.add j) = some u) (h1 : ∀ u ∈ news, u.oneCell' = true)
    (h63 : n + m ≤ maxLen) (hbytes : (n + m) * bytes ≤ 140737488355328) (hbase : base ≤ w.heap.size) (hm : 0 < m) :
    ∃ v' w', (Builtin.append_ #[t, t] ty #[v, .slice (some a) m c]).run P w = .ok v' w' ∧ w'.ownsRow base e size v' (n + m) (xs ++ news) ∧ w.grownBy w' v.ownBlock ∧ (v'.ownBlock = v.ownBlock ∨ v'.ownBlock = some w.heap.size) := by
  obtain ⟨v', w', hr, h2, h3, _⟩ := run_append_own (P := P) w base t ty e i z size bytes ht hi hz hsize hby hzs hsz v n xs hown a m c news hl hnews h1 h63 hbytes hbase
  refine ⟨v', w', hr, h2, h3, ?_⟩
  subst hsize
  subst hby
  have hsmall : n + m ≤ 9223372036854775807 := by simp only [maxLen] at h63; omega
  rcases hown.2 with ⟨rfl, rfl⟩ | ⟨g, cap, cur, rfl, hbg, hg, hnc, hcm, hcs, htake⟩
  · have hx := run_append_nil (P := P) w t ty e i z ht hi hz a m c news hl hnews hm (by omega) (by have hb := hbytes; simp only [Nat.zero_add] at hb; omega)
    rw [hr] at hx
    simp only [Result.ok.injEq] at hx
    rw [hx.1]
    exact .inr rfl
  · by_cases hroom : n + m ≤ cap
    · have hfit : n * i.size + news.length ≤ cur.size := by rw [hl, hcs, ← Nat.add_mul]; exact Nat.mul_le_mul_right _ hroom
      have hx := run_append_room (P := P) w t ty e i ht hi g n cap cur hg a m c news hl hnews h1 hroom hfit
      rw [hr] at hx
      simp only [Result.ok.injEq] at hx
      rw [hx.1]
      exact .inl rfl
    · have holds : ∀ j u, xs[j]? = some u → w.cell? ((⟨g, 0, none⟩ : Addr).add j) = some u := hown.cells (g := g) rfl
      have hx := run_append_grow (P := P) w t ty e i z ht hi hz ⟨g, 0, none⟩ n cap xs hown.1 holds a m c news hl hnews (by omega) (by omega) (growslice_fits (by omega) hbytes)
      rw [hr] at hx
      simp only [Result.ok.injEq] at hx
      rw [hx.1]
      exact .inr rfl
theorem wpList_append_sep {ops : Array Oper} {rest : List Oper} {o : Oper} {a : Act} {Q : Exit → Act → World → Prop} (hgd : o.guard = none) (s x : Operand) (t : TypeId)
    (ho : o.op = .call { callee := .builtin .append, args := #[s, x], argTypes := #[t, t] })
    (base : Nat) (e : TypeId) (i : TypeInfo) (z : Value) (size bytes : Nat) (ht : P.underlying t = some (.slice e)) (hi : P.info? e = some i) (hz : i.zero = some z)
    (hsize : i.size = size) (hby : i.bytes = bytes) (hzs : z.cells.size = size) (hsz : 0 < size)
    (v : Value) (n : Nat) (xs : List Value) (hs : a.eval s = v) (hown : w.ownsRow base e size v n xs)
    (ad : Addr) (m c : Nat) (news : List Value) (hx : a.eval x = .slice (some ad) m c) (hl : news.length = m * size) (hnews : ∀ j u, news[j]? = some u → w.cell? (ad.add j) = some u) (h1 : ∀ u ∈ news, u.oneCell' = true)
    (h63 : n + m ≤ maxLen) (hbytes : (n + m) * bytes ≤ 140737488355328) (hbase : base ≤ w.heap.size) (hm : 0 < m)
    (h : ∀ v' w', w'.ownsRow base e size v' (n + m) (xs ++ news) → w.grownBy w' v.ownBlock → (v'.ownBlock = v.ownBlock ∨ v'.ownBlock = some w.heap.size) → wpList P ops Q rest (a.put o.dst v') w') : wpList P ops Q (o :: rest) a w :=
  wpList_plain hgd fun _ hK => by
    obtain ⟨v', w', hr, h2, h3, h4⟩ := run_append_sep (P := P) w base t o.type e i z size bytes ht hi hz hsize hby hzs hsz v n xs hown ad m c news hl hnews h1 h63 hbytes hbase hm
    unfold Oper.wp execOp
    simp only [ho, resolve, invoke, builtin, Sem.run_bind, Sem.run_pure, Result.andThen_ok, List.map_toArray, List.map_cons, List.map_nil, hs, hx, hr]
    exact hK _ _ (h v' w' h2 h3 h4)
end
end Go.Proofs.Ytlmonnhgjnjniaa

/- What an append does, by its run; nothing behind nothing. No condition. -/
namespace Go.Proofs.Ytlmonnhgjnjniaa
open Go.RowKit
set_option linter.unusedVariables false
set_option linter.unusedSimpArgs false
section
variable {P : Program} (w : World)
theorem run_append_zero (t ty e : TypeId) (i : TypeInfo) (z : Value) (ht : P.underlying t = some (.slice e)) (hi : P.info? e = some i) (hz : i.zero = some z) (sa : Option Addr) (a : Option Addr) (c : Nat) :
    (Builtin.append_ #[t, t] ty #[.slice sa 0 0, .slice a 0 c]).run P w = .ok (.slice sa 0 0) w := by
  cases a with
  | none => cases sa <;> simp [Builtin.append_, run_underlying ht, sizeOf, typeInfo, zeroValue, hi, hz, Builtin.lenOf, run_firstCells_none, storeCells]
  | some a =>
    have hf := run_firstCells_some (P := P) w i.size 0 a 0 c [] (by simp) (by simp)
    cases sa <;> simp [Builtin.append_, run_underlying ht, sizeOf, typeInfo, zeroValue, hi, hz, Builtin.lenOf, hf, storeCells]
theorem wp_append_by {o : Oper} {a : Act} {K : Act → World → Prop} {Q : Exit → Act → World → Prop} (s x : Operand) (t : TypeId)
    (ho : o.op = .call { callee := .builtin .append, args := #[s, x], argTypes := #[t, t] }) (v y v' : Value) (w' : World) (hs : a.eval s = v) (hx : a.eval x = y)
    (hr : (Builtin.append_ #[t, t] o.type #[v, y]).run P w = .ok v' w') (h : K (a.put o.dst v') w') : o.wp P a w K Q := by
  unfold Oper.wp execOp
  simp only [ho, resolve, invoke, builtin, Sem.run_bind, Sem.run_pure, Result.andThen_ok, List.map_toArray, List.map_cons, List.map_nil, hs, hx, hr]
  exact h
theorem wpList_append_by {ops : Array Oper} {rest : List Oper} {o : Oper} {a : Act} {Q : Exit → Act → World → Prop} (hgd : o.guard = none) (s x : Operand) (t : TypeId)
    (ho : o.op = .call { callee := .builtin .append, args := #[s, x], argTypes := #[t, t] }) (v y v' : Value) (w' : World) (hs : a.eval s = v) (hx : a.eval x = y)
    (hr : (Builtin.append_ #[t, t] o.type #[v, y]).run P w = .ok v' w') (h : wpList P ops Q rest (a.put o.dst v') w') : wpList P ops Q (o :: rest) a w :=
  wpList_plain hgd fun _ hK => wp_append_by w s x t ho v y v' w' hs hx hr (hK _ _ h)
theorem step_append_by {ops : Array Oper} {o : Oper} {a : Act} {K : Act → World → Prop} {Q : Exit → Act → World → Prop} {E : Prop} (hgd : o.guard = none) (s x : Operand) (t : TypeId)
    (ho : o.op = .call { callee := .builtin .append, args := #[s, x], argTypes := #[t, t] }) (v y v' : Value) (w' : World) (hs : a.eval s = v) (hx : a.eval x = y)
    (hr : (Builtin.append_ #[t, t] o.type #[v, y]).run P w = .ok v' w') (h : K (a.put o.dst v') w') : if Region.wanted o (yielded ops a.tmps) = true then Oper.wp P o a w K Q else E := by
  have hw : Region.wanted o (yielded ops a.tmps) = true := by simp [Region.wanted, hgd]
  rw [if_pos hw]
  exact wp_append_by w s x t ho v y v' w' hs hx hr h
end
end Go.Proofs.Ytlmonnhgjnjniaa

/- A map of one's own, from texts to numbers, that holds 1 for each text seen. No condition. -/
import Derived.Test.YtjgnnobfaphkeaaDoorBase
import Derived.Test.YtjgnnobfaphkeaaDoorKind
import Derived.WideKeyMaps2
import Derived.Laws.IdiomMaps
namespace Go.Proofs.YtjgnnobfaphkeaaDoor
open Go.RowKit Go.WideMaps Go.MapKept Go.ChangeMaps
set_option linter.unusedVariables false
def Seen (w : World) (b : Nat) (l : List ByteArray) : Prop := ∃ es clock, w.heap[b]? = some (.map es clock) ∧ es.toList.map (fun x => (x.key, x.val)) = l.map fun s => (Value.string s, Value.int .i64 1)
section
variable {P : Program} {k e t : TypeId} {w : World} {b : Nat} {l : List ByteArray}
theorem Seen.keep {ok : Nat → Prop} {w' : World} (h : Seen w b l) (hk : Keep ok w w') (ho : ok b) : Seen w' b l := by
  obtain ⟨es, c, hb, he⟩ := h
  exact ⟨es, c, blk_keep hk hb ho, he⟩
theorem Seen.made (w : World) : Seen (w.alloc (.map #[] 0)) w.heap.size [] := ⟨#[], 0, blk_new _ _, rfl⟩
theorem Seen.lt (h : Seen w b l) : b < w.heap.size := by obtain ⟨es, c, hb, _⟩ := h; exact blk_lt hb
theorem seen_key (hk : P.underlying k = some .string) {s : ByteArray} (hs : Fits s) : keyOf P k (.string s) = some (.string s.data.toList) := keyOf_string_mk hk (by simpa [Fits, maxLen] using hs)
theorem seen_entry {es : Array MapEntry} (he : es.toList.map (fun x => (x.key, x.val)) = l.map fun s => (Value.string s, Value.int .i64 1)) {x : MapEntry} (hx : x ∈ es.toList) : ∃ s, s ∈ l ∧ x.key = .string s ∧ x.val = .int .i64 1 := by
  have : (x.key, x.val) ∈ es.toList.map (fun x => (x.key, x.val)) := List.mem_map.2 ⟨x, hx, rfl⟩
  rw [he] at this
  obtain ⟨s, hs, e⟩ := List.mem_map.1 this
  exact ⟨s, hs, (congrArg Prod.fst e).symm, (congrArg Prod.snd e).symm⟩
theorem seen_of {es : Array MapEntry} (he : es.toList.map (fun x => (x.key, x.val)) = l.map fun s => (Value.string s, Value.int .i64 1)) {s : ByteArray} (hs : s ∈ l) : ∃ x, x ∈ es.toList ∧ x.key = .string s := by
  have : (Value.string s, Value.int .i64 1) ∈ es.toList.map (fun x => (x.key, x.val)) := by rw [he]; exact List.mem_map.2 ⟨s, hs, rfl⟩
  obtain ⟨x, hx, e⟩ := List.mem_map.1 this
  exact ⟨x, hx, congrArg Prod.fst e⟩
theorem seen_lookup (hk : P.underlying k = some .string) (ht : P.underlying t = some (.map k e)) (hz : ∀ u : World, (zeroValue e).run P u = .ok (.int .i64 0) u) (h : Seen w b l) (hl : ∀ x, x ∈ l → Fits x) {s : ByteArray} (hs : Fits s) :
    (s ∈ l → (Instr.lookup t (.map (some b)) (.string s) false).run P w = .ok (.int .i64 1) w) ∧ (¬ s ∈ l → (Instr.lookup t (.map (some b)) (.string s) false).run P w = .ok (.int .i64 0) w) := by
  obtain ⟨es, clock, hb, he⟩ := h
  have K : KeyLaw P k := string_law hk
  have hkey := seen_key hk hs
  rcases K.find w hkey es.toList (fun x hx => by obtain ⟨s', hs', e1, _⟩ := seen_entry he hx; exact ⟨_, e1 ▸ seen_key hk (hl _ hs')⟩) with ⟨h1, h2⟩ | ⟨j, e0, h1, h2, h3⟩
  · refine ⟨fun hm => ?_, fun _ => by simp [Instr.lookup, run_underlying ht, MapKept.run_getObj_map hb, K.check w _ hkey, h1, hz, Result.andThen]⟩
    obtain ⟨x, hx, e1⟩ := seen_of he hm
    exact absurd e1 (h2 x hx)
  · obtain ⟨s', hs', e1, e2⟩ := seen_entry he (List.mem_of_getElem? h2)
    rw [h3] at e1
    cases e1
    exact ⟨fun _ => by simp [Instr.lookup, run_underlying ht, MapKept.run_getObj_map hb, K.check w _ hkey, h1, e2, Result.andThen], fun hn => absurd hs' hn⟩
theorem keep_setBlock (w : World) (b : Nat) (o : Obj) : Keep (But b) w (setBlock w b o) :=
  ⟨rfl, rfl, rfl, by simp [setBlock], fun k hk hn => by simp [setBlock, Array.getElem?_setIfInBounds_ne (Ne.symm hn)]⟩
theorem seen_update (hk : P.underlying k = some .string) (ht : P.underlying t = some (.map k e)) (h : Seen w b l) (hl : ∀ x, x ∈ l → Fits x) {s : ByteArray} (hs : Fits s) (hn : ¬ s ∈ l) :
    ∃ w', (Instr.mapUpdate t (.map (some b)) (.string s) (.int .i64 1)).run P w = .ok () w' ∧ Seen w' b (l ++ [s]) ∧ Keep (But b) w w' := by
  obtain ⟨es, clock, hb, he⟩ := h
  have K : KeyLaw P k := string_law hk
  have hkey := seen_key hk hs
  rcases K.find w hkey es.toList (fun x hx => by obtain ⟨s', hs', e1, _⟩ := seen_entry he hx; exact ⟨_, e1 ▸ seen_key hk (hl _ hs')⟩) with ⟨h1, h2⟩ | ⟨j, e0, h1, h2, h3⟩
  · refine ⟨setBlock w b (.map (es.push ⟨.string s, .int .i64 1, clock⟩) (clock + 1)), by simp [Instr.mapUpdate, run_underlying ht, MapKept.run_getObj_map hb, K.check w false hkey, h1, MapKept.run_setObj_map _ hb, Result.andThen, setBlock], ⟨es.push ⟨.string s, .int .i64 1, clock⟩, clock + 1, ?_, ?_⟩, keep_setBlock _ _ _⟩
    · have := blk_lt hb
      simp [setBlock, this]
    · simp [he]
  · obtain ⟨s', hs', e1, e2⟩ := seen_entry he (List.mem_of_getElem? h2)
    rw [h3] at e1
    cases e1
    exact absurd hs' hn
end
end Go.Proofs.YtjgnnobfaphkeaaDoor

/- The drawing of rules; of names, rules and a number of links. For all bytes. Bytes that can be read, to begin a reader with. No condition. What a server begins with, drawn: names, rules, how many talk. For all bytes. -/
import Derived.Test.YtngghnakbhoiaaaGreatDoorMLawSvBegin1
import Derived.Test.YtngghnakbhoiaaaGreatDoorMLawSvBegin3
/- The drawing of rules; of names, rules and a number of links. For all bytes. -/
namespace Go.Proofs.YtngghnakbhoiaaaGreatDoor
open Go.RowKit
set_option linter.unusedVariables false
set_option linter.unusedSimpArgs false
/-- rules in a row of one's own -/
def ROwn (w : World) (base : Nat) (v : Value) (l : List Ru) : Prop := w.ownsRow base 73 2 v l.length (ruFlat l) ∧ ∀ x, x ∈ l → Fits x.label ∧ Fits x.name
theorem ROwn.keepB {w w' : World} {base b : Nat} {v : Value} {l : List Ru} (h : ROwn w base v l) (k : Keep (But b) w w') (hb : b < base) : ROwn w' base v l :=
  ⟨h.1.kept (row := some b) k.grownBy (by cases hv : v.ownBlock with | none => exact .inl rfl | some i => exact .inr (by have := (h.1.lt i hv).1; intro e; cases e; omega)), h.2⟩
theorem ROwn.new {w : World} {base b : Nat} (hb : base ≤ b) (h : w.heap[b]? = some (.cells #[] 73 (0, 0))) : ROwn w base (.slice (some ⟨b, 0, none⟩) 0 0) [] :=
  ⟨⟨rfl, .inr ⟨b, 0, #[], rfl, hb, h, Nat.le_refl _, by decide, rfl, rfl⟩⟩, fun _ h => by cases h⟩
theorem ROwn.rus {w : World} {base : Nat} {v : Value} {l : List Ru} (h : ROwn w base v l) : Rus w Any v l := (rus_own (ok := Any) h.1 h.2 (fun _ _ _ => trivial)).rus
theorem rus_blk {w : World} {b : Nat} {T : TypeId} {l : List Ru} {cs : Array Value} (hcs : cs = (ruFlat l).toArray) (h : w.heap[b]? = some (.cells cs T (0, 0))) (hf : ∀ x, x ∈ l → Fits x.label ∧ Fits x.name) (hl : l.length ≤ 1000) : Rus w Any (.slice (some ⟨b, 0, none⟩) l.length l.length) l := by
  subst hcs
  refine ⟨_, _, rfl, Nat.le_refl _, by omega, fun _ => ⟨_, rfl, trivial, fun j x hx => ⟨ruCells x, ⟨rfl, hf x (List.mem_of_getElem? hx)⟩, rfl, fun i u hu => ?_⟩⟩⟩
  have h1 : (ruFlat l)[j * 2 + i]? = some u := flatten_at (fun c hc => by obtain ⟨y, _, rfl⟩ := List.mem_map.1 hc; rfl) (by rw [List.getElem?_map, hx]; rfl) hu
  have e : (⟨b, 0, none⟩ : Addr).add (j * 2 + i) = ⟨b, j * 2 + i, none⟩ := by unfold Addr.add; split <;> simp_all
  rw [e, blk_cell h]
  simpa using h1
theorem ruFlat_app (l r : List Ru) : ruFlat (l ++ r) = ruFlat l ++ ruFlat r := by unfold ruFlat; rw [List.map_append, List.flatten_append]
def AppR (w : World) (base : Nat) (v : Value) (l : List Ru) (v' : Value) (w' : World) : Prop := ROwn w' base v' l ∧ w.grownBy w' v.ownBlock
theorem app_rus (w : World) (ty : TypeId) (base : Nat) (v : Value) (l : List Ru) (hown : ROwn w base v l) (hbase : base ≤ w.heap.size) (y : Value) (rs : List Ru) (hs : Rus w Any y rs) (hl : l.length + rs.length ≤ 1000000) :
    ∃ v' w', (Builtin.append_ #[24, 24] ty #[v, y]).run Tryz.prog w = .ok v' w' ∧ AppR w base v (l ++ rs) v' w' := by
  obtain ⟨i0, hi, hzz⟩ := Option.map_eq_some_iff.1 infoRu
  simp only [Prod.mk.injEq] at hzz
  obtain ⟨hz0, hz1, hz2⟩ := hzz
  have hf2 := rus_fits hs
  have hf : ∀ x, x ∈ l ++ rs → Fits x.label ∧ Fits x.name := fun x hx => by rcases List.mem_append.1 hx with h | h; exact hown.2 x h; exact hf2 x h
  have hs2 := hs
  obtain ⟨a, c, rfl, h1, h2, h3⟩ := hs
  by_cases hn : rs = []
  · subst hn
    have hg : w.grownBy w v.ownBlock := (Keep.refl Any w).grownBy0 _
    rcases hown.1.2 with ⟨rfl, h0⟩ | ⟨g, cap, cur, rfl, hb, hh, hnc, hm, hs, ht⟩
    · exact ⟨_, w, run_append_none (P := Tryz.prog) w _ ty _ i0 _ Tryz.underlying24 hi hz0 none 0 0 (Nat.le_refl _) a c, by rw [List.append_nil]; exact hown, hg⟩
    · exact ⟨_, w, run_append_none (P := Tryz.prog) w _ ty _ i0 _ Tryz.underlying24 hi hz0 _ _ cap hnc a c, by rw [List.append_nil]; exact hown, hg⟩
  · obtain ⟨ad, rfl, _, _⟩ := h3 hn
    have hlen : 0 < rs.length := List.length_pos_iff.2 hn
    obtain ⟨v', w', hr, ho, hg, hb⟩ := run_append_sep (P := Tryz.prog) w base 24 ty 73 i0 _ 2 32 Tryz.underlying24 hi hz0 hz1 hz2 rfl (by decide) v l.length _ hown.1 ad rs.length c (ruFlat rs) (ruFlat_len rs) (rus_news hs2) (fun u hu => by
      obtain ⟨j, hj, rfl⟩ := List.getElem_of_mem hu
      obtain ⟨i, o, x, _, hx, ho⟩ := ruFlat_get (List.getElem?_eq_getElem hj)
      rcases o with _ | _ | o
      · rw [← Option.some.inj ho]; rfl
      · rw [← Option.some.inj ho]; rfl
      · simp [ruCells] at ho) (by unfold maxLen; omega) (by omega) hbase hlen
    refine ⟨v', w', hr, ⟨?_, hf⟩, hg⟩
    rw [List.length_append, ruFlat_app]
    exact ho
/-- rules were drawn, at most m, with at most c picks -/
def DrawnRu (c m : Nat) (w : World) (b : Nat) (s : Value) (n p : Nat) (e : Ending) (w' : World) : Prop :=
  ∃ (v : Value) (l : List Ru) (p' : Nat), e = .returned v ∧ ROwn w' w.heap.size v l ∧ l.length ≤ m ∧ p ≤ p' ∧ p' ≤ p + c ∧ Rdr w' b s n p' ∧ Keep (But b) w w'
set_option maxRecDepth 20000 in
set_option maxHeartbeats 2000000 in
theorem l11Rules_calls (w : World) (b : Nat) (s : Value) (n p : Nat) (hr : Rdr w b s n p) (hn : n ≤ 2000) (hp : p ≤ 900000) : Calls Tryz.prog 31 #[.pointer (some ⟨b, 0, none⟩)] w (DrawnRu 2 2 w b s n p) := by
  have HR := Lib.hid hr
  have hb : b < w.heap.size := blk_lt hr.1
  have PK := Lib.hid (fun (k : Int) (w : World) (p : Nat) h hp hk => pick_calls k w b s n p h hn hp hk)
  clear hr
  go_enter Tryz.func31, Tryz.ntmps31
  go_wp2_with fail
  refine (PK.out 2 _ (p) ⟨blk_alloc HR.out.1 _, HR.out.2.keep ((Keep.refl _ _).alloc _)⟩ (by omega) (by omega)).mono ?_
  rintro e w2 ⟨j, rfl, j0, j1, hR, hK⟩
  have j2 := j1 (by omega)
  have R2 := Lib.hid hR
  have K2 := Lib.hid (((Keep.refl (But b) w).alloc _).trans hK)
  have Z2 := Lib.hid (show w.heap.size + 1 ≤ w2.heap.size by have := hK.size; rwa [World.size_alloc] at this)
  have Zw2 := Z2
  have O2 := Lib.hid ((ROwn.new (Nat.le_refl _) (blk_new w (.cells #[] 73 (0, 0)))).keepB hK hb)
  clear hR hK j1
  clear Zw2
  obtain rfl | rfl : j = 0 ∨ j = 1 := by omega
  · go_wp2_with (at_builtin; refine wpList_append_ex _ rfl (.tmp 8) (.tmp 10) 24 rfl _ _ rfl rfl (app_rus _ _ w.heap.size _ _ (ROwn.keepB O2.out ((Keep.refl (But b) _).alloc _) (by omega)) (by have := Z2.out; simp only [World.size_alloc]; omega) _ [⟨⟨#[80]⟩, ⟨#[110, 97, 109, 101]⟩⟩] (rus_blk (l := [⟨⟨#[80]⟩, ⟨#[110, 97, 109, 101]⟩⟩]) rfl (blk_new _ _) (fun x hx => by simp only [List.mem_cons, List.not_mem_nil, or_false] at hx; unfold Fits; subst hx; exact ⟨by decide, by decide⟩) (by simp)) (by simp only [List.length_append, List.length_cons, List.length_nil]; omega)) ?_; intro va wa ha; have AO := Lib.hid ha.1; have AK := Lib.hid (show Keep (But b) w wa from (K2.out.alloc _).grown ha.2 (fun i hi hlt h => by have := (O2.out.1.lt i hi).1; omega)); have AZ := Lib.hid (show w2.heap.size ≤ wa.heap.size from by have := ha.2.size; simp only [World.size_alloc] at this; omega); have AB := Lib.hid (show wa.heap[b]? = w2.heap[b]? from (ha.2.block b (by have := Z2.out; simp only [World.size_alloc]; omega) (fun e => by have := (O2.out.1.lt b e.symm).1; omega)).trans (Below.heap_alloc _ _ _ (by have := Z2.out; omega))); clear ha)
    have R3 := Lib.hid (show Rdr wa b s n (p + 1) from ⟨AB.out.trans R2.out.1, HR.out.2.keep AK.out⟩)
    have K3 := AK
    have Z3 := Lib.hid (show w.heap.size + 1 ≤ wa.heap.size by have := Z2.out; have := AZ.out; omega)
    have O3 := AO
    go_wp2_with fail
    refine (PK.out 4 _ (p + 1) R3.out (by omega) (by omega)).mono ?_
    rintro e w4 ⟨j, rfl, j0, j1, hR, hK⟩
    have j2 := j1 (by omega)
    have R4 := Lib.hid hR
    have K4 := Lib.hid (K3.out.trans hK)
    have Z4 := Lib.hid (show w.heap.size + 1 ≤ w4.heap.size by have := hK.size; have := Z3.out; omega)
    have Zw4 := Z4
    have O4 := Lib.hid (O3.out.keepB hK hb)
    clear hR hK j1
    obtain ⟨t, ht⟩ : ∃ t, (j == 0) = t := ⟨_, rfl⟩
    cases t
    · go_wp2
      go_ret
      exact ⟨_, _, p + 1 + 1, rfl, O4.out, by simp only [List.length_append, List.length_cons, List.length_nil]; omega, by omega, by omega, R4.out, K4.out⟩
    · go_wp2_with (at_builtin; refine wpList_append_ex _ rfl (.tmp 15) (.tmp 17) 24 rfl _ _ rfl rfl (app_rus _ _ w.heap.size _ _ (ROwn.keepB O4.out ((Keep.refl (But b) _).alloc _) (by omega)) (by have := Z4.out; simp only [World.size_alloc]; omega) _ [⟨⟨#[81]⟩, ⟨#[110]⟩⟩] (rus_blk (l := [⟨⟨#[81]⟩, ⟨#[110]⟩⟩]) rfl (blk_new _ _) (fun x hx => by simp only [List.mem_cons, List.not_mem_nil, or_false] at hx; unfold Fits; subst hx; exact ⟨by decide, by decide⟩) (by simp)) (by simp only [List.length_append, List.length_cons, List.length_nil]; omega)) ?_; intro va wa ha; have AO := Lib.hid ha.1; have AK := Lib.hid (show Keep (But b) w wa from (K4.out.alloc _).grown ha.2 (fun i hi hlt h => by have := (O4.out.1.lt i hi).1; omega)); have AZ := Lib.hid (show w4.heap.size ≤ wa.heap.size from by have := ha.2.size; simp only [World.size_alloc] at this; omega); have AB := Lib.hid (show wa.heap[b]? = w4.heap[b]? from (ha.2.block b (by have := Z4.out; simp only [World.size_alloc]; omega) (fun e => by have := (O4.out.1.lt b e.symm).1; omega)).trans (Below.heap_alloc _ _ _ (by have := Z4.out; omega))); clear ha)
      go_ret
      exact ⟨_, _, p + 1 + 1, rfl, AO.out, by simp only [List.length_append, List.length_cons, List.length_nil]; omega, by omega, by omega, ⟨AB.out.trans R4.out.1, HR.out.2.keep AK.out⟩, AK.out⟩
  · have R3 := R2
    have K3 := K2
    have Z3 := Z2
    have O3 := O2
    go_wp2_with fail
    refine (PK.out 4 _ (p + 1) R3.out (by omega) (by omega)).mono ?_
    rintro e w4 ⟨j, rfl, j0, j1, hR, hK⟩
    have j2 := j1 (by omega)
    have R4 := Lib.hid hR
    have K4 := Lib.hid (K3.out.trans hK)
    have Z4 := Lib.hid (show w.heap.size + 1 ≤ w4.heap.size by have := hK.size; have := Z3.out; omega)
    have Zw4 := Z4
    have O4 := Lib.hid (O3.out.keepB hK hb)
    clear hR hK j1
    obtain ⟨t, ht⟩ : ∃ t, (j == 0) = t := ⟨_, rfl⟩
    cases t
    · go_wp2
      go_ret
      exact ⟨_, _, p + 1 + 1, rfl, O4.out, by simp only [List.length_append, List.length_cons, List.length_nil]; omega, by omega, by omega, R4.out, K4.out⟩
    · go_wp2_with (at_builtin; refine wpList_append_ex _ rfl (.tmp 15) (.tmp 17) 24 rfl _ _ rfl rfl (app_rus _ _ w.heap.size _ _ (ROwn.keepB O4.out ((Keep.refl (But b) _).alloc _) (by omega)) (by have := Z4.out; simp only [World.size_alloc]; omega) _ [⟨⟨#[81]⟩, ⟨#[110]⟩⟩] (rus_blk (l := [⟨⟨#[81]⟩, ⟨#[110]⟩⟩]) rfl (blk_new _ _) (fun x hx => by simp only [List.mem_cons, List.not_mem_nil, or_false] at hx; unfold Fits; subst hx; exact ⟨by decide, by decide⟩) (by simp)) (by simp only [List.length_append, List.length_cons, List.length_nil]; omega)) ?_; intro va wa ha; have AO := Lib.hid ha.1; have AK := Lib.hid (show Keep (But b) w wa from (K4.out.alloc _).grown ha.2 (fun i hi hlt h => by have := (O4.out.1.lt i hi).1; omega)); have AZ := Lib.hid (show w4.heap.size ≤ wa.heap.size from by have := ha.2.size; simp only [World.size_alloc] at this; omega); have AB := Lib.hid (show wa.heap[b]? = w4.heap[b]? from (ha.2.block b (by have := Z4.out; simp only [World.size_alloc]; omega) (fun e => by have := (O4.out.1.lt b e.symm).1; omega)).trans (Below.heap_alloc _ _ _ (by have := Z4.out; omega))); clear ha)
      go_ret
      exact ⟨_, _, p + 1 + 1, rfl, AO.out, by simp only [List.length_append, List.length_cons, List.length_nil]; omega, by omega, by omega, ⟨AB.out.trans R4.out.1, HR.out.2.keep AK.out⟩, AK.out⟩
set_option maxRecDepth 20000 in
set_option maxHeartbeats 4000000 in
theorem l11AnyRules_calls (w : World) (b : Nat) (s : Value) (n p : Nat) (hr : Rdr w b s n p) (hn : n ≤ 2000) (hp : p ≤ 800000) : Calls Tryz.prog 13 #[.pointer (some ⟨b, 0, none⟩)] w (DrawnRu 5 5 w b s n p) := by
  have HR := Lib.hid hr
  have hb : b < w.heap.size := blk_lt hr.1
  have PK := Lib.hid (fun (k : Int) (w : World) (p : Nat) h hp hk => pick_calls k w b s n p h hn hp hk)
  have RL := Lib.hid (l11Rules_calls w b s n p hr hn (by omega))
  have OF := Lib.hid (fun (w : World) (p : Nat) (l : List ByteArray) v h hp hl hl2 hv => of_calls l v w b s n p h hn hp hl hl2 hv)
  clear hr
  go_enter Tryz.func13, Tryz.ntmps13
  go_wp2_with fail
  refine RL.out.mono ?_
  rintro e w2 ⟨v2, l2, p2, rfl, hO, hl2, hp1, hp2, hR, hK⟩
  have O2 := Lib.hid hO
  have R2 := Lib.hid hR
  have K2 := Lib.hid hK
  have Z2 := Lib.hid (show w.heap.size ≤ w2.heap.size from hK.size)
  clear hO hR hK
  go_wp2_with fail
  refine (PK.out 10 _ (p2) R2.out (by omega) (by omega)).mono ?_
  rintro e w4 ⟨j, rfl, j0, j1, hR, hK⟩
  have j2 := j1 (by omega)
  have R4 := Lib.hid hR
  have K4 := Lib.hid (K2.out.trans hK)
  have Z4 := Lib.hid (show w.heap.size ≤ w4.heap.size by have := hK.size; have := Z2.out; omega)
  have O4 := Lib.hid (O2.out.keepB hK hb)
  clear hR hK j1
  obtain ⟨t, ht⟩ : ∃ t, (j == 0) = t := ⟨_, rfl⟩
  cases t
  · obtain ⟨t1, ht1⟩ : ∃ t, (j == 1) = t := ⟨_, rfl⟩
    cases t1
    · go_wp2
      go_ret
      exact ⟨_, _, p2 + 1, rfl, O4.out, by omega, by omega, by omega, R4.out, K4.out⟩
    · go_wp2_with (at_builtin; refine wpList_append_ex _ rfl (.tmp 22) (.tmp 26) 24 rfl _ _ rfl rfl (app_rus _ _ w.heap.size _ _ (ROwn.keepB O4.out ((Keep.refl (But b) _).alloc _) (by omega)) (by have := Z4.out; simp only [World.size_alloc]; omega) _ [⟨⟨#[65]⟩, ⟨#[110]⟩⟩, ⟨⟨#[66]⟩, ⟨#[110]⟩⟩, ⟨⟨#[67]⟩, ⟨#[110]⟩⟩] (rus_blk (l := [⟨⟨#[65]⟩, ⟨#[110]⟩⟩, ⟨⟨#[66]⟩, ⟨#[110]⟩⟩, ⟨⟨#[67]⟩, ⟨#[110]⟩⟩]) rfl (blk_new _ _) (fun x hx => by simp only [List.mem_cons, List.not_mem_nil, or_false] at hx; unfold Fits; rcases hx with rfl | rfl | rfl <;> exact ⟨by decide, by decide⟩) (by simp)) (by simp only [List.length_append, List.length_cons, List.length_nil]; omega)) ?_; intro va wa ha; have AO := Lib.hid ha.1; have AK := Lib.hid (show Keep (But b) w wa from (K4.out.alloc _).grown ha.2 (fun i hi hlt h => by have := (O4.out.1.lt i hi).1; omega)); have AZ := Lib.hid (show w4.heap.size ≤ wa.heap.size from by have := ha.2.size; simp only [World.size_alloc] at this; omega); have AB := Lib.hid (show wa.heap[b]? = w4.heap[b]? from (ha.2.block b (by have := Z4.out; simp only [World.size_alloc]; omega) (fun e => by have := (O4.out.1.lt b e.symm).1; omega)).trans (Below.heap_alloc _ _ _ (by have := Z4.out; omega))); clear ha)
      go_ret
      exact ⟨_, _, p2 + 1, rfl, AO.out, by simp only [List.length_append, List.length_cons, List.length_nil]; omega, by omega, by omega, ⟨AB.out.trans R4.out.1, HR.out.2.keep AK.out⟩, AK.out⟩
  · go_wp2_with fail
    refine (OF.out _ (p2 + 1) [⟨#[80]⟩, ⟨#[]⟩] _ ⟨blk_alloc R4.out.1 _, R4.out.2.keep ((Keep.refl _ _).alloc _)⟩ (by omega) (by simp) (by simp) (strs_lit [⟨#[80]⟩, ⟨#[]⟩] rfl (blk_new _ _) (show w4.heap.size ≠ b by have := Z4.out; omega) (by simp) (fun x hx => by simp only [List.mem_cons, List.not_mem_nil, or_false] at hx; rcases hx with rfl | rfl <;> decide))).mono ?_
    rintro e w5 ⟨x, hx, rfl, hR, hK⟩
    have X5 := Lib.hid (show x.size ≤ 1 by simp only [List.mem_cons, List.not_mem_nil, or_false] at hx; rcases hx with rfl | rfl <;> decide)
    have R5 := Lib.hid hR
    have KS := Lib.hid (((Keep.refl (But b) w4).alloc _).trans hK)
    have K5 := Lib.hid (K4.out.trans KS.out)
    have Z5 := Lib.hid (show w.heap.size ≤ w5.heap.size by have := KS.out.size; have := Z4.out; omega)
    have O5 := Lib.hid (O4.out.keepB KS.out hb)
    clear hR hK hx
    go_wp2_with fail
    refine (OF.out _ (p2 + 1 + 1) [⟨#[110, 97, 109, 101]⟩, ⟨#[120]⟩] _ ⟨blk_alloc R5.out.1 _, R5.out.2.keep ((Keep.refl _ _).alloc _)⟩ (by omega) (by simp) (by simp) (strs_lit [⟨#[110, 97, 109, 101]⟩, ⟨#[120]⟩] rfl (blk_new _ _) (show w5.heap.size ≠ b by have := Z5.out; omega) (by simp) (fun x hx => by simp only [List.mem_cons, List.not_mem_nil, or_false] at hx; rcases hx with rfl | rfl <;> decide))).mono ?_
    rintro e w6 ⟨y, hy, rfl, hR, hK⟩
    have Y6 := Lib.hid (show y.size ≤ 4 by simp only [List.mem_cons, List.not_mem_nil, or_false] at hy; rcases hy with rfl | rfl <;> decide)
    have R6 := Lib.hid hR
    have KT := Lib.hid (((Keep.refl (But b) w5).alloc _).trans hK)
    have K6 := Lib.hid (K5.out.trans KT.out)
    have Z6 := Lib.hid (show w.heap.size ≤ w6.heap.size by have := KT.out.size; have := Z5.out; omega)
    have O6 := Lib.hid (O5.out.keepB KT.out hb)
    clear hR hK hy
    go_wp2_with (at_builtin; refine wpList_append_ex _ rfl (.tmp 10) (.tmp 18) 24 rfl _ _ rfl rfl (app_rus _ _ w.heap.size _ _ (ROwn.keepB O6.out ((Keep.refl (But b) _).alloc _) (by omega)) (by have := Z6.out; simp only [World.size_alloc]; omega) _ [⟨x, y⟩] (rus_blk (l := [⟨x, y⟩]) rfl (blk_new _ _) (fun z hz => by simp only [List.mem_cons, List.not_mem_nil, or_false] at hz; subst hz; have := X5.out; have := Y6.out; unfold Fits; exact ⟨by show x.size ≤ _; omega, by show y.size ≤ _; omega⟩) (by simp)) (by simp only [List.length_append, List.length_cons, List.length_nil]; omega)) ?_; intro va wa ha; have AO := Lib.hid ha.1; have AK := Lib.hid (show Keep (But b) w wa from (K6.out.alloc _).grown ha.2 (fun i hi hlt h => by have := (O6.out.1.lt i hi).1; omega)); have AB := Lib.hid (show wa.heap[b]? = w6.heap[b]? from (ha.2.block b (by have := Z6.out; simp only [World.size_alloc]; omega) (fun e => by have := (O6.out.1.lt b e.symm).1; omega)).trans (Below.heap_alloc _ _ _ (by have := Z6.out; omega))); clear ha)
    go_ret
    exact ⟨_, _, p2 + 1 + 1 + 1, rfl, AO.out, by simp only [List.length_append, List.length_cons, List.length_nil]; omega, by omega, by omega, ⟨AB.out.trans R6.out.1, HR.out.2.keep AK.out⟩, AK.out⟩
/-- texts of texts that can be read -/
def TL (w : World) (ok : Nat → Prop) (v : Value) (l : List (List ByteArray)) : Prop := Sl 1 (fun x cs => ∃ u, cs = [u] ∧ Strs w ok u x) w ok v l
set_option maxRecDepth 20000 in
theorem texts_calls (l : List (List ByteArray)) (v : Value) (w : World) (b : Nat) (s : Value) (n p : Nat) (h : Rdr w b s n p) (hn : n ≤ 2000) (hp : p ≤ 1000000) (hl : 1 ≤ l.length) (hl2 : l.length ≤ 1000) (hv : TL w (But b) v l) :
    Calls Tryz.prog 12 #[.pointer (some ⟨b, 0, none⟩), v] w fun e w' => ∃ u x, x ∈ l ∧ e = .returned u ∧ Strs w' (But b) u x ∧ Rdr w' b s n (p + 1) ∧ Keep (But b) w w' := by
  have PK := Lib.hid (pick_calls (l.length : Int) w b s n p h hn hp (by omega))
  obtain ⟨a, c, rfl, h1, h2, h3⟩ := hv
  obtain ⟨ad, rfl, ho, hf⟩ := h3 (fun e => by rw [e] at hl; simp at hl)
  have HF := Lib.hid hf
  have HO := Lib.hid ho
  clear h hf ho h3
  go_enter Tryz.func12, Tryz.ntmps12
  go_wp2_with fail
  refine PK.out.mono ?_
  rintro e w2 ⟨j, rfl, j0, j1, hR2, hK2⟩
  have j2 := j1 (by omega)
  obtain ⟨i, rfl⟩ := Int.eq_ofNat_of_zero_le j0
  have hi : i < l.length := by omega
  obtain ⟨cs, ⟨u, rfl, hu⟩, _, hc⟩ := HF.out i _ (List.getElem?_eq_getElem hi)
  have hc0 : w2.cell? (ad.add i) = some u := by have := (hc.keep hK2 HO.out) 0 _ rfl; simpa using this
  have U2 := Lib.hid (Strs.keep hu hK2)
  have R2 := Lib.hid hR2
  have K2 := Lib.hid hK2
  have HM := Lib.hid (show l[i] ∈ l from List.getElem_mem hi)
  generalize l[i] = x at *
  obtain ⟨ua, uc, rfl, _⟩ := hu
  clear hR2 hK2 j1 hc
  go_wp2
  go_ret
  exact ⟨_, x, HM.out, rfl, U2.out, R2.out, K2.out⟩
end Go.Proofs.YtngghnakbhoiaaaGreatDoor

/- Bytes that can be read, to begin a reader with. No condition. -/
namespace Go.Proofs.YtngghnakbhoiaaaGreatDoor
open Go.RowKit
set_option linter.unusedVariables false
/-- n bytes that can be read -/
def BytIn (w : World) (s : Value) (n : Nat) : Prop :=
  ∃ (a : Option Addr) (c : Nat), s = .slice a n c ∧ n ≤ c ∧ c ≤ 9223372036854775807 ∧ (0 < n → ∃ ad : Addr, a = some ad ∧ ∀ i, i < n → ∃ x : Nat, x < 256 ∧ w.cell? (ad.add i) = some (.int .u8 x))
theorem BytIn.keep {w w' : World} {s : Value} {n : Nat} (h : BytIn w s n) (k : Keep Any w w') : BytIn w' s n := by
  obtain ⟨a, c, rfl, h1, h2, h3⟩ := h
  refine ⟨a, c, rfl, h1, h2, fun hn => ?_⟩
  obtain ⟨ad, rfl, hf⟩ := h3 hn
  exact ⟨ad, rfl, fun i hi => by obtain ⟨x, hx, hc⟩ := hf i hi; exact ⟨x, hx, k.cell hc trivial⟩⟩
theorem BytIn.byt {w : World} {s : Value} {n b : Nat} (h : BytIn w s n) (hb : w.heap.size ≤ b) : Byt w b s n := by
  obtain ⟨a, c, rfl, h1, h2, h3⟩ := h
  refine ⟨a, c, rfl, h1, h2, fun hn => ?_⟩
  obtain ⟨ad, rfl, hf⟩ := h3 hn
  refine ⟨ad, rfl, fun e => ?_, hf⟩
  obtain ⟨x, hx, hc⟩ := hf 0 hn
  have := World.block_lt_of_cell? w _ hc
  rw [add_block] at this
  omega
end Go.Proofs.YtngghnakbhoiaaaGreatDoor

/- What a server begins with, drawn: names, rules, how many talk. For all bytes. -/
namespace Go.Proofs.YtngghnakbhoiaaaGreatDoor
open Go.RowKit
set_option linter.unusedVariables false
set_option linter.unusedSimpArgs false
def DrawnSv (w : World) (e : Ending) (w' : World) : Prop :=
  ∃ (vn : Value) (names : List ByteArray) (vr : Value) (rules : List Ru) (z : Int), e = .returned (.tuple #[vn, vr, .int .i64 z]) ∧ Strs w' Any vn names ∧ names.length ≤ 4 ∧ Rus w' Any vr rules ∧ rules.length ≤ 5 ∧ 0 ≤ z ∧ z < 5 ∧ Keep Any w w'
set_option maxRecDepth 20000 in
set_option maxHeartbeats 4000000 in
theorem drawServerNew_calls (v : Value) (n : Nat) (w : World) (hv : BytIn w v n) : Calls Tryz.prog 4 #[v] w (DrawnSv w) := by
  have OP := Lib.hid (fun w0 (hk : Keep Any w w0) => l1Open_calls v n w0 ((hv.keep hk).byt (Nat.le_refl _)))
  have AR := Lib.hid (fun w b s n p h hn hp => l11AnyRules_calls w b s n p h hn hp)
  have TX := Lib.hid (fun l v w b s n p h hn hp hl hl2 hv => texts_calls l v w b s n p h hn hp hl hl2 hv)
  have PK := Lib.hid (fun k w b s n p h hn hp hk => pick_calls k w b s n p h hn hp hk)
  clear hv
  go_enter Tryz.func4, Tryz.ntmps4
  go_wp2_with fail
  refine (OP.out _ (Keep.refl _ _)).mono ?_
  rintro e w2 ⟨s, m, hm, rfl, hR2, hK2⟩
  have R2 := Lib.hid hR2
  have K2 := Lib.hid hK2
  have Z2 := Lib.hid (show w.heap.size < w2.heap.size from blk_lt hR2.1)
  clear hR2 hK2
  go_wp2_with fail
  have hne : ∀ k, w2.heap.size ≤ k → But w.heap.size k := fun k hk => by have := Z2.out; show k ≠ _; omega
  have B0 : ((((((((w2.alloc (.cells #[.string ⟨#[104, 111, 109, 101]⟩] 9 (0, 0))).alloc (.cells #[.string ⟨#[104, 111, 109, 101]⟩, .string ⟨#[111, 116, 104, 101, 114]⟩] 9 (0, 0))).alloc (.cells #[.string ⟨#[104, 111, 109, 101]⟩, .string ⟨#[104, 111, 109, 101]⟩] 9 (0, 0))).alloc (.cells #[.string ⟨#[]⟩] 9 (0, 0))).alloc (.cells #[] 9 (0, 0))).alloc (.cells #[.string ⟨#[97]⟩, .string ⟨#[98]⟩, .string ⟨#[99]⟩, .string ⟨#[100]⟩] 9 (0, 0))).alloc (.cells #[.string ⟨#[97]⟩, .string ⟨#[98]⟩, .string ⟨#[99]⟩] 9 (0, 0))).alloc (.cells #[.slice (some ⟨w2.heap.size, 0, none⟩) 1 1, .slice (some ⟨w2.heap.size + 1, 0, none⟩) 2 2, .slice (some ⟨w2.heap.size + 1 + 1, 0, none⟩) 2 2, .slice (some ⟨w2.heap.size + 1 + 1 + 1, 0, none⟩) 1 1, .slice (some ⟨w2.heap.size + 1 + 1 + 1 + 1, 0, none⟩) 0 0, .slice (some ⟨w2.heap.size + 1 + 1 + 1 + 1 + 1, 0, none⟩) 4 4, .slice (some ⟨w2.heap.size + 1 + 1 + 1 + 1 + 1 + 1, 0, none⟩) 3 3] 23 (0, 0))).heap[w2.heap.size]? = some (.cells #[.string ⟨#[104, 111, 109, 101]⟩] 9 (0, 0)) := by
    have h := blk_new w2 (.cells #[.string ⟨#[104, 111, 109, 101]⟩] 9 (0, 0))
    try simp only [World.size_alloc] at h
    exact blk_alloc (blk_alloc (blk_alloc (blk_alloc (blk_alloc (blk_alloc (blk_alloc (h) _) _) _) _) _) _) _
  have B1 : ((((((((w2.alloc (.cells #[.string ⟨#[104, 111, 109, 101]⟩] 9 (0, 0))).alloc (.cells #[.string ⟨#[104, 111, 109, 101]⟩, .string ⟨#[111, 116, 104, 101, 114]⟩] 9 (0, 0))).alloc (.cells #[.string ⟨#[104, 111, 109, 101]⟩, .string ⟨#[104, 111, 109, 101]⟩] 9 (0, 0))).alloc (.cells #[.string ⟨#[]⟩] 9 (0, 0))).alloc (.cells #[] 9 (0, 0))).alloc (.cells #[.string ⟨#[97]⟩, .string ⟨#[98]⟩, .string ⟨#[99]⟩, .string ⟨#[100]⟩] 9 (0, 0))).alloc (.cells #[.string ⟨#[97]⟩, .string ⟨#[98]⟩, .string ⟨#[99]⟩] 9 (0, 0))).alloc (.cells #[.slice (some ⟨w2.heap.size, 0, none⟩) 1 1, .slice (some ⟨w2.heap.size + 1, 0, none⟩) 2 2, .slice (some ⟨w2.heap.size + 1 + 1, 0, none⟩) 2 2, .slice (some ⟨w2.heap.size + 1 + 1 + 1, 0, none⟩) 1 1, .slice (some ⟨w2.heap.size + 1 + 1 + 1 + 1, 0, none⟩) 0 0, .slice (some ⟨w2.heap.size + 1 + 1 + 1 + 1 + 1, 0, none⟩) 4 4, .slice (some ⟨w2.heap.size + 1 + 1 + 1 + 1 + 1 + 1, 0, none⟩) 3 3] 23 (0, 0))).heap[w2.heap.size + 1]? = some (.cells #[.string ⟨#[104, 111, 109, 101]⟩, .string ⟨#[111, 116, 104, 101, 114]⟩] 9 (0, 0)) := by
    have h := blk_new (w2.alloc (.cells #[.string ⟨#[104, 111, 109, 101]⟩] 9 (0, 0))) (.cells #[.string ⟨#[104, 111, 109, 101]⟩, .string ⟨#[111, 116, 104, 101, 114]⟩] 9 (0, 0))
    try simp only [World.size_alloc] at h
    exact blk_alloc (blk_alloc (blk_alloc (blk_alloc (blk_alloc (blk_alloc (h) _) _) _) _) _) _
  have B2 : ((((((((w2.alloc (.cells #[.string ⟨#[104, 111, 109, 101]⟩] 9 (0, 0))).alloc (.cells #[.string ⟨#[104, 111, 109, 101]⟩, .string ⟨#[111, 116, 104, 101, 114]⟩] 9 (0, 0))).alloc (.cells #[.string ⟨#[104, 111, 109, 101]⟩, .string ⟨#[104, 111, 109, 101]⟩] 9 (0, 0))).alloc (.cells #[.string ⟨#[]⟩] 9 (0, 0))).alloc (.cells #[] 9 (0, 0))).alloc (.cells #[.string ⟨#[97]⟩, .string ⟨#[98]⟩, .string ⟨#[99]⟩, .string ⟨#[100]⟩] 9 (0, 0))).alloc (.cells #[.string ⟨#[97]⟩, .string ⟨#[98]⟩, .string ⟨#[99]⟩] 9 (0, 0))).alloc (.cells #[.slice (some ⟨w2.heap.size, 0, none⟩) 1 1, .slice (some ⟨w2.heap.size + 1, 0, none⟩) 2 2, .slice (some ⟨w2.heap.size + 1 + 1, 0, none⟩) 2 2, .slice (some ⟨w2.heap.size + 1 + 1 + 1, 0, none⟩) 1 1, .slice (some ⟨w2.heap.size + 1 + 1 + 1 + 1, 0, none⟩) 0 0, .slice (some ⟨w2.heap.size + 1 + 1 + 1 + 1 + 1, 0, none⟩) 4 4, .slice (some ⟨w2.heap.size + 1 + 1 + 1 + 1 + 1 + 1, 0, none⟩) 3 3] 23 (0, 0))).heap[w2.heap.size + 1 + 1]? = some (.cells #[.string ⟨#[104, 111, 109, 101]⟩, .string ⟨#[104, 111, 109, 101]⟩] 9 (0, 0)) := by
    have h := blk_new ((w2.alloc (.cells #[.string ⟨#[104, 111, 109, 101]⟩] 9 (0, 0))).alloc (.cells #[.string ⟨#[104, 111, 109, 101]⟩, .string ⟨#[111, 116, 104, 101, 114]⟩] 9 (0, 0))) (.cells #[.string ⟨#[104, 111, 109, 101]⟩, .string ⟨#[104, 111, 109, 101]⟩] 9 (0, 0))
    try simp only [World.size_alloc] at h
    exact blk_alloc (blk_alloc (blk_alloc (blk_alloc (blk_alloc (h) _) _) _) _) _
  have B3 : ((((((((w2.alloc (.cells #[.string ⟨#[104, 111, 109, 101]⟩] 9 (0, 0))).alloc (.cells #[.string ⟨#[104, 111, 109, 101]⟩, .string ⟨#[111, 116, 104, 101, 114]⟩] 9 (0, 0))).alloc (.cells #[.string ⟨#[104, 111, 109, 101]⟩, .string ⟨#[104, 111, 109, 101]⟩] 9 (0, 0))).alloc (.cells #[.string ⟨#[]⟩] 9 (0, 0))).alloc (.cells #[] 9 (0, 0))).alloc (.cells #[.string ⟨#[97]⟩, .string ⟨#[98]⟩, .string ⟨#[99]⟩, .string ⟨#[100]⟩] 9 (0, 0))).alloc (.cells #[.string ⟨#[97]⟩, .string ⟨#[98]⟩, .string ⟨#[99]⟩] 9 (0, 0))).alloc (.cells #[.slice (some ⟨w2.heap.size, 0, none⟩) 1 1, .slice (some ⟨w2.heap.size + 1, 0, none⟩) 2 2, .slice (some ⟨w2.heap.size + 1 + 1, 0, none⟩) 2 2, .slice (some ⟨w2.heap.size + 1 + 1 + 1, 0, none⟩) 1 1, .slice (some ⟨w2.heap.size + 1 + 1 + 1 + 1, 0, none⟩) 0 0, .slice (some ⟨w2.heap.size + 1 + 1 + 1 + 1 + 1, 0, none⟩) 4 4, .slice (some ⟨w2.heap.size + 1 + 1 + 1 + 1 + 1 + 1, 0, none⟩) 3 3] 23 (0, 0))).heap[w2.heap.size + 1 + 1 + 1]? = some (.cells #[.string ⟨#[]⟩] 9 (0, 0)) := by
    have h := blk_new (((w2.alloc (.cells #[.string ⟨#[104, 111, 109, 101]⟩] 9 (0, 0))).alloc (.cells #[.string ⟨#[104, 111, 109, 101]⟩, .string ⟨#[111, 116, 104, 101, 114]⟩] 9 (0, 0))).alloc (.cells #[.string ⟨#[104, 111, 109, 101]⟩, .string ⟨#[104, 111, 109, 101]⟩] 9 (0, 0))) (.cells #[.string ⟨#[]⟩] 9 (0, 0))
    try simp only [World.size_alloc] at h
    exact blk_alloc (blk_alloc (blk_alloc (blk_alloc (h) _) _) _) _
  have B4 : ((((((((w2.alloc (.cells #[.string ⟨#[104, 111, 109, 101]⟩] 9 (0, 0))).alloc (.cells #[.string ⟨#[104, 111, 109, 101]⟩, .string ⟨#[111, 116, 104, 101, 114]⟩] 9 (0, 0))).alloc (.cells #[.string ⟨#[104, 111, 109, 101]⟩, .string ⟨#[104, 111, 109, 101]⟩] 9 (0, 0))).alloc (.cells #[.string ⟨#[]⟩] 9 (0, 0))).alloc (.cells #[] 9 (0, 0))).alloc (.cells #[.string ⟨#[97]⟩, .string ⟨#[98]⟩, .string ⟨#[99]⟩, .string ⟨#[100]⟩] 9 (0, 0))).alloc (.cells #[.string ⟨#[97]⟩, .string ⟨#[98]⟩, .string ⟨#[99]⟩] 9 (0, 0))).alloc (.cells #[.slice (some ⟨w2.heap.size, 0, none⟩) 1 1, .slice (some ⟨w2.heap.size + 1, 0, none⟩) 2 2, .slice (some ⟨w2.heap.size + 1 + 1, 0, none⟩) 2 2, .slice (some ⟨w2.heap.size + 1 + 1 + 1, 0, none⟩) 1 1, .slice (some ⟨w2.heap.size + 1 + 1 + 1 + 1, 0, none⟩) 0 0, .slice (some ⟨w2.heap.size + 1 + 1 + 1 + 1 + 1, 0, none⟩) 4 4, .slice (some ⟨w2.heap.size + 1 + 1 + 1 + 1 + 1 + 1, 0, none⟩) 3 3] 23 (0, 0))).heap[w2.heap.size + 1 + 1 + 1 + 1]? = some (.cells #[] 9 (0, 0)) := by
    have h := blk_new ((((w2.alloc (.cells #[.string ⟨#[104, 111, 109, 101]⟩] 9 (0, 0))).alloc (.cells #[.string ⟨#[104, 111, 109, 101]⟩, .string ⟨#[111, 116, 104, 101, 114]⟩] 9 (0, 0))).alloc (.cells #[.string ⟨#[104, 111, 109, 101]⟩, .string ⟨#[104, 111, 109, 101]⟩] 9 (0, 0))).alloc (.cells #[.string ⟨#[]⟩] 9 (0, 0))) (.cells #[] 9 (0, 0))
    try simp only [World.size_alloc] at h
    exact blk_alloc (blk_alloc (blk_alloc (h) _) _) _
  have B5 : ((((((((w2.alloc (.cells #[.string ⟨#[104, 111, 109, 101]⟩] 9 (0, 0))).alloc (.cells #[.string ⟨#[104, 111, 109, 101]⟩, .string ⟨#[111, 116, 104, 101, 114]⟩] 9 (0, 0))).alloc (.cells #[.string ⟨#[104, 111, 109, 101]⟩, .string ⟨#[104, 111, 109, 101]⟩] 9 (0, 0))).alloc (.cells #[.string ⟨#[]⟩] 9 (0, 0))).alloc (.cells #[] 9 (0, 0))).alloc (.cells #[.string ⟨#[97]⟩, .string ⟨#[98]⟩, .string ⟨#[99]⟩, .string ⟨#[100]⟩] 9 (0, 0))).alloc (.cells #[.string ⟨#[97]⟩, .string ⟨#[98]⟩, .string ⟨#[99]⟩] 9 (0, 0))).alloc (.cells #[.slice (some ⟨w2.heap.size, 0, none⟩) 1 1, .slice (some ⟨w2.heap.size + 1, 0, none⟩) 2 2, .slice (some ⟨w2.heap.size + 1 + 1, 0, none⟩) 2 2, .slice (some ⟨w2.heap.size + 1 + 1 + 1, 0, none⟩) 1 1, .slice (some ⟨w2.heap.size + 1 + 1 + 1 + 1, 0, none⟩) 0 0, .slice (some ⟨w2.heap.size + 1 + 1 + 1 + 1 + 1, 0, none⟩) 4 4, .slice (some ⟨w2.heap.size + 1 + 1 + 1 + 1 + 1 + 1, 0, none⟩) 3 3] 23 (0, 0))).heap[w2.heap.size + 1 + 1 + 1 + 1 + 1]? = some (.cells #[.string ⟨#[97]⟩, .string ⟨#[98]⟩, .string ⟨#[99]⟩, .string ⟨#[100]⟩] 9 (0, 0)) := by
    have h := blk_new (((((w2.alloc (.cells #[.string ⟨#[104, 111, 109, 101]⟩] 9 (0, 0))).alloc (.cells #[.string ⟨#[104, 111, 109, 101]⟩, .string ⟨#[111, 116, 104, 101, 114]⟩] 9 (0, 0))).alloc (.cells #[.string ⟨#[104, 111, 109, 101]⟩, .string ⟨#[104, 111, 109, 101]⟩] 9 (0, 0))).alloc (.cells #[.string ⟨#[]⟩] 9 (0, 0))).alloc (.cells #[] 9 (0, 0))) (.cells #[.string ⟨#[97]⟩, .string ⟨#[98]⟩, .string ⟨#[99]⟩, .string ⟨#[100]⟩] 9 (0, 0))
    try simp only [World.size_alloc] at h
    exact blk_alloc (blk_alloc (h) _) _
  have B6 : ((((((((w2.alloc (.cells #[.string ⟨#[104, 111, 109, 101]⟩] 9 (0, 0))).alloc (.cells #[.string ⟨#[104, 111, 109, 101]⟩, .string ⟨#[111, 116, 104, 101, 114]⟩] 9 (0, 0))).alloc (.cells #[.string ⟨#[104, 111, 109, 101]⟩, .string ⟨#[104, 111, 109, 101]⟩] 9 (0, 0))).alloc (.cells #[.string ⟨#[]⟩] 9 (0, 0))).alloc (.cells #[] 9 (0, 0))).alloc (.cells #[.string ⟨#[97]⟩, .string ⟨#[98]⟩, .string ⟨#[99]⟩, .string ⟨#[100]⟩] 9 (0, 0))).alloc (.cells #[.string ⟨#[97]⟩, .string ⟨#[98]⟩, .string ⟨#[99]⟩] 9 (0, 0))).alloc (.cells #[.slice (some ⟨w2.heap.size, 0, none⟩) 1 1, .slice (some ⟨w2.heap.size + 1, 0, none⟩) 2 2, .slice (some ⟨w2.heap.size + 1 + 1, 0, none⟩) 2 2, .slice (some ⟨w2.heap.size + 1 + 1 + 1, 0, none⟩) 1 1, .slice (some ⟨w2.heap.size + 1 + 1 + 1 + 1, 0, none⟩) 0 0, .slice (some ⟨w2.heap.size + 1 + 1 + 1 + 1 + 1, 0, none⟩) 4 4, .slice (some ⟨w2.heap.size + 1 + 1 + 1 + 1 + 1 + 1, 0, none⟩) 3 3] 23 (0, 0))).heap[w2.heap.size + 1 + 1 + 1 + 1 + 1 + 1]? = some (.cells #[.string ⟨#[97]⟩, .string ⟨#[98]⟩, .string ⟨#[99]⟩] 9 (0, 0)) := by
    have h := blk_new ((((((w2.alloc (.cells #[.string ⟨#[104, 111, 109, 101]⟩] 9 (0, 0))).alloc (.cells #[.string ⟨#[104, 111, 109, 101]⟩, .string ⟨#[111, 116, 104, 101, 114]⟩] 9 (0, 0))).alloc (.cells #[.string ⟨#[104, 111, 109, 101]⟩, .string ⟨#[104, 111, 109, 101]⟩] 9 (0, 0))).alloc (.cells #[.string ⟨#[]⟩] 9 (0, 0))).alloc (.cells #[] 9 (0, 0))).alloc (.cells #[.string ⟨#[97]⟩, .string ⟨#[98]⟩, .string ⟨#[99]⟩, .string ⟨#[100]⟩] 9 (0, 0))) (.cells #[.string ⟨#[97]⟩, .string ⟨#[98]⟩, .string ⟨#[99]⟩] 9 (0, 0))
    try simp only [World.size_alloc] at h
    exact blk_alloc (h) _
  have B7 : ((((((((w2.alloc (.cells #[.string ⟨#[104, 111, 109, 101]⟩] 9 (0, 0))).alloc (.cells #[.string ⟨#[104, 111, 109, 101]⟩, .string ⟨#[111, 116, 104, 101, 114]⟩] 9 (0, 0))).alloc (.cells #[.string ⟨#[104, 111, 109, 101]⟩, .string ⟨#[104, 111, 109, 101]⟩] 9 (0, 0))).alloc (.cells #[.string ⟨#[]⟩] 9 (0, 0))).alloc (.cells #[] 9 (0, 0))).alloc (.cells #[.string ⟨#[97]⟩, .string ⟨#[98]⟩, .string ⟨#[99]⟩, .string ⟨#[100]⟩] 9 (0, 0))).alloc (.cells #[.string ⟨#[97]⟩, .string ⟨#[98]⟩, .string ⟨#[99]⟩] 9 (0, 0))).alloc (.cells #[.slice (some ⟨w2.heap.size, 0, none⟩) 1 1, .slice (some ⟨w2.heap.size + 1, 0, none⟩) 2 2, .slice (some ⟨w2.heap.size + 1 + 1, 0, none⟩) 2 2, .slice (some ⟨w2.heap.size + 1 + 1 + 1, 0, none⟩) 1 1, .slice (some ⟨w2.heap.size + 1 + 1 + 1 + 1, 0, none⟩) 0 0, .slice (some ⟨w2.heap.size + 1 + 1 + 1 + 1 + 1, 0, none⟩) 4 4, .slice (some ⟨w2.heap.size + 1 + 1 + 1 + 1 + 1 + 1, 0, none⟩) 3 3] 23 (0, 0))).heap[w2.heap.size + 1 + 1 + 1 + 1 + 1 + 1 + 1]? = some (.cells #[.slice (some ⟨w2.heap.size, 0, none⟩) 1 1, .slice (some ⟨w2.heap.size + 1, 0, none⟩) 2 2, .slice (some ⟨w2.heap.size + 1 + 1, 0, none⟩) 2 2, .slice (some ⟨w2.heap.size + 1 + 1 + 1, 0, none⟩) 1 1, .slice (some ⟨w2.heap.size + 1 + 1 + 1 + 1, 0, none⟩) 0 0, .slice (some ⟨w2.heap.size + 1 + 1 + 1 + 1 + 1, 0, none⟩) 4 4, .slice (some ⟨w2.heap.size + 1 + 1 + 1 + 1 + 1 + 1, 0, none⟩) 3 3] 23 (0, 0)) := by
    have h := blk_new (((((((w2.alloc (.cells #[.string ⟨#[104, 111, 109, 101]⟩] 9 (0, 0))).alloc (.cells #[.string ⟨#[104, 111, 109, 101]⟩, .string ⟨#[111, 116, 104, 101, 114]⟩] 9 (0, 0))).alloc (.cells #[.string ⟨#[104, 111, 109, 101]⟩, .string ⟨#[104, 111, 109, 101]⟩] 9 (0, 0))).alloc (.cells #[.string ⟨#[]⟩] 9 (0, 0))).alloc (.cells #[] 9 (0, 0))).alloc (.cells #[.string ⟨#[97]⟩, .string ⟨#[98]⟩, .string ⟨#[99]⟩, .string ⟨#[100]⟩] 9 (0, 0))).alloc (.cells #[.string ⟨#[97]⟩, .string ⟨#[98]⟩, .string ⟨#[99]⟩] 9 (0, 0))) (.cells #[.slice (some ⟨w2.heap.size, 0, none⟩) 1 1, .slice (some ⟨w2.heap.size + 1, 0, none⟩) 2 2, .slice (some ⟨w2.heap.size + 1 + 1, 0, none⟩) 2 2, .slice (some ⟨w2.heap.size + 1 + 1 + 1, 0, none⟩) 1 1, .slice (some ⟨w2.heap.size + 1 + 1 + 1 + 1, 0, none⟩) 0 0, .slice (some ⟨w2.heap.size + 1 + 1 + 1 + 1 + 1, 0, none⟩) 4 4, .slice (some ⟨w2.heap.size + 1 + 1 + 1 + 1 + 1 + 1, 0, none⟩) 3 3] 23 (0, 0))
    try simp only [World.size_alloc] at h
    exact h
  have HT := Lib.hid (show TL ((((((((w2.alloc (.cells #[.string ⟨#[104, 111, 109, 101]⟩] 9 (0, 0))).alloc (.cells #[.string ⟨#[104, 111, 109, 101]⟩, .string ⟨#[111, 116, 104, 101, 114]⟩] 9 (0, 0))).alloc (.cells #[.string ⟨#[104, 111, 109, 101]⟩, .string ⟨#[104, 111, 109, 101]⟩] 9 (0, 0))).alloc (.cells #[.string ⟨#[]⟩] 9 (0, 0))).alloc (.cells #[] 9 (0, 0))).alloc (.cells #[.string ⟨#[97]⟩, .string ⟨#[98]⟩, .string ⟨#[99]⟩, .string ⟨#[100]⟩] 9 (0, 0))).alloc (.cells #[.string ⟨#[97]⟩, .string ⟨#[98]⟩, .string ⟨#[99]⟩] 9 (0, 0))).alloc (.cells #[.slice (some ⟨w2.heap.size, 0, none⟩) 1 1, .slice (some ⟨w2.heap.size + 1, 0, none⟩) 2 2, .slice (some ⟨w2.heap.size + 1 + 1, 0, none⟩) 2 2, .slice (some ⟨w2.heap.size + 1 + 1 + 1, 0, none⟩) 1 1, .slice (some ⟨w2.heap.size + 1 + 1 + 1 + 1, 0, none⟩) 0 0, .slice (some ⟨w2.heap.size + 1 + 1 + 1 + 1 + 1, 0, none⟩) 4 4, .slice (some ⟨w2.heap.size + 1 + 1 + 1 + 1 + 1 + 1, 0, none⟩) 3 3] 23 (0, 0))) (But w.heap.size) (.slice (some ⟨w2.heap.size + 1 + 1 + 1 + 1 + 1 + 1 + 1, 0, none⟩) 7 7) [[⟨#[104, 111, 109, 101]⟩], [⟨#[104, 111, 109, 101]⟩, ⟨#[111, 116, 104, 101, 114]⟩], [⟨#[104, 111, 109, 101]⟩, ⟨#[104, 111, 109, 101]⟩], [⟨#[]⟩], [], [⟨#[97]⟩, ⟨#[98]⟩, ⟨#[99]⟩, ⟨#[100]⟩], [⟨#[97]⟩, ⟨#[98]⟩, ⟨#[99]⟩]] from ⟨_, _, rfl, Nat.le_refl _, by decide, fun _ => ⟨_, rfl, hne _ (by show _ ≤ w2.heap.size + 1 + 1 + 1 + 1 + 1 + 1 + 1; omega), fun j x hx => by
    rcases j with _ | _ | _ | _ | _ | _ | _ | j
    · cases hx
      exact ⟨[.slice (some ⟨w2.heap.size, 0, none⟩) 1 1], ⟨_, rfl, strs_lit [⟨#[104, 111, 109, 101]⟩] rfl B0 (hne _ (by omega)) (by simp) (fun y hy => by simp only [List.mem_cons, List.not_mem_nil, or_false] at hy; rcases hy with rfl <;> decide)⟩, rfl, fun i u hu => by cases i with | succ i => cases hu | zero => cases hu; exact (blk_cell B7 0).trans rfl⟩
    · cases hx
      exact ⟨[.slice (some ⟨w2.heap.size + 1, 0, none⟩) 2 2], ⟨_, rfl, strs_lit [⟨#[104, 111, 109, 101]⟩, ⟨#[111, 116, 104, 101, 114]⟩] rfl B1 (hne _ (by omega)) (by simp) (fun y hy => by simp only [List.mem_cons, List.not_mem_nil, or_false] at hy; rcases hy with rfl | rfl <;> decide)⟩, rfl, fun i u hu => by cases i with | succ i => cases hu | zero => cases hu; exact (blk_cell B7 1).trans rfl⟩
    · cases hx
      exact ⟨[.slice (some ⟨w2.heap.size + 1 + 1, 0, none⟩) 2 2], ⟨_, rfl, strs_lit [⟨#[104, 111, 109, 101]⟩, ⟨#[104, 111, 109, 101]⟩] rfl B2 (hne _ (by omega)) (by simp) (fun y hy => by simp only [List.mem_cons, List.not_mem_nil, or_false] at hy; rcases hy with rfl | rfl <;> decide)⟩, rfl, fun i u hu => by cases i with | succ i => cases hu | zero => cases hu; exact (blk_cell B7 2).trans rfl⟩
    · cases hx
      exact ⟨[.slice (some ⟨w2.heap.size + 1 + 1 + 1, 0, none⟩) 1 1], ⟨_, rfl, strs_lit [⟨#[]⟩] rfl B3 (hne _ (by omega)) (by simp) (fun y hy => by simp only [List.mem_cons, List.not_mem_nil, or_false] at hy; rcases hy with rfl <;> decide)⟩, rfl, fun i u hu => by cases i with | succ i => cases hu | zero => cases hu; exact (blk_cell B7 3).trans rfl⟩
    · cases hx
      exact ⟨[.slice (some ⟨w2.heap.size + 1 + 1 + 1 + 1, 0, none⟩) 0 0], ⟨_, rfl, strs_lit [] rfl B4 (hne _ (by omega)) (by simp) (fun y hy => by simp only [List.mem_cons, List.not_mem_nil, or_false] at hy; skip)⟩, rfl, fun i u hu => by cases i with | succ i => cases hu | zero => cases hu; exact (blk_cell B7 4).trans rfl⟩
    · cases hx
      exact ⟨[.slice (some ⟨w2.heap.size + 1 + 1 + 1 + 1 + 1, 0, none⟩) 4 4], ⟨_, rfl, strs_lit [⟨#[97]⟩, ⟨#[98]⟩, ⟨#[99]⟩, ⟨#[100]⟩] rfl B5 (hne _ (by omega)) (by simp) (fun y hy => by simp only [List.mem_cons, List.not_mem_nil, or_false] at hy; rcases hy with rfl | rfl | rfl | rfl <;> decide)⟩, rfl, fun i u hu => by cases i with | succ i => cases hu | zero => cases hu; exact (blk_cell B7 5).trans rfl⟩
    · cases hx
      exact ⟨[.slice (some ⟨w2.heap.size + 1 + 1 + 1 + 1 + 1 + 1, 0, none⟩) 3 3], ⟨_, rfl, strs_lit [⟨#[97]⟩, ⟨#[98]⟩, ⟨#[99]⟩] rfl B6 (hne _ (by omega)) (by simp) (fun y hy => by simp only [List.mem_cons, List.not_mem_nil, or_false] at hy; rcases hy with rfl | rfl | rfl <;> decide)⟩, rfl, fun i u hu => by cases i with | succ i => cases hu | zero => cases hu; exact (blk_cell B7 6).trans rfl⟩
    · simp at hx⟩⟩)
  have HR8 := Lib.hid (show Rdr ((((((((w2.alloc (.cells #[.string ⟨#[104, 111, 109, 101]⟩] 9 (0, 0))).alloc (.cells #[.string ⟨#[104, 111, 109, 101]⟩, .string ⟨#[111, 116, 104, 101, 114]⟩] 9 (0, 0))).alloc (.cells #[.string ⟨#[104, 111, 109, 101]⟩, .string ⟨#[104, 111, 109, 101]⟩] 9 (0, 0))).alloc (.cells #[.string ⟨#[]⟩] 9 (0, 0))).alloc (.cells #[] 9 (0, 0))).alloc (.cells #[.string ⟨#[97]⟩, .string ⟨#[98]⟩, .string ⟨#[99]⟩, .string ⟨#[100]⟩] 9 (0, 0))).alloc (.cells #[.string ⟨#[97]⟩, .string ⟨#[98]⟩, .string ⟨#[99]⟩] 9 (0, 0))).alloc (.cells #[.slice (some ⟨w2.heap.size, 0, none⟩) 1 1, .slice (some ⟨w2.heap.size + 1, 0, none⟩) 2 2, .slice (some ⟨w2.heap.size + 1 + 1, 0, none⟩) 2 2, .slice (some ⟨w2.heap.size + 1 + 1 + 1, 0, none⟩) 1 1, .slice (some ⟨w2.heap.size + 1 + 1 + 1 + 1, 0, none⟩) 0 0, .slice (some ⟨w2.heap.size + 1 + 1 + 1 + 1 + 1, 0, none⟩) 4 4, .slice (some ⟨w2.heap.size + 1 + 1 + 1 + 1 + 1 + 1, 0, none⟩) 3 3] 23 (0, 0))) w.heap.size s m 0 from ⟨blk_alloc (blk_alloc (blk_alloc (blk_alloc (blk_alloc (blk_alloc (blk_alloc (blk_alloc (R2.out.1) _) _) _) _) _) _) _) _, R2.out.2.keep (((((((((Keep.refl _ _).alloc _).alloc _).alloc _).alloc _).alloc _).alloc _).alloc _).alloc _)⟩)
  have K8 := Lib.hid (show Keep Any w ((((((((w2.alloc (.cells #[.string ⟨#[104, 111, 109, 101]⟩] 9 (0, 0))).alloc (.cells #[.string ⟨#[104, 111, 109, 101]⟩, .string ⟨#[111, 116, 104, 101, 114]⟩] 9 (0, 0))).alloc (.cells #[.string ⟨#[104, 111, 109, 101]⟩, .string ⟨#[104, 111, 109, 101]⟩] 9 (0, 0))).alloc (.cells #[.string ⟨#[]⟩] 9 (0, 0))).alloc (.cells #[] 9 (0, 0))).alloc (.cells #[.string ⟨#[97]⟩, .string ⟨#[98]⟩, .string ⟨#[99]⟩, .string ⟨#[100]⟩] 9 (0, 0))).alloc (.cells #[.string ⟨#[97]⟩, .string ⟨#[98]⟩, .string ⟨#[99]⟩] 9 (0, 0))).alloc (.cells #[.slice (some ⟨w2.heap.size, 0, none⟩) 1 1, .slice (some ⟨w2.heap.size + 1, 0, none⟩) 2 2, .slice (some ⟨w2.heap.size + 1 + 1, 0, none⟩) 2 2, .slice (some ⟨w2.heap.size + 1 + 1 + 1, 0, none⟩) 1 1, .slice (some ⟨w2.heap.size + 1 + 1 + 1 + 1, 0, none⟩) 0 0, .slice (some ⟨w2.heap.size + 1 + 1 + 1 + 1 + 1, 0, none⟩) 4 4, .slice (some ⟨w2.heap.size + 1 + 1 + 1 + 1 + 1 + 1, 0, none⟩) 3 3] 23 (0, 0))) from ((((((((K2.out).alloc _).alloc _).alloc _).alloc _).alloc _).alloc _).alloc _).alloc _)
  clear B0 B1 B2 B3 B4 B5 B6 B7 hne
  generalize ((((((((w2.alloc (.cells #[.string ⟨#[104, 111, 109, 101]⟩] 9 (0, 0))).alloc (.cells #[.string ⟨#[104, 111, 109, 101]⟩, .string ⟨#[111, 116, 104, 101, 114]⟩] 9 (0, 0))).alloc (.cells #[.string ⟨#[104, 111, 109, 101]⟩, .string ⟨#[104, 111, 109, 101]⟩] 9 (0, 0))).alloc (.cells #[.string ⟨#[]⟩] 9 (0, 0))).alloc (.cells #[] 9 (0, 0))).alloc (.cells #[.string ⟨#[97]⟩, .string ⟨#[98]⟩, .string ⟨#[99]⟩, .string ⟨#[100]⟩] 9 (0, 0))).alloc (.cells #[.string ⟨#[97]⟩, .string ⟨#[98]⟩, .string ⟨#[99]⟩] 9 (0, 0))).alloc (.cells #[.slice (some ⟨w2.heap.size, 0, none⟩) 1 1, .slice (some ⟨w2.heap.size + 1, 0, none⟩) 2 2, .slice (some ⟨w2.heap.size + 1 + 1, 0, none⟩) 2 2, .slice (some ⟨w2.heap.size + 1 + 1 + 1, 0, none⟩) 1 1, .slice (some ⟨w2.heap.size + 1 + 1 + 1 + 1, 0, none⟩) 0 0, .slice (some ⟨w2.heap.size + 1 + 1 + 1 + 1 + 1, 0, none⟩) 4 4, .slice (some ⟨w2.heap.size + 1 + 1 + 1 + 1 + 1 + 1, 0, none⟩) 3 3] 23 (0, 0))) = w8 at *
  refine (TX.out [[⟨#[104, 111, 109, 101]⟩], [⟨#[104, 111, 109, 101]⟩, ⟨#[111, 116, 104, 101, 114]⟩], [⟨#[104, 111, 109, 101]⟩, ⟨#[104, 111, 109, 101]⟩], [⟨#[]⟩], [], [⟨#[97]⟩, ⟨#[98]⟩, ⟨#[99]⟩, ⟨#[100]⟩], [⟨#[97]⟩, ⟨#[98]⟩, ⟨#[99]⟩]] _ _ _ _ _ _ HR8.out hm (by omega) (by simp) (by simp) HT.out).mono ?_
  rintro e w9 ⟨u, x, hx, rfl, hu, hR9, hK9⟩
  have hxl : x.length ≤ 4 := by
    simp only [List.mem_cons, List.not_mem_nil, or_false] at hx
    rcases hx with rfl | rfl | rfl | rfl | rfl | rfl | rfl <;> decide
  have U9 := Lib.hid hu
  have R9 := Lib.hid hR9
  have K9 := Lib.hid (show Keep Any w w9 from K8.out.then hK9 fun i hi _ => by show i ≠ _; omega)
  have Z9 := Lib.hid (show w.heap.size < w9.heap.size from blk_lt hR9.1)
  clear hu hR9 hK9 hx
  go_wp2_with fail
  refine (AR.out _ _ _ _ _ R9.out hm (by omega)).mono ?_
  rintro e wa ⟨vr, rs, p1, rfl, hO, hl5, hp1, hp2, hRa, hKa⟩
  have Ua := Lib.hid (Strs.keep U9.out hKa)
  have Oa := Lib.hid hO
  have Ra := Lib.hid hRa
  have Ka := Lib.hid (show Keep Any w wa from K9.out.then hKa fun i hi _ => by show i ≠ _; omega)
  clear hO hRa hKa
  go_wp2_with fail
  refine (PK.out 5 _ _ _ _ _ Ra.out hm (by omega) (by omega)).mono ?_
  rintro e wb ⟨z, rfl, z0, z1, hRb, hKb⟩
  have z2 := z1 (by omega)
  have Ub := Lib.hid (Strs.mono (Strs.keep Ua.out hKb) fun _ _ _ => (trivial : Any _))
  have Rb := Lib.hid ((Oa.out.keepB hKb Z9.out).rus)
  have Kb := Lib.hid (show Keep Any w wb from Ka.out.then hKb fun i hi _ => by show i ≠ _; omega)
  clear hRb hKb
  go_wp2
  go_ret3
  exact ⟨_, x, _, rs, z, rfl, Ub.out, hxl, Rb.out, hl5, z0, z2, Kb.out⟩
end Go.Proofs.YtngghnakbhoiaaaGreatDoor

/- The program's MsgGet returns what the reference's returns, for every text; its answer owns its memory, behind another call too; the argument reads as it did. The package variables that Go's strconv reads hold what the program's text lays (the card ties them). No other condition. -/
import Derived.Test.YtjgnnobfaphkeaaDoorCards
import Derived.Test.YtjgnnobfaphkeaaDoorTie
import Derived.Test.YtjgnnobfaphkeaaDoorMLawMsgGet2
import Derived.Test.YtjgnnobfaphkeaaDoorMLawMsgGet14
import Derived.Test.YtjgnnobfaphkeaaDoorMLawMsgGet15
import Derived.WalkKit
import Derived.ProofKit
import Derived.OpenShut
import Derived.ShutString
import Derived.Carry
import Derived.Deep.DeepHandedRow
import Derived.LaidMore
/- The program's MsgGet returns what the reference's returns, for every text; its answer owns its memory, behind another call too; the argument reads as it did. The package variables that Go's strconv reads hold what the program's text lays (the card ties them). No other condition. -/
namespace Go.Proofs.YtjgnnobfaphkeaaDoor.fnExactMsgGet
open Go.ChangeShapes Go.WideShapes Go.ChangeAt Go.RowKit
open Go.ChangeMaps (open_string shut_string)
set_option linter.unusedVariables false

theorem own : ownKnob Tryd.prog.godebug = none := by kernel_rfl
theorem laidOut : laidOutB Tryd.prog = true := by kernel_rfl
theorem gPowType : (Tryd.prog.globals[0]?).map (·.type) = some 131 := by kernel_rfl
theorem cellsA : Tryd.prog.cellsOf 131 = 20 := by kernel_rfl
theorem cellsE : Tryd.prog.cellsOf 119 = 1 := by kernel_rfl
theorem table {W : World} (h : laidMetH Tryd.prog Rows.fnExactMsgGetRow.laid W) : Tab W := by
  rw [MakeChecks.laidMetH_plain _ _ _ (by kernel_rfl)] at h
  exact Lib.tabIs_of_head (rest := []) gPow gPowType Tryd.underlying131 Tryd.underlying119 cellsE cellsA h.tail.tail

def Answers (w : World) (e : Ending) (w' : World) : Prop := e = .returned (.bool true) ∧ Keep Any w w'
theorem okV_w : ∀ (d : Nat) (v : V), okV d v = true → v.w ≤ 10 ^ d
  | 0, v, h => by simp [okV] at h
  | d + 1, v, h => by
    have hp : 1 ≤ 10 ^ d := Nat.one_le_pow _ _ (by omega)
    rw [V.w_eq, Nat.pow_succ]
    have flat : v.list = [] → V.ws v.list + 1 ≤ 10 ^ d * 10 := fun e => by rw [e, V.ws]; omega
    cases okV_cases h with
    | null => exact flat rfl
    | no => exact flat rfl
    | yes => exact flat rfl
    | num n h0 h1 => exact flat rfl
    | text t h => exact flat rfl
    | node n h => exact flat rfl
    | edge n h => exact flat rfl
    | list l hl hx =>
      have key : ∀ l : List V, (∀ x, x ∈ l → x.w ≤ 10 ^ d) → V.ws l ≤ l.length * 10 ^ d := by
        intro l
        induction l with
        | nil => intro _; simp [V.ws]
        | cons x l ih =>
          intro hx
          have h1 := hx x (List.mem_cons_self ..)
          have h2 := ih fun y hy => hx y (List.mem_cons_of_mem _ hy)
          rw [V.ws, List.length_cons, Nat.add_mul, Nat.one_mul]
          omega
      have h1 := key l fun x hm => okV_w d x (hx x hm)
      have h2 : l.length * 10 ^ d ≤ 6 * 10 ^ d := Nat.mul_le_mul_right _ hl
      show V.ws l + 1 ≤ 10 ^ d * 10
      omega
theorem ces_w : ∀ l : List Ce, (∀ x, x ∈ l → okV 3 x.val = true) → Ce.ws l ≤ l.length * 3001
  | [], _ => by simp [Ce.ws]
  | c :: l, h => by
    have h1 := okV_w 3 c.val (h c (List.mem_cons_self ..))
    have h2 := ces_w l fun x hx => h x (List.mem_cons_of_mem _ hx)
    rw [Ce.ws, Ce.w, List.length_cons, Nat.add_mul, Nat.one_mul]
    omega
/-- what is told: the message, or the zero one -/
def res (o : Option Ms) : Ms × Bool := match o with
  | none => (⟨0, ⟨#[]⟩, [], 0⟩, false)
  | some m => (m, true)
theorem gotM_res {o : Option Ms} {w : World} {e : Ending} {w' : World} (h : GotM o w e w') : ∃ a c, e = .returned (.tuple #[.agg #[.int .i64 (res o).1.kind, .string (res o).1.text, .slice a (res o).1.given.length c, .int .i64 (res o).1.num], .bool (res o).2]) ∧ Keep Any w w' ∧
    SM w' (Mid w.heap.size w'.heap.size) (res o).1 [.int .i64 (res o).1.kind, .string (res o).1.text, .slice a (res o).1.given.length c, .int .i64 (res o).1.num] := by
  obtain ⟨hK, ⟨rfl, rfl⟩ | ⟨m, a, c, rfl, rfl, hS⟩⟩ := h
  · exact ⟨none, 0, rfl, hK, ⟨_, rfl, ⟨by decide, by decide⟩, ⟨by decide, by decide⟩, fits_nil, SSl.nil⟩⟩
  · exact ⟨a, c, rfl, hK, hS⟩
theorem res_w {l : List UInt8} : Ce.ws (res (msgGet l)).1.given ≤ 1000000 := by
  rcases h : msgGet l with _ | m
  · simp [res, Ce.ws]
  · have hm := (msgGet_sound h).1
    obtain ⟨_, _, _, _, _, h6, h7⟩ := okM_facts hm
    have := ces_w m.given fun x hx => (h7 x hx).2
    simp only [res]
    omega
theorem cells4 {w : World} {g : Nat} {T : TypeId} {a b c d : Value} (h : w.heap[g]? = some (.cells #[a, b, c, d] T (0, 0))) : w.cell? ⟨g, 0, none⟩ = some a ∧ w.cell? ⟨g, 1, none⟩ = some b ∧ w.cell? ⟨g, 2, none⟩ = some c ∧ w.cell? ⟨g, 3, none⟩ = some d :=
  ⟨(blk_cell h 0).trans rfl, (blk_cell h 1).trans rfl, (blk_cell h 2).trans rfl, (blk_cell h 3).trans rfl⟩
set_option maxHeartbeats 4000000 in
theorem walk (a0 : ByteArray) (w : World) (ht : Tab w) : Calls Tryd.prog 6 #[.string a0] w (Answers w) := by
  have HT := Lib.hid ht
  clear ht
  by_cases h : 1048576 < a0.size
  · go_enter Tryd.func6, Tryd.ntmps6
    go_wp2
    go_ret
    exact ⟨rfl, Keep.refl _ _⟩
  · have SM1 := Lib.hid (fun w => by have := specMsgGet_calls a0 w (by omega); rw [smsgGet_eq] at this; exact this.mono fun e w' h => gotM_res h)
    have IM1 := Lib.hid (fun w hT => (implMsgGet_calls a0 w (by omega) hT).mono fun e w' h => gotM_res h)
    have hw := res_w (l := a0.data.toList)
    obtain ⟨m, hm⟩ : ∃ m, (res (msgGet a0.data.toList)).1 = m := ⟨_, rfl⟩
    obtain ⟨b, hb⟩ : ∃ b, (res (msgGet a0.data.toList)).2 = b := ⟨_, rfl⟩
    simp only [hm, hb] at SM1 IM1 hw
    clear hm hb
    have bb : (b != b) = false := by simp
    have EQ := Lib.hid (eqMsg_calls m)
    obtain ⟨q, hq⟩ : ∃ q, 1 + Ce.ws m.given = q := ⟨_, rfl⟩
    have hq1 : 1 ≤ q := by omega
    have hq2 : q ≤ 1000001 := by omega
    have qq : ((q : Int) != (q : Int)) = false := by simp
    have MK := Lib.hid (fun a c w ok hs hok => by have := markMsg_calls m a c 1 1 w ok rfl hs hok (by omega) (by omega); rw [hq] at this; exact this)
    have HD := Lib.hid (fun a c w hs => by have := heldMsg_calls m a c 1 1 w rfl hs (by omega) (by omega); rw [hq] at this; exact this)
    clear hw hq
    go_enter Tryd.func6, Tryd.ntmps6
    go_wp2_with fail
    refine (SM1.out _).mono ?_
    rintro e w1 ⟨a1, c1, rfl, hK1, hS1⟩
    have K1 := Lib.hid hK1
    have S1 := Lib.hid hS1
    clear hK1 hS1
    go_wp2_with fail
    refine (IM1.out _ (HT.out.keep (K1.out.alloc _) trivial)).mono ?_
    rintro e w2 ⟨a2, c2, rfl, hK2, hS2⟩
    have K2 := Lib.hid ((K1.out.alloc _).trans hK2)
    have K12 := Lib.hid (((Keep.refl Any w1).alloc _).trans hK2)
    have HB2 := Lib.hid (blk_keep hK2 (blk_new _ _) trivial)
    obtain ⟨x0, x1, x2, x3⟩ := cells4 HB2.out
    have zx := blk_lt HB2.out
    have S2 := Lib.hid hS2
    have Z2 := Lib.hid hK2.size
    clear hK2 hS2
    go_wp2_with fail
    refine (EQ.out _ _ _ ((S2.out.keep ((Keep.refl _ _).alloc _)).mr) ((S1.out.keep ((K12.out.alloc _).any)).mr)).mono ?_
    rintro e w3 ⟨rfl, hK3⟩
    have K3 := Lib.hid ((K2.out.alloc _).trans hK3)
    have K13 := Lib.hid ((K12.out.alloc _).trans hK3)
    have K23 := Lib.hid (((Keep.refl Any w2).alloc _).trans hK3)
    have HB3 := Lib.hid (blk_keep hK3 (blk_alloc HB2.out _) trivial)
    have HG3 := Lib.hid (blk_keep hK3 (blk_new _ _) trivial)
    clear hK3 x0 x1 x2 x3 zx
    obtain ⟨y0, y1, y2, y3⟩ := cells4 HG3.out
    have zy := blk_lt HG3.out
    obtain ⟨OK2, hOK⟩ : ∃ OK2 : Nat → Prop, OK2 = Mid (w1.alloc (.cells #[.int .i64 m.kind, .string m.text, .slice a1 m.given.length c1, .int .i64 m.num] 43)).heap.size w2.heap.size := ⟨_, rfl⟩
    have HOK := Lib.hid (show ∀ k, OK2 k → w1.heap.size + 1 ≤ k ∧ k < w2.heap.size from fun k hk => by rw [hOK] at hk; have h1 := hk.1; rw [World.size_alloc] at h1; exact ⟨h1, hk.2⟩)
    have SC2 := Lib.hid (show SCes w2 OK2 (.slice a2 m.given.length c2) m.given from by
      obtain ⟨s, hc, _, _, _, hs⟩ := S2.out
      simp only [List.cons.injEq, and_true, true_and] at hc
      rw [hOK, hc]; exact hs)
    clear hOK
    go_wp2_with fail
    refine (MK.out _ _ _ OK2 (SCes.keep SC2.out (K23.out.any)) (fun i hi => by have h1 := (HOK.out i hi).2; have h2 := K23.out.size; omega)).mono ?_
    rintro e w4 ⟨rfl, hS4, hK4⟩
    have S4 := Lib.hid hS4
    have zw := K1.out.size
    have KL4 := Lib.hid (show Keep (fun k => k < w.heap.size) w w4 from K3.out.any.trans (hK4.mono fun k _ hk h => by have h1 := (HOK.out k h).1; have hk : k < w.heap.size := hk; omega))
    have K14 := Lib.hid (show Keep (Mid w.heap.size w1.heap.size) w1 w4 from K13.out.any.trans (hK4.mono fun k _ hk h => by have h1 := (HOK.out k h).1; have hk := hk.2; omega))
    have HB4 := Lib.hid (blk_keep hK4 HB3.out (fun h => by have h1 := (HOK.out _ h).1; omega))
    have HG4 := Lib.hid (blk_keep hK4 HG3.out (fun h => by have h1 := (HOK.out _ h).2; omega))
    clear hS4 hK4 y0 y1 y2 y3 zy
    obtain ⟨y0, y1, y2, y3⟩ := cells4 HG4.out
    have zy := blk_lt HG4.out
    go_wp2_with fail
    refine (HD.out _ _ _ (Ces.mono S4.out.ces fun _ _ _ => trivial)).mono ?_
    rintro e w5 ⟨rfl, hK5⟩
    have KL5 := Lib.hid (KL4.out.trans hK5.any)
    have K15 := Lib.hid (K14.out.trans hK5.any)
    have HB5 := Lib.hid (blk_keep hK5 HB4.out trivial)
    have HG5 := Lib.hid (blk_keep hK5 HG4.out trivial)
    have S5 := Lib.hid (SCes.keep S4.out hK5.any)
    clear hK5 y0 y1 y2 y3 zy
    go_wp2_with fail
    refine (IM1.out _ (HT.out.keep KL5.out HT.out.lt)).mono ?_
    rintro e w6 ⟨a3, c3, rfl, hK6, hS6⟩
    have KL6 := Lib.hid (KL5.out.trans hK6.any)
    have K16 := Lib.hid (K15.out.trans hK6.any)
    have HB6 := Lib.hid (blk_keep hK6 HB5.out trivial)
    have HG6 := Lib.hid (blk_keep hK6 HG5.out trivial)
    have S6 := Lib.hid (SCes.keep S5.out hK6.any)
    have T6 := Lib.hid hS6
    clear hK6 hS6
    obtain ⟨x0, x1, x2, x3⟩ := cells4 HB6.out
    have zx := blk_lt HB6.out
    go_wp2_with fail
    refine (EQ.out _ _ _ ((T6.out.keep ((Keep.refl _ _).alloc _)).mr) ((S1.out.keep (K16.out.alloc _)).mr)).mono ?_
    rintro e w7 ⟨rfl, hK7⟩
    have KL7 := Lib.hid ((KL6.out.alloc _).trans hK7.any)
    have HG7 := Lib.hid (blk_keep hK7 (blk_alloc HG6.out _) trivial)
    have S7 := Lib.hid (SCes.keep S6.out (((Keep.refl Any w6).alloc _).trans hK7).any)
    clear hK7 x0 x1 x2 x3 zx
    obtain ⟨y0, y1, y2, y3⟩ := cells4 HG7.out
    have zy := blk_lt HG7.out
    go_wp2_with fail
    refine (HD.out _ _ _ (Ces.mono S7.out.ces fun _ _ _ => trivial)).mono ?_
    rintro e w8 ⟨rfl, hK8⟩
    have KL8 := Lib.hid (KL7.out.trans hK8.any)
    clear hK8 y0 y1 y2 y3 zy
    go_wp2
    go_ret
    exact ⟨rfl, KL8.out.mono fun k hk _ => hk⟩

set_option maxRecDepth 100000 in
theorem contract (H : Type) (enc : TypeId × Value → H) (W : World) (base : Nat) (args : Array Value) (ds gs : List (DataW H)) (before : List MemPlace)
    (hval : ∀ (j : Nat) t v, Tryd.f6.params[j]? = some t → args[j]? = some v → Value.okWide Tryd.prog W .any base t v)
    (hW : DataW.Whole enc Tryd.prog Tryd.f6.params.toList Rows.fnExactMsgGetSpec.vars false W args.toList ds gs before) (hL : laidMetH Tryd.prog Rows.fnExactMsgGetRow.laid W) :
    Calls Tryd.prog 6 args W fun e W' => ∃ v, e = .returned v ∧ Rows.fnExactMsgGetSpec.post enc Tryd.prog Tryd.f6 false true false false W args v W' := by
  have hW' := hW
  obtain ⟨p, q, hA0, hV, rfl, hfz, hnd⟩ := hW
  have hA : DataW.TrodAll enc Tryd.prog W 0 (fun _ => true) true Tryd.f6.params.toList args.toList ds p := hA0
  rw [Tryd.params6] at hA hval
  obtain ⟨v0, vs0, d0, ds0, p0, q0, hargs, rfl, rfl, h0, r0⟩ := trodAll_cons hA
  obtain ⟨rfl, rfl, rfl⟩ := trodAll_nil r0
  obtain rfl : args = #[v0] := by cases args; simp_all
  obtain ⟨rfl, rfl⟩ := trodVars_none hV
  have k0 := h0
  have lt0 : ∀ x ∈ p0, x.block < W.heap.size := by obtain ⟨m, hm⟩ := k0; exact DataW.trod_lt m _ _ _ hm
  obtain ⟨a0, rfl, rfl, rfl, w0⟩ := open_string Tryd.underlying9 (hval 0 9 v0 rfl rfl) h0
  clear hA0
  simp only [List.append_nil] at hW'
  refine (walk a0 W (table hL)).mono fun e W' ⟨he, hg⟩ => ?_
  subst he
  exact ⟨_, rfl, _, _, _, [], _, [], hW', trodAll_mk1 (shut_bool Tryd.underlying4 _), trodAll_cons_mk (Below.trod laidOut (by kernel_rfl) (of_decide_eq_true (by kernel_rfl)) k0 hg.below lt0) trodAll_mk0, rfl, hg.below.frame _, fun h => by cases h⟩

set_option maxRecDepth 100000 in
theorem laid_met (os : Os) : laidMet Tryd.prog Rows.fnExactMsgGetRow.laid ((World.doorLaid Tryd.prog 24 os).forCall (fun _ _ => 0) ⟨#[], #[.string ByteArray.empty], []⟩).memory :=
  laidMet_of_run' 8 (by kernel_rfl) (by kernel_rfl)
theorem reads (os : Os) {H : Type} (enc : TypeId × Value → H) : ∃ places, DataW.whole enc Tryd.prog ((World.doorLaid Tryd.prog 24 os).forCall (fun _ _ => 0) ⟨#[], #[.string ByteArray.empty], []⟩).memory Tryd.f6.params.toList Rows.fnExactMsgGetSpec.vars false #[Value.string ByteArray.empty].toList 8 = some ([.lit (.string [])], [], places) :=
  ⟨[], by kernel_rfl⟩
set_option maxRecDepth 100000 in
theorem lifted (os : Os) (started : os.Started) (H : Type) (enc : TypeId × Value → H) (F : Stop.Interp) :
    ReturnsInHanded {} Tryd.checked os 6 .any ((OpenSpec.ofChange Rows.fnExactMsgGetSpec).preRow enc Tryd.prog Tryd.f6 Rows.fnExactMsgGetRow.domain false Rows.fnExactMsgGetRow.laid) (((OpenSpec.ofChange Rows.fnExactMsgGetSpec).at F).post enc Tryd.prog Tryd.f6 false true false false) := by
  obtain ⟨places, hx⟩ := reads os enc
  refine returnsInHanded_of_row (C := Tryd.checked) (s := OpenSpec.ofChange Rows.fnExactMsgGetSpec) own started (by kernel_rfl) Tryd.func6
    (witness_row_at (enc := enc) (C := Tryd.checked) false (World.doorLaid Tryd.prog 24 os) #[.string ByteArray.empty] rfl (by kernel_rfl) (by kernel_rfl) (by kernel_rfl)
      (OpenSpec.preRow_of_cond 8 hx (by kernel_rfl) (fun k hk => by cases hk) (by kernel_rfl) (laid_met os))) ?_
  intro W base args ds gs before hval hW _ _ _ hL _ _
  exact contract H enc W base args ds gs before hval hW hL
theorem said : Rows.FnExactMsgGetSaid :=
  OpenClaim.holds_of_cond 6 Tryd.f6 rfl rfl rfl rfl rfl rfl rfl ⟨rfl, rfl, rfl, rfl, rfl⟩ rfl rfl rfl rfl rfl (by kernel_rfl) Tryd.func6 (by kernel_rfl)
    (of_decide_eq_true (by kernel_rfl)) (by unfold Func.isWrapper; first | (rw [if_pos (by decide +kernel)]; kernel_rfl) | (rw [if_neg (by decide +kernel)]; exact ⟨rfl, rfl⟩))
    (fun os started H enc _ F => by rw [OpenClaim.pre_eq_preRow]; exact lifted os started H enc F)
theorem plain (f : FuncId) (fn : Func) (hf : Tryd.pinned.checked.prog.funcNamed "loop.example/ashlar/laws.FnExactMsgGet" = some f) (hfn : Tryd.pinned.checked.prog.funcs[f]? = some fn) :
    false = Tryd.pinned.checked.prog.looks [] ∧ ∀ (j : Nat) t, fn.params[j]? = some t → Tryd.pinned.checked.prog.wantsStandIn t = false := by
  obtain rfl : f = 6 := Option.some.inj ((show Tryd.prog.funcNamed "loop.example/ashlar/laws.FnExactMsgGet" = some 6 by kernel_rfl).symm.trans hf) |>.symm
  obtain rfl : fn = Tryd.f6 := (Option.some.inj (Tryd.func6.symm.trans hfn)).symm
  refine ⟨by kernel_rfl, fun j t ht => ?_⟩
  rw [Tryd.params6] at ht
  obtain rfl : t = 9 := by simpa using Array.mem_of_getElem? ht
  exact (show Tryd.prog.wantsStandIn 9 = false by kernel_rfl)
theorem card : Rows.FnExactMsgGetCardSaid :=
  Claim7.holds_tied_plain_at .later [] _ _ _ _ said (fun _ h => by cases h) (by kernel_rfl) (fun _ h => by cases h) fnExactMsgGet_row_tie rfl ⟨rfl, rfl⟩ (by kernel_rfl) rfl plain (by kernel_rfl)
#print axioms card
end Go.Proofs.YtjgnnobfaphkeaaDoor.fnExactMsgGet

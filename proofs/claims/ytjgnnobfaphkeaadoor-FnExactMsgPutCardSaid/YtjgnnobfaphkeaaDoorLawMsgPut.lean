/- The program's MsgPut returns what the reference's returns, for every message; the argument reads as it did. The package variables that Go's strconv reads hold what the program's text lays (the card ties them). No other condition. -/
import Derived.Test.YtjgnnobfaphkeaaDoorCards
import Derived.Test.YtjgnnobfaphkeaaDoorTie
import Derived.Test.YtjgnnobfaphkeaaDoorMsgFam
import Derived.Test.YtjgnnobfaphkeaaDoorMsgPut
import Derived.Test.YtjgnnobfaphkeaaDoorSpecMsgPut
import Derived.Test.YtjgnnobfaphkeaaDoorOpenMsg
import Derived.WalkKit
import Derived.ProofKit
import Derived.OpenShut
import Derived.ShutString
import Derived.Carry
import Derived.Deep.DeepHandedRow
import Derived.LaidMore
namespace Go.Proofs.YtjgnnobfaphkeaaDoor.fnExactMsgPut
open Go.ChangeShapes Go.WideShapes Go.ChangeAt Go.RowKit
set_option linter.unusedVariables false
set_option linter.unusedSimpArgs false

theorem own : ownKnob Tryd.prog.godebug = none := by kernel_rfl
theorem laidOut : laidOutB Tryd.prog = true := by kernel_rfl
theorem gPowType : (Tryd.prog.globals[0]?).map (·.type) = some 131 := by kernel_rfl
theorem cellsA : Tryd.prog.cellsOf 131 = 20 := by kernel_rfl
theorem cellsE : Tryd.prog.cellsOf 119 = 1 := by kernel_rfl
theorem table {W : World} (h : laidMetH Tryd.prog Rows.fnExactMsgPutRow.laid W) : Tab W := by
  rw [MakeChecks.laidMetH_plain _ _ _ (by kernel_rfl)] at h
  exact Lib.tabIs_of_head (rest := []) gPow gPowType Tryd.underlying131 Tryd.underlying119 cellsE cellsA h.tail.tail

def Answers (w : World) (e : Ending) (w' : World) : Prop := e = .returned (.bool true) ∧ Keep Any w w'
theorem any_of {ok : Nat → Prop} {w : World} {r : Ms} {cs : List Value} (h : MR w ok r cs) : MR w Any r cs := h.mono fun _ _ _ => trivial
theorem cells4 {w : World} {g : Nat} {T : TypeId} {a b c d : Value} (h : w.heap[g]? = some (.cells #[a, b, c, d] T (0, 0))) : w.cell? ⟨g, 0, none⟩ = some a ∧ w.cell? ⟨g, 1, none⟩ = some b ∧ w.cell? ⟨g, 2, none⟩ = some c ∧ w.cell? ⟨g, 3, none⟩ = some d :=
  ⟨(blk_cell h 0).trans rfl, (blk_cell h 1).trans rfl, (blk_cell h 2).trans rfl, (blk_cell h 3).trans rfl⟩
set_option maxHeartbeats 1000000 in
theorem walk (r : Ms) (cs : List Value) (w : World) (hr : MR w Any r cs) (ht : Tab w) : Calls Tryd.prog 5 #[.agg cs.toArray] w (Answers w) := by
  have HR := Lib.hid hr
  have HT := Lib.hid ht
  clear ht
  have SZ := Lib.hid (szMsg_calls r cs)
  have TO := Lib.hid (toMsg_calls r cs)
  obtain ⟨s1, rfl, h1, h2, h3, h4⟩ := hr
  obtain ⟨ad, ac, rfl, _⟩ := h4
  clear h3
  by_cases hz : (1048576 : Int) < r.sz
  · have e1 := left_no hz
    have E1 := Lib.hid e1
    clear e1
    go_enter Tryd.func5, Tryd.ntmps5
    go_wp2_with (go_at_call 14; refine (SZ.out _ (HR.out.keep ((Keep.refl _ _).alloc _))).mono ?_; rintro e w2 ⟨rfl, hK⟩; rw [E1.out])
    go_ret
    exact ⟨rfl, ((Keep.refl _ _).alloc _).trans hK⟩
  · have e1 := left_yes (a := 1048576) (n := r.sz) (by omega)
    have E1 := Lib.hid e1
    have hz' : r.sz ≤ 1048576 := by omega
    clear e1
    go_enter Tryd.func5, Tryd.ntmps5
    go_wp2_with fail
    refine (SZ.out _ (HR.out.keep ((Keep.refl _ _).alloc _))).mono ?_
    rintro e w2 ⟨rfl, hK⟩
    rw [E1.out]
    have K2 := Keep.trans ((Keep.refl _ _).alloc _) hK
    have HB2 := Lib.hid (blk_keep hK (blk_new _ _) trivial)
    obtain ⟨x0, x1, x2, x3⟩ := cells4 HB2.out
    clear hK
    go_wp2_with fail
    refine (TO.out _ (HR.out.keep K2) hz').mono ?_
    rintro e w3 ⟨a1, b1, rfl, hR1, hK⟩
    have K3 := K2.trans hK
    have HB3 := Lib.hid (blk_keep hK HB2.out trivial)
    have H1 := Lib.hid (any_of hR1)
    clear hR1 hK x0 x1 x2 x3 K2 HB2
    go_wp2_with fail
    refine (specMsgPut_calls r _ _ H1.out).mono ?_
    rintro e w4 ⟨rfl, hK⟩
    have K4 := K3.trans hK
    have HB4 := Lib.hid (blk_keep hK HB3.out trivial)
    obtain ⟨x0, x1, x2, x3⟩ := cells4 HB4.out
    clear H1 hK K3 HB3
    go_wp2_with fail
    refine (TO.out _ (HR.out.keep K4) hz').mono ?_
    rintro e w5 ⟨a3, b3, rfl, hR1, hK⟩
    have K5 := K4.trans hK
    have HB5 := Lib.hid (blk_keep hK HB4.out trivial)
    have H1 := Lib.hid (any_of hR1)
    clear hR1 hK x0 x1 x2 x3 K4 HB4
    go_wp2_with fail
    refine (implMsgPut_calls r _ _ (H1.out.keep ((Keep.refl _ _).alloc _)) ((HT.out.keep K5 trivial).keep ((Keep.refl Any _).alloc _) trivial)).mono ?_
    rintro e w6 ⟨rfl, hK⟩
    have K6 := (K5.alloc _).trans hK
    have HX6 := Lib.hid (blk_keep hK (blk_new _ _) trivial)
    have HB6 := Lib.hid (blk_keep hK (blk_alloc HB5.out _) trivial)
    have H6 := Lib.hid ((H1.out.keep ((Keep.refl _ _).alloc _)).keep hK)
    obtain ⟨y0, y1, y2, y3⟩ := cells4 HX6.out
    obtain ⟨x0, x1, x2, x3⟩ := cells4 HB6.out
    clear H1 hK K5 HB5
    have za : w.heap.size < w6.heap.size := blk_lt HB6.out
    have zx : w5.heap.size < w6.heap.size := blk_lt HX6.out
    go_wp2_with fail
    go_region_with (first | (go_at_call 16; refine (TO.out _ (HR.out.keep K6.drew) hz').mono ?_; rintro e w7 ⟨a5, b5, rfl, hR1, hK⟩; have H7 := Lib.hid (any_of hR1); obtain ⟨u0, u1, u2, u3⟩ := cells4 (blk_keep hK (show w6.drew.heap[w5.heap.size]? = _ from HX6.out) trivial)) | (go_at_call 18; refine (eqMsg_calls r _ _ _ (H6.out.keep ((Keep.refl _ _).drew.trans hK)) H7.out).mono ?_; rintro e w8 ⟨rfl, hK8⟩))
    all_goals
      go_wp2
      go_ret
      exact ⟨rfl, (K6.drew.trans hK).trans hK8⟩

set_option maxRecDepth 100000 in
theorem contract (H : Type) (enc : TypeId × Value → H) (W : World) (base : Nat) (args : Array Value) (ds gs : List (DataW H)) (before : List MemPlace)
    (hval : ∀ (j : Nat) t v, Tryd.f5.params[j]? = some t → args[j]? = some v → Value.okWide Tryd.prog W .any base t v)
    (hW : DataW.Whole enc Tryd.prog Tryd.f5.params.toList Rows.fnExactMsgPutSpec.vars false W args.toList ds gs before) (hL : laidMetH Tryd.prog Rows.fnExactMsgPutRow.laid W) :
    Calls Tryd.prog 5 args W fun e W' => ∃ v, e = .returned v ∧ Rows.fnExactMsgPutSpec.post enc Tryd.prog Tryd.f5 false true false false W args v W' := by
  have hW' := hW
  obtain ⟨p, q, hA0, hV, rfl, hfz, hnd⟩ := hW
  have hA : DataW.TrodAll enc Tryd.prog W 0 (fun _ => true) true Tryd.f5.params.toList args.toList ds p := hA0
  rw [Tryd.params5] at hA hval
  obtain ⟨v0, vs0, d0, ds0, p0, q0, hargs, rfl, rfl, h0, r0⟩ := trodAll_cons hA
  obtain ⟨rfl, rfl, rfl⟩ := trodAll_nil r0
  obtain rfl : args = #[v0] := by cases args; simp_all
  obtain ⟨rfl, rfl⟩ := trodVars_none hV
  have k0 := h0
  have lt0 : ∀ x ∈ p0, x.block < W.heap.size := by obtain ⟨m, hm⟩ := k0; exact DataW.trod_lt m _ _ _ hm
  have hv0 := hval 0 38 v0 rfl rfl
  obtain ⟨cs, rfl⟩ : ∃ cs : List Value, v0 = .agg cs.toArray := open_agg Tryd.underlying38 hv0
  obtain ⟨r, hr⟩ : ∃ (r : Ms), MR W Any r cs := by obtain ⟨m, hm⟩ := k0; exact open_msg hm
  clear hA0
  simp only [List.append_nil] at hW'
  refine (walk r cs W hr (table hL)).mono fun e W' ⟨he, hg⟩ => ?_
  subst he
  exact ⟨_, rfl, _, _, _, [], _, [], hW', trodAll_mk1 (shut_bool Tryd.underlying4 _), trodAll_cons_mk (Below.trod laidOut (by kernel_rfl) (of_decide_eq_true (by kernel_rfl)) k0 hg.below lt0) trodAll_mk0, rfl, hg.below.frame _, fun h => by cases h⟩

set_option maxRecDepth 100000 in
theorem laid_met (os : Os) : laidMet Tryd.prog Rows.fnExactMsgPutRow.laid ((World.doorLaid Tryd.prog 24 os).forCall (fun _ _ => 0) ⟨#[], #[.agg #[.int .i64 0, .string ByteArray.empty, .slice none 0 0, .int .i64 0]], []⟩).memory :=
  laidMet_of_run' 8 (by kernel_rfl) (by kernel_rfl)
theorem reads (os : Os) {H : Type} (enc : TypeId × Value → H) : ∃ places, DataW.whole enc Tryd.prog ((World.doorLaid Tryd.prog 24 os).forCall (fun _ _ => 0) ⟨#[], #[.agg #[.int .i64 0, .string ByteArray.empty, .slice none 0 0, .int .i64 0]], []⟩).memory Tryd.f5.params.toList Rows.fnExactMsgPutSpec.vars false #[(.agg #[.int .i64 0, .string ByteArray.empty, .slice none 0 0, .int .i64 0] : Value)].toList 8 = some ([.agg [.lit (.int .i64 0), .lit (.string []), .nil, .lit (.int .i64 0)]], [], places) :=
  ⟨[], by kernel_rfl⟩
set_option maxRecDepth 100000 in
theorem lifted (os : Os) (started : os.Started) (H : Type) (enc : TypeId × Value → H) (F : Stop.Interp) :
    ReturnsInHanded {} Tryd.checked os 5 .any ((OpenSpec.ofChange Rows.fnExactMsgPutSpec).preRow enc Tryd.prog Tryd.f5 Rows.fnExactMsgPutRow.domain false Rows.fnExactMsgPutRow.laid) (((OpenSpec.ofChange Rows.fnExactMsgPutSpec).at F).post enc Tryd.prog Tryd.f5 false true false false) := by
  obtain ⟨places, hx⟩ := reads os enc
  refine returnsInHanded_of_row (C := Tryd.checked) (s := OpenSpec.ofChange Rows.fnExactMsgPutSpec) own started (by kernel_rfl) Tryd.func5
    (witness_row_at (enc := enc) (C := Tryd.checked) false (World.doorLaid Tryd.prog 24 os) #[.agg #[.int .i64 0, .string ByteArray.empty, .slice none 0 0, .int .i64 0]] rfl (by kernel_rfl) (by kernel_rfl) (by kernel_rfl)
      (OpenSpec.preRow_of_cond 8 hx (by kernel_rfl) (fun k hk => by cases hk) (by kernel_rfl) (laid_met os))) ?_
  intro W base args ds gs before hval hW _ _ _ hL _ _
  exact contract H enc W base args ds gs before hval hW hL
theorem said : Rows.FnExactMsgPutSaid :=
  OpenClaim.holds_of_cond 5 Tryd.f5 rfl rfl rfl rfl rfl rfl rfl ⟨rfl, rfl, rfl, rfl, rfl⟩ rfl rfl rfl rfl rfl (by kernel_rfl) Tryd.func5 (by kernel_rfl)
    (of_decide_eq_true (by kernel_rfl)) (by unfold Func.isWrapper; first | (rw [if_pos (by decide +kernel)]; kernel_rfl) | (rw [if_neg (by decide +kernel)]; exact ⟨rfl, rfl⟩))
    (fun os started H enc _ F => by rw [OpenClaim.pre_eq_preRow]; exact lifted os started H enc F)
theorem plain (f : FuncId) (fn : Func) (hf : Tryd.pinned.checked.prog.funcNamed "loop.example/ashlar/laws.FnExactMsgPut" = some f) (hfn : Tryd.pinned.checked.prog.funcs[f]? = some fn) :
    false = Tryd.pinned.checked.prog.looks [] ∧ ∀ (j : Nat) t, fn.params[j]? = some t → Tryd.pinned.checked.prog.wantsStandIn t = false := by
  obtain rfl : f = 5 := Option.some.inj ((show Tryd.prog.funcNamed "loop.example/ashlar/laws.FnExactMsgPut" = some 5 by kernel_rfl).symm.trans hf) |>.symm
  obtain rfl : fn = Tryd.f5 := (Option.some.inj (Tryd.func5.symm.trans hfn)).symm
  refine ⟨by kernel_rfl, fun j t ht => ?_⟩
  rw [Tryd.params5] at ht
  obtain rfl : t = 38 := by simpa using Array.mem_of_getElem? ht
  exact (show Tryd.prog.wantsStandIn 38 = false by kernel_rfl)
theorem card : Rows.FnExactMsgPutCardSaid :=
  Claim7.holds_tied_plain_at .later [] _ _ _ _ said (fun _ h => by cases h) (by kernel_rfl) (fun _ h => by cases h) fnExactMsgPut_row_tie rfl ⟨rfl, rfl⟩ (by kernel_rfl) rfl plain (by kernel_rfl)
#print axioms card
end Go.Proofs.YtjgnnobfaphkeaaDoor.fnExactMsgPut

/- The program's ReplyGet returns what the reference's returns, for every text; its answer owns its memory, behind another call too; the argument reads as it did. The package variables that Go's strconv reads hold what the program's text lays (the card ties them). No other condition. -/
import Derived.Test.YtlmonnhgjnjniaaDoorCards
import Derived.Test.YtlmonnhgjnjniaaDoorTie
import Derived.Test.YtlmonnhgjnjniaaDoorMLawReplyGet0
import Derived.Test.YtlmonnhgjnjniaaDoorMLawReplyGet10
import Derived.Test.YtlmonnhgjnjniaaDoorMLawReplyGet11
import Derived.WalkKit
import Derived.ProofKit
import Derived.OpenShut
import Derived.ShutString
import Derived.Carry
import Derived.Deep.DeepHandedRow
import Derived.LaidMore
import Derived.Lay
/- The program's ReplyGet returns what the reference's returns, for every text; its answer owns its memory, behind another call too; the argument reads as it did. The package variables that Go's strconv reads hold what the program's text lays (the card ties them). No other condition. -/
namespace Go.Proofs.YtlmonnhgjnjniaaDoor.fnExactReplyGet
open Go.ChangeShapes Go.WideShapes Go.ChangeAt Go.RowKit
open Go.ChangeMaps (open_string shut_string)
set_option linter.unusedVariables false

theorem own : ownKnob Tryd.prog.godebug = none := by kernel_rfl
theorem laidOut : laidOutB Tryd.prog = true := by kernel_rfl
theorem gPowType : (Tryd.prog.globals[1]?).map (·.type) = some 112 := by kernel_rfl
theorem cellsA : Tryd.prog.cellsOf 112 = 20 := by kernel_rfl
theorem cellsE : Tryd.prog.cellsOf 100 = 1 := by kernel_rfl
theorem table {W : World} (h : laidMetH Tryd.prog Rows.fnExactReplyGetRow.laid W) : Tab W := by
  rw [MakeChecks.laidMetH_plain _ _ _ (by kernel_rfl)] at h
  exact Lib.tabIs_of_head (rest := _) gPow gPowType Tryd.underlying112 Tryd.underlying100 cellsE cellsA h.tail.tail

def Answers (w : World) (e : Ending) (w' : World) : Prop := e = .returned (.bool true) ∧ Keep Any w w'
theorem okV_w : ∀ (d : Nat) (v : V), okV d v = true → v.w ≤ 10 ^ d
  | 0, v, h => by simp [okV] at h
  | d + 1, v, h => by
    have hp : 1 ≤ 10 ^ d := Nat.one_le_pow _ _ (by omega)
    rw [V.w_eq, Nat.pow_succ]
    have flat : v.list = [] → V.ws v.list + 1 ≤ 10 ^ d * 10 := fun e => by rw [e, V.ws]; omega
    cases okV_cases h with
    | null => exact flat rfl
    | no => exact flat rfl
    | yes => exact flat rfl
    | num n h0 h1 => exact flat rfl
    | text t h => exact flat rfl
    | node n h => exact flat rfl
    | edge n h => exact flat rfl
    | list l hl hx =>
      have key : ∀ l : List V, (∀ x, x ∈ l → x.w ≤ 10 ^ d) → V.ws l ≤ l.length * 10 ^ d := by
        intro l
        induction l with
        | nil => intro _; simp [V.ws]
        | cons x l ih =>
          intro hx
          have h1 := hx x (List.mem_cons_self ..)
          have h2 := ih fun y hy => hx y (List.mem_cons_of_mem _ hy)
          rw [V.ws, List.length_cons, Nat.add_mul, Nat.one_mul]
          omega
      have h1 := key l fun x hm => okV_w d x (hx x hm)
      have h2 : l.length * 10 ^ d ≤ 6 * 10 ^ d := Nat.mul_le_mul_right _ hl
      show V.ws l + 1 ≤ 10 ^ d * 10
      omega
theorem vs_w : ∀ l : List V, (∀ x, x ∈ l → okV 3 x = true) → V.ws l ≤ l.length * 1000
  | [], _ => by simp [V.ws]
  | x :: l, h => by
    have h1 := okV_w 3 x (h x (List.mem_cons_self ..))
    have h2 := vs_w l fun y hy => h y (List.mem_cons_of_mem _ hy)
    rw [V.ws, List.length_cons, Nat.add_mul, Nat.one_mul]
    omega
/-- what is told: the reply, or the zero one -/
def res (o : Option Rp) : Rp × Bool := match o with
  | none => (⟨0, [], [], 0, false⟩, false)
  | some r => (r, true)
theorem gotRp_res {o : Option Rp} {w : World} {e : Ending} {w' : World} (h : GotRp o w e w') : ∃ a c a2 c2, e = .returned (.tuple #[.agg #[.int .i64 (res o).1.kind, .slice a (res o).1.names.length c, .slice a2 (res o).1.row.length c2, .int .i64 (res o).1.code, .bool (res o).1.more], .bool (res o).2]) ∧ Keep Any w w' ∧
    SRp w' (Mid w.heap.size w'.heap.size) (res o).1 [.int .i64 (res o).1.kind, .slice a (res o).1.names.length c, .slice a2 (res o).1.row.length c2, .int .i64 (res o).1.code, .bool (res o).1.more] := by
  obtain ⟨hK, ⟨rfl, rfl⟩ | ⟨r, a, c, a2, c2, rfl, rfl, hS⟩⟩ := h
  · exact ⟨none, 0, none, 0, rfl, hK, SRp.names ⟨by decide, by decide⟩ ⟨by decide, by decide⟩ rfl SSl.nil⟩
  · exact ⟨a, c, a2, c2, rfl, hK, hS⟩
theorem res_w {l : List UInt8} : (res (replyGet l)).1.names.length + 3 * V.ws (res (replyGet l)).1.row ≤ 100000 := by
  rcases h : replyGet l with _ | r
  · simp [res, V.ws]
  · have hf := (replyGet_iff.1 h).1
    simp only [res]
    cases fineS hf with
    | ok l m hl hx => simp [V.ws]; omega
    | row l hl hx =>
      have := vs_w l hx
      simp; omega
    | fail n h0 h1 => simp [V.ws]
    | past => simp [V.ws]
theorem maxLen_of {W : World} (h : W.ShapedOpen Tryd.prog) : ML W := Tryd.laysM146.s1_3 W h
set_option maxHeartbeats 4000000 in
theorem walk (a0 : ByteArray) (w : World) (ht : Tab w) (hm : ML w) : Calls Tryd.prog 3 #[.string a0] w (Answers w) := by
  have HT := Lib.hid ht
  have HM := Lib.hid hm
  have LM := Lib.hid (show 0 < w.heap.size by obtain ⟨m, hm⟩ := hm; exact World.block_lt_of_cell? w _ hm)
  clear ht hm
  by_cases h : 1048576 < a0.size
  · go_enter Tryd.func3, Tryd.ntmps3
    go_wp2
    go_ret
    exact ⟨rfl, Keep.refl _ _⟩
  · have SM1 := Lib.hid (fun w => by have := specReplyGet_calls a0 w (by omega); rw [← replyGet_spec] at this; exact this.mono fun e w' h => gotRp_res h)
    have IM1 := Lib.hid (fun w hT hM => (implReplyGet_calls a0 w (by omega) hT hM).mono fun e w' h => gotRp_res h)
    have hw := res_w (l := a0.data.toList)
    obtain ⟨r, hr⟩ : ∃ r, (res (replyGet a0.data.toList)).1 = r := ⟨_, rfl⟩
    obtain ⟨b, hb⟩ : ∃ b, (res (replyGet a0.data.toList)).2 = b := ⟨_, rfl⟩
    simp only [hr, hb] at SM1 IM1 hw
    clear hr hb
    have bb : (b != b) = false := by simp
    have EQ := Lib.hid (eqReply_calls r)
    obtain ⟨q, hq⟩ : ∃ q, 1 + r.names.length + 3 * V.ws r.row = q := ⟨_, rfl⟩
    have hq1 : 1 ≤ q := by omega
    have hq2 : q ≤ 1000001 := by omega
    have qq : ((q : Int) != (q : Int)) = false := by simp
    have MK := Lib.hid (fun s1 s2 w ok1 ok2 h1 h2 hd ho1 ho2 => by have := markReply_calls r s1 s2 1 1 w ok1 ok2 rfl h1 h2 hd ho1 ho2 (by omega) (by omega); rw [hq] at this; exact this)
    have HD := Lib.hid (fun s1 s2 w h1 h2 => by have := heldReply_calls r s1 s2 1 1 w rfl h1 h2 (by omega) (by omega); rw [hq] at this; exact this)
    clear hw hq
    go_enter Tryd.func3, Tryd.ntmps3
    go_wp2_with fail
    refine (SM1.out _).mono ?_
    rintro e w1 ⟨a1, c1, d1, e1, rfl, hK1, hS1⟩
    have K1 := Lib.hid hK1
    have S1 := Lib.hid hS1
    clear hK1 hS1
    go_wp2_with fail
    refine (IM1.out _ (HT.out.keep (K1.out.alloc _) trivial) (HM.out.keep (K1.out.alloc _) trivial)).mono ?_
    rintro e w2 ⟨a2, c2, d2, e2, rfl, hK2, hS2⟩
    have K2 := Lib.hid ((K1.out.alloc _).trans hK2)
    have K12 := Lib.hid (((Keep.refl Any w1).alloc _).trans hK2)
    have HB2 := Lib.hid (blk_keep hK2 (blk_new _ _) trivial)
    obtain ⟨x0, x1, x2, x3, x4⟩ := at5 HB2.out
    have zx := blk_lt HB2.out
    have S2 := Lib.hid hS2
    clear hK2 hS2
    go_wp2_with fail
    refine (EQ.out _ _ _ ((S2.out.keep ((Keep.refl _ _).alloc _)).rr) ((S1.out.keep ((K12.out.alloc _).any)).rr)).mono ?_
    rintro e w3 ⟨rfl, hK3⟩
    have K3 := Lib.hid ((K2.out.alloc _).trans hK3)
    have K13 := Lib.hid ((K12.out.alloc _).trans hK3)
    have K23 := Lib.hid (((Keep.refl Any w2).alloc _).trans hK3)
    have HB3 := Lib.hid (blk_keep hK3 (blk_alloc HB2.out _) trivial)
    have HG3 := Lib.hid (blk_keep hK3 (blk_new _ _) trivial)
    clear hK3 x0 x1 x2 x3 x4 zx
    obtain ⟨y0, y1, y2, y3, y4⟩ := at5 HG3.out
    have zy := blk_lt HG3.out
    obtain ⟨ok1, ok2, s1, s2, hcs, _, _, hs1, hs2, hi1, hi2, hdd⟩ := S2.out
    simp only [List.cons.injEq, and_true, true_and] at hcs
    obtain ⟨rfl, rfl⟩ := hcs
    have HO1 := Lib.hid (show ∀ k, ok1 k → w1.heap.size + 1 ≤ k ∧ k < w2.heap.size from fun k hk => by have h1 := (hi1 k hk).1; rw [World.size_alloc] at h1; exact ⟨h1, (hi1 k hk).2⟩)
    have HO2 := Lib.hid (show ∀ k, ok2 k → w1.heap.size + 1 ≤ k ∧ k < w2.heap.size from fun k hk => by have h1 := (hi2 k hk).1; rw [World.size_alloc] at h1; exact ⟨h1, (hi2 k hk).2⟩)
    have HDD := Lib.hid hdd
    have SN := Lib.hid hs1
    have SR := Lib.hid hs2
    clear hi1 hi2 hdd hs1 hs2
    go_wp2_with fail
    refine (MK.out _ _ _ ok1 ok2 (SStrs.keep SN.out (K23.out.any)) (SVs.keep SR.out (K23.out.any)) HDD.out (fun i hi => by have h1 := (HO1.out i hi).2; have h2 := K23.out.size; omega) (fun i hi => by have h1 := (HO2.out i hi).2; have h2 := K23.out.size; omega)).mono ?_
    rintro e w4 ⟨rfl, hS4, hT4, hK4⟩
    have S4 := Lib.hid hS4
    have T4 := Lib.hid hT4
    have zw := K1.out.size
    have KL4 := Lib.hid (show Keep (fun k => k < w.heap.size) w w4 from K3.out.any.trans (hK4.mono fun k _ hk => ⟨fun h => by have h1 := (HO1.out k h).1; have hk : k < w.heap.size := hk; omega, fun h => by have h1 := (HO2.out k h).1; have hk : k < w.heap.size := hk; omega⟩))
    have K14 := Lib.hid (show Keep (Mid w.heap.size w1.heap.size) w1 w4 from K13.out.any.trans (hK4.mono fun k _ hk => ⟨fun h => by have h1 := (HO1.out k h).1; have hk := hk.2; omega, fun h => by have h1 := (HO2.out k h).1; have hk := hk.2; omega⟩))
    have HB4 := Lib.hid (blk_keep hK4 HB3.out ⟨fun h => by have h1 := (HO1.out _ h).1; omega, fun h => by have h1 := (HO2.out _ h).1; omega⟩)
    have HG4 := Lib.hid (blk_keep hK4 HG3.out ⟨fun h => by have h1 := (HO1.out _ h).2; omega, fun h => by have h1 := (HO2.out _ h).2; omega⟩)
    clear hS4 hT4 hK4 y0 y1 y2 y3 y4 zy
    obtain ⟨y0, y1, y2, y3, y4⟩ := at5 HG4.out
    have zy := blk_lt HG4.out
    go_wp2_with fail
    refine (HD.out _ _ _ (Strs.mono (SStrs.strs S4.out) fun _ _ _ => trivial) (Vals.mono (SVs.vals T4.out) fun _ _ _ => trivial)).mono ?_
    rintro e w5 ⟨rfl, hK5⟩
    have KL5 := Lib.hid (KL4.out.trans hK5.any)
    have K15 := Lib.hid (K14.out.trans hK5.any)
    have HB5 := Lib.hid (blk_keep hK5 HB4.out trivial)
    have HG5 := Lib.hid (blk_keep hK5 HG4.out trivial)
    have S5 := Lib.hid (SStrs.keep S4.out hK5.any)
    have T5 := Lib.hid (SVs.keep T4.out hK5.any)
    clear hK5 y0 y1 y2 y3 y4 zy
    go_wp2_with fail
    refine (IM1.out _ (HT.out.keep KL5.out HT.out.lt) (HM.out.keep KL5.out LM.out)).mono ?_
    rintro e w6 ⟨a3, c3, d3, e3, rfl, hK6, hS6⟩
    have KL6 := Lib.hid (KL5.out.trans hK6.any)
    have K16 := Lib.hid (K15.out.trans hK6.any)
    have HB6 := Lib.hid (blk_keep hK6 HB5.out trivial)
    have HG6 := Lib.hid (blk_keep hK6 HG5.out trivial)
    have S6 := Lib.hid (SStrs.keep S5.out hK6.any)
    have T6 := Lib.hid (SVs.keep T5.out hK6.any)
    have U6 := Lib.hid hS6
    clear hK6 hS6
    obtain ⟨x0, x1, x2, x3, x4⟩ := at5 HB6.out
    have zx := blk_lt HB6.out
    go_wp2_with fail
    refine (EQ.out _ _ _ ((U6.out.keep ((Keep.refl _ _).alloc _)).rr) ((S1.out.keep (K16.out.alloc _)).rr)).mono ?_
    rintro e w7 ⟨rfl, hK7⟩
    have KL7 := Lib.hid ((KL6.out.alloc _).trans hK7.any)
    have HG7 := Lib.hid (blk_keep hK7 (blk_alloc HG6.out _) trivial)
    have S7 := Lib.hid (SStrs.keep S6.out (((Keep.refl Any w6).alloc _).trans hK7).any)
    have T7 := Lib.hid (SVs.keep T6.out (((Keep.refl Any w6).alloc _).trans hK7).any)
    clear hK7 x0 x1 x2 x3 x4 zx
    obtain ⟨y0, y1, y2, y3, y4⟩ := at5 HG7.out
    have zy := blk_lt HG7.out
    go_wp2_with fail
    refine (HD.out _ _ _ (Strs.mono (SStrs.strs S7.out) fun _ _ _ => trivial) (Vals.mono (SVs.vals T7.out) fun _ _ _ => trivial)).mono ?_
    rintro e w8 ⟨rfl, hK8⟩
    have KL8 := Lib.hid (KL7.out.trans hK8.any)
    clear hK8 y0 y1 y2 y3 y4 zy
    go_wp2
    go_ret
    exact ⟨rfl, KL8.out.mono fun k hk _ => hk⟩

set_option maxRecDepth 100000 in
theorem contract (H : Type) (enc : TypeId × Value → H) (W : World) (base : Nat) (args : Array Value) (ds gs : List (DataW H)) (before : List MemPlace)
    (hval : ∀ (j : Nat) t v, Tryd.f3.params[j]? = some t → args[j]? = some v → Value.okWide Tryd.prog W .any base t v)
    (hW : DataW.Whole enc Tryd.prog Tryd.f3.params.toList Rows.fnExactReplyGetSpec.vars false W args.toList ds gs before) (hL : laidMetH Tryd.prog Rows.fnExactReplyGetRow.laid W) (hSh : W.ShapedOpen Tryd.prog) :
    Calls Tryd.prog 3 args W fun e W' => ∃ v, e = .returned v ∧ Rows.fnExactReplyGetSpec.post enc Tryd.prog Tryd.f3 false true false false W args v W' := by
  have hW' := hW
  obtain ⟨p, q, hA0, hV, rfl, hfz, hnd⟩ := hW
  have hA : DataW.TrodAll enc Tryd.prog W 0 (fun _ => true) true Tryd.f3.params.toList args.toList ds p := hA0
  rw [Tryd.params3] at hA hval
  obtain ⟨v0, vs0, d0, ds0, p0, q0, hargs, rfl, rfl, h0, r0⟩ := trodAll_cons hA
  obtain ⟨rfl, rfl, rfl⟩ := trodAll_nil r0
  obtain rfl : args = #[v0] := by cases args; simp_all
  obtain ⟨rfl, rfl⟩ := trodVars_none hV
  have k0 := h0
  have lt0 : ∀ x ∈ p0, x.block < W.heap.size := by obtain ⟨m, hm⟩ := k0; exact DataW.trod_lt m _ _ _ hm
  obtain ⟨a0, rfl, rfl, rfl, w0⟩ := open_string Tryd.underlying9 (hval 0 9 v0 rfl rfl) h0
  clear hA0
  simp only [List.append_nil] at hW'
  refine (walk a0 W (table hL) (maxLen_of hSh)).mono fun e W' ⟨he, hg⟩ => ?_
  subst he
  exact ⟨_, rfl, _, _, _, [], _, [], hW', trodAll_mk1 (shut_bool Tryd.underlying4 _), trodAll_cons_mk (Below.trod laidOut (by kernel_rfl) (of_decide_eq_true (by kernel_rfl)) k0 hg.below lt0) trodAll_mk0, rfl, hg.below.frame _, fun h => by cases h⟩

set_option maxRecDepth 100000 in
theorem laid_met (os : Os) : laidMet Tryd.prog Rows.fnExactReplyGetRow.laid ((World.laidAll Tryd.prog os Rows.fnExactReplyGetRow.laid).forCall (fun _ _ => 0) ⟨#[], #[.string ByteArray.empty], []⟩).memory :=
  laidMet_laidAll _ (by kernel_rfl) (by kernel_rfl)
theorem reads (os : Os) {H : Type} (enc : TypeId × Value → H) : ∃ places, DataW.whole enc Tryd.prog ((World.laidAll Tryd.prog os Rows.fnExactReplyGetRow.laid).forCall (fun _ _ => 0) ⟨#[], #[.string ByteArray.empty], []⟩).memory Tryd.f3.params.toList Rows.fnExactReplyGetSpec.vars false #[Value.string ByteArray.empty].toList 8 = some ([.lit (.string [])], [], places) :=
  ⟨[], by kernel_rfl⟩
set_option maxRecDepth 100000 in
theorem lifted (os : Os) (started : os.Started) (H : Type) (enc : TypeId × Value → H) (F : Stop.Interp) :
    ReturnsInHanded {} Tryd.checked os 3 .any ((OpenSpec.ofChange Rows.fnExactReplyGetSpec).preRow enc Tryd.prog Tryd.f3 Rows.fnExactReplyGetRow.domain false Rows.fnExactReplyGetRow.laid) (((OpenSpec.ofChange Rows.fnExactReplyGetSpec).at F).post enc Tryd.prog Tryd.f3 false true false false) := by
  obtain ⟨places, hx⟩ := reads os enc
  refine returnsInHanded_of_row (C := Tryd.checked) (s := OpenSpec.ofChange Rows.fnExactReplyGetSpec) own started (by kernel_rfl) Tryd.func3
    (witness_row_at (enc := enc) (C := Tryd.checked) false (World.laidAll Tryd.prog os Rows.fnExactReplyGetRow.laid) #[.string ByteArray.empty] (World.laidAll_os _ _ _) (by kernel_rfl) (by kernel_rfl) (by kernel_rfl)
      (OpenSpec.preRow_of_cond 8 hx (by kernel_rfl) (fun k hk => by cases hk) (by kernel_rfl) (laid_met os))) ?_
  intro W base args ds gs before hval hW _ _ _ hL hSh _
  exact contract H enc W base args ds gs before hval hW hL hSh
theorem said : Rows.FnExactReplyGetSaid :=
  OpenClaim.holds_of_cond 3 Tryd.f3 rfl rfl rfl rfl rfl rfl rfl ⟨rfl, rfl, rfl, rfl, rfl⟩ rfl rfl rfl rfl rfl (by kernel_rfl) Tryd.func3 (by kernel_rfl)
    (of_decide_eq_true (by kernel_rfl)) (by unfold Func.isWrapper; first | (rw [if_pos (by decide +kernel)]; kernel_rfl) | (rw [if_neg (by decide +kernel)]; exact ⟨rfl, rfl⟩))
    (fun os started H enc _ F => by rw [OpenClaim.pre_eq_preRow]; exact lifted os started H enc F)
theorem plain (f : FuncId) (fn : Func) (hf : Tryd.pinned.checked.prog.funcNamed "loop.example/ashlar/laws.FnExactReplyGet" = some f) (hfn : Tryd.pinned.checked.prog.funcs[f]? = some fn) :
    false = Tryd.pinned.checked.prog.looks [] ∧ ∀ (j : Nat) t, fn.params[j]? = some t → Tryd.pinned.checked.prog.wantsStandIn t = false := by
  obtain rfl : f = 3 := Option.some.inj ((show Tryd.prog.funcNamed "loop.example/ashlar/laws.FnExactReplyGet" = some 3 by kernel_rfl).symm.trans hf) |>.symm
  obtain rfl : fn = Tryd.f3 := (Option.some.inj (Tryd.func3.symm.trans hfn)).symm
  refine ⟨by kernel_rfl, fun j t ht => ?_⟩
  rw [Tryd.params3] at ht
  obtain rfl : t = 9 := by simpa using Array.mem_of_getElem? ht
  exact (show Tryd.prog.wantsStandIn 9 = false by kernel_rfl)
theorem card : Rows.FnExactReplyGetCardSaid :=
  Claim7.holds_tied_plain_at .later [] _ _ _ _ said (fun _ h => by cases h) (by kernel_rfl) (fun _ h => by cases h) fnExactReplyGet_row_tie rfl ⟨rfl, rfl⟩ (by kernel_rfl) rfl plain (by kernel_rfl)
#print axioms card
end Go.Proofs.YtlmonnhgjnjniaaDoor.fnExactReplyGet

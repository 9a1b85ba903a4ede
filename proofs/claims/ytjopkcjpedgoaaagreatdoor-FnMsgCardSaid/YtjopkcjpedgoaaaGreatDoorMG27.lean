/- Props of a pattern, drawn. -/
import Derived.Test.YtjopkcjpedgoaaaGreatDoorMG26
import Derived.Deep.Light
/- Props of a pattern,drawn. -/
namespace Go.Proofs.YtjopkcjpedgoaaaGreatDoor
open Go.RowKit
set_option linter.unusedVariables false
set_option linter.unusedSimpArgs false
set_option maxRecDepth 20000
set_option maxHeartbeats 4000000
theorem infoPt : (Tryz.prog.info? 199).map (fun i => (i.zero,i.size,i.bytes)) = some (some (.agg #[.string ⟨#[]⟩,.int .i64 0,.int .i64 0,.int .i64 0,.string ⟨#[]⟩,.slice none 0 0,.string ⟨#[]⟩,.string ⟨#[]⟩,.slice none 0 0]),9,136) := by kernel_rfl
theorem pt_up {w : World} {ok ok' : Nat → Prop} {x : Pt} {cs : List Value} (h : PtR w ok x cs) (k : ∀ k,ok k → ok' k) : PtR w ok' x cs := PtR.mono h fun i _ hi => k i hi
def GotPts (c b : Nat) (s : Value) (P : Nat) (w : World) (e : Ending) (w' : World) : Prop :=
  ∃ (l : List Pt) (a : Option Addr) (cp : Nat),l.length ≤ 1 ∧ (∀ x,x ∈ l → WfPt x) ∧ e = .returned (.slice a l.length cp) ∧ Pts w' (Mid w.heap.size w'.heap.size) (.slice a l.length cp) l ∧ RdB b s (P + c) w' ∧ Keep (But b) w w'
theorem l11Pats_calls (ok : Nat → Prop) (g m b : Nat) (s : Value) (n P : Nat) (w : World) (hok : ∀ k,ok k → k ≠ b) (hgb : g ≠ b) (hB : BytO (But b) w s n) (h : RdB b s P w) (hn : n ≤ 2000) (hP : P ≤ 700000) (hN : Nms ok g m w) (hm : m ≤ 900) :
    Calls Tryz.prog 156 #[.pointer (some ⟨b,0,none⟩),.pointer (some ⟨g,0,none⟩)] w (GotPts 110 b s P w) := by
  have zb := h.lt
  obtain ⟨a,cp,l,c,hb,hs,hlm,hsh,hc⟩ := hN
  have hl : l.length ≤ 1000 := by omega
  have zg := blk_lt hb
  have HB := hyd hB
  have SL := hyd hsh
  have RB := hyd (h.keep ((Keep.refl Any w).alloc (.cells #[] 199 (0,0))) trivial)
  have KW := hyd ((Keep.refl (But b) w).alloc (.cells #[] 199 (0,0)))
  have NL := hyd (Strs.keep (Strs.mono hs (fun k _ hk => (show But b k from hok k hk))) KW.out)
  have NG := hyd (blk_alloc hb (.cells #[] 199 (0,0)))
  have BO := hyd (blk_new w (.cells #[] 199 (0,0)))
  clear hB h hs hsh hb
  go_enter Tryz.func156,Tryz.ntmps156
  go_wp2_with (go_at_call 26;(with_reducible_and_instances refine at_args #[_,.int .i64 3] ?_);refine (pickA 3 b s n _ _ (HB.out.keep KW.out) RB.out hn (by omega) (by omega)).mono ?_;rintro e w2 ⟨j,rfl,j0,j1,hRd,hK2⟩;have j2 := j1 (by omega);clear j1;have NL := hyd (Strs.keep NL.out hK2);have BO := hyd (blk_keep hK2 BO.out (show w.heap.size ≠ b by omega));have NG := hyd (blk_keep hK2 NG.out (show g ≠ b by omega));have KW := hyd (KW.out.trans hK2);have hsz := hK2.size;clear hK2;have RB := hyd hRd;clear hRd;have y0 := (blk_cell NG.out 0).trans rfl;have zg2 := blk_lt NG.out;obtain ⟨wq,hwq⟩ : ∃ x,x = w2 := ⟨_,rfl⟩;rw [← hwq] at RB KW NL NG BO y0 zg2 ⊢;clear hwq;obtain ⟨t,ht⟩ : ∃ t,(j == 0) = t := ⟨_,rfl⟩;cases t)
  · go_ret
    exact ⟨[],_,0,by decide,(fun x h => by cases h),rfl,⟨_,0,rfl,Nat.le_refl _,by decide,fun h => absurd rfl h⟩,RB.out.up (by omega),KW.out⟩
  · go_region_law (first | (go_simp;go_at_call 20;(with_reducible_and_instances refine at_args #[_,.slice _ 2 2] ?_);refine (ofL [⟨#[110]⟩,⟨#[110,97,109,101]⟩] _ b s n _ wq.drew _ rfl rfl (HB.out.keep KW.out.drew) (RB.out.keep ((Keep.refl Any _).drew) trivial) hn (by omega) (by decide) (by decide) (by decide)).mono ?_;rintro e w3 ⟨nx,hm2,hnx,rfl,hRd,hK3⟩;clear hm2;have hK2 := ((Keep.refl (But b) wq).drew).trans hK3;clear hK3;have NL := hyd (Strs.keep NL.out hK2);have BO := hyd (blk_keep hK2 BO.out (show w.heap.size ≠ b by omega));have NG := hyd (blk_keep hK2 NG.out (show g ≠ b by omega));have KW := hyd (KW.out.trans hK2);have hsz := hK2.size;clear hK2;have RB := hyd hRd;clear hRd;have y0 := (blk_cell NG.out 0).trans rfl;have zg2 := blk_lt NG.out) | (go_simp;go_at_call 85;refine (exd1 b s n _ w3 l (.slice a l.length cp) (HB.out.keep KW.out) RB.out hn (by omega) NL.out hl SL.out).mono ?_;rintro e w4 ⟨x1,va1,vc1,pa1,pc1,hW1,rfl,hE1,hRd,hK2⟩;have W1 := hyd hW1;clear hW1;have DX := hyd (show PtR w4 (Mid w3.heap.size w4.heap.size) ⟨nx,x1⟩ [.string nx,.int .i64 x1.kind,.int .i64 x1.val.kind,.int .i64 x1.val.num,.string x1.val.text,.slice va1 x1.val.list.length vc1,.string x1.name,.string x1.key,.slice pa1 x1.parts.length pc1] from ⟨_,rfl,fits100 hnx,hE1⟩);clear hE1;have hbo3 := blk_lt BO.out;have NL := hyd (Strs.keep NL.out hK2);have BO := hyd (blk_keep hK2 BO.out (show w.heap.size ≠ b by omega));have NG := hyd (blk_keep hK2 NG.out (show g ≠ b by omega));have KW := hyd (KW.out.trans hK2);have hsz := hK2.size;clear hK2;have RB := hyd hRd;clear hRd;have y0 := (blk_cell NG.out 0).trans rfl;have zg2 := blk_lt NG.out) | (refine step_app_ex _ rfl (.tmp 10) (.tmp 21) 150 rfl (.slice (some ⟨w.heap.size,0,none⟩) 0 0) (.slice (some ⟨w4.heap.size,0,none⟩) 1 1) (by simp [Act.eval,Act.put]) (by simp [Act.eval,Act.put]) (app_row (R := PtR) (fun h k => PtR.keep h k) (fun h k => pt_up h k) 150 199 _ _ 136 Tryz.underlying150 infoPt rfl (by decide) (by decide) w4 (fun k => k = w.heap.size) (.slice (some ⟨w.heap.size,0,none⟩) 0 0) [] (GRow.new rfl BO.out rfl) ⟨nx,x1⟩ _ _ DX.out rfl (by simp [Value.oneCell']) (fun i hi => ⟨fun h => by have := hi.1;have h : i = w.heap.size := h;omega,hi.2⟩) (by decide) 1 rfl) ?_;intro v6 w6 h6;obtain ⟨⟨av,cv,rfl⟩,hG6,hK6,_⟩ := h6;have hK2 := hK6.offRow (GRow.new (R := PtR) (sz := 9) (ok := fun k => k = w.heap.size) rfl BO.out rfl);have G6 := hyd hG6;clear hG6 hK6;have RB := hyd (RB.out.keep hK2 (show ¬ b = w.heap.size by omega));have KW := hyd (KW.out.then hK2 (fun i hi _ => by show ¬ i = w.heap.size;omega));have hsz := hK2.size;clear hK2))
    all_goals
      go_wp2
      go_ret
      exact ⟨[⟨nx,x1⟩],av,cv,Nat.le_refl 1,(fun x h => by rw [List.mem_singleton.1 h];exact ⟨hnx,W1.out.up (by decide)⟩),rfl,GRow.slice (R := PtR) (fun h k => pt_up h k) G6.out (fun i h1 h2 => ⟨by rcases h2 with h | h | h;omega;have := h.1;omega;omega,h1⟩),RB.out.up (by omega),KW.out⟩
end Go.Proofs.YtjopkcjpedgoaaaGreatDoor

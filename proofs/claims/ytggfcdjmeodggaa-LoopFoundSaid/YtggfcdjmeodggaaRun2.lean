/- Contracts of package runner: Step. -/
import Derived.Test.YtggfcdjmeodggaaRun
set_option linter.unusedVariables false
set_option linter.unusedSimpArgs false
namespace Go.Proofs.Ytggfcdjmeodggaa
open Go.RowKit

set_option maxHeartbeats 400000 in
theorem step_stop {p q : Nat} {rv : Value} {cap : Nat} {S : RS} {w : World} (h : RunAt w p q rv cap S) (hs : S.st = -1) :
   Calls Try.prog 47 #[.pointer (some ⟨p, 0, none⟩)] w fun e w' => e = .returned (.bool false) ∧ w = w' := by
  have c4 := h.c4
  rw [hs] at c4
  clear h hs
  go_enter Try.func47, Try.ntmps47
  go_wp2
  go_ret
  exact ⟨rfl, rfl⟩

set_option maxHeartbeats 1000000 in
set_option maxRecDepth 100000 in
theorem step_runs {B p q : Nat} {rv : Value} {cap : Nat} {S : RS} {w : World} (h : RunAt w p q rv cap S) {m : Mach} (hm : m.Ok) {k : Nat} (hI : S.Inv m k) (hk : k < 1048576) (hr : RulesRd B w rv m.rules) (hp : B ≤ p) (hq : B ≤ q) (hs : S.st ≠ -1) :
   Calls Try.prog 47 #[.pointer (some ⟨p, 0, none⟩)] w fun e w' => e = .returned (.bool true) ∧ ∃ q' cap', (q' = q ∨ w.heap.size ≤ q') ∧ RunAt w' p q' rv cap' (S.step m.rules) ∧ Fr (fun k => k = p ∨ k = q) w w' := by
  have hB : B ≤ w.heap.size := Nat.le_trans hp (Nat.le_of_lt (blk_lt h.blk))
  have c4 := h.c4
  have h0 : 0 ≤ S.st := by have := hI.st0; omega
  have hst : S.step m.rules = S.room.act m.rules := by unfold RS.step; rw [if_neg hs]
  rw [hst]
  have hin := hI.room_in
  have hrm := hI.room hm hk
  have eT2 := S.room_st
  have hru := hrm.rule hm (by omega) _ (hrm.sym (S.room.pos - S.room.fr).toNat)
  have hsy := hrm.sym (S.room.pos - S.room.fr).toNat
  have HH := Lib.hid h
  have HI := Lib.hid hI
  clear h hI hst hs
  go_enter Try.func47, Try.ntmps47
  go_wp2_with fail
  refine (room_calls HH.out HI.out hk).mono ?_
  rintro e w1 ⟨rfl, q1, cap1, hq1, g1, hfr1⟩
  rw [← eT2] at h0
  clear c4 HI eT2
  generalize hT : S.room = T at *
  have HT := Lib.hid hT
  clear hT
  obtain ⟨hi, hj, u0, u1, um, un0, un1⟩ := hru
  have hr1 : RulesRd B w1 rv m.rules := hr.below (fun k hk => hfr1.block k (by omega) (by omega))
  have hqB : B ≤ q1 := by omega
  have hne := g1.ne
  have c0 := g1.c0
  have c1 := g1.c1
  have c2 := g1.c2
  have c3 := g1.c3
  have c4 := g1.c4
  have c5 := g1.c5
  have cx := g1.row.cell (T.pos - T.fr).toNat (by omega)
  obtain ⟨b, o, c, b', o', c', rfl, hB1, hB2, hl1, hl2, hu, k1, k2, k3⟩ := hr1.get T.st.toNat (gi T.cells (T.pos - T.fr).toNat).toNat hi hj
  have hT0 := hrm.st0
  have hT1 : T.st < m.rules.length := by have := hrm.st1; have := hm.len; omega
  have hT2 : gi T.cells (T.pos - T.fr).toNat < (rowAt m.rules T.st.toNat).length := by omega
  have hx0 := hin.1
  have hx1 := hin.2
  have hc0 := hsy.1
  have hw1 : IntKind.i64.wrap (T.pos - T.fr) = T.pos - T.fr := IntWalk.i64_in _ (by have := g1.row.small; omega)
  have lp : p < w1.heap.size := blk_lt g1.blk
  have lq : q1 < w1.heap.size := g1.row.lt
  have lb : b < w1.heap.size := by omega
  have lb' : b' < w1.heap.size := by omega
  have HG := Lib.hid g1
  have HQ := Lib.hid hq1
  have HFR := Lib.hid hfr1
  have HM := Lib.hid hm
  have HRM := Lib.hid hrm
  have HUM := Lib.hid um
  clear g1 hq1 hfr1 hr hr1 HH hm hrm um hsy hin
  go_wp2
  go_quiet (fail)
  go_wp2
  go_region
  go_wp2_with fail
  refine wp_name fun W2 hW2 => ?_
  have hF2 : Fr (fun _ => False) w1 W2 := by rw [hW2]; exact ((Fr.refl _ _).alloc _).drewN _
  have g2 := HG.out.fr hF2 id id
  have d1 : W2.cell? ⟨w1.heap.size, 0, none⟩ = some (.int .i64 (ruleIn (rowAt m.rules T.st.toNat) (gi T.cells (T.pos - T.fr).toNat).toNat).w) := by rw [hW2]; exact (blk_cell (blk_new _ _) 0).trans rfl
  have d2 : W2.cell? ⟨w1.heap.size, 1, none⟩ = some (.int .i64 (ruleIn (rowAt m.rules T.st.toNat) (gi T.cells (T.pos - T.fr).toNat).toNat).m) := by rw [hW2]; exact (blk_cell (blk_new _ _) 1).trans rfl
  have d3 : W2.cell? ⟨w1.heap.size, 2, none⟩ = some (.int .i64 (ruleIn (rowAt m.rules T.st.toNat) (gi T.cells (T.pos - T.fr).toNat).toNat).n) := by rw [hW2]; exact (blk_cell (blk_new _ _) 2).trans rfl
  have e3 := g2.c3
  have e4 := g2.c4
  have e5 := g2.c5
  have i3 := blk_frozen g2.blk 3
  have i4 := blk_frozen g2.blk 4
  have i5 := blk_frozen g2.blk 5
  have ex := g2.row.cell (T.pos - T.fr).toNat (by omega)
  have ix := g2.row.frozen (T.pos - T.fr).toNat
  have hu' : ruleIn (rowAt m.rules T.st.toNat) (gi T.cells (T.pos - T.fr).toNat).toNat = ruleAt m.rules T.st (gi T.cells (T.pos - T.fr).toNat) := rfl
  simp only [hu'] at d1 d2 d3
  have b1 := cnt_bd u0
  have b2 := cnt_bd hc0
  have b3 := HRM.out.on0
  have b4 := HRM.out.on1
  have b5 := HRM.out.pos0
  have b6 := HRM.out.pos1
  have b7 := HUM.out
  have y1 : IntKind.i64.wrap (cnt (ruleAt m.rules T.st (gi T.cells (T.pos - T.fr).toNat)).w - cnt (gi T.cells (T.pos - T.fr).toNat)) = cnt (ruleAt m.rules T.st (gi T.cells (T.pos - T.fr).toNat)).w - cnt (gi T.cells (T.pos - T.fr).toNat) := IntWalk.i64_in _ (by omega)
  have y2 : IntKind.i64.wrap (T.ones + (cnt (ruleAt m.rules T.st (gi T.cells (T.pos - T.fr).toNat)).w - cnt (gi T.cells (T.pos - T.fr).toNat))) = T.ones + (cnt (ruleAt m.rules T.st (gi T.cells (T.pos - T.fr).toNat)).w - cnt (gi T.cells (T.pos - T.fr).toNat)) := IntWalk.i64_in _ (by omega)
  have y3 : IntKind.i64.wrap (T.pos + (ruleAt m.rules T.st (gi T.cells (T.pos - T.fr).toNat)).m) = T.pos + (ruleAt m.rules T.st (gi T.cells (T.pos - T.fr).toNat)).m := IntWalk.i64_in _ (by omega)
  have HG2 := Lib.hid g2
  have HF2 := Lib.hid hF2
  clear g2 hF2 hW2 c0 c1 c2 c3 c4 c5 cx hu k1 k2 k3 HG b7 hu'
  refine wp_tail 15 (by kernel_rfl) (by kernel_rfl) ?_
  simp only [List.take_succ_cons, List.take_zero, List.drop_succ_cons, List.drop_zero]
  repeat still_step
  still_call (count_still _ _)
  repeat still_step
  still_call (count_still _ _)
  repeat still_step
  refine wpStill_nil ?_
  go_wp2
  refine wp_tail 9 (by kernel_rfl) (by kernel_rfl) ?_
  simp only [List.take_succ_cons, List.take_zero, List.drop_succ_cons, List.drop_zero]
  repeat still_step
  refine wpStill_nil ?_
  go_wp2
  go_ret
  rw [HT.out]
  have z := HG2.out
  refine ⟨rfl, q1, cap1, HQ.out, ⟨?_, ?_, hne⟩, ?_⟩
  · have := blk_set (i := 4) (blk_set (i := 5) (blk_set_other (blk_set (i := 3) z.blk (.int .i64 (T.ones + (cnt (ruleAt m.rules T.st (gi T.cells (T.pos - T.fr).toNat)).w - cnt (gi T.cells (T.pos - T.fr).toNat)))))
      ⟨q1, (T.pos - T.fr).toNat, none⟩ (.int .i64 (ruleAt m.rules T.st (gi T.cells (T.pos - T.fr).toNat)).w) hne) (.int .i64 (T.pos + (ruleAt m.rules T.st (gi T.cells (T.pos - T.fr).toNat)).m))) (.int .i64 (ruleAt m.rules T.st (gi T.cells (T.pos - T.fr).toNat)).n)
    simp only [RS.act, List.length_set]
    exact this
  · have hq : ∀ (W : World) (i : Nat) (v : Value), (W.setCell ⟨p, i, none⟩ v).heap[q1]? = W.heap[q1]? := fun W i v => Below.heap_setCell _ _ _ _ (Ne.symm hne)
    have z1 := (z.row.keep (hq W2 3 (.int .i64 (T.ones + (cnt (ruleAt m.rules T.st (gi T.cells (T.pos - T.fr).toNat)).w - cnt (gi T.cells (T.pos - T.fr).toNat)))))).set (T.pos - T.fr).toNat (ruleAt m.rules T.st (gi T.cells (T.pos - T.fr).toNat)).w
    exact (z1.keep (hq _ 5 _)).keep (hq _ 4 _)
  · refine HFR.out.trans (S' := fun k => k = p ∨ k = q1) ?_ ?_
    · refine HF2.out.mono (fun _ _ e => e.elim) |>.trans (S' := fun k => k = p ∨ k = q1) ?_ (fun _ _ e => e)
      exact ((((((Fr.refl _ W2).setCell _ _ (fun _ => .inl rfl)).setCell _ _ (fun _ => .inr rfl)).setCell _ _ (fun _ => .inl rfl)).setCell _ _ (fun _ => .inl rfl)).drew).drew
    · intro i hi hx
      have := HQ.out
      rcases hx with hx | hx
      · exact .inl hx
      · rcases this with e | e
        · exact .inr (hx.trans e)
        · omega

end Go.Proofs.Ytggfcdjmeodggaa

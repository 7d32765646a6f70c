/- Contract of loop.After, at the example's numbers. -/
import Derived.Test.YtggfcdjmeodggaaLoop4
set_option linter.unusedVariables false
set_option linter.unusedSimpArgs false
namespace Go.Proofs.Ytggfcdjmeodggaa
open Go.RowKit

def posAt : Nat → Array Value
  | 2 => #[.int .i64 0, .int .i64 1]
  | _ => #[.int .i64 0, .int .i64 0]
def runAt : Nat → Nat
  | 2 => 1
  | _ => 0

theorem idx0 (W : World) : (Instr.index 102 (.agg #[.int .i64 0, .int .i64 1]) (.int .i64 0)).run Try.prog W = .ok (.int .i64 0) W := by
  simp [Instr.index, run_underlying Try.underlying102, asIntOf, go_sem]
theorem idx1 (W : World) : (Instr.index 102 (.agg #[.int .i64 0, .int .i64 1]) (.int .i64 1)).run Try.prog W = .ok (.int .i64 1) W := by
  simp [Instr.index, run_underlying Try.underlying102, asIntOf, go_sem]

set_option maxHeartbeats 2000000 in
set_option maxRecDepth 100000 in
theorem after_calls {B : Nat} {m : Mach} {A : Option Addr} {nr c' : Nat} {w : World} (hr : RulesRd B w (.slice A nr c') m.rules) (hB : B ≤ w.heap.size) (hm : m.Ok) (hp0 : pairB m.rules 0 1 = true) (hp1 : (RS.init.steps m.rules 1).pos = 1) :
   Calls Try.prog 41 #[machV m (.slice A nr c'), .int .i64 0, .int .i64 1, .bool true, .int .i64 1125899906842624] w fun e w' => e = .returned (.tuple #[.int .i64 1125899906842624, .int .i64 0, .int .i64 0]) ∧ Fr (fun _ => False) w w' := by
  have HR := Lib.hid hr
  have HM := Lib.hid hm
  have HP0 := Lib.hid hp0
  have HP1 := Lib.hid hp1
  clear hr hm hp0 hp1
  unfold machV
  go_enter Try.func41, Try.ntmps41
  go_wp2_with fail
  refine calls_name fun W1 hW1 => ?_
  have hF1 : Fr (fun _ => False) w W1 := by rw [hW1]; exact (Fr.refl _ _).alloc _
  have hbox : W1.heap[w.heap.size]? = some (.cells #[.int .i64 m.st, .int .i64 m.sy, .slice A nr c'] 24 (0, 0)) := by rw [hW1]; exact blk_new _ _
  have hs1 := hF1.size
  clear hW1
  refine (show Calls _ _ #[machV m _, .int .i64 (0 : Nat), .int .i64 (1 : Nat), .bool true] _ _ from ?_)
  refine (check_calls (B := B) (HR.out.below (fun k hk => hF1.block k (by omega) id)) (by omega) HM.out 0 1 true (by omega) (by omega)).mono ?_
  rintro e W2 ⟨rfl, hF2⟩
  rw [show sideM m true = m from rfl, HP0.out]
  have hF := hF1.trans hF2 (fun _ _ e => e)
  have hbox2 := hF2.keep hbox id
  have e0 : W2.cell? ⟨w.heap.size, 0, none⟩ = some (.int .i64 m.st) := (blk_cell hbox2 0).trans rfl
  have e1 : W2.cell? ⟨w.heap.size, 1, none⟩ = some (.int .i64 m.sy) := (blk_cell hbox2 1).trans rfl
  have e2 : W2.cell? ⟨w.heap.size, 2, none⟩ = some (.slice A nr c') := (blk_cell hbox2 2).trans rfl
  have hs2 := hF2.size
  have HF := Lib.hid hF
  have HBX := Lib.hid hbox2
  clear hF1 hF2 hF hbox hbox2
  go_wp2_with fail
  refine (new_calls m.st m.sy A nr c' W2).mono ?_
  rintro e W3 ⟨p, q0, rfl, hp, hq0, hD0, hF3⟩
  have HF3 := Lib.hid (HF.out.trans hF3 (fun _ _ e => e))
  have HD0 := Lib.hid hD0
  have hs3 := hF3.size
  have hbx3 := Lib.hid (hF3.keep HBX.out id)
  clear hF3 hD0 e0 e1 e2
  go_wp2
  refine wp_name fun W4 hW4 => ?_
  have hF4 : Fr (fun _ => False) W3 W4 := by rw [hW4]; exact (Fr.refl _ _).alloc _
  have hpb : W4.heap[W3.heap.size]? = some (.cells #[.int .i64 0, .int .i64 0] 102 (0, 0)) := by rw [hW4]; exact blk_new _ _
  have HF4 := Lib.hid (HF3.out.trans hF4 (fun _ _ e => e))
  have HD4 := Lib.hid (HD0.out.fr hF4 id id)
  have HPB := Lib.hid hpb
  have lpW := blk_lt HD0.out.blk
  have lqW := HD0.out.row.lt
  have hs4 := hF4.size
  have BX4 := Lib.hid (hF4.keep hbx3.out id)
  have lbx := blk_lt HBX.out
  clear hF4 hpb hW4
  go_loopw [60] (fun c wr => ∃ i q cap : Nat, i ≤ 2 ∧ c = .int .i64 i ∧ w.heap.size < q ∧ q ≠ W3.heap.size ∧ Off (wr.heap[w.heap.size]? = some (.cells #[.int .i64 m.st, .int .i64 m.sy, .slice A nr c'] 24 (0, 0))) ∧ Off (RunAt wr p q (.slice A nr c') cap (RS.init.steps m.rules (runAt i))) ∧ Off (wr.heap[W3.heap.size]? = some (.cells (posAt i) 102 (0, 0))) ∧ Off (Fr (fun _ => False) w wr)) (fun c _ => 2 - (intOf c).toNat)
  case atStart => exact ⟨0, q0, 16, by omega, rfl, by omega, by omega, ⟨BX4.out⟩, ⟨HD4.out⟩, ⟨HPB.out⟩, ⟨HF4.out⟩⟩
  case round =>
    obtain ⟨i, q, cap, hi, rfl, hq, hqn, hbx, hd, hb, hf⟩ := hrel
    have hrl : RulesRd B wr (.slice A nr c') m.rules := HR.out.below (fun k hk => hf.out.block k (by omega) id)
    have HRL := Lib.hid hrl
    have lq := hd.out.row.lt
    have lb := blk_lt hb.out
    clear hrl
    by_cases hlt : i < 2
    · obtain rfl | rfl : i = 0 ∨ i = 1 := by omega
      · have hix := idx0
        go_wp2_with fail
        refine (show Calls _ _ #[_, .int .i64 (0 : Nat)] _ _ from ?_)
        refine (run_runs (B := B) hd.out HM.out (RS.Inv.init m HM.out) 0 (by omega) HRL.out (by omega) (by omega)).mono ?_
        rintro e W5 ⟨⟨v, rfl⟩, q5, cap5, hq5, hd5, hf5⟩
        have hb5 := hf5.keep hb.out (by omega)
        have c5 : W5.cell? ⟨p, 5, none⟩ = some (.int .i64 0) := hd5.c5
        have p0 : W5.cell? ⟨W3.heap.size, 0, none⟩ = some (.int .i64 0) := (blk_cell hb5 0).trans rfl
        have z0 := blk_frozen hb5 0
        have BX5 := Lib.hid (hf5.keep hbx.out (by omega))
        have hq5' : w.heap.size < q5 ∧ q5 ≠ W3.heap.size := by omega
        have HD5 := Lib.hid hd5
        have HB5 := Lib.hid hb5
        have HF5 := Lib.hid (hf.out.trans hf5 (fun k hk e => by omega))
        clear hd5 hb5 hf5 hd hb hf hix hq5 hbx
        go_wp2_with fail
        go_roundw
        case rel =>
          refine ⟨1, q5, cap5, by omega, by go_num, hq5'.1, hq5'.2, ⟨blk_set_other BX5.out _ _ (by (try simp only); omega)⟩, ⟨HD5.out.fr ((Fr.refl (fun k => k = W3.heap.size) _).setCell _ _ (fun _ => rfl)) (by omega) (fun e => hq5'.2 e)⟩, ⟨(blk_set (i := 0) HB5.out _).trans rfl⟩, ⟨HF5.out.setCell _ _ (fun h => absurd (show W3.heap.size < w.heap.size from h) (by omega))⟩⟩
        case measure => (try simp [intOf]); (try omega)
      · have hix := idx1
        go_wp2_with fail
        refine (show Calls _ _ #[_, .int .i64 (1 : Nat)] _ _ from ?_)
        refine (run_runs (B := B) hd.out HM.out (RS.Inv.init m HM.out) 1 (by omega) HRL.out (by omega) (by omega)).mono ?_
        rintro e W5 ⟨⟨v, rfl⟩, q5, cap5, hq5, hd5, hf5⟩
        have hb5 := hf5.keep hb.out (by omega)
        have c5 : W5.cell? ⟨p, 5, none⟩ = some (.int .i64 1) := by rw [← HP1.out]; exact hd5.c5
        have p0 : W5.cell? ⟨W3.heap.size, 1, none⟩ = some (.int .i64 0) := (blk_cell hb5 1).trans rfl
        have z0 := blk_frozen hb5 1
        have BX5 := Lib.hid (hf5.keep hbx.out (by omega))
        have hq5' : w.heap.size < q5 ∧ q5 ≠ W3.heap.size := by omega
        have HD5 := Lib.hid hd5
        have HB5 := Lib.hid hb5
        have HF5 := Lib.hid (hf.out.trans hf5 (fun k hk e => by omega))
        clear hd5 hb5 hf5 hd hb hf hix hq5 hbx
        go_wp2_with fail
        go_roundw
        case rel =>
          refine ⟨2, q5, cap5, by omega, by go_num, hq5'.1, hq5'.2, ⟨blk_set_other BX5.out _ _ (by (try simp only); omega)⟩, ⟨HD5.out.fr ((Fr.refl (fun k => k = W3.heap.size) _).setCell _ _ (fun _ => rfl)) (by omega) (fun e => hq5'.2 e)⟩, ⟨(blk_set (i := 1) HB5.out _).trans rfl⟩, ⟨HF5.out.setCell _ _ (fun h => absurd (show W3.heap.size < w.heap.size from h) (by omega))⟩⟩
        case measure => (try simp [intOf]); (try omega)
    · obtain rfl : i = 2 := by omega
      have bx := hbx.out
      have e0 : wr.cell? ⟨w.heap.size, 0, none⟩ = some (.int .i64 m.st) := (blk_cell bx 0).trans rfl
      have e1 : wr.cell? ⟨w.heap.size, 1, none⟩ = some (.int .i64 m.sy) := (blk_cell bx 1).trans rfl
      have e2 : wr.cell? ⟨w.heap.size, 2, none⟩ = some (.slice A nr c') := (blk_cell bx 2).trans rfl
      clear bx hbx hd
      go_wp2_with fail
      refine (new_calls m.st m.sy A nr c' wr).mono ?_
      rintro e W6 ⟨p6, q6, rfl, hp6, hq6, hD6, hF6⟩
      have HF6 := Lib.hid (hf.out.trans hF6 (fun _ _ e => e))
      have HD6 := Lib.hid hD6
      have hs6 := hF6.size
      have hsw := hf.out.size
      have HB6 := Lib.hid (hF6.keep hb.out id)
      clear hF6 hD6 e0 e1 e2 hb hf HRL
      go_wp2_with fail
      refine (show Calls _ _ #[_, .int .i64 (0 : Nat)] _ _ from ?_)
      refine (run_runs (B := B) HD6.out HM.out (RS.Inv.init m HM.out) 0 (by omega) (HR.out.below (fun k hk => HF6.out.block k (by omega) id)) (by omega) (by omega)).mono ?_
      rintro e W7 ⟨⟨v, rfl⟩, q7, cap7, hq7, hd7, hf7⟩
      have hb7 := hf7.keep HB6.out (by omega)
      have p0 : W7.cell? ⟨W3.heap.size, 0, none⟩ = some (.int .i64 0) := (blk_cell hb7 0).trans rfl
      have p1 : W7.cell? ⟨W3.heap.size, 1, none⟩ = some (.int .i64 1) := (blk_cell hb7 1).trans rfl
      have c4 : W7.cell? ⟨p6, 4, none⟩ = some (.int .i64 0) := hd7.c4
      have c5 : W7.cell? ⟨p6, 5, none⟩ = some (.int .i64 0) := hd7.c5
      have HF7 := Lib.hid (HF6.out.trans hf7 (fun k hk e => by omega))
      clear hb7 hd7 hf7 hq7
      go_wp2_with fail
      go_quiet (fail)
      go_wp2_with fail
      go_ret3
      exact ⟨rfl, HF7.out.drewN _⟩

end Go.Proofs.Ytggfcdjmeodggaa

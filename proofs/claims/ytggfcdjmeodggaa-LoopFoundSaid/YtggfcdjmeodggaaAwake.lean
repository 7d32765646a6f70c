/- Contract of the law's awake. -/
import Derived.Test.YtggfcdjmeodggaaAfter
set_option linter.unusedVariables false
set_option linter.unusedSimpArgs false
namespace Go.Proofs.Ytggfcdjmeodggaa
open Go.RowKit

def M1 : Mach := ⟨1, 2, [[⟨1, 1, 0⟩, ⟨1, 1, -1⟩]]⟩
theorem M1_ok : M1.Ok := (Mach.ok_iff M1).2 ⟨⟨by decide, by decide, by decide, by decide, by decide⟩, fun i hi => by
  obtain rfl : i = 0 := by simp [M1] at hi; omega
  refine ⟨by decide, fun j hj => ?_⟩
  have : j = 0 ∨ j = 1 := by simp [M1, rowAt] at hj; omega
  rcases this with rfl | rfl <;> (unfold RuleOk; decide)⟩
theorem M1_yes : pairB M1.rules 0 1 = true := by kernel_rfl
theorem M1_no : pairB (mirRules M1.rules) 0 1 = false := by kernel_rfl
theorem M1_pos : (RS.init.steps M1.rules 1).pos = 1 := by kernel_rfl

set_option maxHeartbeats 2000000 in
set_option maxRecDepth 100000 in
theorem awake_calls (w : World) : Calls Try.prog 11 #[] w fun e w' => e = .returned (.bool true) ∧ Fr (fun _ => False) w w' := by
  go_enter Try.func11, Try.ntmps11
  go_wp2_with fail
  refine calls_name fun W1 hW1 => ?_
  have hF1 : Fr (fun _ => False) w W1 := by rw [hW1]; exact (((Fr.refl _ _).alloc _).alloc _).alloc _
  have ba : W1.heap[w.heap.size]? = some (.cells #[.int .i64 1, .int .i64 1, .int .i64 0, .int .i64 1, .int .i64 1, .int .i64 (-1)] 75 (0, 0)) := by rw [hW1]; exact blk_alloc (blk_alloc (blk_new _ _) _) _
  have bb : W1.heap[w.heap.size + 1]? = some (.cells #[.slice (some ⟨w.heap.size, 0, none⟩) 2 2] 73 (0, 0)) := by rw [hW1]; exact blk_alloc (blk_new_at _ (by simp)) _
  have bc : W1.heap[w.heap.size + 2]? = some (.cells #[.int .i64 1, .int .i64 2, .slice (some ⟨w.heap.size + 1, 0, none⟩) 1 1] 24 (0, 0)) := by rw [hW1]; exact blk_new_at _ (by simp)
  have hs1 : W1.heap.size = w.heap.size + 3 := by rw [hW1]; simp
  have hr : RulesRd (w.heap.size + 2) W1 (.slice (some ⟨w.heap.size + 1, 0, none⟩) 1 1) M1.rules := by
    refine ⟨_, _, rfl, by decide, by decide, fun _ => ⟨w.heap.size + 1, 0, rfl, by omega, fun i hi => ?_⟩⟩
    obtain rfl : i = 0 := by simp [M1] at hi; omega
    refine ⟨_, (blk_cell bb 0).trans rfl, _, _, rfl, by decide, by decide, fun _ => ⟨w.heap.size, 0, rfl, by omega, fun j hj => ?_⟩⟩
    have : j = 0 ∨ j = 1 := by simp [M1, rowAt] at hj; omega
    rcases this with rfl | rfl
    · exact ⟨(blk_cell ba 0).trans rfl, (blk_cell ba 1).trans rfl, (blk_cell ba 2).trans rfl⟩
    · exact ⟨(blk_cell ba 3).trans rfl, (blk_cell ba 4).trans rfl, (blk_cell ba 5).trans rfl⟩
  have HR := Lib.hid hr
  have HF1 := Lib.hid hF1
  have HBC := Lib.hid bc
  clear hr ba bb bc hF1 hW1
  refine (show Calls _ _ #[machV M1 _, .int .i64 (0 : Nat), .int .i64 (1 : Nat), .bool true] _ _ from ?_)
  refine (check_calls HR.out (by omega) M1_ok 0 1 true (by omega) (by omega)).mono ?_
  rintro e W2 ⟨rfl, hF2⟩
  rw [show pairB (sideM M1 true).rules 0 1 = true from M1_yes]
  have hbc := hF2.keep HBC.out id
  have HF12 := Lib.hid hF2
  have e0 : W2.cell? ⟨w.heap.size + 1 + 1, 0, none⟩ = some (.int .i64 1) := (blk_cell hbc 0).trans rfl
  have e1 : W2.cell? ⟨w.heap.size + 1 + 1, 1, none⟩ = some (.int .i64 2) := (blk_cell hbc 1).trans rfl
  have e2 : W2.cell? ⟨w.heap.size + 1 + 1, 2, none⟩ = some (.slice (some ⟨w.heap.size + 1, 0, none⟩) 1 1) := (blk_cell hbc 2).trans rfl
  have hs2 := hF2.size
  clear hbc hF2
  go_wp2_with fail
  refine (show Calls _ _ #[machV M1 _, .int .i64 (0 : Nat), .int .i64 (1 : Nat), .bool false] _ _ from ?_)
  refine (check_calls (HR.out.below (fun k hk => HF12.out.block k (by omega) id)) (by omega) M1_ok 0 1 false (by omega) (by omega)).mono ?_
  rintro e W3 ⟨rfl, hF3⟩
  rw [show pairB (sideM M1 false).rules 0 1 = false from M1_no]
  have hF13 := HF12.out.trans hF3 (fun _ _ e => e)
  have hbc := hF13.keep HBC.out id
  have HF13 := Lib.hid hF13
  have e0 : W3.cell? ⟨w.heap.size + 1 + 1, 0, none⟩ = some (.int .i64 1) := (blk_cell hbc 0).trans rfl
  have e1 : W3.cell? ⟨w.heap.size + 1 + 1, 1, none⟩ = some (.int .i64 2) := (blk_cell hbc 1).trans rfl
  have e2 : W3.cell? ⟨w.heap.size + 1 + 1, 2, none⟩ = some (.slice (some ⟨w.heap.size + 1, 0, none⟩) 1 1) := (blk_cell hbc 2).trans rfl
  have hs3 := hF3.size
  clear hbc hF3 hF13
  go_wp2_with fail
  refine (show Calls _ _ #[machV M1 _, _, _, _, _] _ _ from ?_)
  refine (after_calls (HR.out.below (fun k hk => HF13.out.block k (by omega) id)) (by omega) M1_ok M1_yes M1_pos).mono ?_
  rintro e W4 ⟨rfl, hF4⟩
  have HF := Lib.hid ((HF1.out.trans HF13.out (fun _ _ e => e)).trans hF4 (fun _ _ e => e))
  clear hF4 e0 e1 e2
  go_wp2_with fail
  go_ret
  exact ⟨rfl, HF.out⟩

end Go.Proofs.Ytggfcdjmeodggaa

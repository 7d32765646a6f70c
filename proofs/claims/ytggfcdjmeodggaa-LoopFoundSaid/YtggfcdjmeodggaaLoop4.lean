/- Contract of loop.Check. -/
import Derived.Test.YtggfcdjmeodggaaLoop3
set_option linter.unusedVariables false
set_option linter.unusedSimpArgs false
namespace Go.Proofs.Ytggfcdjmeodggaa
open Go.RowKit

theorem sideM_v (m : Mach) (r : Bool) (v : Value) : machV (sideM m r) v = machV m v := by cases r <;> rfl

set_option maxHeartbeats 1000000 in
set_option maxRecDepth 100000 in
theorem check_calls {B : Nat} {m : Mach} {rv : Value} {w : World} (hr : RulesRd B w rv m.rules) (hB : B ≤ w.heap.size) (hm : m.Ok) (a b : Nat) (r : Bool) (hab : a < b) (hb : b ≤ 1000000) :
   Calls Try.prog 13 #[machV m rv, .int .i64 a, .int .i64 b, .bool r] w fun e w' => e = .returned (.tuple #[.bool (pairB (sideM m r).rules a b), .int .i64 0]) ∧ Fr (fun _ => False) w w' := by
  have HR := Lib.hid hr
  have HM := Lib.hid hm
  obtain ⟨A, c', rfl, hl1, hl2, hxx⟩ := hr
  clear hm hl1 hl2 hxx
  unfold machV
  go_enter Try.func13, Try.ntmps13
  go_wp2_with fail
  refine calls_name fun W1 hW1 => ?_
  have hF1 : Fr (fun _ => False) w W1 := by rw [hW1]; exact (Fr.refl _ _).alloc _
  have hbox : W1.heap[w.heap.size]? = some (.cells #[.int .i64 m.st, .int .i64 m.sy, .slice A m.rules.length c'] 24 (0, 0)) := by rw [hW1]; exact blk_new _ _
  clear hW1
  have hs1 := hF1.size
  refine (tapeValid_calls (B := B) (HR.out.below (fun k hk => hF1.block k (by omega) id)) (by omega)).mono ?_
  rintro e W2 ⟨bb, rfl, hbb, hF2⟩
  obtain rfl : bb = true := hbb.2 HM.out
  have hF := hF1.trans hF2 (fun _ _ e => e)
  have hbox2 := hF2.keep hbox id
  have e0 : W2.cell? ⟨w.heap.size, 0, none⟩ = some (.int .i64 m.st) := (blk_cell hbox2 0).trans rfl
  have e1 : W2.cell? ⟨w.heap.size, 1, none⟩ = some (.int .i64 m.sy) := (blk_cell hbox2 1).trans rfl
  have e2 : W2.cell? ⟨w.heap.size, 2, none⟩ = some (.slice A m.rules.length c') := (blk_cell hbox2 2).trans rfl
  have hs2 := hF.size
  have HF := Lib.hid hF
  clear hbb hF1 hF2 hF hbox hbox2
  have hab' : (a : Int) < (b : Int) := by omega
  have hb' : (b : Int) ≤ 1000000 := by omega
  go_wp2_with fail
  refine (show Calls _ _ #[machV m _, .bool r] _ _ from ?_)
  refine (sided_calls (B := B) (HR.out.below (fun k hk => HF.out.block k (by omega) id)) (by omega) HM.out r).mono ?_
  rintro e W3 ⟨A3, n3, c3, rfl, hr3, hF3⟩
  have hF := HF.out.trans hF3 (fun _ _ e => e)
  have HF3 := Lib.hid hF
  have HR3 := Lib.hid hr3
  clear HF hF3 hr3 hF
  unfold machV
  go_wp2_with fail
  refine (show Calls _ _ #[machV m _, _, _] _ _ from ?_)
  rw [← sideM_v m r]
  refine (right_calls (m := sideM m r) HR3.out (Nat.le_refl _) (sideM_ok HM.out r) a b (by omega) hb).mono ?_
  rintro e W4 ⟨rfl, hF4⟩
  have HF := Lib.hid (HF3.out.trans hF4 (fun _ _ e => e))
  clear hF4
  go_wp2
  go_ret2
  exact ⟨rfl, HF.out⟩

end Go.Proofs.Ytggfcdjmeodggaa

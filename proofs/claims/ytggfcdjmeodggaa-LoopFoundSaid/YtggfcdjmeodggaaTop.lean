/- LoopFound: the walk. -/
import Derived.Test.YtggfcdjmeodggaaLaw
import Derived.Test.YtggfcdjmeodggaaAwake
import Derived.Test.YtggfcdjmeodggaaRefv
set_option linter.unusedVariables false
set_option linter.unusedSimpArgs false
namespace Go.Proofs.Ytggfcdjmeodggaa
open Go.RowKit

set_option maxHeartbeats 2000000 in
set_option maxRecDepth 100000 in
theorem top_calls {B : Nat} {m : Mach} {rv : Value} {w : World} (hr : RulesRd B w rv m.rules) (hB : B ≤ w.heap.size) (n : Nat) (hn : n < 65536) :
   Calls Try.prog 3 #[machV m rv, .int .u16 n] w fun e w' => e = .returned (.bool true) ∧ Fr (fun _ => False) w w' := by
  have HR := Lib.hid hr
  obtain ⟨A, c', rfl, hl1, hl2, hxx⟩ := hr
  clear hl1 hl2 hxx
  unfold machV
  go_enter Try.func3, Try.ntmps3
  go_wp2_with fail
  refine calls_name fun W1 hW1 => ?_
  have hF1 : Fr (fun _ => False) w W1 := by rw [hW1]; exact (Fr.refl _ _).alloc _
  have hbox : W1.heap[w.heap.size]? = some (.cells #[.int .i64 m.st, .int .i64 m.sy, .slice A m.rules.length c'] 24 (0, 0)) := by rw [hW1]; exact blk_new _ _
  clear hW1
  have hs1 := hF1.size
  refine (refValid_calls (B := B) (HR.out.below (fun k hk => hF1.block k (by omega) id)) (by omega)).mono ?_
  rintro e W2 ⟨bb, rfl, hbb, hF2⟩
  have hF := hF1.trans hF2 (fun _ _ e => e)
  have hbox2 := hF2.keep hbox id
  have HF := Lib.hid hF
  have HBX := Lib.hid hbox2
  have hs2 := hF.size
  clear hF1 hF2 hF hbox hbox2
  by_cases hm : m.Ok
  · obtain rfl : bb = true := hbb.2 hm
    have HM := Lib.hid hm
    clear hbb hm
    have e0 : W2.cell? ⟨w.heap.size, 0, none⟩ = some (.int .i64 m.st) := (blk_cell HBX.out 0).trans rfl
    have e1 : W2.cell? ⟨w.heap.size, 1, none⟩ = some (.int .i64 m.sy) := (blk_cell HBX.out 1).trans rfl
    have e2 : W2.cell? ⟨w.heap.size, 2, none⟩ = some (.slice A m.rules.length c') := (blk_cell HBX.out 2).trans rfl
    go_wp2_with fail
    obtain ⟨N, hN⟩ : ∃ N : Nat, (1 + (n : Int) % 2000) = N := ⟨1 + n % 2000, by omega⟩
    rw [hN]
    have hN1 : 1 ≤ N := by omega
    have hN2 : N ≤ 2000 := by omega
    clear hN
    refine (show Calls _ _ #[machV m _, .int .i64 (N : Nat)] _ _ from ?_)
    refine (find_calls (B := B) (HR.out.below (fun k hk => HF.out.block k (by omega) id)) (by omega) HM.out N hN1 hN2).mono ?_
    rintro e W3 ⟨hP, hF3⟩
    have HF3 := Lib.hid (HF.out.trans hF3 (fun _ _ e => e))
    have HBX3 := Lib.hid (hF3.keep HBX.out id)
    have hs3 := hF3.size
    clear hF3 e0 e1 e2
    have e0 : W3.cell? ⟨w.heap.size, 0, none⟩ = some (.int .i64 m.st) := (blk_cell HBX3.out 0).trans rfl
    have e1 : W3.cell? ⟨w.heap.size, 1, none⟩ = some (.int .i64 m.sy) := (blk_cell HBX3.out 1).trans rfl
    have e2 : W3.cell? ⟨w.heap.size, 2, none⟩ = some (.slice A m.rules.length c') := (blk_cell HBX3.out 2).trans rfl
    rcases hP with ⟨k, hk, hall, hst, ha, rfl⟩ | ⟨hall, rfl⟩
    · obtain ⟨a, hak, hfa, hpair⟩ := found_pair HM.out (by omega) hst ha
      rw [hfa]
      rw [hfa] at hpair
      have HALL := Lib.hid hall
      have HPAIR := Lib.hid hpair
      generalize (fx m k == (a : Int)) = rr at *
      clear hall hst ha hpair hfa
      go_wp2_with fail
      refine (show Calls _ _ #[machV m _, .int .i64 (a : Nat), .int .i64 (k : Nat), .bool rr] _ _ from ?_)
      refine (check_calls (B := B) (HR.out.below (fun k hk => HF3.out.block k (by omega) id)) (by omega) HM.out a k rr hak (by omega)).mono ?_
      rintro e W4 ⟨rfl, hF4⟩
      rw [HPAIR.out]
      have HF4 := Lib.hid (HF3.out.trans hF4 (fun _ _ e => e))
      have HBX4 := Lib.hid (hF4.keep HBX3.out id)
      have hs4 := hF4.size
      clear hF4 e0 e1 e2
      have e0 : W4.cell? ⟨w.heap.size, 0, none⟩ = some (.int .i64 m.st) := (blk_cell HBX4.out 0).trans rfl
      have e1 : W4.cell? ⟨w.heap.size, 1, none⟩ = some (.int .i64 m.sy) := (blk_cell HBX4.out 1).trans rfl
      have e2 : W4.cell? ⟨w.heap.size, 2, none⟩ = some (.slice A m.rules.length c') := (blk_cell HBX4.out 2).trans rfl
      have g1 : ¬ ((N : Int) < (k : Int)) := by omega
      have g2 : ¬ ((k : Int) ≤ (a : Int)) := by omega
      by_cases h1 : k = 1
      · subst h1
        go_wp2_with fail
        refine (awake_calls W4).mono ?_
        rintro e W5 ⟨rfl, hF5⟩
        have HF5 := Lib.hid (HF4.out.trans hF5 (fun _ _ e => e))
        clear hF5
        go_wp2_with fail
        go_ret
        exact ⟨rfl, HF5.out⟩
      · have g3 : ((k : Int) == 1) = false := by simp; omega
        have hw1 : IntKind.i64.wrap ((k : Int) - 1) = (k : Int) - 1 := IntWalk.i64_in _ (by omega)
        go_wp2_with fail
        have hk1 : (k : Int) - 1 = ((k - 1 : Nat) : Int) := by omega
        rw [hk1]
        refine (show Calls _ _ #[machV m _, .int .i64 ((k - 1 : Nat) : Nat)] _ _ from ?_)
        refine (find_calls (B := B) (HR.out.below (fun k hk => HF4.out.block k (by omega) id)) (by omega) HM.out (k - 1) (by omega) (by omega)).mono ?_
        rintro e W5 ⟨hP, hF5⟩
        have HF5 := Lib.hid (HF4.out.trans hF5 (fun _ _ e => e))
        clear hF5 e0 e1 e2
        have he : e = .returned (.tuple #[.int .i64 0, .int .i64 0, .bool false, .int .i64 6]) := by
          rcases hP with ⟨k', hk', _, _, ha', _⟩ | ⟨_, h⟩
          · have := (HALL.out k' (by omega)).2
            omega
          · exact h
        subst he
        clear hP
        go_wp2_with fail
        refine (awake_calls W5).mono ?_
        rintro e W6 ⟨rfl, hF6⟩
        have HF6 := Lib.hid (HF5.out.trans hF6 (fun _ _ e => e))
        clear hF6
        go_wp2_with fail
        go_ret
        exact ⟨rfl, HF6.out⟩
    · clear hall
      go_wp2_with fail
      refine (awake_calls W3).mono ?_
      rintro e W4 ⟨rfl, hF4⟩
      have HF4 := Lib.hid (HF3.out.trans hF4 (fun _ _ e => e))
      clear hF4
      go_wp2_with fail
      go_ret
      exact ⟨rfl, HF4.out⟩
  · obtain rfl : bb = false := by cases bb; rfl; exact absurd (hbb.1 rfl) hm
    clear hbb hm
    go_wp2_with fail
    refine (awake_calls W2).mono ?_
    rintro e W3 ⟨rfl, hF3⟩
    have HF3 := Lib.hid (HF.out.trans hF3 (fun _ _ e => e))
    clear hF3
    go_wp2_with fail
    go_ret
    exact ⟨rfl, HF3.out⟩

end Go.Proofs.Ytggfcdjmeodggaa

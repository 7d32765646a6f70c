/- Contract of loop.right. -/
import Derived.Test.YtggfcdjmeodggaaLoop2
set_option linter.unusedVariables false
set_option linter.unusedSimpArgs false
namespace Go.Proofs.Ytggfcdjmeodggaa
open Go.RowKit

/-- The lowest position of the first n steps. -/
def lowAt (r : List (List Rl)) (S : RS) : Nat → Int
  | 0 => S.pos
  | n + 1 => min (lowAt r S n) (S.steps r (n + 1)).pos
/-- Whether (a, b) is a loop on the right side. -/
def pairB (r : List (List Rl)) (a b : Nat) : Bool :=
  let c := RS.init.steps r a
  let d := RS.init.steps r b
  if d.st = -1 then false else if c.st ≠ d.st then false else if d.pos - c.pos < 0 then false else alike c d (lowAt r c (b - a)) (d.pos - c.pos)

theorem max_low (a b : Int) : (if b < a then b else a) = min a b := by omega
theorem lowAt_bd {m : Mach} (hm : m.Ok) {S : RS} {k : Nat} (h : S.Inv m k) (n : Nat) (hk : k + n ≤ 1048576) : -1048576 ≤ lowAt m.rules S n ∧ lowAt m.rules S n ≤ 1048576 := by
  induction n with
  | zero => have h1 := h.pos0; have h2 := h.pos1; simp only [lowAt]; omega
  | succ n ih =>
    have h1 := (h.steps hm (n + 1) (by omega)).pos0
    have h2 := (h.steps hm (n + 1) (by omega)).pos1
    have h3 := ih (by omega)
    simp only [lowAt]
    omega

set_option maxHeartbeats 1000000 in
set_option maxRecDepth 100000 in
theorem right_calls {B : Nat} {m : Mach} {A : Option Addr} {nr c' : Nat} {w : World} (hr : RulesRd B w (.slice A nr c') m.rules) (hB : B ≤ w.heap.size) (hm : m.Ok) (a b : Nat) (hab : a ≤ b) (hb : b ≤ 1000000) :
   Calls Try.prog 49 #[machV m (.slice A nr c'), .int .i64 a, .int .i64 b] w fun e w' => e = .returned (.bool (pairB m.rules a b)) ∧ Fr (fun _ => False) w w' := by
  have HR := Lib.hid hr
  have HM := Lib.hid hm
  clear hr hm
  unfold machV
  go_enter Try.func49, Try.ntmps49
  go_wp2_with fail
  refine calls_name fun W1 hW1 => ?_
  have hF1 : Fr (fun _ => False) w W1 := by rw [hW1]; exact (Fr.refl _ _).alloc _
  clear hW1
  refine (new_calls m.st m.sy A nr c' W1).mono ?_
  rintro e W2 ⟨p, q0, rfl, hp, hq0, hD0, hF2⟩
  have hs1 := hF1.size
  have hF := hF1.trans hF2 (fun _ _ e => e)
  have HD0 := Lib.hid hD0
  have HF := Lib.hid hF
  clear hF1 hF2 hD0 hF
  have hw1 : IntKind.i64.wrap ((b : Int) - (a : Int)) = (b : Int) - (a : Int) := IntWalk.i64_in _ (by omega)
  go_wp2_with fail
  refine (run_runs (B := B) HD0.out HM.out (RS.Inv.init m HM.out) a (by omega) (HR.out.below (fun k hk => HF.out.block k (by omega) id)) (by omega) (by omega)).mono ?_
  rintro e W3 ⟨⟨v, rfl⟩, q1, cap1, hq1, hD1, hF3⟩
  have hI1 := (RS.Inv.init m HM.out).steps HM.out a (by omega)
  have hF' : Fr (fun _ => False) w W3 := HF.out.trans hF3 (fun k hk e => by omega)
  have hq1' : w.heap.size ≤ q1 := by have := HF.out.size; omega
  have HD1 := Lib.hid hD1
  have HI1 := Lib.hid hI1
  have HF3 := Lib.hid hF'
  clear hF3 hD1 hI1 hF' HF HD0 hq1
  go_wp2_with fail
  refine (clone_calls HD1.out (by have := HI1.out.one; omega) HI1.out.len).mono ?_
  rintro e W4 ⟨pc, qc, capc, rfl, hpc, hqc, hC, hF4⟩
  have lp := blk_lt HD1.out.blk
  have lq := HD1.out.row.lt
  have hD := HD1.out.fr hF4 id id
  have hF' : Fr (fun _ => False) w W4 := HF3.out.trans hF4 (fun k hk e => e)
  have c5 := hD.c5
  have HC := Lib.hid hC
  have HD := Lib.hid hD
  have HF := Lib.hid hF'
  clear hF' hF4 hC hD HD1 HF3
  go_wp2
  have hlow0 : lowAt m.rules (RS.init.steps m.rules a) 0 = (RS.init.steps m.rules a).pos := rfl
  have HLOW0 := Lib.hid hlow0
  clear hlow0
  go_loopw [9, 25] (fun l c wr => ∃ (i q' cap' : Nat), i ≤ b - a ∧ c = .int .i64 i ∧ l = .int .i64 (lowAt m.rules (RS.init.steps m.rules a) i) ∧ w.heap.size ≤ q' ∧ q' ≠ pc ∧ q' ≠ qc ∧ Off (RunAt wr p q' (.slice A nr c') cap' (RS.init.steps m.rules (a + i))) ∧ Off (RunAt wr pc qc (.slice A nr c') capc (RS.init.steps m.rules a)) ∧ Off (Fr (fun _ => False) w wr)) (fun _ c _ => b - a - (intOf c).toNat)
  case atStart => exact ⟨0, q1, cap1, Nat.zero_le _, rfl, rfl, hq1', by omega, by omega, ⟨HD.out⟩, ⟨HC.out⟩, ⟨HF.out⟩⟩
  case round =>
    obtain ⟨i, q', cap', hi, rfl, rfl, hq, hn1, hn2, hd, hc, hf⟩ := hrel
    by_cases hlt : i < b - a
    · have hlt' : (i : Int) < (b : Int) - (a : Int) := by omega
      have hw2 : IntKind.i64.wrap ((i : Int) + 1) = (i : Int) + 1 := IntWalk.i64_in _ (by omega)
      have hIi := (RS.Inv.init m HM.out).steps HM.out (a + i) (by omega)
      have HIi := Lib.hid hIi
      have lqd := hd.out.row.lt
      clear hIi
      go_wp2_with (go_at_call 47; refine (step_any (B := B) hd.out HM.out HIi.out (by omega) (HR.out.below (fun k hk => hf.out.block k (by omega) id)) (by omega) (by omega)).mono ?_; rintro e W5 ⟨⟨bb, rfl⟩, q2, cap2, hq2, hd2, hf2⟩; have HQ2 := Lib.hid hq2; have HD2 := Lib.hid hd2; have HF2 := Lib.hid hf2; have c5' := hd2.c5; clear hq2 hd2 hf2)
      go_roundw
      case rel =>
        have g1 := RS.steps_succ m.rules (a + i) RS.init
        have g2 := RS.steps_add m.rules a (i + 1) RS.init
        have k1 := HQ2.out
        have k2 := blk_lt hc.out.blk
        have k3 := hc.out.row.lt
        refine ⟨i + 1, q2, cap2, by omega, by go_num, ?_, by omega, by omega, by omega, ⟨by rw [show a + (i + 1) = (a + i) + 1 by omega, g1]; exact HD2.out⟩, ⟨hc.out.fr HF2.out (by omega) (by omega)⟩, ⟨hf.out.trans HF2.out (fun k hk e => by omega)⟩⟩
        simp only [lowAt]
        rw [← g2, show a + (i + 1) = (a + i) + 1 by omega, g1, max_low]
      case measure => simp [intOf]; omega
    · have hlt' : ¬ (i : Int) < (b : Int) - (a : Int) := by omega
      have hib : i = b - a := by omega
      subst hib
      have hab2 : a + (b - a) = b := by omega
      rw [hab2] at hd
      have hDi := (RS.Inv.init m HM.out).steps HM.out b (by omega)
      have hCi := (RS.Inv.init m HM.out).steps HM.out a (by omega)
      have hlb := lowAt_bd HM.out hCi (b - a) (by omega)
      have hP : pairB m.rules a b = (let c := RS.init.steps m.rules a; let d := RS.init.steps m.rules b; if d.st = -1 then false else if c.st ≠ d.st then false else if d.pos - c.pos < 0 then false else alike c d (lowAt m.rules c (b - a)) (d.pos - c.pos)) := rfl
      generalize RS.init.steps m.rules a = C at *
      generalize RS.init.steps m.rules b = D at *
      have d4 := hd.out.c4
      have d5 := hd.out.c5
      have e4 := hc.out.c4
      have e5 := hc.out.c5
      have hp0 := hDi.pos0
      have hp1 := hDi.pos1
      have hp2 := hCi.pos0
      have hp3 := hCi.pos1
      have lC := hCi.len
      have lD := hDi.len
      have fC := hCi.fr0
      have fD := hDi.fr0
      have fC1 := hCi.fr1
      have fD1 := hDi.fr1
      have hw3 : IntKind.i64.wrap (D.pos - C.pos) = D.pos - C.pos := IntWalk.i64_in _ (by omega)
      have HP := Lib.hid hP
      clear hDi hCi hP hlt
      go_wp2
      refine wp_tail 9 (by kernel_rfl) (by kernel_rfl) ?_
      simp only [List.take_succ_cons, List.take_zero, List.drop_succ_cons, List.drop_zero]
      repeat still_step
      refine wpStill_nil ?_
      go_wp2
      refine wp_name fun W6 hW6 => ?_
      have hd6 : RunAt W6 p q' (.slice A nr c') cap' D := by rw [hW6]; exact hd.out.drewN 1
      have hc6 : RunAt W6 pc qc (.slice A nr c') capc C := by rw [hW6]; exact hc.out.drewN 1
      have hf6 : Fr (fun _ => False) w W6 := by rw [hW6]; exact hf.out.drew
      clear d4 d5 e4 e5 hd hc hf hW6
      have d4 := hd6.c4
      have d5 := hd6.c5
      have e4 := hc6.c4
      have e5 := hc6.c5
      have HDD := Lib.hid hd6
      have HCC := Lib.hid hc6
      have HF6 := Lib.hid hf6
      clear hd6 hc6 hf6
      by_cases h1 : D.st = -1
      · have k1 : (D.st != -1) = false := by simp [h1]
        have hp : pairB m.rules a b = false := by rw [HP.out]; (try simp only); rw [if_pos h1]
        have HPP := Lib.hid hp
        clear h1 hp
        go_quiet (fail)
        go_wp2
        go_ret
        exact ⟨by rw [HPP.out]; rfl, HF6.out.drewN _⟩
      · have k1 : (D.st != -1) = true := by simp [h1]
        by_cases h2 : C.st = D.st
        · have k2 : (C.st == D.st) = true := by simp [h2]
          by_cases h3 : D.pos - C.pos < 0
          · have k3 : decide (0 ≤ D.pos - C.pos) = false := by simp; omega
            have k4 : decide (C.pos ≤ D.pos) = false := by simp; omega
            have hp : pairB m.rules a b = false := by rw [HP.out]; (try simp only); rw [if_neg h1, if_neg (by simpa using h2), if_pos h3]
            have HPP := Lib.hid hp
            clear h1 h2 h3 hp
            go_quiet (fail)
            go_wp2
            go_ret
            exact ⟨by rw [HPP.out]; rfl, HF6.out.drewN _⟩
          · have k3 : 0 ≤ D.pos - C.pos := by omega
            have k4 : decide (C.pos ≤ D.pos) = true := by simp; omega
            have k5 : decide (0 ≤ D.pos - C.pos) = true := by simp; omega
            have hp : pairB m.rules a b = alike C D (lowAt m.rules C (b - a)) (D.pos - C.pos) := by rw [HP.out]; (try simp only); rw [if_neg h1, if_neg (by simpa using h2), if_neg h3]
            have HPP := Lib.hid hp
            clear h1 h2 h3 hp
            go_quiet (first | (go_at_call 70; refine Calls.quiet_of (alike_calls (HCC.out.drewN _) (HDD.out.drewN _) _ _ (by omega) (by omega) (by omega) (by omega) (by omega) (by omega) (by omega) (by omega) (by omega) (by omega))))
            go_wp2
            go_ret
            exact ⟨by rw [HPP.out]; rfl, HF6.out.drewN _⟩
        · have k2 : (C.st == D.st) = false := by simp [h2]
          have hp : pairB m.rules a b = false := by rw [HP.out]; (try simp only); rw [if_neg h1, if_pos (by simpa using h2)]
          have HPP := Lib.hid hp
          clear h1 h2 hp
          go_quiet (fail)
          go_wp2
          go_ret
          exact ⟨by rw [HPP.out]; rfl, HF6.out.drewN _⟩

end Go.Proofs.Ytggfcdjmeodggaa

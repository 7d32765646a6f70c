/- Contract of loop.last. -/
import Derived.Test.YtggfcdjmeodggaaLoop3
set_option linter.unusedVariables false
set_option linter.unusedSimpArgs false
namespace Go.Proofs.Ytggfcdjmeodggaa
open Go.RowKit

/-- The greatest a below n whose configuration makes a pair with d; -1 if there is none. -/
def lastN (f : Nat → RS) (d : RS) : Nat → Int → Int
  | 0, _ => -1
  | a + 1, low => if 0 ≤ d.pos - (f a).pos ∧ (f a).st = d.st ∧ alike (f a) d (min low (f a).pos) (d.pos - (f a).pos) = true then (a : Int) else lastN f d a (min low (f a).pos)

/-- A list of n runs. -/
def RunsRd (w : World) (g n : Nat) (f : Nat → RS) : Prop := g < w.heap.size ∧ ∀ i, i < n → ∃ p q rv cap, w.cell? ⟨g, i, none⟩ = some (.pointer (some ⟨p, 0, none⟩)) ∧ RunAt w p q rv cap (f i)
theorem RunsRd.drewN {w : World} {g n : Nat} {f : Nat → RS} (h : RunsRd w g n f) (k : Nat) : RunsRd (w.drewN k) g n f := ⟨h.1, fun i hi => by
  obtain ⟨p, q, rv, cap, h1, h2⟩ := h.2 i hi
  exact ⟨p, q, rv, cap, h1, h2.drewN k⟩⟩

/-- A run whose numbers are small. -/
structure RS.Small (S : RS) : Prop where
  p0 : -100000 ≤ S.pos
  p1 : S.pos ≤ 100000
  len : S.cells.length ≤ 1099511627776
  f0 : -1099511627776 ≤ S.fr
  f1 : S.fr ≤ -8
theorem RS.Inv.small {m : Mach} {k : Nat} {S : RS} (h : S.Inv m k) (hk : k ≤ 100000) : S.Small := ⟨by have := h.pos0; omega, by have := h.pos1; omega, h.len, h.fr0, h.fr1⟩

set_option maxHeartbeats 1000000 in
set_option maxRecDepth 100000 in
theorem last_calls {w : World} {g n c : Nat} {f : Nat → RS} (h : RunsRd w g (n + 1) f) (hs : ∀ i, i < n + 1 → (f i).Small) (hn : n ≤ 100000) :
   Calls Try.prog 48 #[.slice (some ⟨g, 0, none⟩) (n + 1) c] w fun e w' => e = .returned (.int .i64 (lastN f (f n) n (f n).pos)) ∧ ∃ k, w' = w.drewN k := by
  obtain ⟨pd, qd, vd, cd, hcd, hD⟩ := h.2 n (by omega)
  have hsd := hs n (by omega)
  have HH := Lib.hid h
  have HS := Lib.hid hs
  have HD := Lib.hid hD
  have lg := h.1
  have d5 := hD.c5
  clear h hs hD
  have hw1 : IntKind.i64.wrap (((n + 1 : Nat) : Int) - 1) = (n : Int) := by rw [IntWalk.i64_in _ (by omega)]; omega
  have hw2 : IntKind.i64.wrap (((n + 1 : Nat) : Int) - 2) = (n : Int) - 1 := by rw [IntWalk.i64_in _ (by omega)]; omega
  have hpd0 := hsd.p0
  have hpd1 := hsd.p1
  have start : lastN f (f n) n (f n).pos = lastN f (f n) n (f n).pos := rfl
  go_enter Try.func48, Try.ntmps48
  go_wp2
  go_loopw [4, 5] (fun l c wr => ∃ (i : Nat) (low : Int), i ≤ n ∧ c = .int .i64 ((i : Int) - 1) ∧ l = .int .i64 low ∧ -100000 ≤ low ∧ low ≤ 100000 ∧ Off (lastN f (f n) i low = lastN f (f n) n (f n).pos) ∧ Off (∃ k, wr = w.drewN k)) (fun _ c _ => (intOf c + 1).toNat)
  case atStart => exact ⟨n, (f n).pos, Nat.le_refl _, congrArg _ (by omega), rfl, hpd0, hpd1, ⟨rfl⟩, ⟨0, rfl⟩⟩
  case round =>
    obtain ⟨i, low, hi, rfl, rfl, hl0, hl1, hlast, hk⟩ := hrel
    obtain ⟨k0, hwr⟩ := hk.out
    have HWR := Lib.hid hwr
    have hR := hwr ▸ HH.out.drewN k0
    have hD := hwr ▸ HD.out.drewN k0
    have hI := HS.out
    clear hwr hk
    by_cases hz : i = 0
    · subst hz
      have hneg : ((0 : Nat) : Int) - 1 < 0 := by omega
      have hfin : lastN f (f n) n (f n).pos = -1 := hlast.out.symm
      have HFIN := Lib.hid hfin
      clear hfin hR hD hI
      go_wp2
      go_ret
      exact ⟨by rw [HFIN.out]; rfl, k0, HWR.out⟩
    · obtain ⟨a, rfl⟩ : ∃ a, i = a + 1 := ⟨i - 1, by omega⟩
      obtain ⟨p, q, rv, cap, hc, hC⟩ := hR.2 a (by omega)
      have hsc := hI a (by omega)
      have hsd2 := hI n (by omega)
      have lD := hsd2.len
      have fD := hsd2.f0
      have fD1 := hsd2.f1
      have lC := hsc.len
      have fC := hsc.f0
      have fC1 := hsc.f1
      have pC0 := hsc.p0
      have pC1 := hsc.p1
      have ha1 : (((a + 1 : Nat) : Int) - 1) = (a : Int) := by omega
      have hwa : IntKind.i64.wrap ((a : Int) - 1) = (a : Int) - 1 := IntWalk.i64_in _ (by omega)
      have hlg := hR.1
      have c4 := hC.c4
      have c5 := hC.c5
      have d4 := hD.c4
      have d5 := hD.c5
      have hla : lastN f (f n) (a + 1) low = (if 0 ≤ (f n).pos - (f a).pos ∧ (f a).st = (f n).st ∧ alike (f a) (f n) (min low (f a).pos) ((f n).pos - (f a).pos) = true then (a : Int) else lastN f (f n) a (min low (f a).pos)) := rfl
      rw [hlast.out] at hla
      have HLA := Lib.hid hla
      have HC := Lib.hid hC
      have HDD := Lib.hid hD
      have hw3 : IntKind.i64.wrap ((f n).pos - (f a).pos) = (f n).pos - (f a).pos := IntWalk.i64_in _ (by omega)
      rw [ha1]
      clear hla hlast hC hD hR hI hsc hsd2 hz
      have lowd : (if (f a).pos < low then (f a).pos else low) = min low (f a).pos := by omega
      have lm0 : -100000 ≤ min low (f a).pos := by omega
      have lm1 : min low (f a).pos ≤ 100000 := by omega
      go_wp2
      refine wp_tail 9 (by kernel_rfl) (by kernel_rfl) ?_
      simp only [List.take_succ_cons, List.take_zero, List.drop_succ_cons, List.drop_zero]
      repeat still_step
      refine wpStill_nil ?_
      go_wp2
      refine wp_name fun W6 hW6 => ?_
      have hw6 : ∃ k, W6 = w.drewN k := ⟨k0 + 1, by rw [hW6, HWR.out]; rfl⟩
      have hC6 : RunAt W6 p q rv cap (f a) := by rw [hW6]; exact HC.out.drewN 1
      have hD6 : RunAt W6 pd qd vd cd (f n) := by rw [hW6]; exact HDD.out.drewN 1
      clear c4 c5 d4 d5 hc
      have c4 := hC6.c4
      have d4 := hD6.c4
      have HC6 := Lib.hid hC6
      have HD6 := Lib.hid hD6
      have HW6 := Lib.hid hw6
      clear hW6 hC6 hD6 hw6
      by_cases h1 : 0 ≤ (f n).pos - (f a).pos
      · have k1 : decide ((f a).pos ≤ (f n).pos) = true := by simp; omega
        have k2 : decide (0 ≤ (f n).pos - (f a).pos) = true := by simp; omega
        by_cases h2 : (f a).st = (f n).st
        · have k3 : ((f a).st == (f n).st) = true := by simp [h2]
          by_cases h3 : alike (f a) (f n) (min low (f a).pos) ((f n).pos - (f a).pos) = true
          · have hfin := HLA.out
            rw [if_pos ⟨h1, h2, h3⟩] at hfin
            have HFIN := Lib.hid hfin
            clear h2 hfin
            go_quiet (first | (go_at_call 70; refine Calls.quiet_of (alike_calls (HC6.out.drewN _) (HD6.out.drewN _) _ _ (by omega) (by omega) (by omega) (by omega) (by omega) (by omega) (by omega) (by omega) (by omega) (by omega))))
            go_wp2
            go_ret
            obtain ⟨k, hk⟩ := HW6.out
            exact ⟨by rw [HFIN.out]; rfl, k + nq, by rw [hk]; exact World.drewN_drewN _ _ _⟩
          · have h3' : alike (f a) (f n) (min low (f a).pos) ((f n).pos - (f a).pos) = false := by simpa using h3
            have hfin := HLA.out
            rw [if_neg (fun h => h3 h.2.2)] at hfin
            have HFIN := Lib.hid hfin
            clear h2 hfin h3
            go_quiet (first | (go_at_call 70; refine Calls.quiet_of (alike_calls (HC6.out.drewN _) (HD6.out.drewN _) _ _ (by omega) (by omega) (by omega) (by omega) (by omega) (by omega) (by omega) (by omega) (by omega) (by omega))))
            go_wp2
            go_roundw
            case rel =>
              obtain ⟨k, hk⟩ := HW6.out
              exact ⟨a, min low (f a).pos, by omega, rfl, rfl, lm0, lm1, ⟨HFIN.out.symm⟩, ⟨k + nq, by rw [hk]; exact World.drewN_drewN _ _ _⟩⟩
            case measure => (try simp [intOf]); (try omega)
        · have k3 : ((f a).st == (f n).st) = false := by simp [h2]
          have hfin := HLA.out
          rw [if_neg (fun h => h2 h.2.1)] at hfin
          have HFIN := Lib.hid hfin
          clear h2 hfin
          go_quiet (fail)
          go_wp2
          go_roundw
          case rel =>
            obtain ⟨k, hk⟩ := HW6.out
            exact ⟨a, min low (f a).pos, by omega, rfl, rfl, lm0, lm1, ⟨HFIN.out.symm⟩, ⟨k + nq, by rw [hk]; exact World.drewN_drewN _ _ _⟩⟩
          case measure => (try simp [intOf]); (try omega)
      · have k1 : decide ((f a).pos ≤ (f n).pos) = false := by simp; omega
        have k2 : decide (0 ≤ (f n).pos - (f a).pos) = false := by simp; omega
        have hfin := HLA.out
        rw [if_neg (fun h => h1 h.1)] at hfin
        have HFIN := Lib.hid hfin
        clear h1 hfin
        go_quiet (fail)
        go_wp2
        go_roundw
        case rel =>
          obtain ⟨k, hk⟩ := HW6.out
          exact ⟨a, min low (f a).pos, by omega, rfl, rfl, lm0, lm1, ⟨HFIN.out.symm⟩, ⟨k + nq, by rw [hk]; exact World.drewN_drewN _ _ _⟩⟩
        case measure => (try simp [intOf]); (try omega)

end Go.Proofs.Ytggfcdjmeodggaa

/- Contracts of package loop. -/
import Derived.Test.YtggfcdjmeodggaaRun3
set_option linter.unusedVariables false
set_option linter.unusedSimpArgs false
namespace Go.Proofs.Ytggfcdjmeodggaa
open Go.RowKit

theorem max_calc (a b : Int) : (if b < a then a else b) = max a b := by omega

set_option maxHeartbeats 1000000 in
set_option maxRecDepth 100000 in
theorem alike_calls {pa qa ca pb qb cb : Nat} {va vb : Value} {A B : RS} {w : World} (ha : RunAt w pa qa va ca A) (hb : RunAt w pb qb vb cb B) (x by_ : Int)
   (hx0 : -1099511627776 ≤ x) (hx1 : x ≤ 1099511627776) (hy0 : -2097152 ≤ by_) (hy1 : by_ ≤ 2097152)
   (la : A.cells.length ≤ 1099511627776) (fa0 : -1099511627776 ≤ A.fr) (fa1 : A.fr ≤ 0) (lb : B.cells.length ≤ 1099511627776) (fb0 : -1099511627776 ≤ B.fr) (fb1 : B.fr ≤ 0) :
   Calls Try.prog 70 #[.pointer (some ⟨pa, 0, none⟩), .pointer (some ⟨pb, 0, none⟩), .int .i64 x, .int .i64 by_] w fun e w' => e = .returned (.bool (alike A B x by_)) ∧ ∃ k, w' = w.drewN k := by
  have HA := Lib.hid ha
  have HB := Lib.hid hb
  clear ha hb
  have hla : A.last = A.fr + A.cells.length - 1 := rfl
  have hlb : B.last = B.fr + B.cells.length - 1 := rfl
  have b1 : -1099511627777 ≤ A.last := by omega
  have b2 : A.last ≤ 1099511627776 := by omega
  have b3 : -1099511627777 ≤ B.last := by omega
  have b4 : B.last ≤ 1099511627776 := by omega
  have HLA := Lib.hid hla
  have HLB := Lib.hid hlb
  go_enter Try.func70, Try.ntmps70
  go_wp2_with fail
  refine (bounds_calls HA.out (by omega) (by omega) (by omega)).mono ?_
  rintro e w1 ⟨rfl, n1, rfl⟩
  rw [← HLA.out]
  clear hla
  go_wp2_with fail
  refine (bounds_calls (HB.out.drewN n1) (by omega) (by omega) (by omega)).mono ?_
  rintro e w1 ⟨rfl, n2, rfl⟩
  rw [← HLB.out]
  clear hlb
  go_wp2_with fail
  have start : Off (alikeN A B by_ (max A.last (B.last - by_) - x + 1).toNat x = alike A B x by_) := ⟨rfl⟩
  have hw1 : IntKind.i64.wrap (B.last - by_) = B.last - by_ := IntWalk.i64_in _ (by omega)
  go_loop [13] (fun v => ∃ y : Int, v = .int .i64 y ∧ -1099511627776 ≤ y ∧ y ≤ 1099513724929 ∧ Off (alikeN A B by_ (max A.last (B.last - by_) - y + 1).toNat y = alike A B x by_)) (fun v => (max A.last (B.last - by_) - intOf v + 1).toNat)
  case atStart => exact ⟨x, rfl, hx0, by omega, start⟩
  case round =>
    obtain ⟨y, rfl, y0, y1, ho⟩ := hrel
    by_cases hm : A.last < B.last - by_
    all_goals
      by_cases hle : y ≤ max A.last (B.last - by_)
      · have hw2 : IntKind.i64.wrap (y + by_) = y + by_ := IntWalk.i64_in _ (by omega)
        have hw3 : IntKind.i64.wrap (y + 1) = y + 1 := IntWalk.i64_in _ (by omega)
        have hle' : y ≤ A.last ∨ y ≤ B.last - by_ := by omega
        obtain ⟨n, hn⟩ : ∃ n, (max A.last (B.last - by_) - y + 1).toNat = n + 1 := ⟨(max A.last (B.last - by_) - y).toNat, by omega⟩
        have hn2 : (max A.last (B.last - by_) - (y + 1) + 1).toNat = n := by omega
        have ho2 := ho.out
        rw [hn] at ho2
        simp only [alikeN] at ho2
        have HN := Lib.hid hn
        have HN2 := Lib.hid hn2
        have HO2 := Lib.hid ho2
        clear ho start hn hn2 ho2
        go_wp2_with fail
        refine (read_calls (HA.out.drewN _) y (by omega) (by omega) (by omega) (by omega)).mono ?_
        rintro e w' ⟨rfl, rfl⟩
        go_wp2_with fail
        refine (read_calls (HB.out.drewN _) (y + by_) (by omega) (by omega) (by omega) (by omega)).mono ?_
        rintro e w' ⟨rfl, rfl⟩
        by_cases heq : A.rd y = B.rd (y + by_)
        · have he : (A.rd y != B.rd (y + by_)) = false := by simp [heq]
          have HE := Lib.hid heq
          clear heq
          go_wp2
          go_round
          case rel => exact ⟨y + 1, rfl, by omega, by omega, ⟨by rw [HN2.out]; have := HO2.out; rw [if_pos HE.out] at this; exact this⟩⟩
          case measure => simp [intOf]; omega
        · have he : (A.rd y != B.rd (y + by_)) = true := by simp [heq]
          have HE := Lib.hid heq
          clear heq
          go_wp2
          go_ret
          have := HO2.out
          rw [if_neg HE.out] at this
          exact ⟨by rw [← this]; rfl, _, rfl⟩
      · have hz : (max A.last (B.last - by_) - y + 1).toNat = 0 := by omega
        have ho2 := ho.out
        rw [hz] at ho2
        simp only [alikeN] at ho2
        have HO2 := Lib.hid ho2
        have hle1 : A.last < y := by omega
        have hle2 : B.last - by_ < y := by omega
        clear ho start hz ho2
        go_wp2
        go_ret
        exact ⟨by rw [← HO2.out]; rfl, _, rfl⟩

end Go.Proofs.Ytggfcdjmeodggaa

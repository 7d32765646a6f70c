/- Contract of the reference's Valid. -/
import Derived.Test.YtggfcdjmeodggaaValid
import Derived.WalkSpells
set_option linter.unusedVariables false
set_option linter.unusedSimpArgs false
namespace Go.Proofs.Ytggfcdjmeodggaa
open Go.RowKit

set_option maxHeartbeats 2000000 in
set_option maxRecDepth 100000 in
theorem refValid_calls {B : Nat} {m : Mach} {rv : Value} {w : World} (hr : RulesRd B w rv m.rules) (hB : B ≤ w.heap.size) :
   Calls Try.prog 10 #[.agg #[.int .i64 m.st, .int .i64 m.sy, rv]] w (ValidPost m w) := by
  have HR := Lib.hid hr
  obtain ⟨A, c', rfl, hl1, hl2, hxx⟩ := hr
  simp only [maxLen] at hl2
  have hl3 : m.rules.length ≤ 9223372036854775807 := by omega
  clear hl1 hl2 hxx
  by_cases hh : HeadOk m
  · obtain ⟨a1, a2, a3, a4, a5⟩ := hh
    have hne : ((m.rules.length : Int) != m.st) = false := by simp [a5]
    have HA5 := Lib.hid a5
    clear a5
    go_enter Try.func10, Try.ntmps10
    go_wp2
    go_loopw [3] (fun c wr => ∃ i : Nat, i ≤ m.rules.length ∧ c = .int .i64 i ∧ Off (∀ k, k < i → RowOk m.st m.sy (rowAt m.rules k)) ∧ Off (wr.heap[w.heap.size]? = some (.cells #[.int .i64 m.st, .int .i64 m.sy, .slice A m.rules.length c'] 24 (0, 0))) ∧ Off (Fr (fun _ => False) w wr)) (fun c _ => m.rules.length - (intOf c).toNat)
    case atStart => exact ⟨0, Nat.zero_le _, rfl, ⟨fun k hk => by omega⟩, ⟨blk_new _ _⟩, ⟨(Fr.refl _ _).alloc _⟩⟩
    case round =>
      obtain ⟨i, hi, rfl, hok, hbx, hfr⟩ := hrel
      have e0 : wr.cell? ⟨w.heap.size, 0, none⟩ = some (.int .i64 m.st) := (blk_cell hbx.out 0).trans rfl
      have e1 : wr.cell? ⟨w.heap.size, 1, none⟩ = some (.int .i64 m.sy) := (blk_cell hbx.out 1).trans rfl
      have e2 : wr.cell? ⟨w.heap.size, 2, none⟩ = some (.slice A m.rules.length c') := (blk_cell hbx.out 2).trans rfl
      have hA := HA5.out
      by_cases hlt : i < m.rules.length
      · have hlt' : (i : Int) < m.st := by omega
        clear hA
        have hr1 : RulesRd B wr (.slice A m.rules.length c') m.rules := HR.out.below (fun k hk => hfr.out.block k (by omega) id)
        obtain ⟨b, o, c2, A', c3, hv, hbB, _, hrow, hrl, hcs⟩ := hr1.row i hlt
        simp only [Value.slice.injEq] at hv
        obtain ⟨rfl, _, rfl⟩ := hv
        have HCS := Lib.hid hcs
        clear hr1 hcs
        by_cases hlen : ((rowAt m.rules i).length : Int) = m.sy
        · have hne2 : (((rowAt m.rules i).length : Int) != m.sy) = false := by simp [hlen]
          have HL := Lib.hid hlen
          clear hlen
          go_wp2
          refine wp_tail 8 (by kernel_rfl) (by kernel_rfl) ?_
          simp only [List.take_succ_cons, List.take_zero, List.drop_succ_cons, List.drop_zero]
          repeat still_step
          refine wpStill_nil ?_
          go_wp2
          refine wp_name fun wo hwo => ?_
          have hfo : Fr (fun _ => False) wr wo := by rw [hwo]; exact (Fr.refl _ _).drew
          have hfr0 : Off (Fr (fun _ => False) w wo) := ⟨hfr.out.trans hfo (fun _ _ e => e)⟩
          have hbx0 : Off (wo.heap[w.heap.size]? = some (.cells #[.int .i64 m.st, .int .i64 m.sy, .slice (some ⟨b, o, none⟩) m.rules.length c'] 24 (0, 0))) := ⟨hfo.keep hbx.out id⟩
          have hcs2 : ∀ j, j < (rowAt m.rules i).length → ∃ b' o', A' = some ⟨b', o', none⟩ ∧ b' < B ∧ wo.cell? ⟨b', o' + j * 3, none⟩ = some (.int .i64 (ruleIn (rowAt m.rules i) j).w) ∧ wo.cell? ⟨b', o' + j * 3 + 1, none⟩ = some (.int .i64 (ruleIn (rowAt m.rules i) j).m) ∧ wo.cell? ⟨b', o' + j * 3 + 2, none⟩ = some (.int .i64 (ruleIn (rowAt m.rules i) j).n) := by
            intro j hj
            obtain ⟨b', o', q1, q2, q3, q4, q5⟩ := HCS.out j hj
            exact ⟨b', o', q1, q2, hfo.cell q3 id, hfo.cell q4 id, hfo.cell q5 id⟩
          have HCS2 := Lib.hid hcs2
          have HROW := Lib.hid (hfo.cell hrow id)
          clear hcs2
          have hsz := hfr.out.size
          clear hwo hfo
          go_loopw [4] (fun c wr => ∃ j : Nat, j ≤ (rowAt m.rules i).length ∧ c = .int .i64 j ∧ Off (∀ k, k < j → RuleOk m.st m.sy (ruleIn (rowAt m.rules i) k)) ∧ Off (wr.heap[w.heap.size]? = some (.cells #[.int .i64 m.st, .int .i64 m.sy, .slice (some ⟨b, o, none⟩) m.rules.length c'] 24 (0, 0))) ∧ Off (Fr (fun _ => False) w wr)) (fun c _ => (rowAt m.rules i).length - (intOf c).toNat)
          case atStart => exact ⟨0, Nat.zero_le _, rfl, ⟨fun k hk => by omega⟩, hbx0, hfr0⟩
          case round =>
            obtain ⟨j, hj, rfl, hok2, hbx2, hfr2⟩ := hrel
            have d0 : wr.cell? ⟨w.heap.size, 0, none⟩ = some (.int .i64 m.st) := (blk_cell hbx2.out 0).trans rfl
            have d1 : wr.cell? ⟨w.heap.size, 1, none⟩ = some (.int .i64 m.sy) := (blk_cell hbx2.out 1).trans rfl
            have d2 : wr.cell? ⟨w.heap.size, 2, none⟩ = some (.slice (some ⟨b, o, none⟩) m.rules.length c') := (blk_cell hbx2.out 2).trans rfl
            have lbx := blk_lt hbx2.out
            have hA := HL.out
            by_cases hlt2 : j < (rowAt m.rules i).length
            · have hlt2' : (j : Int) < m.sy := by omega
              clear hA
              obtain ⟨b1, o1, rfl, hb1, k1, k2, k3⟩ := HCS2.out j hlt2
              have hsame : ∀ x, wr.cell? ⟨b1, x, none⟩ = wo.cell? ⟨b1, x, none⟩ := fun x =>
                World.cell?_of_block ((hfr2.out.block b1 (by omega) id).trans (hfr0.out.block b1 (by omega) id).symm)
              have lb1 : b1 < wr.heap.size := by omega
              have hwj : IntKind.i64.wrap ((j : Int) + 1) = (j : Int) + 1 := IntWalk.i64_in _ (by omega)
              rw [← hsame] at k1 k2 k3
              have hrow2 := (World.cell?_of_block ((hfr2.out.block b (by omega) id).trans (hfr0.out.block b (by omega) id).symm)).trans HROW.out
              have lbb : b < wr.heap.size := by omega
              clear hsame
              by_cases hru : RuleOk m.st m.sy (ruleIn (rowAt m.rules i) j)
              · obtain ⟨r1, r2, r3, r4, r5⟩ := hru
                have HRU := Lib.hid (show RuleOk m.st m.sy (ruleIn (rowAt m.rules i) j) from ⟨r1, r2, r3, r4, r5⟩)
                have fin : ∀ k, k < j + 1 → RuleOk m.st m.sy (ruleIn (rowAt m.rules i) k) := fun k hk => by
                  by_cases e : k = j
                  · rw [e]; exact HRU.out
                  · exact hok2.out k (by omega)
                have FIN := Lib.hid fin
                clear fin
                by_cases hm : (ruleIn (rowAt m.rules i) j).m = -1
                · have hm1 : ((ruleIn (rowAt m.rules i) j).m != -1) = false := by simp [hm]
                  clear hm r3
                  go_wp2
                  go_roundw
                  case rel => exact ⟨j + 1, by omega, by go_num, ⟨FIN.out⟩, ⟨blk_alloc hbx2.out _⟩, ⟨hfr2.out.alloc _⟩⟩
                  case measure => simp [intOf]; omega
                · have hm1 : ((ruleIn (rowAt m.rules i) j).m != -1) = true := by simp [hm]
                  have hm2 : ((ruleIn (rowAt m.rules i) j).m != 1) = false := by
                    have : (ruleIn (rowAt m.rules i) j).m = 1 := by omega
                    simp [this]
                  clear hm r3
                  go_wp2
                  go_roundw
                  case rel => exact ⟨j + 1, by omega, by go_num, ⟨FIN.out⟩, ⟨blk_alloc hbx2.out _⟩, ⟨hfr2.out.alloc _⟩⟩
                  case measure => simp [intOf]; omega
              · have hno : ¬ m.Ok := fun h => hru ((((Mach.ok_iff m).1 h).2 i hlt).2 j hlt2)
                have HN := Lib.hid hno
                clear hno
                unfold RuleOk at hru
                by_cases hm : (ruleIn (rowAt m.rules i) j).m = -1
                · have h1 : (ruleIn (rowAt m.rules i) j).w < 0 ∨ m.sy ≤ (ruleIn (rowAt m.rules i) j).w ∨ (ruleIn (rowAt m.rules i) j).n < -1 ∨ m.st ≤ (ruleIn (rowAt m.rules i) j).n := by omega
                  have hm1 : ((ruleIn (rowAt m.rules i) j).m != -1) = false := by simp [hm]
                  clear hru hm
                  go_wp2
                  all_goals
                    go_ret
                    exact ValidPost.no HN.out (hfr2.out.alloc _)
                · have hm1 : ((ruleIn (rowAt m.rules i) j).m != -1) = true := by simp [hm]
                  by_cases hm0 : (ruleIn (rowAt m.rules i) j).m = 1
                  · have h1 : (ruleIn (rowAt m.rules i) j).w < 0 ∨ m.sy ≤ (ruleIn (rowAt m.rules i) j).w ∨ (ruleIn (rowAt m.rules i) j).n < -1 ∨ m.st ≤ (ruleIn (rowAt m.rules i) j).n := by omega
                    have hm2 : ((ruleIn (rowAt m.rules i) j).m != 1) = false := by simp [hm0]
                    clear hru hm hm0
                    go_wp2
                    all_goals
                      go_ret
                      exact ValidPost.no HN.out (hfr2.out.alloc _)
                  · have hm2 : ((ruleIn (rowAt m.rules i) j).m != 1) = true := by simp [hm0]
                    clear hru hm hm0
                    go_wp2
                    all_goals
                      go_ret
                      exact ValidPost.no HN.out (hfr2.out.alloc _)
            · have hlt2' : m.sy ≤ (j : Int) := by omega
              clear hA
              have fin : ∀ k, k < i + 1 → RowOk m.st m.sy (rowAt m.rules k) := fun k hk => by
                by_cases e : k = i
                · rw [e]; exact ⟨HL.out, fun t ht => hok2.out t (by omega)⟩
                · exact hok.out k (by omega)
              have FIN := Lib.hid fin
              have hwi : IntKind.i64.wrap ((i : Int) + 1) = (i : Int) + 1 := IntWalk.i64_in _ (by omega)
              clear fin
              go_wp2
              go_roundw
              case rel => exact ⟨i + 1, by omega, by go_num, ⟨FIN.out⟩, hbx2, hfr2⟩
              case measure => simp [intOf]; omega
        · have hne2 : (((rowAt m.rules i).length : Int) != m.sy) = true := by simp [hlen]
          have hno : ¬ m.Ok := fun h => hlen (((Mach.ok_iff m).1 h).2 i hlt).1
          have HN := Lib.hid hno
          clear hlen hno
          go_wp2
          refine wp_tail 8 (by kernel_rfl) (by kernel_rfl) ?_
          simp only [List.take_succ_cons, List.take_zero, List.drop_succ_cons, List.drop_zero]
          repeat still_step
          refine wpStill_nil ?_
          go_wp2
          go_ret
          exact ValidPost.no HN.out hfr.out.drew
      · have hlt' : m.st ≤ (i : Int) := by omega
        clear hA
        have hyes : m.Ok := (Mach.ok_iff m).2 ⟨⟨a1, a2, a3, a4, HA5.out⟩, fun k hk => hok.out k (by omega)⟩
        have HY := Lib.hid hyes
        clear hyes
        go_wp2
        go_ret
        exact ValidPost.yes HY.out hfr.out
  · have hno : ¬ m.Ok := fun h => hh ((Mach.ok_iff m).1 h).1
    have h0 : m.st < 1 ∨ 6 < m.st ∨ m.sy < 2 ∨ 4 < m.sy ∨ (m.rules.length : Int) ≠ m.st := by
      unfold HeadOk at hh
      omega
    have HN := Lib.hid hno
    clear hh hno
    by_cases hl : (m.rules.length : Int) = m.st
    · have hne : ((m.rules.length : Int) != m.st) = false := by simp [hl]
      have h1 : m.st < 1 ∨ 6 < m.st ∨ m.sy < 2 ∨ 4 < m.sy := by omega
      clear hl h0
      go_enter Try.func10, Try.ntmps10
      go_wp2
      all_goals
        go_ret
        exact ValidPost.no HN.out ((Fr.refl _ _).alloc _)
    · have hne : ((m.rules.length : Int) != m.st) = true := by simp [hl]
      clear hl h0
      go_enter Try.func10, Try.ntmps10
      go_wp2
      all_goals
        go_ret
        exact ValidPost.no HN.out ((Fr.refl _ _).alloc _)

end Go.Proofs.Ytggfcdjmeodggaa

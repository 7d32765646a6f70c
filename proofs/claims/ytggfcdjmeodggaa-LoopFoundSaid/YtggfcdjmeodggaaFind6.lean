/- loop.Find: the iterator. -/
import Derived.Test.YtggfcdjmeodggaaFind5
import Derived.LoopIn
set_option linter.unusedVariables false
set_option linter.unusedSimpArgs false
namespace Go.Proofs.Ytggfcdjmeodggaa
open Go.RowKit

/-- How the iterator ends. -/
def ItEnd (fn : FuncId) (E : FE) (u : Nat → Value) (l D : Nat) (e : Ending) (W' : World) : Prop :=
  (∃ v, e = .returned v) ∧ ((∃ k, k ≤ E.n ∧ (∀ j, j < k → (E.F j).st ≠ -1 ∧ E.a j < 0) ∧ (E.F k).st ≠ -1 ∧ Halt fn E u l D k W') ∨
    ((∀ j, j ≤ E.n → (∀ i, i ≤ j → (E.F i).st ≠ -1) → E.a j < 0) ∧ ∃ k p q X, Mid fn E u l D k p q X W'))

theorem Mid.keep {fn : FuncId} {E : FE} (hE : E.Ok) {u : Nat → Value} {l D k p q q' : Nat} {U X X' : Nat → Prop} {W W' : World} (h : Mid fn E u l D k p q X W) (hf : Fr U W W') (hX : ∀ b, X' b → X b ∨ W.heap.size ≤ b) (hq : q' = q ∨ W.heap.size ≤ q') (hp : ∀ cur fz, W.heap[p]? ≠ some (.cells cur 3 fz))
    (hU : ∀ b, U b → b < W.heap.size → (b = p ∨ b = q) ∧ E.B1 ≤ b ∧ (∃ cur T fz, W.heap[b]? = some (Obj.cells cur T fz) ∧ T ≠ 79)) : Mid fn E u l D k p q' X' W' := by
  have gp := hE.p1
  have gc := hE.c1
  have gb := hE.b1
  have gm := hE.op
  refine ⟨h.bi.keep hE hf hX hq hp (fun b x hb => ?_), hf.keep h.L (fun x => ?_), hf.keep h.K (fun x => ?_)⟩
  · obtain ⟨h1, h2, cur, T, fz, h3, h4⟩ := hU b x hb
    refine ⟨by omega, by omega, ⟨by omega, by omega⟩, fun cur' fz' e => ?_, by rcases h1 with e | e; exact .inl e; exact .inr (.inl e)⟩
    rw [h3] at e
    simp only [Option.some.injEq, Obj.cells.injEq] at e
    exact h4 e.2.1
  · obtain ⟨_, _, cur, T, fz, h3, _⟩ := hU l x (Array.getElem?_eq_some_iff.1 h.L).1
    rw [h.L] at h3
    cases h3
  · obtain ⟨_, _, cur, T, fz, h3, _⟩ := hU D x (Array.getElem?_eq_some_iff.1 h.K).1
    rw [h.K] at h3
    cases h3

set_option maxHeartbeats 2000000 in
set_option maxRecDepth 100000 in
theorem iter_in {fn : FuncId} {E : FE} (hE : E.Ok) {u : Nat → Value} {l D bm : Nat} {W0 : World} (hl : E.Bm ≤ l) (hDl : D ≠ l) (hn : E.n ≤ 2000) (hbm : W0.heap[bm]? = some (.cells #[.int .i64 E.m.st, .int .i64 E.m.sy, E.rv] 24 (0, 0)))
    (hL : W0.heap[l]? = some (.loop (fRec fn E u D .ready none))) (hK : W0.heap[D]? = some (.deferred (some []))) (hs : ∀ p q, E.B1 ≤ p → E.B1 ≤ q → BI E 0 p q (fun _ => False) W0) (m : Nat) :
    CallsIn Fence.wide m Try.prog 66 #[.func (.yield l) #[] #[], .pointer (some ⟨bm, 0, none⟩), .pointer (some ⟨E.bn, 0, none⟩)] W0 (ItEnd fn E u l D) := by
  have HE := Lib.hid hE
  have HS := Lib.hid hs
  have HL := Lib.hid hL
  have HK := Lib.hid hK
  obtain ⟨Ar, nr, cr, hform⟩ := hE.form
  have hsz0 : E.B1 ≤ W0.heap.size := (hs E.B1 E.B1 (Nat.le_refl _) (Nat.le_refl _)).sz
  have e0 : W0.cell? ⟨bm, 0, none⟩ = some (.int .i64 E.m.st) := (blk_cell hbm 0).trans rfl
  have e1 : W0.cell? ⟨bm, 1, none⟩ = some (.int .i64 E.m.sy) := (blk_cell hbm 1).trans rfl
  have e2 : W0.cell? ⟨bm, 2, none⟩ = some (.slice Ar nr cr) := by rw [← hform]; exact (blk_cell hbm 2).trans rfl
  have HFORM := Lib.hid hform
  clear hE hs hL hK hform hbm
  refine callsIn_of_wp Try.func66 rfl trivial ?_ rfl
  simp only [Try.ntmps66, List.size_toArray, List.length_cons, List.length_nil, Nat.reduceAdd, Nat.reduceSub, Array.replicate_succ, Array.replicate_zero, List.push_toArray, List.append_toArray, List.nil_append, List.cons_append]
  gi_wp2_with fail
  refine ⟨trivial, fun h => (by cases h), (callsIn_wide.2 (new_calls E.m.st E.m.sy Ar nr cr W0)).mono ?_⟩
  rintro e W1 ⟨p, q0, rfl, hp, hq0, hR, hF1⟩
  have hit : RunAt W1 p q0 E.rv 16 (E.F 0) := by rw [HFORM.out]; exact hR
  have hM0 : Mid fn E u l D 0 p q0 (fun _ => False) W0 := ⟨HS.out p q0 (by omega) (by omega), HL.out, HK.out⟩
  have hM : Mid fn E u l D 0 p q0 (fun _ => False) W1 := hM0.keep HE.out hF1 (fun b x => x.elim) (.inl rfl) (fun cur fz e => by have := blk_lt e; omega) (fun b x => x.elim)
  have HM := Lib.hid hM
  have HIT := Lib.hid hit
  clear hM0 hM hit hR hF1 e0 e1 e2
  gi_wp2_with fail
  gi_loopw [5] (fun c wr => ∃ k q cap : Nat, k ≤ E.n + 1 ∧ c = .int .i64 k ∧ E.B1 ≤ q ∧ Off (Mid fn E u l D k p q (fun _ => False) wr) ∧ Off (RunAt wr p q E.rv cap (E.F k)) ∧ Off (∀ j, j < k → (E.F j).st ≠ -1 ∧ E.a j < 0)) (fun c _ => E.n + 1 - (intOf c).toNat)
  case atStart => exact ⟨0, q0, 16, Nat.zero_le _, rfl, by omega, ⟨HM.out⟩, ⟨HIT.out⟩, ⟨fun j hj => by omega⟩⟩
  case round =>
    obtain ⟨k, q, cap, hk, rfl, hq, hM, hR, hall⟩ := hrel
    have en : wr.cell? ⟨E.bn, 0, none⟩ = some (.int .i64 E.n) := (blk_cell hM.out.bi.hn 0).trans rfl
    have c4 := hR.out.c4
    by_cases hkn : k ≤ E.n
    · have hkn' : (k : Int) ≤ E.n := by omega
      by_cases hs : (E.F k).st = -1
      · have hs' : ((E.F k).st != -1) = false := by simp [hs]
        have HSt := Lib.hid hs
        clear hs
        gi_wp2_with fail
        go_end0
        exact ⟨⟨_, rfl⟩, .inr ⟨fun j hj hall2 => by
          rcases Nat.lt_or_ge j k with h | h
          · exact (hall.out j h).2
          · exact absurd HSt.out (hall2 k h), k, p, q, _, hM.out⟩⟩
      · have hs' : ((E.F k).st != -1) = true := by simp [hs]
        have HSt := Lib.hid hs
        have hI : (E.F k).Inv E.m (0 + k) := (RS.Inv.init _ HE.out.ok).steps HE.out.ok k (by omega)
        have hform := HFORM.out
        have hR2 : RunAt wr p q (.slice Ar nr cr) cap (E.F k) := hform ▸ hR.out
        have HR2 := Lib.hid hR2
        have HI := Lib.hid hI
        have lp := blk_lt hR2.blk
        have lq := hR2.row.lt
        have ppm : E.pm < p := by have := HE.out.p1; omega
        clear hs hform hR2 hI
        gi_wp2_with fail
        refine ⟨trivial, fun h => (by cases h), (callsIn_wide.2 (clone_calls HR2.out (by have := HI.out.one; omega) HI.out.len)).mono ?_⟩
        rintro e W2 ⟨pc, qc, capc, rfl, hpc, hqc, hC, hF2⟩
        have hC' : RunAt W2 pc qc E.rv capc (E.F k) := by rw [HFORM.out]; exact hC
        have hM2 : Mid fn E u l D k p q (fun b => b = qc) W2 := hM.out.keep HE.out hF2 (fun b x => .inr (by omega)) (.inl rfl) (fun cur fz e => HR2.out.notInt cur fz e) (fun b x => x.elim)
        have hR3 := hR.out.fr hF2 id id
        have hy := run_yield (P := Try.prog) (args := #[.int .i64 k, .pointer (some ⟨pc, 0, none⟩)]) hM2.L rfl
        have hy2 : (Instr.yield l #[.int .i64 k, .pointer (some ⟨pc, 0, none⟩)]).run Try.prog W2 = .ok (.round l fn (((FT E u).setIfInBounds 31 (.int .i64 k)).setIfInBounds 32 (.pointer (some ⟨pc, 0, none⟩))) Try.findA Try.findB) W2 := by simpa [fRec] using hy
        have HM2 := Lib.hid hM2
        have HR3 := Lib.hid hR3
        have HC := Lib.hid hC'
        clear hy hM2 hR3 hC' hC hF2 c4 en
        gi_wp2_with fail
        refine ⟨fun h => (by cases h), (round_in HE.out (by omega) HM2.out hl hDl (by omega) hq HR3.out HC.out (by omega) (by omega) (by omega) (m - 1)).mono ?_⟩
        rintro e W3 (⟨rfl, hM3, hR3, ha⟩ | ⟨rfl, hH⟩)
        · have HM3 := Lib.hid hM3
          have HR4 := Lib.hid hR3
          have lq3 := hR3.row.lt
          have hr3 : RulesRd E.B W3 E.rv E.m.rules := HE.out.rules.below (fun b hb => hM3.bi.fr.block b (by have := HE.out.hB; omega) id)
          have HRL := Lib.hid hr3
          have hBB : E.B ≤ E.B1 := by
            have g := HE.out
            have g0 := g.hB
            have g4 := g.o4
            have g5 := g.o5
            have g6 := g.o6
            have g7 := g.o7
            have g8 := g.o8
            have g9 := g.o9
            have gl := g.ol
            have gm := g.om
            have gp := g.op
            have gq := g.p1
            omega
          clear hM3 hR3 hr3
          gi_wp2_with fail
          refine ⟨trivial, fun h => (by cases h), (callsIn_wide.2 (step_any (B := E.B) HR4.out HE.out.ok HI.out (by omega) HRL.out (by omega) (by omega))).mono ?_⟩
          rintro e W4 ⟨⟨bb, rfl⟩, q', cap', hq', hR5, hF4⟩
          have hM4 : Mid fn E u l D (k + 1) p q' (fun _ => False) W4 := HM3.out.keep HE.out hF4 (fun b x => x.elim) hq' (fun cur fz e => HR4.out.notInt cur fz e) (fun b x hb => by
            rcases x with rfl | rfl
            · exact ⟨.inl rfl, by omega, _, _, _, HR4.out.blk, by decide⟩
            · obtain ⟨cur, h1, _⟩ := HR4.out.row
              exact ⟨.inr rfl, by omega, _, _, _, h1, by decide⟩)
          have hR6 : RunAt W4 p q' E.rv cap' (E.F (k + 1)) := by rw [show E.F (k + 1) = (E.F k).step E.m.rules from RS.steps_succ _ _ _]; exact hR5
          have hszM := HM3.out.bi.sz
          have HM4 := Lib.hid hM4
          have HR6 := Lib.hid hR6
          have hwk : IntKind.i64.wrap ((k : Int) + 1) = (k : Int) + 1 := IntWalk.i64_in _ (by omega)
          clear hM4 hR6 hR5 hF4
          gi_wp2_with fail
          go_roundw
          case rel =>
            refine ⟨k + 1, q', cap', by omega, by go_num, by omega, ⟨HM4.out⟩, ⟨HR6.out⟩, ⟨fun j hj => ?_⟩⟩
            by_cases e : j = k
            · subst e; exact ⟨HSt.out, ha⟩
            · exact hall.out j (by omega)
          case measure => (try simp [intOf]); (try omega)
        · have HH := Lib.hid hH
          clear hH
          gi_wp2_with fail
          go_end0
          exact ⟨⟨_, rfl⟩, .inl ⟨k, hkn, hall.out, HSt.out, HH.out⟩⟩
    · have hkn' : decide ((k : Int) ≤ E.n) = false := by simp; omega
      gi_wp2_with fail
      go_end0
      exact ⟨⟨_, rfl⟩, .inr ⟨fun j hj _ => (hall.out j (by omega)).2, k, p, q, _, hM.out⟩⟩

end Go.Proofs.Ytggfcdjmeodggaa

/- A machine among the arguments, read. -/
import Derived.Test.YtggfcdjmeodggaaRs
import Derived.Test.YtggfcdjmeodggaaProg
import Derived.Deep.Slices
import Derived.Deep.Strs
import Derived.Lib.SmallJoins
import Derived.ProofKit
set_option linter.unusedVariables false
set_option linter.unusedSimpArgs false
namespace Go.Proofs.Ytggfcdjmeodggaa
open Go.ChangeShapes Go.WideShapes Go.Deep

section
variable {H : Type} {enc : TypeId × Value → H} {w : World}

theorem spot_none {a : Addr} {v : Value} (h : w.cell? a = some v) : a = ⟨a.block, a.off, none⟩ ∧ a.block < w.heap.size := by
  refine ⟨?_, World.block_lt_of_cell? w a h⟩
  obtain ⟨b, o, s⟩ := a
  cases s with
  | none => rfl
  | some s =>
    simp only [World.cell?] at h
    split at h <;> simp at h

theorem read_row {fuel : Nat} {v : Value} {x : DataW H × List MemPlace} (h : DataW.trod enc Try.prog w 0 (fun _ => true) true fuel 73 [v] = some x) : ∃ l : List Rl, RowRd w.heap.size w v l := by
  have hC : Try.prog.cellsOf 75 = 3 := by kernel_rfl
  rcases open_slice Try.underlying73 h with ⟨h0, _⟩ | ⟨a, len, cap, m, n, D, Pl, hcs, hb, hl, hm, hmm, _, hx⟩
  · simp only [List.cons.injEq, and_true] at h0
    subst h0
    exact ⟨[], none, 0, rfl, Nat.le_refl _, Nat.zero_le _, fun h => by simp at h⟩
  · simp only [List.cons.injEq, and_true] at hcs
    subst hcs
    simp only [if_true] at hmm
    rw [hC] at hx
    have each : ∀ i, i < len → ∃ r : Rl, w.cell? (a.add (i * 3)) = some (.int .i64 r.w) ∧ w.cell? (a.add (i * 3 + 1)) = some (.int .i64 r.m) ∧ w.cell? (a.add (i * 3 + 2)) = some (.int .i64 r.n) := by
      intro i hi
      obtain ⟨cs', h1, h2⟩ := hx i (by omega)
      obtain ⟨_, hlen, hcell⟩ := World.cells?_some h1
      obtain ⟨x0, x1, x2, rfl⟩ : ∃ x0 x1 x2, cs' = [x0, x1, x2] := by
        match cs', hlen with
        | [x0, x1, x2], _ => exact ⟨x0, x1, x2, rfl⟩
      obtain ⟨y0, y1, y2, n', _, _, t0, t1, t2⟩ := trod_struct3 Try.underlying75 h2
      have hC1 : Try.prog.cellsOf 3 = 1 := by kernel_rfl
      simp only [hC1] at t0 t1 t2
      obtain ⟨n0, e0, _, _⟩ := DataW.trod_int Try.underlying3 t0
      obtain ⟨n1, e1, _, _⟩ := DataW.trod_int Try.underlying3 t1
      obtain ⟨n2, e2, _, _⟩ := DataW.trod_int Try.underlying3 t2
      simp only [List.drop_zero, List.drop_succ_cons, List.take_succ_cons, List.take_zero, List.cons.injEq, and_true] at e0 e1 e2
      subst e0 e1 e2
      refine ⟨⟨n0, n1, n2⟩, ?_, ?_, ?_⟩
      · have := hcell 0 (by omega)
        rw [add_add, Nat.add_zero] at this
        exact this
      · have := hcell 1 (by omega)
        rw [add_add] at this
        exact this
      · have := hcell 2 (by omega)
        rw [add_add] at this
        exact this
    obtain ⟨f, hf⟩ := choose_lt each
    refine ⟨(List.range len).map f, some a, cap, by simp, by simpa using hl, hm, fun hp => ?_⟩
    simp only [List.length_map, List.length_range] at hp ⊢
    have h0 := (hf 0 hp).1
    have ha : w.cell? a = some (.int .i64 (f 0).w) := by simpa [Addr.add] using h0
    obtain ⟨e1, e2⟩ := spot_none ha
    refine ⟨a.block, a.off, by rw [← e1], e2, fun j hj => ?_⟩
    have hr : ruleIn ((List.range len).map f) j = f j := by
      unfold ruleIn
      simp [List.getD_eq_getElem?_getD, hj]
    rw [hr]
    obtain ⟨k1, k2, k3⟩ := hf j hj
    rw [e1, Addr.add_lit] at k1 k2 k3
    exact ⟨k1, k2, k3⟩

theorem read_rules {fuel : Nat} {v : Value} {x : DataW H × List MemPlace} (h : DataW.trod enc Try.prog w 0 (fun _ => true) true fuel 22 [v] = some x) : ∃ r : List (List Rl), RulesRd w.heap.size w v r := by
  have hC : Try.prog.cellsOf 73 = 1 := by kernel_rfl
  rcases open_slice1 Try.underlying22 hC h with ⟨h0, _⟩ | ⟨a, len, cap, m, n, V, D, Pl, hcs, hb, hl, hm, hmm, _, hx⟩
  · simp only [List.cons.injEq, and_true] at h0
    subst h0
    exact ⟨[], none, 0, rfl, Nat.le_refl _, Nat.zero_le _, fun h => by simp at h⟩
  · simp only [List.cons.injEq, and_true] at hcs
    subst hcs
    simp only [if_true] at hmm
    have each : ∀ i, i < len → ∃ l : List Rl, w.cell? (a.add i) = some (V i) ∧ RowRd w.heap.size w (V i) l := by
      intro i hi
      obtain ⟨h1, h2⟩ := hx i (by omega)
      obtain ⟨l, hl⟩ := read_row h2
      exact ⟨l, h1, hl⟩
    obtain ⟨f, hf⟩ := choose_lt each
    refine ⟨(List.range len).map f, some a, cap, by simp, by simpa using hl, hm, fun hp => ?_⟩
    simp only [List.length_map, List.length_range] at hp ⊢
    have h0 := (hf 0 hp).1
    have ha : w.cell? a = some (V 0) := by simpa [Addr.add] using h0
    obtain ⟨e1, e2⟩ := spot_none ha
    refine ⟨a.block, a.off, by rw [← e1], e2, fun i hi => ?_⟩
    have hr : rowAt ((List.range len).map f) i = f i := by
      unfold rowAt
      simp [List.getD_eq_getElem?_getD, hi]
    rw [hr]
    obtain ⟨k1, k2⟩ := hf i hi
    rw [e1, Addr.add_lit] at k1
    exact ⟨_, k1, k2⟩

set_option maxRecDepth 100000 in
/-- A machine, as an argument by value. -/
theorem read_mach {r : Reach} {b0 : Nat} {v : Value} {d : DataW H} {p : List MemPlace} (hv : Value.okWide Try.prog w r b0 24 v) (h : DataW.Trod enc Try.prog w 0 (fun _ => true) true 24 v d p) :
    ∃ (m : Mach) (rv : Value), v = .agg #[.int .i64 m.st, .int .i64 m.sy, rv] ∧ RulesRd w.heap.size w rv m.rules := by
  obtain ⟨v0, v1, v2, y0, y1, y2, n, rfl, _, _, t0, t1, t2⟩ := Joins.open_agg3 Try.underlying24 (by kernel_rfl) (by kernel_rfl) hv h
  obtain ⟨n0, e0, _, _⟩ := DataW.trod_int Try.underlying3 t0
  obtain ⟨n1, e1, _, _⟩ := DataW.trod_int Try.underlying3 t1
  simp only [List.cons.injEq, and_true] at e0 e1
  subst e0 e1
  obtain ⟨r, hr⟩ := read_rules t2
  exact ⟨⟨n0, n1, r⟩, v2, rfl, hr⟩

end
end Go.Proofs.Ytggfcdjmeodggaa

/- What loop.Find keeps between two rounds. -/
import Derived.Test.YtggfcdjmeodggaaFind1
import Derived.Test.YtggfcdjmeodggaaRnd
set_option linter.unusedVariables false
set_option linter.unusedSimpArgs false
namespace Go.Proofs.Ytggfcdjmeodggaa
open Go.RowKit

/-- A list of k runs of the call's own; S: the blocks that none of them lies in. -/
def LR (B1 : Nat) (S : Nat → Prop) (v : Value) (k : Nat) (f : Nat → RS) (W : World) : Prop :=
  ∃ vals, W.ownsRow 0 79 1 v k vals ∧ (∀ g, v.ownBlock = some g → B1 ≤ g) ∧ ∀ i, i < k → ∃ pc qc rv cap, vals[i]? = some (.pointer (some ⟨pc, 0, none⟩)) ∧ RunAt W pc qc rv cap (f i) ∧ ¬ S pc ∧ ¬ S qc

theorem LR.nil (B1 : Nat) (S : Nat → Prop) (f : Nat → RS) (W : World) : LR B1 S (.slice none 0 0) 0 f W := ⟨[], World.ownsRow_nil _ _ _ _, fun g hg => by simp [Value.ownBlock] at hg, fun i hi => by omega⟩

theorem LR.ownLt {B1 : Nat} {S : Nat → Prop} {v : Value} {k : Nat} {f : Nat → RS} {W : World} (h : LR B1 S v k f W) {g : Nat} (hg : v.ownBlock = some g) : g < W.heap.size ∧ ∃ cur, W.heap[g]? = some (.cells cur 79 (0, 0)) := by
  obtain ⟨vals, h1, h2, h3⟩ := h
  rcases h1.2 with ⟨rfl, _⟩ | ⟨g', cap, cur, rfl, _, hh, _⟩
  · simp [Value.ownBlock] at hg
  · simp only [Value.ownBlock, Option.some.injEq] at hg
    subst hg
    exact ⟨blk_lt hh, cur, hh⟩

theorem LR.keep {B1 : Nat} {S S' U : Nat → Prop} {v : Value} {k : Nat} {f : Nat → RS} {W W' : World} (h : LR B1 S v k f W) (hf : Fr U W W')
    (hU : ∀ b, U b → b < W.heap.size → v.ownBlock ≠ some b ∧ (S b ∨ ∀ cur T fz, W.heap[b]? = some (Obj.cells cur T fz) → T ≠ 104 ∧ T ≠ 3))
    (hS : ∀ b, S' b → S b ∨ W.heap.size ≤ b) : LR B1 S' v k f W' := by
  obtain ⟨vals, h1, h2, h3⟩ := h
  refine ⟨vals, ⟨h1.1, ?_⟩, h2, fun i hi => ?_⟩
  · rcases h1.2 with h | ⟨g, cap, cur, rfl, h5, h6, h7⟩
    · exact .inl h
    · exact .inr ⟨g, cap, cur, rfl, h5, hf.keep h6 (fun u => (hU g u (blk_lt h6)).1 rfl), h7⟩
  · obtain ⟨pc, qc, rv, cap, k1, k2, k3, k4⟩ := h3 i hi
    have lp := blk_lt k2.blk
    have lq := k2.row.lt
    refine ⟨pc, qc, rv, cap, k1, k2.fr hf (fun u => ?_) (fun u => ?_), fun s => ?_, fun s => ?_⟩
    · rcases (hU pc u lp).2 with h | h
      · exact k3 h
      · exact (h _ _ _ k2.blk).1 rfl
    · rcases (hU qc u lq).2 with h | h
      · exact k4 h
      · obtain ⟨cur, k5, _⟩ := k2.row
        exact (h _ _ _ k5).2 rfl
    · rcases hS pc s with h | h
      · exact k3 h
      · omega
    · rcases hS qc s with h | h
      · exact k4 h
      · omega

/-- One more run. -/
theorem LR.app {B1 : Nat} {S : Nat → Prop} {v v' : Value} {k : Nat} {f : Nat → RS} {W W3 W4 : World} (h : LR B1 S v k f W) {pc qc cap : Nat} {rv : Value} (hr : RunAt W pc qc rv cap (f k)) (hp : ¬ S pc) (hq : ¬ S qc)
    (hf3 : Fr (fun _ => False) W W3) (vals : List Value) (hvals : W.ownsRow 0 79 1 v k vals) (hB : B1 ≤ W3.heap.size)
    (hown : W4.ownsRow 0 79 1 v' (k + 1) (vals ++ [.pointer (some ⟨pc, 0, none⟩)])) (hgr : W3.grownBy W4 v.ownBlock) (hnew : v'.ownBlock = v.ownBlock ∨ ∃ g, v'.ownBlock = some g ∧ W3.heap.size ≤ g) :
    LR B1 S v' (k + 1) f W4 ∧ Fr (fun b => v.ownBlock = some b) W W4 := by
  have hf : Fr (fun b => v.ownBlock = some b) W W4 := hf3.all.grown hgr (fun j e _ => e)
  refine ⟨⟨_, hown, fun g hg => ?_, fun i hi => ?_⟩, hf⟩
  · rcases hnew with e | ⟨g', e, e2⟩
    · obtain ⟨_, _, h2, _⟩ := h
      exact h2 g (e ▸ hg)
    · rw [hg] at e
      cases e
      omega
  · have far : ∀ b cur T fz, W.heap[b]? = some (Obj.cells cur T fz) → T ≠ 79 → v.ownBlock ≠ some b := fun b cur T fz hb hT e => by
      obtain ⟨_, cur', hc⟩ := h.ownLt e
      rw [hb] at hc
      simp only [Option.some.injEq, Obj.cells.injEq] at hc
      exact hT hc.2.1
    have kp : ∀ {pc qc cap : Nat} {rv : Value} {T : RS}, RunAt W pc qc rv cap T → RunAt W4 pc qc rv cap T := fun hr => by
      obtain ⟨cur, h5, _⟩ := hr.row
      exact hr.fr hf (far _ _ _ _ hr.blk (by decide)) (far _ _ _ _ h5 (by decide))
    have hvl := hvals.1
    by_cases e : i = k
    · subst e
      exact ⟨pc, qc, rv, cap, by rw [List.getElem?_append_right (by omega)]; simp [show i - vals.length = 0 by omega], kp hr, hp, hq⟩
    · obtain ⟨vals2, g1, g2, g3⟩ := h
      obtain ⟨pc', qc', rv', cap', k1, k2, k3, k4⟩ := g3 i (by omega)
      have : vals2 = vals := by
        rcases g1.2 with ⟨rfl, h0⟩ | ⟨g, cap, cur, rfl, _, h6, h7, h8, h9, h10⟩
        · omega
        · rcases hvals.2 with ⟨e0, _⟩ | ⟨g', cap', cur', e0, _, h6', h7', h8', h9', h10'⟩
          · cases e0
          · simp only [Value.slice.injEq, Option.some.injEq, Addr.mk.injEq] at e0
            obtain ⟨⟨rfl, _⟩, _, rfl⟩ := e0
            rw [h6] at h6'
            simp only [Option.some.injEq, Obj.cells.injEq] at h6'
            rw [← h10, ← h10', h6'.1]
      subst this
      exact ⟨pc', qc', rv', cap', by rw [List.getElem?_append_left (by omega)]; exact k1, kp k2, k3, k4⟩

/-- As 'last' reads it. -/
theorem LR.runs {B1 : Nat} {S : Nat → Prop} {v : Value} {k : Nat} {f : Nat → RS} {W : World} (h : LR B1 S v (k + 1) f W) : ∃ g cap, v = .slice (some ⟨g, 0, none⟩) (k + 1) cap ∧ RunsRd W g (k + 1) f := by
  obtain ⟨vals, h1, h2, h3⟩ := h
  rcases h1.2 with ⟨_, h⟩ | ⟨g, cap, cur, rfl, _, hh, h5, h6, h7, h8⟩
  · omega
  · refine ⟨g, cap, rfl, blk_lt hh, fun i hi => ?_⟩
    obtain ⟨pc, qc, rv, cap', k1, k2, _, _⟩ := h3 i hi
    refine ⟨pc, qc, rv, cap', ?_, k2⟩
    rw [blk_cell hh, ← k1, ← h8, List.getElem?_take, if_pos (by omega)]
    simp

end Go.Proofs.Ytggfcdjmeodggaa

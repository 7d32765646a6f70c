/- Contracts of slices.Clone of rules, and of tape.Mirror. -/
import Derived.Test.YtggfcdjmeodggaaValid
import Derived.WalkSpells
import Derived.Laws.Rows
import Derived.Laws.ResultCell
set_option linter.unusedVariables false
set_option linter.unusedSimpArgs false
namespace Go.Proofs.Ytggfcdjmeodggaa
open Go.RowKit

/-- Block q holds n rules, rule j being f j. -/
def RuleFn (w : World) (q n cap : Nat) (f : Nat → Rl) : Prop :=
  ∃ cur, w.heap[q]? = some (.cells cur 75 (0, 0)) ∧ n ≤ cap ∧ cap ≤ maxLen ∧ ∀ j, j < n → cur[j * 3]? = some (.int .i64 (f j).w) ∧ cur[j * 3 + 1]? = some (.int .i64 (f j).m) ∧ cur[j * 3 + 2]? = some (.int .i64 (f j).n)
theorem RuleFn.keep {w w' : World} {q n cap : Nat} {f : Nat → Rl} (h : RuleFn w q n cap f) (hq : w'.heap[q]? = w.heap[q]?) : RuleFn w' q n cap f := by
  obtain ⟨cur, h1, h2⟩ := h
  exact ⟨cur, hq.trans h1, h2⟩
theorem RuleFn.lt {w : World} {q n cap : Nat} {f : Nat → Rl} (h : RuleFn w q n cap f) : q < w.heap.size := by
  obtain ⟨cur, h1, h2⟩ := h
  exact blk_lt h1
theorem RuleFn.mc {w : World} {q n cap : Nat} {f : Nat → Rl} (h : RuleFn w q n cap f) (j : Nat) (hj : j < n) : w.cell? ⟨q, j * 3 + 1, none⟩ = some (.int .i64 (f j).m) := by
  obtain ⟨cur, h1, h2, h3, h4⟩ := h
  rw [blk_cell h1]
  exact (h4 j hj).2.1
theorem RuleFn.frozen {w : World} {q n cap : Nat} {f : Nat → Rl} (h : RuleFn w q n cap f) (i : Nat) : w.frozen? ⟨q, i, none⟩ = false := by
  obtain ⟨cur, h1, h2⟩ := h
  exact blk_frozen h1 i
theorem RuleFn.congr {w : World} {q n cap : Nat} {f g : Nat → Rl} (h : RuleFn w q n cap f) (hg : ∀ j, j < n → g j = f j) : RuleFn w q n cap g := by
  obtain ⟨cur, h1, h2, h3, h4⟩ := h
  exact ⟨cur, h1, h2, h3, fun j hj => by rw [hg j hj]; exact h4 j hj⟩
/-- A rule's move is written. -/
theorem RuleFn.setM {w : World} {q n cap : Nat} {f g : Nat → Rl} (h : RuleFn w q n cap f) (i : Nat) (hi : i < n) (v : Int) (hg : ∀ j, j < n → g j = if j = i then { f j with m := v } else f j) : RuleFn (w.setCell ⟨q, i * 3 + 1, none⟩ (.int .i64 v)) q n cap g := by
  obtain ⟨cur, h1, h2, h3, h4⟩ := h
  refine ⟨_, blk_set h1 _, h2, h3, fun j hj => ?_⟩
  obtain ⟨a1, a2, a3⟩ := h4 j hj
  have hb : i * 3 + 1 < cur.size := (Array.getElem?_eq_some_iff.1 (h4 i hi).2.1).1
  simp only [Array.getElem?_setIfInBounds]
  have hgj := hg j hj
  by_cases e : j = i
  · rw [if_pos e] at hgj
    rw [hgj]
    subst e
    refine ⟨?_, ?_, ?_⟩
    · rw [if_neg (by omega)]; exact a1
    · rw [if_pos rfl, if_pos hb]
    · rw [if_neg (by omega)]; exact a3
  · rw [if_neg e] at hgj
    rw [hgj, if_neg (by omega), if_neg (by omega), if_neg (by omega)]
    exact ⟨a1, a2, a3⟩

def ruleCells : List Rl → List Value
  | [] => []
  | r :: l => .int .i64 r.w :: .int .i64 r.m :: .int .i64 r.n :: ruleCells l
theorem ruleCells_length (l : List Rl) : (ruleCells l).length = l.length * 3 := by
  induction l with
  | nil => rfl
  | cons r l ih => simp only [ruleCells, List.length_cons, ih]; omega
theorem ruleCells_get (l : List Rl) (j : Nat) (hj : j < l.length) : (ruleCells l)[j * 3]? = some (.int .i64 (ruleIn l j).w) ∧ (ruleCells l)[j * 3 + 1]? = some (.int .i64 (ruleIn l j).m) ∧ (ruleCells l)[j * 3 + 2]? = some (.int .i64 (ruleIn l j).n) := by
  induction l generalizing j with
  | nil => simp at hj
  | cons r l ih =>
    cases j with
    | zero => exact ⟨rfl, rfl, rfl⟩
    | succ j =>
      have := ih j (by simpa using hj)
      rw [show (j + 1) * 3 = j * 3 + 3 by omega]
      exact this
theorem ruleCells_one (l : List Rl) : ∀ u ∈ ruleCells l, u.oneCell' = true := by
  induction l with
  | nil => intro u hu; cases hu
  | cons r l ih =>
    intro u hu
    simp only [ruleCells, List.mem_cons] at hu
    rcases hu with rfl | rfl | rfl | hu
    · rfl
    · rfl
    · rfl
    · exact ih u hu

theorem Try.infoRule : (Try.prog.info? 75).map (fun i => (i.zero, i.size, i.bytes)) = some (some (.agg #[.int .i64 0, .int .i64 0, .int .i64 0]), 3, 24) := by kernel_rfl
theorem Try.infoRow : (Try.prog.info? 73).map (fun i => (i.zero, i.size, i.bytes)) = some (some (.slice none 0 0), 1, 24) := by kernel_rfl

set_option maxHeartbeats 1000000 in
set_option maxRecDepth 100000 in
/-- slices.Clone of rules: a slice of the call's own. -/
theorem cloneRules_calls {w : World} (b o n c : Nat) (l : List Rl) (hn : l.length = n) (h0 : 1 ≤ n) (h1 : n ≤ 1099511627776)
    (hc : ∀ j, j < l.length → w.cell? ⟨b, o + j * 3, none⟩ = some (.int .i64 (ruleIn l j).w) ∧ w.cell? ⟨b, o + j * 3 + 1, none⟩ = some (.int .i64 (ruleIn l j).m) ∧ w.cell? ⟨b, o + j * 3 + 2, none⟩ = some (.int .i64 (ruleIn l j).n)) :
   Calls Try.prog 53 #[.slice (some ⟨b, o, none⟩) n c] w fun e w' => ∃ q cap, e = .returned (.slice (some ⟨q, 0, none⟩) n cap) ∧ w.heap.size ≤ q ∧ RuleFn w' q n cap (ruleIn l) ∧ Fr (fun _ => False) w w' := by
  obtain ⟨i0, hi, hz0, hz1, hz2⟩ := info_parts Try.infoRule
  have he : ∀ W : World, (binOp .eql 73 (.slice (some ⟨b, o, none⟩) n c) (.slice none 0 0)).run Try.prog W = .ok (.bool false) W := fun W => Lib.run_eql_slice_nil W _ _ _ n c 0 0 Try.underlying73
  have HC := Lib.hid hc
  have HN := Lib.hid hn
  clear hc hn
  go_enter Try.func53, Try.ntmps53
  go_wp2_with (at_builtin; refine wpList_app rfl (.tmp 5) (.tmp 6) 73 rfl 75 i0 (.agg #[.int .i64 0, .int .i64 0, .int .i64 0]) 3 24 Try.underlying73 hi hz0 hz1 hz2 rfl (by decide) _ 0 [] rfl ?own ⟨b, o, none⟩ n c (ruleCells l) rfl ?c1 ?c2 ?c3 ?c4 ?c5 ?_)
  case own => exact ⟨rfl, .inr ⟨w.heap.size, 0, #[], rfl, Nat.zero_le _, blk_new w _, Nat.le_refl _, by unfold maxLen; omega, rfl, rfl⟩⟩
  case c1 => rw [ruleCells_length, HN.out]
  case c2 =>
    intro j u hj
    have hlt := (List.getElem?_eq_some_iff.1 hj).1
    rw [ruleCells_length] at hlt
    have hj3 : j / 3 < l.length := by omega
    obtain ⟨k1, k2, k3⟩ := HC.out _ hj3
    obtain ⟨g1, g2, g3⟩ := ruleCells_get l _ hj3
    rw [Addr.add_lit]
    have key : w.cell? ⟨b, o + j, none⟩ = some u := by
      rcases (by omega : j = j / 3 * 3 ∨ j = j / 3 * 3 + 1 ∨ j = j / 3 * 3 + 2) with e | e | e
      · rw [e] at hj ⊢; rw [← hj, g1]; exact k1
      · rw [e] at hj ⊢; rw [← hj, g2]; exact k2
      · rw [e] at hj ⊢; rw [← hj, g3]; exact k3
    exact (World.cell?_alloc_past _ _ _ (World.block_lt_of_cell? _ _ key)).trans key
  case c3 => exact ruleCells_one _
  case c4 => unfold maxLen; omega
  case c5 => omega
  intro v' w2 hown2 hgrow hbk
  have hq : ∃ q cap, v' = .slice (some ⟨q, 0, none⟩) n cap ∧ w.heap.size ≤ q ∧ RuleFn w2 q n cap (ruleIn l) := by
    rcases hown2.2 with ⟨_, h⟩ | ⟨g, cap, cur, rfl, _, hg, hnc, hcm, hcs, ht⟩
    · omega
    · refine ⟨g, cap, by simp, ?_, cur, hg, by omega, hcm, fun j hj => ?_⟩
      · rcases hbk with h | ⟨k, h, h2⟩
        · simp [Act.eval, Value.ownBlock] at h
          omega
        · simp [Value.ownBlock] at h
          omega
      · have hjl : j < l.length := by rw [HN.out]; exact hj
        obtain ⟨g1, g2, g3⟩ := ruleCells_get l j hjl
        have ht' : List.take (n * 3) cur.toList = ruleCells l := ht
        rw [← ht'] at g1 g2 g3
        have hl3 : ∀ k, k < 3 → j * 3 + k < n * 3 := fun k hk => by omega
        have g0 : j * 3 < n * 3 := by omega
        rw [List.getElem?_take, if_pos g0] at g1
        rw [List.getElem?_take, if_pos (hl3 1 (by omega))] at g2
        rw [List.getElem?_take, if_pos (hl3 2 (by omega))] at g3
        exact ⟨by simpa using g1, by simpa using g2, by simpa using g3⟩
  obtain ⟨q2, cap2, rfl, hq2, hb2⟩ := hq
  have hf : Fr (fun _ => False) w w2 := ((Fr.refl _ w).alloc _).grown hgrow (fun k e hk => by simp [Act.eval, Value.ownBlock] at e; omega)
  have HQ := Lib.hid hq2
  have HB := Lib.hid hb2
  have HF := Lib.hid hf
  clear hq2 hb2 hf hgrow hbk hown2
  go_wp2
  go_ret
  exact ⟨q2, cap2, rfl, HQ.out, HB.out, HF.out⟩

end Go.Proofs.Ytggfcdjmeodggaa

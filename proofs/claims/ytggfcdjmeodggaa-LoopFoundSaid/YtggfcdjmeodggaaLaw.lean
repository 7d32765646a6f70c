/- LoopFound: the plain law. -/
import Derived.Test.YtggfcdjmeodggaaFind7
set_option linter.unusedVariables false
set_option linter.unusedSimpArgs false
namespace Go.Proofs.Ytggfcdjmeodggaa

/-! ### The tape behind the cells -/
theorem RS.rd_room (S : RS) (x : Int) : S.room.rd x = S.rd x := by
  unfold RS.room
  split
  · unfold RS.rd
    simp only [List.length_append, List.length_replicate, gi_append, gi_replicate]
    by_cases h : 0 ≤ x - S.fr ∧ x - S.fr < S.cells.length
    · rw [if_pos h, if_pos (by omega), if_neg (by omega)]
      congr 1
      omega
    · rw [if_neg h]
      by_cases h2 : 0 ≤ x - (S.fr - S.cells.length) ∧ x - (S.fr - S.cells.length) < ((S.cells.length + S.cells.length : Nat) : Int)
      · rw [if_pos h2, if_pos (by omega)]
      · rw [if_neg h2]
  · split
    · unfold RS.rd
      simp only [List.length_append, List.length_replicate, gi_append, gi_replicate]
      by_cases h : 0 ≤ x - S.fr ∧ x - S.fr < S.cells.length
      · rw [if_pos h, if_pos (by omega), if_pos (by omega)]
      · rw [if_neg h]
        by_cases h2 : 0 ≤ x - S.fr ∧ x - S.fr < ((S.cells.length + S.cells.length : Nat) : Int)
        · rw [if_pos h2, if_neg (by omega)]
        · rw [if_neg h2]
    · rfl
/-- A step, as the tape sees it. -/
theorem RS.step_see {m : Mach} {k : Nat} {S : RS} (h : S.Inv m k) (r : List (List Rl)) (hs : S.st ≠ -1) :
    (S.step r).st = (ruleAt r S.st (S.rd S.pos)).n ∧ (S.step r).pos = S.pos + (ruleAt r S.st (S.rd S.pos)).m ∧ ∀ x, (S.step r).rd x = if x = S.pos then (ruleAt r S.st (S.rd S.pos)).w else S.rd x := by
  have hin := h.room_in
  have e : S.rd S.pos = gi S.room.cells (S.room.pos - S.room.fr).toNat := by
    rw [← S.rd_room]
    unfold RS.rd
    rw [S.room_pos] at hin ⊢
    rw [if_pos hin]
  unfold RS.step
  rw [if_neg hs]
  unfold RS.act
  simp only
  rw [← e, S.room_st, S.room_pos] 
  refine ⟨rfl, rfl, fun x => ?_⟩
  rw [← S.rd_room x]
  unfold RS.rd
  simp only [List.length_set, gi_set]
  rw [S.room_pos] at hin
  by_cases hx : x = S.pos
  · subst hx
    rw [if_pos hin, if_pos rfl, if_pos ⟨rfl, by omega⟩]
  · rw [if_neg hx]
    by_cases h2 : 0 ≤ x - S.room.fr ∧ x - S.room.fr < S.room.cells.length
    · rw [if_pos h2, if_pos h2, if_neg (by omega)]
    · rw [if_neg h2, if_neg h2]

/-- Two runs, mirrored. -/
structure Mir (S T : RS) : Prop where
  st : T.st = S.st
  pos : T.pos = -S.pos
  rd : ∀ x, T.rd x = S.rd (-x)
theorem mir_ruleAt (r : List (List Rl)) (s x : Int) : ruleAt (mirRules r) s x = mir (ruleAt r s x) := by
  unfold ruleAt
  rw [mir_row, mir_in]
theorem Mir.step {m : Mach} {k : Nat} {S T : RS} (h : Mir S T) (hS : S.Inv m k) (hT : T.Inv (mirM m) k) : Mir (S.step m.rules) (T.step (mirRules m.rules)) := by
  by_cases hs : S.st = -1
  · have ht : T.st = -1 := h.st.trans hs
    rw [show S.step m.rules = S by unfold RS.step; rw [if_pos hs], show T.step (mirRules m.rules) = T by unfold RS.step; rw [if_pos ht]]
    exact h
  · have ht : T.st ≠ -1 := by rw [h.st]; exact hs
    obtain ⟨a1, a2, a3⟩ := RS.step_see hS m.rules hs
    obtain ⟨b1, b2, b3⟩ := RS.step_see hT (mirRules m.rules) ht
    have er : ruleAt (mirRules m.rules) T.st (T.rd T.pos) = mir (ruleAt m.rules S.st (S.rd S.pos)) := by
      rw [mir_ruleAt, h.st, h.rd, h.pos, Int.neg_neg]
    rw [er] at b1 b2 b3
    refine ⟨b1.trans a1.symm, ?_, fun x => ?_⟩
    · rw [b2, a2, h.pos]
      simp only [mir]
      omega
    · rw [b3, a3, h.pos, h.rd]
      by_cases hx : x = -S.pos
      · rw [if_pos hx, if_pos (by omega)]
        rfl
      · rw [if_neg hx, if_neg (by omega)]
theorem init_rd (x : Int) : RS.init.rd x = 0 := by
  unfold RS.rd RS.init
  simp only [gi_replicate]
  split <;> rfl
theorem mir_run {m : Mach} (hm : m.Ok) (k : Nat) (hk : k ≤ 1048576) : Mir (fF m k) (fG m k) := by
  induction k with
  | zero => exact ⟨rfl, rfl, fun x => (init_rd x).trans (init_rd (-x)).symm⟩
  | succ k ih =>
    have h1 := (RS.Inv.init m hm).steps hm k (by omega)
    have h2 := (RS.Inv.init _ (mirM_ok hm)).steps (mirM_ok hm) k (by omega)
    have := (ih (by omega)).step (m := m) (k := 0 + k) h1 h2
    unfold fF fG
    rw [RS.steps_succ, RS.steps_succ]
    exact this

/-! ### The last -/
def mnAt (f : Nat → RS) (a : Nat) : Nat → Int
  | 0 => (f a).pos
  | c + 1 => min (mnAt f a c) (f (a + (c + 1))).pos
theorem lowAt_mn (r : List (List Rl)) (a c : Nat) : lowAt r (RS.init.steps r a) c = mnAt (fun i => RS.init.steps r i) a c := by
  induction c with
  | zero => rfl
  | succ c ih => simp only [lowAt, mnAt]; rw [ih, ← RS.steps_add]
theorem lastN_spec (f : Nat → RS) (d : RS) : ∀ (n : Nat) (low : Int), 0 ≤ lastN f d n low → ∃ a c, n = a + 1 + c ∧ lastN f d n low = (a : Int) ∧ 0 ≤ d.pos - (f a).pos ∧ (f a).st = d.st ∧ alike (f a) d (min low (mnAt f a c)) (d.pos - (f a).pos) = true := by
  intro n
  induction n with
  | zero => intro low h; simp [lastN] at h
  | succ n ih =>
    intro low h
    unfold lastN at h ⊢
    by_cases hc : 0 ≤ d.pos - (f n).pos ∧ (f n).st = d.st ∧ alike (f n) d (min low (f n).pos) (d.pos - (f n).pos) = true
    · rw [if_pos hc]
      exact ⟨n, 0, rfl, rfl, hc.1, hc.2.1, hc.2.2⟩
    · rw [if_neg hc] at h ⊢
      obtain ⟨a, c, rfl, h2, h3, h4, h5⟩ := ih _ h
      refine ⟨a, c + 1, by omega, h2, h3, h4, ?_⟩
      rw [show min low (mnAt f a (c + 1)) = min (min low (f (a + 1 + c)).pos) (mnAt f a c) by
        simp only [mnAt]
        rw [show a + (c + 1) = a + 1 + c by omega]
        omega]
      exact h5
/-- What 'last' finds is a pair. -/
theorem lastN_pair (r : List (List Rl)) (k : Nat) (hs : (RS.init.steps r k).st ≠ -1) (h : 0 ≤ lastN (fun i => RS.init.steps r i) (RS.init.steps r k) k (RS.init.steps r k).pos) :
    ∃ a : Nat, a < k ∧ lastN (fun i => RS.init.steps r i) (RS.init.steps r k) k (RS.init.steps r k).pos = (a : Int) ∧ pairB r a k = true := by
  obtain ⟨a, c, hk, h2, h3, h4, h5⟩ := lastN_spec _ _ _ _ h
  refine ⟨a, by omega, h2, ?_⟩
  unfold pairB
  simp only
  rw [if_neg hs, if_neg (by simpa using h4), if_neg (by omega), lowAt_mn, show k - a = c + 1 by omega]
  simp only [mnAt]
  rw [show a + (c + 1) = k by omega, Int.min_comm]
  exact h5

/-- LoopFound's first half. -/
theorem found_pair {m : Mach} (hm : m.Ok) {k : Nat} (hk : k ≤ 2000) (hs : (fF m k).st ≠ -1) (ha : 0 ≤ fa m k) : ∃ a : Nat, a < k ∧ fa m k = (a : Int) ∧ pairB (sideM m (fx m k == fa m k)).rules a k = true := by
  by_cases hx : fx m k = fa m k
  · rw [← hx] at ha
    obtain ⟨a, h1, h2, h3⟩ := lastN_pair m.rules k hs ha
    have h2' : fx m k = (a : Int) := h2
    refine ⟨a, h1, hx ▸ h2', ?_⟩
    rw [show (fx m k == fa m k) = true by simp [hx]]
    exact h3
  · have hy : fy m k = fa m k := by unfold fa at hx ⊢; omega
    have hs' : (fG m k).st ≠ -1 := by rw [(mir_run hm k (by omega)).st]; exact hs
    rw [← hy] at ha
    obtain ⟨a, h1, h2, h3⟩ := lastN_pair (mirRules m.rules) k hs' ha
    have h2' : fy m k = (a : Int) := h2
    refine ⟨a, h1, hy ▸ h2', ?_⟩
    rw [show (fx m k == fa m k) = false by simp [hx]]
    exact h3

end Go.Proofs.Ytggfcdjmeodggaa

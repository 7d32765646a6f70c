/- Contracts of package loop: sided, right, Check. -/
import Derived.Test.YtggfcdjmeodggaaLoop
import Derived.Test.YtggfcdjmeodggaaMir3
set_option linter.unusedVariables false
set_option linter.unusedSimpArgs false
namespace Go.Proofs.Ytggfcdjmeodggaa
open Go.RowKit

def mirM (m : Mach) : Mach := ⟨m.st, m.sy, mirRules m.rules⟩
def sideM (m : Mach) (right : Bool) : Mach := if right then m else mirM m
theorem mirM_ok {m : Mach} (h : m.Ok) : (mirM m).Ok := by
  have hl : (mirRules m.rules).length = m.rules.length := by simp [mirRules]
  have key : ∀ i (j : Nat), ruleIn (rowAt (mirRules m.rules) i) j = mir (ruleIn (rowAt m.rules i) j) := fun i j => by rw [mir_row, mir_in]
  refine ⟨h.st0, h.st1, h.sy0, h.sy1, by simp only [mirM]; rw [hl]; exact h.len, fun i hi => ?_, fun i j hi hj => ?_, fun i j hi hj => ?_, fun i j hi hj => ?_, fun i j hi hj => ?_, fun i j hi hj => ?_⟩
  all_goals
    simp only [mirM, hl] at hi ⊢
  · rw [mir_row, List.length_map]; exact h.row i hi
  all_goals
    simp only [mirM] at hj
    rw [key]
  · exact h.w0 i j hi hj
  · exact h.w1 i j hi hj
  · have := h.mv i j hi hj
    simp only [mir]
    omega
  · exact h.n0 i j hi hj
  · exact h.n1 i j hi hj
theorem sideM_ok {m : Mach} (h : m.Ok) (r : Bool) : (sideM m r).Ok := by
  unfold sideM
  split
  · exact h
  · exact mirM_ok h

/-- Step, whether it has stopped or not. -/
theorem step_any {B p q : Nat} {rv : Value} {cap : Nat} {S : RS} {w : World} (h : RunAt w p q rv cap S) {m : Mach} (hm : m.Ok) {k : Nat} (hI : S.Inv m k) (hk : k < 1048576) (hr : RulesRd B w rv m.rules) (hp : B ≤ p) (hq : B ≤ q) :
   Calls Try.prog 47 #[.pointer (some ⟨p, 0, none⟩)] w fun e w' => (∃ b, e = .returned (.bool b)) ∧ ∃ q' cap', (q' = q ∨ w.heap.size ≤ q') ∧ RunAt w' p q' rv cap' (S.step m.rules) ∧ Fr (fun k => k = p ∨ k = q) w w' := by
  by_cases hs : S.st = -1
  · refine (step_stop h hs).mono ?_
    rintro e w' ⟨rfl, rfl⟩
    exact ⟨⟨_, rfl⟩, q, cap, .inl rfl, by unfold RS.step; rw [if_pos hs]; exact h, Fr.refl _ _⟩
  · refine (step_runs h hm hI hk hr hp hq hs).mono ?_
    rintro e w' ⟨rfl, h2⟩
    exact ⟨⟨_, rfl⟩, h2⟩

/-- The machine of a side, as it lies in memory. -/
def SidePost (m : Mach) (r : Bool) (w : World) (e : Ending) (w' : World) : Prop := ∃ A n c, e = .returned (machV m (.slice A n c)) ∧ RulesRd w'.heap.size w' (.slice A n c) (sideM m r).rules ∧ Fr (fun _ => False) w w'

set_option maxHeartbeats 1000000 in
set_option maxRecDepth 100000 in
theorem sidedF_calls {B : Nat} {m : Mach} {rv : Value} {w : World} (hr : RulesRd B w rv m.rules) (hB : B ≤ w.heap.size) (hm : m.Ok) :
   Calls Try.prog 44 #[machV m rv, .bool false] w fun e w' => ∃ A n c, e = .returned (machV m (.slice A n c)) ∧ RulesNew w.heap.size w'.heap.size w' (.slice A n c) (mirRules m.rules) ∧ Fr (fun _ => False) w w' := by
  have HR := Lib.hid hr
  have HM := Lib.hid hm
  obtain ⟨A, c', rfl, hl1, hl2, hxx⟩ := hr
  clear hm hl1 hl2 hxx
  unfold machV
  go_enter Try.func44, Try.ntmps44
  go_wp2_with fail
  refine calls_name fun W1 hW1 => ?_
  have hF1 : Fr (fun _ => False) w W1 := by rw [hW1]; exact ((Fr.refl _ _).alloc _).alloc _
  have hs1 : W1.heap.size = w.heap.size + 2 := by rw [hW1]; simp
  have hbox : W1.heap[w.heap.size]? = some (.cells #[.int .i64 m.st, .int .i64 m.sy, .slice A m.rules.length c'] 24 (0, 0)) := by rw [hW1]; exact blk_alloc (blk_new _ _) _
  have hres : W1.heap[w.heap.size + 1]? = some (.cells #[.int .i64 0, .int .i64 0, .slice none 0 0] 24 (0, 0)) := by rw [hW1]; exact blk_new_at _ (by simp)
  clear hW1
  refine (mirror_calls (B := B) (HR.out.below (fun k hk => hF1.block k (by omega) id)) (by have := hF1.size; omega) HM.out).mono ?_
  rintro e W2 ⟨q, cap, rfl, hr2, hF2⟩
  have hbox2 := hF2.keep hbox id
  have hres2 := hF2.keep hres id
  have z0 := blk_frozen hbox2
  have z1 := blk_frozen hres2
  have e0 : W2.cell? ⟨w.heap.size, 0, none⟩ = some (.int .i64 m.st) := (blk_cell hbox2 0).trans rfl
  have e1 : W2.cell? ⟨w.heap.size, 1, none⟩ = some (.int .i64 m.sy) := (blk_cell hbox2 1).trans rfl
  have e2 : W2.cell? ⟨w.heap.size, 2, none⟩ = some (.slice A m.rules.length c') := (blk_cell hbox2 2).trans rfl
  have g0 : W2.cell? ⟨w.heap.size + 1, 0, none⟩ = some (.int .i64 0) := (blk_cell hres2 0).trans rfl
  have g1 : W2.cell? ⟨w.heap.size + 1, 1, none⟩ = some (.int .i64 0) := (blk_cell hres2 1).trans rfl
  have g2 : W2.cell? ⟨w.heap.size + 1, 2, none⟩ = some (.slice none 0 0) := (blk_cell hres2 2).trans rfl
  have HBOX := Lib.hid hbox2
  have HRES := Lib.hid hres2
  have HF := Lib.hid (hF1.trans hF2 (fun _ _ e => e))
  have HR2 := Lib.hid hr2
  have HS1 := Lib.hid hs1
  clear hF1 hF2 hbox hres hbox2 hres2 hr2 hs1
  unfold machV
  go_wp2
  refine wp_name_post fun W5 hW5 => ?_
  have hres5 : W5.heap[w.heap.size + 1]? = some (.cells #[.int .i64 m.st, .int .i64 m.sy, .slice (some ⟨q, 0, none⟩) m.rules.length cap] 24 (0, 0)) := by
    rw [hW5]
    have far : w.heap.size + 1 ≠ w.heap.size := by omega
    exact (blk_set (i := 2) (blk_set (i := 1) (blk_set (i := 0) (blk_set_other (blk_set_other (blk_set_other HRES.out _ _ far) _ _ far) _ _ far) _) _) _).trans rfl
  have hf : Fr (fun _ => False) w W5 := by
    rw [hW5]
    refine ((((((HF.out.setCell _ _ (fun h => ?_)).setCell _ _ (fun h => ?_)).setCell _ _ (fun h => ?_)).setCell _ _ (fun h => ?_)).setCell _ _ (fun h => ?_)).setCell _ _ (fun h => ?_)) <;> (have h' : (_ : Nat) < _ := h; simp only at h'; omega)
  have hsz : W5.heap.size = W2.heap.size := by rw [hW5]; simp [World.setCell]
  refine bodyPost_ret (results_cell_row rfl _ _ (w.heap.size + 1) _ _ _ _ rfl hres5 Try.underlying24 rfl mach_size) rfl ?_
  refine ⟨_, _, _, rfl, ?_, hf⟩
  rw [hsz]
  intro W6 hW6
  refine HR2.out W6 (fun k h1 h2 => ?_)
  have h3 := HS1.out
  have n0 : k ≠ w.heap.size := by omega
  have n1 : k ≠ w.heap.size + 1 := by omega
  rw [hW6 k (by omega) h2, hW5]
  rw [Below.heap_setCell _ _ _ _ n1, Below.heap_setCell _ _ _ _ n1, Below.heap_setCell _ _ _ _ n1, Below.heap_setCell _ _ _ _ n0, Below.heap_setCell _ _ _ _ n0, Below.heap_setCell _ _ _ _ n0]

set_option maxHeartbeats 1000000 in
set_option maxRecDepth 100000 in
theorem sided_calls {B : Nat} {m : Mach} {rv : Value} {w : World} (hr : RulesRd B w rv m.rules) (hB : B ≤ w.heap.size) (hm : m.Ok) (r : Bool) :
   Calls Try.prog 44 #[machV m rv, .bool r] w (SidePost m r w) := by
  cases r with
  | true =>
    have HR := Lib.hid hr
    obtain ⟨A, c', rfl, hl1, hl2, hxx⟩ := hr
    clear hm hl1 hl2 hxx
    unfold machV
    go_enter Try.func44, Try.ntmps44
    go_wp2
    refine wp_name_post fun W5 hW5 => ?_
    have hb : W5.heap[w.heap.size + 1]? = some (.cells #[.int .i64 m.st, .int .i64 m.sy, .slice A m.rules.length c'] 24 (0, 0)) := by
      rw [hW5]
      exact blk_new_at _ (by simp)
    have hf : Fr (fun _ => False) w W5 := by
      rw [hW5]
      exact ((Fr.refl _ _).alloc _).alloc _
    refine bodyPost_ret (results_cell_row rfl _ _ (w.heap.size + 1) _ _ _ _ rfl hb Try.underlying24 rfl mach_size) rfl ?_
    exact ⟨A, _, _, rfl, (HR.out.below (fun k hk => hf.block k (by omega) id)).up (by have := hf.size; omega), hf⟩
  | false =>
    refine (sidedF_calls hr hB hm).mono ?_
    rintro e w' ⟨A, n, c, rfl, h1, h2⟩
    exact ⟨A, n, c, rfl, h1.rd, h2⟩

end Go.Proofs.Ytggfcdjmeodggaa

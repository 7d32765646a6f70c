/- Contracts of package runner: Run, New, Clone. -/
import Derived.Test.YtggfcdjmeodggaaRun2
import Derived.WalkSpells
set_option linter.unusedVariables false
set_option linter.unusedSimpArgs false
namespace Go.Proofs.Ytggfcdjmeodggaa
open Go.RowKit

/-- Run of n steps. -/
theorem run_runs {B p q : Nat} {rv : Value} {cap : Nat} {S : RS} {w : World} (h : RunAt w p q rv cap S) {m : Mach} (hm : m.Ok) {k : Nat} (hI : S.Inv m k) (n : Nat) (hk : k + n ≤ 1048576) (hr : RulesRd B w rv m.rules) (hp : B ≤ p) (hq : B ≤ q) :
   Calls Try.prog 65 #[.pointer (some ⟨p, 0, none⟩), .int .i64 n] w fun e w' => (∃ v, e = .returned (.int .i64 v)) ∧ ∃ q' cap', (q' = q ∨ w.heap.size ≤ q') ∧ RunAt w' p q' rv cap' (S.steps m.rules n) ∧ Fr (fun k => k = p ∨ k = q) w w' := by
  have HH := Lib.hid h
  have HI := Lib.hid hI
  have HM := Lib.hid hm
  have HR := Lib.hid hr
  have hB : B ≤ w.heap.size := Nat.le_trans hp (Nat.le_of_lt (blk_lt h.blk))
  clear h hI hm hr
  go_enter Try.func65, Try.ntmps65
  go_wp2
  go_loopw [7] (fun c wr => ∃ i : Nat, i ≤ n ∧ c = .int .i64 i ∧ Off (∃ q' cap', (q' = q ∨ w.heap.size ≤ q') ∧ RunAt wr p q' rv cap' (S.steps m.rules i) ∧ Fr (fun k => k = p ∨ k = q) w wr)) (fun c _ => n - (intOf c).toNat)
  case atStart => exact ⟨0, Nat.zero_le _, rfl, ⟨q, cap, .inl rfl, HH.out, Fr.refl _ _⟩⟩
  case round =>
    obtain ⟨i, hi, rfl, ho⟩ := hrel
    obtain ⟨q1, cap1, hq1, h1, hf1⟩ := ho.out
    by_cases hlt : i < n
    · have hr1 : RulesRd B wr rv m.rules := HR.out.below (fun k hk => hf1.block k (by omega) (by omega))
      have hI1 := HI.out.steps HM.out i (by omega)
      by_cases hs : (S.steps m.rules i).st = -1
      · have hst := RS.steps_stop m.rules (n - i) _ hs
        rw [← RS.steps_add, show i + (n - i) = n by omega] at hst
        have HST := Lib.hid hst
        have HS := Lib.hid hs
        have H1 := Lib.hid h1
        have HF1 := Lib.hid hf1
        have HQ1 := Lib.hid hq1
        clear hs hst hr1 hI1 h1 hf1 ho hq1
        go_wp2_with (go_at_call 47; refine (step_stop H1.out HS.out).mono ?_; rintro e w' ⟨rfl, rfl⟩)
        go_ret
        exact ⟨⟨_, rfl⟩, q1, cap1, HQ1.out, by rw [HST.out]; exact H1.out, HF1.out⟩
      · have hst := RS.steps_succ m.rules i S
        have HST := Lib.hid hst
        have HS := Lib.hid hs
        have H1 := Lib.hid h1
        have HF1 := Lib.hid hf1
        have HQ1 := Lib.hid hq1
        have HI1 := Lib.hid hI1
        have HR1 := Lib.hid hr1
        have hq1' : B ≤ q1 := by omega
        clear hs hst hr1 hI1 h1 hf1 ho hq1
        go_wp2_with (go_at_call 47; refine (step_runs H1.out HM.out HI1.out (by omega) HR1.out hp hq1' HS.out).mono ?_; rintro e w' ⟨rfl, q2, cap2, hq2, h2, hf2⟩; have HQ2 := Lib.hid hq2; have H2 := Lib.hid h2; have HF2 := Lib.hid hf2; clear hq2 h2 hf2)
        go_roundw
        case rel =>
          have k1 := HQ1.out
          have k2 := HQ2.out
          have k3 := HF1.out.size
          refine ⟨i + 1, by omega, by go_num, ⟨q2, cap2, by omega, by rw [HST.out]; exact H2.out, HF1.out.trans HF2.out (fun j hj e => ?_)⟩⟩
          omega
        case measure => simp [intOf]; omega
    · have hin : i = n := by omega
      have HN := Lib.hid hin
      have H1 := Lib.hid h1
      have HF1 := Lib.hid hf1
      have HQ1 := Lib.hid hq1
      clear h1 hf1 ho hq1 hin
      go_wp2
      go_ret
      exact ⟨⟨_, rfl⟩, q1, cap1, HQ1.out, by rw [← HN.out]; exact H1.out, HF1.out⟩

/-- A machine as a value. -/
def machV (m : Mach) (rv : Value) : Value := .agg #[.int .i64 m.st, .int .i64 m.sy, rv]

set_option maxHeartbeats 1000000 in
set_option maxRecDepth 100000 in
theorem new_calls (st sy : Int) (A : Option Addr) (n c : Nat) (w : World) :
   Calls Try.prog 43 #[.agg #[.int .i64 st, .int .i64 sy, .slice A n c]] w fun e w' => ∃ p q, e = .returned (.pointer (some ⟨p, 0, none⟩)) ∧ w.heap.size ≤ p ∧ w.heap.size ≤ q ∧ RunAt w' p q (.slice A n c) 16 RS.init ∧ Fr (fun _ => False) w w' := by
  obtain ⟨i0, hi, hz0, hz1, hz2⟩ := info_parts Try.infoInt
  have hmk : ∀ W : World, (Instr.makeSlice 38 (.int .i64 16) (.int .i64 16)).run Try.prog W = .ok (.slice (some ⟨W.heap.size, 0, none⟩) 16 16) (W.alloc (.cells (Array.replicate 16 (.int .i64 0)) 3)) :=
    fun W => run_make_one W _ _ i0 (.int .i64 0) 8 Try.underlying38 hi hz0 hz1 hz2 rfl .i64 .i64 16 (by omega) (by omega)
  go_enter Try.func43, Try.ntmps43
  go_wp2
  refine wp_name fun W1 hW1 => ?_
  have hb : W1.heap[w.heap.size]? = some (.cells #[.int .i64 st, .int .i64 sy, .slice A n c] 24 (0, 0)) := by rw [hW1]; exact blk_new _ _
  have hF1 : Fr (fun _ => False) w W1 := by rw [hW1]; exact (Fr.refl _ _).alloc _
  have c2 := (blk_cell hb 2).trans rfl
  have lb := blk_lt hb
  have HF1 := Lib.hid hF1
  clear hb hF1 hW1
  refine G_start (ExtOf W1) [] (by kernel_rfl) ?_
  have hS0 := Lib.hid (ExtOf.of_drew W1)
  refine G_pure 0 rfl (by kernel_rfl) (fun _ _ _ h => h) (yields_if (wanted_plain rfl) (fun w' _ => by go_simp; try rfl)) ?_
  try simp only [Act.put, List.setIfInBounds_toArray, List.set_cons_zero, List.set_cons_succ]
  refine G_take 1 rfl (by kernel_rfl) (by kernel_rfl) (fun _ _ _ h => h) hS0.out (yields_if (wanted_plain rfl) (fun w' hw' => by obtain ⟨x, rfl⟩ := hw'; go_simp; try rfl)) ?_
  try simp only [Act.put, List.setIfInBounds_toArray, List.set_cons_zero, List.set_cons_succ]
  -- 2: makeSlice
  refine G_one 2 (by kernel_rfl) (wpOp_of rfl (wanted_plain rfl) ?_)
  go_simp
  refine keep_on hS0.out (fun h => by first | exact h.alloc _ | exact (h.alloc _).drew | exact (h.alloc _).drewN _) (fun hS' => ?_)
  have hS0_1 := Lib.hid hS'
  clear hS'
  try simp only [Act.put, List.setIfInBounds_toArray, List.set_cons_zero, List.set_cons_succ]
  refine G_pure 3 rfl (by kernel_rfl) (fun _ _ _ h => h) (yields_if (wanted_plain rfl) (fun w' _ => by go_simp; try rfl)) ?_
  try simp only [Act.put, List.setIfInBounds_toArray, List.set_cons_zero, List.set_cons_succ]
  -- 4: box
  refine G_one 4 (by kernel_rfl) (wpOp_of rfl (wanted_plain rfl) ?_)
  go_simp
  refine keep_on hS0_1.out (fun h => by first | exact h.alloc _ | exact (h.alloc _).drew | exact (h.alloc _).drewN _) (fun hS' => ?_)
  have hS0_2 := Lib.hid hS'
  clear hS'
  try simp only [Act.put, List.setIfInBounds_toArray, List.set_cons_zero, List.set_cons_succ]
  refine G_pure 5 rfl (by kernel_rfl) (fun _ _ _ h => h) (yields_if (wanted_plain rfl) (fun w' _ => by go_simp; try rfl)) ?_
  try simp only [Act.put, List.setIfInBounds_toArray, List.set_cons_zero, List.set_cons_succ]
  refine G_done (by kernel_rfl) ?_
  go_wp2
  go_ret
  have h1 := blk_new (W1.alloc (.cells (Array.replicate 16 (.int .i64 0)) 3)) (.cells #[.slice A n c, .slice (some ⟨W1.heap.size, 0, none⟩) 16 16, .int .i64 (-8), .int .i64 0, .int .i64 0, .int .i64 0] 104)
  have h2 := blk_alloc (blk_new W1 (.cells (Array.replicate 16 (.int .i64 0)) 3)) (.cells #[.slice A n c, .slice (some ⟨W1.heap.size, 0, none⟩) 16 16, .int .i64 (-8), .int .i64 0, .int .i64 0, .int .i64 0] 104)
  simp only [World.size_alloc] at h1
  refine ⟨W1.heap.size + 1, W1.heap.size, rfl, by omega, by omega, ⟨h1, IntBlk.made h2 (by unfold maxLen; omega), by omega⟩, ?_⟩
  exact ((HF1.out.alloc _).alloc _).drew

/-- A slice of numbers that is read, in blocks below B. -/
def IntRd (w : World) (v : Value) (xs : List Int) : Prop :=
  ∃ A c, v = .slice A xs.length c ∧ xs.length ≤ c ∧ c ≤ maxLen ∧ (0 < xs.length → ∃ b o, A = some ⟨b, o, none⟩ ∧ ∀ j, j < xs.length → w.cell? ⟨b, o + j, none⟩ = some (.int .i64 (gi xs j)))

set_option maxHeartbeats 1000000 in
set_option maxRecDepth 100000 in
/-- slices.Clone of numbers: a slice of the call's own. -/
theorem cloneInts_calls {w : World} (b o n c : Nat) (xs : List Int) (hn : xs.length = n) (h0 : 1 ≤ n) (h1 : n ≤ 1099511627776) (hc : ∀ j, j < xs.length → w.cell? ⟨b, o + j, none⟩ = some (.int .i64 (gi xs j))) :
   Calls Try.prog 67 #[.slice (some ⟨b, o, none⟩) n c] w fun e w' => ∃ q cap, e = .returned (.slice (some ⟨q, 0, none⟩) xs.length cap) ∧ w.heap.size ≤ q ∧ IntBlk w' 3 q xs cap ∧ Fr (fun _ => False) w w' := by
  obtain ⟨i0, hi, hz0, hz1, hz2⟩ := info_parts Try.infoInt
  have he : ∀ W : World, (binOp .eql 38 (.slice (some ⟨b, o, none⟩) n c) (.slice none 0 0)).run Try.prog W = .ok (.bool false) W := fun W => Lib.run_eql_slice_nil W _ _ _ n c 0 0 Try.underlying38
  have HC := Lib.hid hc
  have HN := Lib.hid hn
  clear hc hn
  go_enter Try.func67, Try.ntmps67
  go_wp2_with (at_builtin; refine wpList_app rfl (.tmp 5) (.tmp 6) 38 rfl 3 i0 (.int .i64 0) 1 8 Try.underlying38 hi hz0 hz1 hz2 rfl (by decide) _ 0 [] rfl ?own ⟨b, o, none⟩ n c (ints xs) rfl ?c1 ?c2 ?c3 ?c4 ?c5 ?_)
  case own => exact ⟨rfl, .inr ⟨w.heap.size, 0, #[], rfl, Nat.zero_le _, blk_new w _, Nat.le_refl _, by unfold maxLen; omega, rfl, rfl⟩⟩
  case c1 => rw [ints_length, HN.out, Nat.mul_one]
  case c2 =>
    intro j u hj
    have hlt := (List.getElem?_eq_some_iff.1 hj).1
    rw [ints_length] at hlt
    rw [ints_get _ _ hlt] at hj
    have h2 := HC.out j hlt
    have h3 := World.block_lt_of_cell? _ _ h2
    rw [Addr.add_lit]
    exact (World.cell?_alloc_past _ _ _ h3).trans (h2.trans hj)
  case c3 => exact ints_oneCell _ _
  case c4 => unfold maxLen; omega
  case c5 => omega
  intro v' w2 hown2 hgrow hbk
  obtain ⟨q2, cap2, rfl, _, hb2⟩ := IntBlk.of_own (n := n) (by simpa using hown2) (by omega)
  have hq2 : w.heap.size ≤ q2 := by
    rcases hbk with h | ⟨k, h, h2⟩
    · simp [Act.eval, Value.ownBlock] at h
      omega
    · simp [Value.ownBlock] at h
      omega
  have hf : Fr (fun _ => False) w w2 := ((Fr.refl _ w).alloc _).grown hgrow (fun k e hk => by simp [Act.eval, Value.ownBlock] at e; omega)
  have HQ := Lib.hid hq2
  have HB := Lib.hid hb2
  have HF := Lib.hid hf
  clear hq2 hb2 hf hgrow hbk hown2
  go_wp2
  go_ret
  exact ⟨q2, cap2, rfl, HQ.out, HB.out, HF.out⟩

set_option maxHeartbeats 1000000 in
set_option maxRecDepth 100000 in
/-- A copy of a run. -/
theorem clone_calls {p q : Nat} {A : Option Addr} {n c : Nat} {cap : Nat} {S : RS} {w : World} (h : RunAt w p q (.slice A n c) cap S) (h0 : 1 ≤ S.cells.length) (h1 : S.cells.length ≤ 1099511627776) :
   Calls Try.prog 46 #[.pointer (some ⟨p, 0, none⟩)] w fun e w' => ∃ p' q' cap', e = .returned (.pointer (some ⟨p', 0, none⟩)) ∧ w.heap.size ≤ p' ∧ w.heap.size ≤ q' ∧ RunAt w' p' q' (.slice A n c) cap' S ∧ Fr (fun _ => False) w w' := by
  have c0 := h.c0
  have c1 := h.c1
  have c2 := h.c2
  have c3 := h.c3
  have c4 := h.c4
  have c5 := h.c5
  have lp := blk_lt h.blk
  have HH := Lib.hid h
  clear h
  go_enter Try.func46, Try.ntmps46
  go_wp2_with fail
  refine calls_name fun W1 hW1 => ?_
  have hb : W1.heap[w.heap.size]? = some (.cells #[.slice A n c, .slice (some ⟨q, 0, none⟩) S.cells.length cap, .int .i64 S.fr, .int .i64 S.ones, .int .i64 S.st, .int .i64 S.pos] 104 (0, 0)) := by rw [hW1]; exact blk_new _ _
  have hF1 : Fr (fun _ => False) w W1 := by rw [hW1]; exact (Fr.refl _ _).alloc _
  have g := HH.out.fr hF1 id id
  have lb := blk_lt hb
  have HF1 := Lib.hid hF1
  have HB := Lib.hid hb
  clear hF1 hb c0 c1 c2 c3 c4 c5 hW1
  refine (cloneInts_calls q 0 S.cells.length cap S.cells rfl h0 h1 (fun j hj => by rw [Nat.zero_add]; exact g.row.cell j hj)).mono ?_
  rintro e W2 ⟨q2, cap2, rfl, hq2, hb2, hF2⟩
  have hb3 := hF2.keep HB.out id
  have d1 : W2.cell? ⟨w.heap.size, 1, none⟩ = some (.slice (some ⟨q, 0, none⟩) S.cells.length cap) := (blk_cell hb3 1).trans rfl
  have i1 := blk_frozen hb3 1
  have HB2 := Lib.hid hb2
  have HB3 := Lib.hid hb3
  have HF2 := Lib.hid hF2
  clear hb2 hb3 hF2 g
  go_wp2
  go_ret
  have hne : w.heap.size ≠ q2 := by omega
  refine ⟨w.heap.size, q2, cap2, rfl, Nat.le_refl _, by omega, ⟨?_, ?_, hne⟩, ?_⟩
  · exact blk_set (i := 1) HB3.out _
  · exact HB2.out.keep (Below.heap_setCell _ _ _ _ (Ne.symm hne))
  · exact (HF1.out.trans HF2.out (fun _ _ e => e)).setCell _ _ (fun h => by simp at h)

end Go.Proofs.Ytggfcdjmeodggaa

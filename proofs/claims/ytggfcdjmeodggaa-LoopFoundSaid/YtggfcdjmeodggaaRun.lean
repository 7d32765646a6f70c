/- Contracts of package runner. -/
import Derived.Test.YtggfcdjmeodggaaProg
import Derived.Test.YtggfcdjmeodggaaRs
import Derived.Test.YtggfcdjmeodggaaApp
import Derived.BigQuiet
import Derived.Deep.QuietTactic
import Derived.StillTailTactics
import Derived.Deep.RegionWith
import Derived.Deep.RegionLawGrows
set_option linter.unusedVariables false
set_option linter.unusedSimpArgs false
namespace Go.Proofs.Ytggfcdjmeodggaa
open Go.RowKit

/-- The run at block p, its cells at block q. -/
structure RunAt (w : World) (p q : Nat) (rv : Value) (cap : Nat) (S : RS) : Prop where
  blk : w.heap[p]? = some (.cells #[rv, .slice (some ⟨q, 0, none⟩) S.cells.length cap, .int .i64 S.fr, .int .i64 S.ones, .int .i64 S.st, .int .i64 S.pos] 104 (0, 0))
  row : IntBlk w 3 q S.cells cap
  ne : p ≠ q

theorem RunAt.drewN {w : World} {p q : Nat} {rv : Value} {cap : Nat} {S : RS} (h : RunAt w p q rv cap S) (n : Nat) : RunAt (w.drewN n) p q rv cap S := ⟨h.blk, h.row, h.ne⟩
theorem RunAt.fr {w w' : World} {p q : Nat} {rv : Value} {cap : Nat} {S : RS} (h : RunAt w p q rv cap S) {U : Nat → Prop} (hf : Fr U w w') (hp : ¬ U p) (hq : ¬ U q) : RunAt w' p q rv cap S :=
  ⟨hf.keep h.blk hp, h.row.keep (hf.block q h.row.lt hq), h.ne⟩

set_option maxHeartbeats 400000 in
theorem count_calls (x : Int) (w : World) : Calls Try.prog 69 #[.int .i64 x] w fun e w' => e = .returned (.int .i64 (cnt x)) ∧ w = w' := by
  go_enter Try.func69, Try.ntmps69
  go_wp2
  · go_ret
    exact ⟨by simp [cnt]; omega, rfl⟩
  · go_ret
    exact ⟨by simp [cnt]; omega, rfl⟩

theorem RunAt.c0 {w : World} {p q : Nat} {rv : Value} {cap : Nat} {S : RS} (h : RunAt w p q rv cap S) : w.cell? ⟨p, 0, none⟩ = some rv := (blk_cell h.blk 0).trans rfl
theorem RunAt.c1 {w : World} {p q : Nat} {rv : Value} {cap : Nat} {S : RS} (h : RunAt w p q rv cap S) : w.cell? ⟨p, 1, none⟩ = some (.slice (some ⟨q, 0, none⟩) S.cells.length cap) := (blk_cell h.blk 1).trans rfl
theorem RunAt.c2 {w : World} {p q : Nat} {rv : Value} {cap : Nat} {S : RS} (h : RunAt w p q rv cap S) : w.cell? ⟨p, 2, none⟩ = some (.int .i64 S.fr) := (blk_cell h.blk 2).trans rfl
theorem RunAt.c3 {w : World} {p q : Nat} {rv : Value} {cap : Nat} {S : RS} (h : RunAt w p q rv cap S) : w.cell? ⟨p, 3, none⟩ = some (.int .i64 S.ones) := (blk_cell h.blk 3).trans rfl
theorem RunAt.c4 {w : World} {p q : Nat} {rv : Value} {cap : Nat} {S : RS} (h : RunAt w p q rv cap S) : w.cell? ⟨p, 4, none⟩ = some (.int .i64 S.st) := (blk_cell h.blk 4).trans rfl
theorem RunAt.c5 {w : World} {p q : Nat} {rv : Value} {cap : Nat} {S : RS} (h : RunAt w p q rv cap S) : w.cell? ⟨p, 5, none⟩ = some (.int .i64 S.pos) := (blk_cell h.blk 5).trans rfl

theorem count_still (x : Int) (w : World) : Calls Try.prog 69 #[.int .i64 x] w fun e w' => e = .returned (.int .i64 (cnt x)) ∧ w' = w :=
  (count_calls x w).mono fun _ _ ⟨h1, h2⟩ => ⟨h1, h2.symm⟩

set_option maxHeartbeats 400000 in
theorem bounds_calls {p q : Nat} {rv : Value} {cap : Nat} {S : RS} {w : World} (h : RunAt w p q rv cap S) (hl : S.cells.length ≤ 1099511627776) (h0 : -1099511627776 ≤ S.fr) (h1 : S.fr ≤ 1099511627776) :
   Calls Try.prog 75 #[.pointer (some ⟨p, 0, none⟩)] w fun e w' => e = .returned (.tuple #[.int .i64 S.fr, .int .i64 (S.fr + S.cells.length - 1)]) ∧ ∃ k, w' = w.drewN k := by
  have c1 := h.c1
  have c2 := h.c2
  have HH := Lib.hid h
  clear h
  have hw1 : IntKind.i64.wrap (S.fr + (S.cells.length : Int)) = S.fr + S.cells.length := IntWalk.i64_in _ (by omega)
  have hw2 : IntKind.i64.wrap (S.fr + (S.cells.length : Int) - 1) = S.fr + S.cells.length - 1 := IntWalk.i64_in _ (by omega)
  go_enter Try.func75, Try.ntmps75
  go_wp2
  go_quiet (fail)
  go_wp2
  go_ret2
  exact ⟨rfl, _, rfl⟩

set_option maxHeartbeats 400000 in
theorem read_calls {p q : Nat} {rv : Value} {cap : Nat} {S : RS} {w : World} (h : RunAt w p q rv cap S) (x : Int) (hx0 : -2199023255552 ≤ x) (hx1 : x ≤ 2199023255552) (h0 : -1099511627776 ≤ S.fr) (h1 : S.fr ≤ 1099511627776) :
   Calls Try.prog 76 #[.pointer (some ⟨p, 0, none⟩), .int .i64 x] w fun e w' => e = .returned (.int .i64 (S.rd x)) ∧ w = w' := by
  have c1 := h.c1
  have c2 := h.c2
  have HH := Lib.hid h
  clear h
  by_cases hd : 0 ≤ x - S.fr
  · by_cases he : x - S.fr < S.cells.length
    · have c3 := HH.out.row.cell (x - S.fr).toNat (by omega)
      have hr : S.rd x = gi S.cells (x - S.fr).toNat := by unfold RS.rd; rw [if_pos ⟨hd, he⟩]
      rw [hr]
      have HR := Lib.hid hr
      clear hr
      go_enter Try.func76, Try.ntmps76
      go_wp2
      go_ret
      exact ⟨rfl, rfl⟩
    · have hr : S.rd x = 0 := by unfold RS.rd; rw [if_neg (by omega)]
      rw [hr]
      have HR := Lib.hid hr
      clear hr
      go_enter Try.func76, Try.ntmps76
      go_wp2
      go_ret
      exact ⟨rfl, rfl⟩
  · have hr : S.rd x = 0 := by unfold RS.rd; rw [if_neg (by omega)]
    rw [hr]
    have HR := Lib.hid hr
    clear hr
    go_enter Try.func76, Try.ntmps76
    go_wp2
    go_ret
    exact ⟨rfl, rfl⟩

theorem Try.infoInt : (Try.prog.info? 3).map (fun i => (i.zero, i.size, i.bytes)) = some (some (.int .i64 0), 1, 8) := by kernel_rfl

set_option maxHeartbeats 1000000 in
set_option maxRecDepth 100000 in
theorem room_left {p q : Nat} {rv : Value} {cap : Nat} {S : RS} {w : World} (h : RunAt w p q rv cap S) (hl0 : 1 ≤ S.cells.length) (hl : S.cells.length ≤ 1099511627776) (hf0 : -1099511627776 ≤ S.fr) (hf1 : S.fr ≤ 0) (hp0 : -1099511627776 ≤ S.pos) (hc : S.pos - S.fr < 0) :
   Calls Try.prog 68 #[.pointer (some ⟨p, 0, none⟩)] w fun e w' => e = .returned (.tuple #[]) ∧ ∃ q' cap', w.heap.size ≤ q' ∧
     RunAt w' p q' rv cap' { S with cells := List.replicate S.cells.length 0 ++ S.cells, fr := S.fr - S.cells.length } ∧ Fr (fun k => k = p) w w' := by
  obtain ⟨i0, hi, hz0, hz1, hz2⟩ := info_parts Try.infoInt
  have c1 := h.c1
  have c2 := h.c2
  have c5 := h.c5
  have hw1 : IntKind.i64.wrap (S.pos - S.fr) = S.pos - S.fr := IntWalk.i64_in _ (by omega)
  have hw2 : IntKind.i64.wrap (S.fr - (S.cells.length : Int)) = S.fr - S.cells.length := IntWalk.i64_in _ (by omega)
  have lp : p < w.heap.size := blk_lt h.blk
  have HH := Lib.hid h
  clear h
  go_enter Try.func68, Try.ntmps68
  go_wp2
  go_quiet (fail)
  go_wp2
  refine wp_name fun W1 hW1 => ?_
  have hF1 : Fr (fun _ => False) w W1 := by rw [hW1]; exact (Fr.refl _ _).drewN _
  have g := HH.out.fr hF1 id id
  have hsz := hF1.size
  have hmk : ∀ W : World, (Instr.makeSlice 38 (.int .i64 S.cells.length) (.int .i64 S.cells.length)).run Try.prog W = .ok (.slice (some ⟨W.heap.size, 0, none⟩) S.cells.length S.cells.length) (W.alloc (.cells (Array.replicate S.cells.length (.int .i64 0)) 3)) :=
    fun W => run_make_one W _ _ i0 (.int .i64 0) 8 Try.underlying38 hi hz0 hz1 hz2 rfl .i64 .i64 S.cells.length (by omega) (by omega)
  clear c1 c2 c5 hW1
  have c1 := g.c1
  have lp := blk_lt g.blk
  have lq := g.row.lt
  have hown : (W1.alloc (.cells (Array.replicate S.cells.length (.int .i64 0)) 3)).drew.ownsRow W1.heap.size 3 1 (.slice (some ⟨W1.heap.size, 0, none⟩) S.cells.length S.cells.length) S.cells.length (ints (List.replicate S.cells.length 0)) :=
    ⟨by simp [ints], .inr ⟨W1.heap.size, S.cells.length, _, rfl, Nat.le_refl _, blk_new W1 _, Nat.le_refl _, by unfold maxLen; omega, by simp, by simp [ints]⟩⟩
  have hnews : ∀ j u, (ints S.cells)[j]? = some u → (W1.alloc (.cells (Array.replicate S.cells.length (.int .i64 0)) 3)).drew.cell? ((⟨q, 0, none⟩ : Addr).add j) = some u := by
    intro j u hj
    have hlt := (List.getElem?_eq_some_iff.1 hj).1
    rw [ints_length] at hlt
    rw [ints_get _ _ hlt] at hj
    rw [Addr.add_lit, Nat.zero_add]
    exact (World.cell?_alloc_past _ _ _ lq).trans ((g.row.cell j hlt).trans hj)
  have HO := Lib.hid hown
  have HN := Lib.hid hnews
  have HG := Lib.hid g
  have HS := Lib.hid hsz
  have HF := Lib.hid hF1
  clear hown hnews g hsz hF1
  refine G_start (ExtOf W1) [7, 10] (by kernel_rfl) ?_
  have hS0 := Lib.hid (ExtOf.of_drew W1)
  refine G_pure 0 rfl (by kernel_rfl) (fun _ _ _ h => h) (yields_if (wanted_plain rfl) (fun w' _ => by go_simp; try rfl)) ?_
  try simp only [Act.put, List.setIfInBounds_toArray, List.set_cons_zero, List.set_cons_succ]
  refine G_pure 1 rfl (by kernel_rfl) (fun _ _ _ h => h) (yields_if (wanted_plain rfl) (fun w' _ => by go_simp; try rfl)) ?_
  try simp only [Act.put, List.setIfInBounds_toArray, List.set_cons_zero, List.set_cons_succ]
  refine G_pure 3 rfl (by kernel_rfl) (fun _ _ _ h => h) (yields_if (wanted_plain rfl) (fun w' _ => by go_simp; try rfl)) ?_
  try simp only [Act.put, List.setIfInBounds_toArray, List.set_cons_zero, List.set_cons_succ]
  refine G_pure 4 rfl (by kernel_rfl) (fun _ _ _ h => h) (yields_if (wanted_plain rfl) (fun w' _ => by go_simp; try rfl)) ?_
  try simp only [Act.put, List.setIfInBounds_toArray, List.set_cons_zero, List.set_cons_succ]
  refine G_pure 5 rfl (by kernel_rfl) (fun _ _ _ h => h) (yields_if (wanted_plain rfl) (fun w' _ => by go_simp; try rfl)) ?_
  try simp only [Act.put, List.setIfInBounds_toArray, List.set_cons_zero, List.set_cons_succ]
  refine G_take 6 rfl (by kernel_rfl) (by kernel_rfl) (fun _ _ _ h => h) hS0.out (yields_if (wanted_plain rfl) (fun w' hw' => by obtain ⟨x, rfl⟩ := hw'; go_simp; try rfl)) ?_
  try simp only [Act.put, List.setIfInBounds_toArray, List.set_cons_zero, List.set_cons_succ]
  -- 2: makeSlice
  refine G_one 2 (by kernel_rfl) (wpOp_of rfl (wanted_plain rfl) ?_)
  go_simp
  refine keep_on hS0.out (fun h => by first | exact h.alloc _ | exact (h.alloc _).drew | exact (h.alloc _).drewN _) (fun hS' => ?_)
  have hS0_1 := Lib.hid hS'
  clear hS'
  try simp only [Act.put, List.setIfInBounds_toArray, List.set_cons_zero, List.set_cons_succ]
  -- 7: b.append
  refine G_one 7 (by kernel_rfl) (wpOp_of rfl (wanted_plain rfl) ?_)
  refine wp_append_own _ (.tmp 23) (.tmp 27) 38 rfl W1.heap.size 3 i0 (.int .i64 0) 1 8 Try.underlying38 hi hz0 hz1 hz2 rfl (by decide) (.slice (some ⟨W1.heap.size, 0, none⟩) S.cells.length S.cells.length) S.cells.length (ints (List.replicate S.cells.length 0)) rfl HO.out ⟨q, 0, none⟩ S.cells.length cap (ints S.cells) rfl (by simp [ints]) HN.out (ints_oneCell _ _) (by unfold maxLen; omega) (by omega) (by simp) ?_
  intro v' w2 hown2 hgrow _
  rw [← ints_append] at hown2
  obtain ⟨q2, cap2, rfl, hq2, hb2⟩ := IntBlk.of_own hown2 (by omega)
  have hp2 : w2.heap[p]? = _ := blk_grown (show (W1.alloc (.cells (Array.replicate S.cells.length (.int .i64 0)) 3)).drew.heap[p]? = _ from blk_alloc HG.out.blk _) hgrow (by simp [Value.ownBlock]; omega)
  have c1' : w2.cell? ⟨p, 1, none⟩ = some (.slice (some ⟨q, 0, none⟩) S.cells.length cap) := (blk_cell hp2 1).trans rfl
  have c2' : w2.cell? ⟨p, 2, none⟩ = some (.int .i64 S.fr) := (blk_cell hp2 2).trans rfl
  have f1' := blk_frozen hp2 1
  have f2' := blk_frozen hp2 2
  have hlen : (List.replicate S.cells.length (0 : Int) ++ S.cells).length = S.cells.length + S.cells.length := by simp
  have hFr2 : Fr (fun _ => False) W1 w2 := ((Fr.refl _ W1).alloc (.cells (Array.replicate S.cells.length (.int .i64 0)) 3)).drew.grown hgrow (fun k e hk => by simp [Value.ownBlock] at e; omega)
  have HB2 := Lib.hid hb2
  have HP2 := Lib.hid hp2
  have HL := Lib.hid hlen
  have HF2 := Lib.hid hFr2
  have HQ2 := Lib.hid hq2
  clear hb2 hp2 hlen hgrow hq2 hown2 hFr2 c1
  refine ⟨fun h => (by simp [offs] at h), ?_⟩
  try simp only [Act.put, List.setIfInBounds_toArray, List.set_cons_zero, List.set_cons_succ]
  refine G_pure 8 rfl (by kernel_rfl) (fun _ _ _ h => h) (yields_if (wanted_plain rfl) (fun w' _ => by go_simp; try rfl)) ?_
  try simp only [Act.put, List.setIfInBounds_toArray, List.set_cons_zero, List.set_cons_succ]
  refine G_pure 9 rfl (by kernel_rfl) (fun _ _ _ h => h) (yields_if (wanted_plain rfl) (fun w' _ => by go_simp; try rfl)) ?_
  try simp only [Act.put, List.setIfInBounds_toArray, List.set_cons_zero, List.set_cons_succ]
  -- 10: store
  refine G_one 10 (by kernel_rfl) (wpOp_of rfl (wanted_plain rfl) ?_)
  go_simp
  refine ⟨fun h => (by simp [offs] at h), ?_⟩
  try simp only [Act.put, List.setIfInBounds_toArray, List.set_cons_zero, List.set_cons_succ]
  refine G_done (by kernel_rfl) ?_
  go_wp2
  go_end0
  have z1 := blk_set (i := 2) (blk_set (i := 1) HP2.out (.slice (some ⟨q2, 0, none⟩) (S.cells.length + S.cells.length) cap2)) (.int .i64 (S.fr - S.cells.length))
  have hne : p ≠ q2 := by have := HQ2.out; omega
  refine ⟨rfl, q2, cap2, Nat.le_trans HS.out HQ2.out, ⟨?_, ?_, hne⟩, ?_⟩
  · simp only [HL.out]
    exact z1
  · exact (HB2.out.keep (Below.heap_setCell _ _ _ _ (Ne.symm hne))).keep (Below.heap_setCell _ _ _ _ (Ne.symm hne))
  · have z2 : Fr (fun k => k = p) w W1 := HF.out.all
    have z3 : Fr (fun k => k = p) w w2 := z2.trans HF2.out (fun _ _ e => e.elim)
    exact (z3.setCell _ _ (fun _ => rfl)).setCell _ _ (fun _ => rfl)

set_option maxHeartbeats 1000000 in
set_option maxRecDepth 100000 in
theorem room_right {p q : Nat} {rv : Value} {cap : Nat} {S : RS} {w : World} (h : RunAt w p q rv cap S) (hl0 : 1 ≤ S.cells.length) (hl : S.cells.length ≤ 1099511627776) (hf0 : -1099511627776 ≤ S.fr) (hf1 : S.fr ≤ 0) (hp1 : S.pos ≤ 1099511627776) (hc0 : ¬ S.pos - S.fr < 0) (hc : S.cells.length ≤ S.pos - S.fr) :
   Calls Try.prog 68 #[.pointer (some ⟨p, 0, none⟩)] w fun e w' => e = .returned (.tuple #[]) ∧ ∃ q' cap', (q' = q ∨ w.heap.size ≤ q') ∧
     RunAt w' p q' rv cap' { S with cells := S.cells ++ List.replicate S.cells.length 0 } ∧ Fr (fun k => k = p ∨ k = q) w w' := by
  obtain ⟨i0, hi, hz0, hz1, hz2⟩ := info_parts Try.infoInt
  have c1 := h.c1
  have c2 := h.c2
  have c5 := h.c5
  have hw1 : IntKind.i64.wrap (S.pos - S.fr) = S.pos - S.fr := IntWalk.i64_in _ (by omega)
  have lp : p < w.heap.size := blk_lt h.blk
  have HH := Lib.hid h
  clear h
  go_enter Try.func68, Try.ntmps68
  go_wp2
  go_quiet (fail)
  go_wp2
  refine wp_name fun W1 hW1 => ?_
  have hF1 : Fr (fun _ => False) w W1 := by rw [hW1]; exact (Fr.refl _ _).drewN _
  have g := HH.out.fr hF1 id id
  have hsz := hF1.size
  clear c1 c2 c5 hW1
  have c1 := g.c1
  have lp := blk_lt g.blk
  have lq := g.row.lt
  have hown : W1.drew.ownsRow 0 3 1 (.slice (some ⟨q, 0, none⟩) S.cells.length cap) S.cells.length (ints S.cells) := g.row.owns 0 (Nat.zero_le _)
  have HO := Lib.hid hown
  have HG := Lib.hid g
  have HS := Lib.hid hsz
  have HF := Lib.hid hF1
  clear hown g hsz hF1
  refine G_start (ExtOf W1) [10, 13] (by kernel_rfl) ?_
  have hS0 := Lib.hid (ExtOf.of_drew W1)
  refine G_pure 0 rfl (by kernel_rfl) (fun _ _ _ h => h) (yields_if (wanted_plain rfl) (fun w' _ => by go_simp; try rfl)) ?_
  try simp only [Act.put, List.setIfInBounds_toArray, List.set_cons_zero, List.set_cons_succ]
  refine G_pure 1 rfl (by kernel_rfl) (fun _ _ _ h => h) (yields_if (wanted_plain rfl) (fun w' _ => by go_simp; try rfl)) ?_
  try simp only [Act.put, List.setIfInBounds_toArray, List.set_cons_zero, List.set_cons_succ]
  refine G_pure 2 rfl (by kernel_rfl) (fun _ _ _ h => h) (yields_if (wanted_plain rfl) (fun w' _ => by go_simp; try rfl)) ?_
  try simp only [Act.put, List.setIfInBounds_toArray, List.set_cons_zero, List.set_cons_succ]
  refine G_pure 3 rfl (by kernel_rfl) (fun _ _ _ h => h) (yields_if (wanted_plain rfl) (fun w' _ => by go_simp; try rfl)) ?_
  try simp only [Act.put, List.setIfInBounds_toArray, List.set_cons_zero, List.set_cons_succ]
  refine G_pure 5 rfl (by kernel_rfl) (fun _ _ _ h => h) (yields_if (wanted_plain rfl) (fun w' _ => by go_simp; try rfl)) ?_
  try simp only [Act.put, List.setIfInBounds_toArray, List.set_cons_zero, List.set_cons_succ]
  refine G_pure 6 rfl (by kernel_rfl) (fun _ _ _ h => h) (yields_if (wanted_plain rfl) (fun w' _ => by go_simp; try rfl)) ?_
  try simp only [Act.put, List.setIfInBounds_toArray, List.set_cons_zero, List.set_cons_succ]
  refine G_pure 7 rfl (by kernel_rfl) (fun _ _ _ h => h) (yields_if (wanted_plain rfl) (fun w' _ => by go_simp; try rfl)) ?_
  try simp only [Act.put, List.setIfInBounds_toArray, List.set_cons_zero, List.set_cons_succ]
  refine G_take 4 rfl (by kernel_rfl) (by kernel_rfl) (fun _ _ _ h => h) hS0.out (yields_if (wanted_plain rfl) (fun w' hw' => by obtain ⟨x, rfl⟩ := hw'; go_simp; try rfl)) ?_
  try simp only [Act.put, List.setIfInBounds_toArray, List.set_cons_zero, List.set_cons_succ]
  refine G_take 8 rfl (by kernel_rfl) (by kernel_rfl) (fun _ _ _ h => h) hS0.out (yields_if (wanted_plain rfl) (fun w' hw' => by obtain ⟨x, rfl⟩ := hw'; go_simp; try rfl)) ?_
  try simp only [Act.put, List.setIfInBounds_toArray, List.set_cons_zero, List.set_cons_succ]
  refine G_pure 9 rfl (by kernel_rfl) (fun _ _ _ h => h) (yields_if (wanted_plain rfl) (fun w' _ => by go_simp; try rfl)) ?_
  try simp only [Act.put, List.setIfInBounds_toArray, List.set_cons_zero, List.set_cons_succ]
  -- 10: b.append
  refine G_one 10 (by kernel_rfl) (wpOp_of rfl (wanted_plain rfl) ?_)
  refine wp_append_own_zeros (.tmp 51) (.tmp 56) 38 3 rfl 0 3 i0 (.int .i64 0) 8 .i64 .i64 Try.underlying38 Try.underlying3 hi hz0 hz1 hz2 rfl rfl (.slice (some ⟨q, 0, none⟩) S.cells.length cap) S.cells.length (ints S.cells) rfl HO.out (by simp) S.cells.length rfl (by omega) (by unfold maxLen; omega) (by omega) (Nat.zero_le _) ?_
  intro v' w2 hown2 hgrow hbk
  rw [← ints_replicate, ← ints_append] at hown2
  obtain ⟨q2, cap2, rfl, _, hb2⟩ := IntBlk.of_own hown2 (by omega)
  have hp2 : w2.heap[p]? = _ := blk_grown (show W1.drew.heap[p]? = _ from HG.out.blk) hgrow (by simp [Value.ownBlock]; exact Ne.symm HG.out.ne)
  have hqq : q2 = q ∨ W1.heap.size ≤ q2 := by
    rcases hbk with h | ⟨k, h, h2⟩
    · left; simpa [Value.ownBlock] using h
    · right
      obtain rfl : q2 = k := by simpa [Value.ownBlock] using h
      exact h2
  have c1' : w2.cell? ⟨p, 1, none⟩ = some (.slice (some ⟨q, 0, none⟩) S.cells.length cap) := (blk_cell hp2 1).trans rfl
  have f1' := blk_frozen hp2 1
  have hlen : (S.cells ++ List.replicate S.cells.length (0 : Int)).length = S.cells.length + S.cells.length := by simp
  have hFr2 : Fr (fun k => k = q) W1 w2 := ((Fr.refl _ W1).drew).grown hgrow (fun k e hk => by simp [Value.ownBlock] at e; exact e.symm)
  have HB2 := Lib.hid hb2
  have HP2 := Lib.hid hp2
  have HL := Lib.hid hlen
  have HF2 := Lib.hid hFr2
  have HQ2 := Lib.hid hqq
  clear hb2 hp2 hlen hgrow hqq hown2 hFr2 c1 hbk
  refine ⟨fun h => (by simp [offs] at h), ?_⟩
  try simp only [Act.put, List.setIfInBounds_toArray, List.set_cons_zero, List.set_cons_succ]
  refine G_pure 11 rfl (by kernel_rfl) (fun _ _ _ h => h) (yields_if (wanted_plain rfl) (fun w' _ => by go_simp; try rfl)) ?_
  try simp only [Act.put, List.setIfInBounds_toArray, List.set_cons_zero, List.set_cons_succ]
  refine G_pure 12 rfl (by kernel_rfl) (fun _ _ _ h => h) (yields_if (wanted_plain rfl) (fun w' _ => by go_simp; try rfl)) ?_
  try simp only [Act.put, List.setIfInBounds_toArray, List.set_cons_zero, List.set_cons_succ]
  -- 13: store
  refine G_one 13 (by kernel_rfl) (wpOp_of rfl (wanted_plain rfl) ?_)
  go_simp
  refine ⟨fun h => (by simp [offs] at h), ?_⟩
  try simp only [Act.put, List.setIfInBounds_toArray, List.set_cons_zero, List.set_cons_succ]
  refine G_done (by kernel_rfl) ?_
  go_wp2
  go_end0
  have z1 := blk_set (i := 1) HP2.out (.slice (some ⟨q2, 0, none⟩) (S.cells.length + S.cells.length) cap2)
  have hne : p ≠ q2 := by
    have := HG.out.ne
    have h2 := HQ2.out
    omega
  refine ⟨rfl, q2, cap2, ?_, ⟨?_, ?_, hne⟩, ?_⟩
  · have h2 := HQ2.out
    have h3 := HS.out
    omega
  · simp only [HL.out]
    exact z1
  · exact HB2.out.keep (Below.heap_setCell _ _ _ _ (Ne.symm hne))
  · have z2 : Fr (fun k => k = p ∨ k = q) w W1 := HF.out.all
    have z3 : Fr (fun k => k = p ∨ k = q) w w2 := z2.trans HF2.out (fun _ _ e => .inr e)
    exact z3.setCell _ _ (fun _ => .inl rfl)

set_option maxHeartbeats 400000 in
theorem room_inside {p q : Nat} {rv : Value} {cap : Nat} {S : RS} {w : World} (h : RunAt w p q rv cap S) (hl : S.cells.length ≤ 1099511627776) (hf0 : -1099511627776 ≤ S.fr) (hf1 : S.fr ≤ 0) (hp1 : S.pos ≤ 1099511627776) (hc0 : 0 ≤ S.pos - S.fr) (hc : S.pos - S.fr < S.cells.length) :
   Calls Try.prog 68 #[.pointer (some ⟨p, 0, none⟩)] w fun e w' => e = .returned (.tuple #[]) ∧ ∃ k, w' = w.drewN k := by
  have c1 := h.c1
  have c2 := h.c2
  have c5 := h.c5
  have hw1 : IntKind.i64.wrap (S.pos - S.fr) = S.pos - S.fr := IntWalk.i64_in _ (by omega)
  have HH := Lib.hid h
  clear h
  go_enter Try.func68, Try.ntmps68
  go_wp2
  go_quiet (fail)
  go_wp2
  go_end0
  exact ⟨rfl, _, rfl⟩

theorem room_calls {p q : Nat} {rv : Value} {cap : Nat} {S : RS} {w : World} (h : RunAt w p q rv cap S) {m : Mach} {k : Nat} (hI : S.Inv m k) (hk : k < 1048576) :
   Calls Try.prog 68 #[.pointer (some ⟨p, 0, none⟩)] w fun e w' => e = .returned (.tuple #[]) ∧ ∃ q' cap', (q' = q ∨ w.heap.size ≤ q') ∧ RunAt w' p q' rv cap' S.room ∧ Fr (fun k => k = p ∨ k = q) w w' := by
  have h1 := hI.len
  have h2 := hI.one
  have h3 := hI.fr0
  have h4 := hI.fr1
  have h5 := hI.pos0
  have h6 := hI.pos1
  unfold RS.room
  by_cases hc : S.pos - S.fr < 0
  · rw [if_pos hc]
    refine (room_left h (by omega) h1 h3 (by omega) (by omega) hc).mono ?_
    rintro e w' ⟨he, q', cap', hq, hr, hf⟩
    exact ⟨he, q', cap', .inr hq, hr, hf.mono (fun _ _ e => .inl e)⟩
  · rw [if_neg hc]
    by_cases hc2 : S.pos - S.fr ≥ S.cells.length
    · rw [if_pos hc2]
      exact room_right h (by omega) h1 h3 (by omega) (by omega) hc hc2
    · rw [if_neg hc2]
      refine (room_inside h h1 h3 (by omega) (by omega) (by omega) (by omega)).mono ?_
      rintro e w' ⟨he, n, rfl⟩
      exact ⟨he, q, cap, .inl rfl, h.drewN n, (Fr.refl _ _).drewN n⟩

end Go.Proofs.Ytggfcdjmeodggaa

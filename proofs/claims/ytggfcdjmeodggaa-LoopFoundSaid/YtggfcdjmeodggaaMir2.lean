/- Contract of tape.Mirror. -/
import Derived.Test.YtggfcdjmeodggaaMir
set_option linter.unusedVariables false
set_option linter.unusedSimpArgs false
namespace Go.Proofs.Ytggfcdjmeodggaa
open Go.RowKit

theorem blk_new_at {w : World} {n : Nat} (o : Obj) (h : n = w.heap.size) : (w.alloc o).heap[n]? = some o := by rw [h]; exact blk_new _ _

def mir (r : Rl) : Rl := ⟨r.w, -r.m, r.n⟩
def mirRules (r : List (List Rl)) : List (List Rl) := r.map (·.map mir)
theorem mir_row (r : List (List Rl)) (i : Nat) : rowAt (mirRules r) i = (rowAt r i).map mir := by
  simp only [rowAt, mirRules, List.getD_eq_getElem?_getD, List.getElem?_map]
  cases r[i]? <;> rfl
theorem mir_in (l : List Rl) (j : Nat) : ruleIn (l.map mir) j = mir (ruleIn l j) := by
  simp only [ruleIn, List.getD_eq_getElem?_getD, List.getElem?_map]
  cases l[j]? <;> rfl

theorem results_cell_row_tmp {P : Program} {fn : Func} {p u : Tmp} {ty : TypeId} (h : fn.results = #[.cell p ty, .tmp u]) (tmps : Array Value) (w : World) (g : Nat) (t : TypeId) (cs : Array Value) (fr : Nat × Nat) (d : TypeDesc)
    (hp : tmps.getD p undef = .pointer (some ⟨g, 0, none⟩)) (hg : w.heap[g]? = some (.cells cs t fr))
    (hu : P.underlying ty = some d) (hd : (match d with | .struct _ | .array _ _ => true | _ => false) = true) (hi : (P.info? ty).map (·.size) = some cs.size) :
    (results fn tmps).run P w = .ok (.tuple #[.agg cs, tmps.getD u undef]) w := by
  rw [results_cell_tmp h, hp]
  simp [asAddr, Result.andThen, run_loadVar_row w g t ty cs fr d hg hu hd hi]

/-- Where the outer loop of Mirror stands: i rows are laid down. -/
structure MirInv (w wr : World) (st sy : Int) (po : Nat) (rv : Value) (r : List (List Rl)) (i : Nat) : Prop where
  fr : Fr (fun _ => False) w wr
  box : wr.heap[w.heap.size]? = some (.cells #[.int .i64 st, .int .i64 sy, rv] 24 (0, 0))
  res : wr.heap[w.heap.size + 1]? = some (.cells #[.int .i64 0, .int .i64 0, .slice none 0 0] 24 (0, 0))
  out : ∃ v vals, wr.heap[po]? = some (.cells #[.int .i64 st, .int .i64 sy, v] 24 (0, 0)) ∧ wr.ownsRow 0 73 1 v i vals ∧ (∀ g, v.ownBlock = some g → w.heap.size ≤ g) ∧
    ∀ k, k < i → ∃ q cap, vals[k]? = some (.slice (some ⟨q, 0, none⟩) (rowAt r k).length cap) ∧ w.heap.size ≤ q ∧ RuleFn wr q (rowAt r k).length cap (fun j => mir (ruleIn (rowAt r k) j))

/-- What the inner loop of Mirror does not touch. -/
theorem MirInv.step {w wr wr' : World} {st sy : Int} {po : Nat} {rv : Value} {r : List (List Rl)} {i : Nat} (h : MirInv w wr st sy po rv r i) (hf : Fr (fun _ => False) wr wr') : MirInv w wr' st sy po rv r i := by
  obtain ⟨v, vals, h1, h2, h3, h4⟩ := h.out
  refine ⟨h.fr.trans hf (fun _ _ e => e), hf.keep h.box id, hf.keep h.res id, v, vals, hf.keep h1 id, ?_, h3, fun k hk => ?_⟩
  · obtain ⟨a1, a2⟩ := h2
    refine ⟨a1, ?_⟩
    rcases a2 with a2 | ⟨g, cap, cur, rfl, b1, b2, b3⟩
    · exact .inl a2
    · exact .inr ⟨g, cap, cur, rfl, b1, hf.keep b2 id, b3⟩
  · obtain ⟨q, cap, c1, c2, c3⟩ := h4 k hk
    exact ⟨q, cap, c1, c2, c3.keep (hf.block q c3.lt id)⟩

/-- One more row. -/
theorem MirInv.more {w wr w2 w3 : World} {st sy : Int} {po : Nat} {rv : Value} {r : List (List Rl)} {i q cap : Nat} (hfr : Fr (fun _ => False) w wr)
    (hbox : wr.heap[w.heap.size]? = some (.cells #[.int .i64 st, .int .i64 sy, rv] 24 (0, 0)))
    (hres : wr.heap[w.heap.size + 1]? = some (.cells #[.int .i64 0, .int .i64 0, .slice none 0 0] 24 (0, 0)))
    {v v' x : Value} {vals : List Value} (hout : wr.heap[po]? = some (.cells #[.int .i64 st, .int .i64 sy, v] 24 (0, 0)))
    (h4 : ∀ k, k < i → ∃ q cap, vals[k]? = some (.slice (some ⟨q, 0, none⟩) (rowAt r k).length cap) ∧ w.heap.size ≤ q ∧ RuleFn wr q (rowAt r k).length cap (fun j => mir (ruleIn (rowAt r k) j)))
    (hl : vals.length = i) (hq : w.heap.size ≤ q) (hrow : RuleFn wr q (rowAt r i).length cap (fun j => mir (ruleIn (rowAt r i) j)))
    (hown0 : ∀ g, v.ownBlock = some g → w.heap.size ≤ g ∧ ∃ cur, wr.heap[g]? = some (.cells cur 73 (0, 0)))
    (hown : w2.ownsRow 0 73 1 v' (i + 1) (vals ++ [.slice (some ⟨q, 0, none⟩) (rowAt r i).length cap])) (hgr : (wr.alloc (.cells #[x] 73)).grownBy w2 v.ownBlock)
    (hnew : v'.ownBlock = v.ownBlock ∨ ∃ g, v'.ownBlock = some g ∧ wr.heap.size + 1 ≤ g) (hw : w.heap.size + 1 < po) (hw3 : w3 = w2.setCell ⟨po, 2, none⟩ v') : MirInv w w3 st sy po rv r (i + 1) := by
  have hpo := blk_lt hout
  have hsz := hfr.size
  have far : ∀ b o T fz, wr.heap[b]? = some (Obj.cells o T fz) → T ≠ 73 → w2.heap[b]? = some (Obj.cells o T fz) := fun b o T fz hb hT =>
    blk_grown (blk_alloc hb _) hgr (fun e => by
      obtain ⟨_, cur, hc⟩ := hown0 b e
      rw [hb] at hc
      simp only [Option.some.injEq, Obj.cells.injEq] at hc
      exact hT hc.2.1)
  have hv' : ∀ g, v'.ownBlock = some g → w.heap.size ≤ g ∧ g ≠ po := fun g hg => by
    rcases hnew with h | ⟨g', h, h'⟩
    · rw [h] at hg
      obtain ⟨k1, cur, k2⟩ := hown0 g hg
      refine ⟨k1, fun e => ?_⟩
      subst e
      rw [hout] at k2
      simp at k2
    · rw [hg] at h
      cases h
      exact ⟨by omega, by omega⟩
  subst hw3
  have hout2 := far _ _ _ _ hout (by decide)
  refine ⟨?_, ?_, ?_, v', vals ++ [.slice (some ⟨q, 0, none⟩) (rowAt r i).length cap], ?_, ?_, fun g hg => (hv' g hg).1, fun k hk => ?_⟩
  · refine ((hfr.alloc _).grown hgr (fun k e hk => ?_)).setCell _ _ (fun h => by simp at h; omega)
    have := (hown0 k e).1
    omega
  · exact blk_set_other (far _ _ _ _ hbox (by decide)) _ _ (by simp; omega)
  · exact blk_set_other (far _ _ _ _ hres (by decide)) _ _ (by simp; omega)
  · exact blk_set (i := 2) hout2 _
  · obtain ⟨a1, a2⟩ := hown
    refine ⟨a1, ?_⟩
    rcases a2 with a2 | ⟨g, cp, cur, rfl, b1, b2, b3⟩
    · exact .inl a2
    · exact .inr ⟨g, cp, cur, rfl, b1, blk_set_other b2 _ _ (hv' g rfl).2, b3⟩
  · have keep : ∀ {q n cap : Nat} {f : Nat → Rl}, RuleFn wr q n cap f → RuleFn (w2.setCell ⟨po, 2, none⟩ v') q n cap f := by
      rintro q n cap f ⟨cur, k1, k2⟩
      exact ⟨cur, blk_set_other (far _ _ _ _ k1 (by decide)) _ _ (fun e => by
        simp only at e
        rw [e, hout] at k1
        simp at k1), k2⟩
    by_cases e : k = i
    · subst e
      exact ⟨q, cap, by rw [List.getElem?_append_right (by omega), hl]; simp, hq, keep hrow⟩
    · obtain ⟨q', cap', k1, k2, k3⟩ := h4 k (by omega)
      exact ⟨q', cap', by rw [List.getElem?_append_left (by omega)]; exact k1, k2, keep k3⟩

/-- Rows that are read. -/
theorem RuleFn.row {w : World} {B q cap : Nat} {l : List Rl} {n : Nat} {f : Nat → Rl} (h : RuleFn w q n cap f) (hB : q < B) (hn : l.length = n) (hf : ∀ j, j < n → ruleIn l j = f j) : RowRd B w (.slice (some ⟨q, 0, none⟩) n cap) l := by
  obtain ⟨cur, h1, h2, h3, h4⟩ := h
  subst hn
  refine ⟨_, _, rfl, h2, h3, fun _ => ⟨q, 0, rfl, hB, fun j hj => ?_⟩⟩
  rw [hf j hj, Nat.zero_add, blk_cell h1, blk_cell h1, blk_cell h1]
  exact h4 j hj

/-- Rules that lie in blocks from lo on, below B. -/
def RulesNew (lo B : Nat) (w : World) (v : Value) (r : List (List Rl)) : Prop := ∀ w'' : World, (∀ k, lo ≤ k → k < B → w''.heap[k]? = w.heap[k]?) → RulesRd B w'' v r
theorem RulesNew.rd {lo B : Nat} {w : World} {v : Value} {r : List (List Rl)} (h : RulesNew lo B w v r) : RulesRd B w v r := h w (fun _ _ _ => rfl)

theorem mir_done {w w3 : World} {r : List (List Rl)} {g cp i : Nat} {cur : Array Value} {vals : List Value} (hi : i = r.length) (hg : w.heap.size ≤ g) (hb : w3.heap[g]? = some (.cells cur 73 (0, 0))) (h1 : i ≤ cp) (h2 : cp ≤ maxLen) (h5 : cur.toList.take (i * 1) = vals)
    (h4 : ∀ k, k < i → ∃ q cap, vals[k]? = some (.slice (some ⟨q, 0, none⟩) (rowAt r k).length cap) ∧ w.heap.size ≤ q ∧ RuleFn w3 q (rowAt r k).length cap (fun j => mir (ruleIn (rowAt r k) j))) : RulesNew w.heap.size w3.heap.size w3 (.slice (some ⟨g, 0, none⟩) i cp) (mirRules r) := by
  intro w'' hw
  have hl : (mirRules r).length = i := by rw [hi]; simp [mirRules]
  subst hi
  have hb2 := (hw g hg (blk_lt hb)).trans hb
  refine ⟨some ⟨g, 0, none⟩, cp, by rw [hl], by omega, h2, fun _ => ⟨g, 0, rfl, blk_lt hb, fun k hk => ?_⟩⟩
  rw [hl] at hk
  obtain ⟨q, cap, k1, kq, k3⟩ := h4 k hk
  refine ⟨_, ?_, (k3.keep (hw q kq k3.lt)).row (l := rowAt (mirRules r) k) k3.lt (by rw [mir_row]; simp) (fun j hj => by rw [mir_row, mir_in])⟩
  rw [Nat.zero_add, blk_cell hb2, ← k1, ← h5, List.getElem?_take, if_pos (by omega)]
  simp

end Go.Proofs.Ytggfcdjmeodggaa

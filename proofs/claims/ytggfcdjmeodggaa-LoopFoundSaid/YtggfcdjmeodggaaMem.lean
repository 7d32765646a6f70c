/- Lemmas on blocks of memory, and the frame 'Fr': all blocks but some are as they were. No condition. -/
import Derived.WalkKit
import Derived.Lib.Hide
import Derived.Deep.Draws
import Derived.StillTailTactics
set_option linter.unusedVariables false
set_option linter.unusedSimpArgs false
namespace Go.Proofs.Ytggfcdjmeodggaa
open Go.RowKit

/-! Draws are written outermost. -/
@[go_sem] theorem alloc_drewN (w : World) (n : Nat) (o : Obj) : (w.drewN n).alloc o = (w.alloc o).drewN n := rfl
@[go_sem] theorem setCell_drewN (w : World) (n : Nat) (a : Addr) (v : Value) : (w.drewN n).setCell a v = (w.setCell a v).drewN n := rfl

/-- A world gets a name. -/
theorem wp_name {P : Program} {c : Code} {Q : Exit → Act → World → Prop} {a : Act} {w : World} (h : ∀ W, W = w → c.wp P Q a W) : c.wp P Q a w := h w rfl
theorem calls_name {P : Program} {f : FuncId} {args : Array Value} {Q : Ending → World → Prop} {w : World} (h : ∀ W, W = w → Calls P f args W Q) : Calls P f args w Q := h w rfl
/-- A region that draws, whose first n operations only read and whose others come in one order: in the order of the text. -/
theorem wp_tail {P : Program} {id : Nat} {Q : Exit → Act → World → Prop} {a : Act} {w : World} {l : List Oper} (n : Nat) (hm : P.follows .mixedOrders = true) (hB : Region.lexTailB .any l.toArray n = true)
    (h : wpStill P l.toArray w.drew (fun a' => wpList P l.toArray Q (l.drop n) a' w.drew) (l.take n) a) : (Code.region id l.toArray true).wp P Q a w := wp_region_still_tail n hm hB h

/-- Blocks outside S are as they were; no block has gone; the streams are as they were. -/
structure Fr (S : Nat → Prop) (w w' : World) : Prop where
  os : w'.os = w.os
  tape : w'.tape = w.tape
  output : w'.output = w.output
  size : w.heap.size ≤ w'.heap.size
  block : ∀ k, k < w.heap.size → ¬ S k → w'.heap[k]? = w.heap[k]?

theorem Fr.refl (S : Nat → Prop) (w : World) : Fr S w w := ⟨rfl, rfl, rfl, Nat.le_refl _, fun _ _ _ => rfl⟩
theorem Fr.trans {S S' : Nat → Prop} {a b c : World} (h : Fr S a b) (k : Fr S' b c) (hs : ∀ i, i < a.heap.size → S' i → S i) : Fr S a c :=
  ⟨k.os.trans h.os, k.tape.trans h.tape, k.output.trans h.output, Nat.le_trans h.size k.size, fun i hi hn =>
    (k.block i (Nat.lt_of_lt_of_le hi h.size) (fun e => hn (hs i hi e))).trans (h.block i hi hn)⟩
theorem Fr.mono {S S' : Nat → Prop} {a b : World} (h : Fr S a b) (hs : ∀ i, i < a.heap.size → S i → S' i) : Fr S' a b :=
  ⟨h.os, h.tape, h.output, h.size, fun i hi hn => h.block i hi (fun e => hn (hs i hi e))⟩
theorem Fr.alloc {S : Nat → Prop} {a b : World} (h : Fr S a b) (o : Obj) : Fr S a (b.alloc o) :=
  ⟨h.os, h.tape, h.output, by have := h.size; simp; omega, fun i hi hn => (Below.heap_alloc _ _ _ (Nat.lt_of_lt_of_le hi h.size)).trans (h.block i hi hn)⟩
theorem Fr.drew {S : Nat → Prop} {a b : World} (h : Fr S a b) : Fr S a b.drew := ⟨h.os, h.tape, h.output, h.size, h.block⟩
theorem Fr.drewN {S : Nat → Prop} {a b : World} (h : Fr S a b) (n : Nat) : Fr S a (b.drewN n) := ⟨h.os, h.tape, h.output, h.size, h.block⟩
theorem Fr.setCell {S : Nat → Prop} {a b : World} (h : Fr S a b) (p : Addr) (v : Value) (hp : p.block < a.heap.size → S p.block) : Fr S a (b.setCell p v) :=
  ⟨h.os, h.tape, h.output, by have := h.size; simp [World.setCell]; omega, fun i hi hn =>
    (Below.heap_setCell _ _ _ _ (fun e => hn (by subst e; exact hp hi))).trans (h.block i hi hn)⟩
theorem Fr.grown {S : Nat → Prop} {a b c : World} {row : Option Nat} (h : Fr S a b) (hg : b.grownBy c row) (hr : ∀ k, row = some k → k < a.heap.size → S k) : Fr S a c :=
  ⟨hg.os.trans h.os, hg.tape.trans h.tape, hg.output.trans h.output, Nat.le_trans h.size hg.size, fun i hi hn =>
    (hg.block i (Nat.lt_of_lt_of_le hi h.size) (fun e => hn (hr i e.symm hi))).trans (h.block i hi hn)⟩
theorem Fr.of_below {S : Nat → Prop} {a b : World} (h : Below a.heap.size a b) : Fr S a b := ⟨h.os, h.tape, h.output, h.size, fun k hk _ => h.block k hk⟩
theorem Fr.below {S : Nat → Prop} {a b : World} (h : Fr S a b) {B : Nat} (hB : B ≤ a.heap.size) (hs : ∀ k, k < B → ¬ S k) : Below B a b :=
  ⟨h.os, h.tape, h.output, h.size, fun k hk => h.block k (Nat.lt_of_lt_of_le hk hB) (hs k hk)⟩
theorem Fr.below_none {a b : World} (h : Fr (fun _ => False) a b) : Below a.heap.size a b := h.below (Nat.le_refl _) (fun _ _ e => e)
theorem Fr.all {S : Nat → Prop} {a b : World} (h : Fr (fun _ => False) a b) : Fr S a b := h.mono (fun _ _ e => e.elim)
theorem Fr.keep {S : Nat → Prop} {a b : World} (h : Fr S a b) {k : Nat} {o : Obj} (ho : a.heap[k]? = some o) (hn : ¬ S k) : b.heap[k]? = some o :=
  (h.block k (Array.getElem?_eq_some_iff.1 ho).1 hn).trans ho
theorem Fr.cell {S : Nat → Prop} {a b : World} (h : Fr S a b) {p : Addr} {v : Value} (hc : a.cell? p = some v) (hn : ¬ S p.block) : b.cell? p = some v :=
  (World.cell?_of_block (h.block p.block (World.block_lt_of_cell? a p hc) hn)).trans hc

theorem blk_lt {w : World} {b : Nat} {o : Obj} (h : w.heap[b]? = some o) : b < w.heap.size := (Array.getElem?_eq_some_iff.1 h).1
theorem blk_cell {w : World} {b : Nat} {cs : Array Value} {T : TypeId} {f : Nat × Nat} (h : w.heap[b]? = some (.cells cs T f)) (i : Nat) : w.cell? ⟨b, i, none⟩ = cs[i]? := by simp [World.cell?, h]
theorem blk_frozen {w : World} {b : Nat} {cs : Array Value} {T : TypeId} (h : w.heap[b]? = some (.cells cs T (0, 0))) (i : Nat) : w.frozen? ⟨b, i, none⟩ = false := by simp [World.frozen?, h]
theorem blk_alloc {w : World} {b : Nat} {x : Obj} (h : w.heap[b]? = some x) (o : Obj) : (w.alloc o).heap[b]? = some x := (Below.heap_alloc _ _ _ (blk_lt h)).trans h
theorem blk_new (w : World) (o : Obj) : (w.alloc o).heap[w.heap.size]? = some o := heap_alloc_new w o
theorem blk_set_other {w : World} {b : Nat} {x : Obj} (h : w.heap[b]? = some x) (p : Addr) (v : Value) (hp : b ≠ p.block) : (w.setCell p v).heap[b]? = some x := (Below.heap_setCell _ _ _ _ hp).trans h
theorem blk_set {w : World} {b i : Nat} {cs : Array Value} {T : TypeId} {f : Nat × Nat} (h : w.heap[b]? = some (.cells cs T f)) (v : Value) : (w.setCell ⟨b, i, none⟩ v).heap[b]? = some (.cells (cs.setIfInBounds i v) T f) := by
  simp [World.setCell, Array.getElem?_modify, h]
theorem blk_grown {w w' : World} {b : Nat} {x : Obj} {row : Option Nat} (h : w.heap[b]? = some x) (hg : w.grownBy w' row) (hr : row ≠ some b) : w'.heap[b]? = some x :=
  (hg.block b (blk_lt h) (fun e => hr e.symm)).trans h

/-- A fact that the walk's simp does not look into. -/
structure Off (p : Prop) : Prop where mk :: (out : p)

/-- Element i of a list of numbers. -/
def gi (xs : List Int) (i : Nat) : Int := xs.getD i 0
def ints (xs : List Int) : List Value := xs.map (Value.int .i64)
theorem ints_length (xs : List Int) : (ints xs).length = xs.length := by simp [ints]
theorem ints_get (xs : List Int) (i : Nat) (h : i < xs.length) : (ints xs)[i]? = some (.int .i64 (gi xs i)) := by simp [gi, ints, List.getElem?_eq_getElem h, List.getD_eq_getElem?_getD]

/-- Block q holds the numbers xs, and room up to cap. -/
def IntBlk (w : World) (T q : Nat) (xs : List Int) (cap : Nat) : Prop :=
  ∃ cur, w.heap[q]? = some (.cells cur T (0, 0)) ∧ xs.length ≤ cap ∧ cap ≤ maxLen ∧ cur.size = cap ∧ cur.toList.take xs.length = ints xs
theorem IntBlk.keep {w w' : World} {T q : Nat} {xs : List Int} {cap : Nat} (h : IntBlk w T q xs cap) (hq : w'.heap[q]? = w.heap[q]?) : IntBlk w' T q xs cap := by
  obtain ⟨cur, h1, h2⟩ := h
  exact ⟨cur, hq.trans h1, h2⟩
theorem IntBlk.small {w : World} {T q : Nat} {xs : List Int} {cap : Nat} (h : IntBlk w T q xs cap) : xs.length ≤ 9223372036854775807 := by
  obtain ⟨cur, h1, h2, h3, h4⟩ := h
  simp only [maxLen] at h3
  omega
theorem IntBlk.lt {w : World} {T q : Nat} {xs : List Int} {cap : Nat} (h : IntBlk w T q xs cap) : q < w.heap.size := by
  obtain ⟨cur, h1, h2⟩ := h
  exact blk_lt h1
theorem IntBlk.cell {w : World} {T q : Nat} {xs : List Int} {cap : Nat} (h : IntBlk w T q xs cap) (i : Nat) (hi : i < xs.length) : w.cell? ⟨q, i, none⟩ = some (.int .i64 (gi xs i)) := by
  obtain ⟨cur, h1, h2, h3, h4, h5⟩ := h
  rw [blk_cell h1]
  have e : (cur.toList.take xs.length)[i]? = cur[i]? := by rw [List.getElem?_take]; simp [hi]
  rw [← e, h5, ints_get xs i hi]
theorem IntBlk.frozen {w : World} {T q : Nat} {xs : List Int} {cap : Nat} (h : IntBlk w T q xs cap) (i : Nat) : w.frozen? ⟨q, i, none⟩ = false := by
  obtain ⟨cur, h1, h2⟩ := h
  exact blk_frozen h1 i
theorem IntBlk.set {w : World} {T q : Nat} {xs : List Int} {cap : Nat} (h : IntBlk w T q xs cap) (i : Nat) (v : Int) : IntBlk (w.setCell ⟨q, i, none⟩ (.int .i64 v)) T q (xs.set i v) cap := by
  obtain ⟨cur, h1, h2, h3, h4, h5⟩ := h
  refine ⟨_, blk_set h1 _, by simpa using h2, h3, by simpa using h4, ?_⟩
  simp only [Array.toList_setIfInBounds, List.length_set, ints, List.map_set]
  rw [← show ints xs = xs.map (Value.int .i64) from rfl, ← h5, List.take_set]
theorem IntBlk.owns {w : World} {T q : Nat} {xs : List Int} {cap : Nat} (h : IntBlk w T q xs cap) (B : Nat) (hB : B ≤ q) : w.ownsRow B T 1 (.slice (some ⟨q, 0, none⟩) xs.length cap) xs.length (ints xs) := by
  obtain ⟨cur, h1, h2, h3, h4, h5⟩ := h
  exact ⟨by simp [ints], .inr ⟨q, cap, cur, rfl, hB, h1, h2, h3, by simpa using h4, by simpa using h5⟩⟩
theorem IntBlk.of_owns {w : World} {T B n : Nat} {xs : List Int} {v : Value} (h : w.ownsRow B T 1 v n (ints xs)) (hv : v ≠ .slice none 0 0) : n = xs.length ∧ ∃ q cap, v = .slice (some ⟨q, 0, none⟩) xs.length cap ∧ B ≤ q ∧ IntBlk w T q xs cap := by
  have hl : n = xs.length := by have := h.1; simp [ints] at this; exact this.symm
  subst hl
  refine ⟨rfl, ?_⟩
  rcases h.2 with ⟨e, _⟩ | ⟨q, cap, cur, rfl, hb, hh, h2, h3, h4, h5⟩
  · exact absurd e hv
  · exact ⟨q, cap, rfl, hb, cur, hh, h2, h3, by simpa using h4, by simpa using h5⟩

theorem IntBlk.of_own {w : World} {T B n : Nat} {xs : List Int} {v : Value} (h : w.ownsRow B T 1 v n (ints xs)) (hn : 0 < n) : ∃ q cap, v = .slice (some ⟨q, 0, none⟩) xs.length cap ∧ B ≤ q ∧ IntBlk w T q xs cap :=
  (IntBlk.of_owns h (fun e => by
    rcases h.2 with ⟨_, e2⟩ | ⟨q, cap, cur, e2, _⟩
    · omega
    · rw [e] at e2; cases e2)).2
theorem IntBlk.made {w : World} {T q n : Nat} (h : w.heap[q]? = some (.cells (Array.replicate n (.int .i64 0)) T (0, 0))) (hn : n ≤ maxLen) : IntBlk w T q (List.replicate n 0) n :=
  ⟨_, h, by simp, hn, by simp, by simp [ints]⟩
/-- One cell of a slice of slices, and of slices of rules, as the program reads them. -/
def gl {α : Type} (d : α) (xs : List α) (i : Nat) : α := xs.getD i d

end Go.Proofs.Ytggfcdjmeodggaa

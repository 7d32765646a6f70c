/- Regions that draw their order: a read may be taken first, if no operation that could come before it can turn what it reads. No condition on the program. -/
import Derived.Test.YtggfcdjmeodggaaMem
import Derived.OrdersHeld
set_option linter.unusedVariables false
set_option linter.unusedSimpArgs false
namespace Go.Proofs.Ytggfcdjmeodggaa
open Go.RowKit

/-! ### A world with more blocks -/
structure Extra where
  objs : Array Obj
  drawn : Nat
def ext (w : World) (x : Extra) : World := { w with heap := w.heap ++ x.objs, drawn := x.drawn }
theorem ext_heap (w : World) (x : Extra) (b : Nat) (h : b < w.heap.size) : (ext w x).heap[b]? = w.heap[b]? := by
  simp [ext, Array.getElem?_append, h]
@[go_sem] theorem ext_cell (w : World) (x : Extra) (b i : Nat) (h : b < w.heap.size) : (ext w x).cell? ⟨b, i, none⟩ = w.cell? ⟨b, i, none⟩ := World.cell?_of_block (ext_heap w x b h)
@[go_sem] theorem ext_frozen (w : World) (x : Extra) (b i : Nat) (h : b < w.heap.size) : (ext w x).frozen? ⟨b, i, none⟩ = w.frozen? ⟨b, i, none⟩ := World.frozen?_of_block (ext_heap w x b h)
theorem ext_fr (w : World) (x : Extra) (S : Nat → Prop) : Fr S w (ext w x) := ⟨rfl, rfl, rfl, by simp [ext], fun k hk _ => ext_heap w x k hk⟩

/-- w' is w with more blocks (and another count of draws). -/
def ExtOf (w w' : World) : Prop := ∃ x, w' = ext w x
theorem ExtOf.refl (w : World) : ExtOf w w := ⟨⟨#[], w.drawn⟩, by simp [ext]⟩
theorem ExtOf.of_drew (w : World) : ExtOf w w.drew := ⟨⟨#[], w.drawn + 1⟩, by show ({ w with drawn := w.drawn + 1 } : World) = _; simp [ext]⟩
theorem ExtOf.alloc {w w' : World} (h : ExtOf w w') (o : Obj) : ExtOf w (w'.alloc o) := by
  obtain ⟨x, rfl⟩ := h
  exact ⟨⟨x.objs.push o, x.drawn⟩, by simp [ext, World.alloc]⟩
theorem ExtOf.drew {w w' : World} (h : ExtOf w w') : ExtOf w w'.drew := by
  obtain ⟨x, rfl⟩ := h
  exact ⟨⟨x.objs, x.drawn + 1⟩, rfl⟩
theorem ExtOf.drewN {w w' : World} (h : ExtOf w w') (n : Nat) : ExtOf w (w'.drewN n) := by
  obtain ⟨x, rfl⟩ := h
  exact ⟨⟨x.objs, x.drawn + n⟩, by simp [ext, World.drewN]⟩
theorem ExtOf.below {w w' w'' : World} (h : ExtOf w w') (hb : Below w'.heap.size w' w'') : ExtOf w w'' := by
  obtain ⟨x, rfl⟩ := h
  have hsz := hb.size
  refine ⟨⟨w''.heap.extract w.heap.size w''.heap.size, w''.drawn⟩, ?_⟩
  have e : w''.heap = w.heap ++ w''.heap.extract w.heap.size w''.heap.size := by
    have hw : w.heap.size ≤ (ext w x).heap.size := by simp [ext]
    apply Array.ext'
    apply List.ext_getElem?
    intro i
    by_cases hi : i < w.heap.size
    · have h1 := hb.block i (by omega)
      rw [ext_heap w x i hi] at h1
      simpa [List.getElem?_append, hi] using h1
    · have : i = w.heap.size + (i - w.heap.size) := by omega
      by_cases h2 : i < w''.heap.size
      · simp [List.getElem?_append, hi, show w.heap.size + (i - w.heap.size) = i by omega, show i - w.heap.size < w''.heap.size - w.heap.size by omega]
      · simp [List.getElem?_append, hi, show ¬ (i - w.heap.size < w''.heap.size - w.heap.size) by omega, show ¬ i < w''.heap.size by omega]
  have h1 := hb.os
  have h2 := hb.tape
  have h3 := hb.output
  cases w''
  simp only [ext] at *
  simp [h1, h2, h3, ← e]
theorem ExtOf.fr {w w' : World} (h : ExtOf w w') (S : Nat → Prop) : Fr S w w' := by
  obtain ⟨x, rfl⟩ := h
  exact ext_fr w x S
theorem ExtOf.cell {w w' : World} (h : ExtOf w w') {p : Addr} {v : Value} (hc : w.cell? p = some v) : w'.cell? p = some v := (h.fr (fun _ => False)).cell hc id

/-! ### The orders -/
section
variable {P : Program} {ops : Array Oper} {Q : Exit → Act → World → Prop} {md : Region.Mode} {S : World → Prop}

/-- Whatever order is picked from here on; S holds behind the operations that A names. -/
def wpG (P : Program) (md : Region.Mode) (ops : Array Oper) (Q : Exit → Act → World → Prop) (S : World → Prop) (A : Nat → Bool) : Nat → Array Bool → Act → World → Prop
  | 0, listed, a, w => Region.ready md ops listed = [] ∧ Q .normal a w
  | fuel + 1, listed, a, w =>
    (Region.ready md ops listed = [] → Q .normal a w) ∧
    ∀ i ∈ Region.ready md ops listed, wpOp P ops Q i (fun a' w' => (A i = true → S w → S w') ∧ wpG P md ops Q S A fuel (listed.setIfInBounds i true) a' w') a w

theorem wpAny_of_G {A : Nat → Bool} : ∀ (fuel : Nat) (listed : Array Bool) (a : Act) (w : World), wpG P md ops Q S A fuel listed a w → wpAny P md ops Q fuel listed a w
  | 0, _, _, _, h => h
  | fuel + 1, _, _, _, h => ⟨h.1, fun i hi => wpOp_mono (fun a' w' h' => wpAny_of_G fuel _ a' w' h'.2) (h.2 i hi)⟩

/-- Operation j waits for i, at once or through others. -/
def waits (md : Region.Mode) (ops : Array Oper) (i : Nat) : Nat → Nat → Bool
  | 0, _ => false
  | f + 1, j => match ops[j]? with
    | some o => o.after.any fun e => Region.binds md e && (e.on == i || waits md ops i f e.on)
    | none => false

/-- What is listed has all that it waits for listed. -/
def Shut (md : Region.Mode) (ops : Array Oper) (listed : Array Bool) : Prop := ∀ j oj, ops[j]? = some oj → listed.getD j false = true → ∀ e ∈ oj.after, Region.binds md e = true → listed.getD e.on false = true

theorem waits_listed {i : Nat} {listed : Array Bool} (hs : Shut md ops listed) : ∀ f j oj, ops[j]? = some oj → (∀ e ∈ oj.after, Region.binds md e = true → listed.getD e.on false = true) → waits md ops i f j = true → listed.getD i false = true
  | 0, _, _, _, _, h => by simp [waits] at h
  | f + 1, j, oj, hj, hall, h => by
    simp only [waits, hj] at h
    obtain ⟨e, he, hb⟩ := Array.any_eq_true'.1 h
    simp only [Bool.and_eq_true, Bool.or_eq_true, beq_iff_eq] at hb
    obtain ⟨h1, h2⟩ := hb
    have h3 := hall e he h1
    rcases h2 with h2 | h2
    · rw [← h2]; exact h3
    · cases ho : ops[e.on]? with
      | none => cases f <;> simp [waits, ho] at h2
      | some oe => exact waits_listed hs f e.on oe ho (fun e' he' hb' => hs e.on oe ho h3 e' he' hb') h2

theorem Shut.set {i : Nat} {listed : Array Bool} (hs : Shut md ops listed) (hi : i ∈ Region.ready md ops listed) : Shut md ops (listed.setIfInBounds i true) := by
  obtain ⟨_, oi, hoi, hall⟩ := mem_ready.1 hi
  intro j oj hj hl e he hb
  by_cases hij : i = j
  · subst hij
    have : oj = oi := Option.some.inj (hj.symm.trans hoi)
    subst this
    exact getD_set_true (hall e he hb)
  · rw [getD_set_ne false hij] at hl
    exact getD_set_true (hs j oj hj hl e he hb)

theorem Shut.start (n : Nat) : Shut md ops (Array.replicate n false) := by
  intro j oj _ hl
  rcases Nat.lt_or_ge j n with h | h
  · simp [h] at hl
  · simp [h] at hl

theorem unlisted_both {listed : Array Bool} {i : Nat} (h : listed.getD i true = false) : listed.getD i false = false := by
  rcases Nat.lt_or_ge i listed.size with h' | h'
  · simp [h'] at h ⊢; exact h
  · simp [Array.getElem?_eq_none h'] at h

theorem wpG_first {A : Nat → Bool} {i : Nat} {oi : Oper} {v : Value} (hi : ops[i]? = some oi) (hsel : ∀ (j : Nat) (o : Oper) cs b, ops[j]? = some o → o.op ≠ .select cs b)
    (hA : ∀ j, j ≠ i → A j = true ∨ waits md ops i ops.size j = true)
    (hQ : ∀ c a w, Q (.panic c) (a.put oi.dst v) w → Q (.panic c) a w) :
    ∀ (fuel : Nat) (listed : Array Bool) (a : Act) (w : World), Shut md ops listed →
      (∀ j oj, ops[j]? = some oj → j ≠ i → listed.getD j true = false → (∀ e ∈ oj.after, Region.binds md e = true → e.on ≠ i) → oi.apart ops oj = true) →
      i ∈ Region.ready md ops listed → YieldsIf P ops S oi v a → S w →
      wpG P md ops Q S A fuel (listed.setIfInBounds i true) (a.put oi.dst v) w → wpG P md ops Q S A (fuel + 1) listed a w := by
  intro fuel
  induction fuel with
  | zero =>
    intro listed a w _ _ hr hy hS H
    refine ⟨fun h => (by rw [h] at hr; cases hr), fun j hj => ?_⟩
    by_cases hji : j = i
    · subst hji; exact hy.wpOp hi hS ⟨fun _ h => h, H⟩
    · have := ready_mono hj hji
      rw [H.1] at this
      cases this
  | succ fuel ih =>
    intro listed a w hsh hfree hr hy hS H
    refine ⟨fun h => (by rw [h] at hr; cases hr), fun j hj => ?_⟩
    by_cases hji : j = i
    · subst hji; exact hy.wpOp hi hS ⟨fun _ h => h, H⟩
    · have h1 := H.2 j (ready_mono hj hji)
      obtain ⟨hjun, oj, hoj, hall⟩ := mem_ready.1 hj
      have hiun := unlisted_both (mem_ready.1 hr).1
      have hnot : ∀ e ∈ oj.after, Region.binds md e = true → e.on ≠ i := fun e he hb heq => by
        have h1 := hall e he hb
        rw [heq, hiun] at h1
        cases h1
      have hAj : A j = true := by
        rcases hA j hji with h | h
        · exact h
        · have := waits_listed hsh _ j oj hoj hall h
          rw [hiun] at this
          cases this
      have h2 := wpOp_putIf hoj (hfree j oj hoj hji hjun hnot) (fun cs b => hsel i oi cs b hi) (fun cs b => hsel j oj cs b hoj) hQ hy h1
      have hfree' : ∀ k ok, ops[k]? = some ok → k ≠ i → (listed.setIfInBounds j true).getD k true = false →
          (∀ e ∈ ok.after, Region.binds md e = true → e.on ≠ i) → oi.apart ops ok = true := fun k ok hk hki hun hno => by
        refine hfree k ok hk hki ?_ hno
        by_cases hjk : j = k
        · subst hjk; exact hjun
        · rw [getD_set_ne true hjk] at hun; exact hun
      refine wpOp_mono (fun a' w' h3 => ⟨h3.2.1, ih (listed.setIfInBounds j true) a' w' (hsh.set hj) hfree' (ready_mono hr (Ne.symm hji)) h3.1 (h3.2.1 hAj hS) ?_⟩) h2
      rw [Array.setIfInBounds_comm _ _ hji]
      exact h3.2.2

theorem wpG_pure {A : Nat → Bool} {i : Nat} {oi : Oper} {v : Value} (hi : ops[i]? = some oi) (hsel : ∀ (j : Nat) (o : Oper) cs b, ops[j]? = some o → o.op ≠ .select cs b)
    (hQ : ∀ c a w, Q (.panic c) (a.put oi.dst v) w → Q (.panic c) a w) :
    ∀ (fuel : Nat) (listed : Array Bool) (a : Act) (w : World),
      (∀ j oj, ops[j]? = some oj → j ≠ i → listed.getD j true = false → (∀ e ∈ oj.after, Region.binds md e = true → e.on ≠ i) → oi.apart ops oj = true) →
      i ∈ Region.ready md ops listed → YieldsIf P ops (fun _ => True) oi v a →
      wpG P md ops Q S A fuel (listed.setIfInBounds i true) (a.put oi.dst v) w → wpG P md ops Q S A (fuel + 1) listed a w := by
  intro fuel
  induction fuel with
  | zero =>
    intro listed a w _ hr hy H
    refine ⟨fun h => (by rw [h] at hr; cases hr), fun j hj => ?_⟩
    by_cases hji : j = i
    · subst hji; exact hy.wpOp hi trivial ⟨fun _ h => h, H⟩
    · have := ready_mono hj hji
      rw [H.1] at this
      cases this
  | succ fuel ih =>
    intro listed a w hfree hr hy H
    refine ⟨fun h => (by rw [h] at hr; cases hr), fun j hj => ?_⟩
    by_cases hji : j = i
    · subst hji; exact hy.wpOp hi trivial ⟨fun _ h => h, H⟩
    · have h1 := H.2 j (ready_mono hj hji)
      obtain ⟨hjun, oj, hoj, hall⟩ := mem_ready.1 hj
      have hiun := unlisted_both (mem_ready.1 hr).1
      have hnot : ∀ e ∈ oj.after, Region.binds md e = true → e.on ≠ i := fun e he hb heq => by
        have h1 := hall e he hb
        rw [heq, hiun] at h1
        cases h1
      have h2 := wpOp_putIf hoj (hfree j oj hoj hji hjun hnot) (fun cs b => hsel i oi cs b hi) (fun cs b => hsel j oj cs b hoj) hQ hy h1
      have hfree' : ∀ k ok, ops[k]? = some ok → k ≠ i → (listed.setIfInBounds j true).getD k true = false →
          (∀ e ∈ ok.after, Region.binds md e = true → e.on ≠ i) → oi.apart ops ok = true := fun k ok hk hki hun hno => by
        refine hfree k ok hk hki ?_ hno
        by_cases hjk : j = k
        · subst hjk; exact hjun
        · rw [getD_set_ne true hjk] at hun; exact hun
      refine wpOp_mono (fun a' w' h3 => ⟨h3.2.1, ih (listed.setIfInBounds j true) a' w' hfree' (ready_mono hr (Ne.symm hji)) h3.1 ?_⟩) h2
      rw [Array.setIfInBounds_comm _ _ hji]
      exact h3.2.2

def takeB (md : Region.Mode) (ops : Array Oper) (A : Nat → Bool) (listed : Array Bool) (i : Nat) : Bool :=
  Region.noSelect ops && Region.free md ops listed i && (Region.ready md ops listed).contains i && (List.range ops.size).all fun j => j == i || A j || waits md ops i ops.size j

theorem takeB_all {A : Nat → Bool} {listed : Array Bool} {i : Nat} (h : ∀ j, ops.size ≤ j → A j = true) (hb : takeB md ops A listed i = true) :
    Region.noSelect ops = true ∧ Region.free md ops listed i = true ∧ i ∈ Region.ready md ops listed ∧ ∀ j, j ≠ i → A j = true ∨ waits md ops i ops.size j = true := by
  simp only [takeB, Bool.and_eq_true, List.all_eq_true, List.mem_range, Bool.or_eq_true, beq_iff_eq] at hb
  obtain ⟨⟨⟨h1, h2⟩, h3⟩, h4⟩ := hb
  refine ⟨h1, h2, by simpa using h3, fun j hj => ?_⟩
  rcases Nat.lt_or_ge j ops.size with hlt | hge
  · rcases h4 j hlt with (h | h) | h
    · exact absurd h hj
    · exact .inl h
    · exact .inr h
  · exact .inl (h j hge)

/-- The flags by a list of the numbers behind which S need not hold. -/
def offs (l : List Nat) (j : Nat) : Bool := !l.contains j

/-- The state of such a walk: what is listed is shut, S holds. -/
def GW (P : Program) (ops : Array Oper) (Q : Exit → Act → World → Prop) (S : World → Prop) (l : List Nat) (fuel : Nat) (listed : Array Bool) (a : Act) (w : World) : Prop :=
  Shut .any ops listed → wpG P .any ops Q S (offs l) fuel listed a w

theorem G_start {id : Nat} {a : Act} {w : World} (S : World → Prop) (l : List Nat) (hm : P.follows .mixedOrders = true)
    (h : GW P ops Q S l ops.size (Array.replicate ops.size false) a w.drew) : (Code.region id ops true).wp P Q a w :=
  wp_region_any hm (wpAny_of_G _ _ _ _ (h (Shut.start _)))

/-- A read is taken first. -/
theorem G_take {L : List Oper} {l : List Nat} {fuel : Nat} {listed : Array Bool} {a : Act} {w : World} (i : Nat) {oi : Oper} {v : Value} (hi : L[i]? = some oi) (hl : l.all (· < L.length) = true)
    (hb : takeB .any L.toArray (offs l) listed i = true) (hQ : ∀ c a w, Q (.panic c) (a.put oi.dst v) w → Q (.panic c) a w)
    (hS : S w) (hy : YieldsIf P L.toArray S oi v a)
    (h : GW P L.toArray Q S l fuel (listed.setIfInBounds i true) (a.put oi.dst v) w) : GW P L.toArray Q S l (fuel + 1) listed a w := fun hsh => by
  have hi' : L.toArray[i]? = some oi := by simpa using hi
  obtain ⟨h1, h2, h3, h4⟩ := takeB_all (ops := L.toArray) (fun j hj => by
    have hj : L.length ≤ j := by simpa using hj
    simp only [offs, Bool.not_eq_true', List.contains_eq_mem, decide_eq_false_iff_not]
    intro hm
    have := List.all_eq_true.1 hl j hm
    simp at this
    omega) hb
  exact wpG_first hi' (Region.noSelect_spec h1) h4 hQ fuel listed a w hsh (Region.free_spec hi' h2) h3 hy hS (h (hsh.set h3))

/-- What yields in whatever world is taken first. -/
theorem G_pure {L : List Oper} {l : List Nat} {fuel : Nat} {listed : Array Bool} {a : Act} {w : World} (i : Nat) {oi : Oper} {v : Value} (hi : L[i]? = some oi)
    (hb : (Region.noSelect L.toArray && Region.free .any L.toArray listed i && (Region.ready .any L.toArray listed).contains i) = true) (hQ : ∀ c a w, Q (.panic c) (a.put oi.dst v) w → Q (.panic c) a w)
    (hy : YieldsIf P L.toArray (fun _ => True) oi v a)
    (h : GW P L.toArray Q S l fuel (listed.setIfInBounds i true) (a.put oi.dst v) w) : GW P L.toArray Q S l (fuel + 1) listed a w := fun hsh => by
  have hi' : L.toArray[i]? = some oi := by simpa using hi
  simp only [Bool.and_eq_true] at hb
  obtain ⟨⟨h1, h2⟩, h3⟩ := hb
  have h3' : i ∈ Region.ready .any L.toArray listed := by simpa using h3
  exact wpG_pure hi' (Region.noSelect_spec h1) hQ fuel listed a w (Region.free_spec hi' h2) h3' hy (h (hsh.set h3'))

/-- The one operation that may come up now. -/
theorem G_one {l : List Nat} {fuel : Nat} {listed : Array Bool} {a : Act} {w : World} (i : Nat) (hr : Region.ready .any ops listed = [i])
    (h : wpOp P ops Q i (fun a' w' => (offs l i = true → S w → S w') ∧ GW P ops Q S l fuel (listed.setIfInBounds i true) a' w') a w) : GW P ops Q S l (fuel + 1) listed a w := fun hsh => by
  refine ⟨fun h0 => (by rw [h0] at hr; cases hr), fun j hj => ?_⟩
  have hj' := hj
  rw [hr] at hj'
  obtain rfl : j = i := by simpa using hj'
  exact wpOp_mono (fun a' w' h' => ⟨h'.1, h'.2 (hsh.set hj)⟩) h

theorem G_two {l : List Nat} {fuel : Nat} {listed : Array Bool} {a : Act} {w : World} (i j : Nat) (hr : Region.ready .any ops listed = [i, j])
    (h : wpOp P ops Q i (fun a' w' => (offs l i = true → S w → S w') ∧ GW P ops Q S l fuel (listed.setIfInBounds i true) a' w') a w)
    (h' : wpOp P ops Q j (fun a' w' => (offs l j = true → S w → S w') ∧ GW P ops Q S l fuel (listed.setIfInBounds j true) a' w') a w) : GW P ops Q S l (fuel + 1) listed a w := fun hsh => by
  refine ⟨fun h0 => (by rw [h0] at hr; cases hr), fun k hk => ?_⟩
  have hk' := hk
  rw [hr] at hk'
  simp only [List.mem_cons, List.mem_nil_iff, or_false] at hk'
  rcases hk' with rfl | rfl
  · exact wpOp_mono (fun a' w' h1 => ⟨h1.1, h1.2 (hsh.set hk)⟩) h
  · exact wpOp_mono (fun a' w' h1 => ⟨h1.1, h1.2 (hsh.set hk)⟩) h'

theorem G_done {l : List Nat} {fuel : Nat} {listed : Array Bool} {a : Act} {w : World} (hr : Region.ready .any ops listed = []) (h : Q .normal a w) : GW P ops Q S l fuel listed a w := fun _ => by
  cases fuel with
  | zero => exact ⟨hr, h⟩
  | succ n => exact ⟨fun _ => h, by rw [hr]; simp⟩

/-- An operation that is wanted, by its own wp. -/
theorem wpOp_of {L : List Oper} {i : Nat} {o : Oper} {K : Act → World → Prop} {a : Act} {w : World} (hi : L[i]? = some o) (hw : Region.wanted o (yielded L.toArray a.tmps) = true) (h : o.wp P a w K Q) : wpOp P L.toArray Q i K a w := by
  have hi' : L.toArray[i]? = some o := by simpa using hi
  unfold wpOp
  rw [hi']
  simp only [hw, if_true]
  exact .inl h
theorem wpOp_if {i : Nat} {o : Oper} {K : Act → World → Prop} {a : Act} {w : World} (hi : ops[i]? = some o) (h : if Region.wanted o (yielded ops a.tmps) = true then o.wp P a w K Q else K (a.put o.dst undef) w) : wpOp P ops Q i K a w := by
  unfold wpOp
  rw [hi]
  split at h
  · rename_i hw; simp only [hw, if_true]; exact .inl h
  · rename_i hw; simp only [hw]; exact h
theorem yields_if {oi : Oper} {v : Value} {a : Act} (hw : Region.wanted oi (yielded ops a.tmps) = true) (h : ∀ w, S w → (execOp a.eval oi).run P w = .ok (.value v) w) : YieldsIf P ops S oi v a := .inl ⟨hw, h⟩
theorem yields_not {oi : Oper} {a : Act} (hw : Region.wanted oi (yielded ops a.tmps) = false) : YieldsIf P ops S oi undef a := .inr ⟨hw, rfl⟩
theorem wanted_plain {oi : Oper} {a : Act} (h : oi.guard = none) : Region.wanted oi (yielded ops a.tmps) = true := by simp [Region.wanted, h]
theorem keep_on {p : Prop} {w w' : World} {G : Prop} (hS : S w) (h1 : S w → S w') (h2 : S w' → G) : (p → S w → S w') ∧ G := ⟨fun _ => h1, h2 (h1 hS)⟩
end

end Go.Proofs.Ytggfcdjmeodggaa

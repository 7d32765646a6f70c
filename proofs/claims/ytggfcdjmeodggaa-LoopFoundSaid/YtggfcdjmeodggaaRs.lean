/- Plain model of a run (package runner): rules, states, steps. No program in sight. -/
import Derived.Test.YtggfcdjmeodggaaMem
set_option linter.unusedVariables false
set_option linter.unusedSimpArgs false
namespace Go.Proofs.Ytggfcdjmeodggaa

/-- A rule. -/
structure Rl where
  w : Int
  m : Int
  n : Int
deriving DecidableEq, Inhabited

/-- A machine. -/
structure Mach where
  st : Int
  sy : Int
  rules : List (List Rl)
deriving DecidableEq, Inhabited

def rowAt (r : List (List Rl)) (i : Nat) : List Rl := r.getD i []
def ruleIn (l : List Rl) (j : Nat) : Rl := l.getD j ⟨0, 0, 0⟩
def ruleAt (r : List (List Rl)) (s x : Int) : Rl := ruleIn (rowAt r s.toNat) x.toNat

/-- A row of rules, in blocks below B. -/
def RowRd (B : Nat) (w : World) (v : Value) (l : List Rl) : Prop :=
  ∃ A c, v = .slice A l.length c ∧ l.length ≤ c ∧ c ≤ maxLen ∧ (0 < l.length → ∃ b o, A = some ⟨b, o, none⟩ ∧ b < B ∧ ∀ j, j < l.length →
    w.cell? ⟨b, o + j * 3, none⟩ = some (.int .i64 (ruleIn l j).w) ∧ w.cell? ⟨b, o + j * 3 + 1, none⟩ = some (.int .i64 (ruleIn l j).m) ∧ w.cell? ⟨b, o + j * 3 + 2, none⟩ = some (.int .i64 (ruleIn l j).n))
/-- The rules of a machine, in blocks below B. -/
def RulesRd (B : Nat) (w : World) (v : Value) (r : List (List Rl)) : Prop :=
  ∃ A c, v = .slice A r.length c ∧ r.length ≤ c ∧ c ≤ maxLen ∧ (0 < r.length → ∃ b o, A = some ⟨b, o, none⟩ ∧ b < B ∧ ∀ i, i < r.length →
    ∃ u, w.cell? ⟨b, o + i, none⟩ = some u ∧ RowRd B w u (rowAt r i))

theorem RowRd.below {B : Nat} {w w' : World} {v : Value} {l : List Rl} (h : RowRd B w v l) (hb : ∀ k, k < B → w'.heap[k]? = w.heap[k]?) : RowRd B w' v l := by
  obtain ⟨A, c, rfl, h1, h2, h3⟩ := h
  refine ⟨A, c, rfl, h1, h2, fun hp => ?_⟩
  obtain ⟨b, o, rfl, hB, hc⟩ := h3 hp
  refine ⟨b, o, rfl, hB, fun j hj => ?_⟩
  have e : ∀ i, w'.cell? ⟨b, i, none⟩ = w.cell? ⟨b, i, none⟩ := fun i => World.cell?_of_block (hb b hB)
  rw [e, e, e]
  exact hc j hj
theorem RulesRd.below {B : Nat} {w w' : World} {v : Value} {r : List (List Rl)} (h : RulesRd B w v r) (hb : ∀ k, k < B → w'.heap[k]? = w.heap[k]?) : RulesRd B w' v r := by
  obtain ⟨A, c, rfl, h1, h2, h3⟩ := h
  refine ⟨A, c, rfl, h1, h2, fun hp => ?_⟩
  obtain ⟨b, o, rfl, hB, hc⟩ := h3 hp
  refine ⟨b, o, rfl, hB, fun i hi => ?_⟩
  obtain ⟨u, hu, hr⟩ := hc i hi
  exact ⟨u, (World.cell?_of_block (hb b hB)).trans hu, hr.below hb⟩
theorem RowRd.up {B B' : Nat} {w : World} {v : Value} {l : List Rl} (h : RowRd B w v l) (hb : B ≤ B') : RowRd B' w v l := by
  obtain ⟨A, c, rfl, h1, h2, h3⟩ := h
  refine ⟨A, c, rfl, h1, h2, fun hp => ?_⟩
  obtain ⟨b, o, rfl, hB, hc⟩ := h3 hp
  exact ⟨b, o, rfl, by omega, hc⟩
theorem RulesRd.up {B B' : Nat} {w : World} {v : Value} {r : List (List Rl)} (h : RulesRd B w v r) (hb : B ≤ B') : RulesRd B' w v r := by
  obtain ⟨A, c, rfl, h1, h2, h3⟩ := h
  refine ⟨A, c, rfl, h1, h2, fun hp => ?_⟩
  obtain ⟨b, o, rfl, hB, hc⟩ := h3 hp
  refine ⟨b, o, rfl, by omega, fun i hi => ?_⟩
  obtain ⟨u, hu, hr⟩ := hc i hi
  exact ⟨u, hu, hr.up hb⟩
/-- One rule, by its cells. -/
theorem RulesRd.get {B : Nat} {w : World} {v : Value} {r : List (List Rl)} (h : RulesRd B w v r) (i j : Nat) (hi : i < r.length) (hj : j < (rowAt r i).length) :
    ∃ b o c b' o' c', v = .slice (some ⟨b, o, none⟩) r.length c ∧ b < B ∧ b' < B ∧ r.length ≤ 9223372036854775807 ∧ (rowAt r i).length ≤ 9223372036854775807 ∧ w.cell? ⟨b, o + i, none⟩ = some (.slice (some ⟨b', o', none⟩) (rowAt r i).length c') ∧
      w.cell? ⟨b', o' + j * 3, none⟩ = some (.int .i64 (ruleIn (rowAt r i) j).w) ∧ w.cell? ⟨b', o' + j * 3 + 1, none⟩ = some (.int .i64 (ruleIn (rowAt r i) j).m) ∧ w.cell? ⟨b', o' + j * 3 + 2, none⟩ = some (.int .i64 (ruleIn (rowAt r i) j).n) := by
  obtain ⟨A, c, rfl, h1, h2, h3⟩ := h
  obtain ⟨b, o, rfl, hB, hc⟩ := h3 (by omega)
  obtain ⟨u, hu, A', c', rfl, h1', h2', h3'⟩ := hc i hi
  obtain ⟨b', o', rfl, hB', hc'⟩ := h3' (by omega)
  obtain ⟨k1, k2, k3⟩ := hc' j hj
  simp only [maxLen] at h2 h2'
  exact ⟨b, o, c, b', o', c', rfl, hB, hB', by omega, by omega, hu, k1, k2, k3⟩

/-- A run: its cells, the position of the first one, how many are not 0, state, position. -/
structure RS where
  cells : List Int
  fr : Int
  ones : Int
  st : Int
  pos : Int
deriving DecidableEq, Inhabited

def RS.init : RS := ⟨List.replicate 16 0, -8, 0, 0, 0⟩
def RS.rd (S : RS) (x : Int) : Int := if 0 ≤ x - S.fr ∧ x - S.fr < S.cells.length then gi S.cells (x - S.fr).toNat else 0
def RS.room (S : RS) : RS :=
  if S.pos - S.fr < 0 then { S with cells := List.replicate S.cells.length 0 ++ S.cells, fr := S.fr - S.cells.length }
  else if S.pos - S.fr ≥ S.cells.length then { S with cells := S.cells ++ List.replicate S.cells.length 0 }
  else S
def cnt (x : Int) : Int := min x 1
/-- The step behind 'room'. -/
def RS.act (r : List (List Rl)) (S : RS) : RS :=
  let x := gi S.cells (S.pos - S.fr).toNat
  let u := ruleAt r S.st x
  { cells := S.cells.set (S.pos - S.fr).toNat u.w, fr := S.fr, ones := S.ones + (cnt u.w - cnt x), st := u.n, pos := S.pos + u.m }
def RS.step (r : List (List Rl)) (S : RS) : RS := if S.st = -1 then S else (S.room).act r
def RS.steps (r : List (List Rl)) : Nat → RS → RS
  | 0, S => S
  | k + 1, S => RS.steps r k (S.step r)


/-- A valid machine. -/
structure Mach.Ok (m : Mach) : Prop where
  st0 : 1 ≤ m.st
  st1 : m.st ≤ 6
  sy0 : 2 ≤ m.sy
  sy1 : m.sy ≤ 4
  len : (m.rules.length : Int) = m.st
  row : ∀ i, i < m.rules.length → ((rowAt m.rules i).length : Int) = m.sy
  w0 : ∀ i (j : Nat), i < m.rules.length → (j : Int) < m.sy → 0 ≤ (ruleIn (rowAt m.rules i) j).w
  w1 : ∀ i (j : Nat), i < m.rules.length → (j : Int) < m.sy → (ruleIn (rowAt m.rules i) j).w < m.sy
  mv : ∀ i (j : Nat), i < m.rules.length → (j : Int) < m.sy → (ruleIn (rowAt m.rules i) j).m = -1 ∨ (ruleIn (rowAt m.rules i) j).m = 1
  n0 : ∀ i (j : Nat), i < m.rules.length → (j : Int) < m.sy → -1 ≤ (ruleIn (rowAt m.rules i) j).n
  n1 : ∀ i (j : Nat), i < m.rules.length → (j : Int) < m.sy → (ruleIn (rowAt m.rules i) j).n < m.st

/-- What holds of a run of a valid machine after at most k steps. -/
structure RS.Inv (m : Mach) (k : Nat) (S : RS) : Prop where
  st0 : -1 ≤ S.st
  st1 : S.st < m.st
  pos0 : -(k : Int) ≤ S.pos
  pos1 : S.pos ≤ k
  on0 : -(k : Int) ≤ S.ones
  on1 : S.ones ≤ k
  sym : ∀ i, 0 ≤ gi S.cells i ∧ gi S.cells i < m.sy
  ext : ∃ i j : Nat, i ≤ 18 ∧ j ≤ 18 ∧ ((8 * 2 ^ i : Nat) : Int) ≤ -S.fr ∧ ((8 * 2 ^ j : Nat) : Int) ≤ S.fr + S.cells.length ∧ S.cells.length = 16 * 2 ^ (i + j)
  near0 : S.fr - 1 ≤ S.pos
  near1 : S.pos ≤ S.fr + S.cells.length

theorem gi_replicate (n i : Nat) : gi (List.replicate n 0) i = 0 := by
  simp only [gi, List.getD_eq_getElem?_getD, List.getElem?_replicate]
  split <;> rfl
theorem gi_append (xs ys : List Int) (i : Nat) : gi (xs ++ ys) i = if i < xs.length then gi xs i else gi ys (i - xs.length) := by
  simp only [gi, List.getD_eq_getElem?_getD, List.getElem?_append]
  split <;> rfl
theorem gi_set (xs : List Int) (i j : Nat) (v : Int) : gi (xs.set i v) j = if i = j ∧ j < xs.length then v else gi xs j := by
  simp only [gi, List.getD_eq_getElem?_getD, List.getElem?_set]
  by_cases h : i = j
  · subst h
    by_cases h2 : i < xs.length
    · simp [h2]
    · simp [h2]
  · simp [h]

theorem RS.Inv.init (m : Mach) (hm : m.Ok) : RS.init.Inv m 0 := by
  have h1 := hm.st0
  have h2 := hm.sy0
  refine ⟨by simp [RS.init], by simp [RS.init]; omega, by simp [RS.init], by simp [RS.init], by simp [RS.init], by simp [RS.init], fun i => ?_, ⟨0, 0, by omega, by omega, by simp [RS.init], by simp [RS.init], by simp [RS.init]⟩, by simp [RS.init], by simp [RS.init]⟩
  simp only [RS.init, gi_replicate]
  omega
theorem RS.Inv.len {m : Mach} {k : Nat} {S : RS} (h : S.Inv m k) : S.cells.length ≤ 1099511627776 := by
  obtain ⟨i, j, hi, hj, _, _, h3⟩ := h.ext
  have : 2 ^ (i + j) ≤ 2 ^ 36 := Nat.pow_le_pow_right (by omega) (by omega)
  omega
theorem RS.Inv.one {m : Mach} {k : Nat} {S : RS} (h : S.Inv m k) : 16 ≤ S.cells.length := by
  obtain ⟨i, j, hi, hj, _, _, h3⟩ := h.ext
  have : 1 ≤ 2 ^ (i + j) := Nat.one_le_two_pow
  omega
theorem RS.Inv.fr1 {m : Mach} {k : Nat} {S : RS} (h : S.Inv m k) : S.fr ≤ -8 := by
  obtain ⟨i, j, hi, hj, h1, h2, h3⟩ := h.ext
  have : 1 ≤ 2 ^ i := Nat.one_le_two_pow
  omega
theorem RS.Inv.fr0 {m : Mach} {k : Nat} {S : RS} (h : S.Inv m k) : -1099511627776 ≤ S.fr := by
  have h0 := h.len
  obtain ⟨i, j, hi, hj, h1, h2, h3⟩ := h.ext
  have : 1 ≤ 2 ^ j := Nat.one_le_two_pow
  omega
theorem RS.room_pos (S : RS) : S.room.pos = S.pos := by unfold RS.room; split <;> (try split) <;> rfl
theorem RS.room_st (S : RS) : S.room.st = S.st := by unfold RS.room; split <;> (try split) <;> rfl
theorem RS.room_ones (S : RS) : S.room.ones = S.ones := by unfold RS.room; split <;> (try split) <;> rfl
/-- The head is inside behind 'room'. -/
theorem RS.Inv.room_in {m : Mach} {k : Nat} {S : RS} (h : S.Inv m k) : 0 ≤ S.room.pos - S.room.fr ∧ S.room.pos - S.room.fr < S.room.cells.length := by
  have h1 := h.near0
  have h2 := h.near1
  have h3 := h.one
  unfold RS.room
  split
  · simp; omega
  · split
    · simp; omega
    · omega
theorem RS.Inv.room {m : Mach} (hm : m.Ok) {k : Nat} {S : RS} (h : S.Inv m k) (hk : k < 1048576) : S.room.Inv m k := by
  have hy := hm.sy0
  have h1 := h.near0
  have h2 := h.near1
  have h3 := h.one
  have hp0 := h.pos0
  have hp1 := h.pos1
  have key : ∀ i : Nat, ((8 * 2 ^ i : Nat) : Int) < 1048577 → i ≤ 17 := fun i hi => by
    rcases Nat.lt_or_ge i 18 with h | h
    · omega
    · have : 2 ^ 18 ≤ 2 ^ i := Nat.pow_le_pow_right (by omega) h
      omega
  have hr := h.room_in
  obtain ⟨i, j, hi, hj, e1, e2, e3⟩ := h.ext
  unfold RS.room at hr ⊢
  split
  · rename_i hc
    rw [if_pos hc] at hr
    simp only [List.length_append, List.length_replicate] at hr
    have hi' := key i (by omega)
    refine ⟨h.st0, h.st1, h.pos0, h.pos1, h.on0, h.on1, fun x => ?_, ⟨i + 1, j, by omega, hj, ?_, ?_, ?_⟩, ?_, ?_⟩
    · simp only [gi_append, gi_replicate]
      split
      · omega
      · exact h.sym _
    · dsimp only; rw [Nat.pow_succ]; omega
    · simp only [List.length_append, List.length_replicate]; omega
    · simp only [List.length_append, List.length_replicate, e3, show i + 1 + j = (i + j) + 1 by omega, Nat.pow_succ]; omega
    · dsimp only; omega
    · simp only [List.length_append, List.length_replicate]; omega
  · rename_i hc
    split
    · rename_i hc2
      rw [if_neg hc, if_pos hc2] at hr
      simp only [List.length_append, List.length_replicate] at hr
      have hj' := key j (by omega)
      refine ⟨h.st0, h.st1, h.pos0, h.pos1, h.on0, h.on1, fun x => ?_, ⟨i, j + 1, hi, by omega, e1, ?_, ?_⟩, ?_, ?_⟩
      · simp only [gi_append, gi_replicate]
        split
        · exact h.sym _
        · omega
      · simp only [List.length_append, List.length_replicate]; rw [Nat.pow_succ]; omega
      · simp only [List.length_append, List.length_replicate, e3, show i + (j + 1) = (i + j) + 1 by omega, Nat.pow_succ]; omega
      · dsimp only; omega
      · simp only [List.length_append, List.length_replicate]; omega
    · exact h
/-- The rule that is met, and its bounds. -/
theorem RS.Inv.rule {m : Mach} (hm : m.Ok) {k : Nat} {S : RS} (h : S.Inv m k) (h0 : 0 ≤ S.st) (x : Int) (hx : 0 ≤ x ∧ x < m.sy) :
    S.st.toNat < m.rules.length ∧ x.toNat < (rowAt m.rules S.st.toNat).length ∧ 0 ≤ (ruleAt m.rules S.st x).w ∧ (ruleAt m.rules S.st x).w < m.sy ∧ ((ruleAt m.rules S.st x).m = -1 ∨ (ruleAt m.rules S.st x).m = 1) ∧
      -1 ≤ (ruleAt m.rules S.st x).n ∧ (ruleAt m.rules S.st x).n < m.st := by
  have h1 := h.st1
  have h2 := hm.len
  have hi : S.st.toNat < m.rules.length := by omega
  have h3 := hm.row _ hi
  have hj : (x.toNat : Int) < m.sy := by omega
  exact ⟨hi, by omega, hm.w0 _ _ hi hj, hm.w1 _ _ hi hj, hm.mv _ _ hi hj, hm.n0 _ _ hi hj, hm.n1 _ _ hi hj⟩
theorem cnt_bd {x : Int} (h : 0 ≤ x) : 0 ≤ cnt x ∧ cnt x ≤ 1 := by unfold cnt; omega
theorem RS.Inv.step {m : Mach} (hm : m.Ok) {k : Nat} {S : RS} (h : S.Inv m k) (hk : k < 1048576) : (S.step m.rules).Inv m (k + 1) := by
  unfold RS.step
  split
  · exact ⟨h.st0, h.st1, by have := h.pos0; omega, by have := h.pos1; omega, by have := h.on0; omega, by have := h.on1; omega, h.sym, h.ext, h.near0, h.near1⟩
  · rename_i hs
    have hr := h.room hm hk
    have hi := h.room_in
    have hst : 0 ≤ S.room.st := by rw [RS.room_st]; have := h.st0; omega
    have hx := hr.sym (S.room.pos - S.room.fr).toNat
    obtain ⟨_, _, w0, w1, mv, n0, n1⟩ := hr.rule hm hst _ hx
    have c1 := cnt_bd w0
    have c2 := cnt_bd hx.1
    generalize S.room = T at *
    unfold RS.act
    simp only
    generalize ruleAt m.rules T.st (gi T.cells (T.pos - T.fr).toNat) = u at *
    refine ⟨n0, n1, by have := hr.pos0; simp only; omega, by have := hr.pos1; simp only; omega, by have := hr.on0; simp only; omega, by have := hr.on1; simp only; omega, fun i => ?_, ?_, by simp only; omega, by simp only [List.length_set]; omega⟩
    · simp only [gi_set]
      split
      · exact ⟨w0, w1⟩
      · exact hr.sym _
    · simpa using hr.ext


theorem RS.steps_stop (r : List (List Rl)) (n : Nat) (S : RS) (h : S.st = -1) : S.steps r n = S := by
  induction n with
  | zero => rfl
  | succ n ih => simp only [RS.steps]; rw [show S.step r = S by unfold RS.step; rw [if_pos h]]; exact ih
theorem RS.steps_succ (r : List (List Rl)) (n : Nat) (S : RS) : S.steps r (n + 1) = (S.steps r n).step r := by
  induction n generalizing S with
  | zero => rfl
  | succ n ih => simp only [RS.steps]; rw [← ih]; rfl
theorem RS.steps_add (r : List (List Rl)) (a b : Nat) (S : RS) : S.steps r (a + b) = (S.steps r a).steps r b := by
  induction a generalizing S with
  | zero => simp [RS.steps]
  | succ a ih => rw [show a + 1 + b = (a + b) + 1 by omega]; simp only [RS.steps]; exact ih _
theorem RS.Inv.steps {m : Mach} (hm : m.Ok) (n : Nat) {k : Nat} {S : RS} (h : S.Inv m k) (hk : k + n ≤ 1048576) : (S.steps m.rules n).Inv m (k + n) := by
  induction n generalizing k S with
  | zero => exact h
  | succ n ih =>
    have := ih (h.step hm (by omega)) (by omega)
    rw [show k + (n + 1) = k + 1 + n by omega]
    exact this

def RS.last (S : RS) : Int := S.fr + S.cells.length - 1
/-- The cells from x on for n cells are those of another run, some cells further to the right. -/
def alikeN (A B : RS) (by_ : Int) : Nat → Int → Bool
  | 0, _ => true
  | n + 1, x => if A.rd x = B.rd (x + by_) then alikeN A B by_ n (x + 1) else false
def alike (A B : RS) (from_ by_ : Int) : Bool := alikeN A B by_ (max A.last (B.last - by_) - from_ + 1).toNat from_

/-- A rule of a machine with so many states and symbols. -/
def RuleOk (st sy : Int) (r : Rl) : Prop := 0 ≤ r.w ∧ r.w < sy ∧ (r.m = -1 ∨ r.m = 1) ∧ -1 ≤ r.n ∧ r.n < st
def RowOk (st sy : Int) (l : List Rl) : Prop := (l.length : Int) = sy ∧ ∀ j, j < l.length → RuleOk st sy (ruleIn l j)
def HeadOk (m : Mach) : Prop := 1 ≤ m.st ∧ m.st ≤ 6 ∧ 2 ≤ m.sy ∧ m.sy ≤ 4 ∧ (m.rules.length : Int) = m.st
theorem Mach.ok_iff (m : Mach) : m.Ok ↔ HeadOk m ∧ ∀ i, i < m.rules.length → RowOk m.st m.sy (rowAt m.rules i) := by
  constructor
  · intro h
    refine ⟨⟨h.st0, h.st1, h.sy0, h.sy1, h.len⟩, fun i hi => ⟨h.row i hi, fun j hj => ?_⟩⟩
    have hr := h.row i hi
    exact ⟨h.w0 i j hi (by omega), h.w1 i j hi (by omega), h.mv i j hi (by omega), h.n0 i j hi (by omega), h.n1 i j hi (by omega)⟩
  · rintro ⟨⟨h1, h2, h3, h4, h5⟩, h⟩
    have key : ∀ i (j : Nat), i < m.rules.length → (j : Int) < m.sy → RuleOk m.st m.sy (ruleIn (rowAt m.rules i) j) := fun i j hi hj => (h i hi).2 j (by have := (h i hi).1; omega)
    exact ⟨h1, h2, h3, h4, h5, fun i hi => (h i hi).1, fun i j hi hj => (key i j hi hj).1, fun i j hi hj => (key i j hi hj).2.1, fun i j hi hj => (key i j hi hj).2.2.1, fun i j hi hj => (key i j hi hj).2.2.2.1, fun i j hi hj => (key i j hi hj).2.2.2.2⟩

/-- Row i, as it lies in memory. -/
theorem RulesRd.row {B : Nat} {w : World} {v : Value} {r : List (List Rl)} (h : RulesRd B w v r) (i : Nat) (hi : i < r.length) :
    ∃ b o c A' c', v = .slice (some ⟨b, o, none⟩) r.length c ∧ b < B ∧ r.length ≤ 9223372036854775807 ∧ w.cell? ⟨b, o + i, none⟩ = some (.slice A' (rowAt r i).length c') ∧ (rowAt r i).length ≤ 9223372036854775807 ∧
      ∀ j, j < (rowAt r i).length → ∃ b' o', A' = some ⟨b', o', none⟩ ∧ b' < B ∧
        w.cell? ⟨b', o' + j * 3, none⟩ = some (.int .i64 (ruleIn (rowAt r i) j).w) ∧ w.cell? ⟨b', o' + j * 3 + 1, none⟩ = some (.int .i64 (ruleIn (rowAt r i) j).m) ∧ w.cell? ⟨b', o' + j * 3 + 2, none⟩ = some (.int .i64 (ruleIn (rowAt r i) j).n) := by
  obtain ⟨A, c, rfl, h1, h2, h3⟩ := h
  obtain ⟨b, o, rfl, hB, hc⟩ := h3 (by omega)
  obtain ⟨u, hu, A', c', rfl, h1', h2', h3'⟩ := hc i hi
  simp only [maxLen] at h2 h2'
  refine ⟨b, o, c, A', c', rfl, hB, by omega, hu, by omega, fun j hj => ?_⟩
  obtain ⟨b', o', rfl, hB', hc'⟩ := h3' (by omega)
  exact ⟨b', o', rfl, hB', hc' j hj⟩

end Go.Proofs.Ytggfcdjmeodggaa

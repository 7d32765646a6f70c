/- loop.Find: a round, and the iterator. -/
import Derived.Test.YtggfcdjmeodggaaFind4
set_option linter.unusedVariables false
set_option linter.unusedSimpArgs false
namespace Go.Proofs.Ytggfcdjmeodggaa
open Go.RowKit

theorem Fr.putObj {S : Nat → Prop} {a b : World} (h : Fr S a b) (l : Nat) (o : Obj) (hl : l < a.heap.size → S l) : Fr S a (b.putObj l o) :=
  ⟨h.os, h.tape, h.output, by simpa using h.size, fun i hi hn => (World.putObj_heap_other (fun e => hn (by subst e; exact hl hi))).trans (h.block i hi hn)⟩

/-- The frame of Find, where its loop is entered. -/
def FT (E : FE) (u : Nat → Value) : Array Value := #[u 0, u 1, u 2, u 3, .pointer (some ⟨E.r4, 0, none⟩), .pointer (some ⟨E.r5, 0, none⟩), .pointer (some ⟨E.r6, 0, none⟩), .pointer (some ⟨E.r7, 0, none⟩), .pointer (some ⟨E.c8, 0, none⟩), .pointer (some ⟨E.c9, 0, none⟩), .pointer (some ⟨E.c10, 0, none⟩), u 11, u 12, u 13, u 14, u 15, u 16, u 17, u 18, u 19, u 20, u 21, u 22, u 23, u 24, u 25, u 26, u 27, u 28, u 29, u 30, u 31, u 32, u 33, u 34, u 35, u 36, u 37, u 38, u 39, u 40, u 41, u 42, u 43, u 44, u 45, u 46, u 47, u 48, u 49, u 50, u 51, u 52, u 53, u 54, u 55, u 56, u 57]
noncomputable def fRec (fn : FuncId) (E : FE) (u : Nat → Value) (D : Nat) (st : LoopState) (pend : Option Code) : Loop :=
  { state := st, pending := pend, fn, tmps := FT E u, params := #[31, 32], assign := Try.findA, body := Try.findB, defers := D }

/-- Between two rounds. -/
structure Mid (fn : FuncId) (E : FE) (u : Nat → Value) (l D k p q : Nat) (X : Nat → Prop) (W : World) : Prop where
  bi : BI E k p q X W
  L : W.heap[l]? = some (.loop (fRec fn E u D .ready none))
  K : W.heap[D]? = some (.deferred (some []))
/-- A round has said 'no more'. -/
structure Halt (fn : FuncId) (E : FE) (u : Nat → Value) (l D k : Nat) (W : World) : Prop where
  st : FStop E k W
  L : W.heap[l]? = some (.loop (fRec fn E u D .done (some .ret)))
  K : W.heap[D]? = some (.deferred (some []))
  a : 0 ≤ E.a k

/-- What a round turns besides. -/
theorem BI.putL {E : FE} (hE : E.Ok) {k p q : Nat} {X : Nat → Prop} {W : World} (h : BI E k p q X W) {l : Nat} {r : Loop} (o : Obj) (hl : E.Bm ≤ l) (hL : W.heap[l]? = some (.loop r)) (hp : ∀ cur fz, W.heap[p]? ≠ some (.cells cur 3 fz)) : BI E k p q X (W.putObj l o) :=
  h.keep hE ((Fr.refl (fun b => b = l) W).putObj l o (fun _ => rfl)) (fun b x => .inl x) (.inl rfl) hp (fun b u hb => by
    subst u
    refine ⟨hl, fun e => ?_, ⟨fun e => ?_, fun e => ?_⟩, fun cur fz e => ?_, .inr (.inr (fun cur T fz e => ?_))⟩
    · obtain ⟨qm, cm, v8, v9, d1, _⟩ := h.dyn
      rw [e, d1.blk] at hL
      cases hL
    · rw [e, h.h10] at hL
      cases hL
    · rw [e, h.hn] at hL
      cases hL
    · rw [hL] at e
      cases e
    · rw [hL] at e
      cases e)
theorem RunAt.putL {W : World} {p q c l : Nat} {v : Value} {S : RS} {r : Loop} (h : RunAt W p q v c S) (o : Obj) (hL : W.heap[l]? = some (.loop r)) : RunAt (W.putObj l o) p q v c S :=
  h.fr ((Fr.refl (fun b => b = l) W).putObj l o (fun _ => rfl)) (fun e => by have h1 := h.blk; rw [e, hL] at h1; cases h1) (fun e => by obtain ⟨cur, h1, _⟩ := h.row; rw [e, hL] at h1; cases h1)
theorem RunAt.notInt {W : World} {p q c : Nat} {v : Value} {S : RS} (h : RunAt W p q v c S) : ∀ cur fz, W.heap[p]? ≠ some (.cells cur 3 fz) := fun cur fz e => by
  rw [h.blk] at e
  simp at e

/-- What a round hands back. -/
def RndEnd (fn : FuncId) (E : FE) (u : Nat → Value) (l D k p q cap : Nat) (e : Ending) (W' : World) : Prop :=
  (e = .returned (.bool true) ∧ Mid fn E u l D (k + 1) p q (fun _ => False) W' ∧ RunAt W' p q E.rv cap (E.F k) ∧ E.a k < 0) ∨ (e = .returned (.bool false) ∧ Halt fn E u l D k W')

theorem round_in {fn : FuncId} {E : FE} (hE : E.Ok) {u : Nat → Value} {k p q cap pc qc capc l D : Nat} {W : World} (hk : k ≤ 2000) (h : Mid fn E u l D k p q (fun b => b = qc) W) (hl : E.Bm ≤ l) (hDl : D ≠ l) (hp : E.B1 ≤ p) (hq : E.B1 ≤ q)
    (hit : RunAt W p q E.rv cap (E.F k)) (hc : RunAt W pc qc E.rv capc (E.F k)) (hcp : pc ≠ p) (hcm : pc ≠ E.pm) (hcq : qc ≠ q) (m : Nat) :
    RoundIn Fence.wide m Try.prog l fn (((FT E u).setIfInBounds 31 (.int .i64 k)).setIfInBounds 32 (.pointer (some ⟨pc, 0, none⟩))) Try.findA Try.findB W (RndEnd fn E u l D k p q cap) := by
  refine roundIn_of_wpIn trivial ?_
  have hbr := run_beginRound (P := Try.prog) h.L rfl
  have hll := (Array.getElem?_eq_some_iff.1 h.L).1
  refine assign_wp (u 0) (u 1) (u 2) (u 3) _ _ _ _ _ _ _ (u 11) (u 12) (u 13) (u 14) (u 15) (u 16) (u 17) (u 18) (u 19) (u 20) (u 21) (u 22) (u 23) (u 24) (u 25) (u 26) (u 27) (u 28) (u 29) (u 30) (.int .i64 k) (.pointer (some ⟨pc, 0, none⟩)) (u 33) (u 34) (u 35) (u 36) (u 37) (u 38) (u 39) (u 40) (u 41) (u 42) (u 43) (u 44) (u 45) (u 46) (u 47) (u 48) (u 49) (u 50) (u 51) (u 52) (u 53) (u 54) (u 55) (u 56) (u 57) l m _ W ?_
  refine ⟨_, hbr, ?_⟩
  have hL2 : (W.putObj l (.loop { fRec fn E u D .ready none with state := .busy })).heap[l]? = some (.loop { fRec fn E u D .ready none with state := .busy }) := World.putObj_heap_same hll
  have hK2 : (W.putObj l (.loop { fRec fn E u D .ready none with state := .busy })).heap[D]? = some (.deferred (some [])) := (World.putObj_heap_other hDl).trans h.K
  have hb2 := h.bi.putL hE (.loop { fRec fn E u D .ready none with state := .busy }) hl h.L hit.notInt
  have hi2 := hit.putL (.loop { fRec fn E u D .ready none with state := .busy }) h.L
  have hc2 := hc.putL (.loop { fRec fn E u D .ready none with state := .busy }) h.L
  refine wpIn_mono (body_wp hE hk hb2 hp hq hi2 hc2 hcp hcm hcq _ _ _ _ _ _ _ _ _ _ _ _ _ _ _ _ _ _ _ _ _ _ _ _ _ _ _ _ _ _ _ _ _ _ _ _ _ _ _ _ _ _ _ _ _ _ _ l m) ?_
  rintro e a W3 hpst
  cases e with
  | normal =>
    obtain ⟨h1, h2, h3, h4⟩ := hpst
    have hL3 := h3.same _ _ hL2 rfl
    have hK3 := h3.same _ _ hK2 rfl
    refine ⟨_, _, run_endRound none hL3, .inl ⟨rfl, ⟨h1.putL hE _ hl hL3 h2.notInt, World.putObj_heap_same (Array.getElem?_eq_some_iff.1 hL3).1, (World.putObj_heap_other hDl).trans hK3⟩, h2.putL _ hL3, h4⟩⟩
  | ret =>
    obtain ⟨h1, h3, h4⟩ := hpst
    have hL3 := h3.same _ _ hL2 rfl
    have hK3 := h3.same _ _ hK2 rfl
    have far : ∀ b cs T fz, W3.heap[b]? = some (Obj.cells cs T fz) → ∀ o, (W3.putObj l o).heap[b]? = some (Obj.cells cs T fz) := fun b cs T fz hb o => (World.putObj_heap_other (fun e => by rw [e, hL3] at hb; cases hb)).trans hb
    refine ⟨_, _, run_endRound (some .ret) hL3, .inr ⟨rfl, ⟨⟨?_, far _ _ _ _ h1.h4 _, far _ _ _ _ h1.h5 _, far _ _ _ _ h1.h6 _, far _ _ _ _ h1.h7 _⟩, World.putObj_heap_same (Array.getElem?_eq_some_iff.1 hL3).1, (World.putObj_heap_other hDl).trans hK3, h4⟩⟩⟩
    refine h1.fr.putObj _ _ (fun hh => ?_)
    have g4 := hE.o4
    have g5 := hE.o5
    have g6 := hE.o6
    have g7 := hE.o7
    have g8 := hE.o8
    have g9 := hE.o9
    have gl := hE.ol
    have gm := hE.om
    omega
  | exit id => exact hpst.elim
  | goto t => exact hpst.elim
  | panic c => exact hpst.elim
  | outgrown => exact hpst.elim

end Go.Proofs.Ytggfcdjmeodggaa

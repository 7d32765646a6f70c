/- loop.Find: what lies between two rounds. -/
import Derived.Test.YtggfcdjmeodggaaFind2
import Derived.Test.YtggfcdjmeodggaaLoop4
set_option linter.unusedVariables false
set_option linter.unusedSimpArgs false
namespace Go.Proofs.Ytggfcdjmeodggaa
open Go.RowKit

/-- What stays as it is while Find's loop runs. -/
structure FE where
  w : World
  m : Mach
  rv : Value
  rvm : Value
  Wm : World
  B : Nat
  lo : Nat
  Bm : Nat
  B1 : Nat
  pm : Nat
  c8 : Nat
  c9 : Nat
  c10 : Nat
  r4 : Nat
  r5 : Nat
  r6 : Nat
  r7 : Nat
  bn : Nat
  n : Nat

def FE.F (E : FE) (k : Nat) : RS := RS.init.steps E.m.rules k
def FE.G (E : FE) (k : Nat) : RS := RS.init.steps (mirRules E.m.rules) k

structure FE.Ok (E : FE) : Prop where
  ok : E.m.Ok
  rules : RulesRd E.B E.w E.rv E.m.rules
  hB : E.B ≤ E.w.heap.size
  form : ∃ A n c, E.rv = .slice A n c
  formm : ∃ A n c, E.rvm = .slice A n c
  mrules : RulesNew E.lo E.Bm E.Wm E.rvm (mirRules E.m.rules)
  o4 : E.w.heap.size ≤ E.r4
  o5 : E.r4 < E.r5
  o6 : E.r5 < E.r6
  o7 : E.r6 < E.r7
  o8 : E.r7 < E.c8
  o9 : E.c8 < E.c9
  ol : E.c9 < E.lo
  om : E.lo ≤ E.Bm
  op : E.Bm ≤ E.pm
  oc : E.Bm ≤ E.c10
  p1 : E.pm < E.B1
  c1 : E.c10 < E.B1
  ob : E.Bm ≤ E.bn
  b1 : E.bn < E.B1

def FE.S (E : FE) (p q qm b : Nat) : Prop := b = p ∨ b = q ∨ b = E.pm ∨ b = qm

structure BI (E : FE) (k p q : Nat) (X : Nat → Prop) (W : World) : Prop where
  fr : Fr (fun _ => False) E.w W
  mr : ∀ b, E.lo ≤ b → b < E.Bm → W.heap[b]? = E.Wm.heap[b]?
  sz : E.B1 ≤ W.heap.size
  h4 : W.heap[E.r4]? = some (.cells #[.int .i64 0] 3 (0, 0))
  h5 : W.heap[E.r5]? = some (.cells #[.int .i64 0] 3 (0, 0))
  h6 : W.heap[E.r6]? = some (.cells #[.bool false] 4 (0, 0))
  h7 : W.heap[E.r7]? = some (.cells #[.int .i64 0] 28 (0, 0))
  h10 : W.heap[E.c10]? = some (.cells #[.pointer (some ⟨E.pm, 0, none⟩)] 79 (0, 0))
  hn : W.heap[E.bn]? = some (.cells #[.int .i64 E.n] 3 (0, 0))
  dyn : ∃ qm cm v8 v9, RunAt W E.pm qm E.rvm cm (E.G k) ∧ E.Bm ≤ qm ∧ qm ≠ q ∧ W.heap[E.c8]? = some (.cells #[v8] 78 (0, 0)) ∧ W.heap[E.c9]? = some (.cells #[v9] 78 (0, 0)) ∧
    LR E.B1 (E.S p q qm) v8 k E.F W ∧ LR E.B1 (E.S p q qm) v9 k E.G W ∧ (∀ g, v8.ownBlock = some g → v9.ownBlock ≠ some g) ∧ (∀ b, X b → b ≠ qm) ∧ E.bn ≠ qm

theorem BI.keep {E : FE} (hE : E.Ok) {k p q q' : Nat} {U X X' : Nat → Prop} {W W' : World} (h : BI E k p q X W) (hf : Fr U W W') (hX : ∀ b, X' b → X b ∨ W.heap.size ≤ b) (hq : q' = q ∨ W.heap.size ≤ q') (hp : ∀ cur fz, W.heap[p]? ≠ some (.cells cur 3 fz))
    (hU : ∀ b, U b → b < W.heap.size → E.Bm ≤ b ∧ b ≠ E.pm ∧ (b ≠ E.c10 ∧ b ≠ E.bn) ∧ (∀ cur fz, W.heap[b]? ≠ some (.cells cur 79 fz)) ∧ (b = p ∨ b = q ∨ ∀ cur T fz, W.heap[b]? = some (Obj.cells cur T fz) → T ≠ 104 ∧ T ≠ 3)) : BI E k p q' X' W' := by
  have g4 := hE.o4
  have g5 := hE.o5
  have g6 := hE.o6
  have g7 := hE.o7
  have g8 := hE.o8
  have g9 := hE.o9
  have gl := hE.ol
  have gm := hE.om
  have low : ∀ b, b < E.Bm → b < W.heap.size → ¬ U b := fun b hb hs u => by have := (hU b u hs).1; omega
  have k4 := blk_lt h.h4
  have k5 := blk_lt h.h5
  have k6 := blk_lt h.h6
  have k7 := blk_lt h.h7
  have k10 := blk_lt h.h10
  obtain ⟨qm, cm, v8, v9, d1, d2, d3, d4, d5, d6, d7, d8, d9, d10⟩ := h.dyn
  have kn := blk_lt h.hn
  have k8 := blk_lt d4
  have k9 := blk_lt d5
  have kp := blk_lt d1.blk
  have kq := d1.row.lt
  have s0 := h.sz
  have gp := hE.p1
  have gf := h.fr.size
  refine ⟨h.fr.trans hf (fun b hb u => (low b (by omega) (by omega) u).elim), fun b hb1 hb2 => (hf.block b (by have := hE.op; omega) (low b hb2 (by have := hE.op; omega))).trans (h.mr b hb1 hb2), by have := hf.size; omega, hf.keep h.h4 (low _ (by omega) k4), hf.keep h.h5 (low _ (by omega) k5), hf.keep h.h6 (low _ (by omega) k6), hf.keep h.h7 (low _ (by omega) k7), hf.keep h.h10 (fun u => (hU _ u k10).2.2.1.1 rfl), hf.keep h.hn (fun u => (hU _ u kn).2.2.1.2 rfl), qm, cm, v8, v9, ?_, d2, ?_, hf.keep d4 (low _ (by omega) k8), hf.keep d5 (low _ (by omega) k9), ?_, ?_, d8, fun b x => ?_, d10⟩
  · refine d1.fr hf (fun u => (hU _ u kp).2.1 rfl) (fun u => ?_)
    obtain ⟨cur, e1, _⟩ := d1.row
    rcases (hU _ u kq).2.2.2.2 with e | e | e
    · subst e
      exact hp _ _ e1
    · exact d3 e
    · exact (e _ _ _ e1).2 rfl
  · rcases hq with e | e
    · rw [e]; exact d3
    · omega
  · refine d6.keep hf (fun b u hb => ⟨fun e => ?_, ?_⟩) (fun b s => ?_)
    · obtain ⟨_, cur, hc⟩ := d6.ownLt e
      exact (hU b u hb).2.2.2.1 _ _ hc
    · rcases (hU b u hb).2.2.2.2 with e | e | e
      · exact .inl (.inl e)
      · exact .inl (.inr (.inl e))
      · exact .inr e
    · rcases s with e | e | e | e
      · exact .inl (.inl e)
      · rcases hq with e2 | e2
        · exact .inl (.inr (.inl (e.trans e2)))
        · exact .inr (by omega)
      · exact .inl (.inr (.inr (.inl e)))
      · exact .inl (.inr (.inr (.inr e)))
  · refine d7.keep hf (fun b u hb => ⟨fun e => ?_, ?_⟩) (fun b s => ?_)
    · obtain ⟨_, cur, hc⟩ := d7.ownLt e
      exact (hU b u hb).2.2.2.1 _ _ hc
    · rcases (hU b u hb).2.2.2.2 with e | e | e
      · exact .inl (.inl e)
      · exact .inl (.inr (.inl e))
      · exact .inr e
    · rcases s with e | e | e | e
      · exact .inl (.inl e)
      · rcases hq with e2 | e2
        · exact .inl (.inr (.inl (e.trans e2)))
        · exact .inr (by omega)
      · exact .inl (.inr (.inr (.inl e)))
      · exact .inl (.inr (.inr (.inr e)))
  · rcases hX b x with e | e
    · exact d9 b e
    · omega

/-- The parts of a range over a function. -/
noncomputable def rfOf : Code → List (Code × Code)
  | .rangeFunc _ _ a b => [(a, b)]
  | .seq a b => rfOf a ++ rfOf b
  | .block _ c => rfOf c
  | .cond _ a b => rfOf a ++ rfOf b
  | _ => []
noncomputable def Try.findA : Code := ((rfOf (Try.f12.body.getD .skip)).map (·.1)).headD .skip
noncomputable def Try.findB : Code := ((rfOf (Try.f12.body.getD .skip)).map (·.2)).headD .skip

theorem lets_no {Q : Exit → Act → World → Prop} (h : ∀ a w, ¬ Q .outgrown a w) : ¬ LetsOut Q := fun ⟨a, w, x⟩ => h a w x

attribute [local go_sem] Oper.semAt_some
set_option maxHeartbeats 1000000 in
set_option maxRecDepth 100000 in
theorem assign_wp (u0 u1 u2 u3 u4 u5 u6 u7 u8 u9 u10 u11 u12 u13 u14 u15 u16 u17 u18 u19 u20 u21 u22 u23 u24 u25 u26 u27 u28 u29 u30 u31 u32 u33 u34 u35 u36 u37 u38 u39 u40 u41 u42 u43 u44 u45 u46 u47 u48 u49 u50 u51 u52 u53 u54 u55 u56 u57 : Value) (l n : Nat) (K : Act → World → Prop) (W : World)
   (h : K { tmps := #[u0, u1, u2, u3, u4, u5, u6, u7, u8, u9, u10, u31, u32, u13, u14, u15, u16, u17, u18, u19, u20, u21, u22, u23, u24, u25, u26, u27, u28, u29, u30, u31, u32, u33, u34, u35, u36, u37, u38, u39, u40, u41, u42, u43, u44, u45, u46, u47, u48, u49, u50, u51, u52, u53, u54, u55, u56, u57], defers := [] } W) :
   Try.findA.wpIn (Fence.wide.inRound l) n Try.prog (Exit.then K (fun _ _ _ => False)) { tmps := #[u0, u1, u2, u3, u4, u5, u6, u7, u8, u9, u10, u11, u12, u13, u14, u15, u16, u17, u18, u19, u20, u21, u22, u23, u24, u25, u26, u27, u28, u29, u30, u31, u32, u33, u34, u35, u36, u37, u38, u39, u40, u41, u42, u43, u44, u45, u46, u47, u48, u49, u50, u51, u52, u53, u54, u55, u56, u57], defers := [] } W := by
  have e : Try.findA = Try.findA := rfl
  conv at e => rhs; simp only [Try.findA, Try.f12, Option.getD_some, rfOf, List.append_nil, List.nil_append, List.cons_append, List.map_cons, List.headD_cons]
  rw [e]
  gi_wp2
  exact h

end Go.Proofs.Ytggfcdjmeodggaa

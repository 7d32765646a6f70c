/- loop.Find: its range over a function. -/
import Derived.Test.YtggfcdjmeodggaaFind6
set_option linter.unusedVariables false
set_option linter.unusedSimpArgs false
namespace Go.Proofs.Ytggfcdjmeodggaa
open Go.RowKit

theorem FStop.putL {E : FE} (hE : E.Ok) {k l : Nat} {W : World} {r : Loop} (h : FStop E k W) (o : Obj) (hl : E.Bm ≤ l) (hL : W.heap[l]? = some (.loop r)) : FStop E k (W.putObj l o) := by
  have far : ∀ b cs T fz, W.heap[b]? = some (Obj.cells cs T fz) → (W.putObj l o).heap[b]? = some (Obj.cells cs T fz) := fun b cs T fz hb => (World.putObj_heap_other (fun e => by rw [e, hL] at hb; cases hb)).trans hb
  have g4 := hE.o4
  have g5 := hE.o5
  have g6 := hE.o6
  have g7 := hE.o7
  have g8 := hE.o8
  have g9 := hE.o9
  have gl := hE.ol
  have gm := hE.om
  exact ⟨h.fr.putObj _ _ (fun hh => by omega), far _ _ _ _ h.h4, far _ _ _ _ h.h5, far _ _ _ _ h.h6, far _ _ _ _ h.h7⟩

/-- No round has said 'no more'. -/
structure FNone (E : FE) (W : World) : Prop where
  fr : Fr (fun _ => False) E.w W
  h4 : W.heap[E.r4]? = some (.cells #[.int .i64 0] 3 (0, 0))
  h5 : W.heap[E.r5]? = some (.cells #[.int .i64 0] 3 (0, 0))
  h6 : W.heap[E.r6]? = some (.cells #[.bool false] 4 (0, 0))
  h7 : W.heap[E.r7]? = some (.cells #[.int .i64 0] 28 (0, 0))
theorem BI.none {E : FE} {k p q : Nat} {X : Nat → Prop} {W : World} (h : BI E k p q X W) : FNone E W := ⟨h.fr, h.h4, h.h5, h.h6, h.h7⟩
theorem FNone.putL {E : FE} (hE : E.Ok) {l : Nat} {W : World} {r : Loop} (h : FNone E W) (o : Obj) (hl : E.Bm ≤ l) (hL : W.heap[l]? = some (.loop r)) : FNone E (W.putObj l o) := by
  have far : ∀ b cs T fz, W.heap[b]? = some (Obj.cells cs T fz) → (W.putObj l o).heap[b]? = some (Obj.cells cs T fz) := fun b cs T fz hb => (World.putObj_heap_other (fun e => by rw [e, hL] at hb; cases hb)).trans hb
  have g4 := hE.o4
  have g5 := hE.o5
  have g6 := hE.o6
  have g7 := hE.o7
  have g8 := hE.o8
  have g9 := hE.o9
  have gl := hE.ol
  have gm := hE.om
  exact ⟨h.fr.putObj _ _ (fun hh => by omega), far _ _ _ _ h.h4, far _ _ _ _ h.h5, far _ _ _ _ h.h6, far _ _ _ _ h.h7⟩

theorem rf_find {E : FE} (hE : E.Ok) (u0 u1 u2 u3 u11 u12 u13 u14 u15 u16 u17 u18 u19 u20 u21 u22 u23 u24 u25 u26 u27 u28 u29 u30 u31 u32 u33 u34 u35 u36 u37 u38 u39 u40 u41 u42 u43 u44 u45 u46 u47 u48 u49 u50 u51 u52 u53 u54 u55 u56 u57 : Value) {bm D : Nat} {W7 : World} {Q : Exit → Act → World → Prop} (h30 : u30 = .func (.func 66) #[] #[.pointer (some ⟨bm, 0, none⟩), .pointer (some ⟨E.bn, 0, none⟩)])
    (hD : D = W7.heap.size) (h1 : E.B1 = W7.heap.size + 2) (hn : E.n ≤ 2000) (hbm : W7.heap[bm]? = some (.cells #[.int .i64 E.m.st, .int .i64 E.m.sy, E.rv] 24 (0, 0)))
    (hs : ∀ W8, Fr (fun _ => False) W7 W8 → W8.heap.size = W7.heap.size + 2 → ∀ p q, E.B1 ≤ p → E.B1 ≤ q → BI E 0 p q (fun _ => False) W8) (hBm : E.Bm ≤ W7.heap.size)
    (hstop : ∀ k W', k ≤ E.n → (∀ j, j < k → (E.F j).st ≠ -1 ∧ E.a j < 0) → (E.F k).st ≠ -1 → 0 ≤ E.a k → FStop E k W' → W'.heap[D]? = some (.deferred (some [])) → Q .ret { tmps := #[u0, u1, u2, u3, .pointer (some ⟨E.r4, 0, none⟩), .pointer (some ⟨E.r5, 0, none⟩), .pointer (some ⟨E.r6, 0, none⟩), .pointer (some ⟨E.r7, 0, none⟩), .pointer (some ⟨E.c8, 0, none⟩), .pointer (some ⟨E.c9, 0, none⟩), .pointer (some ⟨E.c10, 0, none⟩), u11, u12, u13, u14, u15, u16, u17, u18, u19, u20, u21, u22, u23, u24, u25, u26, u27, u28, u29, u30, u31, u32, u33, u34, u35, u36, u37, u38, u39, u40, u41, u42, u43, u44, u45, u46, u47, u48, u49, u50, u51, u52, u53, u54, u55, u56, u57], defers := [{ target := .collected D, args := #[] }] } W')
    (hdone : ∀ W', (∀ j, j ≤ E.n → (∀ i, i ≤ j → (E.F i).st ≠ -1) → E.a j < 0) → FNone E W' → W'.heap[D]? = some (.deferred (some [])) → Q .normal { tmps := #[u0, u1, u2, u3, .pointer (some ⟨E.r4, 0, none⟩), .pointer (some ⟨E.r5, 0, none⟩), .pointer (some ⟨E.r6, 0, none⟩), .pointer (some ⟨E.r7, 0, none⟩), .pointer (some ⟨E.c8, 0, none⟩), .pointer (some ⟨E.c9, 0, none⟩), .pointer (some ⟨E.c10, 0, none⟩), u11, u12, u13, u14, u15, u16, u17, u18, u19, u20, u21, u22, u23, u24, u25, u26, u27, u28, u29, u30, u31, u32, u33, u34, u35, u36, u37, u38, u39, u40, u41, u42, u43, u44, u45, u46, u47, u48, u49, u50, u51, u52, u53, u54, u55, u56, u57], defers := [{ target := .collected D, args := #[] }] } W') :
    (Code.rangeFunc (.tmp 30) #[31, 32] Try.findA Try.findB).wpIn Fence.wide 5 Try.prog Q { tmps := #[u0, u1, u2, u3, .pointer (some ⟨E.r4, 0, none⟩), .pointer (some ⟨E.r5, 0, none⟩), .pointer (some ⟨E.r6, 0, none⟩), .pointer (some ⟨E.r7, 0, none⟩), .pointer (some ⟨E.c8, 0, none⟩), .pointer (some ⟨E.c9, 0, none⟩), .pointer (some ⟨E.c10, 0, none⟩), u11, u12, u13, u14, u15, u16, u17, u18, u19, u20, u21, u22, u23, u24, u25, u26, u27, u28, u29, u30, u31, u32, u33, u34, u35, u36, u37, u38, u39, u40, u41, u42, u43, u44, u45, u46, u47, u48, u49, u50, u51, u52, u53, u54, u55, u56, u57], defers := [] } W7 := by
  subst hD
  refine wpIn_rangeFunc ?_
  intro fn hfn
  obtain ⟨u, hu⟩ : ∃ u : Nat → Value, FT E u = #[u0, u1, u2, u3, .pointer (some ⟨E.r4, 0, none⟩), .pointer (some ⟨E.r5, 0, none⟩), .pointer (some ⟨E.r6, 0, none⟩), .pointer (some ⟨E.r7, 0, none⟩), .pointer (some ⟨E.c8, 0, none⟩), .pointer (some ⟨E.c9, 0, none⟩), .pointer (some ⟨E.c10, 0, none⟩), u11, u12, u13, u14, u15, u16, u17, u18, u19, u20, u21, u22, u23, u24, u25, u26, u27, u28, u29, u30, u31, u32, u33, u34, u35, u36, u37, u38, u39, u40, u41, u42, u43, u44, u45, u46, u47, u48, u49, u50, u51, u52, u53, u54, u55, u56, u57] := ⟨fun i => (#[u0, u1, u2, u3, undef, undef, undef, undef, undef, undef, undef, u11, u12, u13, u14, u15, u16, u17, u18, u19, u20, u21, u22, u23, u24, u25, u26, u27, u28, u29, u30, u31, u32, u33, u34, u35, u36, u37, u38, u39, u40, u41, u42, u43, u44, u45, u46, u47, u48, u49, u50, u51, u52, u53, u54, u55, u56, u57] : Array Value).getD i undef, rfl⟩
  obtain ⟨W8, hW8⟩ : ∃ W8, (W7.alloc (.deferred (some []))).alloc (.loop (fRec fn E u W7.heap.size .ready none)) = W8 := ⟨_, rfl⟩
  have hF8 : Fr (fun _ => False) W7 W8 := by rw [← hW8]; exact ((Fr.refl _ _).alloc _).alloc _
  have hs8 : W8.heap.size = W7.heap.size + 2 := by rw [← hW8]; simp
  have hL : W8.heap[W7.heap.size + 1]? = some (.loop (fRec fn E u W7.heap.size .ready none)) := by rw [← hW8]; have := World.alloc_heap_new (W7.alloc (.deferred (some []))) (.loop (fRec fn E u W7.heap.size .ready none)); rwa [World.size_alloc] at this
  have hK : W8.heap[W7.heap.size]? = some (.deferred (some [])) := by rw [← hW8]; exact (Below.heap_alloc _ _ _ (by simp)).trans (World.alloc_heap_new W7 _)
  refine ⟨W7.heap.size + 1, [{ target := .collected W7.heap.size, args := #[] }], W8, { target := .fn (.func 66) #[.pointer (some ⟨bm, 0, none⟩), .pointer (some ⟨E.bn, 0, none⟩)], args := #[.func (.yield (W7.heap.size + 1)) #[] #[]] }, W8, 66,
    #[.func (.yield (W7.heap.size + 1)) #[] #[], .pointer (some ⟨bm, 0, none⟩), .pointer (some ⟨E.bn, 0, none⟩)], W8, ?_, ?_, fun _ _ => trivial, ?_, fun _ => by omega, ?_⟩
  · rw [← hW8, ← hu]; exact run_enterLoop_outer _ _ _ _ _
  · simp [resolve, go_sem, h30]
  · simp [invoke, go_sem]
  · refine (iter_in hE (l := W7.heap.size + 1) (D := W7.heap.size) (by omega) (by omega) hn (hF8.keep hbm id) hL hK (hs W8 hF8 hs8) (5 - 1)).mono ?_
    rintro e W9 ⟨⟨v, rfl⟩, (⟨k, hk, hall, hst, hH⟩ | ⟨hall, k, p, q, X, hM⟩)⟩
    · refine ⟨some .ret, _, run_endLoop hH.L (by simp [fRec]), ?_⟩
      refine wpIn_ret ?_
      exact hstop k _ hk hall hst hH.a (hH.st.putL hE _ (by omega) hH.L) ((World.putObj_heap_other (by omega)).trans hH.K)
    · refine ⟨none, _, run_endLoop hM.L (by simp [fRec]), ?_⟩
      exact hdone _ hall (hM.bi.none.putL hE _ (by omega) hM.L) ((World.putObj_heap_other (by omega)).trans hM.K)

end Go.Proofs.Ytggfcdjmeodggaa

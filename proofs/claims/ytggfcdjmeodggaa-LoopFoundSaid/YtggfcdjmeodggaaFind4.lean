/- loop.Find: one round's body. -/
import Derived.Test.YtggfcdjmeodggaaFind3
set_option linter.unusedVariables false
set_option linter.unusedSimpArgs false
namespace Go.Proofs.Ytggfcdjmeodggaa
open Go.RowKit

def FE.x (E : FE) (k : Nat) : Int := lastN E.F (E.F k) k (E.F k).pos
def FE.y (E : FE) (k : Nat) : Int := lastN E.G (E.G k) k (E.G k).pos
def FE.a (E : FE) (k : Nat) : Int := max (E.x k) (E.y k)

/-- The results are laid down. -/
structure FStop (E : FE) (k : Nat) (W : World) : Prop where
  fr : Fr (fun _ => False) E.w W
  h4 : W.heap[E.r4]? = some (.cells #[.int .i64 (E.a k)] 3 (0, 0))
  h5 : W.heap[E.r5]? = some (.cells #[.int .i64 k] 3 (0, 0))
  h6 : W.heap[E.r6]? = some (.cells #[.bool (E.x k == E.a k)] 4 (0, 0))
  h7 : W.heap[E.r7]? = some (.cells #[.int .i64 0] 28 (0, 0))

def bodyEnds (E : FE) (k p q cap : Nat) (W : World) : Exit → Act → World → Prop
  | .normal, _, W' => BI E (k + 1) p q (fun _ => False) W' ∧ RunAt W' p q E.rv cap (E.F k) ∧ KeepsOthers W W' ∧ E.a k < 0
  | .ret, _, W' => FStop E k W' ∧ KeepsOthers W W' ∧ 0 ≤ E.a k
  | _, _, _ => False

theorem KeepsOthers.of_fr {U : Nat → Prop} {W W' : World} (hf : Fr U W W') (hU : ∀ b, U b → b < W.heap.size → ∃ cs T fz, W.heap[b]? = some (Obj.cells cs T fz)) : KeepsOthers W W' :=
  ⟨hf.size, fun k o hk ho => by
    by_cases u : U k
    · obtain ⟨cs, T, fz, hc⟩ := hU k u (Array.getElem?_eq_some_iff.1 hk).1
      rw [hc] at hk
      cases hk
      simp [Obj.isCells] at ho
    · exact hf.keep hk u⟩

/-- What the reads of the first region meet. -/
structure Cells3 (E : FE) (v8 v9 : Value) (w : World) : Prop where
  h8 : w.cell? ⟨E.c8, 0, none⟩ = some v8
  h9 : w.cell? ⟨E.c9, 0, none⟩ = some v9
  h10 : w.cell? ⟨E.c10, 0, none⟩ = some (.pointer (some ⟨E.pm, 0, none⟩))
theorem Cells3.fr {E : FE} {v8 v9 : Value} {w w' : World} (h : Cells3 E v8 v9 w) {U : Nat → Prop} (hf : Fr U w w') (a : ¬ U E.c8) (b : ¬ U E.c9) (c : ¬ U E.c10) : Cells3 E v8 v9 w' := ⟨hf.cell h.h8 a, hf.cell h.h9 b, hf.cell h.h10 c⟩
theorem G_name {P : Program} {ops : Array Oper} {Q : Exit → Act → World → Prop} {S : World → Prop} {L : List Nat} {fuel : Nat} {listed : Array Bool} {a : Act} {w : World} (h : ∀ W, W = w → GW P ops Q S L fuel listed a W) : GW P ops Q S L fuel listed a w := h w rfl

/-- The block of a run and the cells of a run are two. -/
theorem RunAt.far {w : World} {p q p' q' c c' : Nat} {v v' : Value} {S S' : RS} (h : RunAt w p q v c S) (h' : RunAt w p' q' v' c' S') : q ≠ p' := fun e => by
  obtain ⟨cur, h1, _⟩ := h.row
  rw [e, h'.blk] at h1
  simp at h1

theorem own_fr {W W' : World} {U : Nat → Prop} {T s k : Nat} {v : Value} {xs : List Value} (h : W.ownsRow 0 T s v k xs) (hf : Fr U W W') (hU : ∀ g, v.ownBlock = some g → ¬ U g) : W'.ownsRow 0 T s v k xs := by
  obtain ⟨a1, a2⟩ := h
  refine ⟨a1, ?_⟩
  rcases a2 with a2 | ⟨g, cp, cur, e, b1, b2, b3⟩
  · exact .inl a2
  · exact .inr ⟨g, cp, cur, e, b1, hf.keep b2 (hU g (by rw [e]; rfl)), b3⟩
theorem own_form {W : World} {T k : Nat} {v : Value} {xs : List Value} (h : W.ownsRow 0 T 1 v (k + 1) xs) : ∃ g cap, v = .slice (some ⟨g, 0, none⟩) (k + 1) cap := by
  rcases h.2 with ⟨_, h⟩ | ⟨g, cap, cur, e, _⟩
  · omega
  · exact ⟨g, cap, e⟩

theorem Try.infoPtr : (Try.prog.info? 79).map (fun i => (i.zero, i.size, i.bytes)) = some (some (.pointer none), 1, 8) := by kernel_rfl

theorem Below.same_mr {E : FE} {U : Nat → Prop} {W W' : World} (hf : Fr U W W') (h : ∀ b, E.lo ≤ b → b < E.Bm → W.heap[b]? = E.Wm.heap[b]?) (hs : E.Bm ≤ W.heap.size) (hU : ∀ b, U b → b < E.lo ∨ E.Bm ≤ b) : ∀ b, E.lo ≤ b → b < E.Bm → W'.heap[b]? = E.Wm.heap[b]? := fun b h1 h2 =>
  (hf.block b (by omega) (fun u => by have := hU b u; omega)).trans (h b h1 h2)

attribute [local go_sem] Oper.semAt_some
set_option maxHeartbeats 2000000 in
set_option maxRecDepth 100000 in
theorem body_wp {E : FE} (hE : E.Ok) {k p q cap pc qc capc : Nat} {W : World} (hk : k ≤ 2000) (hb : BI E k p q (fun b => b = qc) W) (hp : E.B1 ≤ p) (hq : E.B1 ≤ q) (hit : RunAt W p q E.rv cap (E.F k)) (hc : RunAt W pc qc E.rv capc (E.F k)) (hcp : pc ≠ p) (hcm : pc ≠ E.pm) (hcq : qc ≠ q)
   (u0 u1 u2 u3 u13 u14 u15 u16 u17 u18 u19 u20 u21 u22 u23 u24 u25 u26 u27 u28 u29 u30 u33 u34 u35 u36 u37 u38 u39 u40 u41 u42 u43 u44 u45 u46 u47 u48 u49 u50 u51 u52 u53 u54 u55 u56 u57 : Value) (l n : Nat) :
   Try.findB.wpIn (Fence.wide.inRound l) n Try.prog (bodyEnds E k p q cap W) { tmps := #[u0, u1, u2, u3, .pointer (some ⟨E.r4, 0, none⟩), .pointer (some ⟨E.r5, 0, none⟩), .pointer (some ⟨E.r6, 0, none⟩), .pointer (some ⟨E.r7, 0, none⟩), .pointer (some ⟨E.c8, 0, none⟩), .pointer (some ⟨E.c9, 0, none⟩), .pointer (some ⟨E.c10, 0, none⟩), .int .i64 k, .pointer (some ⟨pc, 0, none⟩), u13, u14, u15, u16, u17, u18, u19, u20, u21, u22, u23, u24, u25, u26, u27, u28, u29, u30, .int .i64 k, .pointer (some ⟨pc, 0, none⟩), u33, u34, u35, u36, u37, u38, u39, u40, u41, u42, u43, u44, u45, u46, u47, u48, u49, u50, u51, u52, u53, u54, u55, u56, u57], defers := [] } W := by
  have e : Try.findB = Try.findB := rfl
  conv at e => rhs; simp only [Try.findB, Try.f12, Option.getD_some, rfOf, List.append_nil, List.nil_append, List.cons_append, List.map_cons, List.headD_cons]
  rw [e]
  clear e
  obtain ⟨qm, cm, v8, v9, d1, d2, d3, d4, d5, d6, d7, d8, d9, d10⟩ := hb.dyn
  obtain ⟨vals8, ov8, ow8, _⟩ := id d6
  obtain ⟨vals9, ov9, ow9, _⟩ := id d7
  have hqm : qc ≠ qm := d9 qc rfl
  have c8 : W.cell? ⟨E.c8, 0, none⟩ = some v8 := (blk_cell d4 0).trans rfl
  have c9 : W.cell? ⟨E.c9, 0, none⟩ = some v9 := (blk_cell d5 0).trans rfl
  have c10 : W.cell? ⟨E.c10, 0, none⟩ = some (.pointer (some ⟨E.pm, 0, none⟩)) := (blk_cell hb.h10 0).trans rfl
  have HE := Lib.hid hE
  have HB := Lib.hid hb
  have HIT := Lib.hid hit
  have HC := Lib.hid hc
  have D1 := Lib.hid d1
  have D4 := Lib.hid d4
  have D5 := Lib.hid d5
  have D6 := Lib.hid d6
  have D7 := Lib.hid d7
  have D8 := Lib.hid d8
  have OV8 := Lib.hid ov8
  have OV9 := Lib.hid ov9
  clear hE hb hit hc d1 d4 d5 d6 d7 d8 d9 ov8 ov9 ow8 ow9
  gi_wp2
  refine G_startIn (Cells3 E v8 v9) [9, 10] (by kernel_rfl) (by kernel_rfl) (lets_no fun a w h => h) ?_
  have hS0 : Cells3 E v8 v9 W.drew := ⟨c8, c9, c10⟩
  have HS0 := Lib.hid hS0
  clear hS0 c8 c9 c10
  refine G_pure 1 rfl (by kernel_rfl) (fun _ _ _ h => h) (yields_if (wanted_plain rfl) (fun w' _ => by go_simp; try rfl)) ?_
  try simp only [Act.put, List.setIfInBounds_toArray, List.set_cons_zero, List.set_cons_succ]
  refine G_take 0 rfl (by kernel_rfl) (by kernel_rfl) (fun _ _ _ h => h) HS0.out (yields_if (wanted_plain rfl) (fun w' hw' => by have x1 := hw'.h8; have x2 := hw'.h9; have x3 := hw'.h10; go_simp; try rfl)) ?_
  try simp only [Act.put, List.setIfInBounds_toArray, List.set_cons_zero, List.set_cons_succ]
  refine G_take 4 rfl (by kernel_rfl) (by kernel_rfl) (fun _ _ _ h => h) HS0.out (yields_if (wanted_plain rfl) (fun w' hw' => by have x1 := hw'.h8; have x2 := hw'.h9; have x3 := hw'.h10; go_simp; try rfl)) ?_
  try simp only [Act.put, List.setIfInBounds_toArray, List.set_cons_zero, List.set_cons_succ]
  refine G_take 5 rfl (by kernel_rfl) (by kernel_rfl) (fun _ _ _ h => h) HS0.out (yields_if (wanted_plain rfl) (fun w' hw' => by have x1 := hw'.h8; have x2 := hw'.h9; have x3 := hw'.h10; go_simp; try rfl)) ?_
  try simp only [Act.put, List.setIfInBounds_toArray, List.set_cons_zero, List.set_cons_succ]
  refine G_one 2 (by kernel_rfl) (wpOp_of rfl (wanted_plain rfl) ?_)
  go_simp
  refine ⟨fun _ h => h.fr ((Fr.refl (fun _ => False) _).alloc _) id id id, ?_⟩
  try simp only [Act.put, List.setIfInBounds_toArray, List.set_cons_zero, List.set_cons_succ]
  refine G_name fun W3 hW3 => ?_
  have hF3 : Fr (fun _ => False) W W3 := by rw [hW3]; first | exact ((Fr.refl _ _).alloc _).drew | exact (Fr.refl _ _).drew.alloc _
  have hb3 : W3.heap[W.heap.size]? = some (.cells #[.pointer (some ⟨pc, 0, none⟩)] 79 (0, 0)) := by rw [hW3]; exact blk_new W _
  have hsz3 : W3.heap.size = W.heap.size + 1 := by rw [hW3]; simp
  have h3 := HS0.out.fr (show Fr (fun _ => False) W.drew W3 from ⟨hF3.os, hF3.tape, hF3.output, hF3.size, hF3.block⟩) id id id
  have HS3 := Lib.hid h3
  clear h3 hW3
  obtain ⟨i0, hi, hz0, hz1, hz2⟩ := info_parts Try.infoPtr
  have E8 := HE.out.o8
  have E9 := HE.out.o9
  have EL := HE.out.ol
  have EM := HE.out.om
  have EP := HE.out.op
  have EC := HE.out.oc
  have EP1 := HE.out.p1
  have EC1 := HE.out.c1
  have hsz0 := HB.out.sz
  have own8 : ∀ g, v8.ownBlock = some g → E.B1 ≤ g := D6.out.choose_spec.2.1
  have own9 : ∀ g, v9.ownBlock = some g → E.B1 ≤ g := D7.out.choose_spec.2.1
  refine G_one 3 (by kernel_rfl) (wpOp_of rfl (wanted_plain rfl) ?_)
  refine wp_app (.tmp 33) (.tmp 35) 78 rfl 79 i0 (.pointer none) 1 8 Try.underlying78 hi hz0 hz1 hz2 rfl (by decide) v8 k vals8 rfl ?own8 ⟨W.heap.size, 0, none⟩ 1 1 [.pointer (some ⟨pc, 0, none⟩)] rfl ?c1 ?c2 ?c3 ?c4 ?c5 ?_
  case own8 =>
    obtain ⟨a1, a2⟩ := OV8.out
    refine ⟨a1, ?_⟩
    rcases a2 with a2 | ⟨g, cp, cur, e, b1, b2, b3⟩
    · exact .inl a2
    · exact .inr ⟨g, cp, cur, e, b1, hF3.keep b2 id, b3⟩
  case c1 => rfl
  case c2 =>
    intro j u hj
    cases j with
    | zero => simp at hj; subst hj; exact (blk_cell hb3 0).trans rfl
    | succ j => simp at hj
  case c3 => intro u hu; simp at hu; subst hu; rfl
  case c4 => unfold maxLen; omega
  case c5 => omega
  intro v8' W4 hown4 hgr4 hnew4
  obtain ⟨LR8, FR4⟩ := D6.out.app HC.out (by rintro (e | e | e | e); exact hcp e; exact (HIT.out.far HC.out e.symm).elim; exact hcm e; exact (D1.out.far HC.out e.symm).elim) (by rintro (e | e | e | e); exact (HC.out.far HIT.out e).elim; exact hcq e; exact (HC.out.far D1.out e).elim; exact hqm e) hF3 vals8 OV8.out (by omega) hown4 hgr4 hnew4
  have f34 : Fr (fun b => v8.ownBlock = some b) W3 W4 := (Fr.refl _ W3).grown hgr4 (fun j e _ => e)
  have no8 : ∀ b, b < E.B1 → ¬ v8.ownBlock = some b := fun b hb e => by have := own8 b e; omega
  have no9 : ∀ b, b < E.B1 → ¬ v9.ownBlock = some b := fun b hb e => by have := own9 b e; omega
  have hS4 := HS3.out.fr f34 (no8 _ (by omega)) (no8 _ (by omega)) (no8 _ (by omega))
  refine ⟨fun _ _ => hS4, ?_⟩
  try simp only [Act.put, List.setIfInBounds_toArray, List.set_cons_zero, List.set_cons_succ]
  have typ8 : ∀ b cs T fz, W.heap[b]? = some (Obj.cells cs T fz) → T ≠ 79 → ¬ v8.ownBlock = some b := fun b cs T fz h1 h2 e => by
    obtain ⟨_, cur, h3⟩ := D6.out.ownLt e
    rw [h1] at h3
    simp only [Option.some.injEq, Obj.cells.injEq] at h3
    exact h2 h3.2.1
  have hpm4 : RunAt W4 E.pm qm E.rvm cm (E.G k) := D1.out.fr FR4 (typ8 _ _ _ _ D1.out.blk (by decide)) (by obtain ⟨cur, h1, _⟩ := D1.out.row; exact typ8 _ _ _ _ h1 (by decide))
  have LR9 : LR E.B1 (E.S p q qm) v9 k E.G W4 := D7.out.keep FR4 (fun b u hb => ⟨fun e => D8.out b u e, .inr (fun cur T fz h => by
    obtain ⟨_, cur', h3⟩ := D6.out.ownLt u
    rw [h3] at h
    simp only [Option.some.injEq, Obj.cells.injEq] at h
    rw [← h.2.1]
    decide)⟩) (fun b s => .inl s)
  obtain ⟨Am, nm, cmm, hform⟩ := HE.out.formm
  have hG := (RS.Inv.init _ (mirM_ok HE.out.ok)).steps (mirM_ok HE.out.ok) k (by omega)
  have hG' : RS.Inv (mirM E.m) (0 + k) (E.G k) := hG
  have HFORM := Lib.hid hform
  have HG := Lib.hid hG'
  have HPM4 := Lib.hid (hform ▸ hpm4)
  have HLR8 := Lib.hid LR8
  have HLR9 := Lib.hid LR9
  have HFR4 := Lib.hid FR4
  have HS4 := Lib.hid hS4
  have HN4 := Lib.hid hnew4
  clear hform hG hG' hpm4 LR8 LR9 FR4 hS4 hnew4 f34 hown4 hgr4
  refine G_one 6 (by kernel_rfl) (wpOp_of rfl (wanted_plain rfl) ?_)
  go_simp
  refine (clone_calls HPM4.out (by have := HG.out.one; omega) HG.out.len).mono ?_
  rintro e W5 ⟨pd, qd, capd, rfl, hpd, hqd, hRD, hF5⟩
  refine ⟨fun _ _ => HS4.out.fr hF5 id id id, ?_⟩
  try simp only [Act.put, List.setIfInBounds_toArray, List.set_cons_zero, List.set_cons_succ]
  have LR8 := HLR8.out.keep hF5 (fun b u _ => u.elim) (fun b s => .inl s)
  have LR9 := HLR9.out.keep hF5 (fun b u _ => u.elim) (fun b s => .inl s)
  have FR5 := HFR4.out.trans hF5 (fun _ _ e => e.elim)
  have hS5 := HS4.out.fr hF5 id id id
  have hpm5 := HPM4.out.fr hF5 id id
  have hsz4 := HFR4.out.size
  have hsz5 := hF5.size
  refine G_one 7 (by kernel_rfl) (wpOp_of rfl (wanted_plain rfl) ?_)
  have lt_p := blk_lt HIT.out.blk
  have lt_q := HIT.out.row.lt
  have lt_pm := blk_lt D1.out.blk
  have lt_qm := D1.out.row.lt
  have ov9 : W5.ownsRow 0 79 1 v9 k vals9 := own_fr OV9.out FR5 (fun g hg u => D8.out g u hg)
  have HLR8' := Lib.hid LR8
  have HLR9' := Lib.hid LR9
  have HFR5 := Lib.hid FR5
  have HS5 := Lib.hid hS5
  have HPM5 := Lib.hid hpm5
  have HRD := Lib.hid hRD
  have HOV9 := Lib.hid ov9
  clear LR8 LR9 FR5 hS5 hpm5 hRD ov9 HLR8 HLR9 HFR4 HPM4 hF5 hF3
  go_simp
  refine ⟨by intros; exact HS5.out.fr ((Fr.refl (fun _ => False) _).alloc _) id id id, ?_⟩
  try simp only [Act.put, List.setIfInBounds_toArray, List.set_cons_zero, List.set_cons_succ]
  refine G_name fun W6 hW6 => ?_
  have hF6 : Fr (fun _ => False) W5 W6 := by rw [hW6]; exact (Fr.refl _ _).alloc _
  have hb6 : W6.heap[W5.heap.size]? = some (.cells #[.pointer (some ⟨pd, 0, none⟩)] 79 (0, 0)) := by rw [hW6]; exact blk_new W5 _
  have hsz6 : W6.heap.size = W5.heap.size + 1 := by rw [hW6]; simp
  have HS6 := Lib.hid (HS5.out.fr hF6 id id id)
  clear hW6
  refine G_one 8 (by kernel_rfl) (wpOp_of rfl (wanted_plain rfl) ?_)
  refine wp_app (.tmp 37) (.tmp 40) 78 rfl 79 i0 (.pointer none) 1 8 Try.underlying78 hi hz0 hz1 hz2 rfl (by decide) v9 k vals9 rfl (own_fr HOV9.out hF6 (fun _ _ => id)) ⟨W5.heap.size, 0, none⟩ 1 1 [.pointer (some ⟨pd, 0, none⟩)] rfl ?d1 ?d2 ?d3 ?d4 ?d5 ?_
  case d1 => rfl
  case d2 =>
    intro j u hj
    cases j with
    | zero => simp at hj; subst hj; exact (blk_cell hb6 0).trans rfl
    | succ j => simp at hj
  case d3 => intro u hu; simp at hu; subst hu; rfl
  case d4 => unfold maxLen; omega
  case d5 => omega
  intro v9' W7 hown7 hgr7 hnew7
  obtain ⟨LR9, FR7⟩ := HLR9'.out.app HRD.out (by rintro (e | e | e | e) <;> omega) (by rintro (e | e | e | e) <;> omega) hF6 vals9 HOV9.out (by omega) hown7 hgr7 hnew7
  have f67 : Fr (fun b => v9.ownBlock = some b) W6 W7 := (Fr.refl _ W6).grown hgr7 (fun j e _ => e)
  have hS7 := HS6.out.fr f67 (no9 _ (by omega)) (no9 _ (by omega)) (no9 _ (by omega))
  refine ⟨fun _ _ => hS7, ?_⟩
  try simp only [Act.put, List.setIfInBounds_toArray, List.set_cons_zero, List.set_cons_succ]
  have own8' : ∀ g, v8'.ownBlock = some g → E.B1 ≤ g := HLR8'.out.choose_spec.2.1
  have own9' : ∀ g, v9'.ownBlock = some g → E.B1 ≤ g := LR9.choose_spec.2.1
  have ne89 : ∀ g, v8'.ownBlock = some g → v9'.ownBlock ≠ some g := fun g h1 h2 => by
    have l8 := (HLR8'.out.ownLt h1).1
    rcases hnew7 with e | ⟨g', e, e2⟩
    · rw [e] at h2
      rcases HN4.out with e3 | ⟨g', e3, e4⟩
      · exact D8.out g (e3 ▸ h1) h2
      · have := (D7.out.ownLt h2).1
        rw [h1] at e3
        cases e3
        omega
    · rw [h2] at e
      cases e
      omega
  have LR8 := HLR8'.out.keep FR7 (fun b u hb => ⟨fun e => by
      rcases HN4.out with e3 | ⟨g', e3, e4⟩
      · exact D8.out b (e3 ▸ e) u
      · have := (D7.out.ownLt u).1
        rw [e] at e3
        cases e3
        omega, .inr (fun cur T fz h => by
    obtain ⟨_, cur', h3⟩ := HLR9'.out.ownLt u
    rw [h3] at h
    simp only [Option.some.injEq, Obj.cells.injEq] at h
    rw [← h.2.1]
    decide)⟩) (fun b s => .inl s)
  have FR7' : Fr (fun b => v8.ownBlock = some b ∨ v9.ownBlock = some b) W W7 := (HFR5.out.mono (fun _ _ e => .inl e)).trans FR7 (fun _ _ e => .inr e)
  have b8 := FR7'.keep D4.out (by rintro (e | e); exact no8 _ (by omega) e; exact no9 _ (by omega) e)
  have b9 := FR7'.keep D5.out (by rintro (e | e); exact no8 _ (by omega) e; exact no9 _ (by omega) e)
  obtain ⟨g8, cp8, rfl, _⟩ := LR8.runs
  obtain ⟨g9, cp9, rfl, _⟩ := LR9.runs
  have e8 : W7.cell? ⟨E.c8, 0, none⟩ = some v8 := (blk_cell b8 0).trans rfl
  have e9 : W7.cell? ⟨E.c9, 0, none⟩ = some v9 := (blk_cell b9 0).trans rfl
  have z8 := blk_frozen b8 0
  have z9 := blk_frozen b9 0
  have hpm7 := (HPM5.out.fr FR7 (fun e => by
    obtain ⟨_, cur', h3⟩ := HLR9'.out.ownLt e
    rw [HPM5.out.blk] at h3
    simp at h3) (fun e => by
    obtain ⟨_, cur', h3⟩ := HLR9'.out.ownLt e
    obtain ⟨cur, h1, _⟩ := HPM5.out.row
    rw [h1] at h3
    simp at h3))
  have HB8 := Lib.hid b8
  have HB9 := Lib.hid b9
  have LR8b := Lib.hid LR8
  have LR9b := Lib.hid LR9
  have HFR7 := Lib.hid FR7'
  have HPM7 := Lib.hid hpm7
  have HNE := Lib.hid ne89
  clear b8 b9 LR8 LR9 FR7' FR7 hpm7 hown7 hgr7 hnew7 f67 hS7 ne89
  refine G_one 9 (by kernel_rfl) (wpOp_of rfl (wanted_plain rfl) ?_)
  go_simp
  refine ⟨fun h => by simp [offs] at h, ?_⟩
  try simp only [Act.put, List.setIfInBounds_toArray, List.set_cons_zero, List.set_cons_succ]
  refine G_name fun W8 hW8 => ?_
  have hF8 : Fr (fun b => b = E.c8) W7 W8 := by rw [hW8]; exact (Fr.refl _ _).setCell _ _ (fun _ => rfl)
  have g8' : W8.heap[E.c8]? = some (.cells #[.slice (some ⟨g8, 0, none⟩) (k + 1) cp8] 78 (0, 0)) := by rw [hW8]; exact (blk_set (i := 0) HB8.out _).trans rfl
  have b9 := hF8.keep HB9.out (by omega)
  have e9 : W8.cell? ⟨E.c9, 0, none⟩ = some v9 := (blk_cell b9 0).trans rfl
  have z9 := blk_frozen b9 0
  have HB9' := Lib.hid b9
  have HB8' := Lib.hid g8'
  clear hW8 b9 g8' e8 z8
  refine G_one 10 (by kernel_rfl) (wpOp_of rfl (wanted_plain rfl) ?_)
  go_simp
  refine ⟨fun h => by simp [offs] at h, ?_⟩
  try simp only [Act.put, List.setIfInBounds_toArray, List.set_cons_zero, List.set_cons_succ]
  refine G_name fun W9 hW9 => ?_
  have hF9 : Fr (fun b => b = E.c9) W8 W9 := by rw [hW9]; exact (Fr.refl _ _).setCell _ _ (fun _ => rfl)
  have g9' : W9.heap[E.c9]? = some (.cells #[.slice (some ⟨g9, 0, none⟩) (k + 1) cp9] 78 (0, 0)) := by rw [hW9]; exact (blk_set (i := 0) HB9'.out _).trans rfl
  have g8'' := hF9.keep HB8'.out (by omega)
  have hF79 : Fr (fun b => b = E.c8 ∨ b = E.c9) W7 W9 := (hF8.mono (fun _ _ e => .inl e)).trans hF9 (fun _ _ e => .inr e)
  have hsz79 := hF79.size
  have lc : ∀ b, b = E.c8 ∨ b = E.c9 → b < E.B1 := fun b e => by omega
  have ty7 : ∀ b, b = E.c8 ∨ b = E.c9 → ∀ cur T fz, W7.heap[b]? = some (Obj.cells cur T fz) → T ≠ 104 ∧ T ≠ 3 := fun b e cur T fz h => by
    rcases e with rfl | rfl
    · rw [HB8.out] at h; simp only [Option.some.injEq, Obj.cells.injEq] at h; rw [← h.2.1]; decide
    · rw [HB9.out] at h; simp only [Option.some.injEq, Obj.cells.injEq] at h; rw [← h.2.1]; decide
  have LR8 := LR8b.out.keep hF79 (fun b u hb => ⟨fun e => by have := own8' b e; have := lc b u; omega, .inr (ty7 b u)⟩) (fun b s => .inl s)
  have LR9 := LR9b.out.keep hF79 (fun b u hb => ⟨fun e => by have := own9' b e; have := lc b u; omega, .inr (ty7 b u)⟩) (fun b s => .inl s)
  have hpm9 := HPM7.out.fr hF79 (by omega) (by omega)
  have FR9 : Fr (fun b => v8.ownBlock = some b ∨ v9.ownBlock = some b ∨ b = E.c8 ∨ b = E.c9) W W9 := (HFR7.out.mono (fun _ _ e => by rcases e with e | e; exact .inl e; exact .inr (.inl e))).trans hF79 (fun _ _ e => .inr (.inr e))
  have h10 := FR9.keep HB.out.h10 (by rintro (e | e | e | e); exact no8 _ (by omega) e; exact no9 _ (by omega) e; omega; omega)
  have c10 : W9.cell? ⟨E.c10, 0, none⟩ = some (.pointer (some ⟨E.pm, 0, none⟩)) := (blk_cell h10 0).trans rfl
  have hr9 : RulesRd E.Bm W9 E.rvm (mirM E.m).rules := HE.out.mrules W9 (Below.same_mr FR9 HB.out.mr (by omega) (by rintro b (e | e | e | e); have := own8 b e; omega; have := own9 b e; omega; omega; omega))
  have HR9 := Lib.hid hr9
  have HPM9 := Lib.hid hpm9
  have HLR8 := Lib.hid LR8
  have HLR9 := Lib.hid LR9
  have HFR9 := Lib.hid FR9
  have G8 := Lib.hid g8''
  have G9 := Lib.hid g9'
  have H10 := Lib.hid h10
  clear hW9 hr9 hpm9 LR8 LR9 FR9 g8'' g9' h10 hF79 hF8 hF9 e9 z9 ty7
  refine G_done (by kernel_rfl) ?_
  gi_wp2_with fail
  refine ⟨trivial, fun h => (by cases h), callsIn_round ((step_any (B := E.Bm) HPM9.out (mirM_ok HE.out.ok) HG.out (by omega) (HFORM.out ▸ HR9.out) (by omega) (by omega)).mono ?_)⟩
  rintro e W10 ⟨⟨bb, rfl⟩, qm', cm', hqm', hpm', hF10⟩
  have npc : E.pm ≠ E.c10 := fun e => by
    have h1 := HPM9.out.blk
    rw [e, H10.out] at h1
    simp at h1
  have nqc : qm ≠ E.c10 := fun e => by
    obtain ⟨cur, h1, _⟩ := HPM9.out.row
    rw [e, H10.out] at h1
    simp at h1
  have lpm9 := blk_lt HPM9.out.blk
  have lqm9 := HPM9.out.row.lt
  have hsW9 := HFR9.out.size
  have pmT : ∀ b, b = E.pm ∨ b = qm → ∃ cs T fz, W9.heap[b]? = some (Obj.cells cs T fz) ∧ T ≠ 79 := fun b e => by
    rcases e with rfl | rfl
    · exact ⟨_, _, _, HPM9.out.blk, by decide⟩
    · obtain ⟨cur, h1, _⟩ := HPM9.out.row
      exact ⟨_, _, _, h1, by decide⟩
  have kp : ∀ {v : Value} {f : Nat → RS}, LR E.B1 (E.S p q qm) v (k + 1) f W9 → LR E.B1 (E.S p q qm') v (k + 1) f W10 := fun h => h.keep hF10 (fun b u hb => ⟨fun e => by
      obtain ⟨_, cur, h1⟩ := h.ownLt e
      obtain ⟨cs, T, fz, h2, h3⟩ := pmT b u
      rw [h1] at h2
      simp only [Option.some.injEq, Obj.cells.injEq] at h2
      exact h3 h2.2.1.symm, .inl (by rcases u with e | e; exact .inr (.inr (.inl e)); exact .inr (.inr (.inr e)))⟩) (fun b s => by
    rcases s with e | e | e | e
    · exact .inl (.inl e)
    · exact .inl (.inr (.inl e))
    · exact .inl (.inr (.inr (.inl e)))
    · rcases hqm' with e2 | e2
      · exact .inl (.inr (.inr (.inr (e.trans e2))))
      · exact .inr (by omega))
  have L8 := kp HLR8.out
  have L9 := kp HLR9.out
  have b8 := hF10.keep G8.out (by omega)
  have b9 := hF10.keep G9.out (by omega)
  have b10 := hF10.keep H10.out (by omega)
  have FR10 : Fr (fun b => v8.ownBlock = some b ∨ v9.ownBlock = some b ∨ b = E.c8 ∨ b = E.c9 ∨ b = E.pm ∨ b = qm) W W10 := (HFR9.out.mono (fun _ _ e => by
    rcases e with e | e | e | e
    · exact .inl e
    · exact .inr (.inl e)
    · exact .inr (.inr (.inl e))
    · exact .inr (.inr (.inr (.inl e))))).trans hF10 (fun _ _ e => .inr (.inr (.inr (.inr e))))
  have hr8 : RunsRd W10.drew g8 (k + 1) E.F := by
    obtain ⟨g, cp, e, h⟩ := L8.runs
    simp only [Value.slice.injEq, Option.some.injEq, Addr.mk.injEq] at e
    obtain ⟨⟨rfl, _⟩, _⟩ := e
    exact h.drewN 1
  have hr9 : RunsRd W10.drew g9 (k + 1) E.G := by
    obtain ⟨g, cp, e, h⟩ := L9.runs
    simp only [Value.slice.injEq, Option.some.injEq, Addr.mk.injEq] at e
    obtain ⟨⟨rfl, _⟩, _⟩ := e
    exact h.drewN 1
  have sm8 : ∀ i, i < k + 1 → (E.F i).Small := fun i hi => ((RS.Inv.init _ HE.out.ok).steps HE.out.ok i (by omega)).small (by omega)
  have sm9 : ∀ i, i < k + 1 → (E.G i).Small := fun i hi => ((RS.Inv.init _ (mirM_ok HE.out.ok)).steps (mirM_ok HE.out.ok) i (by omega)).small (by omega)
  have hS12 : Cells3 E (.slice (some ⟨g8, 0, none⟩) (k + 1) cp8) (.slice (some ⟨g9, 0, none⟩) (k + 1) cp9) W10.drew := ⟨(blk_cell b8 0).trans rfl, (blk_cell b9 0).trans rfl, (blk_cell b10 0).trans rfl⟩
  have HS12 := Lib.hid hS12
  have HL8 := Lib.hid L8
  have HL9 := Lib.hid L9
  have HR8 := Lib.hid hr8
  have HR9' := Lib.hid hr9
  have SM8 := Lib.hid sm8
  have SM9 := Lib.hid sm9
  have B8 := Lib.hid b8
  have B9 := Lib.hid b9
  have B10 := Lib.hid b10
  have HFR10 := Lib.hid FR10
  have HPM10 := Lib.hid hpm'
  have HF10 := Lib.hid hF10
  clear hS12 L8 L9 hr8 hr9 sm8 sm9 b8 b9 b10 FR10 hpm' kp pmT c10 hF10
  gi_wp2_with fail
  refine G_startIn (Cells3 E (.slice (some ⟨g8, 0, none⟩) (k + 1) cp8) (.slice (some ⟨g9, 0, none⟩) (k + 1) cp9)) [] (by kernel_rfl) (by kernel_rfl) (lets_no fun a w h => h) ?_
  refine G_take 0 rfl (by kernel_rfl) (by kernel_rfl) (fun _ _ _ h => h) HS12.out (yields_if (wanted_plain rfl) (fun w' hw' => by have x1 := hw'.h8; have x2 := hw'.h9; have x3 := hw'.h10; go_simp; try rfl)) ?_
  try simp only [Act.put, List.setIfInBounds_toArray, List.set_cons_zero, List.set_cons_succ]
  refine G_take 2 rfl (by kernel_rfl) (by kernel_rfl) (fun _ _ _ h => h) HS12.out (yields_if (wanted_plain rfl) (fun w' hw' => by have x1 := hw'.h8; have x2 := hw'.h9; have x3 := hw'.h10; go_simp; try rfl)) ?_
  try simp only [Act.put, List.setIfInBounds_toArray, List.set_cons_zero, List.set_cons_succ]
  have hx : lastN E.F (E.F k) k (E.F k).pos = E.x k := rfl
  have hy : lastN E.G (E.G k) k (E.G k).pos = E.y k := rfl
  have l8 := last_calls (c := cp8) HR8.out SM8.out (by omega)
  rw [hx] at l8
  have L8C := Lib.hid l8
  clear l8 hx
  refine G_one 1 (by kernel_rfl) (wpOp_of rfl (wanted_plain rfl) ?_)
  go_simp
  refine L8C.out.mono ?_
  rintro e W11 ⟨rfl, j1, hj1⟩
  have hS11 : Cells3 E (.slice (some ⟨g8, 0, none⟩) (k + 1) cp8) (.slice (some ⟨g9, 0, none⟩) (k + 1) cp9) W11 := by rw [hj1]; exact ⟨HS12.out.h8, HS12.out.h9, HS12.out.h10⟩
  have HS11 := Lib.hid hS11
  have HJ1 := Lib.hid hj1
  refine ⟨by intros; exact HS11.out, ?_⟩
  try simp only [Act.put, List.setIfInBounds_toArray, List.set_cons_zero, List.set_cons_succ]
  clear hS11 hj1
  have l9 := last_calls (c := cp9) (show RunsRd W11 g9 (k + 1) E.G by rw [HJ1.out]; exact HR9'.out.drewN j1) SM9.out (by omega)
  rw [hy] at l9
  have L9C := Lib.hid l9
  clear l9 hy
  refine G_one 3 (by kernel_rfl) (wpOp_of rfl (wanted_plain rfl) ?_)
  go_simp
  refine L9C.out.mono ?_
  rintro e W12 ⟨rfl, j2, hj2⟩
  have hS12' : Cells3 E (.slice (some ⟨g8, 0, none⟩) (k + 1) cp8) (.slice (some ⟨g9, 0, none⟩) (k + 1) cp9) W12 := by rw [hj2]; exact ⟨HS11.out.h8, HS11.out.h9, HS11.out.h10⟩
  have HS12' := Lib.hid hS12'
  have HJ2 := Lib.hid hj2
  refine ⟨by intros; exact HS12'.out, ?_⟩
  clear hS12' hj2
  try simp only [Act.put, List.setIfInBounds_toArray, List.set_cons_zero, List.set_cons_succ]
  refine G_pure 4 rfl (by kernel_rfl) (fun _ _ _ h => h) (yields_if (wanted_plain rfl) (fun w' _ => by go_simp; try rfl)) ?_
  try simp only [Act.put, List.setIfInBounds_toArray, List.set_cons_zero, List.set_cons_succ]
  refine G_pure 5 rfl (by kernel_rfl) (fun _ _ _ h => h) (yields_if (wanted_plain rfl) (fun w' _ => by go_simp; try rfl)) ?_
  try simp only [Act.put, List.setIfInBounds_toArray, List.set_cons_zero, List.set_cons_succ]
  refine G_done (by kernel_rfl) ?_
  have hF12 : Fr (fun _ => False) W10 W12 := by rw [HJ2.out, HJ1.out]; exact (((Fr.refl _ W10).drew).drewN _).drewN _
  have FR12 := HFR10.out.trans hF12 (fun _ _ e => e.elim)
  have i4 := HE.out.o4
  have i5 := HE.out.o5
  have i6 := HE.out.o6
  have i7 := HE.out.o7
  have nU : ∀ b, b < E.c8 → ¬ (v8.ownBlock = some b ∨ v9.ownBlock = some b ∨ b = E.c8 ∨ b = E.c9 ∨ b = E.pm ∨ b = qm) := fun b hb => by
    rintro (e | e | e | e | e | e)
    · exact no8 _ (by omega) e
    · exact no9 _ (by omega) e
    all_goals omega
  have n4 := FR12.keep HB.out.h4 (nU _ (by omega))
  have n5 := FR12.keep HB.out.h5 (nU _ (by omega))
  have n6 := FR12.keep HB.out.h6 (nU _ (by omega))
  have n7 := FR12.keep HB.out.h7 (nU _ (by omega))
  have hmx1 : (if E.x k < E.y k then E.y k else E.x k) = E.a k := by unfold FE.a; omega
  have hmx2 : (if E.y k < E.x k then E.x k else E.y k) = E.a k := by unfold FE.a; omega
  have KO : KeepsOthers W W12 := KeepsOthers.of_fr FR12 (fun b u hb => by
    rcases u with e | e | e | e | e | e
    · obtain ⟨_, cur, h⟩ := D6.out.ownLt e; exact ⟨_, _, _, h⟩
    · obtain ⟨_, cur, h⟩ := D7.out.ownLt e; exact ⟨_, _, _, h⟩
    · rw [e]; exact ⟨_, _, _, D4.out⟩
    · rw [e]; exact ⟨_, _, _, D5.out⟩
    · rw [e]; exact ⟨_, _, _, D1.out.blk⟩
    · obtain ⟨cur, h, _⟩ := D1.out.row; rw [e]; exact ⟨_, _, _, h⟩)
  have HKO := Lib.hid KO
  have HF12 := Lib.hid hF12
  have HFR12 := Lib.hid FR12
  have N4 := Lib.hid n4
  have N5 := Lib.hid n5
  have N6 := Lib.hid n6
  have N7 := Lib.hid n7
  clear KO hF12 FR12 nU
  by_cases h0 : 0 ≤ E.a k
  · have e4 : W12.cell? ⟨E.r4, 0, none⟩ = some (.int .i64 0) := (blk_cell n4 0).trans rfl
    have e5 : W12.cell? ⟨E.r5, 0, none⟩ = some (.int .i64 0) := (blk_cell n5 0).trans rfl
    have e6 : W12.cell? ⟨E.r6, 0, none⟩ = some (.bool false) := (blk_cell n6 0).trans rfl
    have e7 : W12.cell? ⟨E.r7, 0, none⟩ = some (.int .i64 0) := (blk_cell n7 0).trans rfl
    have z4 := blk_frozen n4 0
    have z5 := blk_frozen n5 0
    have z6 := blk_frozen n6 0
    have z7 := blk_frozen n7 0
    have x45 : E.r4 ≠ E.r5 := by omega
    have x46 : E.r4 ≠ E.r6 := by omega
    have x47 : E.r4 ≠ E.r7 := by omega
    have x56 : E.r5 ≠ E.r6 := by omega
    have x57 : E.r5 ≠ E.r7 := by omega
    have x67 : E.r6 ≠ E.r7 := by omega
    clear n4 n5 n6 n7
    gi_wp2_with fail
    have fr13 : Fr (fun b => b = E.r4 ∨ b = E.r5 ∨ b = E.r6 ∨ b = E.r7) W12 ((((W12.setCell ⟨E.r4, 0, none⟩ (.int .i64 (E.a k))).setCell ⟨E.r5, 0, none⟩ (.int .i64 k)).setCell ⟨E.r6, 0, none⟩ (.bool (E.x k == E.a k))).setCell ⟨E.r7, 0, none⟩ (.int .i64 0)) :=
      ((((Fr.refl _ _).setCell _ _ (fun _ => .inl rfl)).setCell _ _ (fun _ => .inr (.inl rfl))).setCell _ _ (fun _ => .inr (.inr (.inl rfl)))).setCell _ _ (fun _ => .inr (.inr (.inr rfl)))
    refine ⟨⟨(HB.out.fr.trans HFR12.out (fun b hb u => ?_)).trans fr13 (fun b hb u => by omega), ?_, ?_, ?_, ?_⟩, ?_, h0⟩
    · have gf := HB.out.fr.size
      rcases u with e | e | e | e | e | e
      · have := own8 b e; omega
      · have := own9 b e; omega
      all_goals omega
    · exact blk_set_other (blk_set_other (blk_set_other ((blk_set (i := 0) N4.out _).trans rfl) _ _ x45) _ _ x46) _ _ x47
    · exact blk_set_other (blk_set_other ((blk_set (i := 0) (blk_set_other N5.out _ _ (Ne.symm x45)) _).trans rfl) _ _ x56) _ _ x57
    · exact blk_set_other ((blk_set (i := 0) (blk_set_other (blk_set_other N6.out _ _ (Ne.symm x46)) _ _ (Ne.symm x56)) _).trans rfl) _ _ x67
    · exact (blk_set (i := 0) (blk_set_other (blk_set_other (blk_set_other N7.out _ _ (Ne.symm x47)) _ _ (Ne.symm x57)) _ _ (Ne.symm x67)) _).trans rfl
    · refine ⟨Nat.le_trans HKO.out.size fr13.size, fun b o h1 h2 => ?_⟩
      have h3 := HKO.out.same b o h1 h2
      refine fr13.keep h3 ?_
      rintro (e | e | e | e)
      · rw [e, N4.out] at h3; cases h3; simp [Obj.isCells] at h2
      · rw [e, N5.out] at h3; cases h3; simp [Obj.isCells] at h2
      · rw [e, N6.out] at h3; cases h3; simp [Obj.isCells] at h2
      · rw [e, N7.out] at h3; cases h3; simp [Obj.isCells] at h2
  · clear n4 n5 n6 n7
    gi_wp2_with fail
    have gsucc : E.G (k + 1) = (E.G k).step (mirM E.m).rules := RS.steps_succ _ _ _
    have hit12 : RunAt W12 p q E.rv cap (E.F k) := HIT.out.fr HFR12.out (by
      rintro (e | e | e | e | e | e)
      · obtain ⟨_, cur, h⟩ := D6.out.ownLt e; rw [HIT.out.blk] at h; simp at h
      · obtain ⟨_, cur, h⟩ := D7.out.ownLt e; rw [HIT.out.blk] at h; simp at h
      · omega
      · omega
      · omega
      · exact D1.out.far HIT.out e.symm) (by
      obtain ⟨cur0, hq0, _⟩ := HIT.out.row
      rintro (e | e | e | e | e | e)
      · obtain ⟨_, cur, h⟩ := D6.out.ownLt e; rw [hq0] at h; simp at h
      · obtain ⟨_, cur, h⟩ := D7.out.ownLt e; rw [hq0] at h; simp at h
      · omega
      · omega
      · omega
      · exact d3 e.symm)
    refine ⟨⟨HB.out.fr.trans HFR12.out (fun b hb u => ?_), Below.same_mr HFR12.out HB.out.mr (by omega) (fun b u => ?_), Nat.le_trans hsz0 HFR12.out.size, N4.out, N5.out, N6.out, N7.out, HF12.out.keep B10.out id, HFR12.out.keep HB.out.hn ?_, qm', cm', _, _, ?_, ?_, ?_, HF12.out.keep B8.out id, HF12.out.keep B9.out id, HL8.out.keep HF12.out (fun b u _ => u.elim) (fun b s => .inl s), HL9.out.keep HF12.out (fun b u _ => u.elim) (fun b s => .inl s), HNE.out, fun b x => x.elim, ?_⟩, hit12, HKO.out, by omega⟩
    · have gf := HB.out.fr.size
      rcases u with e | e | e | e | e | e
      · have := own8 b e; omega
      · have := own9 b e; omega
      all_goals omega
    · rcases u with e | e | e | e | e | e
      · have := own8 b e; omega
      · have := own9 b e; omega
      all_goals omega
    · have ob := HE.out.ob
      have b1 := HE.out.b1
      rintro (e | e | e | e | e | e)
      · exact no8 _ b1 e
      · exact no9 _ b1 e
      · omega
      · omega
      · have h := D1.out.blk; rw [← e, HB.out.hn] at h; simp at h
      · exact d10 e
    · rw [gsucc, HFORM.out]
      exact HPM10.out.fr HF12.out id id
    · omega
    · omega
    · have b1 := HE.out.b1; omega

end Go.Proofs.Ytggfcdjmeodggaa

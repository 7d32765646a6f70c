/- Contract of loop.Find. -/
import Derived.Test.YtggfcdjmeodggaaFind8
set_option linter.unusedVariables false
set_option linter.unusedSimpArgs false
namespace Go.Proofs.Ytggfcdjmeodggaa
open Go.RowKit

def fF (m : Mach) (k : Nat) : RS := RS.init.steps m.rules k
def fG (m : Mach) (k : Nat) : RS := RS.init.steps (mirRules m.rules) k
def fx (m : Mach) (k : Nat) : Int := lastN (fF m) (fF m k) k (fF m k).pos
def fy (m : Mach) (k : Nat) : Int := lastN (fG m) (fG m k) k (fG m k).pos
def fa (m : Mach) (k : Nat) : Int := max (fx m k) (fy m k)

/-- What Find hands back. -/
def FindPost (m : Mach) (n : Nat) (e : Ending) : Prop :=
  (∃ k, k ≤ n ∧ (∀ j, j < k → (fF m j).st ≠ -1 ∧ fa m j < 0) ∧ (fF m k).st ≠ -1 ∧ 0 ≤ fa m k ∧ e = .returned (.tuple #[.int .i64 (fa m k), .int .i64 k, .bool (fx m k == fa m k), .int .i64 0])) ∨
  ((∀ j, j ≤ n → (∀ i, i ≤ j → (fF m i).st ≠ -1) → fa m j < 0) ∧ e = .returned (.tuple #[.int .i64 0, .int .i64 0, .bool false, .int .i64 6]))

/-- moments hands back its iterator: two boxes. -/
theorem moments_calls (st sy : Int) (A : Option Addr) (nr c : Nat) (n : Int) (w : World) :
   Calls Try.prog 45 #[.agg #[.int .i64 st, .int .i64 sy, .slice A nr c], .int .i64 n] w fun e w' => e = .returned (.func (.func 66) #[] #[.pointer (some ⟨w.heap.size, 0, none⟩), .pointer (some ⟨w.heap.size + 1, 0, none⟩)]) ∧
     w' = (w.alloc (.cells #[.int .i64 st, .int .i64 sy, .slice A nr c] 24)).alloc (.cells #[.int .i64 n] 3) := by
  go_enter Try.func45, Try.ntmps45
  go_wp2
  go_ret
  exact ⟨rfl, rfl⟩

@[reducible] def mkE (w : World) (m : Mach) (rv rvm : Value) (W2 W3 W4 W5 W6 W7 : World) (B pm n : Nat) : FE :=
  { w, m, rv, rvm, Wm := W4, B, lo := W3.heap.size, Bm := W4.heap.size, B1 := W7.heap.size + 2, pm, c8 := W2.heap.size, c9 := W2.heap.size + 1, c10 := W5.heap.size, r4 := w.heap.size + 1, r5 := w.heap.size + 1 + 1, r6 := w.heap.size + 1 + 1 + 1, r7 := w.heap.size + 1 + 1 + 1 + 1, bn := W6.heap.size + 1, n }

theorem nameM {F : Fence} {n : Nat} {P : Program} {fn : Func} {R : Ending → World → Prop} {e : Exit} {a : Act} {w : World} (h : ∀ W, W = w → bodyPostM F n P fn R e a W) : bodyPostM F n P fn R e a w := h w rfl
theorem callsIn_name {F : Fence} {n : Nat} {P : Program} {f : FuncId} {args : Array Value} {w : World} {R : Ending → World → Prop} (h : ∀ W, W = w → CallsIn F n P f args W R) : CallsIn F n P f args w R := h w rfl

set_option maxHeartbeats 2000000 in
set_option maxRecDepth 100000 in
theorem find_calls {B : Nat} {m : Mach} {rv : Value} {w : World} (hr : RulesRd B w rv m.rules) (hB : B ≤ w.heap.size) (hm : m.Ok) (n : Nat) (hn1 : 1 ≤ n) (hn2 : n ≤ 2000) :
   Calls Try.prog 12 #[machV m rv, .int .i64 n] w fun e w' => FindPost m n e ∧ Fr (fun _ => False) w w' := by
  have HR := Lib.hid hr
  have HM := Lib.hid hm
  obtain ⟨A, c', rfl, hl1, hl2, hxx⟩ := hr
  clear hm hl1 hl2 hxx
  unfold machV
  refine (callsIn_wide (n := 5)).1 (callsIn_of_wp_marks Try.func12 rfl trivial ?_ rfl)
  simp only [Try.ntmps12, List.size_toArray, List.length_cons, List.length_nil, Nat.reduceAdd, Nat.reduceSub, Array.replicate_succ, Array.replicate_zero, List.push_toArray, List.append_toArray, List.nil_append, List.cons_append]
  gi_wp2_with fail
  refine ⟨trivial, callsIn_name fun W1 hW1 => ?_⟩
  have hF1 : Fr (fun _ => False) w W1 := by rw [hW1]; exact (((((Fr.refl _ _).alloc _).alloc _).alloc _).alloc _).alloc _
  have hbox : W1.heap[w.heap.size]? = some (.cells #[.int .i64 m.st, .int .i64 m.sy, .slice A m.rules.length c'] 24 (0, 0)) := by rw [hW1]; exact blk_alloc (blk_alloc (blk_alloc (blk_alloc (blk_new _ _) _) _) _) _
  have b4 : W1.heap[w.heap.size + 1]? = some (.cells #[.int .i64 0] 3 (0, 0)) := by rw [hW1]; exact blk_alloc (blk_alloc (blk_alloc (blk_new_at _ (by simp)) _) _) _
  have b5 : W1.heap[w.heap.size + 2]? = some (.cells #[.int .i64 0] 3 (0, 0)) := by rw [hW1]; exact blk_alloc (blk_alloc (blk_new_at _ (by simp)) _) _
  have b6 : W1.heap[w.heap.size + 3]? = some (.cells #[.bool false] 4 (0, 0)) := by rw [hW1]; exact blk_alloc (blk_new_at _ (by simp)) _
  have b7 : W1.heap[w.heap.size + 4]? = some (.cells #[.int .i64 0] 28 (0, 0)) := by rw [hW1]; exact blk_new_at _ (by simp)
  have hs1 : W1.heap.size = w.heap.size + 5 := by rw [hW1]; simp
  clear hW1
  refine (callsIn_wide.2 (tapeValid_calls (B := B) (HR.out.below (fun k hk => hF1.block k (by omega) id)) (by omega))).mono ?_
  rintro e W2 ⟨bb, rfl, hbb, hF2⟩
  obtain rfl : bb = true := hbb.2 HM.out
  have hFa := hF1.trans hF2 (fun _ _ e => e)
  have hboxa := hF2.keep hbox id
  have b4a := hF2.keep b4 id
  have b5a := hF2.keep b5 id
  have b6a := hF2.keep b6 id
  have b7a := hF2.keep b7 id
  have e0 : W2.cell? ⟨w.heap.size, 0, none⟩ = some (.int .i64 m.st) := (blk_cell hboxa 0).trans rfl
  have e1 : W2.cell? ⟨w.heap.size, 1, none⟩ = some (.int .i64 m.sy) := (blk_cell hboxa 1).trans rfl
  have e2 : W2.cell? ⟨w.heap.size, 2, none⟩ = some (.slice A m.rules.length c') := (blk_cell hboxa 2).trans rfl
  have hs2 := hF2.size
  have HFA := Lib.hid hFa
  have HBX := Lib.hid hboxa
  have H4 := Lib.hid b4a
  have H5 := Lib.hid b5a
  have H6 := Lib.hid b6a
  have H7 := Lib.hid b7a
  clear hbb hF1 hF2 hbox b4 b5 b6 b7 hFa hboxa b4a b5a b6a b7a
  have lb : w.heap.size < W2.heap.size := by omega
  have hn1' : ¬ (n : Int) < 1 := by omega
  have hn2' : ¬ (2000 : Int) < n := by omega
  gi_wp2_with fail
  refine ⟨trivial, callsIn_name fun W3 hW3 => ?_⟩
  have hF3 : Fr (fun _ => False) W2 W3 := by rw [hW3]; exact ((Fr.refl _ _).alloc _).alloc _
  have b8 : W3.heap[W2.heap.size]? = some (.cells #[.slice none 0 0] 78 (0, 0)) := by rw [hW3]; exact blk_alloc (blk_new _ _) _
  have b9 : W3.heap[W2.heap.size + 1]? = some (.cells #[.slice none 0 0] 78 (0, 0)) := by rw [hW3]; exact blk_new_at _ (by simp)
  have hs3 : W3.heap.size = W2.heap.size + 2 := by rw [hW3]; simp
  have hFR3 := HFA.out.trans hF3 (fun _ _ e => e)
  clear hW3
  refine (callsIn_wide.2 (sidedF_calls (B := B) (m := m) (HR.out.below (fun k hk => hFR3.block k (by omega) id)) (by omega) HM.out)).mono ?_
  rintro e W4 ⟨Am, nm, cmm, rfl, hRN, hF4⟩
  have HF34 := Lib.hid (hF3.trans hF4 (fun _ _ e => e))
  have B8 := Lib.hid (hF4.keep b8 id)
  have B9 := Lib.hid (hF4.keep b9 id)
  have HRN := Lib.hid hRN
  have hs4 := hF4.size
  clear hF3 b8 b9 hFR3 hRN hF4 e0 e1 e2
  unfold machV
  gi_wp2_with fail
  refine ⟨trivial, (callsIn_wide.2 (new_calls m.st m.sy Am nm cmm W4)).mono ?_⟩
  rintro e W5 ⟨pm, qm, rfl, hpm, hqm, hRM, hF5⟩
  have hs5 := hF5.size
  have HF5 := Lib.hid hF5
  have HRM := Lib.hid hRM
  have hbx5 := hF5.keep (HF34.out.keep HBX.out id) id
  have e0 : W5.cell? ⟨w.heap.size, 0, none⟩ = some (.int .i64 m.st) := (blk_cell hbx5 0).trans rfl
  have e1 : W5.cell? ⟨w.heap.size, 1, none⟩ = some (.int .i64 m.sy) := (blk_cell hbx5 1).trans rfl
  have e2 : W5.cell? ⟨w.heap.size, 2, none⟩ = some (.slice A m.rules.length c') := (blk_cell hbx5 2).trans rfl
  have lb5 : w.heap.size < W5.heap.size := by omega
  have lpm := blk_lt hRM.blk
  have lqm := hRM.row.lt
  clear hF5 hRM hbx5
  gi_wp2_with fail
  refine ⟨trivial, callsIn_name fun W6 hW6 => ?_⟩
  have hF6 : Fr (fun _ => False) W5 W6 := by rw [hW6]; exact (Fr.refl _ _).alloc _
  have b10 : W6.heap[W5.heap.size]? = some (.cells #[.pointer (some ⟨pm, 0, none⟩)] 79 (0, 0)) := by rw [hW6]; exact blk_new _ _
  have hs6 : W6.heap.size = W5.heap.size + 1 := by rw [hW6]; simp
  clear hW6
  refine (callsIn_wide.2 (moments_calls m.st m.sy A m.rules.length c' n W6)).mono ?_
  rintro e W7 ⟨rfl, hW7⟩
  have hF7 : Fr (fun _ => False) W6 W7 := by rw [hW7]; exact ((Fr.refl _ _).alloc _).alloc _
  have bbm : W7.heap[W6.heap.size]? = some (.cells #[.int .i64 m.st, .int .i64 m.sy, .slice A m.rules.length c'] 24 (0, 0)) := by rw [hW7]; exact blk_alloc (blk_new _ _) _
  have bbn : W7.heap[W6.heap.size + 1]? = some (.cells #[.int .i64 n] 3 (0, 0)) := by rw [hW7]; exact blk_new_at _ (by simp)
  have hs7 : W7.heap.size = W6.heap.size + 2 := by rw [hW7]; simp
  have B10 := Lib.hid (hF7.keep b10 id)
  have BM := Lib.hid bbm
  have BN := Lib.hid bbn
  have HF57 := Lib.hid (hF6.trans hF7 (fun _ _ e => e))
  clear hW7 hF6 hF7 b10 bbm bbn e0 e1 e2
  gi_wp2_with fail
  refine (show (Code.rangeFunc (.tmp 30) #[31, 32] Try.findA Try.findB).wpIn Fence.wide 5 Try.prog _ _ W7 from ?_)
  have hE : (mkE w m (.slice A m.rules.length c') (.slice Am nm cmm) W2 W3 W4 W5 W6 W7 B pm n).Ok :=
    ⟨HM.out, HR.out, hB, ⟨_, _, _, rfl⟩, ⟨_, _, _, rfl⟩, HRN.out, by simp only; omega, by simp only; omega, by simp only; omega, by simp only; omega, by simp only; omega, by simp only; omega, by simp only; omega, by simp only; omega, by simp only; omega, by simp only; omega, by simp only; omega, by simp only; omega, by simp only; omega, by simp only; omega⟩
  have HE := Lib.hid hE
  clear hE
  have hWw : w.heap.size ≤ W7.heap.size := by omega
  refine rf_find HE.out _ _ _ _ _ _ _ _ _ _ _ _ _ _ _ _ _ _ _ _ _ _ _ _ _ _ _ _ _ _ _ _ _ _ _ _ _ _ _ _ _ _ _ _ _ _ _ _ _ _ _ (bm := W6.heap.size) (by show _ = Value.func _ _ #[_, .pointer (some ⟨W6.heap.size + 1, 0, none⟩)]; rw [hs6]) (D := W7.heap.size) rfl rfl hn2 BM.out ?_ (by simp only; omega) ?_ ?_
  · intro W8 hF8 hs8 p q hp hq
    simp only at hp hq
    have f28 : Fr (fun _ => False) W2 W8 := (((HF34.out.trans HF5.out (fun _ _ e => e)).trans HF57.out (fun _ _ e => e)).trans hF8 (fun _ _ e => e))
    have f48 : Fr (fun _ => False) W4 W8 := (HF5.out.trans HF57.out (fun _ _ e => e)).trans hF8 (fun _ _ e => e)
    refine ⟨HFA.out.trans f28 (fun _ _ e => e), fun b h1 h2 => f48.block b h2 id, by simp only; omega, f28.keep H4.out id, f28.keep H5.out id, f28.keep H6.out id, f28.keep H7.out id, hF8.keep B10.out id, hF8.keep BN.out id, qm, 16, .slice none 0 0, .slice none 0 0, (HRM.out.fr HF57.out id id).fr hF8 id id, hqm, by omega, f48.keep B8.out id, f48.keep B9.out id, LR.nil _ _ _ _, LR.nil _ _ _ _, fun g hg => by simp [Value.ownBlock] at hg, fun b x => x.elim, by simp only; omega⟩
  · clear hs1 hs2 hs3 hs4 hs5 hs6 hs7
    intro k W' hk hall hst ha hS hK
    have e4 : (W'.putObj W7.heap.size (.deferred none)).cell? ⟨w.heap.size + 1, 0, none⟩ = some (.int .i64 (fa m k)) := (World.cell?_of_block (World.putObj_heap_other (fun e => by rw [← e] at hK; have h := hS.h4; simp only at h; rw [h] at hK; cases hK))).trans ((blk_cell hS.h4 0).trans rfl)
    have e5 : (W'.putObj W7.heap.size (.deferred none)).cell? ⟨w.heap.size + 1 + 1, 0, none⟩ = some (.int .i64 k) := (World.cell?_of_block (World.putObj_heap_other (fun e => by rw [← e] at hK; have h := hS.h5; simp only at h; rw [h] at hK; cases hK))).trans ((blk_cell hS.h5 0).trans rfl)
    have e6 : (W'.putObj W7.heap.size (.deferred none)).cell? ⟨w.heap.size + 1 + 1 + 1, 0, none⟩ = some (.bool (fx m k == fa m k)) := (World.cell?_of_block (World.putObj_heap_other (fun e => by rw [← e] at hK; have h := hS.h6; simp only at h; rw [h] at hK; cases hK))).trans ((blk_cell hS.h6 0).trans rfl)
    have e7 : (W'.putObj W7.heap.size (.deferred none)).cell? ⟨w.heap.size + 1 + 1 + 1 + 1, 0, none⟩ = some (.int .i64 0) := (World.cell?_of_block (World.putObj_heap_other (fun e => by rw [← e] at hK; have h := hS.h7; simp only at h; rw [h] at hK; cases hK))).trans ((blk_cell hS.h7 0).trans rfl)
    have hfr : Fr (fun _ => False) w (W'.putObj W7.heap.size (.deferred none)) := hS.fr.putObj _ _ (fun h => absurd (show W7.heap.size < w.heap.size from h) (by omega))
    simp only [Exit.inBlock, Exit.then]
    refine ⟨by simp, .inl ⟨_, _, rfl, run_takeDeferred hK, ?_⟩⟩
    refine ⟨_, (by simp [results, Try.results12, go_sem, e4, e5, e6, e7]; try rfl : (results Try.f12 _).run Try.prog _ = .ok (.tuple #[.int .i64 (fa m k), .int .i64 k, .bool (fx m k == fa m k), .int .i64 0]) _), .inl ⟨k, hk, hall, hst, ha, rfl⟩, hfr⟩
  · clear hs1 hs2 hs3 hs4 hs5 hs6 hs7
    intro W' hall hS hK
    have e4 : W'.cell? ⟨w.heap.size + 1, 0, none⟩ = some (.int .i64 0) := (blk_cell hS.h4 0).trans rfl
    have e5 : W'.cell? ⟨w.heap.size + 1 + 1, 0, none⟩ = some (.int .i64 0) := (blk_cell hS.h5 0).trans rfl
    have e6 : W'.cell? ⟨w.heap.size + 1 + 1 + 1, 0, none⟩ = some (.bool false) := (blk_cell hS.h6 0).trans rfl
    have e7 : W'.cell? ⟨w.heap.size + 1 + 1 + 1 + 1, 0, none⟩ = some (.int .i64 0) := (blk_cell hS.h7 0).trans rfl
    have z4 : W'.frozen? ⟨w.heap.size + 1, 0, none⟩ = false := blk_frozen hS.h4 0
    have z5 : W'.frozen? ⟨w.heap.size + 1 + 1, 0, none⟩ = false := blk_frozen hS.h5 0
    have z6 : W'.frozen? ⟨w.heap.size + 1 + 1 + 1, 0, none⟩ = false := blk_frozen hS.h6 0
    have z7 : W'.frozen? ⟨w.heap.size + 1 + 1 + 1 + 1, 0, none⟩ = false := blk_frozen hS.h7 0
    have HALL := Lib.hid hall
    have HSS := Lib.hid hS
    have HKK := Lib.hid hK
    clear hall hS hK
    gi_wp2_with fail
    refine nameM fun W9 hW9 => ?_
    have n4 : W7.heap.size ≠ w.heap.size + 1 := fun e => by have h := HSS.out.h4; have h2 := HKK.out; simp only at h; rw [e, h] at h2; cases h2
    have n5 : W7.heap.size ≠ w.heap.size + 1 + 1 := fun e => by have h := HSS.out.h5; have h2 := HKK.out; simp only at h; rw [e, h] at h2; cases h2
    have n6 : W7.heap.size ≠ w.heap.size + 1 + 1 + 1 := fun e => by have h := HSS.out.h6; have h2 := HKK.out; simp only at h; rw [e, h] at h2; cases h2
    have n7 : W7.heap.size ≠ w.heap.size + 1 + 1 + 1 + 1 := fun e => by have h := HSS.out.h7; have h2 := HKK.out; simp only at h; rw [e, h] at h2; cases h2
    have hK9 : W9.heap[W7.heap.size]? = some (.deferred (some [])) := by
      rw [hW9]
      exact blk_set_other (blk_set_other (blk_set_other (blk_set_other HKK.out _ _ n4) _ _ n5) _ _ n6) _ _ n7
    have hF9 : Fr (fun _ => False) w W9 := by
      rw [hW9]
      exact (((HSS.out.fr.setCell _ _ (fun h => absurd (show w.heap.size + 1 < w.heap.size from h) (by omega))).setCell _ _ (fun h => absurd (show w.heap.size + 1 + 1 < w.heap.size from h) (by omega))).setCell _ _ (fun h => absurd (show w.heap.size + 1 + 1 + 1 < w.heap.size from h) (by omega))).setCell _ _ (fun h => absurd (show w.heap.size + 1 + 1 + 1 + 1 < w.heap.size from h) (by omega))
    have f4 : W9.heap[w.heap.size + 1]? = some (.cells #[.int .i64 0] 3 (0, 0)) := by
      rw [hW9]
      exact blk_set_other (blk_set_other (blk_set_other ((blk_set (i := 0) HSS.out.h4 _).trans rfl) _ _ (by (try simp only); omega)) _ _ (by (try simp only); omega)) _ _ (by (try simp only); omega)
    have f5 : W9.heap[w.heap.size + 1 + 1]? = some (.cells #[.int .i64 0] 3 (0, 0)) := by
      rw [hW9]
      exact blk_set_other (blk_set_other ((blk_set (i := 0) (blk_set_other HSS.out.h5 _ _ (by (try simp only); omega)) _).trans rfl) _ _ (by (try simp only); omega)) _ _ (by (try simp only); omega)
    have f6 : W9.heap[w.heap.size + 1 + 1 + 1]? = some (.cells #[.bool false] 4 (0, 0)) := by
      rw [hW9]
      exact blk_set_other ((blk_set (i := 0) (blk_set_other (blk_set_other HSS.out.h6 _ _ (by (try simp only); omega)) _ _ (by (try simp only); omega)) _).trans rfl) _ _ (by (try simp only); omega)
    have f7 : W9.heap[w.heap.size + 1 + 1 + 1 + 1]? = some (.cells #[.int .i64 6] 28 (0, 0)) := by
      rw [hW9]
      exact (blk_set (i := 0) (blk_set_other (blk_set_other (blk_set_other HSS.out.h7 _ _ (by (try simp only); omega)) _ _ (by (try simp only); omega)) _ _ (by (try simp only); omega)) _).trans rfl
    have e4 : (W9.putObj W7.heap.size (.deferred none)).cell? ⟨w.heap.size + 1, 0, none⟩ = some (.int .i64 0) := (World.cell?_of_block (World.putObj_heap_other (Ne.symm n4))).trans ((blk_cell f4 0).trans rfl)
    have e5 : (W9.putObj W7.heap.size (.deferred none)).cell? ⟨w.heap.size + 1 + 1, 0, none⟩ = some (.int .i64 0) := (World.cell?_of_block (World.putObj_heap_other (Ne.symm n5))).trans ((blk_cell f5 0).trans rfl)
    have e6 : (W9.putObj W7.heap.size (.deferred none)).cell? ⟨w.heap.size + 1 + 1 + 1, 0, none⟩ = some (.bool false) := (World.cell?_of_block (World.putObj_heap_other (Ne.symm n6))).trans ((blk_cell f6 0).trans rfl)
    have e7 : (W9.putObj W7.heap.size (.deferred none)).cell? ⟨w.heap.size + 1 + 1 + 1 + 1, 0, none⟩ = some (.int .i64 6) := (World.cell?_of_block (World.putObj_heap_other (Ne.symm n7))).trans ((blk_cell f7 0).trans rfl)
    clear hW9 z4 z5 z6 z7
    refine ⟨by simp, .inl ⟨_, _, rfl, run_takeDeferred hK9, ?_⟩⟩
    refine ⟨_, (by simp [results, Try.results12, go_sem, e4, e5, e6, e7]; try rfl : (results Try.f12 _).run Try.prog _ = .ok (.tuple #[.int .i64 0, .int .i64 0, .bool false, .int .i64 6]) _), .inr ⟨HALL.out, rfl⟩, hF9.putObj _ _ (fun h => by omega)⟩

end Go.Proofs.Ytggfcdjmeodggaa

/- Contract of tape.Mirror: the walk. -/
import Derived.Test.YtggfcdjmeodggaaMir2
import Derived.Test.YtggfcdjmeodggaaRun3
set_option linter.unusedVariables false
set_option linter.unusedSimpArgs false
namespace Go.Proofs.Ytggfcdjmeodggaa
open Go.RowKit

theorem wp_name_post {P : Program} {fn : Func} {R : Ending → World → Prop} {e : Exit} {a : Act} {w : World} (h : ∀ W, W = w → bodyPost P fn R e a W) : bodyPost P fn R e a w := h w rfl
theorem mach_size : (Try.prog.info? 24).map (·.size) = some 3 := by kernel_rfl

set_option maxHeartbeats 2000000 in
set_option maxRecDepth 100000 in
theorem mirror_calls {B : Nat} {m : Mach} {rv : Value} {w : World} (hr : RulesRd B w rv m.rules) (hB : B ≤ w.heap.size) (hm : m.Ok) :
   Calls Try.prog 25 #[machV m rv] w fun e w' => ∃ q cap, e = .returned (.tuple #[machV m (.slice (some ⟨q, 0, none⟩) m.rules.length cap), .int .i64 0]) ∧ RulesNew w.heap.size w'.heap.size w' (.slice (some ⟨q, 0, none⟩) m.rules.length cap) (mirRules m.rules) ∧ Fr (fun _ => False) w w' := by
  have HR := Lib.hid hr
  have HM := Lib.hid hm
  have hst := hm.st0
  have hst1 := hm.st1
  have hlen := hm.len
  obtain ⟨b, o, c', A', c3, rfl, hbB, hrl, _⟩ := hr.row 0 (by omega)
  clear hr hm
  obtain ⟨i0, hi0, hz0, hz1, hz2⟩ := info_parts Try.infoRow
  unfold machV
  go_enter Try.func25, Try.ntmps25
  go_wp2_with fail
  refine calls_name fun W1 hW1 => ?_
  have hF1 : Fr (fun _ => False) w W1 := by rw [hW1]; exact ((Fr.refl _ _).alloc _).alloc _
  have hbox : W1.heap[w.heap.size]? = some (.cells #[.int .i64 m.st, .int .i64 m.sy, .slice (some ⟨b, o, none⟩) m.rules.length c'] 24 (0, 0)) := by rw [hW1]; exact blk_alloc (blk_new _ _) _
  have hres : W1.heap[w.heap.size + 1]? = some (.cells #[.int .i64 0, .int .i64 0, .slice none 0 0] 24 (0, 0)) := by rw [hW1]; exact blk_new_at _ (by simp)
  clear hW1
  refine (tapeValid_calls (B := B) (HR.out.below (fun k hk => hF1.block k (by omega) id)) (by have := hF1.size; omega)).mono ?_
  rintro e W2 ⟨bb, rfl, hbb, hF2⟩
  obtain rfl : bb = true := hbb.2 HM.out
  have hbox2 := hF2.keep hbox id
  have hres2 := hF2.keep hres id
  have hF := hF1.trans hF2 (fun _ _ e => e)
  have e0 : W2.cell? ⟨w.heap.size, 0, none⟩ = some (.int .i64 m.st) := (blk_cell hbox2 0).trans rfl
  have e1 : W2.cell? ⟨w.heap.size, 1, none⟩ = some (.int .i64 m.sy) := (blk_cell hbox2 1).trans rfl
  have e2 : W2.cell? ⟨w.heap.size, 2, none⟩ = some (.slice (some ⟨b, o, none⟩) m.rules.length c') := (blk_cell hbox2 2).trans rfl
  have lb := blk_lt hbox2
  have lr := blk_lt hres2
  have HBOX := Lib.hid hbox2
  have HRES := Lib.hid hres2
  have HF := Lib.hid hF
  clear hbb hF1 hF2 hF hbox hres hbox2 hres2 hlen
  go_wp2
  obtain ⟨po, hpo⟩ : ∃ po, po = W2.heap.size := ⟨_, rfl⟩
  rw [← hpo]
  refine wp_name fun W3 hW3 => ?_
  have hstart : MirInv w W3 m.st m.sy po (.slice (some ⟨b, o, none⟩) m.rules.length c') m.rules 0 := by
    rw [hW3]
    refine ⟨HF.out.alloc _, blk_alloc HBOX.out _, blk_alloc HRES.out _, .slice none 0 0, [], blk_new_at _ hpo, World.ownsRow_nil _ _ _ _, fun g hg => by simp [Value.ownBlock] at hg, fun k hk => by omega⟩
  have HS := Lib.hid hstart
  have HPO := Lib.hid hpo
  clear hstart hW3 hpo e0 e1 e2
  go_loopw [21] (fun c wr => ∃ i : Nat, i ≤ m.rules.length ∧ c = .int .i64 i ∧ Off (MirInv w wr m.st m.sy po (.slice (some ⟨b, o, none⟩) m.rules.length c') m.rules i)) (fun c _ => m.rules.length - (intOf c).toNat)
  case atStart => exact ⟨0, Nat.zero_le _, rfl, ⟨HS.out⟩⟩
  case round =>
    obtain ⟨i, hi, rfl, ho⟩ := hrel
    by_cases hlt : i < m.rules.length
    · obtain ⟨b', o', c2', A', c3, hv, _, _, hrow, hrl, hcs⟩ := (HR.out.below (fun k hk => ho.out.fr.block k (by omega) id) : RulesRd B wr _ _).row i hlt
      simp only [Value.slice.injEq, Option.some.injEq, Addr.mk.injEq] at hv
      obtain ⟨⟨rfl, rfl, _⟩, _, rfl⟩ := hv
      have hsy := HM.out.row i hlt
      have hsy0 := HM.out.sy0
      have hsy1 := HM.out.sy1
      obtain ⟨b1, o1, rfl, hb1, _⟩ := hcs 0 (by omega)
      have hcs2 : ∀ j, j < (rowAt m.rules i).length → wr.cell? ⟨b1, o1 + j * 3, none⟩ = some (.int .i64 (ruleIn (rowAt m.rules i) j).w) ∧ wr.cell? ⟨b1, o1 + j * 3 + 1, none⟩ = some (.int .i64 (ruleIn (rowAt m.rules i) j).m) ∧ wr.cell? ⟨b1, o1 + j * 3 + 2, none⟩ = some (.int .i64 (ruleIn (rowAt m.rules i) j).n) := fun j hj => by
        obtain ⟨b2, o2, q1, _, q3⟩ := hcs j hj
        simp only [Option.some.injEq, Addr.mk.injEq] at q1
        obtain ⟨rfl, rfl, _⟩ := q1
        exact q3
      have HCS := Lib.hid hcs2
      have hlen1 : 1 ≤ (rowAt m.rules i).length := by omega
      have hlen2 : (rowAt m.rules i).length ≤ 4 := by omega
      have HSY := Lib.hid hsy
      clear hcs hcs2 hsy
      go_wp2_with (go_at_call 53; refine (cloneRules_calls b1 o1 _ c3 (rowAt m.rules i) rfl hlen1 (by omega) HCS.out).mono ?_; rintro e W4 ⟨q, cap, rfl, hq, hf, hF4⟩; have HQ := Lib.hid hf; have HF4 := Lib.hid hF4; clear hf hF4)
      have HO := Lib.hid ho.out
      have hsz := ho.out.fr.size
      clear ho
      go_loopw [29] (fun c wr => ∃ j : Nat, j ≤ (rowAt m.rules i).length ∧ c = .int .i64 j ∧ Off (RuleFn wr q (rowAt m.rules i).length cap (fun t => if t < j then mir (ruleIn (rowAt m.rules i) t) else ruleIn (rowAt m.rules i) t)) ∧ Off (Fr (fun k => k = q) W4 wr)) (fun c _ => (rowAt m.rules i).length - (intOf c).toNat)
      case atStart => exact ⟨0, Nat.zero_le _, rfl, ⟨HQ.out.congr (fun j hj => if_neg (by omega))⟩, ⟨Fr.refl _ _⟩⟩
      case round =>
        obtain ⟨j, hj, rfl, hfn, hfr⟩ := hrel
        by_cases hlt2 : j < (rowAt m.rules i).length
        · have hmc := hfn.out.mc j hlt2
          simp only [Nat.lt_irrefl, if_false] at hmc
          have hfz := hfn.out.frozen (j * 3 + 1)
          have hmv := HM.out.mv i j hlt (by have := HSY.out; omega)
          have hw1 : IntKind.i64.wrap (-(ruleIn (rowAt m.rules i) j).m) = -(ruleIn (rowAt m.rules i) j).m := IntWalk.i64_in _ (by omega)
          have hw2 : IntKind.i64.wrap ((j : Int) + 1) = (j : Int) + 1 := IntWalk.i64_in _ (by omega)
          clear hmv
          go_wp2
          go_roundw
          case rel =>
            refine ⟨j + 1, by omega, by go_num, ⟨hfn.out.setM j hlt2 _ (fun t ht => ?_)⟩, ⟨hfr.out.setCell _ _ (fun _ => rfl)⟩⟩
            by_cases e : t = j
            · subst e; simp [mir]
            · rw [if_neg e]
              by_cases e2 : t < j
              · rw [if_pos e2, if_pos (by omega)]
              · rw [if_neg e2, if_neg (by omega)]
          case measure => simp [intOf]; omega
        · have hjl : j = (rowAt m.rules i).length := by omega
          have hfin : RuleFn wr q (rowAt m.rules i).length cap (fun t => mir (ruleIn (rowAt m.rules i) t)) := hfn.out.congr (fun t ht => by rw [if_pos (by omega)])
          obtain ⟨hfr1, hbox1, hres1, v, vals, hout, hown, hfresh, h4⟩ := HO.out.step (HF4.out.trans hfr.out (fun k hk e => by omega))
          have f2 : wr.cell? ⟨po, 2, none⟩ = some v := (blk_cell hout 2).trans rfl
          have hpw : w.heap.size + 1 < po := by have := HPO.out; omega
          have lpo := blk_lt hout
          have hvl : vals.length = i := by have := hown.1; omega
          have hown0 : ∀ g, v.ownBlock = some g → w.heap.size ≤ g ∧ ∃ cur, wr.heap[g]? = some (.cells cur 73 (0, 0)) := fun g hg => by
            refine ⟨hfresh g hg, ?_⟩
            rcases hown.2 with ⟨e, _⟩ | ⟨g', cap', cur, e, _, hg', _⟩
            · rw [e] at hg; cases hg
            · rw [e] at hg; simp only [Value.ownBlock, Option.some.injEq] at hg; subst hg; exact ⟨cur, hg'⟩
          have hwi : IntKind.i64.wrap ((i : Int) + 1) = (i : Int) + 1 := IntWalk.i64_in _ (by have := HM.out.len; omega)
          have HFIN := Lib.hid hfin
          have HFR1 := Lib.hid hfr1
          have HBOX1 := Lib.hid hbox1
          have HRES1 := Lib.hid hres1
          have HOUT := Lib.hid hout
          have HOWN := Lib.hid hown
          have HOWN0 := Lib.hid hown0
          have HFRESH := Lib.hid hfresh
          have H4 := Lib.hid h4
          have HVL := Lib.hid hvl
          clear hfin hfr1 hbox1 hres1 hout hown hown0 hfresh h4 hvl hfn hfr
          go_wp2_with (at_builtin; refine wpList_app rfl (.tmp 44) (.tmp 46) 22 rfl 73 i0 (.slice none 0 0) 1 24 Try.underlying22 hi0 hz0 hz1 hz2 rfl (by decide) v i vals rfl ?own ⟨wr.heap.size, 0, none⟩ 1 1 [.slice (some ⟨q, 0, none⟩) (rowAt m.rules i).length cap] rfl ?c1 ?c2 ?c3 ?c4 ?c5 ?_)
          case own =>
            obtain ⟨a1, a2⟩ := HOWN.out
            refine ⟨a1, ?_⟩
            rcases a2 with a2 | ⟨g, cp, cur, e, b1, b2, b3⟩
            · exact .inl a2
            · exact .inr ⟨g, cp, cur, e, b1, blk_alloc b2 _, b3⟩
          case c1 => rfl
          case c2 =>
            intro j u hj
            cases j with
            | zero => simp at hj; subst hj; exact (blk_cell (blk_new _ _) 0).trans rfl
            | succ j => simp at hj
          case c3 => intro u hu; simp at hu; subst hu; rfl
          case c4 => unfold maxLen; have := HM.out.len; omega
          case c5 => have := HM.out.len; omega
          intro v' w2 hown2 hgrow hbk
          obtain ⟨g2, cap2, rfl⟩ : ∃ g2 cap2, v' = .slice (some ⟨g2, 0, none⟩) (i + 1) cap2 := by
            rcases hown2.2 with ⟨_, h⟩ | ⟨g, cap, cur, e, _⟩
            · omega
            · exact ⟨g, cap, e⟩
          have hout2 : w2.heap[po]? = some (.cells #[.int .i64 m.st, .int .i64 m.sy, v] 24 (0, 0)) := blk_grown (blk_alloc HOUT.out _) hgrow (fun e => by
            obtain ⟨_, cur, hc⟩ := HOWN0.out po e
            rw [HOUT.out] at hc
            simp at hc)
          have f3 : w2.cell? ⟨po, 2, none⟩ = some v := (blk_cell hout2 2).trans rfl
          have f4 := blk_frozen hout2 2
          have HW2 := Lib.hid hown2
          have HGR := Lib.hid hgrow
          have HBK := Lib.hid hbk
          clear hown2 hgrow hbk hout2 f2
          go_wp2
          go_roundw
          case rel => exact ⟨i + 1, by omega, by go_num, ⟨MirInv.more HFR1.out HBOX1.out HRES1.out HOUT.out H4.out HVL.out (by omega) HFIN.out HOWN0.out HW2.out HGR.out HBK.out hpw rfl⟩⟩
          case measure => simp [intOf]; omega
    · have hil : i = m.rules.length := by omega
      obtain ⟨hfr1, hbox1, hres1, v, vals, hout, hown, hfresh, h4⟩ := ho.out
      obtain ⟨g, cp, cur, rfl, _, k1, k2, k3, k4, k5⟩ := (by
        rcases hown.2 with ⟨_, h⟩ | h
        · have := HM.out.len
          omega
        · exact h : ∃ g cap cur, v = .slice (some ⟨g, 0, none⟩) i cap ∧ 0 ≤ g ∧ wr.heap[g]? = some (.cells cur 73 (0, 0)) ∧ i ≤ cap ∧ cap ≤ maxLen ∧ cur.size = cap * 1 ∧ cur.toList.take (i * 1) = vals)
      have f0 : wr.cell? ⟨po, 0, none⟩ = some (.int .i64 m.st) := (blk_cell hout 0).trans rfl
      have f1 : wr.cell? ⟨po, 1, none⟩ = some (.int .i64 m.sy) := (blk_cell hout 1).trans rfl
      have f2 : wr.cell? ⟨po, 2, none⟩ = some (.slice (some ⟨g, 0, none⟩) i cp) := (blk_cell hout 2).trans rfl
      have g0 : wr.cell? ⟨w.heap.size + 1, 0, none⟩ = some (.int .i64 0) := (blk_cell hres1 0).trans rfl
      have g1 : wr.cell? ⟨w.heap.size + 1, 1, none⟩ = some (.int .i64 0) := (blk_cell hres1 1).trans rfl
      have g2 : wr.cell? ⟨w.heap.size + 1, 2, none⟩ = some (.slice none 0 0) := (blk_cell hres1 2).trans rfl
      have z0 := blk_frozen hres1 0
      have z1 := blk_frozen hres1 1
      have z2 := blk_frozen hres1 2
      have lr1 := blk_lt hres1
      have HFR1 := Lib.hid hfr1
      have HRES1 := Lib.hid hres1
      have K1 := Lib.hid k1
      have K5 := Lib.hid k5
      have H4 := Lib.hid h4
      have HIL := Lib.hid hil
      have HFRESH := Lib.hid hfresh
      clear hfr1 hbox1 hres1 hout hown hfresh h4 k1 k4 k5 ho hil
      go_wp2
      refine wp_name_post fun W5 hW5 => ?_
      have hres5 : W5.heap[w.heap.size + 1]? = some (.cells #[.int .i64 m.st, .int .i64 m.sy, .slice (some ⟨g, 0, none⟩) i cp] 24 (0, 0)) := by
        rw [hW5]
        exact (blk_set (i := 2) (blk_set (i := 1) (blk_set (i := 0) HRES1.out _) _) _).trans rfl
      have far : ∀ b o T fz, wr.heap[b]? = some (Obj.cells o T fz) → T ≠ 24 → W5.heap[b]? = some (Obj.cells o T fz) := fun b o T fz hb hT => by
        have hne : b ≠ w.heap.size + 1 := fun e => by
          rw [e, HRES1.out] at hb
          simp only [Option.some.injEq, Obj.cells.injEq] at hb
          exact hT hb.2.1.symm
        rw [hW5]
        exact blk_set_other (blk_set_other (blk_set_other hb _ _ hne) _ _ hne) _ _ hne
      have hfr5 : Fr (fun _ => False) w W5 := by
        rw [hW5]
        exact ((HFR1.out.setCell _ _ (fun h => by simp at h; omega)).setCell _ _ (fun h => by simp at h; omega)).setCell _ _ (fun h => by simp at h; omega)
      refine bodyPost_ret (results_cell_row_tmp rfl _ _ (w.heap.size + 1) _ _ _ _ rfl hres5 Try.underlying24 rfl mach_size) rfl ?_
      obtain rfl := HIL.out
      refine ⟨g, cp, rfl, ?_, hfr5⟩
      exact mir_done (w := w) rfl (HFRESH.out g rfl) (far _ _ _ _ K1.out (by decide)) k2 k3 K5.out (fun k hk => by
        obtain ⟨q, cap, c1, c2, cur', c3, c4⟩ := H4.out k hk
        exact ⟨q, cap, c1, c2, cur', far _ _ _ _ c3 (by decide), c4⟩)

end Go.Proofs.Ytggfcdjmeodggaa

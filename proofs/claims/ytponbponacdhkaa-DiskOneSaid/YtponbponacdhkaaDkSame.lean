/-
  Layer 6's contracts: two disks that are the same are told so (the document's).
-/
import Derived.Test.YtponbponacdhkaaDkTexts
import Derived.Test.YtponbponacdhkaaRegPlan
import Derived.Deep.DeepCutAuto
namespace Go.Proofs.Ytponbponacdhkaa
open Go.RowKit

theorem cells3f {w : World} {b : Nat} {v0 v1 v2 : Value} {t : TypeId} (h : w.heap[b]? = some (.cells #[v0, v1, v2] t (0, 0))) : w.frozen? ⟨b, 0, none⟩ = false ∧ w.frozen? ⟨b, 1, none⟩ = false ∧ w.frozen? ⟨b, 2, none⟩ = false :=
  ⟨by simp [World.frozen?, h], by simp [World.frozen?, h], by simp [World.frozen?, h]⟩
theorem moves_at {w : World} {base : Nat} {x : DV} {D : Dk} (h : OD w base x D) (hn : 0 < x.mn) : ∃ b o, x.ma = some ⟨b, o, none⟩ ∧ ∀ k (hk : k < D.moves.length), w.cell? ⟨b, o + k * 4, none⟩ = some (.int .i64 D.moves[k].kind) ∧
    w.cell? ⟨b, o + k * 4 + 1, none⟩ = some (.string ⟨D.moves[k].name.toArray⟩) ∧ w.cell? ⟨b, o + k * 4 + 2, none⟩ = some (.string ⟨D.moves[k].dst.toArray⟩) ∧ w.cell? ⟨b, o + k * 4 + 3, none⟩ = some (.int .i64 D.moves[k].id) := by
  obtain ⟨b, o, ha, hc⟩ := Row.at mcl_len (slice_row h.moves).1 hn
  exact ⟨b, o, ha, fun k hk => ⟨hc k hk 0 _ rfl, hc k hk 1 _ rfl, hc k hk 2 _ rfl, hc k hk 3 _ rfl⟩⟩

set_option maxRecDepth 100000 in
set_option maxHeartbeats 6400000 in
theorem dsame_calls (D : Dk) (x x2 : DV) (base base2 : Nat) (w : World) (hO : OD w base x D) (hO2 : OD w base2 x2 D) (hG : Good D) :
    Calls Try.prog 21 #[dkv D x, dkv D x2] w fun e w' => e = .returned (.bool true) ∧ Ext w w' := by
  obtain ⟨hbk, hbk2⟩ := two_blocks (Ext.refl ((w.alloc (.cells (dcs D x) 29)).alloc (.cells (dcs D x2) 29)))
  have hx0 : Ext w ((w.alloc (.cells (dcs D x) 29)).alloc (.cells (dcs D x2) 29)) := (Ext.alloc _ _).trans (Ext.alloc _ _)
  have hnf := hG.nf
  have hnm := hG.nm
  have hOh := Lib.hid hO
  have hO2h := Lib.hid hO2
  have hf := hO.fn
  have hf2 := hO2.fn
  clear hO hO2 hG
  unfold dkv at *
  unfold dcs at *
  obtain ⟨quota, files, names, kept, moves, next⟩ := D
  obtain ⟨fa, fn, fc, fm, na, nn, nc0, ka, kn, kc, ma, mn, mc⟩ := x
  obtain ⟨fa2, fn2, fc2, fm2, na2, nn2, nc2, ka2, kn2, kc2, ma2, mn2, mc2⟩ := x2
  dsimp only at *
  obtain ⟨rfl, hfl, rfl, rfl, rfl⟩ := hf
  obtain ⟨rfl, hfl2, rfl, rfl, rfl⟩ := hf2
  have hsn := Lib.hid (fun W (h : Ext w W) => samenames_calls na names.length nc0 na2 nc2 names W ((slice_row hOh.out.names).1.ext h) ((slice_row hO2h.out.names).1.ext h))
  have hsk := Lib.hid (fun W (h : Ext w W) => samenames_calls ka kept.length kc ka2 kc2 kept W ((slice_row hOh.out.kept).1.ext h) ((slice_row hO2h.out.kept).1.ext h))
  obtain ⟨W0, hW0⟩ : ∃ W0, (w.alloc (.cells #[.int .i64 quota, .slice fa files.length fc, .slice na names.length nc0, .slice ka kept.length kc, .slice ma moves.length mc, .int .i64 next] 29)).alloc (.cells #[.int .i64 quota, .slice fa2 files.length fc2, .slice na2 names.length nc2, .slice ka2 kept.length kc2, .slice ma2 moves.length mc2, .int .i64 next] 29) = W0 := ⟨_, rfl⟩
  rw [hW0] at hx0 hbk hbk2
  obtain ⟨⟨y0, y1, y2, y3, y4, y5⟩, _⟩ := cells_six hbk
  obtain ⟨⟨z0, z1, z2, z3, z4, z5⟩, _⟩ := cells_six hbk2
  have hq1 : ((files.length : Int) != (files.length : Int)) = false := by simp
  have hq2 : ((moves.length : Int) != (moves.length : Int)) = false := by simp
  go_enter Try.func21, Try.ntmps21
  go_wp2_with fail
  refine (hsn.out _ hx0).mono ?_
  rintro e w1 ⟨rfl, hx1⟩
  have hX1 := hx0.trans hx1
  have hb1 := (hx1.block _ (lt_of_block hbk)).trans hbk
  have hc1 := (hx1.block _ (lt_of_block hbk2)).trans hbk2
  clear hW0 y0 y1 y2 y3 y4 y5 z0 z1 z2 z3 z4 z5
  obtain ⟨⟨y0, y1, y2, y3, y4, y5⟩, _⟩ := cells_six hb1
  obtain ⟨⟨z0, z1, z2, z3, z4, z5⟩, _⟩ := cells_six hc1
  go_wp2_with fail
  refine (hsk.out _ hX1).mono ?_
  rintro e w2 ⟨rfl, hx2⟩
  have hX2 := hX1.trans hx2
  have hb2 := (hx2.block _ (lt_of_block hb1)).trans hb1
  have hc2 := (hx2.block _ (lt_of_block hc1)).trans hc1
  clear y0 y1 y2 y3 y4 y5 z0 z1 z2 z3 z4 z5 hx1 hx2 hX1 hb1 hc1 hbk hbk2 hx0 hsn hsk
  go_wp2_with fail
  clear hq1 hq2
  go_loopw [5] (fun vi wr => ∃ k : Nat, k ≤ files.length ∧ vi = .int .i64 k ∧ Ext w2 wr) (fun vi _ => files.length - (intOf vi).toNat)
  case atStart => exact ⟨0, Nat.zero_le _, rfl, Ext.refl _⟩
  case round =>
    obtain ⟨k, hk, rfl, hX⟩ := hrel
    obtain ⟨wo, hwo⟩ : ∃ wo : World, wr = wo := ⟨_, rfl⟩
    rw [hwo] at hX ⊢
    clear hwo
    have hb3 := (hX.block _ (lt_of_block hb2)).trans hb2
    have hc3 := (hX.block _ (lt_of_block hc2)).trans hc2
    obtain ⟨⟨y0, y1, y2, y3, y4, y5⟩, _⟩ := cells_six hb3
    obtain ⟨⟨z0, z1, z2, z3, z4, z5⟩, _⟩ := cells_six hc3
    have hXw := hX2.trans hX
    by_cases hlt : k < files.length
    · obtain ⟨b0, o0, hfa, hca⟩ := files_at hOh.out (by dsimp only; omega)
      obtain ⟨b1, o1, hfb, hcb⟩ := files_at hO2h.out (by dsimp only; omega)
      dsimp only at hfa hfb hca hcb
      subst hfa hfb
      have hka : k < fm.length := by omega
      have hkb : k < fm2.length := by omega
      obtain ⟨hkD, hea⟩ := fm_at hOh.out hka
      obtain ⟨_, heb⟩ := fm_at hO2h.out hkb
      dsimp only at hea heb hkD
      obtain ⟨p0, p1, p2⟩ := hca k hka
      obtain ⟨q0, q1, q2⟩ := hcb k hkb
      obtain ⟨va, na1, ca1, hva, hba⟩ := (hOh.out.bytes fm[k] (List.getElem_mem hka)).bs
      obtain ⟨vb, nb1, cb1, hvb, hbb⟩ := (hO2h.out.bytes fm2[k] (List.getElem_mem hkb)).bs
      rw [hea] at p0 p2 hba
      rw [heb] at q0 q2 hbb
      rw [hva] at p1
      rw [hvb] at q1
      obtain ⟨⟨id, bys, sure⟩, hfk⟩ : ∃ y, files[k] = y := ⟨_, rfl⟩
      rw [hfk] at p0 p2 hba q0 q2 hbb
      dsimp only at p0 p2 hba q0 q2 hbb
      have hsm : Hid (∀ W, Ext w W → Calls Try.prog 16 #[.slice va na1 ca1, .slice vb nb1 cb1] W fun e w' => e = .returned (.bool true) ∧ Ext W w') := fun W (h : Ext w W) => by
        have h1 := same_ext va na1 ca1 bys vb nb1 cb1 bys W (hba.ext h) (hbb.ext h)
        rw [beq_self_eq_true] at h1
        exact h1
      clear hca hcb hea heb hva hvb hba hbb hfk hka hkb hkD hb2 hc2
      replace p0 := hXw.cell p0
      replace p1 := hXw.cell p1
      replace p2 := hXw.cell p2
      replace q0 := hXw.cell q0
      replace q1 := hXw.cell q1
      replace q2 := hXw.cell q2
      obtain ⟨X, iX, f, hxS0, hSx0⟩ := letters (fun w' => Ext wo w') wo (Ext.refl wo)
      have hxS := Lib.hid hxS0
      have hSx := Lib.hid hSx0
      clear hxS0 hSx0
      go_upto_region 6 with fail
      have uy : ∀ x', (f x').cell? ⟨w.heap.size, 1, none⟩ = some (.slice (some ⟨b0, o0, none⟩) files.length fc) := fun x' => (hxS.out x').cell y1
      have uz : ∀ x', (f x').cell? ⟨w.heap.size + 1, 1, none⟩ = some (.slice (some ⟨b1, o1, none⟩) files.length fc2) := fun x' => (hxS.out x').cell z1
      have up0 : ∀ x', (f x').cell? ⟨b0, o0 + k * 3, none⟩ = some (.int .i64 id) := fun x' => (hxS.out x').cell p0
      have up1 : ∀ x', (f x').cell? ⟨b0, o0 + k * 3 + 1, none⟩ = some (.slice va na1 ca1) := fun x' => (hxS.out x').cell p1
      have up2 : ∀ x', (f x').cell? ⟨b0, o0 + k * 3 + 2, none⟩ = some (.int .i64 sure) := fun x' => (hxS.out x').cell p2
      have uq0 : ∀ x', (f x').cell? ⟨b1, o1 + k * 3, none⟩ = some (.int .i64 id) := fun x' => (hxS.out x').cell q0
      have uq1 : ∀ x', (f x').cell? ⟨b1, o1 + k * 3 + 1, none⟩ = some (.slice vb nb1 cb1) := fun x' => (hxS.out x').cell q1
      have uq2 : ∀ x', (f x').cell? ⟨b1, o1 + k * 3 + 2, none⟩ = some (.int .i64 sure) := fun x' => (hxS.out x').cell q2
      clear y0 y1 y2 y3 y4 y5 z0 z1 z2 z3 z4 z5 p0 p1 p2 q0 q1 q2
      refine region_plan 13 [.quiet [0, 1, 2, 3, 4, 5, 6, 7, 8, 9], .alt 10 11, .act 12] (fun w' => ∃ x' : X, w' = f x') (by kernel_rfl) (by kernel_rfl) (hSx.out _ (Ext.drewN wo 1)) ?_
      intro Q1 hQ1
      refine plan_quiet ?_
      simp only [sel, List.getElem?_toArray, List.getElem?_cons_zero, List.getElem?_cons_succ]
      repeat (go_big_quiet_step (fail))
      refine wpQuiet_nil ?_
      refine plan_alt ?_ ?_
      · skip
        intro Q2 hQ2
        simp only [sel, List.getElem?_toArray, List.getElem?_cons_zero, List.getElem?_cons_succ]
        go_wp2_with fail
        refine hQ2 _ _ (hSx.out _ ((Ext.drewN wo 1).trans (Ext.alloc _ _))) ?_
        intro Q3 hQ3
        simp only [sel, List.getElem?_toArray, List.getElem?_cons_zero, List.getElem?_cons_succ]
        go_wp2_with fail
        refine hQ3 _ _ (hSx.out _ (((Ext.drewN wo 1).trans (Ext.alloc _ _)).trans (Ext.alloc _ _))) ?_
        refine plan_act ?_
        intro Q4 hQ4
        simp only [sel, List.getElem?_toArray, List.getElem?_cons_zero, List.getElem?_cons_succ]
        obtain ⟨B, hB⟩ : ∃ B, wo.heap.size = B := ⟨_, rfl⟩
        obtain ⟨W1, hW1⟩ : ∃ W1, World.drew ((wo.alloc (.cells #[.int .i64 0, .slice none 0 0, .int .i64 0] 58)).alloc (.cells #[.int .i64 0, .slice none 0 0, .int .i64 0] 58)) = W1 := ⟨_, rfl⟩
        obtain ⟨hb6, hb7⟩ : W1.heap[wo.heap.size]? = some (.cells #[.int .i64 0, .slice none 0 0, .int .i64 0] 58 (0, 0)) ∧ W1.heap[wo.heap.size + 1]? = some (.cells #[.int .i64 0, .slice none 0 0, .int .i64 0] 58 (0, 0)) := by rw [← hW1]; exact two_blocks (Ext.drewN _ 1)
        have hE1 : Ext wo W1 := by rw [← hW1]; exact ((Ext.alloc wo _).trans (Ext.alloc _ _)).trans (Ext.drewN _ 1)
        rw [hW1]
        have hBle : wo.heap.size ≤ B := by omega
        rw [hB] at hb6 hb7 ⊢
        obtain ⟨c0, c1, c2⟩ := cells_three hb6
        obtain ⟨g0, g1, g2⟩ := cells3f hb6
        have hlP := lt_of_block hb6
        clear hW1 hB
        go_wp2_with fail
        have hgr := put3_grownBy W1 (B) 0 1 2 (.int .i64 id) (.slice va na1 ca1) (.int .i64 sure)
        have hP2 := at_setCell (at_setCell (at_setCell hb6 0 (.int .i64 id)) 1 (.slice va na1 ca1)) 2 (.int .i64 sure)
        simp only [List.setIfInBounds_toArray, List.set_cons_succ, List.set_cons_zero] at hP2
        have hQ2 := (hgr.block _ (lt_of_block hb7) (by simp)).trans hb7
        have hE2 := hE1.grown hgr (fun k e => by cases e; omega)
        obtain ⟨W2, hW2⟩ : ∃ W2, ((W1.setCell ⟨B, 0, none⟩ (.int .i64 id)).setCell ⟨B, 1, none⟩ (.slice va na1 ca1)).setCell ⟨B, 2, none⟩ (.int .i64 sure) = W2 := ⟨_, rfl⟩
        rw [hW2] at hP2 hQ2 hE2 ⊢
        clear hW2 hgr hE1 hb6 hb7 hlP c0 c1 c2 g0 g1 g2
        refine hQ4 _ _ (hSx.out _ hE2) ?_
        refine plan_tail ?_
        simp only [List.drop_succ_cons, List.drop_zero]
        obtain ⟨c0, c1, c2⟩ := cells_three hQ2
        obtain ⟨g0, g1, g2⟩ := cells3f hQ2
        have hlQ := lt_of_block hQ2
        go_upto_region 7 with fail
        have hgr := put3_grownBy W2 (B + 1) 0 1 2 (.int .i64 id) (.slice vb nb1 cb1) (.int .i64 sure)
        have hQ3 := at_setCell (at_setCell (at_setCell hQ2 0 (.int .i64 id)) 1 (.slice vb nb1 cb1)) 2 (.int .i64 sure)
        simp only [List.setIfInBounds_toArray, List.set_cons_succ, List.set_cons_zero] at hQ3
        have hP3 := (hgr.block _ (lt_of_block hP2) (by simp)).trans hP2
        have hE3 := hE2.grown hgr (fun k e => by cases e; omega)
        obtain ⟨W3, hW3⟩ : ∃ W3, ((W2.setCell ⟨B + 1, 0, none⟩ (.int .i64 id)).setCell ⟨B + 1, 1, none⟩ (.slice vb nb1 cb1)).setCell ⟨B + 1, 2, none⟩ (.int .i64 sure) = W3 := ⟨_, rfl⟩
        rw [hW3] at hP3 hQ3 hE3 ⊢
        clear hW3 hgr hE2 hP2 hQ2 hlQ c0 c1 c2 g0 g1 g2 uy uz up0 up1 up2 uq0 uq1 uq2 hSx hxS
        obtain ⟨c0, c1, c2⟩ := cells_three hP3
        obtain ⟨g0, g1, g2⟩ := cells_three hQ3
        have hlP := lt_of_block hP3
        have hlQ := lt_of_block hQ3
        go_wp2_with fail
        refine (hsm.out _ (hXw.trans hE3)).mono ?_
        rintro e w4 ⟨rfl, hx4⟩
        go_wp2_with fail
        go_roundw
        case rel => exact ⟨k + 1, by omega, by go_num, (hX.trans hE3).trans hx4⟩
        case measure => simp [intOf]; omega
      · skip
        intro Q2 hQ2
        simp only [sel, List.getElem?_toArray, List.getElem?_cons_zero, List.getElem?_cons_succ]
        go_wp2_with fail
        refine hQ2 _ _ (hSx.out _ ((Ext.drewN wo 1).trans (Ext.alloc _ _))) ?_
        intro Q3 hQ3
        simp only [sel, List.getElem?_toArray, List.getElem?_cons_zero, List.getElem?_cons_succ]
        go_wp2_with fail
        refine hQ3 _ _ (hSx.out _ (((Ext.drewN wo 1).trans (Ext.alloc _ _)).trans (Ext.alloc _ _))) ?_
        refine plan_act ?_
        intro Q4 hQ4
        simp only [sel, List.getElem?_toArray, List.getElem?_cons_zero, List.getElem?_cons_succ]
        obtain ⟨B, hB⟩ : ∃ B, wo.heap.size = B := ⟨_, rfl⟩
        obtain ⟨W1, hW1⟩ : ∃ W1, World.drew ((wo.alloc (.cells #[.int .i64 0, .slice none 0 0, .int .i64 0] 58)).alloc (.cells #[.int .i64 0, .slice none 0 0, .int .i64 0] 58)) = W1 := ⟨_, rfl⟩
        obtain ⟨hb6, hb7⟩ : W1.heap[wo.heap.size]? = some (.cells #[.int .i64 0, .slice none 0 0, .int .i64 0] 58 (0, 0)) ∧ W1.heap[wo.heap.size + 1]? = some (.cells #[.int .i64 0, .slice none 0 0, .int .i64 0] 58 (0, 0)) := by rw [← hW1]; exact two_blocks (Ext.drewN _ 1)
        have hE1 : Ext wo W1 := by rw [← hW1]; exact ((Ext.alloc wo _).trans (Ext.alloc _ _)).trans (Ext.drewN _ 1)
        rw [hW1]
        have hBle : wo.heap.size ≤ B := by omega
        rw [hB] at hb6 hb7 ⊢
        obtain ⟨c0, c1, c2⟩ := cells_three hb7
        obtain ⟨g0, g1, g2⟩ := cells3f hb7
        have hlP := lt_of_block hb7
        clear hW1 hB
        go_wp2_with fail
        have hgr := put3_grownBy W1 (B + 1) 0 1 2 (.int .i64 id) (.slice va na1 ca1) (.int .i64 sure)
        have hP2 := at_setCell (at_setCell (at_setCell hb7 0 (.int .i64 id)) 1 (.slice va na1 ca1)) 2 (.int .i64 sure)
        simp only [List.setIfInBounds_toArray, List.set_cons_succ, List.set_cons_zero] at hP2
        have hQ2 := (hgr.block _ (lt_of_block hb6) (by simp)).trans hb6
        have hE2 := hE1.grown hgr (fun k e => by cases e; omega)
        obtain ⟨W2, hW2⟩ : ∃ W2, ((W1.setCell ⟨B + 1, 0, none⟩ (.int .i64 id)).setCell ⟨B + 1, 1, none⟩ (.slice va na1 ca1)).setCell ⟨B + 1, 2, none⟩ (.int .i64 sure) = W2 := ⟨_, rfl⟩
        rw [hW2] at hP2 hQ2 hE2 ⊢
        clear hW2 hgr hE1 hb6 hb7 hlP c0 c1 c2 g0 g1 g2
        refine hQ4 _ _ (hSx.out _ hE2) ?_
        refine plan_tail ?_
        simp only [List.drop_succ_cons, List.drop_zero]
        obtain ⟨c0, c1, c2⟩ := cells_three hQ2
        obtain ⟨g0, g1, g2⟩ := cells3f hQ2
        have hlQ := lt_of_block hQ2
        go_upto_region 7 with fail
        have hgr := put3_grownBy W2 (B) 0 1 2 (.int .i64 id) (.slice vb nb1 cb1) (.int .i64 sure)
        have hQ3 := at_setCell (at_setCell (at_setCell hQ2 0 (.int .i64 id)) 1 (.slice vb nb1 cb1)) 2 (.int .i64 sure)
        simp only [List.setIfInBounds_toArray, List.set_cons_succ, List.set_cons_zero] at hQ3
        have hP3 := (hgr.block _ (lt_of_block hP2) (by simp)).trans hP2
        have hE3 := hE2.grown hgr (fun k e => by cases e; omega)
        obtain ⟨W3, hW3⟩ : ∃ W3, ((W2.setCell ⟨B, 0, none⟩ (.int .i64 id)).setCell ⟨B, 1, none⟩ (.slice vb nb1 cb1)).setCell ⟨B, 2, none⟩ (.int .i64 sure) = W3 := ⟨_, rfl⟩
        rw [hW3] at hP3 hQ3 hE3 ⊢
        clear hW3 hgr hE2 hP2 hQ2 hlQ c0 c1 c2 g0 g1 g2 uy uz up0 up1 up2 uq0 uq1 uq2 hSx hxS
        obtain ⟨c0, c1, c2⟩ := cells_three hP3
        obtain ⟨g0, g1, g2⟩ := cells_three hQ3
        have hlP := lt_of_block hP3
        have hlQ := lt_of_block hQ3
        go_wp2_with fail
        refine (hsm.out _ (hXw.trans hE3)).mono ?_
        rintro e w4 ⟨rfl, hx4⟩
        go_wp2_with fail
        go_roundw
        case rel => exact ⟨k + 1, by omega, by go_num, (hX.trans hE3).trans hx4⟩
        case measure => simp [intOf]; omega
    · obtain rfl : k = files.length := by omega
      go_wp2_with fail
      clear y0 y1 y2 y3 y4 y5 z0 z1 z2 z3 z4 z5
      go_loopw [8] (fun vi wr => ∃ m : Nat, m ≤ moves.length ∧ vi = .int .i64 m ∧ Ext wo wr) (fun vi _ => moves.length - (intOf vi).toNat)
      case atStart => exact ⟨0, Nat.zero_le _, rfl, Ext.refl _⟩
      case round =>
        obtain ⟨m, hm, rfl, hXm⟩ := hrel
        have hb4 := (hXm.block _ (lt_of_block hb3)).trans hb3
        have hc4 := (hXm.block _ (lt_of_block hc3)).trans hc3
        obtain ⟨⟨y0, y1, y2, y3, y4, y5⟩, _⟩ := cells_six hb4
        obtain ⟨⟨z0, z1, z2, z3, z4, z5⟩, _⟩ := cells_six hc4
        have hXv := hXw.trans hXm
        by_cases hlm : m < moves.length
        · obtain ⟨b0, o0, hfa, hca⟩ := moves_at hOh.out (by dsimp only; omega)
          obtain ⟨b1, o1, hfb, hcb⟩ := moves_at hO2h.out (by dsimp only; omega)
          dsimp only at hfa hfb hca hcb
          subst hfa hfb
          obtain ⟨p0, p1, p2, p3⟩ := hca m hlm
          obtain ⟨q0, q1, q2, q3⟩ := hcb m hlm
          obtain ⟨⟨kind, s, t, id⟩, hmk⟩ : ∃ y, moves[m] = y := ⟨_, rfl⟩
          rw [hmk] at p0 p1 p2 p3 q0 q1 q2 q3
          dsimp only at p0 p1 p2 p3 q0 q1 q2 q3
          replace p0 := hXv.cell p0
          replace p1 := hXv.cell p1
          replace p2 := hXv.cell p2
          replace p3 := hXv.cell p3
          replace q0 := hXv.cell q0
          replace q1 := hXv.cell q1
          replace q2 := hXv.cell q2
          replace q3 := hXv.cell q3
          clear hca hcb hmk hb2 hc2 hb3 hc3 hb4 hc4
          go_wp2_with fail
          go_region
          go_wp2_with fail
          go_roundw
          case rel => exact ⟨m + 1, by omega, by go_num, hXm.trans (Ext.drewN _ 1)⟩
          case measure => simp [intOf]; omega
        · obtain rfl : m = moves.length := by omega
          go_wp2_with fail
          go_ret
          exact ⟨rfl, hXv⟩
end Go.Proofs.Ytponbponacdhkaa

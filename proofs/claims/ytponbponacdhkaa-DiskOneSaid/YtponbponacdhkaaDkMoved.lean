/-
  Layer 6's contracts: a disk with one move more.
-/
import Derived.Test.YtponbponacdhkaaDkClone
namespace Go.Proofs.Ytponbponacdhkaa
open Go.RowKit

set_option maxRecDepth 100000 in
set_option maxHeartbeats 6400000 in
theorem moved_calls (D : Dk) (x : DV) (base : Nat) (kind : Int) (name dst : List UInt8) (id : Int) (M1 : List Nm) (w : World) (hO : OD w base x D) (hG : Good D) (hbase : base ≤ w.heap.size) (hd : doneN D.names ⟨kind, name, dst, id⟩ = some M1) :
    Calls Try.prog 25 #[dkv D x, .agg #[.int .i64 kind, .string ⟨name.toArray⟩, .string ⟨dst.toArray⟩, .int .i64 id]] w fun e w' => ∃ x2, e = .returned (dkv { D with names := M1, moves := D.moves ++ [⟨kind, name, dst, id⟩] } x2) ∧ OD w' base x2 { D with names := M1, moves := D.moves ++ [⟨kind, name, dst, id⟩] } ∧ Ext w w' := by
  obtain ⟨hbk, hmk, hrk⟩ := three_blocks (Ext.refl (((w.alloc (.cells (dcs D x) 29)).alloc (.cells #[.int .i64 kind, .string ⟨name.toArray⟩, .string ⟨dst.toArray⟩, .int .i64 id] 66)).alloc (.cells #[.int .i64 0, .slice none 0 0, .slice none 0 0, .slice none 0 0, .slice none 0 0, .int .i64 0] 29)))
  have hx0 : Ext w (((w.alloc (.cells (dcs D x) 29)).alloc (.cells #[.int .i64 kind, .string ⟨name.toArray⟩, .string ⟨dst.toArray⟩, .int .i64 id] 66)).alloc (.cells #[.int .i64 0, .slice none 0 0, .slice none 0 0, .slice none 0 0, .slice none 0 0, .int .i64 0] 29)) := ((Ext.alloc w _).trans (Ext.alloc _ _)).trans (Ext.alloc _ _)
  have hdn := Lib.hid (fun W (h : Ext w W) => done_calls x.na x.nn x.nc D.names M1 kind name dst id W ((slice_row hO.names).1.ext h) hG.risingN (by have := hG.names_len; have := hO.fn; omega) hd)
  have hmc := Lib.hid (fun W (h : Ext w W) => mclone_calls x.ma x.mn x.mc D.moves W (by have := hG.nm; have := hO.fn; omega) ((slice_row hO.moves).1.ext h))
  have hmn : Hid (D.moves.length = x.mn) := hO.fn.2.2.2.2.symm
  have hmnb : x.mn ≤ 5000 := by have := hG.nm; have := hO.fn; omega
  have hOh := Lib.hid hO
  clear hO hG hd
  unfold dkv at *
  unfold dcs at *
  obtain ⟨fa, fn, fc, fm, na, nn, nc0, ka, kn, kc, ma, mn, mc⟩ := x
  dsimp only at *
  have hmn' := hmn.out
  clear hmn
  subst hmn'
  obtain ⟨W0, hW0⟩ : ∃ W0, ((w.alloc (.cells #[.int .i64 D.quota, .slice fa fn fc, .slice na nn nc0, .slice ka kn kc, .slice ma D.moves.length mc, .int .i64 D.next] 29)).alloc (.cells #[.int .i64 kind, .string ⟨name.toArray⟩, .string ⟨dst.toArray⟩, .int .i64 id] 66)).alloc (.cells #[.int .i64 0, .slice none 0 0, .slice none 0 0, .slice none 0 0, .slice none 0 0, .int .i64 0] 29) = W0 := ⟨_, rfl⟩
  rw [hW0] at hx0 hbk hmk hrk
  obtain ⟨⟨y0, y1, y2, y3, y4, y5⟩, _⟩ := cells_six hbk
  obtain ⟨⟨m0, m1, m2, m3⟩, _⟩ := cells_four hmk
  go_enter Try.func25, Try.ntmps25
  go_wp2_with fail
  refine (hdn.out _ hx0).mono ?_
  rintro e w1 ⟨vn, rfl, hown1, hx1⟩
  obtain ⟨na2, nc2, rfl, _⟩ := Sl.of_owns hown1
  clear hW0 y0 y1 y2 y3 y4 y5 m0 m1 m2 m3
  have hX1 := hx0.trans hx1
  have hb1 := (hx1.block _ (lt_of_block hbk)).trans hbk
  have hm1 := (hx1.block _ (lt_of_block hmk)).trans hmk
  have hr1 := (hx1.block _ (lt_of_block hrk)).trans hrk
  obtain ⟨⟨y0, y1, y2, y3, y4, y5⟩, ⟨i0, i1, i2, i3, i4, i5⟩⟩ := cells_six hb1
  have hlb1 := lt_of_block hb1
  have hown1h := Lib.hid hown1
  have hs0 := hx0.size
  clear hown1
  go_upto_region 2 with fail
  have hgp2 := put_grownBy w1 w.heap.size 2 (.slice na2 M1.length nc2)
  have hb3 := at_setCell hb1 2 (.slice na2 M1.length nc2)
  simp only [List.setIfInBounds_toArray, List.set_cons_succ, List.set_cons_zero] at hb3
  have hm3 := (hgp2.block _ (lt_of_block hm1) (by simp)).trans hm1
  have hr3 := (hgp2.block _ (lt_of_block hr1) (by simp; omega)).trans hr1
  have hnm3 : Hid (ORow nc 2 (w1.setCell ⟨w.heap.size, 2, none⟩ (.slice na2 M1.length nc2)) w.heap.size 81 (.slice na2 M1.length nc2) M1) := owns_beside (owns_mono hown1h.out hs0) (owns_other hown1h.out hb1 (by decide)) hgp2
  have hX3 := hX1.grown hgp2 (fun k e => by cases e; exact Nat.le_refl _)
  obtain ⟨W3, hW3⟩ : ∃ W3, w1.setCell ⟨w.heap.size, 2, none⟩ (.slice na2 M1.length nc2) = W3 := ⟨_, rfl⟩
  rw [hW3] at hb3 hm3 hr3 hnm3 hX3 ⊢
  have hW3s := hX3.size
  clear hW3 hgp2 hb1 hm1 hr1 y0 y1 y2 y3 y4 y5 i0 i1 i2 i3 i4 i5 hown1h hlb1 hx1 hX1 hbk hmk hrk
  have hcl := Lib.hid (fun W (h : Ext W3 W) => hmc.out W (hX3.trans h))
  obtain ⟨⟨y0, y1, y2, y3, y4, y5⟩, _⟩ := cells_six hb3
  obtain ⟨⟨m0, m1, m2, m3⟩, _⟩ := cells_four hm3
  obtain ⟨X, iX, f, hxS0, hSx0⟩ := letters (fun w' => Ext W3 w') W3 (Ext.refl W3)
  have hxS := Lib.hid hxS0
  have hSx := Lib.hid hSx0
  clear hxS0 hSx0
  have u4 : ∀ x', (f x').cell? ⟨w.heap.size, 4, none⟩ = some (.slice ma D.moves.length mc) := fun x' => (hxS.out x').cell y4
  have t0 : ∀ x', (f x').cell? ⟨w.heap.size + 1, 0, none⟩ = some (.int .i64 kind) := fun x' => (hxS.out x').cell m0
  have t1 : ∀ x', (f x').cell? ⟨w.heap.size + 1, 1, none⟩ = some (.string ⟨name.toArray⟩) := fun x' => (hxS.out x').cell m1
  have t2 : ∀ x', (f x').cell? ⟨w.heap.size + 1, 2, none⟩ = some (.string ⟨dst.toArray⟩) := fun x' => (hxS.out x').cell m2
  have t3 : ∀ x', (f x').cell? ⟨w.heap.size + 1, 3, none⟩ = some (.int .i64 id) := fun x' => (hxS.out x').cell m3
  refine region_plan 6 [.quiet [0, 1, 3], .alt 2 4, .act 5] (fun w' => ∃ x' : X, w' = f x') (by kernel_rfl) (by kernel_rfl) (hSx.out _ (Ext.drewN W3 1)) ?_
  intro Q1 hQ1
  refine plan_quiet ?_
  simp only [sel, List.getElem?_toArray, List.getElem?_cons_zero, List.getElem?_cons_succ]
  repeat (go_big_quiet_step (fail))
  refine wpQuiet_nil ?_
  clear u4 t0 t1 t2 t3 y0 y1 y2 y3 y4 y5 m0 m1 m2 m3
  refine plan_alt ?_ ?_
  · intro Q2 hQ2
    simp only [sel, List.getElem?_toArray, List.getElem?_cons_zero, List.getElem?_cons_succ]
    go_wp2_with fail
    refine (hcl.out _ (Ext.drewN W3 1)).mono ?_
    rintro e z1 ⟨vm, rfl, hownm, hzz1⟩
    have hZ1 := ((Ext.drewN W3 1)).trans hzz1
    obtain ⟨am, cm, rfl, _⟩ := Sl.of_owns hownm
    go_wp2_with fail
    refine hQ2 _ _ (hSx.out _ hZ1) ?_
    intro Q3 hQ3
    simp only [sel, List.getElem?_toArray, List.getElem?_cons_zero, List.getElem?_cons_succ]
    have hXA := hZ1.trans (Ext.alloc z1 (.cells #[.int .i64 kind, .string ⟨name.toArray⟩, .string ⟨dst.toArray⟩, .int .i64 id] 66))
    have hownA : Hid ((z1.alloc (.cells #[.int .i64 kind, .string ⟨name.toArray⟩, .string ⟨dst.toArray⟩, .int .i64 id] 66)).ownsRow W3.heap.size 66 4 (.slice am D.moves.length cm) D.moves.length (rcells mcl D.moves)) := owns_ext hownm (Ext.alloc z1 (.cells #[.int .i64 kind, .string ⟨name.toArray⟩, .string ⟨dst.toArray⟩, .int .i64 id] 66))
    have hsrc : Hid (Sl (z1.alloc (.cells #[.int .i64 kind, .string ⟨name.toArray⟩, .string ⟨dst.toArray⟩, .int .i64 id] 66)) (some ⟨z1.heap.size, 0, none⟩) 1 1 4 (mcl ⟨kind, name, dst, id⟩)) := sl_block (heap_alloc_new z1 _) rfl (by decide)
    go_wp2_with fail
    refine hQ3 _ _ (hSx.out _ hXA) ?_
    have hz3 : Hid (W3.heap.size ≤ (z1.alloc (.cells #[.int .i64 kind, .string ⟨name.toArray⟩, .string ⟨dst.toArray⟩, .int .i64 id] 66)).heap.size) := hXA.size
    clear hownm
    have hz1 : Hid ((D.moves.length + 1) * 48 ≤ 140737488355328) := by show _ ≤ _; omega
    have hz2 : Hid (D.moves.length + 1 ≤ maxLen) := by show _ ≤ _; unfold maxLen; omega
    refine plan_act ?_
    intro Q5 hQ5
    simp only [sel, List.getElem?_toArray, List.getElem?_cons_zero, List.getElem?_cons_succ]
    go_wp2_with (at_builtin; refine wpList_append_sl_at rfl _ _ 27 rfl W3.heap.size 66 Try.underlying27 infoMv rfl (by decide) _ _ _ rfl hownA.out _ _ _ (mcl ⟨kind, name, dst, id⟩) rfl hsrc.out (by intro u hu; simp [mcl] at hu; rcases hu with rfl | rfl | rfl | rfl <;> rfl) hz1.out hz2.out hz3.out ?_; intro v8 w8 hown8 hgrow8 hat8; obtain ⟨a8, c8, hv8, _⟩ := Sl.of_owns hown8; subst hv8)
    have hX8 := hXA.grown hgrow8 (fun k e => owns_row hownA.out k e)
    refine hQ5 _ _ (hSx.out _ hX8) ?_
    refine plan_tail ?_
    simp only [List.drop_succ_cons, List.drop_zero]
    have hb8 := (hX8.block _ (lt_of_block hb3)).trans hb3
    have hr8 := (hX8.block _ (lt_of_block hr3)).trans hr3
    obtain ⟨⟨p0, p1, p2, p3, p4, p5⟩, ⟨f0, f1, f2, f3, f4, f5⟩⟩ := cells_six hb8
    obtain ⟨⟨s0, s1, s2, s3, s4, s5⟩, ⟨g0, g1, g2, g3, g4, g5⟩⟩ := cells_six hr8
    have hlb8 := lt_of_block hb8
    have hlr8 := lt_of_block hr8
    go_upto_region 3 with fail
    have hgp := put_grownBy w8 w.heap.size 4 (.slice a8 (D.moves.length + 1) c8)
    have hb9 := at_setCell hb8 4 (.slice a8 (D.moves.length + 1) c8)
    simp only [List.setIfInBounds_toArray, List.set_cons_succ, List.set_cons_zero] at hb9
    have hr9 := (hgp.block _ hlr8 (by simp; omega)).trans hr8
    have hnm9 : ORow nc 2 (w8.setCell ⟨w.heap.size, 4, none⟩ (.slice a8 (D.moves.length + 1) c8)) w.heap.size 81 (.slice na2 M1.length nc2) M1 := owns_beside (hnm3.out.ext hX8) (owns_other (hnm3.out.ext hX8) hb8 (by decide)) hgp
    have hmv9 : ORow mcl 4 (w8.setCell ⟨w.heap.size, 4, none⟩ (.slice a8 (D.moves.length + 1) c8)) w.heap.size 66 (.slice a8 (D.moves.length + 1) c8) (D.moves ++ [⟨kind, name, dst, id⟩]) := by
      refine owns_beside ?_ (owns_other (hown8 : w8.ownsRow _ _ _ _ _ _) hb8 (by decide)) hgp
      refine owns_mono ?_ hW3s
      rw [List.length_append, rcells_append, show rcells mcl [(⟨kind, name, dst, id⟩ : Mv)] = mcl ⟨kind, name, dst, id⟩ by simp [rcells]]
      exact hown8
    have hX9 := (hX3.trans hX8).grown hgp (fun k e => by cases e; exact Nat.le_refl _)
    obtain ⟨w9, hw9⟩ : ∃ w9, w8.setCell ⟨w.heap.size, 4, none⟩ (.slice a8 (D.moves.length + 1) c8) = w9 := ⟨_, rfl⟩
    rw [hw9] at hb9 hr9 hnm9 hmv9 hX9 ⊢
    have hnm9h := Lib.hid hnm9
    have hmv9h := Lib.hid hmv9
    clear hw9 hnm9 hmv9 hgp hb8 hr8 p0 p1 p2 p3 p4 p5 f0 f1 f2 f3 f4 f5 s0 s1 s2 s3 s4 s5 g0 g1 g2 g3 g4 g5 hlb8 hlr8 hX8 hown8 hgrow8 hat8 hsrc hownA hXA hz1 hz2 hz3
    obtain ⟨⟨p0, p1, p2, p3, p4, p5⟩, ⟨f0, f1, f2, f3, f4, f5⟩⟩ := cells_six hb9
    obtain ⟨⟨s0, s1, s2, s3, s4, s5⟩, ⟨g0, g1, g2, g3, g4, g5⟩⟩ := cells_six hr9
    have hlb9 := lt_of_block hb9
    have hlr9 := lt_of_block hr9
    go_wp2_with fail
    have hw10 : put6 w9 (w.heap.size + 1 + 1) (.int .i64 D.quota) (.slice fa fn fc) (.slice na2 M1.length nc2) (.slice ka kn kc) (.slice a8 (D.moves.length + 1) c8) (.int .i64 D.next) = (((((w9.setCell ⟨w.heap.size + 1 + 1, 0, none⟩ (.int .i64 D.quota)).setCell ⟨w.heap.size + 1 + 1, 1, none⟩ (.slice fa fn fc)).setCell ⟨w.heap.size + 1 + 1, 2, none⟩ (.slice na2 M1.length nc2)).setCell ⟨w.heap.size + 1 + 1, 3, none⟩ (.slice ka kn kc)).setCell ⟨w.heap.size + 1 + 1, 4, none⟩ (.slice a8 (D.moves.length + 1) c8)).setCell ⟨w.heap.size + 1 + 1, 5, none⟩ (.int .i64 D.next) := rfl
    have hg10 := put6_grownBy w9 (w.heap.size + 1 + 1) (.int .i64 D.quota) (.slice fa fn fc) (.slice na2 M1.length nc2) (.slice ka kn kc) (.slice a8 (D.moves.length + 1) c8) (.int .i64 D.next)
    have hh10 := put6_block hr9 (.int .i64 D.quota) (.slice fa fn fc) (.slice na2 M1.length nc2) (.slice ka kn kc) (.slice a8 (D.moves.length + 1) c8) (.int .i64 D.next)
    rw [← hw10]
    obtain ⟨w10, hw10e⟩ : ∃ w10, put6 w9 (w.heap.size + 1 + 1) (.int .i64 D.quota) (.slice fa fn fc) (.slice na2 M1.length nc2) (.slice ka kn kc) (.slice a8 (D.moves.length + 1) c8) (.int .i64 D.next) = w10 := ⟨_, rfl⟩
    rw [hw10e] at hg10 hh10 ⊢
    obtain ⟨⟨q0, q1, q2, q3, q4, q5⟩, _⟩ := cells_six hh10
    refine bodyPost_ret (v := .agg #[.int .i64 D.quota, .slice fa fn fc, .slice na2 M1.length nc2, .slice ka kn kc, .slice a8 (D.moves.length + 1) c8, .int .i64 D.next]) (by simp [results, Try.results25, go_sem, q0, q1, q2, q3, q4, q5]) rfl ?_
    have hX10 := hX9.grown hg10 (fun k e => by cases e; omega)
    have hO10 := hOh.out.ext hX10
    exact ⟨⟨fa, fn, fc, fm, na2, M1.length, nc2, ka, kn, kc, a8, D.moves.length + 1, c8⟩, rfl, ⟨hO10.files, hO10.fm, hO10.bytes, owns_mono (owns_beside hnm9h.out (owns_other hnm9h.out hr9 (by decide)) hg10) hbase, hO10.kept, owns_mono (owns_beside hmv9h.out (owns_other hmv9h.out hr9 (by decide)) hg10) hbase⟩, hX10⟩
  · intro Q2 hQ2
    simp only [sel, List.getElem?_toArray, List.getElem?_cons_zero, List.getElem?_cons_succ]
    have hZ1 : Ext W3 ((W3.alloc (.cells #[.int .i64 kind, .string ⟨name.toArray⟩, .string ⟨dst.toArray⟩, .int .i64 id] 66)).drew) := (Ext.alloc W3 _).trans (Ext.drewN _ 1)
    go_wp2_with fail
    refine hQ2 _ _ (hSx.out _ hZ1) ?_
    intro Q3 hQ3
    simp only [sel, List.getElem?_toArray, List.getElem?_cons_zero, List.getElem?_cons_succ]
    go_wp2_with fail
    refine (hcl.out _ hZ1).mono ?_
    rintro e z1 ⟨vm, rfl, hownm, hzz1⟩
    have hXA := (hZ1).trans hzz1
    obtain ⟨am, cm, rfl, _⟩ := Sl.of_owns hownm
    go_wp2_with fail
    refine hQ3 _ _ (hSx.out _ hXA) ?_
    have hownA : Hid (z1.ownsRow W3.heap.size 66 4 (.slice am D.moves.length cm) D.moves.length (rcells mcl D.moves)) := owns_mono hownm (by simp)
    have hsrc : Hid (Sl z1 (some ⟨W3.heap.size, 0, none⟩) 1 1 4 (mcl ⟨kind, name, dst, id⟩)) := (sl_block (heap_alloc_new W3 _) rfl (by decide) : Sl (W3.alloc (.cells #[.int .i64 kind, .string ⟨name.toArray⟩, .string ⟨dst.toArray⟩, .int .i64 id] 66)) _ _ _ _ _).ext ((Ext.drewN _ 1).trans hzz1)
    have hz3 : Hid (W3.heap.size ≤ z1.heap.size) := hXA.size
    clear hownm
    have hz1 : Hid ((D.moves.length + 1) * 48 ≤ 140737488355328) := by show _ ≤ _; omega
    have hz2 : Hid (D.moves.length + 1 ≤ maxLen) := by show _ ≤ _; unfold maxLen; omega
    refine plan_act ?_
    intro Q5 hQ5
    simp only [sel, List.getElem?_toArray, List.getElem?_cons_zero, List.getElem?_cons_succ]
    go_wp2_with (at_builtin; refine wpList_append_sl_at rfl _ _ 27 rfl W3.heap.size 66 Try.underlying27 infoMv rfl (by decide) _ _ _ rfl hownA.out _ _ _ (mcl ⟨kind, name, dst, id⟩) rfl hsrc.out (by intro u hu; simp [mcl] at hu; rcases hu with rfl | rfl | rfl | rfl <;> rfl) hz1.out hz2.out hz3.out ?_; intro v8 w8 hown8 hgrow8 hat8; obtain ⟨a8, c8, hv8, _⟩ := Sl.of_owns hown8; subst hv8)
    have hX8 := hXA.grown hgrow8 (fun k e => owns_row hownA.out k e)
    refine hQ5 _ _ (hSx.out _ hX8) ?_
    refine plan_tail ?_
    simp only [List.drop_succ_cons, List.drop_zero]
    have hb8 := (hX8.block _ (lt_of_block hb3)).trans hb3
    have hr8 := (hX8.block _ (lt_of_block hr3)).trans hr3
    obtain ⟨⟨p0, p1, p2, p3, p4, p5⟩, ⟨f0, f1, f2, f3, f4, f5⟩⟩ := cells_six hb8
    obtain ⟨⟨s0, s1, s2, s3, s4, s5⟩, ⟨g0, g1, g2, g3, g4, g5⟩⟩ := cells_six hr8
    have hlb8 := lt_of_block hb8
    have hlr8 := lt_of_block hr8
    go_upto_region 3 with fail
    have hgp := put_grownBy w8 w.heap.size 4 (.slice a8 (D.moves.length + 1) c8)
    have hb9 := at_setCell hb8 4 (.slice a8 (D.moves.length + 1) c8)
    simp only [List.setIfInBounds_toArray, List.set_cons_succ, List.set_cons_zero] at hb9
    have hr9 := (hgp.block _ hlr8 (by simp; omega)).trans hr8
    have hnm9 : ORow nc 2 (w8.setCell ⟨w.heap.size, 4, none⟩ (.slice a8 (D.moves.length + 1) c8)) w.heap.size 81 (.slice na2 M1.length nc2) M1 := owns_beside (hnm3.out.ext hX8) (owns_other (hnm3.out.ext hX8) hb8 (by decide)) hgp
    have hmv9 : ORow mcl 4 (w8.setCell ⟨w.heap.size, 4, none⟩ (.slice a8 (D.moves.length + 1) c8)) w.heap.size 66 (.slice a8 (D.moves.length + 1) c8) (D.moves ++ [⟨kind, name, dst, id⟩]) := by
      refine owns_beside ?_ (owns_other (hown8 : w8.ownsRow _ _ _ _ _ _) hb8 (by decide)) hgp
      refine owns_mono ?_ hW3s
      rw [List.length_append, rcells_append, show rcells mcl [(⟨kind, name, dst, id⟩ : Mv)] = mcl ⟨kind, name, dst, id⟩ by simp [rcells]]
      exact hown8
    have hX9 := (hX3.trans hX8).grown hgp (fun k e => by cases e; exact Nat.le_refl _)
    obtain ⟨w9, hw9⟩ : ∃ w9, w8.setCell ⟨w.heap.size, 4, none⟩ (.slice a8 (D.moves.length + 1) c8) = w9 := ⟨_, rfl⟩
    rw [hw9] at hb9 hr9 hnm9 hmv9 hX9 ⊢
    have hnm9h := Lib.hid hnm9
    have hmv9h := Lib.hid hmv9
    clear hw9 hnm9 hmv9 hgp hb8 hr8 p0 p1 p2 p3 p4 p5 f0 f1 f2 f3 f4 f5 s0 s1 s2 s3 s4 s5 g0 g1 g2 g3 g4 g5 hlb8 hlr8 hX8 hown8 hgrow8 hat8 hsrc hownA hXA hz1 hz2 hz3
    obtain ⟨⟨p0, p1, p2, p3, p4, p5⟩, ⟨f0, f1, f2, f3, f4, f5⟩⟩ := cells_six hb9
    obtain ⟨⟨s0, s1, s2, s3, s4, s5⟩, ⟨g0, g1, g2, g3, g4, g5⟩⟩ := cells_six hr9
    have hlb9 := lt_of_block hb9
    have hlr9 := lt_of_block hr9
    go_wp2_with fail
    have hw10 : put6 w9 (w.heap.size + 1 + 1) (.int .i64 D.quota) (.slice fa fn fc) (.slice na2 M1.length nc2) (.slice ka kn kc) (.slice a8 (D.moves.length + 1) c8) (.int .i64 D.next) = (((((w9.setCell ⟨w.heap.size + 1 + 1, 0, none⟩ (.int .i64 D.quota)).setCell ⟨w.heap.size + 1 + 1, 1, none⟩ (.slice fa fn fc)).setCell ⟨w.heap.size + 1 + 1, 2, none⟩ (.slice na2 M1.length nc2)).setCell ⟨w.heap.size + 1 + 1, 3, none⟩ (.slice ka kn kc)).setCell ⟨w.heap.size + 1 + 1, 4, none⟩ (.slice a8 (D.moves.length + 1) c8)).setCell ⟨w.heap.size + 1 + 1, 5, none⟩ (.int .i64 D.next) := rfl
    have hg10 := put6_grownBy w9 (w.heap.size + 1 + 1) (.int .i64 D.quota) (.slice fa fn fc) (.slice na2 M1.length nc2) (.slice ka kn kc) (.slice a8 (D.moves.length + 1) c8) (.int .i64 D.next)
    have hh10 := put6_block hr9 (.int .i64 D.quota) (.slice fa fn fc) (.slice na2 M1.length nc2) (.slice ka kn kc) (.slice a8 (D.moves.length + 1) c8) (.int .i64 D.next)
    rw [← hw10]
    obtain ⟨w10, hw10e⟩ : ∃ w10, put6 w9 (w.heap.size + 1 + 1) (.int .i64 D.quota) (.slice fa fn fc) (.slice na2 M1.length nc2) (.slice ka kn kc) (.slice a8 (D.moves.length + 1) c8) (.int .i64 D.next) = w10 := ⟨_, rfl⟩
    rw [hw10e] at hg10 hh10 ⊢
    obtain ⟨⟨q0, q1, q2, q3, q4, q5⟩, _⟩ := cells_six hh10
    refine bodyPost_ret (v := .agg #[.int .i64 D.quota, .slice fa fn fc, .slice na2 M1.length nc2, .slice ka kn kc, .slice a8 (D.moves.length + 1) c8, .int .i64 D.next]) (by simp [results, Try.results25, go_sem, q0, q1, q2, q3, q4, q5]) rfl ?_
    have hX10 := hX9.grown hg10 (fun k e => by cases e; omega)
    have hO10 := hOh.out.ext hX10
    exact ⟨⟨fa, fn, fc, fm, na2, M1.length, nc2, ka, kn, kc, a8, D.moves.length + 1, c8⟩, rfl, ⟨hO10.files, hO10.fm, hO10.bytes, owns_mono (owns_beside hnm9h.out (owns_other hnm9h.out hr9 (by decide)) hg10) hbase, hO10.kept, owns_mono (owns_beside hmv9h.out (owns_other hmv9h.out hr9 (by decide)) hg10) hbase⟩, hX10⟩
end Go.Proofs.Ytponbponacdhkaa

/-
  Layer 6's contracts: a disk whose file at a place is another one.
-/
import Derived.Test.YtponbponacdhkaaDkRemove
namespace Go.Proofs.Ytponbponacdhkaa
open Go.RowKit

theorem orow_set3 {w : World} {base g c : Nat} {M : List Fh} (h : ORow fcl 3 w base 58 (.slice (some ⟨g, 0, none⟩) M.length c) M) {t : Nat} (ht : t < M.length) (x : Fh) :
    ORow fcl 3 (((w.setCell ⟨g, t * 3, none⟩ (.int .i64 x.1.id)).setCell ⟨g, t * 3 + 1, none⟩ (.slice x.2.1 x.2.2.1 x.2.2.2)).setCell ⟨g, t * 3 + 2, none⟩ (.int .i64 x.1.sure)) base 58 (.slice (some ⟨g, 0, none⟩) M.length c) (M.set t x) := by
  obtain ⟨⟨⟨id0, b0, s0⟩, h0⟩, hx0⟩ : ∃ y, M[t] = y := ⟨_, rfl⟩
  have h1 := (World.ownsRow.stored h (t * 3) (.int .i64 x.1.id)).1
  have e1 := rcells_set fcl 3 fcl_len M t ht 0 (.int .i64 x.1.id) (⟨x.1.id, b0, s0⟩, h0) (by decide) (by rw [hx0]; rfl)
  rw [Nat.add_zero] at e1
  rw [e1] at h1
  have h2 := (World.ownsRow.stored h1 (t * 3 + 1) (.slice x.2.1 x.2.2.1 x.2.2.2)).1
  rw [rcells_set fcl 3 fcl_len (M.set t (⟨x.1.id, b0, s0⟩, h0)) t (by rw [List.length_set]; exact ht) 1 (.slice x.2.1 x.2.2.1 x.2.2.2) (⟨x.1.id, x.1.bytes, s0⟩, x.2) (by decide) (by rw [List.getElem_set_self]; rfl), List.set_set] at h2
  have h3 := (World.ownsRow.stored h2 (t * 3 + 2) (.int .i64 x.1.sure)).1
  rw [rcells_set fcl 3 fcl_len (M.set t (⟨x.1.id, x.1.bytes, s0⟩, x.2)) t (by rw [List.length_set]; exact ht) 2 (.int .i64 x.1.sure) x (by decide) (by rw [List.getElem_set_self]; rfl), List.set_set] at h3
  unfold ORow
  rw [List.length_set]
  exact h3
theorem put3_grownBy (w : World) (b k0 k1 k2 : Nat) (u0 u1 u2 : Value) : w.grownBy (((w.setCell ⟨b, k0, none⟩ u0).setCell ⟨b, k1, none⟩ u1).setCell ⟨b, k2, none⟩ u2) (some b) :=
  grownBy_trans (grownBy_trans (put_grownBy w b k0 u0) (put_grownBy _ b k1 u1)) (put_grownBy _ b k2 u2)
theorem frozen_row {w : World} {b : Nat} {cs : Array Value} {e : TypeId} (h : w.heap[b]? = some (.cells cs e (0, 0))) (k : Nat) : w.frozen? ⟨b, k, none⟩ = false := by simp [World.frozen?, h]

set_option maxRecDepth 100000 in
set_option maxHeartbeats 6400000 in
theorem set_calls (D : Dk) (x : DV) (base : Nat) (t : Nat) (y : Fh) (w : World) (hO : OD w base x D) (hG : Good D) (hbase : base ≤ w.heap.size) (ht : t < D.files.length) (hy : Own w base 5 (.slice y.2.1 y.2.2.1 y.2.2.2) y.1.bytes) :
    Calls Try.prog 28 #[dkv D x, .int .i64 t, .agg #[.int .i64 y.1.id, .slice y.2.1 y.2.2.1 y.2.2.2, .int .i64 y.1.sure]] w fun e w' => ∃ x2, e = .returned (dkv { D with files := D.files.set t y.1 } x2) ∧ OD w' base x2 { D with files := D.files.set t y.1 } ∧ Ext w w' := by
  obtain ⟨⟨id, bys, su⟩, pa, pn, pc⟩ := y
  dsimp only at *
  obtain ⟨hbk, hfk, hrk⟩ := three_blocks (Ext.refl (((w.alloc (.cells (dcs D x) 29)).alloc (.cells #[.int .i64 id, .slice pa pn pc, .int .i64 su] 58)).alloc (.cells #[.int .i64 0, .slice none 0 0, .slice none 0 0, .slice none 0 0, .slice none 0 0, .int .i64 0] 29)))
  have hx0 : Ext w (((w.alloc (.cells (dcs D x) 29)).alloc (.cells #[.int .i64 id, .slice pa pn pc, .int .i64 su] 58)).alloc (.cells #[.int .i64 0, .slice none 0 0, .slice none 0 0, .slice none 0 0, .slice none 0 0, .int .i64 0] 29)) := ((Ext.alloc w _).trans (Ext.alloc _ _)).trans (Ext.alloc _ _)
  have hfl : x.fm.length = x.fn := hO.fn.2.1
  have hcl := Lib.hid (fun W (h : Ext w W) => fclone_calls x.fa x.fn x.fc x.fm W (by have := hG.nf; have := hO.fn; omega) ((slice_row hO.files).1.ext h))
  have htm : t < x.fm.length := by have := hO.fn; omega
  have hOh := Lib.hid hO
  have hyh := Lib.hid hy
  clear hO hG hy
  unfold dkv at *
  unfold dcs at *
  obtain ⟨fa, fn, fc, fm, na, nn, nc0, ka, kn, kc, ma, mn, mc⟩ := x
  dsimp only at *
  subst hfl
  obtain ⟨W0, hW0⟩ : ∃ W0, ((w.alloc (.cells #[.int .i64 D.quota, .slice fa fm.length fc, .slice na nn nc0, .slice ka kn kc, .slice ma mn mc, .int .i64 D.next] 29)).alloc (.cells #[.int .i64 id, .slice pa pn pc, .int .i64 su] 58)).alloc (.cells #[.int .i64 0, .slice none 0 0, .slice none 0 0, .slice none 0 0, .slice none 0 0, .int .i64 0] 29) = W0 := ⟨_, rfl⟩
  rw [hW0] at hx0 hbk hfk hrk
  obtain ⟨⟨y0, y1, y2, y3, y4, y5⟩, _⟩ := cells_six hbk
  go_enter Try.func28, Try.ntmps28
  go_wp2_with fail
  refine (hcl.out _ hx0).mono ?_
  rintro e w1 ⟨v, rfl, hown, hx1⟩
  obtain ⟨g, cap, cur, rfl, hg⟩ := own_block hown (by omega)
  clear hW0 y0 y1 y2 y3 y4 y5
  have hX1 := hx0.trans hx1
  have hb1 := (hx1.block _ (lt_of_block hbk)).trans hbk
  have hf1 := (hx1.block _ (lt_of_block hfk)).trans hfk
  have hr1 := (hx1.block _ (lt_of_block hrk)).trans hrk
  obtain ⟨⟨y0, y1, y2, y3, y4, y5⟩, ⟨i0, i1, i2, i3, i4, i5⟩⟩ := cells_six hb1
  have hlb1 := lt_of_block hb1
  have hs0 := hx0.size
  have hownh := Lib.hid hown
  clear hown
  go_upto_region 2 with fail
  have hgp := put_grownBy w1 w.heap.size 1 (.slice (some ⟨g, 0, none⟩) fm.length cap)
  have hb2 := at_setCell hb1 1 (.slice (some ⟨g, 0, none⟩) fm.length cap)
  simp only [List.setIfInBounds_toArray, List.set_cons_succ, List.set_cons_zero] at hb2
  have hf2 := (hgp.block _ (lt_of_block hf1) (by simp)).trans hf1
  have hr2 := (hgp.block _ (lt_of_block hr1) (by simp; omega)).trans hr1
  have hgne : g ≠ w.heap.size := fun e => by rw [e, hb1] at hg; cases hg
  have hg2 := (hgp.block _ (lt_of_block hg) (by simp; omega)).trans hg
  have hown2 : Hid (ORow fcl 3 (w1.setCell ⟨w.heap.size, 1, none⟩ (.slice (some ⟨g, 0, none⟩) fm.length cap)) w.heap.size 58 (.slice (some ⟨g, 0, none⟩) fm.length cap) fm) := owns_beside (owns_mono hownh.out hs0) (owns_other hownh.out hb1 (by decide)) hgp
  have hX2 := hX1.grown hgp (fun k e => by cases e; exact Nat.le_refl _)
  obtain ⟨w2, hw2⟩ : ∃ w2, w1.setCell ⟨w.heap.size, 1, none⟩ (.slice (some ⟨g, 0, none⟩) fm.length cap) = w2 := ⟨_, rfl⟩
  rw [hw2] at hb2 hf2 hr2 hg2 hown2 hX2 ⊢
  clear hw2 hgp hb1 hf1 hr1 y0 y1 y2 y3 y4 y5 i0 i1 i2 i3 i4 i5 hownh hlb1 hx1 hX1 hbk hfk hrk hg
  obtain ⟨⟨y0, y1, y2, y3, y4, y5⟩, _⟩ := cells_six hb2
  obtain ⟨f0, f1, f2⟩ := cells_three hf2
  have d0 := own_cell fcl_len hown2.out t htm 0 _ rfl
  have d1 := own_cell fcl_len hown2.out t htm 1 _ rfl
  have d2 := own_cell fcl_len hown2.out t htm 2 _ rfl
  rw [Nat.add_zero] at d0
  have z0 := frozen_row hg2 (t * 3)
  have z1 := frozen_row hg2 (t * 3 + 1)
  have z2 := frozen_row hg2 (t * 3 + 2)
  have hlg := lt_of_block hg2
  have hlb := lt_of_block hb2
  go_upto_region 3 with fail
  have hgr := put3_grownBy w2 g (t * 3) (t * 3 + 1) (t * 3 + 2) (.int .i64 id) (.slice pa pn pc) (.int .i64 su)
  have hown3 := orow_set3 hown2.out htm (⟨id, bys, su⟩, (pa, pn, pc))
  dsimp only at hown3
  have hgw : w.heap.size ≤ g := owns_row hown2.out g rfl
  have hb3 := (hgr.block _ hlb (by simp; omega)).trans hb2
  have hgne2 : g ≠ w.heap.size + 1 + 1 := fun e => by rw [e, hr2] at hg2; cases hg2
  have hr3 := (hgr.block _ (lt_of_block hr2) (by simp; omega)).trans hr2
  have hX3 := hX2.grown hgr (fun k e => by cases e; exact hgw)
  obtain ⟨w3, hw3⟩ : ∃ w3, ((w2.setCell ⟨g, t * 3, none⟩ (.int .i64 id)).setCell ⟨g, t * 3 + 1, none⟩ (.slice pa pn pc)).setCell ⟨g, t * 3 + 2, none⟩ (.int .i64 su) = w3 := ⟨_, rfl⟩
  rw [hw3] at hgr hown3 hb3 hr3 hX3 ⊢
  have hown3h := Lib.hid hown3
  clear hw3 hown3 hgr y0 y1 y2 y3 y4 y5 f0 f1 f2 d0 d1 d2 z0 z1 z2 hlg hlb
  obtain ⟨⟨y0, y1, y2, y3, y4, y5⟩, _⟩ := cells_six hb3
  obtain ⟨⟨s0, s1, s2, s3, s4, s5⟩, ⟨g0, g1, g2', g3, g4, g5⟩⟩ := cells_six hr3
  have hlb := lt_of_block hb3
  have hlr := lt_of_block hr3
  go_wp2_with fail
  have hwq : put6 w3 (w.heap.size + 1 + 1) (.int .i64 D.quota) (.slice (some ⟨g, 0, none⟩) fm.length cap) (.slice na nn nc0) (.slice ka kn kc) (.slice ma mn mc) (.int .i64 D.next) = ((((((w3.setCell ⟨w.heap.size + 1 + 1, 0, none⟩ (.int .i64 D.quota)).setCell ⟨w.heap.size + 1 + 1, 1, none⟩ (.slice (some ⟨g, 0, none⟩) fm.length cap)).setCell ⟨w.heap.size + 1 + 1, 2, none⟩ (.slice na nn nc0)).setCell ⟨w.heap.size + 1 + 1, 3, none⟩ (.slice ka kn kc)).setCell ⟨w.heap.size + 1 + 1, 4, none⟩ (.slice ma mn mc)).setCell ⟨w.heap.size + 1 + 1, 5, none⟩ (.int .i64 D.next)) := rfl
  have hgq := put6_grownBy w3 (w.heap.size + 1 + 1) (.int .i64 D.quota) (.slice (some ⟨g, 0, none⟩) fm.length cap) (.slice na nn nc0) (.slice ka kn kc) (.slice ma mn mc) (.int .i64 D.next)
  have hhq := put6_block hr3 (.int .i64 D.quota) (.slice (some ⟨g, 0, none⟩) fm.length cap) (.slice na nn nc0) (.slice ka kn kc) (.slice ma mn mc) (.int .i64 D.next)
  rw [← hwq]
  obtain ⟨wq, hwqe⟩ : ∃ wq, put6 w3 (w.heap.size + 1 + 1) (.int .i64 D.quota) (.slice (some ⟨g, 0, none⟩) fm.length cap) (.slice na nn nc0) (.slice ka kn kc) (.slice ma mn mc) (.int .i64 D.next) = wq := ⟨_, rfl⟩
  rw [hwqe] at hgq hhq ⊢
  obtain ⟨⟨q0, q1, q2, q3, q4, q5⟩, _⟩ := cells_six hhq
  refine bodyPost_ret (v := .agg #[.int .i64 D.quota, .slice (some ⟨g, 0, none⟩) fm.length cap, .slice na nn nc0, .slice ka kn kc, .slice ma mn mc, .int .i64 D.next]) (by simp [results, Try.results28, go_sem, q0, q1, q2, q3, q4, q5]) rfl ?_
  have hXq := hX3.grown hgq (fun k e => by cases e; omega)
  have hO4 := hOh.out.ext hXq
  refine ⟨⟨some ⟨g, 0, none⟩, fm.length, cap, fm.set t (⟨id, bys, su⟩, (pa, pn, pc)), na, nn, nc0, ka, kn, kc, ma, mn, mc⟩, rfl, ⟨?_, ?_, ?_, hO4.names, hO4.kept, hO4.moves⟩, hXq⟩
  · exact owns_mono (owns_beside hown3h.out (owns_other hown3h.out hr3 (by decide)) hgq) hbase
  · dsimp only
    rw [List.map_set, hO4.fm]
  · intro q hq
    rcases List.mem_or_eq_of_mem_set hq with hq | rfl
    · exact hO4.bytes q hq
    · exact owns_ext hyh.out hXq
end Go.Proofs.Ytponbponacdhkaa

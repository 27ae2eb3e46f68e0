/-
  The record of a payload: the reference's Take.
-/
import Derived.Test.YtkflikfcpdekdaaDoorSegTake
import Derived.Test.YtkflikfcpdekdaaDoorSegRput1
import Derived.Test.YtkflikfcpdekdaaDoorSegRead
namespace Go.Proofs.YtkflikfcpdekdaaDoor
open Go.RowKit

theorem posTake1 (l : List UInt8) (x : UInt8) (h : l.head? = some x) (hx : x = 1) : posTake l = posHead l := by
  cases l with
  | nil => cases h
  | cons y l => cases h; subst hx; unfold posTake; dsimp only; rw [if_pos rfl]
theorem posTake2 (l : List UInt8) (x : UInt8) (h : l.head? = some x) (hx : x = 2) : posTake l = if l.length = 25 then some ⟨2, [], 0, 0, [], 0, wrap64 (rdAt l 1 8), wrap64 (rdAt l 9 8), wrap64 (rdAt l 17 8)⟩ else none := by
  cases l with
  | nil => cases h
  | cons y l => cases h; subst hx; unfold posTake; dsimp only; rw [if_neg (by decide), if_pos rfl]
theorem posTake3 (l : List UInt8) (x : UInt8) (h : l.head? = some x) (hx : x = 3) : posTake l = if l.length = 18 then some ⟨3, [], 0, 0, [], rdAt l 1 1, wrap64 (rdAt l 2 8), 0, wrap64 (rdAt l 10 8)⟩ else none := by
  cases l with
  | nil => cases h
  | cons y l => cases h; subst hx; unfold posTake; dsimp only; rw [if_neg (by decide), if_neg (by decide), if_pos rfl]
theorem posTake0 (l : List UInt8) (x : UInt8) (h : l.head? = some x) (h1 : x ≠ 1) (h2 : x ≠ 2) (h3 : x ≠ 3) : posTake l = some ⟨x.toNat, [], 0, 0, [], 0, 0, 0, 0⟩ := by
  cases l with
  | nil => cases h
  | cons y l => cases h; unfold posTake; dsimp only; rw [if_neg h1, if_neg h2, if_neg h3]
theorem refOf_none (l : List UInt8) : refOf l none = (Rec.zero, 7) := rfl
theorem refOf_some (l : List UInt8) (r : Rec) : refOf l (some r) = if right r = true ∧ segPut r = l then (r, 0) else (Rec.zero, 7) := rfl

set_option maxRecDepth 100000 in
set_option maxHeartbeats 3200000 in
theorem rtake2_calls (a : Option Addr) (n c : Nat) (l : List UInt8) (w : World) (hb : Bs w a n c l) (x : UInt8) (hxh : l.head? = some x) (hx : x = 2) :
    Calls Tryd.prog 62 #[.slice a n c] w fun e w' => ∃ a' n' c', e = .returned (.tuple #[rv (segTake l).1 a' n' c', .int .i64 (segTake l).2]) ∧ Rt w' a' n' c' (segTake l).1.rungs ∧ Ext w w' := by
  have hpos := posTake2 l x hxh hx
  obtain ⟨y, hy⟩ : ∃ y, segTake l = y := ⟨_, rfl⟩
  have HY0 := refTake_eq l
  unfold refTake at HY0
  rw [hy] at HY0 ⊢
  have HY := Lib.hid HY0
  clear hy HY0
  have hlen := Lib.hid hb.len
  have hle := Sl.le hb
  have hmx := Sl.max hb
  unfold maxLen at hmx
  have hl0 : 0 < l.length := by cases l with | nil => cases hxh | cons y l => simp
  have hn0 : 0 < n := by rw [← hlen.out]; exact hl0
  have hn0i : (0 : Int) < (n : Int) := by omega
  have hq0 : ((n : Int) == 0) = false := by rw [beq_eq_false_iff_ne]; omega
  have hst := fun w' (hx : Ext w w') => Bs.string (P := Tryd.prog) (hb.ext hx) 22 5 9 Tryd.underlying22 Tryd.underlying5 Tryd.underlying9
  obtain ⟨b, o, rfl, hc⟩ := hb.at hn0
  have hc0 := hc 0 hl0
  rw [Nat.add_zero, show l[0] = x by cases l with | nil => cases hxh | cons y l => cases hxh; rfl] at hc0
  have hbl : b < w.heap.size := World.block_lt_of_cell? w _ hc0
  clear hxh hl0
  subst hx
  by_cases h25 : n = 25
  · subst h25
    have hpos2 := Lib.hid (hpos.trans (if_pos hlen.out))
    clear hpos
    go_enter Tryd.func62, Tryd.ntmps62
    go_wp2_with fail
    refine (rread_yes _ _ _ l _ (hb.ext ?hx1) 1 1 8 rfl (by decide) (by decide) (by decide) (by decide)).mono ?_
    case hx1 => exact (Ext.alloc _ _).trans (Ext.alloc _ _)
    rintro e w1 ⟨rfl, rfl⟩
    have ht := rdAt_lt l 1 8
    have hu := rdAt_lt l 9 8
    have hv := rdAt_lt l 17 8
    obtain ⟨t, et⟩ : ∃ t, rdAt l 1 8 = t := ⟨_, rfl⟩
    obtain ⟨u, eu⟩ : ∃ t, rdAt l 9 8 = t := ⟨_, rfl⟩
    obtain ⟨v, ev⟩ : ∃ t, rdAt l 17 8 = t := ⟨_, rfl⟩
    rw [et] at ht hpos2 ⊢
    rw [eu] at hu hpos2
    rw [ev] at hv hpos2
    have hr2 := Lib.hid (fun w' h => rread_yes (some ⟨b, o, none⟩) 25 c l w' h 9 9 8 rfl (by decide) (by decide) (by decide) (by decide))
    have hr3 := Lib.hid (fun w' h => rread_yes (some ⟨b, o, none⟩) 25 c l w' h 17 17 8 rfl (by decide) (by decide) (by decide) (by decide))
    rw [eu] at hr2
    rw [ev] at hr3
    clear et eu ev
    go_wp2_with fail
    refine (hr2.out _ (hb.ext ?hx2)).mono ?_
    case hx2 => exact (Ext.alloc _ _).trans (Ext.alloc _ _)
    rintro e w1 ⟨rfl, rfl⟩
    go_wp2_with fail
    refine (hr3.out _ (hb.ext ?hx3)).mono ?_
    case hx3 => exact (Ext.alloc _ _).trans (Ext.alloc _ _)
    rintro e w1 ⟨rfl, rfl⟩
    have HR := hpos2
    clear hpos2 hr2 hr3
    obtain ⟨w3, hw3⟩ : ∃ w3, (w.alloc (.cells (recCells Rec.zero (.slice none 0 0)) 48)).alloc (.cells (recCells ⟨2, [], 0, 0, [], 0, wrap64 t, wrap64 u, wrap64 v⟩ (.slice none 0 0)) 48) = w3 := ⟨_, rfl⟩
    have hx3 : Ext w w3 := by rw [← hw3]; exact (Ext.alloc _ _).trans (Ext.alloc _ _)
    obtain ⟨z, ez⟩ : ∃ z, (⟨2, [], 0, 0, [], 0, wrap64 t, wrap64 u, wrap64 v⟩ : Rec) = z := ⟨_, rfl⟩
    obtain ⟨base, av, nv, cv, hbase, hX3, hown⟩ : ∃ (base : Nat) (av : Option Addr) (nv cv : Nat), w.heap.size < base ∧ w3.heap[w.heap.size + 1]? = some (.cells (recCells z (.slice av nv cv)) 48 (0, 0)) ∧ w3.ownsRow base 68 2 (.slice av nv cv) nv (rgc z.rungs) :=
      ⟨w.heap.size + 1, none, 0, 0, by omega, by rw [← ez, ← hw3]; simpa using heap_alloc_new (w.alloc (.cells (recCells Rec.zero (.slice none 0 0)) 48)) (.cells (recCells ⟨2, [], 0, 0, [], 0, wrap64 t, wrap64 u, wrap64 v⟩ (.slice none 0 0)) 48), by rw [← ez]; exact World.ownsRow_nil _ _ _ _⟩
    have hB3 : w3.heap[w.heap.size]? = some (.cells (recCells Rec.zero (.slice none 0 0)) 48 (0, 0)) := by rw [← hw3, heap_alloc_old _ _ (by simp)]; exact heap_alloc_new _ _
    dsimp only [recCells, Rec.zero] at hw3
    have hw3h := Lib.hid hw3
    clear hw3
    go_upto_region 35 with fail
    rw [hw3h.out]
    clear hw3h
    rw [ez] at HR
    clear ez
    obtain ⟨⟨kind, path, method, factor, rungs, rung, time, now, value⟩, rfl⟩ : ∃ z', z = z' := ⟨z, rfl⟩
    dsimp only [recCells] at hX3 hown HR
    have HP : Hid (y = if right ⟨kind, path, method, factor, rungs, rung, time, now, value⟩ = true ∧ segPut ⟨kind, path, method, factor, rungs, rung, time, now, value⟩ = l then (⟨kind, path, method, factor, rungs, rung, time, now, value⟩, 0) else (Rec.zero, 7)) := by show _ = _; rw [← HY.out, HR.out]; rfl
    clear HY HR
    obtain ⟨x0, x1, x2, x3, x4, x5, x6, x7, x8⟩ := cells9 hX3
    have hX3h := Lib.hid hX3
    have hB3h := Lib.hid hB3
    dsimp only [recCells] at hB3h
    clear hX3 hB3
    obtain ⟨rr, hrr⟩ : ∃ rr, right ⟨kind, path, method, factor, rungs, rung, time, now, value⟩ = rr := ⟨_, rfl⟩
    rw [hrr] at HP
    cases rr with
    | false =>
      have hc0 := rputno_calls ⟨kind, path, method, factor, rungs, rung, time, now, value⟩ av nv cv w3 (rg_of_own hown) hrr
      unfold rv at hc0
      dsimp only at hc0
      have hc0 := Lib.hid hc0
      clear hrr
      go_wp2_with fail
      refine hc0.out.mono ?_
      rintro e w4 ⟨rfl, hx4⟩
      have hB4 := hx4.block _ (Array.getElem?_eq_some_iff.1 hB3h.out).1
      rw [hB3h.out] at hB4
      have hx4' := hx3.trans hx4
      obtain ⟨y0, y1, y2, y3, y4, y5, y6, y7, y8⟩ := cells9 hB4
      obtain ⟨z0, z1, z2, z3, z4, z5, z6, z7, z8⟩ := frozen9 hB4
      clear hX3h hB3h hB4 hc0 x0 x1 x2 x3 x4 x5 x6 x7 x8 hx4
      have HE : Hid (y = (Rec.zero, 7)) := by show _ = _; rw [HP.out, if_neg (by simp)]
      clear HP
      go_wp2_with fail
      refine bodyPost_ret (v := .tuple #[rv Rec.zero none 0 0, .int .i64 7]) (by simp [results, Tryd.results62, go_sem, rv, Rec.zero, y0, y1, y2, y3, y4, y5, y6, y7, y8]) rfl ?_
      exact ⟨none, 0, 0, by rw [HE.out], by rw [HE.out]; exact rt_nil _, ext9 hx4' _ _ _ _ _ _ _ _ _⟩
    | true =>
      obtain ⟨sp, hsp⟩ : ∃ sp, segPut ⟨kind, path, method, factor, rungs, rung, time, now, value⟩ = sp := ⟨_, rfl⟩
      have hc0 := rrput_calls ⟨kind, path, method, factor, rungs, rung, time, now, value⟩ av nv cv w3 (rg_of_own hown) hrr
      rw [hsp] at hc0 HP
      unfold rv at hc0
      dsimp only at hc0
      have hc0 := Lib.hid hc0
      clear hrr hsp
      go_wp2_with fail
      refine hc0.out.mono ?_
      rintro e w4 ⟨v4, rfl, ho4, hx4⟩
      obtain ⟨a4, n4, c4, rfl, hb4⟩ := ho4.bs
      have hst4 := Bs.string (P := Tryd.prog) hb4 22 5 9 Tryd.underlying22 Tryd.underlying5 Tryd.underlying9
      have hX4 := hx4.block _ (Array.getElem?_eq_some_iff.1 hX3h.out).1
      rw [hX3h.out] at hX4
      have hB4 := hx4.block _ (Array.getElem?_eq_some_iff.1 hB3h.out).1
      rw [hB3h.out] at hB4
      have hx4' := hx3.trans hx4
      have hst5 := hst w4 hx4'
      have hown4 := owns_ext hown hx4
      obtain ⟨x0', x1', x2', x3', x4', x5', x6', x7', x8'⟩ := cells9 hX4
      obtain ⟨y0, y1, y2, y3, y4, y5, y6, y7, y8⟩ := cells9 hB4
      obtain ⟨z0, z1, z2, z3, z4, z5, z6, z7, z8⟩ := frozen9 hB4
      clear hX3h hB3h hX4 hB4 hc0 x0 x1 x2 x3 x4 x5 x6 x7 x8 hx4 hst ho4 hb4
      by_cases heq : sp = l
      · have HE : Hid (y = (⟨kind, path, method, factor, rungs, rung, time, now, value⟩, 0)) := by show _ = _; rw [HP.out, if_pos ⟨(by first | trivial | rfl), heq⟩]
        clear HP
        subst heq
        go_wp2_with fail
        refine bodyPost_ret (v := .tuple #[rv ⟨kind, path, method, factor, rungs, rung, time, now, value⟩ av nv cv, .int .i64 0]) (by simp [results, Tryd.results62, go_sem, rv, y0, y1, y2, y3, y4, y5, y6, y7, y8]) rfl ?_
        exact ⟨av, nv, cv, by rw [HE.out], by rw [HE.out]; exact rt_of_own (own9 hown4 hbase _ _ _ _ _ _ _ _ _), ext9 hx4' _ _ _ _ _ _ _ _ _⟩
      · have heqb : (sp == l) = false := by simpa using heq
        have HE : Hid (y = (Rec.zero, 7)) := by show _ = _; rw [HP.out, if_neg (fun h => heq h.2)]
        clear HP
        go_wp2_with fail
        refine bodyPost_ret (v := .tuple #[rv Rec.zero none 0 0, .int .i64 7]) (by simp [results, Tryd.results62, go_sem, rv, Rec.zero, y0, y1, y2, y3, y4, y5, y6, y7, y8]) rfl ?_
        exact ⟨none, 0, 0, by rw [HE.out], by rw [HE.out]; exact rt_nil _, ext9 hx4' _ _ _ _ _ _ _ _ _⟩
  · have hq25 : ((n : Int) != 25) = true := by rw [bne_iff_ne]; omega
    have hpos2 := Lib.hid (hpos.trans (if_neg (by rw [hlen.out]; exact h25)))
    clear hpos hst
    go_enter Tryd.func62, Tryd.ntmps62
    have HE : Hid (y = (Rec.zero, 7)) := by show _ = _; rw [← HY.out, hpos2.out]; rfl
    clear HY
    go_wp2_with fail
    refine bodyPost_ret (v := .tuple #[rv Rec.zero none 0 0, .int .i64 7]) (by simp [results, Tryd.results62, go_sem, rv, Rec.zero]) rfl ?_
    exact ⟨none, 0, 0, by rw [HE.out], by rw [HE.out]; exact rt_nil _, (Ext.alloc _ _).trans (Ext.alloc _ _)⟩

set_option maxRecDepth 100000 in
set_option maxHeartbeats 3200000 in
theorem rtake3_calls (a : Option Addr) (n c : Nat) (l : List UInt8) (w : World) (hb : Bs w a n c l) (x : UInt8) (hxh : l.head? = some x) (hx : x = 3) :
    Calls Tryd.prog 62 #[.slice a n c] w fun e w' => ∃ a' n' c', e = .returned (.tuple #[rv (segTake l).1 a' n' c', .int .i64 (segTake l).2]) ∧ Rt w' a' n' c' (segTake l).1.rungs ∧ Ext w w' := by
  have hpos := posTake3 l x hxh hx
  obtain ⟨y, hy⟩ : ∃ y, segTake l = y := ⟨_, rfl⟩
  have HY0 := refTake_eq l
  unfold refTake at HY0
  rw [hy] at HY0 ⊢
  have HY := Lib.hid HY0
  clear hy HY0
  have hlen := Lib.hid hb.len
  have hle := Sl.le hb
  have hmx := Sl.max hb
  unfold maxLen at hmx
  have hl0 : 0 < l.length := by cases l with | nil => cases hxh | cons y l => simp
  have hn0 : 0 < n := by rw [← hlen.out]; exact hl0
  have hn0i : (0 : Int) < (n : Int) := by omega
  have hq0 : ((n : Int) == 0) = false := by rw [beq_eq_false_iff_ne]; omega
  have hst := fun w' (hx : Ext w w') => Bs.string (P := Tryd.prog) (hb.ext hx) 22 5 9 Tryd.underlying22 Tryd.underlying5 Tryd.underlying9
  obtain ⟨b, o, rfl, hc⟩ := hb.at hn0
  have hc0 := hc 0 hl0
  rw [Nat.add_zero, show l[0] = x by cases l with | nil => cases hxh | cons y l => cases hxh; rfl] at hc0
  have hbl : b < w.heap.size := World.block_lt_of_cell? w _ hc0
  clear hxh hl0
  subst hx
  by_cases h18 : n = 18
  · subst h18
    have hpos2 := Lib.hid (hpos.trans (if_pos hlen.out))
    clear hpos
    have hc1 := hc 1 (by rw [hlen.out]; decide)
    have hq1 := rdAt_one l 1 (by rw [hlen.out]; decide)
    obtain ⟨g, eg⟩ : ∃ g, l[1]'(by rw [hlen.out]; decide) = g := ⟨_, rfl⟩
    rw [eg] at hc1 hq1
    rw [hq1] at hpos2
    have hgi : (g.toNat : Int) ≤ 255 := by have := g.toNat_lt; omega
    clear hq1 eg
    go_enter Tryd.func62, Tryd.ntmps62
    go_wp2_with fail
    refine (rread_yes _ _ _ l _ (hb.ext ?hx1) 2 2 8 rfl (by decide) (by decide) (by decide) (by decide)).mono ?_
    case hx1 => exact (Ext.alloc _ _).trans (Ext.alloc _ _)
    rintro e w1 ⟨rfl, rfl⟩
    have ht := rdAt_lt l 2 8
    have hu := rdAt_lt l 10 8
    obtain ⟨t, et⟩ : ∃ t, rdAt l 2 8 = t := ⟨_, rfl⟩
    obtain ⟨u, eu⟩ : ∃ t, rdAt l 10 8 = t := ⟨_, rfl⟩
    rw [et] at ht hpos2 ⊢
    rw [eu] at hu hpos2
    have hr2 := Lib.hid (fun w' h => rread_yes (some ⟨b, o, none⟩) 18 c l w' h 10 10 8 rfl (by decide) (by decide) (by decide) (by decide))
    rw [eu] at hr2
    clear et eu
    go_wp2_with fail
    refine (hr2.out _ (hb.ext ?hx2)).mono ?_
    case hx2 => exact (Ext.alloc _ _).trans (Ext.alloc _ _)
    rintro e w1 ⟨rfl, rfl⟩
    have HR := hpos2
    clear hpos2 hr2
    obtain ⟨w3, hw3⟩ : ∃ w3, (w.alloc (.cells (recCells Rec.zero (.slice none 0 0)) 48)).alloc (.cells (recCells ⟨3, [], 0, 0, [], g.toNat, wrap64 t, 0, wrap64 u⟩ (.slice none 0 0)) 48) = w3 := ⟨_, rfl⟩
    have hx3 : Ext w w3 := by rw [← hw3]; exact (Ext.alloc _ _).trans (Ext.alloc _ _)
    obtain ⟨z, ez⟩ : ∃ z, (⟨3, [], 0, 0, [], g.toNat, wrap64 t, 0, wrap64 u⟩ : Rec) = z := ⟨_, rfl⟩
    obtain ⟨base, av, nv, cv, hbase, hX3, hown⟩ : ∃ (base : Nat) (av : Option Addr) (nv cv : Nat), w.heap.size < base ∧ w3.heap[w.heap.size + 1]? = some (.cells (recCells z (.slice av nv cv)) 48 (0, 0)) ∧ w3.ownsRow base 68 2 (.slice av nv cv) nv (rgc z.rungs) :=
      ⟨w.heap.size + 1, none, 0, 0, by omega, by rw [← ez, ← hw3]; simpa using heap_alloc_new (w.alloc (.cells (recCells Rec.zero (.slice none 0 0)) 48)) (.cells (recCells ⟨3, [], 0, 0, [], g.toNat, wrap64 t, 0, wrap64 u⟩ (.slice none 0 0)) 48), by rw [← ez]; exact World.ownsRow_nil _ _ _ _⟩
    have hB3 : w3.heap[w.heap.size]? = some (.cells (recCells Rec.zero (.slice none 0 0)) 48 (0, 0)) := by rw [← hw3, heap_alloc_old _ _ (by simp)]; exact heap_alloc_new _ _
    dsimp only [recCells, Rec.zero] at hw3
    have hw3h := Lib.hid hw3
    clear hw3
    go_upto_region 35 with fail
    rw [hw3h.out]
    clear hw3h
    rw [ez] at HR
    clear ez
    obtain ⟨⟨kind, path, method, factor, rungs, rung, time, now, value⟩, rfl⟩ : ∃ z', z = z' := ⟨z, rfl⟩
    dsimp only [recCells] at hX3 hown HR
    have HP : Hid (y = if right ⟨kind, path, method, factor, rungs, rung, time, now, value⟩ = true ∧ segPut ⟨kind, path, method, factor, rungs, rung, time, now, value⟩ = l then (⟨kind, path, method, factor, rungs, rung, time, now, value⟩, 0) else (Rec.zero, 7)) := by show _ = _; rw [← HY.out, HR.out]; rfl
    clear HY HR
    obtain ⟨x0, x1, x2, x3, x4, x5, x6, x7, x8⟩ := cells9 hX3
    have hX3h := Lib.hid hX3
    have hB3h := Lib.hid hB3
    dsimp only [recCells] at hB3h
    clear hX3 hB3
    obtain ⟨rr, hrr⟩ : ∃ rr, right ⟨kind, path, method, factor, rungs, rung, time, now, value⟩ = rr := ⟨_, rfl⟩
    rw [hrr] at HP
    cases rr with
    | false =>
      have hc0 := rputno_calls ⟨kind, path, method, factor, rungs, rung, time, now, value⟩ av nv cv w3 (rg_of_own hown) hrr
      unfold rv at hc0
      dsimp only at hc0
      have hc0 := Lib.hid hc0
      clear hrr
      go_wp2_with fail
      refine hc0.out.mono ?_
      rintro e w4 ⟨rfl, hx4⟩
      have hB4 := hx4.block _ (Array.getElem?_eq_some_iff.1 hB3h.out).1
      rw [hB3h.out] at hB4
      have hx4' := hx3.trans hx4
      obtain ⟨y0, y1, y2, y3, y4, y5, y6, y7, y8⟩ := cells9 hB4
      obtain ⟨z0, z1, z2, z3, z4, z5, z6, z7, z8⟩ := frozen9 hB4
      clear hX3h hB3h hB4 hc0 x0 x1 x2 x3 x4 x5 x6 x7 x8 hx4
      have HE : Hid (y = (Rec.zero, 7)) := by show _ = _; rw [HP.out, if_neg (by simp)]
      clear HP
      go_wp2_with fail
      refine bodyPost_ret (v := .tuple #[rv Rec.zero none 0 0, .int .i64 7]) (by simp [results, Tryd.results62, go_sem, rv, Rec.zero, y0, y1, y2, y3, y4, y5, y6, y7, y8]) rfl ?_
      exact ⟨none, 0, 0, by rw [HE.out], by rw [HE.out]; exact rt_nil _, ext9 hx4' _ _ _ _ _ _ _ _ _⟩
    | true =>
      obtain ⟨sp, hsp⟩ : ∃ sp, segPut ⟨kind, path, method, factor, rungs, rung, time, now, value⟩ = sp := ⟨_, rfl⟩
      have hc0 := rrput_calls ⟨kind, path, method, factor, rungs, rung, time, now, value⟩ av nv cv w3 (rg_of_own hown) hrr
      rw [hsp] at hc0 HP
      unfold rv at hc0
      dsimp only at hc0
      have hc0 := Lib.hid hc0
      clear hrr hsp
      go_wp2_with fail
      refine hc0.out.mono ?_
      rintro e w4 ⟨v4, rfl, ho4, hx4⟩
      obtain ⟨a4, n4, c4, rfl, hb4⟩ := ho4.bs
      have hst4 := Bs.string (P := Tryd.prog) hb4 22 5 9 Tryd.underlying22 Tryd.underlying5 Tryd.underlying9
      have hX4 := hx4.block _ (Array.getElem?_eq_some_iff.1 hX3h.out).1
      rw [hX3h.out] at hX4
      have hB4 := hx4.block _ (Array.getElem?_eq_some_iff.1 hB3h.out).1
      rw [hB3h.out] at hB4
      have hx4' := hx3.trans hx4
      have hst5 := hst w4 hx4'
      have hown4 := owns_ext hown hx4
      obtain ⟨x0', x1', x2', x3', x4', x5', x6', x7', x8'⟩ := cells9 hX4
      obtain ⟨y0, y1, y2, y3, y4, y5, y6, y7, y8⟩ := cells9 hB4
      obtain ⟨z0, z1, z2, z3, z4, z5, z6, z7, z8⟩ := frozen9 hB4
      clear hX3h hB3h hX4 hB4 hc0 x0 x1 x2 x3 x4 x5 x6 x7 x8 hx4 hst ho4 hb4
      by_cases heq : sp = l
      · have HE : Hid (y = (⟨kind, path, method, factor, rungs, rung, time, now, value⟩, 0)) := by show _ = _; rw [HP.out, if_pos ⟨(by first | trivial | rfl), heq⟩]
        clear HP
        subst heq
        go_wp2_with fail
        refine bodyPost_ret (v := .tuple #[rv ⟨kind, path, method, factor, rungs, rung, time, now, value⟩ av nv cv, .int .i64 0]) (by simp [results, Tryd.results62, go_sem, rv, y0, y1, y2, y3, y4, y5, y6, y7, y8]) rfl ?_
        exact ⟨av, nv, cv, by rw [HE.out], by rw [HE.out]; exact rt_of_own (own9 hown4 hbase _ _ _ _ _ _ _ _ _), ext9 hx4' _ _ _ _ _ _ _ _ _⟩
      · have heqb : (sp == l) = false := by simpa using heq
        have HE : Hid (y = (Rec.zero, 7)) := by show _ = _; rw [HP.out, if_neg (fun h => heq h.2)]
        clear HP
        go_wp2_with fail
        refine bodyPost_ret (v := .tuple #[rv Rec.zero none 0 0, .int .i64 7]) (by simp [results, Tryd.results62, go_sem, rv, Rec.zero, y0, y1, y2, y3, y4, y5, y6, y7, y8]) rfl ?_
        exact ⟨none, 0, 0, by rw [HE.out], by rw [HE.out]; exact rt_nil _, ext9 hx4' _ _ _ _ _ _ _ _ _⟩
  · have hq18 : ((n : Int) != 18) = true := by rw [bne_iff_ne]; omega
    have hpos2 := Lib.hid (hpos.trans (if_neg (by rw [hlen.out]; exact h18)))
    clear hpos hst
    go_enter Tryd.func62, Tryd.ntmps62
    have HE : Hid (y = (Rec.zero, 7)) := by show _ = _; rw [← HY.out, hpos2.out]; rfl
    clear HY
    go_wp2_with fail
    refine bodyPost_ret (v := .tuple #[rv Rec.zero none 0 0, .int .i64 7]) (by simp [results, Tryd.results62, go_sem, rv, Rec.zero]) rfl ?_
    exact ⟨none, 0, 0, by rw [HE.out], by rw [HE.out]; exact rt_nil _, (Ext.alloc _ _).trans (Ext.alloc _ _)⟩

set_option maxRecDepth 100000 in
set_option maxHeartbeats 3200000 in
theorem rtake0_calls (a : Option Addr) (n c : Nat) (l : List UInt8) (w : World) (hb : Bs w a n c l) (x : UInt8) (hxh : l.head? = some x) (h1 : x ≠ 1) (h2 : x ≠ 2) (h3 : x ≠ 3) :
    Calls Tryd.prog 62 #[.slice a n c] w fun e w' => ∃ a' n' c', e = .returned (.tuple #[rv (segTake l).1 a' n' c', .int .i64 (segTake l).2]) ∧ Rt w' a' n' c' (segTake l).1.rungs ∧ Ext w w' := by
  have hpos := posTake0 l x hxh h1 h2 h3
  obtain ⟨y, hy⟩ : ∃ y, segTake l = y := ⟨_, rfl⟩
  have HY0 := refTake_eq l
  unfold refTake at HY0
  rw [hy] at HY0 ⊢
  have HY := Lib.hid HY0
  clear hy HY0
  have hlen := Lib.hid hb.len
  have hle := Sl.le hb
  have hmx := Sl.max hb
  unfold maxLen at hmx
  have hl0 : 0 < l.length := by cases l with | nil => cases hxh | cons y l => simp
  have hn0 : 0 < n := by rw [← hlen.out]; exact hl0
  have hn0i : (0 : Int) < (n : Int) := by omega
  have hq0 : ((n : Int) == 0) = false := by rw [beq_eq_false_iff_ne]; omega
  have hst := fun w' (hx : Ext w w') => Bs.string (P := Tryd.prog) (hb.ext hx) 22 5 9 Tryd.underlying22 Tryd.underlying5 Tryd.underlying9
  obtain ⟨b, o, rfl, hc⟩ := hb.at hn0
  have hc0 := hc 0 hl0
  rw [Nat.add_zero, show l[0] = x by cases l with | nil => cases hxh | cons y l => cases hxh; rfl] at hc0
  have hbl : b < w.heap.size := World.block_lt_of_cell? w _ hc0
  clear hxh hl0
  have HR := Lib.hid hpos
  have q1 : ((x.toNat : Int) == 1) = false := by rw [beq_eq_false_iff_ne]; intro h; exact h1 (UInt8.toNat_inj.1 (by show x.toNat = 1; omega))
  have q2 : ((x.toNat : Int) == 2) = false := by rw [beq_eq_false_iff_ne]; intro h; exact h2 (UInt8.toNat_inj.1 (by show x.toNat = 2; omega))
  have q3 : ((x.toNat : Int) == 3) = false := by rw [beq_eq_false_iff_ne]; intro h; exact h3 (UInt8.toNat_inj.1 (by show x.toNat = 3; omega))
  have hgi : (x.toNat : Int) ≤ 255 := by have := x.toNat_lt; omega
  clear hpos h1 h2 h3
  go_enter Tryd.func62, Tryd.ntmps62
  obtain ⟨w3, hw3⟩ : ∃ w3, (w.alloc (.cells (recCells Rec.zero (.slice none 0 0)) 48)).alloc (.cells (recCells ⟨(x.toNat : Int), [], 0, 0, [], 0, 0, 0, 0⟩ (.slice none 0 0)) 48) = w3 := ⟨_, rfl⟩
  have hx3 : Ext w w3 := by rw [← hw3]; exact (Ext.alloc _ _).trans (Ext.alloc _ _)
  obtain ⟨z, ez⟩ : ∃ z, (⟨(x.toNat : Int), [], 0, 0, [], 0, 0, 0, 0⟩ : Rec) = z := ⟨_, rfl⟩
  obtain ⟨base, av, nv, cv, hbase, hX3, hown⟩ : ∃ (base : Nat) (av : Option Addr) (nv cv : Nat), w.heap.size < base ∧ w3.heap[w.heap.size + 1]? = some (.cells (recCells z (.slice av nv cv)) 48 (0, 0)) ∧ w3.ownsRow base 68 2 (.slice av nv cv) nv (rgc z.rungs) :=
    ⟨w.heap.size + 1, none, 0, 0, by omega, by rw [← ez, ← hw3]; simpa using heap_alloc_new (w.alloc (.cells (recCells Rec.zero (.slice none 0 0)) 48)) (.cells (recCells ⟨(x.toNat : Int), [], 0, 0, [], 0, 0, 0, 0⟩ (.slice none 0 0)) 48), by rw [← ez]; exact World.ownsRow_nil _ _ _ _⟩
  have hB3 : w3.heap[w.heap.size]? = some (.cells (recCells Rec.zero (.slice none 0 0)) 48 (0, 0)) := by rw [← hw3, heap_alloc_old _ _ (by simp)]; exact heap_alloc_new _ _
  dsimp only [recCells, Rec.zero] at hw3
  have hw3h := Lib.hid hw3
  clear hw3
  go_upto_region 35 with fail
  rw [hw3h.out]
  clear hw3h
  rw [ez] at HR
  clear ez
  obtain ⟨⟨kind, path, method, factor, rungs, rung, time, now, value⟩, rfl⟩ : ∃ z', z = z' := ⟨z, rfl⟩
  dsimp only [recCells] at hX3 hown HR
  have HP : Hid (y = if right ⟨kind, path, method, factor, rungs, rung, time, now, value⟩ = true ∧ segPut ⟨kind, path, method, factor, rungs, rung, time, now, value⟩ = l then (⟨kind, path, method, factor, rungs, rung, time, now, value⟩, 0) else (Rec.zero, 7)) := by show _ = _; rw [← HY.out, HR.out]; rfl
  clear HY HR
  obtain ⟨x0, x1, x2, x3, x4, x5, x6, x7, x8⟩ := cells9 hX3
  have hX3h := Lib.hid hX3
  have hB3h := Lib.hid hB3
  dsimp only [recCells] at hB3h
  clear hX3 hB3
  obtain ⟨rr, hrr⟩ : ∃ rr, right ⟨kind, path, method, factor, rungs, rung, time, now, value⟩ = rr := ⟨_, rfl⟩
  rw [hrr] at HP
  cases rr with
  | false =>
    have hc0 := rputno_calls ⟨kind, path, method, factor, rungs, rung, time, now, value⟩ av nv cv w3 (rg_of_own hown) hrr
    unfold rv at hc0
    dsimp only at hc0
    have hc0 := Lib.hid hc0
    clear hrr
    go_wp2_with fail
    refine hc0.out.mono ?_
    rintro e w4 ⟨rfl, hx4⟩
    have hB4 := hx4.block _ (Array.getElem?_eq_some_iff.1 hB3h.out).1
    rw [hB3h.out] at hB4
    have hx4' := hx3.trans hx4
    obtain ⟨y0, y1, y2, y3, y4, y5, y6, y7, y8⟩ := cells9 hB4
    obtain ⟨z0, z1, z2, z3, z4, z5, z6, z7, z8⟩ := frozen9 hB4
    clear hX3h hB3h hB4 hc0 x0 x1 x2 x3 x4 x5 x6 x7 x8 hx4
    have HE : Hid (y = (Rec.zero, 7)) := by show _ = _; rw [HP.out, if_neg (by simp)]
    clear HP
    go_wp2_with fail
    refine bodyPost_ret (v := .tuple #[rv Rec.zero none 0 0, .int .i64 7]) (by simp [results, Tryd.results62, go_sem, rv, Rec.zero, y0, y1, y2, y3, y4, y5, y6, y7, y8]) rfl ?_
    exact ⟨none, 0, 0, by rw [HE.out], by rw [HE.out]; exact rt_nil _, ext9 hx4' _ _ _ _ _ _ _ _ _⟩
  | true =>
    obtain ⟨sp, hsp⟩ : ∃ sp, segPut ⟨kind, path, method, factor, rungs, rung, time, now, value⟩ = sp := ⟨_, rfl⟩
    have hc0 := rrput_calls ⟨kind, path, method, factor, rungs, rung, time, now, value⟩ av nv cv w3 (rg_of_own hown) hrr
    rw [hsp] at hc0 HP
    unfold rv at hc0
    dsimp only at hc0
    have hc0 := Lib.hid hc0
    clear hrr hsp
    go_wp2_with fail
    refine hc0.out.mono ?_
    rintro e w4 ⟨v4, rfl, ho4, hx4⟩
    obtain ⟨a4, n4, c4, rfl, hb4⟩ := ho4.bs
    have hst4 := Bs.string (P := Tryd.prog) hb4 22 5 9 Tryd.underlying22 Tryd.underlying5 Tryd.underlying9
    have hX4 := hx4.block _ (Array.getElem?_eq_some_iff.1 hX3h.out).1
    rw [hX3h.out] at hX4
    have hB4 := hx4.block _ (Array.getElem?_eq_some_iff.1 hB3h.out).1
    rw [hB3h.out] at hB4
    have hx4' := hx3.trans hx4
    have hst5 := hst w4 hx4'
    have hown4 := owns_ext hown hx4
    obtain ⟨x0', x1', x2', x3', x4', x5', x6', x7', x8'⟩ := cells9 hX4
    obtain ⟨y0, y1, y2, y3, y4, y5, y6, y7, y8⟩ := cells9 hB4
    obtain ⟨z0, z1, z2, z3, z4, z5, z6, z7, z8⟩ := frozen9 hB4
    clear hX3h hB3h hX4 hB4 hc0 x0 x1 x2 x3 x4 x5 x6 x7 x8 hx4 hst ho4 hb4
    by_cases heq : sp = l
    · have HE : Hid (y = (⟨kind, path, method, factor, rungs, rung, time, now, value⟩, 0)) := by show _ = _; rw [HP.out, if_pos ⟨(by first | trivial | rfl), heq⟩]
      clear HP
      subst heq
      go_wp2_with fail
      refine bodyPost_ret (v := .tuple #[rv ⟨kind, path, method, factor, rungs, rung, time, now, value⟩ av nv cv, .int .i64 0]) (by simp [results, Tryd.results62, go_sem, rv, y0, y1, y2, y3, y4, y5, y6, y7, y8]) rfl ?_
      exact ⟨av, nv, cv, by rw [HE.out], by rw [HE.out]; exact rt_of_own (own9 hown4 hbase _ _ _ _ _ _ _ _ _), ext9 hx4' _ _ _ _ _ _ _ _ _⟩
    · have heqb : (sp == l) = false := by simpa using heq
      have HE : Hid (y = (Rec.zero, 7)) := by show _ = _; rw [HP.out, if_neg (fun h => heq h.2)]
      clear HP
      go_wp2_with fail
      refine bodyPost_ret (v := .tuple #[rv Rec.zero none 0 0, .int .i64 7]) (by simp [results, Tryd.results62, go_sem, rv, Rec.zero, y0, y1, y2, y3, y4, y5, y6, y7, y8]) rfl ?_
      exact ⟨none, 0, 0, by rw [HE.out], by rw [HE.out]; exact rt_nil _, ext9 hx4' _ _ _ _ _ _ _ _ _⟩

set_option maxRecDepth 100000 in
set_option maxHeartbeats 3200000 in
theorem rtakenil_calls (a : Option Addr) (c : Nat) (w : World) : Calls Tryd.prog 62 #[.slice a 0 c] w fun e w' => ∃ a' n' c', e = .returned (.tuple #[rv (segTake []).1 a' n' c', .int .i64 (segTake []).2]) ∧ Rt w' a' n' c' (segTake []).1.rungs ∧ Ext w w' := by
  obtain ⟨y, hy⟩ : ∃ y, segTake [] = y := ⟨_, rfl⟩
  have HY0 := refTake_eq []
  rw [hy] at HY0 ⊢
  have HY : Hid (refOf [] (posTake []) = y) := HY0
  clear hy HY0
  go_enter Tryd.func62, Tryd.ntmps62
  have HE : Hid (y = (Rec.zero, 7)) := by show _ = _; rw [← HY.out]; rfl
  clear HY
  go_wp2_with fail
  refine bodyPost_ret (v := .tuple #[rv Rec.zero none 0 0, .int .i64 7]) (by simp [results, Tryd.results62, go_sem, rv, Rec.zero]) rfl ?_
  exact ⟨none, 0, 0, by rw [HE.out], by rw [HE.out]; exact rt_nil _, (Ext.alloc _ _).trans (Ext.alloc _ _)⟩
end Go.Proofs.YtkflikfcpdekdaaDoor

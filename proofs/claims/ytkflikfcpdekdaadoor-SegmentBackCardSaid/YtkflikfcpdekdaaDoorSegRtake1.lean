/-
  The record of a payload: the reference's Take, of heads.
-/
import Derived.Test.YtkflikfcpdekdaaDoorSegRtake
namespace Go.Proofs.YtkflikfcpdekdaaDoor
open Go.RowKit

set_option maxRecDepth 100000 in
set_option maxHeartbeats 3200000 in
theorem rtake1_calls (a : Option Addr) (n c : Nat) (l : List UInt8) (w : World) (hb : Bs w a n c l) (x : UInt8) (hxh : l.head? = some x) (hx : x = 1) :
    Calls Tryd.prog 62 #[.slice a n c] w fun e w' => ∃ a' n' c', e = .returned (.tuple #[rv (segTake l).1 a' n' c', .int .i64 (segTake l).2]) ∧ Rt w' a' n' c' (segTake l).1.rungs ∧ Ext w w' := by
  have hpos := posTake1 l x hxh hx
  obtain ⟨y, hy⟩ : ∃ y, segTake l = y := ⟨_, rfl⟩
  have HY0 := refTake_eq l
  unfold refTake at HY0
  rw [hy] at HY0 ⊢
  have HY := Lib.hid HY0
  clear hy HY0
  have hlen := Lib.hid hb.len
  have hle := Sl.le hb
  have hmx := Sl.max hb
  unfold maxLen at hmx
  have hl0 : 0 < l.length := by cases l with | nil => cases hxh | cons y l => simp
  have hn0 : 0 < n := by rw [← hlen.out]; exact hl0
  have hn0i : (0 : Int) < (n : Int) := by omega
  have hq0 : ((n : Int) == 0) = false := by rw [beq_eq_false_iff_ne]; omega
  have hst := fun w' (hx : Ext w w') => Bs.string (P := Tryd.prog) (hb.ext hx) 22 5 9 Tryd.underlying22 Tryd.underlying5 Tryd.underlying9
  obtain ⟨b, o, rfl, hc⟩ := hb.at hn0
  have hc0 := hc 0 hl0
  rw [Nat.add_zero, show l[0] = x by cases l with | nil => cases hxh | cons y l => cases hxh; rfl] at hc0
  have hbl : b < w.heap.size := World.block_lt_of_cell? w _ hc0
  clear hxh hl0
  subst hx
  unfold posHead at hpos
  rw [hlen.out] at hpos
  by_cases g3 : n < 3
  · have hpos2 := Lib.hid (hpos.trans (if_pos g3))
    clear hpos hst
    go_enter Tryd.func62, Tryd.ntmps62
    go_wp2_with fail
    refine (rread_no _ _ _ l _ (hb.ext ?hx1) 1 1 2 rfl (by decide) (by decide) (by decide) (by omega)).mono ?_
    case hx1 => exact (Ext.alloc _ _).trans (Ext.alloc _ _)
    rintro e w1 ⟨rfl, rfl⟩
    have HE : Hid (y = (Rec.zero, 7)) := by show _ = _; rw [← HY.out, hpos2.out]; rfl
    clear HY
    go_wp2_with fail
    refine bodyPost_ret (v := .tuple #[rv Rec.zero none 0 0, .int .i64 7]) (by simp [results, Tryd.results62, go_sem, rv, Rec.zero]) rfl ?_
    exact ⟨none, 0, 0, by rw [HE.out], by rw [HE.out]; exact rt_nil _, (Ext.alloc _ _).trans (Ext.alloc _ _)⟩
  · rw [if_neg g3] at hpos
    have hm := rdAt_lt l 1 2
    have hr1 := Lib.hid (fun w' h => rread_yes (some ⟨b, o, none⟩) n c l w' h 1 1 2 rfl (by decide) (by decide) (by decide) (by omega))
    obtain ⟨m, em⟩ : ∃ m, rdAt l 1 2 = m := ⟨_, rfl⟩
    rw [em] at hm hpos hr1
    clear em
    have hm2 : m ≤ 65535 := by have : (256 : Nat) ^ 2 = 65536 := rfl; omega
    clear hm
    by_cases g9 : n < 3 + m + 6
    · have hpos2 := Lib.hid (hpos.trans (if_pos g9))
      have hlt : (n : Int) < 3 + (m : Int) + 6 := by omega
      clear hpos hst
      go_enter Tryd.func62, Tryd.ntmps62
      go_wp2_with fail
      refine (hr1.out _ (hb.ext ?hx1)).mono ?_
      case hx1 => exact (Ext.alloc _ _).trans (Ext.alloc _ _)
      rintro e w1 ⟨rfl, rfl⟩
      have HE : Hid (y = (Rec.zero, 7)) := by show _ = _; rw [← HY.out, hpos2.out]; rfl
      clear HY
      go_wp2_with fail
      refine bodyPost_ret (v := .tuple #[rv Rec.zero none 0 0, .int .i64 7]) (by simp [results, Tryd.results62, go_sem, rv, Rec.zero]) rfl ?_
      exact ⟨none, 0, 0, by rw [HE.out], by rw [HE.out]; exact rt_nil _, (Ext.alloc _ _).trans (Ext.alloc _ _)⟩
    · rw [if_neg g9] at hpos
      obtain ⟨p, hp⟩ : ∃ p, 3 + m = p := ⟨_, rfl⟩
      rw [hp] at hpos g9
      have hpi : (3 : Int) + (m : Int) = (p : Int) := by omega
      have hpb : (p : Int) ≤ 65538 := by omega
      have hpb3 : 3 ≤ p := by omega
      have hsl : ∀ w', (Instr.slice 22 (.slice (some ⟨b, o, none⟩) n c) (some (.int .i64 3)) (some (.int .i64 (p : Int))) none).run Tryd.prog w' = .ok (.slice (subA (some ⟨b, o, none⟩) c 3 1) m (c - 3)) w' := by
        intro w'
        have := run_bytes_piece w' (some ⟨b, o, none⟩) n c 3 p (by omega) (by omega)
        rw [show p - 3 = m by omega] at this
        exact this
      have hpath : Bs w (subA (some ⟨b, o, none⟩) c 3 1) m (c - 3) ((l.drop 3).take m) := by
        have := hb.sub 3 p (by omega) (by omega)
        rw [show p - 3 = m by omega] at this
        exact this
      obtain ⟨path, epath⟩ : ∃ path, (l.drop 3).take m = path := ⟨_, rfl⟩
      rw [epath] at hpath hpos
      have hst2 := fun w' (hx : Ext w w') => Bs.string (P := Tryd.prog) (hpath.ext hx) 22 5 9 Tryd.underlying22 Tryd.underlying5 Tryd.underlying9
      have hl1 : p < l.length := by rw [hlen.out]; omega
      have hl5 : p + 5 < l.length := by rw [hlen.out]; omega
      have hcm := hc p hl1
      have hc5 := hc (p + 5) hl5
      have hq1 := rdAt_one l p hl1
      have hq5 := rdAt_one l (p + 5) hl5
      obtain ⟨g, eg⟩ : ∃ g, l[p] = g := ⟨_, rfl⟩
      obtain ⟨q, eq⟩ : ∃ q, l[p + 5] = q := ⟨_, rfl⟩
      rw [eg] at hcm hq1
      rw [eq] at hc5 hq5
      rw [hq1, hq5] at hpos
      have hgi : (g.toNat : Int) ≤ 255 := by have := g.toNat_lt; omega
      have hqi : (q.toNat : Int) ≤ 255 := by have := q.toNat_lt; omega
      obtain ⟨cnt, ecnt⟩ : ∃ cnt, q.toNat = cnt := ⟨_, rfl⟩
      rw [ecnt] at hc5 hqi hpos
      have hf4 := rdAt_lt l (p + 1) 4
      have hr2 := Lib.hid (fun w' h => rread_yes (some ⟨b, o, none⟩) n c l w' h ((p : Int) + 1) (p + 1) 4 (by omega) (by omega) (by decide) (by decide) (by omega))
      obtain ⟨f, ef⟩ : ∃ f, rdAt l (p + 1) 4 = f := ⟨_, rfl⟩
      rw [ef] at hf4 hpos hr2
      have hf5 : (f : Int) ≤ 4294967295 := by have : (256 : Nat) ^ 4 = 4294967296 := rfl; omega
      have hpos := Lib.hid hpos
      have hblX : w.heap.size + 1 ≠ w.heap.size := by omega
      clear epath eg eq ecnt ef hq1 hq5 hl1 hl5 hf4 hp hpath g3 hc
      go_enter Tryd.func62, Tryd.ntmps62
      go_wp2_with fail
      refine (hr1.out _ (hb.ext ?hx1)).mono ?_
      case hx1 => exact (Ext.alloc _ _).trans (Ext.alloc _ _)
      rintro e w1 ⟨rfl, rfl⟩
      have hst3 := hst2 ((w.alloc (.cells (recCells Rec.zero (.slice none 0 0)) 48)).alloc (.cells (recCells ⟨1, [], 0, 0, [], 0, 0, 0, 0⟩ (.slice none 0 0)) 48)) ((Ext.alloc _ _).trans (Ext.alloc _ _))
      dsimp only [recCells, Rec.zero] at hst3
      go_wp2_with fail
      refine (hr2.out _ (hb.ext ?hx2)).mono ?_
      case hx2 => exact (Ext.alloc _ _).trans (Ext.alloc _ _)
      rintro e w1 ⟨rfl, rfl⟩
      obtain ⟨w3, hw3⟩ : ∃ w3, (w.alloc (.cells (recCells Rec.zero (.slice none 0 0)) 48)).alloc (.cells (recCells ⟨1, path, g.toNat, f, [], 0, 0, 0, 0⟩ (.slice none 0 0)) 48) = w3 := ⟨_, rfl⟩
      have hx3 : Ext w w3 := by rw [← hw3]; exact (Ext.alloc _ _).trans (Ext.alloc _ _)
      have hX3 : w3.heap[w.heap.size + 1]? = some (.cells (recCells ⟨1, path, g.toNat, f, [], 0, 0, 0, 0⟩ (.slice none 0 0)) 48 (0, 0)) := by
        rw [← hw3]; simpa using heap_alloc_new (w.alloc (.cells (recCells Rec.zero (.slice none 0 0)) 48)) (.cells (recCells ⟨1, path, g.toNat, f, [], 0, 0, 0, 0⟩ (.slice none 0 0)) 48)
      have hB3 : w3.heap[w.heap.size]? = some (.cells (recCells Rec.zero (.slice none 0 0)) 48 (0, 0)) := by rw [← hw3, heap_alloc_old _ _ (by simp)]; exact heap_alloc_new _ _
      have hs3 : w.heap.size + 2 ≤ w3.heap.size := by rw [← hw3]; simp
      dsimp only [recCells, Rec.zero] at hw3
      have hw3h := Lib.hid hw3
      clear hw3 hst2 hst3
      go_wp2_with fail
      rw [hw3h.out]
      clear hw3h
      go_loopw [10] (fun i wr => ∃ (k : Nat) (v : Value), k ≤ cnt ∧ i = .int .i64 k ∧ Ext w wr ∧ wr.heap[w.heap.size + 1]? = some (.cells (recCells ⟨1, path, g.toNat, f, [], 0, 0, 0, 0⟩ v) 48 (0, 0)) ∧
          wr.heap[w.heap.size]? = some (.cells (recCells Rec.zero (.slice none 0 0)) 48 (0, 0)) ∧ wr.ownsRow (w.heap.size + 2) 68 2 v (rgAt l (p + 6) k).length (rgc (rgAt l (p + 6) k)) ∧ p + 6 + 6 * k ≤ n ∧ w.heap.size + 2 ≤ wr.heap.size) (fun i _ => cnt - (intOf i).toNat)
      case atStart => exact ⟨0, _, by omega, rfl, hx3, hX3, hB3, World.ownsRow_nil _ _ _ _, by omega, hs3⟩
      case round =>
        obtain ⟨k, v, hk, rfl, hxr, hXr, hBr, hown, hkn, hsr⟩ := hrel
        obtain ⟨av, cv, rfl, -⟩ := Sl.of_owns hown
        have c5 := hxr.cell hc5
        clear hx3 hX3 hB3 hs3 hcm
        by_cases hkc : k < cnt
        · have hkci : (k : Int) < (cnt : Int) := by omega
          by_cases hf2 : p + 10 + 6 * k + 2 ≤ n
          · have hr3 := Lib.hid (fun w' h => rread_yes (some ⟨b, o, none⟩) n c l w' h ((p : Int) + 6 + 6 * (k : Int)) (p + 6 + 6 * k) 4 (by omega) (by omega) (by decide) (by decide) (by omega))
            have hr4 := Lib.hid (fun w' h => rread_yes (some ⟨b, o, none⟩) n c l w' h ((p : Int) + 10 + 6 * (k : Int)) (p + 6 + 6 * k + 4) 2 (by omega) (by omega) (by decide) (by decide) (by omega))
            have hs4 := rdAt_lt l (p + 6 + 6 * k) 4
            have hs5 := rdAt_lt l (p + 6 + 6 * k + 4) 2
            have HS : Hid (rgAt l (p + 6) (k + 1) = rgAt l (p + 6) k ++ [((rdAt l (p + 6 + 6 * k) 4 : Int), (rdAt l (p + 6 + 6 * k + 4) 2 : Int))]) := rgAt_snoc l (p + 6) k
            obtain ⟨st, est⟩ : ∃ st, rdAt l (p + 6 + 6 * k) 4 = st := ⟨_, rfl⟩
            obtain ⟨ct, ect⟩ : ∃ ct, rdAt l (p + 6 + 6 * k + 4) 2 = ct := ⟨_, rfl⟩
            rw [est] at hr3 hs4 HS
            rw [ect] at hr4 hs5 HS
            have hsti : (st : Int) ≤ 4294967295 := by have : (256 : Nat) ^ 4 = 4294967296 := rfl; omega
            have hcti : (ct : Int) ≤ 65535 := by have : (256 : Nat) ^ 2 = 65536 := rfl; omega
            have hal := rgAt_length l (p + 6) k
            obtain ⟨acc, eacc⟩ : ∃ acc, rgAt l (p + 6) k = acc := ⟨_, rfl⟩
            rw [eacc] at hown HS hal hXr
            have hal2 : acc.length ≤ 300 := by omega
            clear est ect eacc hal hs4 hs5
            obtain ⟨dX, gX⟩ := cell0 hXr 4 (.slice av acc.length cv) rfl
            obtain ⟨a', c', wc, hrun, hoc, hgc⟩ := run_append_rung hown (by omega) hsr (st : Int) (ct : Int) 46
            have hXc := hgc.block _ (Array.getElem?_eq_some_iff.1 hXr).1 (Ne.symm (own_ne hown hXr (by decide)))
            rw [hXr] at hXc
            have hBc := hgc.block _ (Array.getElem?_eq_some_iff.1 hBr).1 (Ne.symm (own_ne hown hBr (by decide)))
            rw [hBr] at hBc
            obtain ⟨dc, gc⟩ := cell0 hXc 4 (.slice av acc.length cv) rfl
            have hxc : Ext w wc := hxr.grown hgc (fun j e => by have := owns_row hown j e; omega)
            have hxe := hxc.set (w.heap.size + 1) 4 (.slice a' (acc.length + 1) c') (by omega)
            have hXe := Lib.hid (heap_set (i := 4) hXc (.slice a' (acc.length + 1) c'))
            have hBe : Hid ((wc.setCell ⟨w.heap.size + 1, 4, none⟩ (.slice a' (acc.length + 1) c')).heap[w.heap.size]? = some (.cells (recCells Rec.zero (.slice none 0 0)) 48 (0, 0))) := by
              show _ = _
              rw [Below.heap_setCell _ _ _ _ (by show w.heap.size ≠ w.heap.size + 1; omega)]; exact hBc
            have hoe := ownsRow_setCell_other hoc (a := ⟨w.heap.size + 1, 4, none⟩) (own_ne hoc hXc (by decide)) (.slice a' (acc.length + 1) c')
            have hse : w.heap.size + 2 ≤ (wc.setCell ⟨w.heap.size + 1, 4, none⟩ (.slice a' (acc.length + 1) c')).heap.size := by have := hgc.size; simp [World.setCell]; omega
            have hrun := Lib.hid hrun
            have hXlt : w.heap.size + 1 < wr.heap.size := (Array.getElem?_eq_some_iff.1 hXr).1
            clear hXr hBr hXc hBc hown hgc hxc hoc hst hpos
            go_wp2_with fail
            refine (hr3.out _ (hb.ext hxr)).mono ?_
            rintro e w1 ⟨rfl, rfl⟩
            go_wp2_with fail
            refine (hr4.out _ (hb.ext hxr)).mono ?_
            rintro e w1 ⟨rfl, rfl⟩
            go_wp2_with (at_builtin; refine wpList_append_run2 rfl _ _ 46 rfl rfl rfl hrun.out ?_)
            go_roundw
            case rel => exact ⟨k + 1, _, by omega, by go_num, hxe, hXe.out, hBe.out, by rw [HS.out]; exact hoe, by omega, hse⟩
            case measure => simp [intOf]; omega
          · have hpos2 : Hid (posTake l = none) := by show _ = _; rw [hpos.out, if_pos (by omega)]
            obtain ⟨y0, y1, y2, y3, y4, y5, y6, y7, y8⟩ := cells9 hBr
            obtain ⟨z0, z1, z2, z3, z4, z5, z6, z7, z8⟩ := frozen9 hBr
            have hr4 := Lib.hid (fun w' h => rread_no (some ⟨b, o, none⟩) n c l w' h ((p : Int) + 10 + 6 * (k : Int)) (p + 6 + 6 * k + 4) 2 (by omega) (by omega) (by decide) (by decide) (by omega))
            clear hpos hst hBr hXr hown
            by_cases hf1 : p + 6 + 6 * k + 4 ≤ n
            · have hr3 := Lib.hid (fun w' h => rread_yes (some ⟨b, o, none⟩) n c l w' h ((p : Int) + 6 + 6 * (k : Int)) (p + 6 + 6 * k) 4 (by omega) (by omega) (by decide) (by decide) (by omega))
              go_wp2_with fail
              refine (hr3.out _ (hb.ext hxr)).mono ?_
              rintro e w1 ⟨rfl, rfl⟩
              go_wp2_with fail
              refine (hr4.out _ (hb.ext hxr)).mono ?_
              rintro e w1 ⟨rfl, rfl⟩
              have HE : Hid (y = (Rec.zero, 7)) := by show _ = _; rw [← HY.out, hpos2.out]; rfl
              clear HY
              go_wp2_with fail
              refine bodyPost_ret (v := .tuple #[rv Rec.zero none 0 0, .int .i64 7]) (by simp [results, Tryd.results62, go_sem, rv, Rec.zero, y0, y1, y2, y3, y4, y5, y6, y7, y8]) rfl ?_
              exact ⟨none, 0, 0, by rw [HE.out], by rw [HE.out]; exact rt_nil _, ext9 hxr _ _ _ _ _ _ _ _ _⟩
            · have hr3 := Lib.hid (fun w' h => rread_no (some ⟨b, o, none⟩) n c l w' h ((p : Int) + 6 + 6 * (k : Int)) (p + 6 + 6 * k) 4 (by omega) (by omega) (by decide) (by decide) (by omega))
              go_wp2_with fail
              refine (hr3.out _ (hb.ext hxr)).mono ?_
              rintro e w1 ⟨rfl, rfl⟩
              go_wp2_with fail
              refine (hr4.out _ (hb.ext hxr)).mono ?_
              rintro e w1 ⟨rfl, rfl⟩
              have HE : Hid (y = (Rec.zero, 7)) := by show _ = _; rw [← HY.out, hpos2.out]; rfl
              clear HY
              go_wp2_with fail
              refine bodyPost_ret (v := .tuple #[rv Rec.zero none 0 0, .int .i64 7]) (by simp [results, Tryd.results62, go_sem, rv, Rec.zero, y0, y1, y2, y3, y4, y5, y6, y7, y8]) rfl ?_
              exact ⟨none, 0, 0, by rw [HE.out], by rw [HE.out]; exact rt_nil _, ext9 hxr _ _ _ _ _ _ _ _ _⟩
        · obtain rfl : k = cnt := by omega
          obtain ⟨z, ez⟩ : ∃ z, (⟨1, path, g.toNat, f, rgAt l (p + 6) k, 0, 0, 0, 0⟩ : Rec) = z := ⟨_, rfl⟩
          have HR : Hid (posTake l = some z) := by show _ = _; rw [hpos.out, if_neg (by omega), ← ez]
          have hx3 := hxr
          have hB3 := hBr
          obtain ⟨base, nv, hbase, hX3, hown⟩ : ∃ (base nv : Nat), w.heap.size < base ∧ wr.heap[w.heap.size + 1]? = some (.cells (recCells z (.slice av nv cv)) 48 (0, 0)) ∧ wr.ownsRow base 68 2 (.slice av nv cv) nv (rgc z.rungs) :=
            ⟨w.heap.size + 2, _, by omega, by rw [← ez]; exact hXr, by rw [← ez]; exact hown⟩
          clear hXr hBr hpos ez hxr
          go_upto_region 35 with fail
          clear c5 hc5
          obtain ⟨⟨kind, path, method, factor, rungs, rung, time, now, value⟩, rfl⟩ : ∃ z', z = z' := ⟨z, rfl⟩
          dsimp only [recCells] at hX3 hown HR
          have HP : Hid (y = if right ⟨kind, path, method, factor, rungs, rung, time, now, value⟩ = true ∧ segPut ⟨kind, path, method, factor, rungs, rung, time, now, value⟩ = l then (⟨kind, path, method, factor, rungs, rung, time, now, value⟩, 0) else (Rec.zero, 7)) := by show _ = _; rw [← HY.out, HR.out]; rfl
          clear HY HR
          obtain ⟨x0, x1, x2, x3, x4, x5, x6, x7, x8⟩ := cells9 hX3
          have hX3h := Lib.hid hX3
          have hB3h := Lib.hid hB3
          dsimp only [recCells] at hB3h
          clear hX3 hB3
          obtain ⟨rr, hrr⟩ : ∃ rr, right ⟨kind, path, method, factor, rungs, rung, time, now, value⟩ = rr := ⟨_, rfl⟩
          rw [hrr] at HP
          cases rr with
          | false =>
            have hc0 := rputno_calls ⟨kind, path, method, factor, rungs, rung, time, now, value⟩ av nv cv wr (rg_of_own hown) hrr
            unfold rv at hc0
            dsimp only at hc0
            have hc0 := Lib.hid hc0
            clear hrr
            go_wp2_with fail
            refine hc0.out.mono ?_
            rintro e w4 ⟨rfl, hx4⟩
            have hB4 := hx4.block _ (Array.getElem?_eq_some_iff.1 hB3h.out).1
            rw [hB3h.out] at hB4
            have hx4' := hx3.trans hx4
            obtain ⟨y0, y1, y2, y3, y4, y5, y6, y7, y8⟩ := cells9 hB4
            obtain ⟨z0, z1, z2, z3, z4, z5, z6, z7, z8⟩ := frozen9 hB4
            clear hX3h hB3h hB4 hc0 x0 x1 x2 x3 x4 x5 x6 x7 x8 hx4
            have HE : Hid (y = (Rec.zero, 7)) := by show _ = _; rw [HP.out, if_neg (by simp)]
            clear HP
            go_wp2_with fail
            refine bodyPost_ret (v := .tuple #[rv Rec.zero none 0 0, .int .i64 7]) (by simp [results, Tryd.results62, go_sem, rv, Rec.zero, y0, y1, y2, y3, y4, y5, y6, y7, y8]) rfl ?_
            exact ⟨none, 0, 0, by rw [HE.out], by rw [HE.out]; exact rt_nil _, ext9 hx4' _ _ _ _ _ _ _ _ _⟩
          | true =>
            obtain ⟨sp, hsp⟩ : ∃ sp, segPut ⟨kind, path, method, factor, rungs, rung, time, now, value⟩ = sp := ⟨_, rfl⟩
            have hc0 := rrput_calls ⟨kind, path, method, factor, rungs, rung, time, now, value⟩ av nv cv wr (rg_of_own hown) hrr
            rw [hsp] at hc0 HP
            unfold rv at hc0
            dsimp only at hc0
            have hc0 := Lib.hid hc0
            clear hrr hsp
            go_wp2_with fail
            refine hc0.out.mono ?_
            rintro e w4 ⟨v4, rfl, ho4, hx4⟩
            obtain ⟨a4, n4, c4, rfl, hb4⟩ := ho4.bs
            have hst4 := Bs.string (P := Tryd.prog) hb4 22 5 9 Tryd.underlying22 Tryd.underlying5 Tryd.underlying9
            have hX4 := hx4.block _ (Array.getElem?_eq_some_iff.1 hX3h.out).1
            rw [hX3h.out] at hX4
            have hB4 := hx4.block _ (Array.getElem?_eq_some_iff.1 hB3h.out).1
            rw [hB3h.out] at hB4
            have hx4' := hx3.trans hx4
            have hst5 := hst w4 hx4'
            have hown4 := owns_ext hown hx4
            obtain ⟨x0', x1', x2', x3', x4', x5', x6', x7', x8'⟩ := cells9 hX4
            obtain ⟨y0, y1, y2, y3, y4, y5, y6, y7, y8⟩ := cells9 hB4
            obtain ⟨z0, z1, z2, z3, z4, z5, z6, z7, z8⟩ := frozen9 hB4
            clear hX3h hB3h hX4 hB4 hc0 x0 x1 x2 x3 x4 x5 x6 x7 x8 hx4 hst ho4 hb4
            by_cases heq : sp = l
            · have HE : Hid (y = (⟨kind, path, method, factor, rungs, rung, time, now, value⟩, 0)) := by show _ = _; rw [HP.out, if_pos ⟨(by first | trivial | rfl), heq⟩]
              clear HP
              subst heq
              go_wp2_with fail
              refine bodyPost_ret (v := .tuple #[rv ⟨kind, path, method, factor, rungs, rung, time, now, value⟩ av nv cv, .int .i64 0]) (by simp [results, Tryd.results62, go_sem, rv, y0, y1, y2, y3, y4, y5, y6, y7, y8]) rfl ?_
              exact ⟨av, nv, cv, by rw [HE.out], by rw [HE.out]; exact rt_of_own (own9 hown4 hbase _ _ _ _ _ _ _ _ _), ext9 hx4' _ _ _ _ _ _ _ _ _⟩
            · have heqb : (sp == l) = false := by simpa using heq
              have HE : Hid (y = (Rec.zero, 7)) := by show _ = _; rw [HP.out, if_neg (fun h => heq h.2)]
              clear HP
              go_wp2_with fail
              refine bodyPost_ret (v := .tuple #[rv Rec.zero none 0 0, .int .i64 7]) (by simp [results, Tryd.results62, go_sem, rv, Rec.zero, y0, y1, y2, y3, y4, y5, y6, y7, y8]) rfl ?_
              exact ⟨none, 0, 0, by rw [HE.out], by rw [HE.out]; exact rt_nil _, ext9 hx4' _ _ _ _ _ _ _ _ _⟩

theorem rtake8_calls (a : Option Addr) (n c : Nat) (l : List UInt8) (w : World) (hb : Bs w a n c l) :
    Calls Tryd.prog 62 #[.slice a n c] w fun e w' => ∃ a' n' c', e = .returned (.tuple #[rv (segTake l).1 a' n' c', .int .i64 (segTake l).2]) ∧ Rt w' a' n' c' (segTake l).1.rungs ∧ Ext w w' := by
  cases l with
  | nil =>
    obtain rfl : n = 0 := hb.len.symm
    exact rtakenil_calls a c w
  | cons x l =>
    by_cases h1 : x = 1
    · exact rtake1_calls a n c _ w hb x rfl h1
    · by_cases h2 : x = 2
      · exact rtake2_calls a n c _ w hb x rfl h2
      · by_cases h3 : x = 3
        · exact rtake3_calls a n c _ w hb x rfl h3
        · exact rtake0_calls a n c _ w hb x rfl h1 h2 h3
end Go.Proofs.YtkflikfcpdekdaaDoor

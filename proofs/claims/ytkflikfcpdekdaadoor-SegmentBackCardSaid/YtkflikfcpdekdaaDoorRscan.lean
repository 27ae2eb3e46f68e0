/-
  A segment's scan: the reference's.
-/
import Derived.Test.YtkflikfcpdekdaaDoorScan
import Derived.Test.YtkflikfcpdekdaaDoorSegRtake1
namespace Go.Proofs.YtkflikfcpdekdaaDoor
open Go.RowKit

set_option maxRecDepth 100000 in
set_option maxHeartbeats 6400000 in
theorem rscan_calls (a : Option Addr) (n c : Nat) (l : List UInt8) (w : World) (hn : n ≤ 1000000) (hb : Bs w a n c l) :
    Calls Tryd.prog 46 #[.slice a n c] w fun e w' => ScanOut w w' (segScan l) e := by
  have hlen := Lib.hid hb.len
  have hle := Sl.le hb
  have hmx := Sl.max hb
  unfold maxLen at hmx
  obtain ⟨z, hz⟩ : ∃ z, segScan l = z := ⟨_, rfl⟩
  rw [hz]
  obtain ⟨p, m, e0, hp⟩ : ∃ p m e0, frTake l = (p, m, e0) := ⟨_, _, _, rfl⟩
  by_cases hq : e0 = 0
  · subst hq
    obtain ⟨y, hy⟩ : ∃ y, segTake p = y := ⟨_, rfl⟩
    have hst := fun a n c w h => rtake8_calls a n c p w h
    rw [hy] at hst
    obtain ⟨r, er⟩ := y
    have hft : (frTake l).2.2 = 0 := by rw [hp]
    have hnx : er = 0 → nxt l = some (r, m) := fun h => by
      rw [nxt_yes _ hft (by rw [hp]; dsimp only; rw [hy]; exact h), hp]
      dsimp only
      rw [hy]
    have hnn : er ≠ 0 → nxt l = none := fun h => nxt_no2 _ (by rw [hp]; dsimp only; rw [hy]; exact h)
    obtain ⟨kind, path, method, factor, rungs, rung, time, now, value⟩ := r
    unfold rv at hst
    dsimp only at hst
    have hst := Lib.hid hst
    have hp := Lib.hid hp
    clear hft hy
    by_cases hok : er = 0 ∧ kind = 1
    · obtain ⟨hok, hk⟩ := hok
      subst hok hk
      have hnx := hnx rfl
      have hsz := nxt_some l _ m hnx
      rw [hlen.out] at hsz
      have HZ : Hid (z = (⟨1, path, method, factor, rungs, rung, time, now, value⟩, (recs (l.drop m)).1, m + (recs (l.drop m)).2, 0)) := by show _ = _; rw [← hz, segScan_head l _ m hnx rfl]
      clear hz hnx hnn
      go_enter Tryd.func46, Tryd.ntmps46
      go_wp2_with fail
      refine (rtake_calls a n c l _ (hb.ext (Ext.alloc _ _))).mono ?_
      rw [hp.out]
      rintro e w1 ⟨a1, n1, c1, rfl, hb1, hx1⟩
      have hB1 := hx1.block w.heap.size (by simp)
      rw [heap_alloc_new] at hB1
      have hxx := (Ext.alloc w _).trans hx1
      go_wp2_with fail
      refine (hst.out a1 n1 c1 w1 hb1.1).mono ?_
      rintro e w2 ⟨a2, n2, c2, rfl, hg2, hx2⟩
      have hB2 := hx2.block _ (Array.getElem?_eq_some_iff.1 hB1).1
      rw [hB1] at hB2
      have hxx2 := hxx.trans hx2
      have hsz2 : w.heap.size < w2.heap.size := by have := (hx1.trans hx2).size; simp at this; omega
      go_wp2_with fail
      obtain ⟨w3, hw3⟩ : ∃ w3, w2.alloc (.cells #[.int .i64 1, .string ⟨path.toArray⟩, .int .i64 method, .int .i64 factor, .slice a2 n2 c2, .int .i64 rung, .int .i64 time, .int .i64 now, .int .i64 value] 48) = w3 := ⟨_, rfl⟩
      have hx3 : Ext w2 w3 := by rw [← hw3]; exact Ext.alloc _ _
      have hB3 := hx3.block _ (Array.getElem?_eq_some_iff.1 hB2).1
      rw [hB2] at hB3
      have hH3 : w3.heap[w2.heap.size]? = some (.cells #[.int .i64 1, .string ⟨path.toArray⟩, .int .i64 method, .int .i64 factor, .slice a2 n2 c2, .int .i64 rung, .int .i64 time, .int .i64 now, .int .i64 value] 48 (0, 0)) := by rw [← hw3]; exact heap_alloc_new _ _
      have hg3 := rt_ext hg2 hx3
      have hxx3 := hxx2.trans hx3
      have hs3 : w2.heap.size + 1 ≤ w3.heap.size := by rw [← hw3]; simp
      rw [hw3]
      clear hw3 hx3 hB2 hg2 hst hb1 hx1 hx2 hB1 hxx
      go_loopw [7, 10] (fun s v wr => ∃ (M : List El) (k : Nat), s = .int .i64 k ∧ k ≤ n ∧ M.length ≤ k ∧ m ≤ k ∧ wr.ownsRow (w2.heap.size + 1) 48 9 v M.length (lcells M) ∧ (∀ e ∈ M, Rt wr e.2.1 e.2.2.1 e.2.2.2 e.1.rungs) ∧
          wr.heap[w2.heap.size]? = some (.cells #[.int .i64 1, .string ⟨path.toArray⟩, .int .i64 method, .int .i64 factor, .slice a2 n2 c2, .int .i64 rung, .int .i64 time, .int .i64 now, .int .i64 value] 48 (0, 0)) ∧
          wr.heap[w.heap.size]? = some (.cells #[.int .i64 0, .string ⟨([] : List UInt8).toArray⟩, .int .i64 0, .int .i64 0, .slice none 0 0, .int .i64 0, .int .i64 0, .int .i64 0, .int .i64 0] 48 (0, 0)) ∧ Rt wr a2 n2 c2 rungs ∧ Ext w wr ∧ w2.heap.size + 1 ≤ wr.heap.size ∧
          recs (l.drop m) = (M.map (·.1) ++ (recs (l.drop k)).1, (k - m) + (recs (l.drop k)).2)) (fun s _ _ => n - (intOf s).toNat)
      case atStart => exact ⟨[], m, rfl, by omega, by simp, Nat.le_refl _, World.ownsRow_nil _ _ _ _, (fun _ h => by cases h), hH3, hB3, hg3, hxx3, hs3, by simp⟩
      case round =>
        obtain ⟨M, k, rfl, hk, hMk, hmk, hown, hall, hHr, hBr, hgr, hxr, hsr, hrec⟩ := hrel
        obtain ⟨av, cv, rfl, -⟩ := Sl.of_owns hown
        have hbk : Bs wr (subA a c k 1) (n - k) (c - k) (l.drop k) := by
          have := (hb.ext hxr).sub k n hk (Nat.le_refl _)
          rwa [List.take_of_length_le (by rw [List.length_drop, hlen.out]; exact Nat.le_refl _)] at this
        have HR := Lib.hid hrec
        have hkc : (k : Int) ≤ (n : Int) := by omega
        clear hrec hH3 hB3 hg3 hxx3 hs3
        obtain ⟨p2, m2, e2, hp2⟩ : ∃ p m e0, frTake (l.drop k) = (p, m, e0) := ⟨_, _, _, rfl⟩
        by_cases hq2 : e2 = 0
        · obtain ⟨y2, hy2⟩ : ∃ y, segTake p2 = y := ⟨_, rfl⟩
          have hst2 := fun a n c w h => rtake8_calls a n c p2 w h
          rw [hy2] at hst2
          obtain ⟨r2, er2⟩ := y2
          subst hq2
          have hft : (frTake (l.drop k)).2.2 = 0 := by rw [hp2]
          have hnx : er2 = 0 → nxt (l.drop k) = some (r2, m2) := fun h => by
            rw [nxt_yes _ hft (by rw [hp2]; dsimp only; rw [hy2]; exact h), hp2]
            dsimp only
            rw [hy2]
          have hnn : er2 ≠ 0 → nxt (l.drop k) = none := fun h => nxt_no2 _ (by rw [hp2]; dsimp only; rw [hy2]; exact h)
          obtain ⟨kind2, path2, method2, factor2, rungs2, rung2, time2, now2, value2⟩ := r2
          unfold rv at hst2
          dsimp only at hst2
          have hst2 := Lib.hid hst2
          have hp2 := Lib.hid hp2
          clear hft hy2
          by_cases hok : er2 = 0 ∧ kind2 ≠ 1
          · obtain ⟨hok, hk2⟩ := hok
            subst hok
            have hnx := hnx rfl
            have hsz5 := nxt_some _ _ m2 hnx
            rw [List.length_drop, hlen.out] at hsz5
            have hr0 := recs_step _ _ m2 hnx hk2
            have HS : Hid (recs (l.drop m) = (M.map (·.1) ++ ⟨kind2, path2, method2, factor2, rungs2, rung2, time2, now2, value2⟩ :: (recs (l.drop (k + m2))).1, k + m2 - m + (recs (l.drop (k + m2))).2)) := by
              show _ = _
              rw [HR.out, hr0, List.drop_drop]
              dsimp only
              rw [show k - m + (m2 + (recs (l.drop (k + m2))).2) = k + m2 - m + (recs (l.drop (k + m2))).2 by omega]
            have hkb : (kind2 == 1) = false := by simp [hk2]
            clear hr0 HR hnx hnn hk2
            go_wp2_with fail
            refine (rtake_calls _ _ _ _ wr hbk).mono ?_
            rw [hp2.out]
            rintro e w4 ⟨a4, n4, c4, rfl, hb4, hx4a⟩
            go_wp2_with fail
            refine (hst2.out a4 n4 c4 w4 hb4.1).mono ?_
            rintro e w5 ⟨a3, n3, c3, rfl, hg5, hx5a⟩
            obtain ⟨x, hxe⟩ : ∃ x : El, x = (⟨kind2, path2, method2, factor2, rungs2, rung2, time2, now2, value2⟩, (a3, n3, c3)) := ⟨_, rfl⟩
            have hx4 := (hx4a.trans hx5a).trans (Ext.alloc w5 (.cells (recCells x.1 (.slice x.2.1 x.2.2.1 x.2.2.2)) 48))
            have ho4 := owns_ext hown hx4
            have hs4 : w2.heap.size + 1 ≤ (w5.alloc (.cells (recCells x.1 (.slice x.2.1 x.2.2.1 x.2.2.2)) 48)).heap.size := Nat.le_trans hsr hx4.size
            obtain ⟨a5, c5, w6, hrun, ho5, hg6⟩ := run_append_rec ho4 (by omega) hs4 x 51
            have hrow := owns_block ho4
            have hH4 := hx4.block _ (Array.getElem?_eq_some_iff.1 hHr).1
            rw [hHr] at hH4
            have hH5 := hg6.block _ (Array.getElem?_eq_some_iff.1 hH4).1 (fun he => by have := owns_row ho4 _ he.symm; omega)
            rw [hH4] at hH5
            have hB4 := hx4.block _ (Array.getElem?_eq_some_iff.1 hBr).1
            rw [hBr] at hB4
            have hB5 := hg6.block _ (Array.getElem?_eq_some_iff.1 hB4).1 (fun he => by have := owns_row ho4 _ he.symm; omega)
            rw [hB4] at hB5
            have hall5 : ∀ e ∈ M ++ [x], Rt w6 e.2.1 e.2.2.1 e.2.2.2 e.1.rungs := by
              intro e he
              rcases List.mem_append.1 he with he | he
              · exact (rt_ext (hall e he) hx4).grown hg6 hrow (by decide)
              · obtain rfl : e = x := by simpa using he
                subst hxe
                exact (rt_ext hg5 (Ext.alloc _ _)).grown hg6 hrow (by decide)
            have hgr5 := (rt_ext hgr hx4).grown hg6 hrow (by decide)
            have hx5 : Ext w w6 := (hxr.trans hx4).grown hg6 (fun j e => by have := owns_row ho4 j e; omega)
            have hs5 : w2.heap.size + 1 ≤ w6.heap.size := Nat.le_trans hs4 hg6.size
            have hM5 : (M ++ [x]).map (·.1) = M.map (·.1) ++ [⟨kind2, path2, method2, factor2, rungs2, rung2, time2, now2, value2⟩] := by rw [hxe]; simp
            rw [hxe] at hrun
            dsimp only [recCells] at hrun
            rw [sz_alloc] at hrun
            have hrun := Lib.hid hrun
            have HM5 := Lib.hid hM5
            clear hown hall hHr hBr hgr hx4 ho4 hs4 hB4 hH4 hrow hg6 hg5 hM5 hxe hb4
            go_wp2_with (at_builtin; refine wpList_append_run2 rfl _ _ 51 rfl rfl rfl hrun.out ?_)
            go_roundw
            case rel => exact ⟨M ++ [x], k + m2, by go_num, by omega, by simp; omega, by omega, ho5, hall5, hH5, hB5, hgr5, hx5, hs5, by rw [HS.out, HM5.out]; simp⟩
            case measure => simp [intOf]; omega
          · have HE : Hid (z = (⟨1, path, method, factor, rungs, rung, time, now, value⟩, M.map (·.1), k, 0)) := by
              show _ = _
              have hr0 : recs (l.drop k) = ([], 0) := by
                by_cases h0 : er2 = 0
                · exact recs_head _ _ m2 (hnx h0) (Decidable.byContradiction fun h => hok ⟨h0, h⟩)
                · exact recs_none _ (hnn h0)
              rw [HZ.out, HR.out, hr0]; simp; omega
            have hcase : (er2 ≠ 0) ∨ (er2 = 0 ∧ kind2 = 1) := by
              by_cases h0 : er2 = 0
              · exact .inr ⟨h0, Decidable.byContradiction fun h => hok ⟨h0, h⟩⟩
              · exact .inl h0
            clear hnx hnn HR HZ hok
            rcases hcase with h0 | ⟨rfl, rfl⟩
            · have h0b : (er2 != 0) = true := by simp [h0]
              clear h0
              go_wp2_with fail
              refine (rtake_calls _ _ _ _ wr hbk).mono ?_
              rw [hp2.out]
              rintro e w4 ⟨a4, n4, c4, rfl, hb4, hx4a⟩
              go_wp2_with fail
              refine (hst2.out a4 n4 c4 w4 hb4.1).mono ?_
              rintro e w5 ⟨a3, n3, c3, rfl, hg5, hx5a⟩
              have hx4 := hx4a.trans hx5a
              clear hb4 hg5
              have hB4 := hx4.block _ (Array.getElem?_eq_some_iff.1 hBr).1
              rw [hBr] at hB4
              have hH4 := hx4.block _ (Array.getElem?_eq_some_iff.1 hHr).1
              rw [hHr] at hH4
              have ho4 := owns_ext hown hx4
              have hgr4 := rt_ext hgr hx4
              have hall4 : ∀ e ∈ M, Rt w5 e.2.1 e.2.2.1 e.2.2.2 e.1.rungs := fun e he => rt_ext (hall e he) hx4
              have hx5 := hxr.trans hx4
              have hsz3 : w.heap.size < w5.heap.size := by have := hx4.size; omega
              have hsz4 : w2.heap.size < w5.heap.size := by have := hx4.size; omega
              obtain ⟨y0, y1, y2, y3, y4, y5, y6, y7, y8⟩ := cells9 hB4
              obtain ⟨z0, z1, z2, z3, z4, z5, z6, z7, z8⟩ := frozen9 hB4
              obtain ⟨h0, h1, h2, h3, h4, h5, h6, h7, h8⟩ := cells9 hH4
              have hne : w2.heap.size ≠ w.heap.size := by omega
              clear hown hall hBr hHr hgr hx4
              go_wp2_with fail
              refine bodyPost_ret (v := .tuple #[.agg #[.int .i64 1, .string ⟨path.toArray⟩, .int .i64 method, .int .i64 factor, .slice a2 n2 c2, .int .i64 rung, .int .i64 time, .int .i64 now, .int .i64 value], .slice av M.length cv, .int .i64 k, .int .i64 0]) (by simp [results, Tryd.results46, go_sem, y0, y1, y2, y3, y4, y5, y6, y7, y8, hsz3]) rfl ?_
              exact ⟨a2, n2, c2, av, M.length, cv, M, by rw [HE.out]; rfl, by rw [HE.out]; exact rt_ext (rt_set9 hgr4 hB4 (by decide) _ _ _ _ _ _ _ _ _) (Ext.alloc _ _),
                rcf_ext (rcf_of_own (own9 ho4 (by omega) _ _ _ _ _ _ _ _ _) (by omega) (fun e he => rt_set9 (hall4 e he) hB4 (by decide) _ _ _ _ _ _ _ _ _)) (Ext.alloc _ _), by rw [HE.out], (ext9 hx5 _ _ _ _ _ _ _ _ _).trans (Ext.alloc _ _)⟩
            · skip
              go_wp2_with fail
              refine (rtake_calls _ _ _ _ wr hbk).mono ?_
              rw [hp2.out]
              rintro e w4 ⟨a4, n4, c4, rfl, hb4, hx4a⟩
              go_wp2_with fail
              refine (hst2.out a4 n4 c4 w4 hb4.1).mono ?_
              rintro e w5 ⟨a3, n3, c3, rfl, hg5, hx5a⟩
              have hx4 := hx4a.trans hx5a
              clear hb4 hg5
              have hB4 := hx4.block _ (Array.getElem?_eq_some_iff.1 hBr).1
              rw [hBr] at hB4
              have hH4 := hx4.block _ (Array.getElem?_eq_some_iff.1 hHr).1
              rw [hHr] at hH4
              have ho4 := owns_ext hown hx4
              have hgr4 := rt_ext hgr hx4
              have hall4 : ∀ e ∈ M, Rt w5 e.2.1 e.2.2.1 e.2.2.2 e.1.rungs := fun e he => rt_ext (hall e he) hx4
              have hx5 := hxr.trans hx4
              have hsz3 : w.heap.size < w5.heap.size := by have := hx4.size; omega
              have hsz4 : w2.heap.size < w5.heap.size := by have := hx4.size; omega
              obtain ⟨y0, y1, y2, y3, y4, y5, y6, y7, y8⟩ := cells9 hB4
              obtain ⟨z0, z1, z2, z3, z4, z5, z6, z7, z8⟩ := frozen9 hB4
              obtain ⟨h0, h1, h2, h3, h4, h5, h6, h7, h8⟩ := cells9 hH4
              have hne : w2.heap.size ≠ w.heap.size := by omega
              clear hown hall hBr hHr hgr hx4
              go_wp2_with fail
              refine bodyPost_ret (v := .tuple #[.agg #[.int .i64 1, .string ⟨path.toArray⟩, .int .i64 method, .int .i64 factor, .slice a2 n2 c2, .int .i64 rung, .int .i64 time, .int .i64 now, .int .i64 value], .slice av M.length cv, .int .i64 k, .int .i64 0]) (by simp [results, Tryd.results46, go_sem, y0, y1, y2, y3, y4, y5, y6, y7, y8, hsz3]) rfl ?_
              exact ⟨a2, n2, c2, av, M.length, cv, M, by rw [HE.out]; rfl, by rw [HE.out]; exact rt_ext (rt_set9 hgr4 hB4 (by decide) _ _ _ _ _ _ _ _ _) (Ext.alloc _ _),
                rcf_ext (rcf_of_own (own9 ho4 (by omega) _ _ _ _ _ _ _ _ _) (by omega) (fun e he => rt_set9 (hall4 e he) hB4 (by decide) _ _ _ _ _ _ _ _ _)) (Ext.alloc _ _), by rw [HE.out], (ext9 hx5 _ _ _ _ _ _ _ _ _).trans (Ext.alloc _ _)⟩
        · have HE : Hid (z = (⟨1, path, method, factor, rungs, rung, time, now, value⟩, M.map (·.1), k, 0)) := by
            show _ = _
            rw [HZ.out, HR.out, recs_none _ (nxt_no1 _ (by rw [hp2]; exact hq2))]; simp; omega
          have h0b : ((e2 : Int) != 0) = true := by rw [bne_iff_ne]; omega
          have hp2 := Lib.hid hp2
          clear HR HZ hq2
          go_wp2_with fail
          refine (rtake_calls _ _ _ _ wr hbk).mono ?_
          rw [hp2.out]
          rintro e w4 ⟨a4, n4, c4, rfl, hb4, hx4⟩
          clear hb4
          have hB4 := hx4.block _ (Array.getElem?_eq_some_iff.1 hBr).1
          rw [hBr] at hB4
          have hH4 := hx4.block _ (Array.getElem?_eq_some_iff.1 hHr).1
          rw [hHr] at hH4
          have ho4 := owns_ext hown hx4
          have hgr4 := rt_ext hgr hx4
          have hall4 : ∀ e ∈ M, Rt w4 e.2.1 e.2.2.1 e.2.2.2 e.1.rungs := fun e he => rt_ext (hall e he) hx4
          have hx5 := hxr.trans hx4
          have hsz3 : w.heap.size < w4.heap.size := by have := hx4.size; omega
          have hsz4 : w2.heap.size < w4.heap.size := by have := hx4.size; omega
          obtain ⟨y0, y1, y2, y3, y4, y5, y6, y7, y8⟩ := cells9 hB4
          obtain ⟨z0, z1, z2, z3, z4, z5, z6, z7, z8⟩ := frozen9 hB4
          obtain ⟨h0, h1, h2, h3, h4, h5, h6, h7, h8⟩ := cells9 hH4
          have hne : w2.heap.size ≠ w.heap.size := by omega
          clear hown hall hBr hHr hgr hx4
          go_wp2_with fail
          refine bodyPost_ret (v := .tuple #[.agg #[.int .i64 1, .string ⟨path.toArray⟩, .int .i64 method, .int .i64 factor, .slice a2 n2 c2, .int .i64 rung, .int .i64 time, .int .i64 now, .int .i64 value], .slice av M.length cv, .int .i64 k, .int .i64 0]) (by simp [results, Tryd.results46, go_sem, y0, y1, y2, y3, y4, y5, y6, y7, y8]) rfl ?_
          exact ⟨a2, n2, c2, av, M.length, cv, M, by rw [HE.out]; rfl, by rw [HE.out]; exact (rt_set9 hgr4 hB4 (by decide) _ _ _ _ _ _ _ _ _),
            (rcf_of_own (own9 ho4 (by omega) _ _ _ _ _ _ _ _ _) (by omega) (fun e he => rt_set9 (hall4 e he) hB4 (by decide) _ _ _ _ _ _ _ _ _)), by rw [HE.out], (ext9 hx5 _ _ _ _ _ _ _ _ _)⟩
    · have HE : Hid (z = (Rec.zero, [], 0, 7)) := by
        show _ = _
        rw [← hz]
        by_cases h0 : er = 0
        · exact segScan_other l _ m (hnx h0) (fun h => hok ⟨h0, h⟩)
        · exact segScan_none l (hnn h0)
      have hcase : (er ≠ 0) ∨ (er = 0 ∧ kind ≠ 1) := by
        by_cases h0 : er = 0
        · exact .inr ⟨h0, fun h => hok ⟨h0, h⟩⟩
        · exact .inl h0
      clear hz hnx hnn hok
      rcases hcase with h0 | ⟨rfl, h0⟩
      · have h0b : (er != 0) = true := by simp [h0]
        clear h0
        go_enter Tryd.func46, Tryd.ntmps46
        go_wp2_with fail
        refine (rtake_calls a n c l _ (hb.ext (Ext.alloc _ _))).mono ?_
        rw [hp.out]
        rintro e w1 ⟨a1, n1, c1, rfl, hb1, hx1⟩
        have hB1 := hx1.block w.heap.size (by simp)
        rw [heap_alloc_new] at hB1
        have hxx := (Ext.alloc w _).trans hx1
        go_wp2_with fail
        refine (hst.out a1 n1 c1 w1 hb1.1).mono ?_
        rintro e w2 ⟨a2, n2, c2, rfl, hg2, hx2⟩
        have hB2 := hx2.block _ (Array.getElem?_eq_some_iff.1 hB1).1
        rw [hB1] at hB2
        have hxx2 := hxx.trans hx2
        have hsz2 : w.heap.size < w2.heap.size := by have := (hx1.trans hx2).size; simp at this; omega
        obtain ⟨y0, y1, y2, y3, y4, y5, y6, y7, y8⟩ := cells9 hB2
        obtain ⟨z0, z1, z2, z3, z4, z5, z6, z7, z8⟩ := frozen9 hB2
        clear hB1 hB2 hg2 hb1 hx1 hx2
        go_wp2_with fail
        refine bodyPost_ret (v := .tuple #[rv Rec.zero none 0 0, .slice none 0 0, .int .i64 0, .int .i64 7]) (by simp [results, Tryd.results46, go_sem, rv, Rec.zero, y0, y1, y2, y3, y4, y5, y6, y7, y8, hsz2]) rfl ?_
        exact ⟨none, 0, 0, none, 0, 0, [], by rw [HE.out]; rfl, by rw [HE.out]; exact rt_nil _, rcf_nil _ _, by rw [HE.out]; rfl, (ext9 hxx2 _ _ _ _ _ _ _ _ _).trans (Ext.alloc _ _)⟩
      · have h0b : (kind != 1) = true := by simp [h0]
        clear h0
        go_enter Tryd.func46, Tryd.ntmps46
        go_wp2_with fail
        refine (rtake_calls a n c l _ (hb.ext (Ext.alloc _ _))).mono ?_
        rw [hp.out]
        rintro e w1 ⟨a1, n1, c1, rfl, hb1, hx1⟩
        have hB1 := hx1.block w.heap.size (by simp)
        rw [heap_alloc_new] at hB1
        have hxx := (Ext.alloc w _).trans hx1
        go_wp2_with fail
        refine (hst.out a1 n1 c1 w1 hb1.1).mono ?_
        rintro e w2 ⟨a2, n2, c2, rfl, hg2, hx2⟩
        have hB2 := hx2.block _ (Array.getElem?_eq_some_iff.1 hB1).1
        rw [hB1] at hB2
        have hxx2 := hxx.trans hx2
        have hsz2 : w.heap.size < w2.heap.size := by have := (hx1.trans hx2).size; simp at this; omega
        obtain ⟨y0, y1, y2, y3, y4, y5, y6, y7, y8⟩ := cells9 hB2
        obtain ⟨z0, z1, z2, z3, z4, z5, z6, z7, z8⟩ := frozen9 hB2
        clear hB1 hB2 hg2 hb1 hx1 hx2
        go_wp2_with fail
        refine bodyPost_ret (v := .tuple #[rv Rec.zero none 0 0, .slice none 0 0, .int .i64 0, .int .i64 7]) (by simp [results, Tryd.results46, go_sem, rv, Rec.zero, y0, y1, y2, y3, y4, y5, y6, y7, y8, hsz2]) rfl ?_
        exact ⟨none, 0, 0, none, 0, 0, [], by rw [HE.out]; rfl, by rw [HE.out]; exact rt_nil _, rcf_nil _ _, by rw [HE.out]; rfl, (ext9 hxx2 _ _ _ _ _ _ _ _ _).trans (Ext.alloc _ _)⟩
  · have HE : Hid (z = (Rec.zero, [], 0, 7)) := by show _ = _; rw [← hz, segScan_none l (nxt_no1 l (by rw [hp]; exact hq))]
    have h0b : ((e0 : Int) != 0) = true := by rw [bne_iff_ne]; omega
    have hp := Lib.hid hp
    clear hz hq
    go_enter Tryd.func46, Tryd.ntmps46
    go_wp2_with fail
    refine (rtake_calls a n c l _ (hb.ext (Ext.alloc _ _))).mono ?_
    rw [hp.out]
    rintro e w1 ⟨a1, n1, c1, rfl, hb1, hx1⟩
    have hB1 := hx1.block w.heap.size (by simp)
    rw [heap_alloc_new] at hB1
    have hxx := (Ext.alloc w _).trans hx1
    obtain ⟨y0, y1, y2, y3, y4, y5, y6, y7, y8⟩ := cells9 hB1
    obtain ⟨z0, z1, z2, z3, z4, z5, z6, z7, z8⟩ := frozen9 hB1
    clear hB1 hb1 hx1
    go_wp2_with fail
    refine bodyPost_ret (v := .tuple #[rv Rec.zero none 0 0, .slice none 0 0, .int .i64 0, .int .i64 7]) (by simp [results, Tryd.results46, go_sem, rv, Rec.zero, y0, y1, y2, y3, y4, y5, y6, y7, y8]) rfl ?_
    exact ⟨none, 0, 0, none, 0, 0, [], by rw [HE.out]; rfl, by rw [HE.out]; exact rt_nil _, rcf_nil _ _, by rw [HE.out]; rfl, ext9 hxx _ _ _ _ _ _ _ _ _⟩
end Go.Proofs.YtkflikfcpdekdaaDoor

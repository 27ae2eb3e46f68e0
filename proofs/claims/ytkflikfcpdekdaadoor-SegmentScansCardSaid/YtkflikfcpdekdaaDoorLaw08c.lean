/-
  Layer 8's statements: the walk of SegmentScans.
-/
import Derived.Test.YtkflikfcpdekdaaDoorLaw08a
import Derived.Test.YtkflikfcpdekdaaDoorRscan
namespace Go.Proofs.YtkflikfcpdekdaaDoor
open Go.RowKit

set_option maxRecDepth 100000 in
set_option maxHeartbeats 1600000 in
theorem segscans_walk (a : Option Addr) (n c : Nat) (l : List UInt8) (w : World) (hT : Tab w) (hb : Bs w a n c l) :
    Calls Tryd.prog 12 #[.slice a n c] w fun e w' => e = .returned (.bool true) ∧ Ext w w' := by
  have hbh := Lib.hid hb
  have hlen := Lib.hid hb.len
  clear hb
  by_cases hg : 5000 < n
  · have hgb : decide ((5000 : Int) < (n : Int)) = true := by simp; omega
    go_enter Tryd.func12, Tryd.ntmps12
    go_wp2_with fail
    refine (alive08_calls w).mono ?_
    rintro e w1 ⟨rfl, hx1⟩
    go_wp2
    go_ret
    exact ⟨rfl, hx1⟩
  · have hgb : decide ((5000 : Int) < (n : Int)) = false := by simp; omega
    have hscan := fun a n c w h1 h2 h3 => scan_calls a n c l w h1 h2 h3
    have hrscan := fun a n c w h1 h3 => rscan_calls a n c l w h1 h3
    obtain ⟨z, hz⟩ : ∃ z, segScan l = z := ⟨_, rfl⟩
    rw [hz] at hscan hrscan
    clear hz
    obtain ⟨⟨kind, path, method, factor, rungs, rung, time, now, value⟩, L, sz, er⟩ := z
    unfold ScanOut rv at hscan hrscan
    dsimp only at hscan hrscan
    have hscan := Lib.hid hscan
    have hrscan := Lib.hid hrscan
    go_enter Tryd.func12, Tryd.ntmps12
    go_wp2_with fail
    refine (alive08_calls w).mono ?_
    rintro e w1 ⟨rfl, hx1⟩
    go_wp2_with fail
    refine (copy_calls a n c l w1 (by omega) (hbh.out.ext hx1)).mono ?_
    rintro e w2 ⟨v, rfl, ho, hx2⟩
    obtain ⟨a2, n2, c2, rfl, hb2⟩ := ho.bs
    have hxx2 := hx1.trans hx2
    have hn2 : n2 ≤ 1000000 := by have := hb2.len; have := hlen.out; omega
    clear ho
    go_wp2_with fail
    refine (hscan.out a2 n2 c2 w2 hn2 (hT.ext hxx2) hb2).mono ?_
    rintro e w3 ⟨a3, n3, c3, a4, n4, c4, M, rfl, hg3, hr3, hM, hx3⟩
    have hxx3 := hxx2.trans hx3
    have hx3a : Ext w3 (w3.alloc (.cells #[.int .i64 kind, .string ⟨path.toArray⟩, .int .i64 method, .int .i64 factor, .slice a3 n3 c3, .int .i64 rung, .int .i64 time, .int .i64 now, .int .i64 value] 48)) := Ext.alloc _ _
    have HM := Lib.hid hM
    clear hM
    go_wp2_with fail
    refine (hrscan.out a n c _ (by omega) (hbh.out.ext (hxx3.trans hx3a))).mono ?_
    rintro e w4 ⟨a5, n5, c5, a6, n6, c6, M2, rfl, hg4, hr4, hM2, hx4⟩
    have HM2 := Lib.hid hM2
    clear hM2
    have hB := hx4.block w3.heap.size (by simp)
    rw [heap_alloc_new] at hB
    obtain ⟨x0, x1, x2, x3, x4, x5, x6, x7, x8⟩ := cells9 hB
    have hsz : w3.heap.size < w4.heap.size := by have := hx4.size; simp at this; omega
    have hx34 := hx3a.trans hx4
    clear hB
    go_wp2_with fail
    refine (same8_calls ⟨kind, path, method, factor, rungs, rung, time, now, value⟩ a3 n3 c3 ⟨kind, path, method, factor, rungs, rung, time, now, value⟩ a5 n5 c5 _ ((hg3.ext hx34).ext (Ext.alloc _ _)) (hg4.ext (Ext.alloc _ _))).mono ?_
    rw [decide_eq_true rfl]
    rintro e w5 ⟨rfl, hx5⟩
    have hx45 := (Ext.alloc w4 (.cells #[.int .i64 kind, .string ⟨path.toArray⟩, .int .i64 method, .int .i64 factor, .slice a5 n5 c5, .int .i64 rung, .int .i64 time, .int .i64 now, .int .i64 value] 48)).trans hx5
    have hxx5 := (hxx3.trans hx34).trans hx45
    have hb25 := hb2.ext (hx3.trans (hx34.trans hx45))
    clear x0 x1 x2 x3 x4 x5 x6 x7 x8
    go_wp2_with fail
    refine (samelist_calls a4 n4 c4 M a6 n6 c6 M2 w5 (hr3.ext (hx34.trans hx45)) (hr4.ext hx45)).mono ?_
    rw [HM.out, HM2.out, decide_eq_true rfl]
    rintro e w6 ⟨rfl, hx6⟩
    go_wp2_with fail
    refine (same_ext a2 n2 c2 _ a n c _ w6 (hb25.ext hx6) (hbh.out.ext (hxx5.trans hx6))).mono ?_
    rw [show (l == l) = true by simp]
    rintro e w7 ⟨rfl, hx7⟩
    go_wp2
    go_ret
    exact ⟨rfl, (hxx5.trans hx6).trans hx7⟩
end Go.Proofs.YtkflikfcpdekdaaDoor

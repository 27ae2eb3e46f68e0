/-
  Layer 8's statements: the walks of SegmentTakes and SegmentRecord.
-/
import Derived.Test.YtkflikfcpdekdaaLaw08a
namespace Go.Proofs.Ytkflikfcpdekdaa
open Go.RowKit

set_option maxHeartbeats 1600000 in
theorem segtakes_walk (a : Option Addr) (n c : Nat) (l : List UInt8) (w : World) (hn : n ≤ 140737488355328) (hb : Bs w a n c l) :
    Calls Try.prog 3 #[.slice a n c] w fun e w' => e = .returned (.bool true) ∧ Ext w w' := by
  have htake := fun a n c w' h => stake_calls a n c l w' h
  have hrtake := fun a n c w' h => rtake8_calls a n c l w' h
  obtain ⟨y, hy⟩ : ∃ y, segTake l = y := ⟨_, rfl⟩
  rw [hy] at htake hrtake
  clear hy
  obtain ⟨⟨kind, path, method, factor, rungs, rung, time, now, value⟩, er⟩ := y
  unfold rv at htake hrtake
  dsimp only at htake hrtake
  have htake := Lib.hid htake
  have hrtake := Lib.hid hrtake
  have hbh := Lib.hid hb
  clear hb
  go_enter Try.func3, Try.ntmps3
  go_wp2_with fail
  refine (alive08_calls w).mono ?_
  rintro e w1 ⟨rfl, hx1⟩
  go_wp2_with fail
  refine (copy_calls a n c l w1 hn (hbh.out.ext hx1)).mono ?_
  rintro e w2 ⟨v, rfl, ho, hx2⟩
  obtain ⟨a2, n2, c2, rfl, hb2⟩ := ho.bs
  have hxx2 := hx1.trans hx2
  clear ho
  go_wp2_with fail
  refine (htake.out a2 n2 c2 w2 hb2).mono ?_
  rintro e w3 ⟨a3, n3, c3, rfl, hg3, hx3⟩
  have hxx3 := hxx2.trans hx3
  have hx3a : Ext w3 (w3.alloc (.cells #[.int .i64 kind, .string ⟨path.toArray⟩, .int .i64 method, .int .i64 factor, .slice a3 n3 c3, .int .i64 rung, .int .i64 time, .int .i64 now, .int .i64 value] 27)) := Ext.alloc _ _
  go_wp2_with fail
  refine (hrtake.out a n c _ (hbh.out.ext (hxx3.trans hx3a))).mono ?_
  rintro e w4 ⟨a4, n4, c4, rfl, hg4, hx4⟩
  have hB := hx4.block w3.heap.size (by simp)
  rw [heap_alloc_new] at hB
  obtain ⟨x0, x1, x2, x3, x4, x5, x6, x7, x8⟩ := cells9 hB
  have hsz : w3.heap.size < w4.heap.size := by have := hx4.size; simp at this; omega
  clear hB
  go_wp2_with fail
  refine (same8_calls ⟨kind, path, method, factor, rungs, rung, time, now, value⟩ a3 n3 c3 ⟨kind, path, method, factor, rungs, rung, time, now, value⟩ a4 n4 c4 _ ((hg3.ext (hx3a.trans hx4)).ext (Ext.alloc _ _)) (hg4.ext (Ext.alloc _ _))).mono ?_
  rw [decide_eq_true rfl]
  rintro e w5 ⟨rfl, hx5⟩
  have hxx5 := ((hxx3.trans hx3a).trans hx4).trans ((Ext.alloc _ _).trans hx5)
  have hb25 := hb2.ext (hx3.trans ((hx3a.trans hx4).trans ((Ext.alloc _ _).trans hx5)))
  clear x0 x1 x2 x3 x4 x5 x6 x7 x8
  go_wp2_with fail
  refine (same_ext a2 n2 c2 _ a n c _ w5 hb25 (hbh.out.ext hxx5)).mono ?_
  rw [show (l == l) = true by simp]
  rintro e w6 ⟨rfl, hx6⟩
  go_wp2
  go_ret
  exact ⟨rfl, hxx5.trans hx6⟩
/-- The nine cells of a box, in a later world. -/
theorem box9 {w W : World} {v0 v1 v2 v3 v4 v5 v6 v7 v8 : Value} {t : TypeId} (h : Ext (w.alloc (.cells #[v0, v1, v2, v3, v4, v5, v6, v7, v8] t)) W) :
    W.cell? ⟨w.heap.size, 0, none⟩ = some v0 ∧ W.cell? ⟨w.heap.size, 1, none⟩ = some v1 ∧ W.cell? ⟨w.heap.size, 2, none⟩ = some v2 ∧ W.cell? ⟨w.heap.size, 3, none⟩ = some v3 ∧ W.cell? ⟨w.heap.size, 4, none⟩ = some v4 ∧ W.cell? ⟨w.heap.size, 5, none⟩ = some v5 ∧ W.cell? ⟨w.heap.size, 6, none⟩ = some v6 ∧ W.cell? ⟨w.heap.size, 7, none⟩ = some v7 ∧ W.cell? ⟨w.heap.size, 8, none⟩ = some v8 := by
  have hB := h.block w.heap.size (by simp)
  rw [heap_alloc_new] at hB
  exact cells9 hB

set_option maxRecDepth 100000 in
set_option maxHeartbeats 3200000 in
theorem segrecord_walk (r : Rec) (a : Option Addr) (n c : Nat) (ap : Option Addr) (np cp : Nat) (l : List UInt8) (w : World) (hrg : Rg w a n c r.rungs) (hv : valued r) (hb : Bs w ap np cp l) :
    Calls Try.prog 4 #[rv r a n c, .slice ap np cp] w fun e w' => e = .returned (.bool true) ∧ Ext w w' := by
  have hgreat := great08_calls r a n c
  have hrr := fun a n c w h => rright_calls r a n c w h
  have hpn := fun a n c w (h : Rg w a n c r.rungs) (hr : right r = false) => putno_calls r a n c w h hr
  have hpy := fun a n c w (h : Rg w a n c r.rungs) (hr : right r = true) => put_calls r a n c w h hr
  have htp := fun (hr : right r = true) a n c w' h => stake_calls a n c (segPut r) w' h
  have hts := fun (hr : right r = true) => segTake_put r hr hv
  have hlp := fun (hr : right r = true) => segPut_length r hr
  have htake := fun a n c w' h => stake_calls a n c l w' h
  have hcases := segTake_cases l
  obtain ⟨y, hy⟩ : ∃ y, segTake l = y := ⟨_, rfl⟩
  rw [hy] at htake hcases
  clear hy
  obtain ⟨sp, hsp⟩ : ∃ sp, segPut r = sp := ⟨_, rfl⟩
  rw [hsp] at htp hts hlp hpy
  clear hsp
  obtain ⟨rr, hr0⟩ : ∃ rr, right r = rr := ⟨_, rfl⟩
  rw [hr0] at hrr hpn hpy htp hts hlp
  clear hr0
  have hlenp : Hid (rr = true → sp.length ≤ 296) := hlp
  obtain ⟨kind, path, method, factor, rungs, rung, time, now, value⟩ := r
  have hbx := Ext.alloc w (.cells #[.int .i64 kind, .string ⟨path.toArray⟩, .int .i64 method, .int .i64 factor, .slice a n c, .int .i64 rung, .int .i64 time, .int .i64 now, .int .i64 value] 27)
  have hput0 : ∀ (a : Option Addr) (n c : Nat) (w : World), Rg w a n c rungs → rr = true → _ := fun a n c w h hr => hpy a n c w h hr
  clear hlp hput0
  by_cases hg : 1000 < (n : Int) ∨ 1000 < (path.length : Int)
  · have hgb : (decide (1000 < (n : Int)) || decide (1000 < (path.length : Int))) = true := by simpa using hg
    rw [hgb] at hgreat
    have hgreat := Lib.hid hgreat
    unfold rv at *
    dsimp only at hgreat ⊢
    clear hg hgb hrr hpn hpy htp hts htake hcases
    go_enter Try.func4, Try.ntmps4
    go_wp2_with fail
    refine (alive08_calls _).mono ?_
    rintro e w1 ⟨rfl, hx1⟩
    obtain ⟨x0, x1, x2, x3, x4, x5, x6, x7, x8⟩ := box9 hx1
    go_wp2_with fail
    refine (hgreat.out w1).mono ?_
    rintro e w2 ⟨rfl, hx2⟩
    go_wp2
    go_ret
    exact ⟨rfl, hbx.trans (hx1.trans hx2)⟩
  · have hgb : (decide (1000 < (n : Int)) || decide (1000 < (path.length : Int))) = false := by
      rw [Bool.or_eq_false_iff, decide_eq_false_iff_not, decide_eq_false_iff_not]; exact ⟨fun h => hg (.inl h), fun h => hg (.inr h)⟩
    rw [hgb] at hgreat
    have hgreat := Lib.hid hgreat
    unfold rv at *
    dsimp only at hgreat hrg hrr hpn hpy ⊢
    obtain ⟨⟨kind2, path2, method2, factor2, rungs2, rung2, time2, now2, value2⟩, er⟩ := y
    dsimp only at htake hcases
    have htake := Lib.hid htake
    have hrright := Lib.hid hrr
    have hputno0 := Lib.hid hpn
    have hput0 := Lib.hid hpy
    have htp0 := Lib.hid htp
    have hts0 := Lib.hid hts
    have hbh := Lib.hid hb
    clear hg hgb hrr hpn hpy htp hts hb
    rcases hcases with hno | ⟨hok, hr2, hl2⟩
    · obtain rfl : er = 7 := congrArg Prod.snd hno
      clear hno
      cases rr with
      | false =>
        have hputno := Lib.hid (fun a n c w h => hputno0.out a n c w h rfl)
        go_enter Try.func4, Try.ntmps4
        go_wp2_with fail
        refine (alive08_calls _).mono ?_
        rintro e w1 ⟨rfl, hx1⟩
        obtain ⟨x0, x1, x2, x3, x4, x5, x6, x7, x8⟩ := box9 hx1
        go_wp2_with fail
        refine (hgreat.out w1).mono ?_
        rintro e w2 ⟨rfl, hx2⟩
        go_wp2_with fail
        refine (htake.out ap np cp w2 (hbh.out.ext (hbx.trans (hx1.trans hx2)))).mono ?_
        rintro e w3 ⟨a3, n3, c3, rfl, hg3, hx3⟩
        have hxw := (hx1.trans hx2).trans hx3
        clear x0 x1 x2 x3 x4 x5 x6 x7 x8
        obtain ⟨x0, x1, x2, x3, x4, x5, x6, x7, x8⟩ := box9 hxw
        have hsz3 : w.heap.size < w3.heap.size := by have := hxw.size; simp at this; omega
        go_wp2_with fail
        refine (hputno.out _ _ _ _ (hrg.ext (hbx.trans (hxw.trans (Ext.alloc _ _))))).mono ?_
        rintro e u1 ⟨rfl, hu1⟩
        obtain ⟨x0, x1, x2, x3, x4, x5, x6, x7, x8⟩ := box9 ((hxw.trans (Ext.alloc _ _)).trans hu1)
        go_wp2_with fail
        refine (hrright.out _ _ _ u1 (hrg.ext (hbx.trans ((hxw.trans (Ext.alloc _ _)).trans hu1)))).mono ?_
        rintro e u2 ⟨rfl, hu2⟩
        go_wp2
        go_ret
        exact ⟨rfl, hbx.trans (((hxw.trans (Ext.alloc _ _)).trans hu1).trans hu2)⟩
      | true =>
        have hput := Lib.hid (fun a n c w h => hput0.out a n c w h rfl)
        have htakep := htp0.out rfl
        rw [hts0.out rfl] at htakep
        dsimp only at htakep
        have htakep := Lib.hid htakep
        have hlenp2 := Lib.hid (hlenp.out rfl)
        go_enter Try.func4, Try.ntmps4
        go_wp2_with fail
        refine (alive08_calls _).mono ?_
        rintro e w1 ⟨rfl, hx1⟩
        obtain ⟨x0, x1, x2, x3, x4, x5, x6, x7, x8⟩ := box9 hx1
        go_wp2_with fail
        refine (hgreat.out w1).mono ?_
        rintro e w2 ⟨rfl, hx2⟩
        go_wp2_with fail
        refine (htake.out ap np cp w2 (hbh.out.ext (hbx.trans (hx1.trans hx2)))).mono ?_
        rintro e w3 ⟨a3, n3, c3, rfl, hg3, hx3⟩
        have hxw := (hx1.trans hx2).trans hx3
        clear x0 x1 x2 x3 x4 x5 x6 x7 x8
        obtain ⟨x0, x1, x2, x3, x4, x5, x6, x7, x8⟩ := box9 hxw
        have hsz3 : w.heap.size < w3.heap.size := by have := hxw.size; simp at this; omega
        go_wp2_with fail
        refine (hput.out _ _ _ _ (hrg.ext (hbx.trans (hxw.trans (Ext.alloc _ _))))).mono ?_
        rintro e u1 ⟨v1, rfl, ho1, hu1⟩
        obtain ⟨a5, n5, c5, rfl, hb5⟩ := ho1.bs
        have hn5 : (n5 : Int) ≤ 296 := by have := hb5.len; have := hlenp2.out; omega
        clear ho1
        go_wp2_with fail
        refine (htakep.out a5 n5 c5 u1 hb5).mono ?_
        rintro e u2 ⟨a6, n6, c6, rfl, hg6, hu2⟩
        obtain ⟨x0, x1, x2, x3, x4, x5, x6, x7, x8⟩ := box9 (((hxw.trans (Ext.alloc _ _)).trans hu1).trans hu2)
        have hsz2 : w.heap.size < u2.heap.size := by have := (((hxw.trans (Ext.alloc _ _)).trans hu1).trans hu2).size; simp at this; omega
        go_wp2_with fail
        refine (same8_calls ⟨kind, path, method, factor, rungs, rung, time, now, value⟩ a6 n6 c6 ⟨kind, path, method, factor, rungs, rung, time, now, value⟩ a n c _ (hg6.ext (Ext.alloc _ _)) (hrg.ext (hbx.trans ((((hxw.trans (Ext.alloc _ _)).trans hu1).trans hu2).trans (Ext.alloc _ _))))).mono ?_
        rw [decide_eq_true rfl]
        rintro e u3 ⟨rfl, hu3⟩
        go_wp2
        go_ret
        exact ⟨rfl, hbx.trans (((((hxw.trans (Ext.alloc _ _)).trans hu1).trans hu2).trans (Ext.alloc _ _)).trans hu3)⟩
    · obtain rfl : er = 0 := hok
      cases rr with
      | false =>
        have hputno := Lib.hid (fun a n c w h => hputno0.out a n c w h rfl)
        go_enter Try.func4, Try.ntmps4
        go_wp2_with fail
        refine (alive08_calls _).mono ?_
        rintro e w1 ⟨rfl, hx1⟩
        obtain ⟨x0, x1, x2, x3, x4, x5, x6, x7, x8⟩ := box9 hx1
        go_wp2_with fail
        refine (hgreat.out w1).mono ?_
        rintro e w2 ⟨rfl, hx2⟩
        go_wp2_with fail
        refine (htake.out ap np cp w2 (hbh.out.ext (hbx.trans (hx1.trans hx2)))).mono ?_
        rintro e w3 ⟨a3, n3, c3, rfl, hg3, hx3⟩
        have hxw := (hx1.trans hx2).trans hx3
        clear x0 x1 x2 x3 x4 x5 x6 x7 x8
        obtain ⟨x0, x1, x2, x3, x4, x5, x6, x7, x8⟩ := box9 hxw
        have hsz3 : w.heap.size < w3.heap.size := by have := hxw.size; simp at this; omega
        have hputs := fun w h => put_calls ⟨kind2, path2, method2, factor2, rungs2, rung2, time2, now2, value2⟩ a3 n3 c3 w h hr2
        rw [hl2] at hputs
        unfold rv at hputs
        dsimp only at hputs
        have hputs := Lib.hid hputs
        go_wp2_with fail
        refine (hputs.out _ (hg3.ext (Ext.alloc _ _))).mono ?_
        rintro e w4 ⟨v4, rfl, ho4, hx4⟩
        obtain ⟨a4, n4, c4, rfl, hb4⟩ := ho4.bs
        have hxw4 := (hxw.trans (Ext.alloc _ _)).trans hx4
        clear ho4 x0 x1 x2 x3 x4 x5 x6 x7 x8
        go_wp2_with fail
        refine (same_ext ap np cp l a4 n4 c4 l w4 (hbh.out.ext (hbx.trans hxw4)) hb4).mono ?_
        rw [show (l == l) = true by simp]
        rintro e w5 ⟨rfl, hx5⟩
        have hxw5 := hxw4.trans hx5
        obtain ⟨x0, x1, x2, x3, x4, x5, x6, x7, x8⟩ := box9 hxw5
        have hsz5 : w.heap.size < w5.heap.size := by have := hxw5.size; simp at this; omega
        go_wp2_with fail
        refine (hputno.out _ _ _ _ (hrg.ext (hbx.trans (hxw5)))).mono ?_
        rintro e u1 ⟨rfl, hu1⟩
        obtain ⟨x0, x1, x2, x3, x4, x5, x6, x7, x8⟩ := box9 ((hxw5).trans hu1)
        go_wp2_with fail
        refine (hrright.out _ _ _ u1 (hrg.ext (hbx.trans ((hxw5).trans hu1)))).mono ?_
        rintro e u2 ⟨rfl, hu2⟩
        go_wp2
        go_ret
        exact ⟨rfl, hbx.trans (((hxw5).trans hu1).trans hu2)⟩
      | true =>
        have hput := Lib.hid (fun a n c w h => hput0.out a n c w h rfl)
        have htakep := htp0.out rfl
        rw [hts0.out rfl] at htakep
        dsimp only at htakep
        have htakep := Lib.hid htakep
        have hlenp2 := Lib.hid (hlenp.out rfl)
        go_enter Try.func4, Try.ntmps4
        go_wp2_with fail
        refine (alive08_calls _).mono ?_
        rintro e w1 ⟨rfl, hx1⟩
        obtain ⟨x0, x1, x2, x3, x4, x5, x6, x7, x8⟩ := box9 hx1
        go_wp2_with fail
        refine (hgreat.out w1).mono ?_
        rintro e w2 ⟨rfl, hx2⟩
        go_wp2_with fail
        refine (htake.out ap np cp w2 (hbh.out.ext (hbx.trans (hx1.trans hx2)))).mono ?_
        rintro e w3 ⟨a3, n3, c3, rfl, hg3, hx3⟩
        have hxw := (hx1.trans hx2).trans hx3
        clear x0 x1 x2 x3 x4 x5 x6 x7 x8
        obtain ⟨x0, x1, x2, x3, x4, x5, x6, x7, x8⟩ := box9 hxw
        have hsz3 : w.heap.size < w3.heap.size := by have := hxw.size; simp at this; omega
        have hputs := fun w h => put_calls ⟨kind2, path2, method2, factor2, rungs2, rung2, time2, now2, value2⟩ a3 n3 c3 w h hr2
        rw [hl2] at hputs
        unfold rv at hputs
        dsimp only at hputs
        have hputs := Lib.hid hputs
        go_wp2_with fail
        refine (hputs.out _ (hg3.ext (Ext.alloc _ _))).mono ?_
        rintro e w4 ⟨v4, rfl, ho4, hx4⟩
        obtain ⟨a4, n4, c4, rfl, hb4⟩ := ho4.bs
        have hxw4 := (hxw.trans (Ext.alloc _ _)).trans hx4
        clear ho4 x0 x1 x2 x3 x4 x5 x6 x7 x8
        go_wp2_with fail
        refine (same_ext ap np cp l a4 n4 c4 l w4 (hbh.out.ext (hbx.trans hxw4)) hb4).mono ?_
        rw [show (l == l) = true by simp]
        rintro e w5 ⟨rfl, hx5⟩
        have hxw5 := hxw4.trans hx5
        obtain ⟨x0, x1, x2, x3, x4, x5, x6, x7, x8⟩ := box9 hxw5
        have hsz5 : w.heap.size < w5.heap.size := by have := hxw5.size; simp at this; omega
        go_wp2_with fail
        refine (hput.out _ _ _ _ (hrg.ext (hbx.trans (hxw5)))).mono ?_
        rintro e u1 ⟨v1, rfl, ho1, hu1⟩
        obtain ⟨a5, n5, c5, rfl, hb5⟩ := ho1.bs
        have hn5 : (n5 : Int) ≤ 296 := by have := hb5.len; have := hlenp2.out; omega
        clear ho1
        go_wp2_with fail
        refine (htakep.out a5 n5 c5 u1 hb5).mono ?_
        rintro e u2 ⟨a6, n6, c6, rfl, hg6, hu2⟩
        obtain ⟨x0, x1, x2, x3, x4, x5, x6, x7, x8⟩ := box9 (((hxw5).trans hu1).trans hu2)
        have hsz2 : w.heap.size < u2.heap.size := by have := (((hxw5).trans hu1).trans hu2).size; simp at this; omega
        go_wp2_with fail
        refine (same8_calls ⟨kind, path, method, factor, rungs, rung, time, now, value⟩ a6 n6 c6 ⟨kind, path, method, factor, rungs, rung, time, now, value⟩ a n c _ (hg6.ext (Ext.alloc _ _)) (hrg.ext (hbx.trans ((((hxw5).trans hu1).trans hu2).trans (Ext.alloc _ _))))).mono ?_
        rw [decide_eq_true rfl]
        rintro e u3 ⟨rfl, hu3⟩
        go_wp2
        go_ret
        exact ⟨rfl, hbx.trans (((((hxw5).trans hu1).trans hu2).trans (Ext.alloc _ _)).trans hu3)⟩
end Go.Proofs.Ytkflikfcpdekdaa

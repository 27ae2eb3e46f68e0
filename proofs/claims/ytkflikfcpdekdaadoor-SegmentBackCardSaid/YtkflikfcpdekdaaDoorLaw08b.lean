/-
  Layer 8's statements: the walk of SegmentPuts.
-/
import Derived.Test.YtkflikfcpdekdaaDoorLaw08a
import Derived.Test.YtkflikfcpdekdaaDoorSegFrame
namespace Go.Proofs.YtkflikfcpdekdaaDoor
open Go.RowKit

/-- The nine cells of a box, in a later world. -/
theorem box9b {w W : World} {v0 v1 v2 v3 v4 v5 v6 v7 v8 : Value} {t : TypeId} (h : Ext (w.alloc (.cells #[v0, v1, v2, v3, v4, v5, v6, v7, v8] t)) W) :
    W.cell? ⟨w.heap.size, 0, none⟩ = some v0 ∧ W.cell? ⟨w.heap.size, 1, none⟩ = some v1 ∧ W.cell? ⟨w.heap.size, 2, none⟩ = some v2 ∧ W.cell? ⟨w.heap.size, 3, none⟩ = some v3 ∧ W.cell? ⟨w.heap.size, 4, none⟩ = some v4 ∧ W.cell? ⟨w.heap.size, 5, none⟩ = some v5 ∧ W.cell? ⟨w.heap.size, 6, none⟩ = some v6 ∧ W.cell? ⟨w.heap.size, 7, none⟩ = some v7 ∧ W.cell? ⟨w.heap.size, 8, none⟩ = some v8 := by
  have hB := h.block w.heap.size (by simp)
  rw [heap_alloc_new] at hB
  exact cells9 hB

set_option maxRecDepth 100000 in
set_option maxHeartbeats 3200000 in
theorem segputs_walk (r : Rec) (a : Option Addr) (n c : Nat) (w : World) (hT : Tab w) (hrg : Rg w a n c r.rungs) :
    Calls Tryd.prog 11 #[rv r a n c] w fun e w' => e = .returned (.bool true) ∧ Ext w w' := by
  have hgreat := great08_calls r a n c
  have hsr := fun w h => right_calls r a n c w h
  have hrr := fun w h => rright_calls r a n c w h
  have hpn := fun w (h : Rg w a n c r.rungs) (hr : right r = false) => putno_calls r a n c w h hr
  have hpy := fun w (h : Rg w a n c r.rungs) (hr : right r = true) => put_calls r a n c w h hr
  have hrpn := fun w (h : Rg w a n c r.rungs) (hr : right r = false) => rputno_calls r a n c w h hr
  have hrpy := fun w (h : Rg w a n c r.rungs) (hr : right r = true) => rrput_calls r a n c w h hr
  have hfn := fun w (h : Rg w a n c r.rungs) (hr : right r = false) => sframe_no r a n c w h hr
  have hfy := fun w (ht : Tab w) (h : Rg w a n c r.rungs) (hr : right r = true) => sframe_yes r a n c w ht h hr
  have hrfn := fun w (h : Rg w a n c r.rungs) (hr : right r = false) => rframe_no r a n c w h hr
  have hrfy := fun w (h : Rg w a n c r.rungs) (hr : right r = true) => rframe_yes r a n c w h hr
  obtain ⟨sp, hsp⟩ : ∃ sp, segPut r = sp := ⟨_, rfl⟩
  obtain ⟨sf, hsf⟩ : ∃ sp, sfr r = sp := ⟨_, rfl⟩
  rw [hsp] at hpy hrpy
  rw [hsf] at hfy hrfy
  clear hsp hsf
  obtain ⟨rr, hr0⟩ : ∃ rr, right r = rr := ⟨_, rfl⟩
  rw [hr0] at hsr hrr hpn hpy hrpn hrpy hfn hfy hrfn hrfy
  clear hr0
  obtain ⟨kind, path, method, factor, rungs, rung, time, now, value⟩ := r
  have hbx := Ext.alloc w (.cells #[.int .i64 kind, .string ⟨path.toArray⟩, .int .i64 method, .int .i64 factor, .slice a n c, .int .i64 rung, .int .i64 time, .int .i64 now, .int .i64 value] 48)
  unfold rv at *
  dsimp only at hgreat hrg hsr hrr hpn hpy hrpn hrpy hfn hfy hrfn hrfy ⊢
  have hsr := Lib.hid hsr
  have hrr := Lib.hid hrr
  by_cases hg : 1000 < (n : Int) ∨ 1000 < (path.length : Int)
  · have hgb : (decide (1000 < (n : Int)) || decide (1000 < (path.length : Int))) = true := by simpa using hg
    rw [hgb] at hgreat
    have hgreat := Lib.hid hgreat
    clear hg hgb hpn hpy hrpn hrpy hfn hfy hrfn hrfy hsr hrr
    go_enter Tryd.func11, Tryd.ntmps11
    go_wp2_with fail
    refine (alive08_calls _).mono ?_
    rintro e w1 ⟨rfl, hx1⟩
    obtain ⟨x0, x1, x2, x3, x4, x5, x6, x7, x8⟩ := box9b hx1
    go_wp2_with fail
    refine (hgreat.out w1).mono ?_
    rintro e w2 ⟨rfl, hx2⟩
    go_wp2
    go_ret
    exact ⟨rfl, hbx.trans (hx1.trans hx2)⟩
  · have hgb : (decide (1000 < (n : Int)) || decide (1000 < (path.length : Int))) = false := by
      rw [Bool.or_eq_false_iff, decide_eq_false_iff_not, decide_eq_false_iff_not]; exact ⟨fun h => hg (.inl h), fun h => hg (.inr h)⟩
    rw [hgb] at hgreat
    have hgreat := Lib.hid hgreat
    clear hg hgb
    cases rr with
    | false =>
      go_enter Tryd.func11, Tryd.ntmps11
      go_wp2_with fail
      refine (alive08_calls _).mono ?_
      rintro e w1 ⟨rfl, hx1⟩
      obtain ⟨x0, x1, x2, x3, x4, x5, x6, x7, x8⟩ := box9b hx1
      go_wp2_with fail
      refine (hgreat.out w1).mono ?_
      rintro e w2 ⟨rfl, hq⟩
      have hx2 := hx1.trans hq
      clear hq x0 x1 x2 x3 x4 x5 x6 x7 x8
      obtain ⟨x0, x1, x2, x3, x4, x5, x6, x7, x8⟩ := box9b hx2
      have hpn := Lib.hid (fun w h => hpn w h (by first | trivial | rfl))
      have hrpn := Lib.hid (fun w h => hrpn w h (by first | trivial | rfl))
      have hfn := Lib.hid (fun w h => hfn w h (by first | trivial | rfl))
      have hrfn := Lib.hid (fun w h => hrfn w h (by first | trivial | rfl))
      clear hpy hrpy hfy hrfy
      go_wp2_with fail
      refine (hpn.out w2 (hrg.ext (hbx.trans hx2))).mono ?_
      rintro e w3 ⟨rfl, hq⟩
      have hx3 := hx2.trans hq
      clear hq x0 x1 x2 x3 x4 x5 x6 x7 x8
      obtain ⟨x0, x1, x2, x3, x4, x5, x6, x7, x8⟩ := box9b hx3
      go_wp2_with fail
      refine (hrpn.out w3 (hrg.ext (hbx.trans hx3))).mono ?_
      rintro e w4 ⟨rfl, hq⟩
      have hx4 := hx3.trans hq
      clear hq x0 x1 x2 x3 x4 x5 x6 x7 x8
      obtain ⟨x0, x1, x2, x3, x4, x5, x6, x7, x8⟩ := box9b hx4
      go_wp2_with fail
      refine (hfn.out w4 (hrg.ext (hbx.trans hx4))).mono ?_
      rintro e w5 ⟨rfl, hq⟩
      have hx5 := hx4.trans hq
      clear hq x0 x1 x2 x3 x4 x5 x6 x7 x8
      obtain ⟨x0, x1, x2, x3, x4, x5, x6, x7, x8⟩ := box9b hx5
      go_wp2_with fail
      refine (hrfn.out w5 (hrg.ext (hbx.trans hx5))).mono ?_
      rintro e w6 ⟨rfl, hq⟩
      have hx6 := hx5.trans hq
      clear hq x0 x1 x2 x3 x4 x5 x6 x7 x8
      obtain ⟨x0, x1, x2, x3, x4, x5, x6, x7, x8⟩ := box9b hx6
      clear hpn hrpn hfn hrfn
      go_wp2_with fail
      have HX := hx6.drew
      have y0 := x0
      go_region_held3 (fun w' => w'.cell? ⟨w.heap.size, 0, none⟩ = some (.int .i64 kind) ∧ w'.cell? ⟨w.heap.size, 1, none⟩ = some (.string ⟨path.toArray⟩) ∧ w'.cell? ⟨w.heap.size, 2, none⟩ = some (.int .i64 method) ∧ w'.cell? ⟨w.heap.size, 3, none⟩ = some (.int .i64 factor) ∧ w'.cell? ⟨w.heap.size, 4, none⟩ = some (.slice a n c) ∧ w'.cell? ⟨w.heap.size, 5, none⟩ = some (.int .i64 rung) ∧ w'.cell? ⟨w.heap.size, 6, none⟩ = some (.int .i64 time) ∧ w'.cell? ⟨w.heap.size, 7, none⟩ = some (.int .i64 now) ∧ w'.cell? ⟨w.heap.size, 8, none⟩ = some (.int .i64 value))
        (exact box9b HX)
        (first
          | (go_at_call 43; refine (hsr.out _ (hrg.ext (hbx.trans HX))).mono ?_; rintro e w' ⟨rfl, hx⟩; replace HX := HX.trans hx; clear hx)
          | (go_at_call 44; refine (hrr.out _ (hrg.ext (hbx.trans HX))).mono ?_; rintro e w' ⟨rfl, hx⟩; replace HX := HX.trans hx; clear hx)
          | (go_at_call 23; refine (same_ext none 0 0 [] none 0 0 [] _ (bs_nil _) (bs_nil _)).mono ?_; rw [show (([] : List UInt8) == []) = true by simp]; rintro e w' ⟨rfl, hx⟩; replace HX := HX.trans hx; clear hx))
      all_goals
        go_wp2
        go_ret
        exact ⟨rfl, hbx.trans HX⟩
    | true =>
      go_enter Tryd.func11, Tryd.ntmps11
      go_wp2_with fail
      refine (alive08_calls _).mono ?_
      rintro e w1 ⟨rfl, hx1⟩
      obtain ⟨x0, x1, x2, x3, x4, x5, x6, x7, x8⟩ := box9b hx1
      go_wp2_with fail
      refine (hgreat.out w1).mono ?_
      rintro e w2 ⟨rfl, hq⟩
      have hx2 := hx1.trans hq
      clear hq x0 x1 x2 x3 x4 x5 x6 x7 x8
      obtain ⟨x0, x1, x2, x3, x4, x5, x6, x7, x8⟩ := box9b hx2
      have hpy := Lib.hid (fun w h => hpy w h (by first | trivial | rfl))
      have hrpy := Lib.hid (fun w h => hrpy w h (by first | trivial | rfl))
      have hfy := Lib.hid (fun w t h => hfy w t h (by first | trivial | rfl))
      have hrfy := Lib.hid (fun w h => hrfy w h (by first | trivial | rfl))
      clear hpn hrpn hfn hrfn
      go_wp2_with fail
      refine (hpy.out w2 (hrg.ext (hbx.trans hx2))).mono ?_
      rintro e w3 ⟨v, rfl, ho, hq⟩
      obtain ⟨a3, n3, c3, rfl, hb3⟩ := ho.bs
      clear ho
      have hx3 := hx2.trans hq
      clear hq x0 x1 x2 x3 x4 x5 x6 x7 x8
      obtain ⟨x0, x1, x2, x3, x4, x5, x6, x7, x8⟩ := box9b hx3
      go_wp2_with fail
      refine (hrpy.out w3 (hrg.ext (hbx.trans hx3))).mono ?_
      rintro e w4 ⟨v, rfl, ho, hq⟩
      have hb3 := hb3.ext hq
      obtain ⟨a4, n4, c4, rfl, hb4⟩ := ho.bs
      clear ho
      have hx4 := hx3.trans hq
      clear hq x0 x1 x2 x3 x4 x5 x6 x7 x8
      obtain ⟨x0, x1, x2, x3, x4, x5, x6, x7, x8⟩ := box9b hx4
      go_wp2_with fail
      refine (hfy.out w4 (hT.ext (hbx.trans hx4)) (hrg.ext (hbx.trans hx4))).mono ?_
      rintro e w5 ⟨v, rfl, ho, hq⟩
      have hb3 := hb3.ext hq
      have hb4 := hb4.ext hq
      obtain ⟨a5, n5, c5, rfl, hb5⟩ := ho.bs
      clear ho
      have hx5 := hx4.trans hq
      clear hq x0 x1 x2 x3 x4 x5 x6 x7 x8
      obtain ⟨x0, x1, x2, x3, x4, x5, x6, x7, x8⟩ := box9b hx5
      go_wp2_with fail
      refine (hrfy.out w5 (hrg.ext (hbx.trans hx5))).mono ?_
      rintro e w6 ⟨v, rfl, ho, hq⟩
      have hb3 := hb3.ext hq
      have hb4 := hb4.ext hq
      have hb5 := hb5.ext hq
      obtain ⟨a6, n6, c6, rfl, hb6⟩ := ho.bs
      clear ho
      have hx6 := hx5.trans hq
      clear hq x0 x1 x2 x3 x4 x5 x6 x7 x8
      obtain ⟨x0, x1, x2, x3, x4, x5, x6, x7, x8⟩ := box9b hx6
      clear hpy hrpy hfy hrfy
      have hb3 := hb3.ext (Ext.refl _).drew
      have hb4 := hb4.ext (Ext.refl _).drew
      have hb5 := hb5.ext (Ext.refl _).drew
      have hb6 := hb6.ext (Ext.refl _).drew
      have HZ : Ext w6.drew w6.drew := Ext.refl _
      go_wp2_with fail
      have HX := hx6.drew
      have y0 := x0
      go_region_held3 (fun w' => w'.cell? ⟨w.heap.size, 0, none⟩ = some (.int .i64 kind) ∧ w'.cell? ⟨w.heap.size, 1, none⟩ = some (.string ⟨path.toArray⟩) ∧ w'.cell? ⟨w.heap.size, 2, none⟩ = some (.int .i64 method) ∧ w'.cell? ⟨w.heap.size, 3, none⟩ = some (.int .i64 factor) ∧ w'.cell? ⟨w.heap.size, 4, none⟩ = some (.slice a n c) ∧ w'.cell? ⟨w.heap.size, 5, none⟩ = some (.int .i64 rung) ∧ w'.cell? ⟨w.heap.size, 6, none⟩ = some (.int .i64 time) ∧ w'.cell? ⟨w.heap.size, 7, none⟩ = some (.int .i64 now) ∧ w'.cell? ⟨w.heap.size, 8, none⟩ = some (.int .i64 value))
        (exact box9b HX)
        (first
          | (go_at_call 43; refine (hsr.out _ (hrg.ext (hbx.trans HX))).mono ?_; rintro e w' ⟨rfl, hx⟩; replace HX := HX.trans hx; replace HZ := HZ.trans hx; clear hx)
          | (go_at_call 44; refine (hrr.out _ (hrg.ext (hbx.trans HX))).mono ?_; rintro e w' ⟨rfl, hx⟩; replace HX := HX.trans hx; replace HZ := HZ.trans hx; clear hx)
          | (go_at_call_of 23 (Value.slice a3 n3 c3); refine (same_ext a3 n3 c3 _ a4 n4 c4 _ _ (hb3.ext HZ) (hb4.ext HZ)).mono ?_; rw [show (sp == sp) = true by simp]; rintro e w' ⟨rfl, hx⟩; replace HX := HX.trans hx; replace HZ := HZ.trans hx; clear hx)
          | (go_at_call_of 23 (Value.slice a5 n5 c5); refine (same_ext a5 n5 c5 _ a6 n6 c6 _ _ (hb5.ext HZ) (hb6.ext HZ)).mono ?_; rw [show (sf == sf) = true by simp]; rintro e w' ⟨rfl, hx⟩; replace HX := HX.trans hx; replace HZ := HZ.trans hx; clear hx))
      all_goals
        go_wp2
        go_ret
        exact ⟨rfl, hbx.trans HX⟩
end Go.Proofs.YtkflikfcpdekdaaDoor

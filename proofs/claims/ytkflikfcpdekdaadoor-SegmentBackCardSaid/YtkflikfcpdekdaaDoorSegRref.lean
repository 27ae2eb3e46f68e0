/-
  Whether a record is right: the reference's answer.
-/
import Derived.Test.YtkflikfcpdekdaaDoorSegSame
import Derived.RegionTactic
import Derived.BigRegion
import Derived.Outline
namespace Go.Proofs.YtkflikfcpdekdaaDoor
open Go.RowKit

theorem Ext.set {w w' : World} (h : Ext w w') (b o : Nat) (v : Value) (hb : w.heap.size ≤ b) : Ext w (w'.setCell ⟨b, o, none⟩ v) := Below.setCell h hb v
theorem Ext.drew {w w' : World} (h : Ext w w') : Ext w w'.drew := ⟨h.os, h.tape, h.output, h.size, h.block⟩
set_option maxRecDepth 100000 in
set_option maxHeartbeats 1600000 in
theorem rright1_calls (r : Rec) (a : Option Addr) (n c : Nat) (w : World) (hb : Rg w a n c r.rungs) (k1 : r.kind = 1) : Calls Tryd.prog 44 #[rv r a n c] w fun e w' => e = .returned (.bool (right r)) ∧ Ext w w' := by
  obtain ⟨kind, path, method, factor, rungs, rung, time, now, value⟩ := r
  unfold rv
  dsimp only at hb k1 ⊢
  subst k1
  obtain ⟨rr, hrr⟩ : ∃ rr, right ⟨1, path, method, factor, rungs, rung, time, now, value⟩ = rr := ⟨_, rfl⟩
  rw [hrr]
  obtain ⟨sb, hsb⟩ : ∃ sb, decide ((⟨1, path, method, factor, rungs, 0, 0, 0, 0⟩ : Rec) = ⟨1, path, method, factor, rungs, rung, time, now, value⟩) = sb := ⟨_, rfl⟩
  have HB : Hid (rr = (sb && decide (1 ≤ (path.length : Int)) && decide ((path.length : Int) ≤ 263) && decide (1 ≤ method) && decide (method ≤ 5) && decide (0 ≤ factor) && decide (factor ≤ 1000000) && rungsOk rungs)) := by
    show _ = _
    have e1 : decide (1 ≤ (path.length : Int)) = decide (path ≠ []) := by cases path <;> simp; omega
    have e2 : decide ((path.length : Int) ≤ 263) = decide (path.length ≤ 263) := by rw [Bool.eq_iff_iff]; simp; omega
    have e3 : sb = (decide (rung = 0) && decide (time = 0) && decide (now = 0) && decide (value = 0)) := by rw [← hsb, Bool.eq_iff_iff]; simp only [decide_eq_true_eq, Rec.mk.injEq, Bool.and_eq_true, true_and]; constructor <;> intro h <;> omega
    rw [← hrr, e1, e2, e3]; unfold right; rw [if_pos rfl]
  have hsb := Lib.hid hsb
  clear hrr
  go_enter Tryd.func44, Tryd.ntmps44
  go_wp2_with fail
  go_region
  go_wp2_with fail
  refine (same8_calls ⟨1, path, method, factor, rungs, 0, 0, 0, 0⟩ a n c ⟨1, path, method, factor, rungs, rung, time, now, value⟩ a n c _ (hb.ext ((Ext.alloc _ _).trans (Ext.alloc _ _)).drew) (hb.ext ((Ext.alloc _ _).trans (Ext.alloc _ _)).drew)).mono ?_
  rw [hsb.out]
  rintro e w2 ⟨rfl, hx2⟩
  have hx3 : Ext w w2 := ((Ext.alloc _ _).trans (Ext.alloc _ _)).drew.trans hx2
  have c1 := hx2.cell (a := ⟨w.heap.size, 1, none⟩) (v := .string ⟨path.toArray⟩) (by simp)
  have c2 := hx2.cell (a := ⟨w.heap.size, 2, none⟩) (v := .int .i64 method) (by simp)
  have c3 := hx2.cell (a := ⟨w.heap.size, 3, none⟩) (v := .int .i64 factor) (by simp)
  have c4 := hx2.cell (a := ⟨w.heap.size, 4, none⟩) (v := .slice a n c) (by simp)
  clear hx2
  cases sb with
  | false =>
    have HF : Hid (rr = false) := by show _ = _; rw [HB.out]; rfl
    clear HB
    go_wp2
    go_ret
    exact ⟨ret_bool HF.out.symm, hx3⟩
  | true =>
    have HB1 : Hid (rr = (decide (1 ≤ (path.length : Int)) && decide ((path.length : Int) ≤ 263) && decide (1 ≤ method) && decide (method ≤ 5) && decide (0 ≤ factor) && decide (factor ≤ 1000000) && rungsOk rungs)) := by show _ = _; rw [HB.out]; simp
    clear HB
    go_wp2_with (refine (rrungs_calls a n c rungs _ (hb.ext hx3)).mono ?_; rintro e w3 ⟨rfl, rfl⟩)
    all_goals
      try go_wp2
      go_ret
      refine ⟨ret_bool ?_, hx3⟩
      rw [HB1.out]
      simp [*]
      try omega
end Go.Proofs.YtkflikfcpdekdaaDoor

/-
  Whether a record is right: a head.
-/
import Derived.Test.YtkflikfcpdekdaaDoorSegRight
namespace Go.Proofs.YtkflikfcpdekdaaDoor
open Go.RowKit

set_option maxHeartbeats 1600000 in
theorem right1_calls (r : Rec) (a : Option Addr) (n c : Nat) (w : World) (hb : Rg w a n c r.rungs) (k1 : r.kind = 1) : Calls Tryd.prog 43 #[rv r a n c] w fun e w' => e = .returned (.bool (right r)) ∧ Ext w w' := by
  obtain ⟨kind, path, method, factor, rungs, rung, time, now, value⟩ := r
  have hb1 := hb.ext (Ext.alloc w (.cells #[.int .i64 kind, .string ⟨path.toArray⟩, .int .i64 method, .int .i64 factor, .slice a n c, .int .i64 rung, .int .i64 time, .int .i64 now, .int .i64 value] 48))
  unfold rv
  dsimp only at hb1 k1 ⊢
  · subst k1
    obtain ⟨rr, hrr⟩ : ∃ rr, right ⟨1, path, method, factor, rungs, rung, time, now, value⟩ = rr := ⟨_, rfl⟩
    rw [hrr]
    have HB : Hid (rr = (decide (rung = 0) && decide (time = 0) && decide (now = 0) && decide (value = 0) && decide (¬ path = []) && decide ((path.length : Int) ≤ 263) && decide (1 ≤ method) && decide (method ≤ 5) && decide (0 ≤ factor) && decide (factor ≤ 1000000) && rungsOk rungs)) := by show _ = _; rw [← hrr]; unfold right; rw [if_pos rfl, show decide ((path.length : Int) ≤ 263) = decide (path.length ≤ 263) by rw [Bool.eq_iff_iff]; simp; omega]
    clear hrr
    by_cases hv : value = 0 <;> by_cases hp : path = []
    all_goals
      first | subst hv | have hvb : (value != 0) = true := by simp [hv]
      first | subst hp | have hpe : path.isEmpty = false := by simp [hp]
    all_goals
     go_enter Tryd.func43, Tryd.ntmps43
     go_wp2_with (refine (rungs_calls a n c rungs _ (hb.ext (Ext.alloc _ _))).mono ?_; rintro e w2 ⟨rfl, hx2⟩)
     all_goals
      try go_wp2
      go_ret
      refine ⟨ret_bool ?_, by first | exact Ext.alloc _ _ | exact (Ext.alloc _ _).trans (by assumption)⟩
      rw [HB.out]
      simp [*]
      try omega
end Go.Proofs.YtkflikfcpdekdaaDoor

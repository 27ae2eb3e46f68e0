/-
  Whether a record is right: a slot; a record of no kind.
-/
import Derived.Test.YtkflikfcpdekdaaDoorSegRight
namespace Go.Proofs.YtkflikfcpdekdaaDoor
open Go.RowKit

set_option maxHeartbeats 1600000 in
theorem right3_calls (r : Rec) (a : Option Addr) (n c : Nat) (w : World) (hb : Rg w a n c r.rungs) (k3 : r.kind = 3) : Calls Tryd.prog 43 #[rv r a n c] w fun e w' => e = .returned (.bool (right r)) ∧ Ext w w' := by
  obtain ⟨kind, path, method, factor, rungs, rung, time, now, value⟩ := r
  have hb1 := hb.ext (Ext.alloc w (.cells #[.int .i64 kind, .string ⟨path.toArray⟩, .int .i64 method, .int .i64 factor, .slice a n c, .int .i64 rung, .int .i64 time, .int .i64 now, .int .i64 value] 48))
  unfold rv
  dsimp only at hb1 k3 ⊢
  subst k3
  have HB : Hid (right ⟨3, path, method, factor, rungs, rung, time, now, value⟩ = (blank ⟨3, path, method, factor, rungs, rung, time, now, value⟩ && decide (now = 0) && decide (0 ≤ rung) && decide (rung < 4) && timedOk time && decide (value ≠ -9223372036854775808))) := by show _ = _; unfold right; rw [if_neg (by show ¬ (3 : Int) = 1; decide), if_neg (by show ¬ (3 : Int) = 2; decide), if_pos rfl]
  obtain ⟨rr, hrr⟩ : ∃ rr, right ⟨3, path, method, factor, rungs, rung, time, now, value⟩ = rr := ⟨_, rfl⟩
  rw [hrr] at HB ⊢
  have hc0 := Lib.hid (blank_calls ⟨3, path, method, factor, rungs, rung, time, now, value⟩ a n c _ hb1)
  have hc1 := Lib.hid (timed_calls time)
  obtain ⟨bb, hbb⟩ : ∃ bb, blank ⟨3, path, method, factor, rungs, rung, time, now, value⟩ = bb := ⟨_, rfl⟩
  obtain ⟨t1, ht1⟩ : ∃ bb, timedOk time = bb := ⟨_, rfl⟩
  rw [hbb] at hc0 HB
  rw [ht1] at hc1 HB
  clear hbb ht1 hrr
  go_enter Tryd.func43, Tryd.ntmps43
  go_wp2_with fail
  refine hc0.out.mono ?_
  rintro e w2 ⟨rfl, hx2⟩
  have hx3 := (Ext.alloc _ _).trans hx2
  have c5 := hx2.cell (a := ⟨w.heap.size, 5, none⟩) (v := .int .i64 rung) (by simp)
  have c6 := hx2.cell (a := ⟨w.heap.size, 6, none⟩) (v := .int .i64 time) (by simp)
  have c7 := hx2.cell (a := ⟨w.heap.size, 7, none⟩) (v := .int .i64 now) (by simp)
  have c8 := hx2.cell (a := ⟨w.heap.size, 8, none⟩) (v := .int .i64 value) (by simp)
  clear hx2 hc0 hb hb1
  cases bb with
  | false =>
    have HF : Hid (rr = false) := by show _ = _; rw [HB.out]; rfl
    clear HB
    go_wp2
    go_ret
    exact ⟨ret_bool HF.out.symm, hx3⟩
  | true =>
    by_cases g0 : now = 0 ∧ 0 ≤ rung ∧ rung < 4
    · obtain ⟨g1, g2, g3⟩ := g0
      have HB1 : Hid (rr = (t1 && decide (value ≠ -9223372036854775808))) := by show _ = _; rw [HB.out]; simp [g1, g2, g3]
      subst g1
      clear HB
      go_wp2_with fail
      refine (hc1.out _).mono ?_
      rintro e w3 ⟨rfl, rfl⟩
      clear hc1
      cases t1 with
      | false =>
        have HF : Hid (rr = false) := by show _ = _; rw [HB1.out]; rfl
        clear HB1
        go_wp2
        go_ret
        exact ⟨ret_bool HF.out.symm, hx3⟩
      | true =>
        have HF : Hid (rr = (value != -9223372036854775808)) := by show _ = _; rw [HB1.out, bne0]; rfl
        clear HB1
        go_wp2
        go_ret
        exact ⟨ret_bool HF.out.symm, hx3⟩
    · have HF : Hid (rr = false) := by
        show _ = _; rw [HB.out]
        rw [Bool.eq_false_iff]; intro hh; simp only [Bool.and_eq_true, decide_eq_true_eq] at hh; exact g0 ⟨hh.1.1.1.1.2, hh.1.1.1.2, hh.1.1.2⟩
      clear HB
      have hcase : now ≠ 0 ∨ (now = 0 ∧ rung < 0) ∨ (now = 0 ∧ 0 ≤ rung ∧ 4 ≤ rung) := by omega
      clear g0
      rcases hcase with q1 | ⟨rfl, q2⟩ | ⟨rfl, q2, q3⟩
      · have hg : (now == 0) = false := by simp [q1]
        clear q1
        go_wp2
        go_ret
        exact ⟨ret_bool HF.out.symm, hx3⟩
      · go_wp2
        go_ret
        exact ⟨ret_bool HF.out.symm, hx3⟩
      · go_wp2
        go_ret
        exact ⟨ret_bool HF.out.symm, hx3⟩

theorem right0_calls (r : Rec) (a : Option Addr) (n c : Nat) (w : World) (k1 : r.kind ≠ 1) (k2 : r.kind ≠ 2) (k3 : r.kind ≠ 3) : Calls Tryd.prog 43 #[rv r a n c] w fun e w' => e = .returned (.bool (right r)) ∧ Ext w w' := by
  have HF : Hid (right r = false) := by show _ = _; unfold right; rw [if_neg k1, if_neg k2, if_neg k3]
  obtain ⟨kind, path, method, factor, rungs, rung, time, now, value⟩ := r
  unfold rv
  dsimp only at k1 k2 k3 ⊢
  have q1 : (kind == 1) = false := by simp [k1]
  have q2 : (kind == 2) = false := by simp [k2]
  have q3 : (kind == 3) = false := by simp [k3]
  clear k1 k2 k3
  go_enter Tryd.func43, Tryd.ntmps43
  go_wp2
  go_ret
  exact ⟨ret_bool HF.out.symm, Ext.alloc _ _⟩
end Go.Proofs.YtkflikfcpdekdaaDoor

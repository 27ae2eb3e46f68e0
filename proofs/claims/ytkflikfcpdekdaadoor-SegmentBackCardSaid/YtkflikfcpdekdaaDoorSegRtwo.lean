/-
  Whether a record is right: a point.
-/
import Derived.Test.YtkflikfcpdekdaaDoorSegRight
namespace Go.Proofs.YtkflikfcpdekdaaDoor
open Go.RowKit

set_option maxHeartbeats 1600000 in
theorem right2_calls (r : Rec) (a : Option Addr) (n c : Nat) (w : World) (hb : Rg w a n c r.rungs) (k2 : r.kind = 2) : Calls Tryd.prog 43 #[rv r a n c] w fun e w' => e = .returned (.bool (right r)) ∧ Ext w w' := by
  obtain ⟨kind, path, method, factor, rungs, rung, time, now, value⟩ := r
  have hb1 := hb.ext (Ext.alloc w (.cells #[.int .i64 kind, .string ⟨path.toArray⟩, .int .i64 method, .int .i64 factor, .slice a n c, .int .i64 rung, .int .i64 time, .int .i64 now, .int .i64 value] 48))
  unfold rv
  dsimp only at hb1 k2 ⊢
  subst k2
  have HB : Hid (right ⟨2, path, method, factor, rungs, rung, time, now, value⟩ = (blank ⟨2, path, method, factor, rungs, rung, time, now, value⟩ && decide (rung = 0) && timedOk time && timedOk now && decide (value ≠ -9223372036854775808))) := by show _ = _; unfold right; rw [if_neg (by show ¬ (2 : Int) = 1; decide), if_pos rfl]
  obtain ⟨rr, hrr⟩ : ∃ rr, right ⟨2, path, method, factor, rungs, rung, time, now, value⟩ = rr := ⟨_, rfl⟩
  rw [hrr] at HB ⊢
  have hc0 := Lib.hid (blank_calls ⟨2, path, method, factor, rungs, rung, time, now, value⟩ a n c _ hb1)
  have hc1 := Lib.hid (timed_calls time)
  have hc2 := Lib.hid (timed_calls now)
  obtain ⟨bb, hbb⟩ : ∃ bb, blank ⟨2, path, method, factor, rungs, rung, time, now, value⟩ = bb := ⟨_, rfl⟩
  obtain ⟨t1, ht1⟩ : ∃ bb, timedOk time = bb := ⟨_, rfl⟩
  obtain ⟨t2, ht2⟩ : ∃ bb, timedOk now = bb := ⟨_, rfl⟩
  rw [hbb] at hc0 HB
  rw [ht1] at hc1 HB
  rw [ht2] at hc2 HB
  clear hbb ht1 ht2 hrr
  go_enter Tryd.func43, Tryd.ntmps43
  go_wp2_with fail
  refine hc0.out.mono ?_
  rintro e w2 ⟨rfl, hx2⟩
  have hx3 := (Ext.alloc _ _).trans hx2
  have c5 := hx2.cell (a := ⟨w.heap.size, 5, none⟩) (v := .int .i64 rung) (by simp)
  have c6 := hx2.cell (a := ⟨w.heap.size, 6, none⟩) (v := .int .i64 time) (by simp)
  have c7 := hx2.cell (a := ⟨w.heap.size, 7, none⟩) (v := .int .i64 now) (by simp)
  have c8 := hx2.cell (a := ⟨w.heap.size, 8, none⟩) (v := .int .i64 value) (by simp)
  clear hx2 hc0 hb hb1
  cases bb with
  | false =>
    have HF : Hid (rr = false) := by show _ = _; rw [HB.out]; rfl
    clear HB
    go_wp2
    go_ret
    exact ⟨ret_bool HF.out.symm, hx3⟩
  | true =>
    by_cases g0 : rung = 0
    · have HB1 : Hid (rr = (t1 && t2 && decide (value ≠ -9223372036854775808))) := by show _ = _; rw [HB.out, g0]; rfl
      subst g0
      clear HB
      go_wp2_with fail
      refine (hc1.out _).mono ?_
      rintro e w3 ⟨rfl, rfl⟩
      clear hc1
      cases t1 with
      | false =>
        have HF : Hid (rr = false) := by show _ = _; rw [HB1.out]; rfl
        clear HB1
        go_wp2
        go_ret
        exact ⟨ret_bool HF.out.symm, hx3⟩
      | true =>
        go_wp2_with fail
        refine (hc2.out _).mono ?_
        rintro e w3 ⟨rfl, rfl⟩
        clear hc2
        cases t2 with
        | false =>
          have HF : Hid (rr = false) := by show _ = _; rw [HB1.out]; rfl
          clear HB1
          go_wp2
          go_ret
          exact ⟨ret_bool HF.out.symm, hx3⟩
        | true =>
          have HF : Hid (rr = (value != -9223372036854775808)) := by show _ = _; rw [HB1.out, bne0]; rfl
          clear HB1
          go_wp2
          go_ret
          exact ⟨ret_bool HF.out.symm, hx3⟩
    · have HF : Hid (rr = false) := by show _ = _; rw [HB.out]; simp [g0]
      have hg : (rung == 0) = false := by simp [g0]
      clear HB
      go_wp2
      go_ret
      exact ⟨ret_bool HF.out.symm, hx3⟩
end Go.Proofs.YtkflikfcpdekdaaDoor

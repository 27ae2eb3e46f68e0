/-
  Whether a record is right: the reference's answer, of points, slots, and what is neither.
-/
import Derived.Test.YtkflikfcpdekdaaDoorSegRref
namespace Go.Proofs.YtkflikfcpdekdaaDoor
open Go.RowKit

theorem rg_nil (w : World) : Rg w none 0 0 [] := ⟨rfl, Nat.le_refl _, Nat.zero_le _, fun _ => rfl, fun h => absurd h (by omega)⟩
set_option maxRecDepth 100000 in
set_option maxHeartbeats 1600000 in
theorem rright2_calls (r : Rec) (a : Option Addr) (n c : Nat) (w : World) (hb : Rg w a n c r.rungs) (k1 : r.kind = 2) : Calls Tryd.prog 44 #[rv r a n c] w fun e w' => e = .returned (.bool (right r)) ∧ Ext w w' := by
  obtain ⟨kind, path, method, factor, rungs, rung, time, now, value⟩ := r
  unfold rv
  dsimp only at hb k1 ⊢
  subst k1
  obtain ⟨rr, hrr⟩ : ∃ rr, right ⟨2, path, method, factor, rungs, rung, time, now, value⟩ = rr := ⟨_, rfl⟩
  rw [hrr]
  obtain ⟨sb, hsb⟩ : ∃ sb, decide ((⟨2, [], 0, 0, [], 0, time, now, value⟩ : Rec) = ⟨2, path, method, factor, rungs, rung, time, now, value⟩) = sb := ⟨_, rfl⟩
  obtain ⟨t1, ht1⟩ : ∃ bb, timedOk time = bb := ⟨_, rfl⟩
  obtain ⟨t2, ht2⟩ : ∃ bb, timedOk now = bb := ⟨_, rfl⟩
  have hc1 := Lib.hid (rtime_calls time)
  have hc2 := Lib.hid (rtime_calls now)
  have HB : Hid (rr = (sb && t1 && t2 && (value != -9223372036854775808))) := by
    show _ = _
    have e3 : sb = (blank ⟨2, path, method, factor, rungs, rung, time, now, value⟩ && decide (rung = 0)) := by
      rw [← hsb, Bool.eq_iff_iff]; unfold blank; simp only [decide_eq_true_eq, Rec.mk.injEq, Bool.and_eq_true, true_and, and_true]
      constructor
      · rintro ⟨h1, h2, h3, h4, h5⟩; exact ⟨⟨⟨⟨h1.symm, h2.symm⟩, h3.symm⟩, h4.symm⟩, h5.symm⟩
      · rintro ⟨⟨⟨⟨h1, h2⟩, h3⟩, h4⟩, h5⟩; exact ⟨h1.symm, h2.symm, h3.symm, h4.symm, h5.symm⟩
    rw [← hrr, e3, ← ht1, ← ht2, bne0]; unfold right; rw [if_neg (by show ¬ (2 : Int) = 1; decide), if_pos rfl]
  rw [ht1] at hc1
  rw [ht2] at hc2
  have hsb := Lib.hid hsb
  clear hrr ht1 ht2
  go_enter Tryd.func44, Tryd.ntmps44
  go_wp2_with fail
  go_region
  go_wp2_with fail
  refine (same8_calls ⟨2, [], 0, 0, [], 0, time, now, value⟩ none 0 0 ⟨2, path, method, factor, rungs, rung, time, now, value⟩ a n c _ (rg_nil _) (hb.ext ((Ext.alloc _ _).trans (Ext.alloc _ _)).drew)).mono ?_
  rw [hsb.out]
  rintro e w2 ⟨rfl, hx2⟩
  have hx3 : Ext w w2 := ((Ext.alloc _ _).trans (Ext.alloc _ _)).drew.trans hx2
  have c1 := hx2.cell (a := ⟨w.heap.size, 6, none⟩) (v := .int .i64 time) (by simp)
  have c2 := hx2.cell (a := ⟨w.heap.size, 7, none⟩) (v := .int .i64 now) (by simp)
  have c3 := hx2.cell (a := ⟨w.heap.size, 8, none⟩) (v := .int .i64 value) (by simp)
  clear hx2 hb hsb
  cases sb with
  | false =>
    have HF : Hid (rr = false) := by show _ = _; rw [HB.out]; rfl
    clear HB hc1 hc2
    go_wp2
    go_ret
    exact ⟨ret_bool HF.out.symm, hx3⟩
  | true =>
    go_wp2_with fail
    refine (hc1.out _).mono ?_
    rintro e w3 ⟨rfl, rfl⟩
    cases t1 with
    | false =>
      have HF : Hid (rr = false) := by show _ = _; rw [HB.out]; rfl
      clear HB hc1 hc2
      go_wp2
      go_ret
      exact ⟨ret_bool HF.out.symm, hx3⟩
    | true =>
      go_wp2_with fail
      refine (hc2.out _).mono ?_
      rintro e w3 ⟨rfl, rfl⟩
      cases t2 with
      | false =>
        have HF : Hid (rr = false) := by show _ = _; rw [HB.out]; rfl
        clear HB hc1 hc2
        go_wp2
        go_ret
        exact ⟨ret_bool HF.out.symm, hx3⟩
      | true =>
        have HF : Hid (rr = (value != -9223372036854775808)) := by show _ = _; rw [HB.out]; rfl
        clear HB hc1 hc2
        go_wp2
        go_ret
        exact ⟨ret_bool HF.out.symm, hx3⟩

set_option maxRecDepth 100000 in
set_option maxHeartbeats 1600000 in
theorem rright3_calls (r : Rec) (a : Option Addr) (n c : Nat) (w : World) (hb : Rg w a n c r.rungs) (k1 : r.kind = 3) : Calls Tryd.prog 44 #[rv r a n c] w fun e w' => e = .returned (.bool (right r)) ∧ Ext w w' := by
  obtain ⟨kind, path, method, factor, rungs, rung, time, now, value⟩ := r
  unfold rv
  dsimp only at hb k1 ⊢
  subst k1
  obtain ⟨rr, hrr⟩ : ∃ rr, right ⟨3, path, method, factor, rungs, rung, time, now, value⟩ = rr := ⟨_, rfl⟩
  rw [hrr]
  obtain ⟨sb, hsb⟩ : ∃ sb, decide ((⟨3, [], 0, 0, [], rung, time, 0, value⟩ : Rec) = ⟨3, path, method, factor, rungs, rung, time, now, value⟩) = sb := ⟨_, rfl⟩
  obtain ⟨t1, ht1⟩ : ∃ bb, timedOk time = bb := ⟨_, rfl⟩
  have hc1 := Lib.hid (rtime_calls time)
  have HB : Hid (rr = (sb && decide (0 ≤ rung) && decide (rung ≤ 3) && t1 && (value != -9223372036854775808))) := by
    show _ = _
    have e3 : sb = (blank ⟨3, path, method, factor, rungs, rung, time, now, value⟩ && decide (now = 0)) := by
      rw [← hsb, Bool.eq_iff_iff]; unfold blank; simp only [decide_eq_true_eq, Rec.mk.injEq, Bool.and_eq_true, true_and, and_true]
      constructor
      · rintro ⟨h1, h2, h3, h4, h5⟩; exact ⟨⟨⟨⟨h1.symm, h2.symm⟩, h3.symm⟩, h4.symm⟩, h5.symm⟩
      · rintro ⟨⟨⟨⟨h1, h2⟩, h3⟩, h4⟩, h5⟩; exact ⟨h1.symm, h2.symm, h3.symm, h4.symm, h5.symm⟩
    rw [← hrr, e3, ← ht1, bne0, show decide (rung ≤ 3) = decide (rung < 4) by rw [Bool.eq_iff_iff]; simp; omega]; unfold right; rw [if_neg (by show ¬ (3 : Int) = 1; decide), if_neg (by show ¬ (3 : Int) = 2; decide), if_pos rfl]
  rw [ht1] at hc1
  have hsb := Lib.hid hsb
  clear hrr ht1
  go_enter Tryd.func44, Tryd.ntmps44
  go_wp2_with fail
  go_region
  go_wp2_with fail
  refine (same8_calls ⟨3, [], 0, 0, [], rung, time, 0, value⟩ none 0 0 ⟨3, path, method, factor, rungs, rung, time, now, value⟩ a n c _ (rg_nil _) (hb.ext ((Ext.alloc _ _).trans (Ext.alloc _ _)).drew)).mono ?_
  rw [hsb.out]
  rintro e w2 ⟨rfl, hx2⟩
  have hx3 : Ext w w2 := ((Ext.alloc _ _).trans (Ext.alloc _ _)).drew.trans hx2
  have c0 := hx2.cell (a := ⟨w.heap.size, 5, none⟩) (v := .int .i64 rung) (by simp)
  have c1 := hx2.cell (a := ⟨w.heap.size, 6, none⟩) (v := .int .i64 time) (by simp)
  have c3 := hx2.cell (a := ⟨w.heap.size, 8, none⟩) (v := .int .i64 value) (by simp)
  clear hx2 hb hsb
  cases sb with
  | false =>
    have HF : Hid (rr = false) := by show _ = _; rw [HB.out]; rfl
    clear HB hc1
    go_wp2
    go_ret
    exact ⟨ret_bool HF.out.symm, hx3⟩
  | true =>
    by_cases g1 : 0 ≤ rung
    · by_cases g2 : rung ≤ 3
      · have HB1 : Hid (rr = (t1 && (value != -9223372036854775808))) := by show _ = _; rw [HB.out]; simp [g1, g2]
        clear HB
        go_wp2_with fail
        refine (hc1.out _).mono ?_
        rintro e w3 ⟨rfl, rfl⟩
        cases t1 with
        | false =>
          have HF : Hid (rr = false) := by show _ = _; rw [HB1.out]; rfl
          clear HB1 hc1
          go_wp2
          go_ret
          exact ⟨ret_bool HF.out.symm, hx3⟩
        | true =>
          have HF : Hid (rr = (value != -9223372036854775808)) := by show _ = _; rw [HB1.out]; rfl
          clear HB1 hc1
          go_wp2
          go_ret
          exact ⟨ret_bool HF.out.symm, hx3⟩
      · have HF : Hid (rr = false) := by show _ = _; rw [HB.out]; simp [g2]
        have g2' : 3 < rung := by omega
        clear HB hc1
        go_wp2
        go_ret
        exact ⟨ret_bool HF.out.symm, hx3⟩
    · have HF : Hid (rr = false) := by show _ = _; rw [HB.out]; simp [g1]
      have g1' : rung < 0 := by omega
      clear HB hc1
      go_wp2
      go_ret
      exact ⟨ret_bool HF.out.symm, hx3⟩

set_option maxRecDepth 100000 in
set_option maxHeartbeats 1600000 in
theorem rright0_calls (r : Rec) (a : Option Addr) (n c : Nat) (w : World) (k1 : r.kind ≠ 1) (k2 : r.kind ≠ 2) (k3 : r.kind ≠ 3) : Calls Tryd.prog 44 #[rv r a n c] w fun e w' => e = .returned (.bool (right r)) ∧ Ext w w' := by
  have HF : Hid (right r = false) := by show _ = _; unfold right; rw [if_neg k1, if_neg k2, if_neg k3]
  obtain ⟨kind, path, method, factor, rungs, rung, time, now, value⟩ := r
  unfold rv
  dsimp only at k1 k2 k3 ⊢
  have q1 : (kind == 1) = false := by simp [k1]
  have q2 : (kind == 2) = false := by simp [k2]
  have q3 : (kind == 3) = false := by simp [k3]
  clear k1 k2 k3
  go_enter Tryd.func44, Tryd.ntmps44
  go_wp2_with fail
  go_ret
  exact ⟨ret_bool HF.out.symm, (Ext.alloc _ _).trans (Ext.alloc _ _)⟩
theorem rright_calls (r : Rec) (a : Option Addr) (n c : Nat) (w : World) (hb : Rg w a n c r.rungs) : Calls Tryd.prog 44 #[rv r a n c] w fun e w' => e = .returned (.bool (right r)) ∧ Ext w w' := by
  by_cases k1 : r.kind = 1
  · exact rright1_calls r a n c w hb k1
  · by_cases k2 : r.kind = 2
    · exact rright2_calls r a n c w hb k2
    · by_cases k3 : r.kind = 3
      · exact rright3_calls r a n c w hb k3
      · exact rright0_calls r a n c w k1 k2 k3
end Go.Proofs.YtkflikfcpdekdaaDoor

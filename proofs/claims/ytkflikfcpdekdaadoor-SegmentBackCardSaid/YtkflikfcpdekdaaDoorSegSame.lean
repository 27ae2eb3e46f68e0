/-
  The same records: the reference's word.
-/
import Derived.Test.YtkflikfcpdekdaaDoorSegRok
namespace Go.Proofs.YtkflikfcpdekdaaDoor
open Go.RowKit

theorem cell_of_ext {w w' : World} (h : Ext w w') (b o : Nat) (v : Value) (hc : w.cell? ⟨b, o, none⟩ = some v) : w'.cell? ⟨b, o, none⟩ = some v := h.cell hc
set_option maxHeartbeats 1600000 in
theorem same8_calls (r : Rec) (a : Option Addr) (n c : Nat) (r2 : Rec) (a2 : Option Addr) (n2 c2 : Nat) (w : World) (hb : Rg w a n c r.rungs) (hb2 : Rg w a2 n2 c2 r2.rungs) :
    Calls Tryd.prog 47 #[rv r a n c, rv r2 a2 n2 c2] w fun e w' => e = .returned (.bool (decide (r = r2))) ∧ Ext w w' := by
  obtain ⟨kind, path, method, factor, rungs, rung, time, now, value⟩ := r
  obtain ⟨kind2, path2, method2, factor2, rungs2, rung2, time2, now2, value2⟩ := r2
  unfold rv
  dsimp only at hb hb2 ⊢
  obtain ⟨rr, hrr⟩ : ∃ rr, decide ((⟨kind, path, method, factor, rungs, rung, time, now, value⟩ : Rec) = ⟨kind2, path2, method2, factor2, rungs2, rung2, time2, now2, value2⟩) = rr := ⟨_, rfl⟩
  rw [hrr]
  have HB : Hid (rr = (decide (kind = kind2) && decide (path = path2) && decide (method = method2) && decide (factor = factor2) && decide (rungs = rungs2) && decide (rung = rung2) && decide (time = time2) && decide (now = now2) && decide (value = value2))) := by
    show _ = _; rw [← hrr, Bool.eq_iff_iff]; simp [and_assoc]
  clear hrr
  by_cases q : kind = kind2
  · subst q
    by_cases q : path = path2
    · subst q
      by_cases q : method = method2
      · subst q
        by_cases q : factor = factor2
        · subst q
          have HB5 : Hid (rr = (decide (rungs = rungs2) && decide (rung = rung2) && decide (time = time2) && decide (now = now2) && decide (value = value2))) := by show _ = _; rw [HB.out]; simp
          clear HB
          go_enter Tryd.func47, Tryd.ntmps47
          go_wp2_with fail
          refine (samerungs_calls a n c rungs a2 n2 c2 rungs2 _ ((hb.ext (Ext.alloc _ _)).ext (Ext.alloc _ _)) ((hb2.ext (Ext.alloc _ _)).ext (Ext.alloc _ _))).mono ?_
          rintro e w2 ⟨rfl, q, rfl⟩
          by_cases q5 : rungs = rungs2
          · subst q5
            by_cases q : rung = rung2
            · subst q
              by_cases q : time = time2
              · subst q
                by_cases q : now = now2
                · subst q
                  have HF : Hid (rr = (value == value2)) := by show _ = _; rw [HB5.out, Bool.eq_iff_iff]; simp
                  clear HB5
                  have qt : ((rungs = rungs) = True) := by simp
                  go_wp2
                  go_ret
                  exact ⟨ret_bool HF.out.symm, ((Ext.alloc _ _).trans (Ext.alloc _ _)).trans (Ext.drewN _ _)⟩
                · have HF : Hid (rr = false) := by show _ = _; rw [HB5.out]; simp [q]
                  have qf : (now == now2) = false := by simp [q]
                  clear HB5 q
                  go_wp2
                  go_ret
                  exact ⟨ret_bool HF.out.symm, ((Ext.alloc _ _).trans (Ext.alloc _ _)).trans (Ext.drewN _ _)⟩
              · have HF : Hid (rr = false) := by show _ = _; rw [HB5.out]; simp [q]
                have qf : (time == time2) = false := by simp [q]
                clear HB5 q
                go_wp2
                go_ret
                exact ⟨ret_bool HF.out.symm, ((Ext.alloc _ _).trans (Ext.alloc _ _)).trans (Ext.drewN _ _)⟩
            · have HF : Hid (rr = false) := by show _ = _; rw [HB5.out]; simp [q]
              have qf : (rung == rung2) = false := by simp [q]
              clear HB5 q
              go_wp2
              go_ret
              exact ⟨ret_bool HF.out.symm, ((Ext.alloc _ _).trans (Ext.alloc _ _)).trans (Ext.drewN _ _)⟩
          · have HF : Hid (rr = false) := by show _ = _; rw [HB5.out]; simp [q5]
            clear HB5
            go_wp2
            go_ret
            exact ⟨ret_bool HF.out.symm, ((Ext.alloc _ _).trans (Ext.alloc _ _)).trans (Ext.drewN _ _)⟩
        · have HF : Hid (rr = false) := by show _ = _; rw [HB.out]; simp [q]
          have qf : (factor == factor2) = false := by simp [q]
          clear q HB
          go_enter Tryd.func47, Tryd.ntmps47
          go_wp2
          go_ret
          exact ⟨ret_bool HF.out.symm, (Ext.alloc _ _).trans (Ext.alloc _ _)⟩
      · have HF : Hid (rr = false) := by show _ = _; rw [HB.out]; simp [q]
        have qf : (method == method2) = false := by simp [q]
        clear q HB
        go_enter Tryd.func47, Tryd.ntmps47
        go_wp2
        go_ret
        exact ⟨ret_bool HF.out.symm, (Ext.alloc _ _).trans (Ext.alloc _ _)⟩
    · have HF : Hid (rr = false) := by show _ = _; rw [HB.out]; simp [q]
      clear HB
      go_enter Tryd.func47, Tryd.ntmps47
      go_wp2
      go_ret
      exact ⟨ret_bool HF.out.symm, (Ext.alloc _ _).trans (Ext.alloc _ _)⟩
  · have HF : Hid (rr = false) := by show _ = _; rw [HB.out]; simp [q]
    have qf : (kind == kind2) = false := by simp [q]
    clear q HB
    go_enter Tryd.func47, Tryd.ntmps47
    go_wp2
    go_ret
    exact ⟨ret_bool HF.out.symm, (Ext.alloc _ _).trans (Ext.alloc _ _)⟩
end Go.Proofs.YtkflikfcpdekdaaDoor

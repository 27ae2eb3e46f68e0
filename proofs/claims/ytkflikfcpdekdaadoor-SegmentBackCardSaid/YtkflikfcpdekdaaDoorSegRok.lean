/-
  Whether a record is right: the program's answer, of every record; the reference's words: archives, the same archives.
-/
import Derived.Test.YtkflikfcpdekdaaDoorSegRone
import Derived.Test.YtkflikfcpdekdaaDoorSegRtwo
import Derived.Test.YtkflikfcpdekdaaDoorSegRthree
namespace Go.Proofs.YtkflikfcpdekdaaDoor
open Go.RowKit

theorem right_calls (r : Rec) (a : Option Addr) (n c : Nat) (w : World) (hb : Rg w a n c r.rungs) : Calls Tryd.prog 43 #[rv r a n c] w fun e w' => e = .returned (.bool (right r)) ∧ Ext w w' := by
  by_cases k1 : r.kind = 1
  · exact right1_calls r a n c w hb k1
  · by_cases k2 : r.kind = 2
    · exact right2_calls r a n c w hb k2
    · by_cases k3 : r.kind = 3
      · exact right3_calls r a n c w hb k3
      · exact right0_calls r a n c w k1 k2 k3

set_option maxHeartbeats 800000 in
theorem rrungs_calls (a : Option Addr) (n c : Nat) (l : List (Int × Int)) (w : World) (hb : Rg w a n c l) : Calls Tryd.prog 59 #[.slice a n c] w fun e w' => e = .returned (.bool (rungsOk l)) ∧ w = w' := by
  have hlen := Lib.hid hb.len
  have hm := Nat.le_trans (Sl.le hb) (Sl.max hb)
  unfold maxLen at hm
  go_enter Tryd.func59, Tryd.ntmps59
  go_wp2
  go_loop [3] (fun i => ∃ k : Nat, k ≤ n ∧ i = .int .i64 k ∧ l.all rungOk = (l.drop k).all rungOk) (fun i => n - (intOf i).toNat)
  case atStart => exact ⟨0, by omega, rfl, by simp⟩
  case round =>
    obtain ⟨k, hk, rfl, hall⟩ := hrel
    have hall := Lib.hid hall
    by_cases hlt : k < n
    · have hkl : k < l.length := by rw [hlen.out]; exact hlt
      obtain ⟨b, o, rfl, hc⟩ := hb.at (by omega)
      obtain ⟨hc1, hc2⟩ := hc k hkl
      obtain ⟨x, hxx⟩ : ∃ x, l[k] = x := ⟨_, rfl⟩
      rw [hxx] at hc1 hc2
      have HS : Hid ((l.drop k).all rungOk = (rungOk x && (l.drop (k + 1)).all rungOk)) := by show _ = _; rw [List.drop_eq_getElem_cons hkl, hxx]; rfl
      clear hc hxx
      by_cases hok : rungOk x = true
      · have HS2 : Hid ((l.drop k).all rungOk = (l.drop (k + 1)).all rungOk) := by show _ = _; rw [HS.out, hok]; rfl
        simp only [rungOk, Bool.and_eq_true, decide_eq_true_eq] at hok
        obtain ⟨⟨⟨q1, q2⟩, q3⟩, q4⟩ := hok
        go_wp2
        go_round
        case rel => exact ⟨k + 1, by omega, by go_num, by rw [hall.out, HS2.out]⟩
        case measure => simp [intOf]; omega
      · have HF : Hid (rungsOk l = false) := by show _ = _; unfold rungsOk; rw [hall.out, HS.out, Bool.eq_false_iff.2 hok]; simp
        have hcase : x.1 < 1 ∨ (¬ x.1 < 1 ∧ 86400 < x.1) ∨ (¬ x.1 < 1 ∧ ¬ 86400 < x.1 ∧ x.2 < 1) ∨ (¬ x.1 < 1 ∧ ¬ 86400 < x.1 ∧ ¬ x.2 < 1 ∧ 400 < x.2) := by
          simp only [rungOk, Bool.and_eq_true, decide_eq_true_eq] at hok
          omega
        clear hok HS
        rcases hcase with q1 | ⟨q1, q2⟩ | ⟨q1, q2, q3⟩ | ⟨q1, q2, q3, q4⟩
        all_goals
          go_wp2
          go_ret
          exact ⟨ret_bool HF.out.symm, rfl⟩
    · obtain rfl : k = n := by omega
      have HT : Hid (rungsOk l = (decide (1 ≤ k) && decide (k ≤ 4))) := by show _ = _; unfold rungsOk; rw [hall.out, List.drop_of_length_le (by rw [hlen.out]; omega), hlen.out]; simp
      by_cases h1 : 1 ≤ k
      · have h1' : decide ((1 : Int) ≤ (k : Int)) = true := by simp; omega
        have h2' : decide ((k : Int) ≤ 4) = decide (k ≤ 4) := by rw [Bool.eq_iff_iff]; simp; omega
        go_wp2
        go_ret
        exact ⟨ret_bool (by rw [HT.out]; simp [h1]), rfl⟩
      · obtain rfl : k = 0 := by omega
        go_wp2
        go_ret
        exact ⟨ret_bool (by rw [HT.out]; simp), rfl⟩

set_option maxHeartbeats 800000 in
theorem samerungs_calls (a : Option Addr) (n c : Nat) (l : List (Int × Int)) (a2 : Option Addr) (n2 c2 : Nat) (l2 : List (Int × Int)) (w : World) (hb : Rg w a n c l) (hb2 : Rg w a2 n2 c2 l2) :
    Calls Tryd.prog 63 #[.slice a n c, .slice a2 n2 c2] w fun e w' => e = .returned (.bool (decide (l = l2))) ∧ ∃ q, w' = w.drewN q := by
  have hl1 := Lib.hid hb.len
  have hl2 := Lib.hid hb2.len
  have hm1 := Nat.le_trans (Sl.le hb) (Sl.max hb)
  have hm2 := Nat.le_trans (Sl.le hb2) (Sl.max hb2)
  unfold maxLen at hm1 hm2
  by_cases he : n = n2
  · subst he
    have hq : ((n : Int) != (n : Int)) = false := by simp
    go_enter Tryd.func63, Tryd.ntmps63
    go_wp2
    go_loopw [5] (fun i wr => ∃ k q : Nat, k ≤ n ∧ i = .int .i64 k ∧ wr = w.drewN q ∧ l.take k = l2.take k) (fun i _ => n - (intOf i).toNat)
    case atStart => exact ⟨0, 0, Nat.zero_le _, rfl, rfl, rfl⟩
    case round =>
      obtain ⟨k, q, hk, rfl, rfl, htk⟩ := hrel
      have HT := Lib.hid htk
      clear htk
      by_cases hlt : k < n
      · obtain ⟨b, o, rfl, hc⟩ := hb.at (by omega)
        obtain ⟨b2, o2, rfl, hc2⟩ := hb2.at (by omega)
        have hkl : k < l.length := by rw [hl1.out]; exact hlt
        have hkl2 : k < l2.length := by rw [hl2.out]; exact hlt
        obtain ⟨hcell, hcella⟩ := hc k hkl
        obtain ⟨hcell2, hcell2a⟩ := hc2 k hkl2
        have hsn : Hid (l.take (k + 1) = l.take k ++ [l[k]]) := List.take_succ_eq_append_getElem hkl
        have hsn2 : Hid (l2.take (k + 1) = l2.take k ++ [l2[k]]) := List.take_succ_eq_append_getElem hkl2
        have hne : Hid (l[k] ≠ l2[k] → decide (l = l2) = false) := fun h => by
          rw [decide_eq_false_iff_not]; intro e; subst e; exact h rfl
        obtain ⟨x, hx⟩ : ∃ x, x = l[k] := ⟨_, rfl⟩
        obtain ⟨y, hy⟩ : ∃ x, x = l2[k] := ⟨_, rfl⟩
        rw [← hx] at hcell hcella hsn hne
        rw [← hy] at hcell2 hcell2a hsn2 hne
        clear hc hc2 hx hy
        obtain ⟨x1, x2⟩ := x
        obtain ⟨y1, y2⟩ := y
        by_cases hxy1 : x1 = y1
        · subst hxy1
          by_cases hxy2 : x2 = y2
          · subst hxy2
            go_wp2
            go_quiet (fail)
            go_wp2
            go_roundw
            case rel => exact ⟨k + 1, _, by omega, by go_num, rfl, by rw [hsn.out, hsn2.out, HT.out]⟩
            case measure => simp [intOf]; omega
          · have hfin := Lib.hid (hne.out (by simp [hxy2]))
            have hqq : (x2 == y2) = false := by simp [hxy2]
            clear hxy2 hne
            go_wp2
            go_quiet (fail)
            go_wp2
            go_ret
            exact ⟨ret_bool hfin.out.symm, drewN_more _ _ _⟩
        · have hfin := Lib.hid (hne.out (by simp [hxy1]))
          have hqq : (x1 == y1) = false := by simp [hxy1]
          clear hxy1 hne
          go_wp2
          go_quiet (fail)
          go_wp2
          go_ret
          exact ⟨ret_bool hfin.out.symm, drewN_more _ _ _⟩
      · obtain rfl : k = n := by omega
        have hfin : Hid (decide (l = l2) = true) := by
          have h1 := HT.out
          rw [List.take_of_length_le (by rw [hl1.out]; exact Nat.le_refl _), List.take_of_length_le (by rw [hl2.out]; exact Nat.le_refl _)] at h1
          show _ = _
          rw [h1]; simp
        go_wp2
        go_ret
        exact ⟨ret_bool hfin.out.symm, _, rfl⟩
  · have hq : ((n : Int) != (n2 : Int)) = true := by rw [bne_iff_ne]; omega
    have hfin : Hid (decide (l = l2) = false) := by
      show _ = _
      rw [decide_eq_false_iff_not]; intro e; subst e; exact he (hl1.out.symm.trans hl2.out)
    go_enter Tryd.func63, Tryd.ntmps63
    go_wp2
    go_ret
    exact ⟨ret_bool hfin.out.symm, 0, rfl⟩
end Go.Proofs.YtkflikfcpdekdaaDoor

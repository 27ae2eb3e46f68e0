/-
  The sums' walks.
-/
import Derived.Test.YtkflikfcpdekdaaDoorProg
import Derived.Test.YtkflikfcpdekdaaDoorLib
import Derived.Test.YtkflikfcpdekdaaDoorCrcPlain
namespace Go.Proofs.YtkflikfcpdekdaaDoor
open Go.RowKit

/-- The table of fours lies where it lies. -/
def Tab (w : World) : Prop := ∀ i, i < 16 → w.cell? ⟨0, i, none⟩ = some (.int .u32 (tab4.getD i 0 : Nat))

theorem not_u32 {s : Nat} (hs : s < 4294967296) : bits .xor .u32 IntKind.u32.max (s : Int) = ((4294967295 - s : Nat) : Int) := by
  have h : IntKind.u32.max = ((4294967295 : Nat) : Int) := by decide
  rw [h, u32_xor_nat _ _ (by decide) hs, xor_ones hs]

theorem tab4_lt (r : Nat) : tab4.getD r 0 < 4294967296 := by
  by_cases h : r < 16
  · have : ∀ r, r < 16 → tab4.getD r 0 < 4294967296 := by decide
    exact this r h
  · have : tab4.getD r 0 = 0 := by simp [tab4, List.getD, show 16 ≤ r by omega]
    omega

set_option maxHeartbeats 400000 in
theorem upd_calls (s : Nat) (a : Option Addr) (n c : Nat) (l : List UInt8) (w : World) (hs : s < 4294967296) (hn : n ≤ maxLen) (ht : Tab w) (hb : Bs w a n c l) :
    Calls Tryd.prog 19 #[.int .u32 s, .slice a n c] w fun e w' => e = .returned (.int .u32 (upd s l)) ∧ w = w' := by
  unfold maxLen at hn
  go_enter Tryd.func19, Tryd.ntmps19
  have hnot : bits .xor .u32 IntKind.u32.max (s : Int) = ((4294967295 - s : Nat) : Int) := not_u32 hs
  have hs1 : 4294967295 - s < 4294967296 := by omega
  go_wp2
  go_loop [5, 12] (fun v i => ∃ k : Nat, k ≤ n ∧ i = .int .i64 k ∧ v = .int .u32 (reg (4294967295 - s) (l.take k) : Nat)) (fun _ i => n - (intOf i).toNat)
  case atStart => exact ⟨0, Nat.zero_le _, rfl, rfl⟩
  case round =>
    obtain ⟨k, hk, rfl, rfl⟩ := hrel
    clear hnot
    by_cases hlt : k < n
    · obtain ⟨b, o, rfl, hc⟩ := hb.at (by omega)
      have hkl : k < l.length := by rw [hb.len]; exact hlt
      have hcell := hc k hkl
      have hsn : l.take (k + 1) = l.take k ++ [l[k]] := List.take_succ_eq_append_getElem hkl
      obtain ⟨x, hx⟩ : ∃ x, x = l[k] := ⟨_, rfl⟩
      obtain ⟨r, hr⟩ : ∃ r, r = reg (4294967295 - s) (l.take k) := ⟨_, rfl⟩
      have hrl : r < 4294967296 := by rw [hr]; exact reg_lt _ hs1
      have hxl := x.toNat_lt
      rw [← hx] at hcell hsn
      rw [← hr]
      have HS : Hid (reg (4294967295 - s) (l.take (k + 1)) = bfeed r x.toNat) := by rw [hsn, reg_snoc, ← hr]; rfl
      clear hsn hx hr hc
      have hx1 : bits .xor .u32 (r : Int) (x.toNat : Int) = ((r ^^^ x.toNat : Nat) : Int) := u32_xor_nat _ _ hrl (by omega)
      have hy : r ^^^ x.toNat < 4294967296 := Nat.xor_lt_two_pow (n := 32) hrl (by omega)
      go_wp2
      go_loop [5, 20] (fun v i => ∃ j : Nat, j ≤ 2 ∧ i = .int .i64 j ∧ v = .int .u32 (bsteps (4 * j) (r ^^^ x.toNat) : Nat)) (fun _ i => 2 - (intOf i).toNat)
      case atStart => exact ⟨0, by omega, rfl, rfl⟩
      case round =>
        obtain ⟨j, hj, rfl, rfl⟩ := hrel
        clear hx1 hcell
        by_cases hj2 : j < 2
        · obtain ⟨q, hq⟩ : ∃ q, q = bsteps (4 * j) (r ^^^ x.toNat) := ⟨_, rfl⟩
          have hql : q < 4294967296 := by rw [hq]; exact bsteps_lt _ hy
          have HQ : Hid (bsteps (4 * (j + 1)) (r ^^^ x.toNat) = q / 16 ^^^ tab4.getD (q % 16) 0) := by
            show _ = _
            rw [Nat.mul_add, bsteps_add, ← hq, bsteps4]
          rw [← hq]
          clear hq
          have hand : bits .and .u32 (q : Int) 15 = ((q % 16 : Nat) : Int) := by rw [show (15 : Int) = ((15 : Nat) : Int) from rfl, u32_and_nat _ _ hql (by decide), nat_mask4]
          have hT := ht (q % 16) (Nat.mod_lt _ (by decide))
          have htl : tab4.getD (q % 16) 0 < 4294967296 := tab4_lt _
          have hx3 : bits .xor .u32 ((q : Int) / 16) ((tab4[q % 16]?.getD 0 : Nat) : Int) = ((q / 16 ^^^ tab4.getD (q % 16) 0 : Nat) : Int) := by
            rw [show ((q : Int) / 16) = ((q / 16 : Nat) : Int) by omega]
            exact u32_xor_nat _ _ (by omega) htl
          clear htl
          go_wp2
          go_round
          case rel => exact ⟨j + 1, by omega, by go_num, by rw [HQ.out]; rfl⟩
          case measure => simp [intOf]; omega
        · obtain rfl : j = 2 := by omega
          go_wp2
          go_round
          case rel => exact ⟨k + 1, by omega, by go_num, by rw [HS.out, bfeed_fours, ← bsteps_add]⟩
          case measure => simp [intOf]; omega
    · obtain rfl : k = n := by omega
      have hr : reg (4294967295 - s) (l.take k) < 4294967296 := reg_lt _ hs1
      have hnot := not_u32 hr
      go_wp2
      go_ret
      exact ⟨ret_int (by rw [upd, List.take_of_length_le (by rw [hb.len]; exact Nat.le_refl _)]), rfl⟩

theorem sum_calls (a : Option Addr) (n c : Nat) (l : List UInt8) (w : World) (hn : n ≤ maxLen) (ht : Tab w) (hb : Bs w a n c l) :
    Calls Tryd.prog 17 #[.slice a n c] w fun e w' => e = .returned (.int .u32 (crc l)) ∧ w = w' := by
  go_enter Tryd.func17, Tryd.ntmps17
  go_wp2_with fail
  refine (upd_calls 0 a n c l w (by decide) hn ht hb).mono ?_
  rintro e w' ⟨rfl, rfl⟩
  go_wp2
  go_ret
  exact ⟨rfl, rfl⟩

set_option maxHeartbeats 400000 in
theorem rsum_calls (a : Option Addr) (n c : Nat) (l : List UInt8) (w : World) (hn : n ≤ maxLen) (hb : Bs w a n c l) :
    Calls Tryd.prog 18 #[.slice a n c] w fun e w' => e = .returned (.int .u32 (crc l)) ∧ w = w' := by
  unfold maxLen at hn
  go_enter Tryd.func18, Tryd.ntmps18
  go_wp2
  go_loop [3, 4] (fun v i => ∃ k : Nat, k ≤ n ∧ i = .int .i64 k ∧ v = .int .u32 (reg 4294967295 (l.take k) : Nat)) (fun _ i => n - (intOf i).toNat)
  case atStart => exact ⟨0, Nat.zero_le _, rfl, rfl⟩
  case round =>
    obtain ⟨k, hk, rfl, rfl⟩ := hrel
    by_cases hlt : k < n
    · obtain ⟨b, o, rfl, hc⟩ := hb.at (by omega)
      have hkl : k < l.length := by rw [hb.len]; exact hlt
      have hcell := hc k hkl
      have hsn : l.take (k + 1) = l.take k ++ [l[k]] := List.take_succ_eq_append_getElem hkl
      obtain ⟨x, hx⟩ : ∃ x, x = l[k] := ⟨_, rfl⟩
      obtain ⟨r, hr⟩ : ∃ r, r = reg 4294967295 (l.take k) := ⟨_, rfl⟩
      have hrl : r < 4294967296 := by rw [hr]; exact reg_lt _ (by decide)
      have hxl := x.toNat_lt
      rw [← hx] at hcell hsn
      rw [← hr]
      have HS : Hid (reg 4294967295 (l.take (k + 1)) = bfeed r x.toNat) := by rw [hsn, reg_snoc, ← hr]; rfl
      clear hsn hx hr hc
      have hx1 : bits .xor .u32 (r : Int) (x.toNat : Int) = ((r ^^^ x.toNat : Nat) : Int) := u32_xor_nat _ _ hrl (by omega)
      have hy : r ^^^ x.toNat < 4294967296 := Nat.xor_lt_two_pow (n := 32) hrl (by omega)
      go_wp2
      go_loop [3, 5] (fun v i => ∃ j : Nat, j ≤ 8 ∧ i = .int .i64 j ∧ v = .int .u32 (bsteps j (r ^^^ x.toNat) : Nat)) (fun _ i => 8 - (intOf i).toNat)
      case atStart => exact ⟨0, by omega, rfl, rfl⟩
      case round =>
        obtain ⟨j, hj, rfl, rfl⟩ := hrel
        clear hx1 hcell
        by_cases hj2 : j < 8
        · obtain ⟨q, hq⟩ : ∃ q, q = bsteps j (r ^^^ x.toNat) := ⟨_, rfl⟩
          have hql : q < 4294967296 := by rw [hq]; exact bsteps_lt _ hy
          have HQ : Hid (bsteps (j + 1) (r ^^^ x.toNat) = bstep q) := by
            show _ = _
            rw [bsteps_add, ← hq]; rfl
          rw [← hq]
          clear hq
          have hand : bits .and .u32 (q : Int) 1 = ((q % 2 : Nat) : Int) := by rw [show (1 : Int) = ((1 : Nat) : Int) from rfl, u32_and_nat _ _ hql (by decide), nat_mask1]
          have hx3 : bits .xor .u32 ((q : Int) / 2) 2197175160 = ((q / 2 ^^^ 2197175160 : Nat) : Int) := by
            rw [show ((q : Int) / 2) = ((q / 2 : Nat) : Int) by omega]
            exact u32_xor_nat _ _ (by omega) (by decide)
          go_wp2
          · have h1 : ((q : Int) % 2 == 1) = true := by assumption
            have h2 : q % 2 = 1 := by simp at h1; omega
            go_round
            case rel => exact ⟨j + 1, by omega, by go_num, by rw [HQ.out, bstep, if_pos h2]⟩
            case measure => simp [intOf]; omega
          · have h1 : ((q : Int) % 2 == 1) = false := by assumption
            have h2 : ¬ q % 2 = 1 := by simp at h1; omega
            go_round
            case rel => exact ⟨j + 1, by omega, by go_num, by rw [HQ.out, bstep, if_neg h2]; go_num⟩
            case measure => simp [intOf]; omega
        · obtain rfl : j = 8 := by omega
          go_wp2
          go_round
          case rel => exact ⟨k + 1, by omega, by go_num, by rw [HS.out]; rfl⟩
          case measure => simp [intOf]; omega
    · obtain rfl : k = n := by omega
      have hr : reg 4294967295 (l.take k) < 4294967296 := reg_lt _ (by decide)
      have hnot := not_u32 hr
      go_wp2
      go_ret
      exact ⟨ret_int (by rw [crc, List.take_of_length_le (by rw [hb.len]; exact Nat.le_refl _)]), rfl⟩
end Go.Proofs.YtkflikfcpdekdaaDoor

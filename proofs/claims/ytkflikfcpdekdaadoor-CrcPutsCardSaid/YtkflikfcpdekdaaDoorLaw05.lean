/-
  Layer 5's statements: the walks.
-/
import Derived.Test.YtkflikfcpdekdaaDoorCrc
namespace Go.Proofs.YtkflikfcpdekdaaDoor
open Go.RowKit

theorem crc_nine : crc [49, 50, 51, 52, 53, 54, 55, 56, 57] = 3808858755 := by decide +kernel

set_option maxHeartbeats 400000 in
theorem alive05_calls (w : World) (ht : Tab w) : Calls Tryd.prog 14 #[] w fun e w' => e = .returned (.bool true) ∧ Ext w w' := by
  have kc := fun (w : World) (C : Array Value) (n c : Nat) => Lib.run_convert_bytes_const (P := Tryd.prog) w 22 5 C n c Tryd.underlying22 Tryd.underlying5
  go_enter Tryd.func14, Tryd.ntmps14
  go_wp2_with fail
  refine (cput_calls _ 2 2 [97, 98] _ (by omega) (ht.ext (Ext.alloc _ _)) (Bs.row_of w [97, 98] [.int .u8 97, .int .u8 98] (by simp [bvs, bv]) _ _ (by simp [maxLen]))).mono ?_
  rintro e w1 ⟨v, rfl, ho, hx⟩
  obtain ⟨a1, n1, c1, rfl, hb1⟩ := ho.bs
  have hx1 : Ext w w1 := (Ext.alloc w _).trans hx
  have hn1 : n1 ≤ 140737488355300 := by rw [← hb1.len, crcPut_length]; decide
  clear ho
  go_wp2_with fail
  refine (ccheck_calls a1 n1 c1 _ w1 hn1 (ht.ext hx1) hb1).mono ?_
  rw [crcCheck_put]
  rintro e w2 ⟨v2, rfl, ho2, hx2⟩
  obtain ⟨a2, n2, c2, rfl, hb2⟩ := ho2.bs
  clear ho2
  have hx3 : Ext w w2 := hx1.trans hx2
  go_wp2_with fail
  refine (sum_calls _ 9 9 [49, 50, 51, 52, 53, 54, 55, 56, 57] _ (by unfold maxLen; omega) (ht.ext (hx3.trans (Ext.alloc _ _))) (Bs.row_of w2 _ [.int .u8 49, .int .u8 50, .int .u8 51, .int .u8 52, .int .u8 53, .int .u8 54, .int .u8 55, .int .u8 56, .int .u8 57] (by simp [bvs, bv]) _ _ (by simp [maxLen]))).mono ?_
  rw [crc_nine]
  rintro e w3 ⟨rfl, rfl⟩
  have hs := hb2.ext (Ext.alloc w2 (.cells #[.int .u8 49, .int .u8 50, .int .u8 51, .int .u8 52, .int .u8 53, .int .u8 54, .int .u8 55, .int .u8 56, .int .u8 57] 5 (9, 10)))
  have hstr := hs.string (P := Tryd.prog) 22 5 9 Tryd.underlying22 Tryd.underlying5 Tryd.underlying9
  go_wp2_with fail
  refine (sum_calls none 0 0 [] _ (by unfold maxLen; omega) (ht.ext (hx3.trans (Ext.alloc _ _))) (bs_nil _)).mono ?_
  rw [show crc [] = 0 from rfl]
  rintro e w3 ⟨rfl, rfl⟩
  go_wp2
  go_ret
  exact ⟨rfl, hx3.trans (Ext.alloc _ _)⟩

theorem great05_calls (a : Option Addr) (n c : Nat) (w : World) : Calls Tryd.prog 15 #[.slice a n c] w fun e w' => e = .returned (.bool (decide (5000 < (n : Int)))) ∧ w = w' := by
  go_enter Tryd.func15, Tryd.ntmps15
  go_wp2
  go_ret
  exact ⟨rfl, rfl⟩
set_option maxHeartbeats 400000 in
theorem sums_walk (a : Option Addr) (n c : Nat) (l : List UInt8) (a2 : Option Addr) (n2 c2 : Nat) (l2 : List UInt8) (w : World) (ht : Tab w) (hb : Bs w a n c l) (hb2 : Bs w a2 n2 c2 l2) :
    Calls Tryd.prog 3 #[.slice a n c, .slice a2 n2 c2] w fun e w' => e = .returned (.bool true) ∧ Ext w w' := by
  by_cases g1 : 5000 < n
  · have hg1 : decide (5000 < (n : Int)) = true := by simp; omega
    go_enter Tryd.func3, Tryd.ntmps3
    go_wp2_with fail
    refine (alive05_calls w ht).mono ?_
    rintro e w1 ⟨rfl, hx1⟩
    go_wp2_with fail
    refine (great05_calls a n c w1).mono ?_
    rintro e w' ⟨rfl, rfl⟩
    go_wp2
    go_ret
    exact ⟨rfl, hx1⟩
  · have hg1 : decide (5000 < (n : Int)) = false := by simp; omega
    by_cases g2 : 5000 < n2
    · have hg2 : decide (5000 < (n2 : Int)) = true := by simp; omega
      go_enter Tryd.func3, Tryd.ntmps3
      go_wp2_with fail
      refine (alive05_calls w ht).mono ?_
      rintro e w1 ⟨rfl, hx1⟩
      go_wp2_with fail
      refine (great05_calls a n c w1).mono ?_
      rintro e w' ⟨rfl, rfl⟩
      go_wp2_with fail
      refine (great05_calls a2 n2 c2 w1).mono ?_
      rintro e w' ⟨rfl, rfl⟩
      go_wp2
      go_ret
      exact ⟨rfl, hx1⟩
    · have hg2 : decide (5000 < (n2 : Int)) = false := by simp; omega
      have hm1 := Nat.le_trans (Sl.le hb) (Sl.max hb)
      have hm2 := Nat.le_trans (Sl.le hb2) (Sl.max hb2)
      have hl1 := Lib.hid hb.len
      have hl2 := Lib.hid hb2.len
      go_enter Tryd.func3, Tryd.ntmps3
      go_wp2_with fail
      refine (alive05_calls w ht).mono ?_
      rintro e w1 ⟨rfl, hx1⟩
      go_wp2_with fail
      refine (great05_calls a n c w1).mono ?_
      rintro e w' ⟨rfl, rfl⟩
      go_wp2_with fail
      refine (great05_calls a2 n2 c2 w1).mono ?_
      rintro e w' ⟨rfl, rfl⟩
      go_wp2_with fail
      refine (copy_calls a n c l w1 (by omega) (hb.ext hx1)).mono ?_
      rintro e w2 ⟨v, rfl, ho, hx2⟩
      have hoh := Lib.hid ho
      have HL := Lib.hid (show l.length + n2 ≤ 140737488355328 by rw [hl1.out]; omega)
      have hxx := hx1.trans hx2
      clear ho
      go_wp2_with (at_builtin; refine wpList_append_bytes rfl _ _ 22 rfl w1 5 Tryd.underlying22 infoU8 _ _ rfl hoh.out hx2 _ n2 c2 _ rfl (hb2.ext hxx) HL.out ?_; intro v' w3 hown2 hx3 hgrow)
      have hx4 := hx1.trans hx3
      obtain ⟨a4, n4, c4, rfl, hb4⟩ := hown2.bs
      clear hown2
      go_wp2_with fail
      refine (sum_calls a n c l w3 hm1 (ht.ext hx4) (hb.ext hx4)).mono ?_
      rintro e w' ⟨rfl, rfl⟩
      go_wp2_with fail
      refine (rsum_calls a n c l w3 hm1 (hb.ext hx4)).mono ?_
      rintro e w' ⟨rfl, rfl⟩
      go_wp2_with fail
      refine (sum_calls a n c l w3 hm1 (ht.ext hx4) (hb.ext hx4)).mono ?_
      rintro e w' ⟨rfl, rfl⟩
      go_wp2_with fail
      refine (upd_calls (crc l) a2 n2 c2 l2 w3 (crc_lt l) hm2 (ht.ext hx4) (hb2.ext hx4)).mono ?_
      rintro e w' ⟨rfl, rfl⟩
      go_wp2_with fail
      refine (rsum_calls a4 n4 c4 _ w3 (Nat.le_trans (Sl.le hb4) (Sl.max hb4)) hb4).mono ?_
      rintro e w' ⟨rfl, rfl⟩
      have hfin : ((upd (crc l) l2 : Int) == (crc (l ++ l2) : Int)) = true := by rw [upd_crc]; simp
      go_wp2
      go_ret
      exact ⟨rfl, hx4⟩
end Go.Proofs.YtkflikfcpdekdaaDoor

/-
  CrcPuts: the walk.
-/
import Derived.Test.YtkflikfcpdekdaaDoorLaw05
namespace Go.Proofs.YtkflikfcpdekdaaDoor
open Go.RowKit

set_option maxHeartbeats 400000 in
theorem puts_walk (a : Option Addr) (n c : Nat) (l : List UInt8) (w : World) (ht : Tab w) (hb : Bs w a n c l) :
    Calls Tryd.prog 4 #[.slice a n c] w fun e w' => e = .returned (.bool true) ∧ Ext w w' := by
  by_cases g1 : 5000 < n
  · have hg1 : decide (5000 < (n : Int)) = true := by simp; omega
    go_enter Tryd.func4, Tryd.ntmps4
    go_wp2_with fail
    refine (alive05_calls w ht).mono ?_
    rintro e w1 ⟨rfl, hx1⟩
    go_wp2_with fail
    refine (great05_calls a n c w1).mono ?_
    rintro e w' ⟨rfl, rfl⟩
    go_wp2
    go_ret
    exact ⟨rfl, hx1⟩
  · have hg1 : decide (5000 < (n : Int)) = false := by simp; omega
    have hl1 := Lib.hid hb.len
    go_enter Tryd.func4, Tryd.ntmps4
    go_wp2_with fail
    refine (alive05_calls w ht).mono ?_
    rintro e w1 ⟨rfl, hx1⟩
    go_wp2_with fail
    refine (great05_calls a n c w1).mono ?_
    rintro e w' ⟨rfl, rfl⟩
    go_wp2_with fail
    refine (copy_calls a n c l w1 (by omega) (hb.ext hx1)).mono ?_
    rintro e w2 ⟨v, rfl, ho, hx2⟩
    obtain ⟨a2, n2, c2, rfl, hb2⟩ := ho.bs
    have hn2 : n2 ≤ 140737488355300 := by rw [← hb2.len, hl1.out]; omega
    have hxx2 := hx1.trans hx2
    clear ho
    go_wp2_with fail
    refine (cput_calls a2 n2 c2 l w2 hn2 (ht.ext hxx2) hb2).mono ?_
    rintro e w3 ⟨v, rfl, ho, hx3⟩
    obtain ⟨a3, n3, c3, rfl, hb3⟩ := ho.bs
    have hxx3 := hxx2.trans hx3
    clear ho
    go_wp2_with fail
    refine (ccheck_calls a2 n2 c2 l w3 hn2 (ht.ext hxx3) (hb2.ext hx3)).mono ?_
    rintro e w4 ⟨v, rfl, ho, hx4⟩
    obtain ⟨a4, n4, c4, rfl, hb4⟩ := ho.bs
    have hxx4 := hxx3.trans hx4
    clear ho
    go_wp2_with fail
    refine (rcheck_calls a n c l w4 (by omega) (hb.ext hxx4)).mono ?_
    rintro e w5 ⟨v, rfl, ho, hx5⟩
    obtain ⟨a5, n5, c5, rfl, hb5⟩ := ho.bs
    have hxx5 := hxx4.trans hx5
    clear ho
    go_wp2_with fail
    refine (rput_calls a n c l w5 (by omega) (hb.ext hxx5)).mono ?_
    rintro e w6 ⟨v, rfl, ho, hx6⟩
    obtain ⟨a6, n6, c6, rfl, hb6⟩ := ho.bs
    have hxx6 := hxx5.trans hx6
    clear ho
    go_wp2_with fail
    refine (same_ext a3 n3 c3 _ a6 n6 c6 _ w6 (hb3.ext (hx4.trans (hx5.trans hx6))) hb6).mono ?_
    rintro e w7 ⟨rfl, hx7⟩
    have hq1 : (crcPut l == crcPut l) = true := by simp
    have hxx7 := hxx6.trans hx7
    go_wp2_with fail
    refine (same_ext a4 n4 c4 _ a5 n5 c5 _ w7 (hb4.ext (hx5.trans (hx6.trans hx7))) (hb5.ext (hx6.trans hx7))).mono ?_
    rintro e w8 ⟨rfl, hx8⟩
    have hq2 : ((crcCheck l).1 == (crcCheck l).1) = true := by simp
    have hxx8 := hxx7.trans hx8
    go_wp2_with fail
    refine (same_ext a2 n2 c2 _ a n c _ w8 (hb2.ext (hx3.trans (hx4.trans (hx5.trans (hx6.trans (hx7.trans hx8)))))) (hb.ext hxx8)).mono ?_
    rintro e w9 ⟨rfl, hx9⟩
    have hq3 : (l == l) = true := by simp
    go_wp2
    go_ret
    exact ⟨rfl, hxx8.trans hx9⟩
end Go.Proofs.YtkflikfcpdekdaaDoor

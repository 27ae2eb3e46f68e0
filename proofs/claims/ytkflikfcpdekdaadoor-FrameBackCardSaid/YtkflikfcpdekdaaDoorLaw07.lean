/-
  Layer 7's statements: the walks of FramePuts, FrameTakes, FrameCuts, FrameTorn.
-/
import Derived.Test.YtkflikfcpdekdaaDoorCut
namespace Go.Proofs.YtkflikfcpdekdaaDoor
open Go.RowKit

theorem take_a5 : frTake (frm [97] ++ [5]) = ([97], 7, 0) := frTake_frm [97] [5] (by decide) (by decide)
theorem cut_a5 : frCut (frm [97] ++ [5]) = ([[97]], 7) := by
  rw [frCut_step _ (by rw [take_a5]), take_a5]
  have hd : (frm [97] ++ [5]).drop 7 = [5] := by
    rw [show 7 = (frm [97]).length by rw [frm_length]; rfl]; exact List.drop_left
  simp only [hd]
  rw [frCut_stop [5] (by decide)]
  rfl

set_option maxHeartbeats 800000 in
theorem alive07_calls (w : World) (ht : Tab w) : Calls Tryd.prog 25 #[] w fun e w' => e = .returned (.bool true) ∧ Ext w w' := by
  have kc := fun (w : World) (C : Array Value) (n c : Nat) => Lib.run_convert_bytes_const (P := Tryd.prog) w 22 5 C n c Tryd.underlying22 Tryd.underlying5
  go_enter Tryd.func25, Tryd.ntmps25
  go_wp2_with fail
  refine (fput_calls _ 1 1 [97] _ (ht.ext (Ext.alloc _ _)) (Bs.row_of w [97] [.int .u8 97] (by simp [bvs, bv]) _ _ (by simp [maxLen]))).mono ?_
  rw [show frPut [97] = (frm [97], 0) from rfl]
  rintro e w1 ⟨v, rfl, ho, hx⟩
  have hx1 : Ext w w1 := (Ext.alloc w _).trans hx
  obtain ⟨a1, n1, c1, rfl, hb1⟩ := ho.bs
  obtain rfl : n1 = 7 := by rw [← hb1.len, frm_length]; rfl
  obtain ⟨g, rfl, -, -⟩ := ho.addr (by rw [frm_length]; decide)
  have hoh := Lib.hid ((ho.mono ((Ext.alloc w _).size)).ext (Ext.alloc w1 (.cells #[.int .u8 5] 5)))
  clear ho hb1
  go_wp2_with (at_builtin; refine wpList_append_bytes_old rfl _ _ 22 rfl w 5 Tryd.underlying22 infoU8 g 7 c1 _ rfl hoh.out (hx1.trans (Ext.alloc _ _)) _ 1 1 [5] rfl (Bs.one_of w1 5 _ (by simp [bv]) _) (by rw [frm_length]; decide) ?_; intro v' w2 hown2 hx2 hold)
  obtain ⟨a2, n2, c2, rfl, hb2⟩ := hown2.bs
  obtain rfl : n2 = 8 := by rw [← hb2.len, List.length_append, frm_length]; rfl
  clear hown2
  go_wp2_with fail
  refine (fcut_calls a2 8 c2 _ w2 (by omega) (ht.ext hx2) hb2).mono ?_
  rw [cut_a5]
  rintro e w3 ⟨a3, n3, c3, rfl, hb3, hx3⟩
  obtain rfl : n3 = 1 := hb3.len.symm
  obtain ⟨b, o, hbo, hc⟩ := (hold.ext hx3).at (by decide)
  cases hbo
  have hc0 := hc 0 (by rw [frm_length]; decide)
  have hc2 := hc 2 (by rw [frm_length]; decide)
  have e0 : (frm [97])[0]'(by rw [frm_length]; decide) = 1 := rfl
  have e2 : (frm [97])[2]'(by rw [frm_length]; decide) = 97 := rfl
  rw [e0] at hc0
  rw [e2] at hc2
  simp only [Nat.zero_add] at hc0 hc2
  clear hc e0 e2 hold
  go_wp2
  go_ret
  exact ⟨rfl, hx2.trans hx3⟩

set_option maxHeartbeats 800000 in
theorem fputs_walk (a : Option Addr) (n c : Nat) (l : List UInt8) (w : World) (ht : Tab w) (hn : n ≤ 140737488355328) (hb : Bs w a n c l) :
    Calls Tryd.prog 6 #[.slice a n c] w fun e w' => e = .returned (.bool true) ∧ Ext w w' := by
  have hl1 := Lib.hid hb.len
  go_enter Tryd.func6, Tryd.ntmps6
  go_wp2_with fail
  refine (alive07_calls w ht).mono ?_
  rintro e w1 ⟨rfl, hx1⟩
  go_wp2_with fail
  refine (copy_calls a n c l w1 hn (hb.ext hx1)).mono ?_
  rintro e w2 ⟨v, rfl, ho, hx2⟩
  obtain ⟨a2, n2, c2, rfl, hb2⟩ := ho.bs
  have hxx2 := hx1.trans hx2
  clear ho
  go_wp2_with fail
  refine (fput_calls a2 n2 c2 l w2 (ht.ext hxx2) hb2).mono ?_
  rintro e w3 ⟨v, rfl, ho, hx3⟩
  obtain ⟨a3, n3, c3, rfl, hb3⟩ := ho.bs
  have hxx3 := hxx2.trans hx3
  clear ho
  go_wp2_with fail
  refine (rfput_calls a n c l w3 (hb.ext hxx3)).mono ?_
  rintro e w4 ⟨v, rfl, ho, hx4⟩
  obtain ⟨a4, n4, c4, rfl, hb4⟩ := ho.bs
  have hxx4 := hxx3.trans hx4
  clear ho
  go_wp2_with fail
  refine (same_ext a3 n3 c3 _ a4 n4 c4 _ w4 (hb3.ext hx4) hb4).mono ?_
  rintro e w5 ⟨rfl, hx5⟩
  have hq1 : ((frPut l).1 == (frPut l).1) = true := by simp
  have hxx5 := hxx4.trans hx5
  go_wp2_with fail
  refine (same_ext a2 n2 c2 _ a n c _ w5 (hb2.ext (hx3.trans (hx4.trans hx5))) (hb.ext hxx5)).mono ?_
  rintro e w6 ⟨rfl, hx6⟩
  have hq2 : (l == l) = true := by simp
  go_wp2
  go_ret
  exact ⟨rfl, hxx5.trans hx6⟩

set_option maxHeartbeats 800000 in
theorem ftakes_walk (a : Option Addr) (n c : Nat) (l : List UInt8) (w : World) (ht : Tab w) (hn : n ≤ 140737488355328) (hb : Bs w a n c l) :
    Calls Tryd.prog 7 #[.slice a n c] w fun e w' => e = .returned (.bool true) ∧ Ext w w' := by
  have hl1 := Lib.hid hb.len
  go_enter Tryd.func7, Tryd.ntmps7
  go_wp2_with fail
  refine (alive07_calls w ht).mono ?_
  rintro e w1 ⟨rfl, hx1⟩
  go_wp2_with fail
  refine (copy_calls a n c l w1 hn (hb.ext hx1)).mono ?_
  rintro e w2 ⟨v, rfl, ho, hx2⟩
  obtain ⟨a2, n2, c2, rfl, hb2⟩ := ho.bs
  have hxx2 := hx1.trans hx2
  clear ho
  go_wp2_with fail
  refine (ftake_calls a2 n2 c2 l w2 (ht.ext hxx2) hb2).mono ?_
  rintro e w3 ⟨a3, n3, c3, rfl, ⟨hb3, -⟩, hx3⟩
  have hxx3 := hxx2.trans hx3
  go_wp2_with fail
  refine (rtake_calls a n c l w3 (hb.ext hxx3)).mono ?_
  rintro e w4 ⟨a4, n4, c4, rfl, ⟨hb4, -⟩, hx4⟩
  have hxx4 := hxx3.trans hx4
  go_wp2_with fail
  refine (same_ext a3 n3 c3 _ a4 n4 c4 _ w4 (hb3.ext hx4) hb4).mono ?_
  rintro e w5 ⟨rfl, hx5⟩
  have hq1 : ((frTake l).1 == (frTake l).1) = true := by simp
  have hxx5 := hxx4.trans hx5
  go_wp2_with fail
  refine (same_ext a2 n2 c2 _ a n c _ w5 (hb2.ext (hx3.trans (hx4.trans hx5))) (hb.ext hxx5)).mono ?_
  rintro e w6 ⟨rfl, hx6⟩
  have hq2 : (l == l) = true := by simp
  go_wp2
  go_ret
  exact ⟨rfl, hxx5.trans hx6⟩

theorem great07_calls (a : Option Addr) (n c : Nat) (w : World) : Calls Tryd.prog 30 #[.slice a n c] w fun e w' => e = .returned (.bool (decide (5000 < (n : Int)))) ∧ w = w' := by
  go_enter Tryd.func30, Tryd.ntmps30
  go_wp2
  go_ret
  exact ⟨rfl, rfl⟩

theorem samess_ext (a : Option Addr) (n c : Nat) (L : List (List UInt8)) (a2 : Option Addr) (n2 c2 : Nat) (L2 : List (List UInt8)) (w : World) (hb : Bss w a n c L) (hb2 : Bss w a2 n2 c2 L2) :
    Calls Tryd.prog 33 #[.slice a n c, .slice a2 n2 c2] w fun e w' => e = .returned (.bool (L == L2)) ∧ Ext w w' :=
  (samess_calls a n c L a2 n2 c2 L2 w hb hb2).mono fun _ _ ⟨he, q, hw⟩ => ⟨he, hw ▸ Ext.drewN w q⟩

set_option maxHeartbeats 800000 in
theorem fcuts_walk (a : Option Addr) (n c : Nat) (l : List UInt8) (w : World) (ht : Tab w) (hb : Bs w a n c l) :
    Calls Tryd.prog 8 #[.slice a n c] w fun e w' => e = .returned (.bool true) ∧ Ext w w' := by
  by_cases g1 : 5000 < n
  · have hg1 : decide (5000 < (n : Int)) = true := by simp; omega
    go_enter Tryd.func8, Tryd.ntmps8
    go_wp2_with fail
    refine (alive07_calls w ht).mono ?_
    rintro e w1 ⟨rfl, hx1⟩
    go_wp2_with fail
    refine (great07_calls a n c w1).mono ?_
    rintro e w' ⟨rfl, rfl⟩
    go_wp2
    go_ret
    exact ⟨rfl, hx1⟩
  · have hg1 : decide (5000 < (n : Int)) = false := by simp; omega
    have hl1 := Lib.hid hb.len
    go_enter Tryd.func8, Tryd.ntmps8
    go_wp2_with fail
    refine (alive07_calls w ht).mono ?_
    rintro e w1 ⟨rfl, hx1⟩
    go_wp2_with fail
    refine (great07_calls a n c w1).mono ?_
    rintro e w' ⟨rfl, rfl⟩
    go_wp2_with fail
    refine (copy_calls a n c l w1 (by omega) (hb.ext hx1)).mono ?_
    rintro e w2 ⟨v, rfl, ho, hx2⟩
    obtain ⟨a2, n2, c2, rfl, hb2⟩ := ho.bs
    have hn2 : n2 ≤ 1000000 := by rw [← hb2.len, hl1.out]; omega
    have hxx2 := hx1.trans hx2
    clear ho
    go_wp2_with fail
    refine (fcut_calls a2 n2 c2 l w2 hn2 (ht.ext hxx2) hb2).mono ?_
    rintro e w3 ⟨a3, n3, c3, rfl, hb3, hx3⟩
    have hxx3 := hxx2.trans hx3
    go_wp2_with fail
    refine (rcut_calls a n c l w3 (by omega) (hb.ext hxx3)).mono ?_
    rintro e w4 ⟨a4, n4, c4, rfl, hb4, hx4⟩
    have hxx4 := hxx3.trans hx4
    go_wp2_with fail
    refine (samess_ext a3 n3 c3 _ a4 n4 c4 _ w4 (hb3.ext hx4) hb4).mono ?_
    rintro e w5 ⟨rfl, hx5⟩
    have hq1 : ((frCut l).1 == (frCut l).1) = true := by simp
    have hxx5 := hxx4.trans hx5
    go_wp2_with fail
    refine (same_ext a2 n2 c2 _ a n c _ w5 (hb2.ext (hx3.trans (hx4.trans hx5))) (hb.ext hxx5)).mono ?_
    rintro e w6 ⟨rfl, hx6⟩
    have hq2 : (l == l) = true := by simp
    go_wp2
    go_ret
    exact ⟨rfl, hxx5.trans hx6⟩
end Go.Proofs.YtkflikfcpdekdaaDoor

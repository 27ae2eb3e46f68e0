/-
  Frames: Put and Take, the program's and the reference's.
-/
import Derived.Test.YtkflikfcpdekdaaDoorCrc
import Derived.Test.YtkflikfcpdekdaaDoorConcat
import Derived.Test.YtkflikfcpdekdaaDoorFramePlain
namespace Go.Proofs.YtkflikfcpdekdaaDoor
open Go.RowKit

set_option maxHeartbeats 400000 in
theorem fput_calls (a : Option Addr) (n c : Nat) (l : List UInt8) (w : World) (ht : Tab w) (hb : Bs w a n c l) :
    Calls Tryd.prog 26 #[.slice a n c] w fun e w' => ∃ v, e = .returned (.tuple #[v, .int .i64 (frPut l).2]) ∧ Own w' w.heap.size 5 v (frPut l).1 ∧ Ext w w' := by
  have hlen := Lib.hid hb.len
  by_cases h0 : n = 0
  · subst h0
    have hfin : Hid (frPut l = ([], 1)) := by show _ = _; unfold frPut; rw [if_pos hlen.out]
    go_enter Tryd.func26, Tryd.ntmps26
    go_wp2
    go_ret2
    exact ⟨_, by rw [hfin.out]; rfl, by rw [hfin.out]; exact own_nil _ _ _, Ext.refl _⟩
  · have hq0 : ((n : Int) == 0) = false := by rw [beq_eq_false_iff_ne]; omega
    by_cases h1 : 512 < n
    · have hq1 : decide ((512 : Int) < (n : Int)) = true := by simp; omega
      have hfin : Hid (frPut l = ([], 12)) := by show _ = _; unfold frPut; rw [hlen.out, if_neg h0, if_pos h1]
      go_enter Tryd.func26, Tryd.ntmps26
      go_wp2
      go_ret2
      exact ⟨_, by rw [hfin.out]; rfl, by rw [hfin.out]; exact own_nil _ _ _, Ext.refl _⟩
    · have hq1 : decide ((512 : Int) < (n : Int)) = false := by simp; omega
      have hfin : Hid (frPut l = (frm l, 0)) := by show _ = _; unfold frPut; rw [hlen.out, if_neg h0, if_neg h1]
      go_enter Tryd.func26, Tryd.ntmps26
      go_wp2_with fail
      have hv : Hid ([Value.int .u8 ((n : Int) % 256), .int .u8 ((n : Int) / 256)] = bvs (le2 n)) := by
        show _ = _; simp [bvs, bv, le2]; omega
      have hS := Sl.row_at (w.alloc (.cells #[.int .u8 ((n : Int) % 256), .int .u8 ((n : Int) / 256)] 5)) [.slice (some ⟨w.heap.size, 0, none⟩) 2 2, .slice a n c] 22 (0, 0) (w.heap.size + 1) (by simp) (by simp [maxLen])
      have hx2 : Ext w ((w.alloc (.cells #[.int .u8 ((n : Int) % 256), .int .u8 ((n : Int) / 256)] 5)).alloc (.cells #[.slice (some ⟨w.heap.size, 0, none⟩) 2 2, .slice a n c] 22)) := (Ext.alloc _ _).trans (Ext.alloc _ _)
      have hB0 := Bs.row_of w (le2 n) _ hv.out 5 (0, 0) (by simp [maxLen])
      have hV := BsAll.two (hB0.ext (Ext.alloc _ (.cells #[.slice (some ⟨w.heap.size, 0, none⟩) 2 2, .slice a n c] 22))) (hb.ext hx2)
      refine (concat_calls _ 2 2 _ [le2 n, l] _ hS hV (by simp [le2, hlen.out]; omega)).mono ?_
      rintro e w1 ⟨v, rfl, ho1, hx1⟩
      obtain ⟨a1, n1, c1, rfl, hb1⟩ := ho1.bs
      have hn1 : n1 ≤ 140737488355300 := by rw [← hb1.len]; simp [le2, hlen.out]; omega
      have hxx1 := hx2.trans hx1
      clear ho1 hS hV hB0 hx1
      go_wp2_with fail
      refine (cput_calls a1 n1 c1 _ w1 hn1 (ht.ext hxx1) hb1).mono ?_
      rintro e w2 ⟨v, rfl, ho2, hx3⟩
      have ho3 := Lib.hid (ho2.mono hxx1.size)
      clear ho2
      go_wp2
      go_ret2
      exact ⟨v, by rw [hfin.out]; rfl, by rw [hfin.out]; unfold frm; rw [hlen.out]; simpa using ho3.out, hxx1.trans hx3⟩

set_option maxHeartbeats 400000 in
theorem rfput_calls (a : Option Addr) (n c : Nat) (l : List UInt8) (w : World) (hb : Bs w a n c l) :
    Calls Tryd.prog 27 #[.slice a n c] w fun e w' => ∃ v, e = .returned (.tuple #[v, .int .i64 (frPut l).2]) ∧ Own w' w.heap.size 5 v (frPut l).1 ∧ Ext w w' := by
  have hlen := Lib.hid hb.len
  by_cases h0 : n = 0
  · subst h0
    have hfin : Hid (frPut l = ([], 1)) := by show _ = _; unfold frPut; rw [if_pos hlen.out]
    go_enter Tryd.func27, Tryd.ntmps27
    go_wp2
    go_ret2
    exact ⟨_, by rw [hfin.out]; rfl, by rw [hfin.out]; exact own_nil _ _ _, Ext.refl _⟩
  · have hq0 : ((n : Int) == 0) = false := by rw [beq_eq_false_iff_ne]; omega
    by_cases h1 : 512 < n
    · have hq1 : decide ((512 : Int) < (n : Int)) = true := by simp; omega
      have hfin : Hid (frPut l = ([], 12)) := by show _ = _; unfold frPut; rw [hlen.out, if_neg h0, if_pos h1]
      go_enter Tryd.func27, Tryd.ntmps27
      go_wp2
      go_ret2
      exact ⟨_, by rw [hfin.out]; rfl, by rw [hfin.out]; exact own_nil _ _ _, Ext.refl _⟩
    · have hq1 : decide ((512 : Int) < (n : Int)) = false := by simp; omega
      have hfin : Hid (frPut l = (frm l, 0)) := by show _ = _; unfold frPut; rw [hlen.out, if_neg h0, if_neg h1]
      go_enter Tryd.func27, Tryd.ntmps27
      have hv : Hid ([Value.int .u8 ((n : Int) % 256), .int .u8 ((n : Int) / 256)] = bvs (le2 n)) := by
        show _ = _; simp [bvs, bv, le2]; omega
      have hol := Lib.hid (Own.lit w (le2 n) _ hv.out 5 (by simp [maxLen]))
      have HL : Hid ((le2 n).length + n ≤ 140737488355328) := by show 2 + n ≤ _; omega
      have hbh := Lib.hid hb
      clear hb
      go_wp2_with (at_builtin; refine wpList_append_bytes rfl _ _ 22 rfl w 5 Tryd.underlying22 infoU8 _ _ rfl hol.out (Ext.alloc _ _) _ n c _ rfl (hbh.out.ext (Ext.alloc _ _)) HL.out ?_; intro v' w1 hown1 hx1 hgrow)
      obtain ⟨a1, n1, c1, rfl, hb1⟩ := hown1.bs
      have hn1 : n1 ≤ 140737488355300 := by rw [← hb1.len, List.length_append, hlen.out]; show 2 + n ≤ _; omega
      clear hown1
      go_wp2_with fail
      refine (rput_calls a1 n1 c1 _ w1 hn1 hb1).mono ?_
      rintro e w2 ⟨v, rfl, ho2, hx2⟩
      have ho3 := Lib.hid (ho2.mono hx1.size)
      clear ho2
      go_wp2
      go_ret2
      exact ⟨v, by rw [hfin.out]; rfl, by rw [hfin.out]; unfold frm; rw [hlen.out]; exact ho3.out, hx1.trans hx2⟩
set_option maxHeartbeats 400000 in
theorem ftake_calls (a : Option Addr) (n c : Nat) (l : List UInt8) (w : World) (ht : Tab w) (hb : Bs w a n c l) :
    Calls Tryd.prog 28 #[.slice a n c] w fun e w' => ∃ a' n' c', e = .returned (.tuple #[.slice a' n' c', .int .i64 (frTake l).2.1, .int .i64 (frTake l).2.2]) ∧ Bt w' 5 a' n' c' (frTake l).1 ∧ Ext w w' := by
  have hlen := Lib.hid hb.len
  have hle := Sl.le hb
  have hmx := Sl.max hb
  unfold maxLen at hmx
  by_cases h2 : n < 2
  · have hq : decide ((n : Int) < 2) = true := by simp; omega
    have hfin : Hid (frTake l = ([], 0, 9)) := by show _ = _; unfold frTake; rw [hlen.out, if_pos h2]
    go_enter Tryd.func28, Tryd.ntmps28
    go_wp2
    go_ret3
    exact ⟨_, _, _, by rw [hfin.out]; rfl, by rw [hfin.out]; exact Bt.nil _ _, Ext.refl _⟩
  · have hq : decide ((n : Int) < 2) = false := by simp; omega
    obtain ⟨b, o, rfl, hc⟩ := hb.at (by omega)
    have hc0 := hc 0 (by rw [hlen.out]; omega)
    have hc1 := hc 1 (by rw [hlen.out]; omega)
    have hi0 : (0 : Int) < (n : Int) := by omega
    have hi1 : (1 : Int) < (n : Int) := by omega
    have hn0 : 0 < n := by omega
    have hn1 : 1 < n := by omega
    obtain ⟨x, hx⟩ : ∃ x, x = l[0]'(by rw [hlen.out]; omega) := ⟨_, rfl⟩
    obtain ⟨y, hy⟩ : ∃ x, x = l[1]'(by rw [hlen.out]; omega) := ⟨_, rfl⟩
    rw [← hx, Nat.add_zero] at hc0
    rw [← hy] at hc1
    have hxl := x.toNat_lt
    have hyl := y.toNat_lt
    have hl2 : Hid (len2 l = x.toNat + 256 * y.toNat) := by
      show _ = _
      unfold len2
      rw [List.getD_eq_getElem?_getD, List.getD_eq_getElem?_getD, List.getElem?_eq_getElem (by rw [hlen.out]; omega), List.getElem?_eq_getElem (by rw [hlen.out]; omega), hx, hy]
      rfl
    clear hc hx hy
    have hor := or_two x y
    obtain ⟨m, hm⟩ : ∃ m, m = x.toNat + 256 * y.toNat := ⟨_, rfl⟩
    have hmb : m ≤ 65535 := by omega
    rw [← hm] at hor hl2
    clear hm
    have hnl : Hid (¬ l.length < 2) := by show ¬ _; rw [hlen.out]; omega
    by_cases hbad : m < 1 ∨ 512 < m
    · have hfin : Hid (frTake l = ([], 0, 7)) := by show _ = _; unfold frTake; rw [if_neg hnl.out, hl2.out, if_pos hbad]
      by_cases hm0 : m = 0
      · subst hm0
        go_enter Tryd.func28, Tryd.ntmps28
        go_wp2
        go_quiet (fail)
        go_wp2
        go_ret3
        exact ⟨_, _, _, by rw [hfin.out]; rfl, by rw [hfin.out]; exact Bt.nil _ _, Ext.drewN _ _⟩
      · have hm1 : ((m : Int) == 0) = false := by rw [beq_eq_false_iff_ne]; omega
        have hm2 : decide ((512 : Int) < (m : Int)) = true := by simp; omega
        have hm3 : ¬ ((m : Int) = 0) := by omega
        go_enter Tryd.func28, Tryd.ntmps28
        go_wp2
        go_quiet (fail)
        go_wp2
        go_ret3
        exact ⟨_, _, _, by rw [hfin.out]; rfl, by rw [hfin.out]; exact Bt.nil _ _, Ext.drewN _ _⟩
    · have hm1 : ((m : Int) == 0) = false := by rw [beq_eq_false_iff_ne]; omega
      have hm2 : decide ((512 : Int) < (m : Int)) = false := by simp; omega
      have hm3 : ¬ ((m : Int) = 0) := by omega
      have hm4 : (m : Int) ≤ 512 := by omega
      by_cases hs : n < m + 6
      · have hfin : Hid (frTake l = ([], 0, 9)) := by show _ = _; unfold frTake; rw [if_neg hnl.out, hl2.out, if_neg hbad, hlen.out, if_pos hs]
        have hs1 : decide ((n : Int) < (m : Int) + 6) = true := by simp; omega
        go_enter Tryd.func28, Tryd.ntmps28
        go_wp2
        go_quiet (fail)
        go_wp2
        go_ret3
        exact ⟨_, _, _, by rw [hfin.out]; rfl, by rw [hfin.out]; exact Bt.nil _ _, Ext.drewN _ _⟩
      · have hs1 : decide ((n : Int) < (m : Int) + 6) = false := by simp; omega
        have hbt : Bs w (some ⟨b, o, none⟩) (m + 6) c (l.take (m + 6)) := hb.take _ (by omega)
        have htl := Lib.hid hbt.len
        have hmc : m + 6 ≤ c := by omega
        have hfin0 : Hid (frTake l = if (crcCheck (l.take (m + 6))).2 = 0 then ((crcCheck (l.take (m + 6))).1.drop 2, m + 6, 0) else ([], 0, 8)) := by
          show _ = _; unfold frTake; rw [if_neg hnl.out, hl2.out, if_neg hbad, hlen.out, if_neg hs]
        by_cases hq : (crcCheck (l.take (m + 6))).2 = 0
        · have hfin : Hid (frTake l = ((crcCheck (l.take (m + 6))).1.drop 2, m + 6, 0)) := by show _ = _; rw [hfin0.out, if_pos hq]
          have hcl : Hid ((crcCheck (l.take (m + 6))).1.length = m + 2) := by
            have := crcCheck_len _ hq
            rw [htl.out] at this
            show _ = _; omega
          have hq2 : (crcCheck (l.take (m + 6))) = ((crcCheck (l.take (m + 6))).1, 0) := by rw [← hq]
          obtain ⟨r, hr⟩ : ∃ r, r = (crcCheck (l.take (m + 6))).1 := ⟨_, rfl⟩
          rw [← hr] at hcl hfin hq2
          have HQ := Lib.hid hq2
          clear hr hq hq2 hfin0 hs hbad hnl
          go_enter Tryd.func28, Tryd.ntmps28
          go_wp2
          go_quiet (fail)
          go_wp2_with fail
          refine (ccheck_calls (some ⟨b, o, none⟩) (m + 6) c _ _ (by omega) (ht.ext (Ext.drewN _ _)) (hbt.ext (Ext.drewN _ _))).mono ?_
          rw [HQ.out]
          rintro e w1 ⟨v, rfl, ho1, hx1⟩
          obtain ⟨a1, n1, c1, rfl, hb0⟩ := ho1.bs
          have hb1 := ho1.bt
          obtain rfl : m + 2 = n1 := by rw [← hb0.len, hcl.out]
          have hsl : ∀ w, (Instr.slice 22 (.slice a1 (m + 2) c1) (some (.int .i64 2)) none none).run Tryd.prog w = .ok (.slice (subA a1 c1 2 1) m (c1 - 2)) w := fun w => run_bytes_from w a1 (m + 2) c1 2 (by omega)
          clear ho1
          go_wp2
          go_ret3
          refine ⟨subA a1 c1 2 1, m, c1 - 2, by rw [hfin.out]; rfl, ?_, (Ext.drewN _ _).trans hx1⟩
          rw [hfin.out]
          have := hb1.sub 2 (m + 2) (by omega) (Nat.le_refl _)
          rwa [List.take_of_length_le (by rw [List.length_drop, hcl.out]; exact Nat.le_refl _)] at this
        · have hfin : Hid (frTake l = ([], 0, 8)) := by show _ = _; rw [hfin0.out, if_neg hq]
          have HQ : Hid (crcCheck (l.take (m + 6)) = ([], 8)) := (crcCheck_err _ (by rw [htl.out]; omega)).resolve_left hq
          clear hq hfin0 hs hbad hnl
          go_enter Tryd.func28, Tryd.ntmps28
          go_wp2
          go_quiet (fail)
          go_wp2_with fail
          refine (ccheck_calls (some ⟨b, o, none⟩) (m + 6) c _ _ (by omega) (ht.ext (Ext.drewN _ _)) (hbt.ext (Ext.drewN _ _))).mono ?_
          rw [HQ.out]
          rintro e w1 ⟨v, rfl, ho1, hx1⟩
          clear ho1
          go_wp2
          go_ret3
          exact ⟨_, _, _, by rw [hfin.out]; rfl, by rw [hfin.out]; exact Bt.nil _ _, (Ext.drewN _ _).trans hx1⟩
set_option maxHeartbeats 400000 in
theorem rtake_calls (a : Option Addr) (n c : Nat) (l : List UInt8) (w : World) (hb : Bs w a n c l) :
    Calls Tryd.prog 29 #[.slice a n c] w fun e w' => ∃ a' n' c', e = .returned (.tuple #[.slice a' n' c', .int .i64 (frTake l).2.1, .int .i64 (frTake l).2.2]) ∧ Bt w' 5 a' n' c' (frTake l).1 ∧ Ext w w' := by
  have hlen := Lib.hid hb.len
  have hle := Sl.le hb
  have hmx := Sl.max hb
  unfold maxLen at hmx
  by_cases h2 : n < 2
  · have hq : decide ((n : Int) < 2) = true := by simp; omega
    have hfin : Hid (frTake l = ([], 0, 9)) := by show _ = _; unfold frTake; rw [hlen.out, if_pos h2]
    go_enter Tryd.func29, Tryd.ntmps29
    go_wp2
    go_ret3
    exact ⟨_, _, _, by rw [hfin.out]; rfl, by rw [hfin.out]; exact Bt.nil _ _, Ext.refl _⟩
  · have hq : decide ((n : Int) < 2) = false := by simp; omega
    obtain ⟨b, o, rfl, hc⟩ := hb.at (by omega)
    have hc0 := hc 0 (by rw [hlen.out]; omega)
    have hc1 := hc 1 (by rw [hlen.out]; omega)
    have hi0 : (0 : Int) < (n : Int) := by omega
    have hi1 : (1 : Int) < (n : Int) := by omega
    have hn0 : 0 < n := by omega
    have hn1 : 1 < n := by omega
    obtain ⟨x, hx⟩ : ∃ x, x = l[0]'(by rw [hlen.out]; omega) := ⟨_, rfl⟩
    obtain ⟨y, hy⟩ : ∃ x, x = l[1]'(by rw [hlen.out]; omega) := ⟨_, rfl⟩
    rw [← hx, Nat.add_zero] at hc0
    rw [← hy] at hc1
    have hxl := x.toNat_lt
    have hyl := y.toNat_lt
    have hl2 : Hid (len2 l = x.toNat + 256 * y.toNat) := by
      show _ = _
      unfold len2
      rw [List.getD_eq_getElem?_getD, List.getD_eq_getElem?_getD, List.getElem?_eq_getElem (by rw [hlen.out]; omega), List.getElem?_eq_getElem (by rw [hlen.out]; omega), hx, hy]
      rfl
    clear hc hx hy
    have hw1 : IntKind.i64.wrap (256 * (y.toNat : Int)) = 256 * (y.toNat : Int) := IntWalk.i64_in _ (by omega)
    obtain ⟨m, hm⟩ : ∃ m, m = x.toNat + 256 * y.toNat := ⟨_, rfl⟩
    have hmb : m ≤ 65535 := by omega
    have hw2 : IntKind.i64.wrap ((x.toNat : Int) + 256 * (y.toNat : Int)) = (m : Int) := by rw [IntWalk.i64_in _ (by omega)]; omega
    rw [← hm] at hl2
    clear hm
    have hnl : Hid (¬ l.length < 2) := by show ¬ _; rw [hlen.out]; omega
    by_cases hbad : m < 1 ∨ 512 < m
    · have hfin : Hid (frTake l = ([], 0, 7)) := by show _ = _; unfold frTake; rw [if_neg hnl.out, hl2.out, if_pos hbad]
      by_cases hm0 : m = 0
      · subst hm0
        go_enter Tryd.func29, Tryd.ntmps29
        go_wp2
        go_quiet (fail)
        go_wp2
        go_ret3
        exact ⟨_, _, _, by rw [hfin.out]; rfl, by rw [hfin.out]; exact Bt.nil _ _, Ext.drewN _ _⟩
      · have hm1 : decide ((m : Int) < 1) = false := by simp; omega
        have hm2 : decide ((512 : Int) < (m : Int)) = true := by simp; omega
        have hm3 : ¬ ((m : Int) = 0) := by omega
        go_enter Tryd.func29, Tryd.ntmps29
        go_wp2
        go_quiet (fail)
        go_wp2
        go_ret3
        exact ⟨_, _, _, by rw [hfin.out]; rfl, by rw [hfin.out]; exact Bt.nil _ _, Ext.drewN _ _⟩
    · have hm1 : decide ((m : Int) < 1) = false := by simp; omega
      have hm2 : decide ((512 : Int) < (m : Int)) = false := by simp; omega
      have hm3 : ¬ ((m : Int) = 0) := by omega
      have hm4 : (m : Int) ≤ 512 := by omega
      by_cases hs : n < m + 6
      · have hfin : Hid (frTake l = ([], 0, 9)) := by show _ = _; unfold frTake; rw [if_neg hnl.out, hl2.out, if_neg hbad, hlen.out, if_pos hs]
        have hs1 : decide ((n : Int) < (m : Int) + 6) = true := by simp; omega
        go_enter Tryd.func29, Tryd.ntmps29
        go_wp2
        go_quiet (fail)
        go_wp2
        go_ret3
        exact ⟨_, _, _, by rw [hfin.out]; rfl, by rw [hfin.out]; exact Bt.nil _ _, Ext.drewN _ _⟩
      · have hs1 : decide ((n : Int) < (m : Int) + 6) = false := by simp; omega
        have hbt : Bs w (some ⟨b, o, none⟩) (m + 6) c (l.take (m + 6)) := hb.take _ (by omega)
        have htl := Lib.hid hbt.len
        have hmc : m + 6 ≤ c := by omega
        have hfin0 : Hid (frTake l = if (crcCheck (l.take (m + 6))).2 = 0 then ((crcCheck (l.take (m + 6))).1.drop 2, m + 6, 0) else ([], 0, 8)) := by
          show _ = _; unfold frTake; rw [if_neg hnl.out, hl2.out, if_neg hbad, hlen.out, if_neg hs]
        by_cases hq : (crcCheck (l.take (m + 6))).2 = 0
        · have hfin : Hid (frTake l = ((crcCheck (l.take (m + 6))).1.drop 2, m + 6, 0)) := by show _ = _; rw [hfin0.out, if_pos hq]
          have hcl : Hid ((crcCheck (l.take (m + 6))).1.length = m + 2) := by
            have := crcCheck_len _ hq
            rw [htl.out] at this
            show _ = _; omega
          have hq2 : (crcCheck (l.take (m + 6))) = ((crcCheck (l.take (m + 6))).1, 0) := by rw [← hq]
          obtain ⟨r, hr⟩ : ∃ r, r = (crcCheck (l.take (m + 6))).1 := ⟨_, rfl⟩
          rw [← hr] at hcl hfin hq2
          have HQ := Lib.hid hq2
          clear hr hq hq2 hfin0 hs hbad hnl
          go_enter Tryd.func29, Tryd.ntmps29
          go_wp2
          go_quiet (fail)
          go_wp2_with fail
          refine (rcheck_calls (some ⟨b, o, none⟩) (m + 6) c _ _ (by omega) (hbt.ext (Ext.drewN _ _))).mono ?_
          rw [HQ.out]
          rintro e w1 ⟨v, rfl, ho1, hx1⟩
          obtain ⟨a1, n1, c1, rfl, hb0⟩ := ho1.bs
          have hb1 := ho1.bt
          obtain rfl : m + 2 = n1 := by rw [← hb0.len, hcl.out]
          have hsl : ∀ w, (Instr.slice 22 (.slice a1 (m + 2) c1) (some (.int .i64 2)) none none).run Tryd.prog w = .ok (.slice (subA a1 c1 2 1) m (c1 - 2)) w := fun w => run_bytes_from w a1 (m + 2) c1 2 (by omega)
          clear ho1
          go_wp2
          go_ret3
          refine ⟨subA a1 c1 2 1, m, c1 - 2, by rw [hfin.out]; rfl, ?_, (Ext.drewN _ _).trans hx1⟩
          rw [hfin.out]
          have := hb1.sub 2 (m + 2) (by omega) (Nat.le_refl _)
          rwa [List.take_of_length_le (by rw [List.length_drop, hcl.out]; exact Nat.le_refl _)] at this
        · have hfin : Hid (frTake l = ([], 0, 8)) := by show _ = _; rw [hfin0.out, if_neg hq]
          have HQ : Hid (crcCheck (l.take (m + 6)) = ([], 8)) := (crcCheck_err _ (by rw [htl.out]; omega)).resolve_left hq
          clear hq hfin0 hs hbad hnl
          go_enter Tryd.func29, Tryd.ntmps29
          go_wp2
          go_quiet (fail)
          go_wp2_with fail
          refine (rcheck_calls (some ⟨b, o, none⟩) (m + 6) c _ _ (by omega) (hbt.ext (Ext.drewN _ _))).mono ?_
          rw [HQ.out]
          rintro e w1 ⟨v, rfl, ho1, hx1⟩
          clear ho1
          go_wp2
          go_ret3
          exact ⟨_, _, _, by rw [hfin.out]; rfl, by rw [hfin.out]; exact Bt.nil _ _, (Ext.drewN _ _).trans hx1⟩
end Go.Proofs.YtkflikfcpdekdaaDoor

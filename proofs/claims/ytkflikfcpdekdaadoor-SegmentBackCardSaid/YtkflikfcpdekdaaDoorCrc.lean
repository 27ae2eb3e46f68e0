/-
  Bytes with their sum: laid, and held against it.
-/
import Derived.Test.YtkflikfcpdekdaaDoorSum
import Derived.Test.YtkflikfcpdekdaaDoorBytes
namespace Go.Proofs.YtkflikfcpdekdaaDoor
open Go.RowKit

theorem le4_length (n : Nat) : (le4 n).length = 4 := rfl
theorem le4_take (n j : Nat) (hj : j < 4) : (le4 n).take (j + 1) = (le4 n).take j ++ [UInt8.ofNat (n / 256 ^ j)] := by
  rcases j with _ | _ | _ | _ | j
  · simp [le4]
  · simp [le4]
  · simp [le4]
  · simp [le4]
  · omega
theorem crcPut_length (l : List UInt8) : (crcPut l).length = l.length + 4 := by simp [crcPut, le4]
theorem Tab.ext {w w' : World} (h : Tab w) (hx : Ext w w') : Tab w' := fun i hi => hx.cell (h i hi)

set_option maxHeartbeats 400000 in
theorem cput_calls (a : Option Addr) (n c : Nat) (l : List UInt8) (w : World) (hn : n ≤ 140737488355300) (ht : Tab w) (hb : Bs w a n c l) :
    Calls Tryd.prog 20 #[.slice a n c] w fun e w' => ∃ v, e = .returned v ∧ Own w' w.heap.size 5 v (crcPut l) ∧ Ext w w' := by
  have hlen := Lib.hid hb.len
  go_enter Tryd.func20, Tryd.ntmps20
  go_wp2_with fail
  refine (clone_calls a n c l w (by omega) hb).mono ?_
  rintro e w1 ⟨v, rfl, ho1, hx1⟩
  go_wp2_with fail
  refine (sum_calls a n c l w1 (Nat.le_trans hb.le hb.max) (ht.ext hx1) (hb.ext hx1)).mono ?_
  rintro e w1 ⟨rfl, rfl⟩
  go_wp2_with fail
  go_loopw [3, 4, 9] (fun v s i wr => ∃ j : Nat, j ≤ 4 ∧ i = .int .i64 j ∧ s = .int .u32 (crc l / 256 ^ j : Nat) ∧ Own wr w.heap.size 5 v (l ++ (le4 (crc l)).take j) ∧ Ext w wr) (fun _ _ i _ => 4 - (intOf i).toNat)
  case atStart => exact ⟨0, by omega, rfl, by simp, by simpa using ho1, hx1⟩
  case round =>
    obtain ⟨j, hj, rfl, rfl, hown, hx⟩ := hrel
    have hcl := crc_lt l
    obtain ⟨q, hq⟩ : ∃ q, q = crc l / 256 ^ j := ⟨_, rfl⟩
    rw [← hq]
    by_cases hlt : j < 4
    · have hql : q < 4294967296 := by rw [hq]; exact Nat.lt_of_le_of_lt (Nat.div_le_self _ _) hcl
      have HD : Hid (crc l / 256 ^ (j + 1) = q / 256) := by show _ = _; rw [hq, Nat.pow_succ, Nat.div_div_eq_div_mul]
      have HT : Hid ((le4 (crc l)).take (j + 1) = (le4 (crc l)).take j ++ [UInt8.ofNat q]) := by rw [hq]; exact le4_take _ _ hlt
      have HL := Lib.hid (show (l ++ (le4 (crc l)).take j).length + 1 ≤ 140737488355328 by rw [List.length_append, List.length_take, hlen.out, le4_length]; omega)
      have hv : Hid (Value.int .u8 ((q : Int) % 256) = bv (UInt8.ofNat q)) := by show _ = _; simp [bv]
      clear hq hcl
      have hown1 := Lib.hid hown
      clear hown
      go_wp2_with (at_builtin; refine wpList_append_bytes rfl _ _ 22 rfl w 5 Tryd.underlying22 infoU8 _ _ rfl (hown1.out.ext (Ext.alloc _ _)) (hx.trans (Ext.alloc _ _)) _ 1 1 _ rfl (Bs.one_of wr _ _ hv.out _) HL.out ?_; intro v' w2 hown2 hx2 hgrow)
      go_roundw
      case rel => exact ⟨j + 1, by omega, by go_num, by rw [HD.out]; go_num, by rw [HT.out, ← List.append_assoc]; exact hown2, hx2⟩
      case measure => simp [intOf]; omega
    · obtain rfl : j = 4 := by omega
      clear hq
      go_wp2
      go_ret
      exact ⟨_, rfl, hown, hx⟩

theorem or_byte (m : List UInt8) (x : UInt8) (hm : m.length < 4) :
    bits .or .u32 (leNum m : Int) ((x.toNat : Int) * 2 ^ (8 * m.length) % 4294967296) = ((leNum (m ++ [x]) : Nat) : Int) := by
  have hx := x.toNat_lt
  have h1 := leNum_lt m
  have h2 := leNum_lt (m ++ [x])
  have h3 : 2 ^ (8 * m.length) ≤ 2 ^ 32 := Nat.pow_le_pow_right (by decide) (by omega)
  have h4 : 2 ^ (8 * (m ++ [x]).length) ≤ 2 ^ 32 := Nat.pow_le_pow_right (by decide) (by simp; omega)
  have hs := leNum_snoc m x
  have h5 : x.toNat * 2 ^ (8 * m.length) < 4294967296 := by omega
  have e : ((x.toNat : Int) * 2 ^ (8 * m.length) % 4294967296) = ((x.toNat * 2 ^ (8 * m.length) : Nat) : Int) := by
    have e2 : ((x.toNat : Int) * 2 ^ (8 * m.length)) = ((x.toNat * 2 ^ (8 * m.length) : Nat) : Int) := by simp
    rw [e2]; omega
  rw [e, u32_or_nat _ _ (by omega) h5, Nat.or_comm, nat_join (8 * m.length) _ _ (Nat.mul_mod_left _ _) h1, hs, Nat.add_comm]

theorem ret_pair {v : Value} {k : IntKind} {a b : Int} (h : a = b) : Ending.returned (.tuple #[v, .int k a]) = .returned (.tuple #[v, .int k b]) := by rw [h]

set_option maxHeartbeats 400000 in
theorem ccheck_calls (a : Option Addr) (n c : Nat) (l : List UInt8) (w : World) (hn : n ≤ 140737488355300) (ht : Tab w) (hb : Bs w a n c l) :
    Calls Tryd.prog 21 #[.slice a n c] w fun e w' => ∃ v, e = .returned (.tuple #[v, .int .i64 (crcCheck l).2]) ∧ Own w' w.heap.size 5 v (crcCheck l).1 ∧ Ext w w' := by
  have hlen := Lib.hid hb.len
  have hle := Sl.le hb
  have hmx := Sl.max hb
  unfold maxLen at hmx
  by_cases h4 : 4 ≤ n
  · have hd : decide ((n : Int) - 4 < 0) = false := by simp; omega
    go_enter Tryd.func21, Tryd.ntmps21
    go_wp2
    go_loop [5, 12] (fun s i => ∃ j : Nat, j ≤ 4 ∧ i = .int .i64 j ∧ s = .int .u32 (leNum ((l.drop (n - 4)).take j) : Nat)) (fun _ i => 4 - (intOf i).toNat)
    case atStart => exact ⟨0, by omega, rfl, rfl⟩
    case round =>
      obtain ⟨j, hj, rfl, rfl⟩ := hrel
      by_cases hlt : j < 4
      · obtain ⟨b, o, rfl, hc⟩ := hb.at (by omega)
        have hkl : n - 4 + j < l.length := by rw [hlen.out]; omega
        have hcell := hc (n - 4 + j) hkl
        obtain ⟨x, hx⟩ : ∃ x, x = l[n - 4 + j] := ⟨_, rfl⟩
        have hsn : Hid ((l.drop (n - 4)).take (j + 1) = (l.drop (n - 4)).take j ++ [x]) := by
          show _ = _
          rw [hx, List.take_succ_eq_append_getElem (by rw [List.length_drop]; omega)]
          simp
        have hml : ((l.drop (n - 4)).take j).length = j := by rw [List.length_take, List.length_drop, hlen.out]; omega
        obtain ⟨m, hm⟩ : ∃ m, m = (l.drop (n - 4)).take j := ⟨_, rfl⟩
        rw [← hm] at hsn hml ⊢
        rw [← hx] at hcell
        have hxl := x.toNat_lt
        have hor := or_byte m x (by omega)
        rw [hml] at hor
        clear hc hx hm hml hb
        go_wp2
        go_round
        case rel => exact ⟨j + 1, by omega, by go_num, by rw [hsn.out]⟩
        case measure => simp [intOf]; omega
      · obtain rfl : j = 4 := by omega
        have htk : (l.drop (n - 4)).take 4 = l.drop (n - 4) := List.take_of_length_le (by rw [List.length_drop, hlen.out]; omega)
        rw [htk]
        clear htk
        have hb2 : Bs w a (n - 4) c (l.take (n - 4)) := hb.take _ (by omega)
        by_cases hq : leNum (l.drop (n - 4)) = crc (l.take (n - 4))
        · have hfin : Hid (crcCheck l = (l.take (n - 4), 0)) := by
            show _ = _
            unfold crcCheck
            rw [hlen.out, if_neg (by omega), if_pos hq]
          have hqb : ((leNum (l.drop (n - 4)) : Int) != (crc (l.take (n - 4)) : Int)) = false := by rw [hq]; simp
          clear hq
          go_wp2_with fail
          refine (sum_calls a (n - 4) c _ w (by unfold maxLen; omega) ht hb2).mono ?_
          rintro e w' ⟨rfl, rfl⟩
          go_wp2_with fail
          refine (clone_calls a (n - 4) c _ w (by omega) hb2).mono ?_
          rintro e w1 ⟨v, rfl, ho, hx⟩
          go_wp2
          go_ret2
          exact ⟨v, by rw [hfin.out]; rfl, by rw [hfin.out]; exact ho, hx⟩
        · have hfin : Hid (crcCheck l = ([], 8)) := by
            show _ = _
            unfold crcCheck
            rw [hlen.out, if_neg (by omega), if_neg hq]
          have hqb : ((leNum (l.drop (n - 4)) : Int) != (crc (l.take (n - 4)) : Int)) = true := by rw [bne_iff_ne]; omega
          clear hq
          go_wp2_with fail
          refine (sum_calls a (n - 4) c _ w (by unfold maxLen; omega) ht hb2).mono ?_
          rintro e w' ⟨rfl, rfl⟩
          go_wp2
          go_ret2
          exact ⟨_, by rw [hfin.out]; rfl, by rw [hfin.out]; exact own_nil _ _ _, Ext.refl _⟩
  · have hd : decide ((n : Int) - 4 < 0) = true := by simp; omega
    have hfin : Hid (crcCheck l = ([], 9)) := by
      show _ = _
      unfold crcCheck
      rw [hlen.out, if_pos (by omega)]
    go_enter Tryd.func21, Tryd.ntmps21
    go_wp2
    go_ret2
    exact ⟨_, by rw [hfin.out]; rfl, by rw [hfin.out]; exact own_nil _ _ _, Ext.refl _⟩
set_option maxHeartbeats 400000 in
theorem rput_calls (a : Option Addr) (n c : Nat) (l : List UInt8) (w : World) (hn : n ≤ 140737488355300) (hb : Bs w a n c l) :
    Calls Tryd.prog 24 #[.slice a n c] w fun e w' => ∃ v, e = .returned v ∧ Own w' w.heap.size 5 v (crcPut l) ∧ Ext w w' := by
  have hlen := Lib.hid hb.len
  have hcl := crc_lt l
  go_enter Tryd.func24, Tryd.ntmps24
  go_wp2_with fail
  refine (rsum_calls a n c l w (Nat.le_trans (Sl.le hb) (Sl.max hb)) hb).mono ?_
  rintro e w' ⟨rfl, rfl⟩
  go_wp2_with fail
  refine (copy_calls a n c l w (by omega) hb).mono ?_
  rintro e w1 ⟨v, rfl, ho1, hx1⟩
  have hv : Hid ([Value.int .u8 ((crc l : Int) % 256), .int .u8 ((crc l : Int) / 256 % 256), .int .u8 ((crc l : Int) / 65536 % 256), .int .u8 ((crc l : Int) / 16777216)] = bvs (le4 (crc l))) := by
    show _ = _; simp [bvs, bv, le4]; omega
  have HL := Lib.hid (show l.length + 4 ≤ 140737488355328 by rw [hlen.out]; omega)
  have ho := Lib.hid ho1
  clear ho1
  go_wp2_with (at_builtin; refine wpList_append_bytes rfl _ _ 22 rfl w 5 Tryd.underlying22 infoU8 _ _ rfl (ho.out.ext (Ext.alloc _ _)) (hx1.trans (Ext.alloc _ _)) _ 4 4 _ rfl (Bs.row_of w1 _ _ hv.out _ _ (by simp [maxLen])) HL.out ?_; intro v' w2 hown2 hx2 hgrow)
  go_ret
  exact ⟨_, rfl, hown2, hx2⟩

set_option maxHeartbeats 400000 in
theorem rcheck_calls (a : Option Addr) (n c : Nat) (l : List UInt8) (w : World) (hn : n ≤ 140737488355300) (hb : Bs w a n c l) :
    Calls Tryd.prog 22 #[.slice a n c] w fun e w' => ∃ v, e = .returned (.tuple #[v, .int .i64 (crcCheck l).2]) ∧ Own w' w.heap.size 5 v (crcCheck l).1 ∧ Ext w w' := by
  have hlen := Lib.hid hb.len
  have hle := Sl.le hb
  have hmx := Sl.max hb
  unfold maxLen at hmx
  by_cases h4 : 4 ≤ n
  · have hd : decide ((n : Int) < 4) = false := by simp; omega
    have hb2 : Bs w a (n - 4) c (l.take (n - 4)) := hb.take _ (by omega)
    have hpl : Hid ((l.take (n - 4)).length = n - 4) := by show _ = _; rw [List.length_take, hlen.out]; omega
    go_enter Tryd.func22, Tryd.ntmps22
    go_wp2_with fail
    refine (copy_calls a (n - 4) c _ w (by omega) hb2).mono ?_
    rintro e w1 ⟨v, rfl, ho1, hx1⟩
    have ho1h := Lib.hid ho1
    obtain ⟨a1, n1, c1, rfl, hb1⟩ := ho1.bs
    clear ho1
    have hn1 : n1 ≤ 140737488355300 := by rw [← hb1.len, hpl.out]; omega
    go_wp2_with fail
    refine (rput_calls a1 n1 c1 _ w1 hn1 hb1).mono ?_
    rintro e w2 ⟨v2, rfl, ho2, hx2⟩
    obtain ⟨a2, n2, c2, rfl, hb2'⟩ := ho2.bs
    clear ho2
    go_wp2_with fail
    refine (same_calls a2 n2 c2 _ a n c l w2 hb2' (hb.ext (hx1.trans hx2))).mono ?_
    rintro e w3 ⟨rfl, q, rfl⟩
    have hx3 : Ext w (w2.drewN q) := (hx1.trans hx2).trans (Ext.drewN _ _)
    by_cases hq : crcPut (l.take (n - 4)) = l
    · have hfin : Hid (crcCheck l = (l.take (n - 4), 0)) := by
        show _ = _
        have := (crcPut_iff l (by rw [hlen.out]; exact h4)).1 (by rw [hlen.out]; exact hq)
        unfold crcCheck
        rw [hlen.out] at this ⊢
        rw [if_neg (by omega), if_pos this]
      have hqb : (crcPut (l.take (n - 4)) == l) = true := by simpa using hq
      clear hq
      go_wp2
      go_ret2
      exact ⟨_, by rw [hfin.out]; rfl, by rw [hfin.out]; exact ho1h.out.ext (hx2.trans (Ext.drewN _ _)), hx3⟩
    · have hfin : Hid (crcCheck l = ([], 8)) := by
        show _ = _
        have hi := crcPut_iff l (by rw [hlen.out]; exact h4)
        rw [hlen.out] at hi
        unfold crcCheck
        rw [hlen.out, if_neg (by omega), if_neg (fun h => hq (hi.2 h))]
      have hqb : (crcPut (l.take (n - 4)) == l) = false := by simpa using hq
      clear hq
      go_wp2
      go_ret2
      exact ⟨_, by rw [hfin.out]; rfl, by rw [hfin.out]; exact own_nil _ _ _, hx3⟩
  · have hd : decide ((n : Int) < 4) = true := by simp; omega
    have hfin : Hid (crcCheck l = ([], 9)) := by
      show _ = _
      unfold crcCheck
      rw [hlen.out, if_pos (by omega)]
    go_enter Tryd.func22, Tryd.ntmps22
    go_wp2
    go_ret2
    exact ⟨_, by rw [hfin.out]; rfl, by rw [hfin.out]; exact own_nil _ _ _, Ext.refl _⟩
end Go.Proofs.YtkflikfcpdekdaaDoor

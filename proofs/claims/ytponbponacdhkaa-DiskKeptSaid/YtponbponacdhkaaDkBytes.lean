/-
  Bytes: copied, held against each other.
-/
import Derived.Test.YtponbponacdhkaaProg
import Derived.Test.YtponbponacdhkaaLib
namespace Go.Proofs.Ytponbponacdhkaa
open Go.RowKit

theorem infoU8 : (Try.prog.info? 5).map (fun i => (i.zero, i.size, i.bytes)) = some (some (.int .u8 0), 1, 1) := by kernel_rfl

theorem elemBs : Try.prog.underlying 22 = some (.slice (Try.prog.elem 22)) := by kernel_rfl
theorem sizeBs (w : World) : (sizeOf (Try.prog.elem 22)).run Try.prog w = .ok 1 w := by kernel_rfl
/-- 'b[l:]', written out. -/
theorem run_bytes_from (w : World) (a : Option Addr) (n c l : Nat) (h : l ≤ n) :
    (Instr.slice 22 (.slice a n c) (some (.int .i64 (l : Int))) none none).run Try.prog w = .ok (.slice (subA a c l 1) (n - l) (c - l)) w := by
  rw [run_piece_l w 22 a n c elemBs .i64 l (by omega) (by omega), sizeBs]
  simp [Result.andThen]
theorem run_bytes_piece (w : World) (a : Option Addr) (n c l h : Nat) (h1 : l ≤ h) (h2 : h ≤ c) :
    (Instr.slice 22 (.slice a n c) (some (.int .i64 (l : Int))) (some (.int .i64 (h : Int))) none).run Try.prog w = .ok (.slice (subA a c l 1) (h - l) (c - l)) w := by
  rw [run_piece_lh w 22 a n c elemBs .i64 .i64 l h (by omega) (by omega) (by omega), sizeBs]
  simp [Result.andThen]
theorem own_made (w : World) : Own (w.alloc (.cells #[] 5)) w.heap.size 5 (.slice (some ⟨w.heap.size, 0, none⟩) 0 0) [] := World.ownsRow_made w #[] 0 (Nat.le_refl _) (Nat.zero_le _) rfl

theorem own_nil (w : World) (base : Nat) (e : TypeId) : Own w base e (.slice none 0 0) [] := World.ownsRow_nil w _ _ _

set_option maxHeartbeats 400000 in
theorem clone_calls (a : Option Addr) (n c : Nat) (l : List UInt8) (w : World) (hn : n ≤ 140737488355328) (hb : Bs w a n c l) :
    Calls Try.prog 34 #[.slice a n c] w fun e w' => ∃ v, e = .returned v ∧ Own w' w.heap.size 5 v l ∧ Ext w w' := by
  have hb1 := Lib.hid hb
  have hq := fun (w : World) (a : Option Addr) (n c n2 c2 : Nat) => Lib.run_eql_slice_nil (P := Try.prog) w 22 _ a n c n2 c2 Try.underlying22
  clear hb
  cases a with
  | none =>
    have hc : Hid (c = 0) := hb1.out.nil rfl
    have hl : Hid (l = []) := List.eq_nil_of_length_eq_zero (by have := hb1.out.len; have := Sl.le hb1.out; have := hc.out; omega)
    go_enter Try.func34, Try.ntmps34
    go_wp2
    go_ret
    exact ⟨_, rfl, by rw [hl.out]; exact own_nil _ _ _, Ext.refl _⟩
  | some a =>
    go_enter Try.func34, Try.ntmps34
    go_wp2_with (at_builtin; refine wpList_append_bytes rfl _ _ 22 rfl w 5 Try.underlying22 infoU8 _ [] rfl (own_made w) (Ext.alloc _ _) (some a) n c l rfl (hb1.out.ext (Ext.alloc _ _)) (by simpa using hn) ?_; intro v' w1 hown hx hgrow)
    go_ret
    exact ⟨_, rfl, hown, hx⟩

set_option maxHeartbeats 400000 in
theorem same_calls (a : Option Addr) (n c : Nat) (l : List UInt8) (a2 : Option Addr) (n2 c2 : Nat) (l2 : List UInt8) (w : World) (hb : Bs w a n c l) (hb2 : Bs w a2 n2 c2 l2) :
    Calls Try.prog 16 #[.slice a n c, .slice a2 n2 c2] w fun e w' => e = .returned (.bool (l == l2)) ∧ ∃ q, w' = w.drewN q := by
  have hl1 := Lib.hid hb.len
  have hl2 := Lib.hid hb2.len
  have hm1 := Nat.le_trans hb.le hb.max
  have hm2 := Nat.le_trans hb2.le hb2.max
  unfold maxLen at hm1 hm2
  by_cases he : n = n2
  · subst he
    have hq : ((n : Int) != (n : Int)) = false := by simp
    go_enter Try.func16, Try.ntmps16
    go_wp2
    go_loopw [5] (fun i wr => ∃ k q : Nat, k ≤ n ∧ i = .int .i64 k ∧ wr = w.drewN q ∧ l.take k = l2.take k) (fun i _ => n - (intOf i).toNat)
    case atStart => exact ⟨0, 0, Nat.zero_le _, rfl, rfl, rfl⟩
    case round =>
      obtain ⟨k, q, hk, rfl, rfl, htk⟩ := hrel
      have HT := Lib.hid htk
      clear htk
      by_cases hlt : k < n
      · obtain ⟨b, o, rfl, hc⟩ := hb.at (by omega)
        obtain ⟨b2, o2, rfl, hc2⟩ := hb2.at (by omega)
        have hkl : k < l.length := by rw [hl1.out]; exact hlt
        have hkl2 : k < l2.length := by rw [hl2.out]; exact hlt
        have hcell := hc k hkl
        have hcell2 := hc2 k hkl2
        have hsn : Hid (l.take (k + 1) = l.take k ++ [l[k]]) := List.take_succ_eq_append_getElem hkl
        have hsn2 : Hid (l2.take (k + 1) = l2.take k ++ [l2[k]]) := List.take_succ_eq_append_getElem hkl2
        have hne : Hid (l[k] ≠ l2[k] → (l == l2) = false) := fun h => by
          rw [beq_eq_false_iff_ne]; intro e; subst e; exact h rfl
        obtain ⟨x, hx⟩ : ∃ x, x = l[k] := ⟨_, rfl⟩
        obtain ⟨y, hy⟩ : ∃ x, x = l2[k] := ⟨_, rfl⟩
        rw [← hx] at hcell hsn hne
        rw [← hy] at hcell2 hsn2 hne
        clear hc hc2 hx hy
        by_cases hxy : x = y
        · subst hxy
          have hq2 : ((x.toNat : Int) != (x.toNat : Int)) = false := by simp
          go_wp2
          go_quiet (fail)
          go_wp2
          go_roundw
          case rel => exact ⟨k + 1, _, by omega, by go_num, rfl, by rw [hsn.out, hsn2.out, HT.out]⟩
          case measure => simp [intOf]; omega
        · have hq2 : ((x.toNat : Int) != (y.toNat : Int)) = true := by
            rw [bne_iff_ne]; intro e; exact hxy (UInt8.toNat_inj.1 (by omega))
          have hfin := Lib.hid (hne.out hxy)
          clear hxy hne
          go_wp2
          go_quiet (fail)
          go_wp2
          go_ret
          exact ⟨ret_bool hfin.out.symm, drewN_more _ _ _⟩
      · obtain rfl : k = n := by omega
        have hfin : Hid ((l == l2) = true) := by
          have h1 := HT.out
          rw [List.take_of_length_le (by rw [hl1.out]; exact Nat.le_refl _), List.take_of_length_le (by rw [hl2.out]; exact Nat.le_refl _)] at h1
          show _ = _
          rw [h1]; simp
        go_wp2
        go_ret
        exact ⟨ret_bool hfin.out.symm, _, rfl⟩
  · have hq : ((n : Int) != (n2 : Int)) = true := by rw [bne_iff_ne]; omega
    have hfin : Hid ((l == l2) = false) := by
      show _ = _
      rw [beq_eq_false_iff_ne]; intro e; subst e; exact he (hl1.out.symm.trans hl2.out)
    go_enter Try.func16, Try.ntmps16
    go_wp2
    go_ret
    exact ⟨ret_bool hfin.out.symm, 0, rfl⟩
/-- The same, the world told by what stays. -/
theorem same_ext (a : Option Addr) (n c : Nat) (l : List UInt8) (a2 : Option Addr) (n2 c2 : Nat) (l2 : List UInt8) (w : World) (hb : Bs w a n c l) (hb2 : Bs w a2 n2 c2 l2) :
    Calls Try.prog 16 #[.slice a n c, .slice a2 n2 c2] w fun e w' => e = .returned (.bool (l == l2)) ∧ Ext w w' :=
  (same_calls a n c l a2 n2 c2 l2 w hb hb2).mono fun _ _ ⟨he, q, hw⟩ => ⟨he, hw ▸ Ext.drewN w q⟩
end Go.Proofs.Ytponbponacdhkaa

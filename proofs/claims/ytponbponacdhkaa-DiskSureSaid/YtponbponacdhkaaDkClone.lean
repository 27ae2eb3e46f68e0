/-
  Layer 6's contracts: slices.Clone of files, of moves.
-/
import Derived.Test.YtponbponacdhkaaDkFindC
namespace Go.Proofs.Ytponbponacdhkaa
open Go.RowKit

theorem infoFh : (Try.prog.info? 58).map (fun i => (i.zero, i.size, i.bytes)) = some (some (.agg #[.int .i64 0, .slice none 0 0, .int .i64 0]), 3, 40) := by kernel_rfl
theorem fcl_one (l : List Fh) : ∀ u ∈ rcells fcl l, u.oneCell' = true := by
  intro u hu
  unfold rcells at hu
  rw [List.mem_flatMap] at hu
  obtain ⟨x, _, hx⟩ := hu
  simp [fcl] at hx
  rcases hx with rfl | rfl | rfl <;> rfl
set_option maxHeartbeats 400000 in
theorem fclone_calls (a : Option Addr) (n c : Nat) (M : List Fh) (w : World) (hn : n ≤ 1000000) (hb : Row fcl 3 w a n c M) :
    Calls Try.prog 26 #[.slice a n c] w fun e w' => ∃ v, e = .returned v ∧ ORow fcl 3 w' w.heap.size 58 v M ∧ Ext w w' := by
  have hb1 := Lib.hid hb
  have hlen := Lib.hid (Row.len fcl_len (by decide) hb)
  have hq := fun (w : World) (a : Option Addr) (n c n2 c2 : Nat) => Lib.run_eql_slice_nil (P := Try.prog) w 25 _ a n c n2 c2 Try.underlying25
  clear hb
  cases a with
  | none =>
    have hc : Hid (c = 0) := Sl.nil hb1.out rfl
    have hl : Hid (M = []) := List.eq_nil_of_length_eq_zero (by have := hlen.out; have := Sl.le hb1.out; have := hc.out; omega)
    go_enter Try.func26, Try.ntmps26
    go_wp2
    go_ret
    exact ⟨_, rfl, by rw [hl.out]; exact World.ownsRow_nil _ _ _ _, Ext.refl _⟩
  | some a =>
    have hz1 : Hid ((0 + n) * 40 ≤ 140737488355328) := by show _ ≤ _; omega
    have hz2 : Hid (0 + n ≤ maxLen) := by show _ ≤ _; unfold maxLen; omega
    have hz3 : Hid (w.heap.size ≤ (w.alloc (.cells #[] 58)).heap.size) := by show _ ≤ _; simp
    have ho := Lib.hid (owns_made w 58 3)
    have hsrc := Lib.hid (hb1.out.ext (Ext.alloc w (.cells #[] 58)))
    go_enter Try.func26, Try.ntmps26
    go_wp2_with (at_builtin; refine wpList_append_sl rfl _ _ 25 rfl w.heap.size 58 Try.underlying25 infoFh rfl (by decide) _ _ _ rfl ho.out _ _ _ (rcells fcl M) rfl hsrc.out (fcl_one M) hz1.out hz2.out hz3.out ?_; intro v' w1 hown hgrow)
    go_ret
    refine ⟨_, rfl, ?_, (Ext.alloc w _).grown hgrow (fun k e => owns_row ho.out k e)⟩
    rw [Nat.zero_add, List.nil_append, ← hlen.out] at hown
    exact hown

theorem infoMv : (Try.prog.info? 66).map (fun i => (i.zero, i.size, i.bytes)) = some (some (.agg #[.int .i64 0, .string ⟨#[]⟩, .string ⟨#[]⟩, .int .i64 0]), 4, 48) := by kernel_rfl
theorem mcl_one (l : List Mv) : ∀ u ∈ rcells mcl l, u.oneCell' = true := by
  intro u hu
  unfold rcells at hu
  rw [List.mem_flatMap] at hu
  obtain ⟨x, _, hx⟩ := hu
  simp [mcl] at hx
  rcases hx with rfl | rfl | rfl | rfl <;> rfl
set_option maxHeartbeats 400000 in
theorem mclone_calls (a : Option Addr) (n c : Nat) (M : List Mv) (w : World) (hn : n ≤ 1000000) (hb : Row mcl 4 w a n c M) :
    Calls Try.prog 45 #[.slice a n c] w fun e w' => ∃ v, e = .returned v ∧ ORow mcl 4 w' w.heap.size 66 v M ∧ Ext w w' := by
  have hb1 := Lib.hid hb
  have hlen := Lib.hid (Row.len mcl_len (by decide) hb)
  have hq := fun (w : World) (a : Option Addr) (n c n2 c2 : Nat) => Lib.run_eql_slice_nil (P := Try.prog) w 27 _ a n c n2 c2 Try.underlying27
  clear hb
  cases a with
  | none =>
    have hc : Hid (c = 0) := Sl.nil hb1.out rfl
    have hl : Hid (M = []) := List.eq_nil_of_length_eq_zero (by have := hlen.out; have := Sl.le hb1.out; have := hc.out; omega)
    go_enter Try.func45, Try.ntmps45
    go_wp2
    go_ret
    exact ⟨_, rfl, by rw [hl.out]; exact World.ownsRow_nil _ _ _ _, Ext.refl _⟩
  | some a =>
    have hz1 : Hid ((0 + n) * 48 ≤ 140737488355328) := by show _ ≤ _; omega
    have hz2 : Hid (0 + n ≤ maxLen) := by show _ ≤ _; unfold maxLen; omega
    have hz3 : Hid (w.heap.size ≤ (w.alloc (.cells #[] 66)).heap.size) := by show _ ≤ _; simp
    have ho := Lib.hid (owns_made w 66 4)
    have hsrc := Lib.hid (hb1.out.ext (Ext.alloc w (.cells #[] 66)))
    go_enter Try.func45, Try.ntmps45
    go_wp2_with (at_builtin; refine wpList_append_sl rfl _ _ 27 rfl w.heap.size 66 Try.underlying27 infoMv rfl (by decide) _ _ _ rfl ho.out _ _ _ (rcells mcl M) rfl hsrc.out (mcl_one M) hz1.out hz2.out hz3.out ?_; intro v' w1 hown hgrow)
    go_ret
    refine ⟨_, rfl, ?_, (Ext.alloc w _).grown hgrow (fun k e => owns_row ho.out k e)⟩
    rw [Nat.zero_add, List.nil_append, ← hlen.out] at hown
    exact hown

end Go.Proofs.Ytponbponacdhkaa

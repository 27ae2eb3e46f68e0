/-
  Layer 19's contracts: bytes.Cut at a line feed.
-/
import Derived.Test.YtbekhbgeghhcaaaStrRight
namespace Go.Proofs.Ytbekhbgeghhcaaa
open Go.RowKit

set_option maxRecDepth 100000 in
theorem index_calls (a : Option Addr) (n c : Nat) (l : List UInt8) (b o d : Nat) (w : World) (hb : Bs w a n c l) (hs : w.cell? ⟨b, o, none⟩ = some (.int .u8 10)) :
    Calls Try.prog 26 #[.slice a n c, .slice (some ⟨b, o, none⟩) 1 d] w fun e w' => e = .returned (.int .i64 (Lib.indexByte l 10)) ∧ w' = w := by
  have hib := ib_calls a n c l w hb
  obtain ⟨z, hz⟩ : ∃ z, Lib.indexByte l 10 = z := ⟨_, rfl⟩
  rw [hz] at hib ⊢
  clear hz
  go_enter Try.func26, Try.ntmps26
  go_wp2_with fail
  refine hib.mono ?_
  rintro e w1 ⟨rfl, rfl⟩
  go_wp2
  go_ret
  exact ⟨rfl, rfl⟩
set_option maxRecDepth 100000 in
theorem cut_no (a : Option Addr) (n c : Nat) (l : List UInt8) (b o d : Nat) (w : World) (hb : Bs w a n c l) (hs : w.cell? ⟨b, o, none⟩ = some (.int .u8 10)) (hno : ∀ x ∈ l, x ≠ 10) :
    Calls Try.prog 23 #[.slice a n c, .slice (some ⟨b, o, none⟩) 1 d] w fun e w' => e = .returned (.tuple #[.slice a n c, .slice none 0 0, .bool false]) ∧ w' = w := by
  have hi := index_calls a n c l b o d w hb hs
  have hz0 := (ib_neg l).2 hno
  obtain ⟨z, hz⟩ : ∃ z, Lib.indexByte l 10 = z := ⟨_, rfl⟩
  rw [hz] at hi hz0
  have hz1 : ¬ 0 ≤ z := by omega
  clear hz hno
  go_enter Try.func23, Try.ntmps23
  go_wp2_with fail
  refine hi.mono ?_
  rintro e w1 ⟨rfl, rfl⟩
  go_wp2
  refine bodyPost_ret (v := .tuple #[.slice a n c, .slice none 0 0, .bool false]) (by simp [results, Try.results23, go_sem]) rfl ?_
  exact ⟨rfl, rfl⟩
theorem ib_at : ∀ (p m : List UInt8), (∀ x ∈ p, x ≠ 10) → Lib.indexByte (p ++ 10 :: m) 10 = p.length
  | [], m, _ => by simp [Lib.indexByte]
  | b :: p, m, h => by
    have ih := ib_at p m (fun x hx => h x (by simp [hx]))
    have hb : (b == 10) = false := by simp [h b (by simp)]
    rw [List.cons_append]
    unfold Lib.indexByte
    rw [hb, ih]
    have h2 : ((p.length : Int) == -1) = false := by rw [beq_eq_false_iff_ne]; omega
    simp [h2]
set_option maxRecDepth 100000 in
theorem cut_yes (a : Option Addr) (n c : Nat) (p m : List UInt8) (b o d : Nat) (w : World) (hb : Bs w a n c (p ++ 10 :: m)) (hs : w.cell? ⟨b, o, none⟩ = some (.int .u8 10)) (hno : ∀ x ∈ p, x ≠ 10) :
    Calls Try.prog 23 #[.slice a n c, .slice (some ⟨b, o, none⟩) 1 d] w fun e w' => e = .returned (.tuple #[.slice a p.length c, .slice (subA a c (p.length + 1) 1) (n - (p.length + 1)) (c - (p.length + 1)), .bool true]) ∧ Ext w w' := by
  have hi := index_calls a n c _ b o d w hb hs
  rw [ib_at p m hno] at hi
  have hlen := hb.len
  simp only [List.length_append, List.length_cons] at hlen
  have hc := Sl.le hb
  have hmx := hb.max
  obtain ⟨k, hk⟩ : ∃ k, p.length = k := ⟨_, rfl⟩
  rw [hk] at hi hlen ⊢
  have hkn : k + 1 ≤ n := by omega
  have hsl : ∀ W, (Instr.slice 22 (.slice a n c) (some (.int .i64 ((k : Int) + 1))) none none).run Try.prog W = .ok (.slice (subA a c (k + 1) 1) (n - (k + 1)) (c - (k + 1))) W := fun W => by
    have h := run_bytes_from W a n c (k + 1) hkn
    simpa using h
  have hkc : k ≤ c := by omega
  have hwr : IntKind.i64.wrap ((k : Int) + 1) = (k : Int) + 1 := by unfold maxLen at hmx; rw [IntKind.wrap_i64]; omega
  have hwr2 : wrap64 ((k : Int) + 1) = (k : Int) + 1 := by unfold maxLen at hmx; unfold wrap64; omega
  have hk1 : 0 ≤ (k : Int) + 1 := by omega
  have hk2 : (k : Int) + 1 ≤ (n : Int) := by omega
  have hk3 : ((k : Int) + 1).toNat = k + 1 := by omega
  clear hsl
  have mixed : Try.prog.follows Departure.mixedOrders = true := by kernel_rfl
  clear hlen hk
  go_enter Try.func23, Try.ntmps23
  go_wp2_with fail
  refine hi.mono ?_
  rintro e w1 ⟨rfl, rfl⟩
  go_wp2
  go_region_o
  all_goals go_wp2
  all_goals refine bodyPost_ret (v := .tuple #[.slice a k c, .slice (subA a c (k + 1) 1) (n - (k + 1)) (c - (k + 1)), .bool true]) (by simp [results, Try.results23, go_sem]) rfl ?_
  all_goals exact ⟨rfl, Ext.drewN _ _⟩
end Go.Proofs.Ytbekhbgeghhcaaa

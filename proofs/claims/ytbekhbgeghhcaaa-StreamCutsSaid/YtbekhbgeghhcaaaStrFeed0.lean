/-
  Layer 19's contracts: Feed refuses a connection that is not as it must be.
-/
import Derived.Test.YtbekhbgeghhcaaaStrFeed
namespace Go.Proofs.Ytbekhbgeghhcaaa
open Go.RowKit
attribute [local go_sem] Oper.semAt_some

set_option maxRecDepth 100000 in
set_option maxHeartbeats 800000 in
theorem feed_no (a : Option Addr) (n c : Nat) (l : List UInt8) (o : Bool) (a2 : Option Addr) (n2 c2 : Nat) (w : World) (hb : Bs w a n c l) (hc : crt (l, o) = false) :
    Calls Try.prog 8 #[cv a n c o, .slice a2 n2 c2] w fun e w' => e = .returned (.tuple #[cv a n c o, .slice none 0 0, .int .i64 1]) ∧ Ext w w' := by
  unfold cv
  have hx1 := Ext.alloc w (.cells #[.slice a n c, .bool o] 24)
  have hx2 := hx1.trans (Ext.alloc _ (.cells #[.slice none 0 0, .bool false] 24))
  have hr := right_calls a n c l o _ (hb.ext hx2)
  rw [hc] at hr
  refine (callsIn_wide (n := 8)).1 ?_
  refine callsIn_of_wp_marks Try.func8 rfl trivial ?_ rfl
  simp only [Try.ntmps8, List.size_toArray, List.length_cons, List.length_nil, Nat.reduceAdd, Nat.reduceSub, Array.replicate_succ, Array.replicate_zero, List.push_toArray, List.append_toArray, List.nil_append, List.cons_append]
  gi_wp2
  refine ⟨trivial, (callsIn_wide.2 hr).mono ?_⟩
  rintro e w1 ⟨rfl, hxr⟩
  have hB0 := hxr.block w.heap.size (by simp; omega)
  have hB1 := hxr.block (w.heap.size + 1) (by simp)
  have hszr := hxr.size
  rw [Below.heap_alloc _ _ w.heap.size (by simp), heap_alloc_new] at hB0
  have hB2 := heap_alloc_new (w.alloc (.cells #[.slice a n c, .bool o] 24)) (.cells #[.slice none 0 0, .bool false] 24)
  simp only [World.size_alloc] at hB2
  rw [hB2] at hB1
  clear hB2
  have hxw1 := hx2.trans hxr
  simp only [World.size_alloc] at hszr
  have y0 : w1.cell? ⟨w.heap.size, 0, none⟩ = some (.slice a n c) := by simp [World.cell?, hB0]
  have y1 : w1.cell? ⟨w.heap.size, 1, none⟩ = some (.bool o) := by simp [World.cell?, hB0]
  have y2 : w1.cell? ⟨w.heap.size + 1, 0, none⟩ = some (.slice none 0 0) := by simp [World.cell?, hB1]
  have y3 : w1.cell? ⟨w.heap.size + 1, 1, none⟩ = some (.bool false) := by simp [World.cell?, hB1]
  have z2 : w1.frozen? ⟨w.heap.size + 1, 0, none⟩ = false := by simp [World.frozen?, hB1]
  have z3 : w1.frozen? ⟨w.heap.size + 1, 1, none⟩ = false := by simp [World.frozen?, hB1]
  have hmx : Try.prog.follows .mixedOrders = true := by kernel_rfl
  gi_wp2
  obtain ⟨W2, hW2⟩ : ∃ W2, ((w1.setCell ⟨w.heap.size + 1, 0, none⟩ (.slice a n c)).setCell ⟨w.heap.size + 1, 1, none⟩ (.bool o)) = W2 := ⟨_, rfl⟩
  have hr1 : W2.heap[w.heap.size + 1]? = some (.cells #[.slice a n c, .bool o] 24 (0, 0)) := by rw [← hW2]; exact two_setCell hB1
  have hx3 : Ext w W2 := by
    rw [← hW2]
    exact Below.setCell (p := ⟨w.heap.size + 1, 1, none⟩) (Below.setCell (p := ⟨w.heap.size + 1, 0, none⟩) hxw1 (by show w.heap.size ≤ w.heap.size + 1; omega) _) (by show w.heap.size ≤ w.heap.size + 1; omega) _
  rw [hW2]
  have q0 : W2.cell? ⟨w.heap.size + 1, 0, none⟩ = some (.slice a n c) := by simp [World.cell?, hr1]
  have q1 : W2.cell? ⟨w.heap.size + 1, 1, none⟩ = some (.bool o) := by simp [World.cell?, hr1]
  refine ⟨.tuple #[.agg #[.slice a n c, .bool o], .slice none 0 0, .int .i64 1], by simp [results, Try.results8, go_sem, q0, q1], ?_⟩
  exact ⟨rfl, hx3⟩
end Go.Proofs.Ytbekhbgeghhcaaa

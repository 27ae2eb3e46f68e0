/-
  Layer 19's contracts: the document's Feed refuses; connections, pieces held against each other.
-/
import Derived.Test.YtbekhbgeghhcaaaStrRfeed
namespace Go.Proofs.Ytbekhbgeghhcaaa
open Go.RowKit

set_option maxRecDepth 100000 in
set_option maxHeartbeats 800000 in
theorem rfeed_no (a : Option Addr) (n c : Nat) (l : List UInt8) (o : Bool) (a2 : Option Addr) (n2 c2 : Nat) (w : World) (hb : Bs w a n c l) (hc : crt (l, o) = false) :
    Calls Try.prog 9 #[cv a n c o, .slice a2 n2 c2] w fun e w' => e = .returned (.tuple #[cv a n c o, .slice none 0 0, .int .i64 1]) ∧ Ext w w' := by
  have hxx2 := (Ext.alloc w (.cells #[.slice a n c, .bool o] 24)).trans (Ext.alloc _ (.cells #[.slice none 0 0, .bool false] 24))
  have hr := rright_calls a n c l o _ (hb.ext hxx2)
  rw [hc] at hr
  unfold cv at *
  go_enter Try.func9, Try.ntmps9
  go_wp2_with fail
  refine hr.mono ?_
  rintro e w1 ⟨rfl, hxr⟩
  have hB0 := hxr.block w.heap.size (by simp; omega)
  have hB1 := hxr.block (w.heap.size + 1) (by simp)
  rw [Below.heap_alloc _ _ w.heap.size (by simp), heap_alloc_new] at hB0
  have hB2 := heap_alloc_new (w.alloc (.cells #[.slice a n c, .bool o] 24)) (.cells #[.slice none 0 0, .bool false] 24)
  simp only [World.size_alloc] at hB2
  rw [hB2] at hB1
  clear hB2
  have hxw1 := hxx2.trans hxr
  have y0 : w1.cell? ⟨w.heap.size, 0, none⟩ = some (.slice a n c) := by simp [World.cell?, hB0]
  have y1 : w1.cell? ⟨w.heap.size, 1, none⟩ = some (.bool o) := by simp [World.cell?, hB0]
  have y2 : w1.cell? ⟨w.heap.size + 1, 0, none⟩ = some (.slice none 0 0) := by simp [World.cell?, hB1]
  have y3 : w1.cell? ⟨w.heap.size + 1, 1, none⟩ = some (.bool false) := by simp [World.cell?, hB1]
  have z2 : w1.frozen? ⟨w.heap.size + 1, 0, none⟩ = false := by simp [World.frozen?, hB1]
  have z3 : w1.frozen? ⟨w.heap.size + 1, 1, none⟩ = false := by simp [World.frozen?, hB1]
  go_wp2
  obtain ⟨W2, hW2⟩ : ∃ W2, ((w1.setCell ⟨w.heap.size + 1, 0, none⟩ (.slice a n c)).setCell ⟨w.heap.size + 1, 1, none⟩ (.bool o)) = W2 := ⟨_, rfl⟩
  have hr1 : W2.heap[w.heap.size + 1]? = some (.cells #[.slice a n c, .bool o] 24 (0, 0)) := by rw [← hW2]; exact two_setCell hB1
  have hx3 : Ext w W2 := by
    rw [← hW2]
    exact Below.setCell (p := ⟨w.heap.size + 1, 1, none⟩) (Below.setCell (p := ⟨w.heap.size + 1, 0, none⟩) hxw1 (by show w.heap.size ≤ w.heap.size + 1; omega) _) (by show w.heap.size ≤ w.heap.size + 1; omega) _
  rw [hW2]
  have q0 : W2.cell? ⟨w.heap.size + 1, 0, none⟩ = some (.slice a n c) := by simp [World.cell?, hr1]
  have q1 : W2.cell? ⟨w.heap.size + 1, 1, none⟩ = some (.bool o) := by simp [World.cell?, hr1]
  refine bodyPost_ret (v := .tuple #[.agg #[.slice a n c, .bool o], .slice none 0 0, .int .i64 1]) (by simp [results, Try.results9, go_sem, q0, q1]) rfl ?_
  exact ⟨rfl, hx3⟩

/-- A connection's answer: are they the same? -/
def sameC (a b : Cn) : Bool := a.2 == b.2 && a.1 == b.1
theorem sameC_iff (a b : Cn) : sameC a b = true ↔ a = b := by
  obtain ⟨a1, a2⟩ := a
  obtain ⟨b1, b2⟩ := b
  simp [sameC]
  exact And.comm
set_option maxRecDepth 100000 in
theorem csame_calls (a : Option Addr) (n c : Nat) (l : List UInt8) (o : Bool) (a2 : Option Addr) (n2 c2 : Nat) (l2 : List UInt8) (o2 : Bool) (w : World) (hb : Bs w a n c l) (hb2 : Bs w a2 n2 c2 l2) :
    Calls Try.prog 10 #[cv a n c o, cv a2 n2 c2 o2] w fun e w' => e = .returned (.bool (sameC (l, o) (l2, o2))) ∧ Ext w w' := by
  have hxx := (Ext.alloc w (.cells #[.slice a n c, .bool o] 24)).trans (Ext.alloc _ (.cells #[.slice a2 n2 c2, .bool o2] 24))
  have hs := same_ext a n c l a2 n2 c2 l2 _ (hb.ext hxx) (hb2.ext hxx)
  unfold cv sameC
  dsimp only
  obtain ⟨r, hr⟩ : ∃ r, (l == l2) = r := ⟨_, rfl⟩
  rw [hr] at hs ⊢
  clear hr
  by_cases ho : o = o2
  · subst ho
    have hoo : (o == o) = true := by simp
    rw [hoo, Bool.true_and]
    go_enter Try.func10, Try.ntmps10
    go_wp2_with fail
    refine hs.mono ?_
    rintro e w1 ⟨rfl, hx1⟩
    go_wp2
    go_ret
    exact ⟨rfl, hxx.trans hx1⟩
  · have hoo : (o == o2) = false := by simp [ho]
    rw [hoo, Bool.false_and]
    go_enter Try.func10, Try.ntmps10
    go_wp2_with fail
    go_ret
    exact ⟨rfl, hxx⟩
end Go.Proofs.Ytbekhbgeghhcaaa

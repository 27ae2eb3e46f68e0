/-
  Layer 19's contracts: a connection that grows.
-/
import Derived.Test.YtbekhbgeghhcaaaStrRight
import Derived.Test.YtbekhbgeghhcaaaConcat
namespace Go.Proofs.Ytbekhbgeghhcaaa
open Go.RowKit

set_option maxRecDepth 100000 in
theorem grown_no (a : Option Addr) (n c : Nat) (o : Bool) (a2 : Option Addr) (n2 c2 : Nat) (w : World)
    (hno : o = true ∨ 200 < n + n2) (hn : n ≤ 200) :
    Calls Try.prog 19 #[cv a n c o, .slice a2 n2 c2] w fun e w' => e = .returned (cv none 0 0 true) ∧ Ext w w' := by
  have hx := Ext.alloc w (.cells #[.slice a n c, .bool o] 24)
  unfold cv
  cases o with
  | true =>
    go_enter Try.func19, Try.ntmps19
    go_wp2_with fail
    refine bodyPost_ret (v := .agg #[.slice none 0 0, .bool true]) (by simp [results, Try.results19, go_sem]) rfl ?_
    exact ⟨rfl, hx.trans (Ext.alloc _ _)⟩
  | false =>
    have h3 : (200 : Int) - (n : Int) < (n2 : Int) := by
      rcases hno with h | h
      · cases h
      · omega
    go_enter Try.func19, Try.ntmps19
    go_wp2_with fail
    refine bodyPost_ret (v := .agg #[.slice none 0 0, .bool true]) (by simp [results, Try.results19, go_sem]) rfl ?_
    exact ⟨rfl, hx.trans (Ext.alloc _ _)⟩

set_option maxRecDepth 100000 in
theorem grown_yes (a : Option Addr) (n c : Nat) (l : List UInt8) (a2 : Option Addr) (n2 c2 : Nat) (l2 : List UInt8) (w : World) (hb : Bs w a n c l) (hb2 : Bs w a2 n2 c2 l2) (hn : n + n2 ≤ 200) :
    Calls Try.prog 19 #[cv a n c false, .slice a2 n2 c2] w fun e w' => ∃ a3 n3 c3, e = .returned (cv a3 n3 c3 false) ∧ Own w' w.heap.size 5 (.slice a3 n3 c3) (l ++ l2) ∧ Ext w w' := by
  have hlen := Lib.hid hb.len
  have hlen2 := Lib.hid hb2.len
  have hx := Ext.alloc w (.cells #[.slice a n c, .bool false] 24)
  have h3 : ¬ (200 : Int) - (n : Int) < (n2 : Int) := by omega
  unfold cv
  go_enter Try.func19, Try.ntmps19
  go_wp2_with fail
  have hx2 := hx.trans (Ext.alloc _ (.cells #[.slice none 0 0, .bool false] 24))
  have hx3 := hx2.trans (Ext.alloc _ (.cells #[.slice a n c, .slice a2 n2 c2] 22))
  have hS := Sl.row_at ((w.alloc (.cells #[.slice a n c, .bool false] 24)).alloc (.cells #[.slice none 0 0, .bool false] 24)) [.slice a n c, .slice a2 n2 c2] 22 (0, 0) (w.heap.size + 1 + 1) (by simp) (by simp [maxLen])
  have hV := BsAll.two (hb.ext hx3) (hb2.ext hx3)
  refine (concat_calls _ 2 2 _ [l, l2] _ hS hV (by simp [hlen.out, hlen2.out]; omega)).mono ?_
  rintro e w1 ⟨v, rfl, ho1, hx1⟩
  obtain ⟨a3, n3, c3, rfl, hb3⟩ := ho1.bs
  have hB := hx1.block (w.heap.size + 1) (by simp)
  rw [Below.heap_alloc _ _ _ (by simp)] at hB
  have hB2 := heap_alloc_new (w.alloc (.cells #[.slice a n c, .bool false] 24)) (.cells #[.slice none 0 0, .bool false] 24)
  simp only [World.size_alloc] at hB2
  rw [hB2] at hB
  have y0 : w1.cell? ⟨w.heap.size + 1, 0, none⟩ = some (.slice none 0 0) := by simp [World.cell?, hB]
  have y1 : w1.cell? ⟨w.heap.size + 1, 1, none⟩ = some (.bool false) := by simp [World.cell?, hB]
  have z0 : w1.frozen? ⟨w.heap.size + 1, 0, none⟩ = false := by simp [World.frozen?, hB]
  have z1 : w1.frozen? ⟨w.heap.size + 1, 1, none⟩ = false := by simp [World.frozen?, hB]
  go_wp2_with fail
  refine bodyPost_ret (v := .agg #[.slice a3 n3 c3, .bool false]) (by simp [results, Try.results19, go_sem, y0, y1]) rfl ?_
  refine ⟨a3, n3, c3, rfl, ?_, Below.setCell (Below.setCell (hx3.trans hx1) (by simp) _) (by simp) _⟩
  have hfl : [l, l2].flatten = l ++ l2 := by simp
  rw [hfl] at ho1
  exact Own.mono (ownsRow_setCell_below (ownsRow_setCell_below ho1 (by simp) _) (by simp) _) (by simp; omega)
end Go.Proofs.Ytbekhbgeghhcaaa

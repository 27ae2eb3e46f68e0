/-
  Layer 19's statements: what all their walks begin with.
-/
import Derived.Test.YtbekhbgeghhcaaaStrPieces
namespace Go.Proofs.Ytbekhbgeghhcaaa
open Go.RowKit

theorem ps_of {w : World} {base : Nat} {v : Value} {l : List Cn} (h : w.ownsRow base 37 2 v l.length (pcells l)) : ∃ a n c, v = .slice a n c ∧ Ps w a n c l := by
  obtain ⟨a, c, h1, h2⟩ := Sl.of_owns h
  exact ⟨a, _, c, h1, h2⟩
theorem feed_g (a : Option Addr) (n c : Nat) (l : List UInt8) (o : Bool) (a2 : Option Addr) (n2 c2 : Nat) (l2 : List UInt8) (w : World) (hb : Bs w a n c l) (hb2 : Bs w a2 n2 c2 l2) (hc : crt (l, o) = true) (hn2 : n2 ≤ 100000)
    (st : Cn × List Cn) (hst : feedR (l, o) [] l2 = st) :
    Calls Try.prog 8 #[cv a n c o, .slice a2 n2 c2] w fun e w' => ∃ a3 n3 c3 a4 n4 c4, e = .returned (.tuple #[cv a3 n3 c3 st.1.2, .slice a4 n4 c4, .int .i64 0]) ∧ Bs w' a3 n3 c3 st.1.1 ∧
      Ps w' a4 n4 c4 st.2 ∧ w'.ownsRow w.heap.size 37 2 (.slice a4 n4 c4) st.2.length (pcells st.2) ∧ Ext w w' := by
  refine (feed_yes a n c l o a2 n2 c2 l2 w hb hb2 hc hn2).mono ?_
  rw [hst]
  rintro e w' ⟨a3, n3, c3, vp, rfl, hb3, ho, hx⟩
  obtain ⟨a4, n4, c4, rfl, hp⟩ := ps_of ho
  exact ⟨a3, n3, c3, a4, n4, c4, rfl, hb3, hp, ho, hx⟩

set_option maxRecDepth 100000 in
set_option maxHeartbeats 800000 in
theorem alive19_calls (w : World) : Calls Try.prog 6 #[] w fun e w' => e = .returned (.bool true) ∧ Ext w w' := by
  have kc := fun (w : World) (C : Array Value) (n c : Nat) => Lib.run_convert_bytes_const (P := Try.prog) w 22 5 C n c Try.underlying22 Try.underlying5
  go_enter Try.func6, Try.ntmps6
  go_wp2_with fail
  refine (feed_g none 0 0 [] false _ 2 2 [97, 98] _ (bs_nil _) (Bs.row_of w [97, 98] [.int .u8 97, .int .u8 98] (by simp [bvs, bv]) _ _ (by simp [maxLen])) rfl (by decide) (([97, 98], false), []) (by decide)).mono ?_
  rintro e w1 ⟨a3, n3, c3, a4, n4, c4, rfl, hb3, hp, -, hx1⟩
  obtain rfl : n4 = 0 := hp.len.symm
  have hx1w : Ext w w1 := (Ext.alloc w _).trans hx1
  unfold cv
  have kc2 := kc (w1.alloc (.cells #[.slice a3 n3 c3, .bool false] 24)) #[.int .u8 99, .int .u8 10, .int .u8 100] 3 3
  simp only [World.size_alloc] at kc2
  go_wp2_with fail
  have hb4 := Bs.row_of (w1.alloc (.cells #[.slice a3 n3 c3, .bool false] 24)) [99, 10, 100] [.int .u8 99, .int .u8 10, .int .u8 100] (by simp [bvs, bv]) 5 (3, 4) (by simp [maxLen])
  simp only [World.size_alloc] at hb4
  refine (feed_g a3 n3 c3 [97, 98] false _ 3 3 [99, 10, 100] _ (hb3.ext ((Ext.alloc w1 _).trans (Ext.alloc _ _))) hb4 rfl (by decide) (([100], false), [([97, 98, 99], false)]) (by decide)).mono ?_
  rintro e w2 ⟨a5, n5, c5, a6, n6, c6, rfl, hb5, hp6, -, hx2⟩
  obtain rfl : n6 = 1 := hp6.len.symm
  obtain ⟨b6, o6, rfl, hc6⟩ := hp6.at (by decide)
  have d0 : w2.cell? ⟨b6, o6, none⟩ = some (.string ⟨#[97, 98, 99]⟩) := (hc6 0 (by decide)).1
  have d1 : w2.cell? ⟨b6, o6 + 1, none⟩ = some (.bool false) := (hc6 0 (by decide)).2
  have hlt6 := World.block_lt_of_cell? w2 _ d0
  have hx2w : Ext w w2 := (hx1w.trans ((Ext.alloc w1 _).trans (Ext.alloc _ _))).trans hx2
  have hrs := rest_calls a5 n5 c5 [100] false (w2.alloc (.cells #[.slice a5 n5 c5, .bool false] 24)) (hb5.ext (Ext.alloc _ _))
  rw [show rst ([100], false) = 1 by decide] at hrs
  unfold cv at hrs ⊢
  go_wp2_with fail
  refine hrs.mono ?_
  rintro e w3 ⟨rfl, hx3⟩
  go_wp2
  go_ret
  exact ⟨rfl, (hx2w.trans (Ext.alloc _ _)).trans hx3⟩
end Go.Proofs.Ytbekhbgeghhcaaa

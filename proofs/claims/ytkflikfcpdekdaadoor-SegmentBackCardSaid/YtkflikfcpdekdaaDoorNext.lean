/-
  The record whose frame bytes begin with: the program's 'next'.
-/
import Derived.Test.YtkflikfcpdekdaaDoorSegFrame
import Derived.Test.YtkflikfcpdekdaaDoorRecs
namespace Go.Proofs.YtkflikfcpdekdaaDoor
open Go.RowKit

set_option maxRecDepth 100000 in
set_option maxHeartbeats 1600000 in
theorem next_no (a : Option Addr) (n c : Nat) (l : List UInt8) (w : World) (ht : Tab w) (hb : Bs w a n c l) (hx : nxt l = none) :
    Calls Tryd.prog 61 #[.slice a n c] w fun e w' => ∃ (m : Int) (r : Rec) (a' : Option Addr) (n' c' : Nat), e = .returned (.tuple #[rv r a' n' c', .int .i64 m, .bool false]) ∧ Ext w w' := by
  by_cases hq : (frTake l).2.2 = 0
  · have hs : (segTake (frTake l).1).2 ≠ 0 := fun h => by rw [nxt_yes l hq h] at hx; cases hx
    obtain ⟨p, m, e0, hp⟩ : ∃ p m e0, frTake l = (p, m, e0) := ⟨_, _, _, rfl⟩
    rw [hp] at hq hs
    dsimp only at hq hs
    subst hq
    obtain ⟨y, hy⟩ : ∃ y, segTake p = y := ⟨_, rfl⟩
    have hst := fun a n c w h => stake_calls a n c p w h
    rw [hy] at hst hs
    obtain ⟨⟨kind, path, method, factor, rungs, rung, time, now, value⟩, er⟩ := y
    dsimp only at hs
    have her : (er == 0) = false := by simpa using hs
    unfold rv at hst
    dsimp only at hst
    have hst := Lib.hid hst
    have hp := Lib.hid hp
    clear hx hy hs
    go_enter Tryd.func61, Tryd.ntmps61
    go_wp2_with fail
    refine (ftake_calls a n c l _ (ht.ext (Ext.alloc _ _)) (hb.ext (Ext.alloc _ _))).mono ?_
    rw [hp.out]
    rintro e w1 ⟨a1, n1, c1, rfl, hb1, hx1⟩
    have hB1 := hx1.block w.heap.size (by simp)
    rw [heap_alloc_new] at hB1
    go_wp2_with fail
    refine (hst.out a1 n1 c1 w1 hb1.1).mono ?_
    rintro e w2 ⟨a2, n2, c2, rfl, hg2, hx2⟩
    have hB2 := hx2.block _ (Array.getElem?_eq_some_iff.1 hB1).1
    rw [hB1] at hB2
    have hxx := ((Ext.alloc w _).trans hx1).trans hx2
    have hsz : w.heap.size < w2.heap.size := by have := (hx1.trans hx2).size; simp at this; omega
    obtain ⟨y0, y1, y2, y3, y4, y5, y6, y7, y8⟩ := cells9 hB2
    obtain ⟨z0, z1, z2, z3, z4, z5, z6, z7, z8⟩ := frozen9 hB2
    clear hB1 hB2 hst hb1 hx1 hx2
    go_wp2_with fail
    refine bodyPost_ret (v := .tuple #[rv ⟨kind, path, method, factor, rungs, rung, time, now, value⟩ a2 n2 c2, .int .i64 m, .bool false]) (by simp [results, Tryd.results61, go_sem, rv, y0, y1, y2, y3, y4, y5, y6, y7, y8, hsz]) rfl ?_
    exact ⟨m, ⟨kind, path, method, factor, rungs, rung, time, now, value⟩, a2, n2, c2, rfl, (ext9 hxx _ _ _ _ _ _ _ _ _).trans (Ext.alloc _ _)⟩
  · obtain ⟨p, m, e0, hp⟩ : ∃ p m e0, frTake l = (p, m, e0) := ⟨_, _, _, rfl⟩
    rw [hp] at hq
    dsimp only at hq
    have hqb : ((e0 : Int) != 0) = true := by rw [bne_iff_ne]; omega
    have hp := Lib.hid hp
    clear hx hq
    go_enter Tryd.func61, Tryd.ntmps61
    go_wp2_with fail
    refine (ftake_calls a n c l _ (ht.ext (Ext.alloc _ _)) (hb.ext (Ext.alloc _ _))).mono ?_
    rw [hp.out]
    rintro e w1 ⟨a1, n1, c1, rfl, hb1, hx1⟩
    have hB1 := hx1.block w.heap.size (by simp)
    rw [heap_alloc_new] at hB1
    have hxx := (Ext.alloc w _).trans hx1
    obtain ⟨y0, y1, y2, y3, y4, y5, y6, y7, y8⟩ := cells9 hB1
    obtain ⟨z0, z1, z2, z3, z4, z5, z6, z7, z8⟩ := frozen9 hB1
    clear hB1 hb1 hx1
    go_wp2_with fail
    refine bodyPost_ret (v := .tuple #[rv Rec.zero none 0 0, .int .i64 0, .bool false]) (by simp [results, Tryd.results61, go_sem, rv, Rec.zero, y0, y1, y2, y3, y4, y5, y6, y7, y8]) rfl ?_
    exact ⟨0, Rec.zero, none, 0, 0, rfl, ext9 hxx _ _ _ _ _ _ _ _ _⟩

set_option maxRecDepth 100000 in
set_option maxHeartbeats 1600000 in
theorem next_yes (a : Option Addr) (n c : Nat) (l : List UInt8) (w : World) (ht : Tab w) (hb : Bs w a n c l) (r : Rec) (m : Nat) (hx : nxt l = some (r, m)) :
    Calls Tryd.prog 61 #[.slice a n c] w fun e w' => ∃ (a' : Option Addr) (n' c' : Nat), e = .returned (.tuple #[rv r a' n' c', .int .i64 m, .bool true]) ∧ Rt w' a' n' c' r.rungs ∧ Ext w w' := by
  have hq : (frTake l).2.2 = 0 := Decidable.byContradiction fun h => by rw [nxt_no1 l h] at hx; cases hx
  have hs : (segTake (frTake l).1).2 = 0 := Decidable.byContradiction fun h => by rw [nxt_no2 l h] at hx; cases hx
  rw [nxt_yes l hq hs] at hx
  obtain ⟨p, m', e0, hp⟩ : ∃ p m e0, frTake l = (p, m, e0) := ⟨_, _, _, rfl⟩
  rw [hp] at hq hs hx
  dsimp only at hq hs hx
  subst hq
  obtain ⟨y, hy⟩ : ∃ y, segTake p = y := ⟨_, rfl⟩
  have hst := fun a n c w h => stake_calls a n c p w h
  rw [hy] at hst hs hx
  obtain ⟨y1, y2⟩ := y
  dsimp only at hs hx
  have hx := Option.some.inj hx
  obtain rfl : y1 = r := congrArg Prod.fst hx
  obtain rfl : m' = m := congrArg Prod.snd hx
  subst hs
  obtain ⟨kind, path, method, factor, rungs, rung, time, now, value⟩ := y1
  unfold rv at hst ⊢
  dsimp only at hst ⊢
  have hst := Lib.hid hst
  have hp := Lib.hid hp
  clear hx hy
  go_enter Tryd.func61, Tryd.ntmps61
  go_wp2_with fail
  refine (ftake_calls a n c l _ (ht.ext (Ext.alloc _ _)) (hb.ext (Ext.alloc _ _))).mono ?_
  rw [hp.out]
  rintro e w1 ⟨a1, n1, c1, rfl, hb1, hx1⟩
  have hB1 := hx1.block w.heap.size (by simp)
  rw [heap_alloc_new] at hB1
  go_wp2_with fail
  refine (hst.out a1 n1 c1 w1 hb1.1).mono ?_
  rintro e w2 ⟨a2, n2, c2, rfl, hg2, hx2⟩
  have hB2 := hx2.block _ (Array.getElem?_eq_some_iff.1 hB1).1
  rw [hB1] at hB2
  have hxx := ((Ext.alloc w _).trans hx1).trans hx2
  have hsz : w.heap.size < w2.heap.size := by have := (hx1.trans hx2).size; simp at this; omega
  obtain ⟨y0, y1, y2, y3, y4, y5, y6, y7, y8⟩ := cells9 hB2
  obtain ⟨z0, z1, z2, z3, z4, z5, z6, z7, z8⟩ := frozen9 hB2
  have hg3 := rt_set9 hg2 hB2 (by decide)
  clear hB1 hB2 hst hb1 hx1 hx2
  go_wp2_with fail
  refine bodyPost_ret (v := .tuple #[.agg #[.int .i64 kind, .string ⟨path.toArray⟩, .int .i64 method, .int .i64 factor, .slice a2 n2 c2, .int .i64 rung, .int .i64 time, .int .i64 now, .int .i64 value], .int .i64 m', .bool true]) (by simp [results, Tryd.results61, go_sem, y0, y1, y2, y3, y4, y5, y6, y7, y8, hsz]) rfl ?_
  exact ⟨a2, n2, c2, rfl, rt_ext (hg3 _ _ _ _ _ _ _ _ _) (Ext.alloc _ _), (ext9 hxx _ _ _ _ _ _ _ _ _).trans (Ext.alloc _ _)⟩
end Go.Proofs.YtkflikfcpdekdaaDoor

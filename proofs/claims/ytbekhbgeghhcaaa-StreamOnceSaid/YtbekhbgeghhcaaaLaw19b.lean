/-
  Layer 19's statements: StreamFeeds.
-/
import Derived.Test.YtbekhbgeghhcaaaLaw19a
namespace Go.Proofs.Ytbekhbgeghhcaaa
open Go.RowKit

/-- A chunk is fed, or refused. -/
def feedA (c : Cn) (l : List UInt8) : (Cn × List Cn) × Int := if crt c then (feedR c [] l, 0) else ((c, []), 1)
theorem ps_nil (w : World) : Ps w none 0 0 [] := ⟨rfl, Nat.le_refl _, Nat.zero_le _, fun _ => rfl, fun h => absurd h (by omega)⟩
theorem feed_a (a : Option Addr) (n c : Nat) (l : List UInt8) (o : Bool) (a2 : Option Addr) (n2 c2 : Nat) (l2 : List UInt8) (w : World) (hb : Bs w a n c l) (hb2 : Bs w a2 n2 c2 l2) (hn2 : n2 ≤ 100000)
    (st : (Cn × List Cn) × Int) (hst : feedA (l, o) l2 = st) :
    Calls Try.prog 8 #[cv a n c o, .slice a2 n2 c2] w fun e w' => ∃ a3 n3 c3 a4 n4 c4, e = .returned (.tuple #[cv a3 n3 c3 st.1.1.2, .slice a4 n4 c4, .int .i64 st.2]) ∧ Bs w' a3 n3 c3 st.1.1.1 ∧
      Ps w' a4 n4 c4 st.1.2 ∧ Ext w w' := by
  subst hst
  unfold feedA
  by_cases hc : crt (l, o) = true
  · rw [if_pos hc]
    refine (feed_g a n c l o a2 n2 c2 l2 w hb hb2 hc hn2 _ rfl).mono ?_
    rintro e w' ⟨a3, n3, c3, a4, n4, c4, rfl, hb3, hp, -, hx⟩
    exact ⟨a3, n3, c3, a4, n4, c4, rfl, hb3, hp, hx⟩
  · rw [if_neg hc]
    refine (feed_no a n c l o a2 n2 c2 w hb (by simpa using hc)).mono ?_
    rintro e w' ⟨rfl, hx⟩
    exact ⟨a, n, c, none, 0, 0, rfl, hb.ext hx, ps_nil _, hx⟩
theorem rfeed_a (a : Option Addr) (n c : Nat) (l : List UInt8) (o : Bool) (a2 : Option Addr) (n2 c2 : Nat) (l2 : List UInt8) (w : World) (hb : Bs w a n c l) (hb2 : Bs w a2 n2 c2 l2) (hn2 : n2 ≤ 100000)
    (st : (Cn × List Cn) × Int) (hst : feedA (l, o) l2 = st) :
    Calls Try.prog 9 #[cv a n c o, .slice a2 n2 c2] w fun e w' => ∃ a3 n3 c3 a4 n4 c4, e = .returned (.tuple #[cv a3 n3 c3 st.1.1.2, .slice a4 n4 c4, .int .i64 st.2]) ∧ Bs w' a3 n3 c3 st.1.1.1 ∧
      Ps w' a4 n4 c4 st.1.2 ∧ Ext w w' := by
  subst hst
  unfold feedA
  by_cases hc : crt (l, o) = true
  · rw [if_pos hc]
    refine (rfeed_yes a n c l o a2 n2 c2 l2 w hb hb2 hc hn2).mono ?_
    rintro e w' ⟨a3, n3, c3, vp, rfl, hb3, ho, hx⟩
    obtain ⟨a4, n4, c4, rfl, hp⟩ := ps_of ho
    exact ⟨a3, n3, c3, a4, n4, c4, rfl, hb3, hp, hx⟩
  · rw [if_neg hc]
    refine (rfeed_no a n c l o a2 n2 c2 w hb (by simpa using hc)).mono ?_
    rintro e w' ⟨rfl, hx⟩
    exact ⟨a, n, c, none, 0, 0, rfl, hb.ext hx, ps_nil _, hx⟩
theorem sameC_self (c : Cn) : sameC c c = true := (sameC_iff c c).2 rfl

set_option maxRecDepth 100000 in
set_option maxHeartbeats 3200000 in
theorem feeds_walk (a : Option Addr) (n c : Nat) (l : List UInt8) (o : Bool) (a2 : Option Addr) (n2 c2 : Nat) (l2 : List UInt8) (w : World) (hb : Bs w a n c l) (hb2 : Bs w a2 n2 c2 l2) :
    Calls Try.prog 3 #[cv a n c o, .slice a2 n2 c2] w fun e w' => e = .returned (.bool true) ∧ Ext w w' := by
  have hlen := Lib.hid hb.len
  have hbx := Ext.alloc w (.cells #[.slice a n c, .bool o] 24)
  have hal := alive19_calls (w.alloc (.cells #[.slice a n c, .bool o] 24))
  unfold cv at *
  by_cases g1 : (5000 : Int) < (n2 : Int)
  · go_enter Try.func3, Try.ntmps3
    go_wp2_with fail
    refine hal.mono ?_
    rintro e w1 ⟨rfl, hx1⟩
    go_wp2
    go_ret
    exact ⟨rfl, hbx.trans hx1⟩
  by_cases g2 : (5000 : Int) < (n : Int)
  · go_enter Try.func3, Try.ntmps3
    go_wp2_with fail
    refine hal.mono ?_
    rintro e w1 ⟨rfl, hx1⟩
    obtain ⟨y0, y1⟩ := box2 hx1
    go_wp2
    go_ret
    exact ⟨rfl, hbx.trans hx1⟩
  · go_enter Try.func3, Try.ntmps3
    go_wp2_with fail
    refine hal.mono ?_
    rintro e w1 ⟨rfl, hx1⟩
    obtain ⟨y0, y1⟩ := box2 hx1
    have hxw1 := hbx.trans hx1
    have hb1 := hb.ext hxw1
    have HX := Ext.refl w1
    have hbs0 := World.block_lt_of_cell? w1 _ y0
    clear hal hx1
    go_wp2_with fail
    go_region_held3 (fun w' => w'.cell? ⟨w.heap.size, 0, none⟩ = some (.slice a n c) ∧ w'.cell? ⟨w.heap.size, 1, none⟩ = some (.bool o))
      (first | exact ⟨HX.cell y0, HX.cell y1⟩ | (have HY := fun ob => HX.trans (Ext.alloc _ ob); exact ⟨(HY _).cell y0, (HY _).cell y1⟩) | (have HY := fun ua ub => (show Ext w1 _ from Below.setCell (p := ⟨w1.heap.size, 1, none⟩) (Below.setCell (p := ⟨w1.heap.size, 0, none⟩) HX (Nat.le_refl _) ua) (Nat.le_refl _) ub); exact ⟨(HY _ _).cell y0, (HY _ _).cell y1⟩))
      (first
        | (go_at_call 7; refine Calls.mono (copy_calls a n c l _ ?hm (Bs.ext hb1 (show Ext w1 w1.drew from Ext.drewN _ 1))) ?_; (case hm => omega); rintro e w' ⟨v, rfl, O1, hx1⟩; obtain ⟨a1, n1, c1, rfl, hbo⟩ := O1.bs; replace HX := Ext.trans (show Ext w1 w1.drew from Ext.drewN _ 1) hx1)
        | (go_at_call 7; have HY := HX.trans (Ext.alloc _ (.cells #[.slice none 0 0, .bool false] 24)); refine Calls.mono (copy_calls a n c l _ ?hm (Bs.ext hb1 (show Ext w1 (w1.alloc (.cells #[.slice none 0 0, .bool false] 24)).drew from HY.trans (Ext.drewN _ 1)))) ?_; (case hm => omega); rintro e w' ⟨v, rfl, O1, hx1⟩; obtain ⟨a1, n1, c1, rfl, hbo⟩ := O1.bs; have O2 : Own w' (w1.heap.size + 1) 5 (.slice a1 n1 c1) l := (Own.mono O1 (by simp)); have hBX := (hx1.block w1.heap.size (by simp)).trans (heap_alloc_new w1 (.cells #[.slice none 0 0, .bool false] 24)); have v0 : w'.cell? ⟨w1.heap.size, 0, none⟩ = some (.slice none 0 0) := (by simp [World.cell?, hBX]); have v1 : w'.cell? ⟨w1.heap.size, 1, none⟩ = some (.bool false) := (by simp [World.cell?, hBX]); have v2 : w'.frozen? ⟨w1.heap.size, 0, none⟩ = false := (by simp [World.frozen?, hBX]); have v3 : w'.frozen? ⟨w1.heap.size, 1, none⟩ = false := (by simp [World.frozen?, hBX]); replace HX := Ext.trans (show Ext w1 (w1.alloc (.cells #[.slice none 0 0, .bool false] 24)).drew from HY.trans (Ext.drewN _ 1)) hx1))
    all_goals first
      | (obtain ⟨B, W, hBd, hWd⟩ : ∃ B W, w1.heap.size = B ∧ (w'.setCell ⟨w1.heap.size, 0, none⟩ (.slice a1 n1 c1)).setCell ⟨w1.heap.size, 1, none⟩ (.bool o) = W := ⟨_, _, rfl, rfl⟩
         have hBW : W.heap[B]? = some (.cells #[.slice a1 n1 c1, .bool o] 24 (0, 0)) := by rw [← hWd, ← hBd]; exact two_setCell hBX
         have hXW : Ext w1 W := by rw [← hWd]; exact Below.setCell (p := ⟨w1.heap.size, 1, none⟩) (Below.setCell (p := ⟨w1.heap.size, 0, none⟩) HX (Nat.le_refl _) _) (Nat.le_refl _) _
         have hOW : Own W w1.heap.size 5 (.slice a1 n1 c1) l := by rw [← hWd]; exact owns_two O2 (Nat.le_refl _)
         rw [hWd, hBd])
      | (obtain ⟨B, W, hBd, hWd⟩ : ∃ B W, w'.heap.size = B ∧ w'.alloc (.cells #[.slice a1 n1 c1, .bool o] 24) = W := ⟨_, _, rfl, rfl⟩
         have hBW : W.heap[B]? = some (.cells #[.slice a1 n1 c1, .bool o] 24 (0, 0)) := by rw [← hWd, ← hBd]; exact heap_alloc_new _ _
         have hXW : Ext w1 W := by rw [← hWd]; exact HX.trans (Ext.alloc _ _)
         have hOW : Own W w1.heap.size 5 (.slice a1 n1 c1) l := by rw [← hWd]; exact O1.ext (Ext.alloc _ _)
         rw [hWd, hBd])
    all_goals
      have hbo := hOW.bs_at
      (try clear v0 v1 v2 v3 hBX O2 HY)
      clear hBd hWd O1 HX hx1 hOW
      have hbW := hb1.ext hXW
      have hb2W := hb2.ext (hxw1.trans hXW)
      have k0 := hXW.cell y0
      have k1 := hXW.cell y1
      have r0 : W.cell? ⟨B, 0, none⟩ = some (.slice a1 n1 c1) := by simp [World.cell?, hBW]
      have r1 : W.cell? ⟨B, 1, none⟩ = some (.bool o) := by simp [World.cell?, hBW]
      have hxW := hxw1.trans hXW
      clear hBW hb1 hb2 y0 y1 hXW
      obtain ⟨⟨⟨⟨q, bo⟩, pl⟩, er⟩, hst⟩ : ∃ st, feedA (l, o) l2 = st := ⟨_, rfl⟩
      go_wp2_with fail
      refine (feed_a a1 n1 c1 l o a2 n2 c2 l2 W hbo hb2W (by omega) _ hst).mono ?_
      rintro e w3 ⟨a3, n3, c3, a4, n4, c4, rfl, hb3, hp3, hx3⟩
      unfold cv
      dsimp only at hb3 hp3 ⊢
      replace k0 := hx3.cell k0
      replace k1 := hx3.cell k1
      replace r0 := hx3.cell r0
      replace r1 := hx3.cell r1
      have e0 := World.block_lt_of_cell? w3 _ k0
      have e1 := World.block_lt_of_cell? w3 _ r0
      go_wp2_with fail
      refine (rfeed_a a n c l o a2 n2 c2 l2 _ (hbW.ext (hx3.trans (Ext.alloc _ _))) (hb2W.ext (hx3.trans (Ext.alloc _ _))) (by omega) _ hst).mono ?_
      rintro e w4 ⟨a5, n5, c5, a6, n6, c6, rfl, hb5, hp5, hx4⟩
      unfold cv
      dsimp only at hb5 hp5 ⊢
      have hx34 := (Ext.alloc w3 (.cells #[.slice a3 n3 c3, .bool bo] 24)).trans hx4
      obtain ⟨t0, t1⟩ := box2 hx4
      replace k0 := hx34.cell k0
      replace k1 := hx34.cell k1
      replace r0 := hx34.cell r0
      replace r1 := hx34.cell r1
      replace e0 := World.block_lt_of_cell? w4 _ k0
      replace e1 := World.block_lt_of_cell? w4 _ r0
      have e2 := World.block_lt_of_cell? w4 _ t0
      go_wp2_with fail
      obtain ⟨p3, hp3d⟩ : ∃ p, w3.heap.size = p := ⟨_, rfl⟩
      obtain ⟨p4, hp4d⟩ : ∃ p, w4.heap.size = p := ⟨_, rfl⟩
      have hx5 := Ext.alloc w4 (.cells #[.slice a5 n5 c5, .bool bo] 24)
      obtain ⟨u0, u1⟩ := box2 (Ext.refl (w4.alloc (.cells #[.slice a5 n5 c5, .bool bo] 24)))
      replace k0 := hx5.cell k0
      replace k1 := hx5.cell k1
      replace r0 := hx5.cell r0
      replace r1 := hx5.cell r1
      replace t0 := hx5.cell t0
      replace t1 := hx5.cell t1
      have hcc := hbW.ext ((hx3.trans hx34).trans hx5)
      have hoo := hbo.ext ((hx3.trans hx34).trans hx5)
      have haa := hb3.ext (hx34.trans hx5)
      have hbb := hb5.ext hx5
      have hpa := hp3.ext (hx34.trans hx5)
      have hpb := hp5.ext hx5
      have hxw5 := ((hxW.trans hx3).trans hx34).trans hx5
      rw [hp4d] at u0 u1
      rw [hp3d] at t0 t1
      obtain ⟨W5, hW5⟩ : ∃ W, w4.alloc (.cells #[.slice a5 n5 c5, .bool bo] 24) = W := ⟨_, rfl⟩
      rw [hW5] at k0 k1 r0 r1 t0 t1 u0 u1 hcc hoo haa hbb hpa hpb hxw5 ⊢
      rw [hp3d, hp4d]
      clear hW5 hx5 hx34 hx4 hx3 hbW hbo hb3 hb5 hp3 hp5 hxW hxw1 hbx hb2W hp3d hp4d e0 e1 e2 hbs0 hst
      have HX := Ext.drewN W5 1
      have hra := Lib.hid (fun W' (h : Ext W5 W') => right_calls a1 n1 c1 l o W' (hoo.ext h))
      have hrb := Lib.hid (fun W' (h : Ext W5 W') => rright_calls a n c l o W' (hcc.ext h))
      have hrc := Lib.hid (fun W' (h : Ext W5 W') => rest_calls a1 n1 c1 l o W' (hoo.ext h))
      have hrd := Lib.hid (fun W' (h : Ext W5 W') => rrest_calls a n c l o W' (hcc.ext h))
      have hsa := Lib.hid (fun W' (h : Ext W5 W') => csame_calls a3 n3 c3 q bo a5 n5 c5 q bo W' (haa.ext h) (hbb.ext h))
      have hsb := Lib.hid (fun W' (h : Ext W5 W') => csame_calls a1 n1 c1 l o a n c l o W' (hoo.ext h) (hcc.ext h))
      have hsp := Lib.hid (fun W' (h : Ext W5 W') => psame_calls a4 n4 c4 pl a6 n6 c6 pl W' (hpa.ext h) (hpb.ext h))
      rw [sameC_self] at hsa hsb
      obtain ⟨cr, hcr⟩ : ∃ r, crt (l, o) = r := ⟨_, rfl⟩
      obtain ⟨rs, hrs⟩ : ∃ r, rst (l, o) = r := ⟨_, rfl⟩
      rw [hcr] at hra hrb
      rw [hrs] at hrc hrd
      rw [show decide (pl = pl) = true by simp] at hsp
      clear hcr hrs hcc hoo haa hbb hpa hpb
      unfold cv at *
      go_region_held3 (fun w' => w'.cell? ⟨w.heap.size, 0, none⟩ = some (.slice a n c) ∧ w'.cell? ⟨w.heap.size, 1, none⟩ = some (.bool o) ∧ w'.cell? ⟨B, 0, none⟩ = some (.slice a1 n1 c1) ∧ w'.cell? ⟨B, 1, none⟩ = some (.bool o) ∧ w'.cell? ⟨p3, 0, none⟩ = some (.slice a3 n3 c3) ∧ w'.cell? ⟨p3, 1, none⟩ = some (.bool bo) ∧ w'.cell? ⟨p4, 0, none⟩ = some (.slice a5 n5 c5) ∧ w'.cell? ⟨p4, 1, none⟩ = some (.bool bo))
        (exact ⟨HX.cell k0, HX.cell k1, HX.cell r0, HX.cell r1, HX.cell t0, HX.cell t1, HX.cell u0, HX.cell u1⟩)
        (first
          | (go_at_call 12; refine (hra.out _ HX).mono ?_; rintro e w' ⟨rfl, hx⟩; replace HX := HX.trans hx; clear hx)
          | (go_at_call 13; refine (hrb.out _ HX).mono ?_; rintro e w' ⟨rfl, hx⟩; replace HX := HX.trans hx; clear hx)
          | (go_at_call 14; refine (hrc.out _ HX).mono ?_; rintro e w' ⟨rfl, hx⟩; replace HX := HX.trans hx; clear hx)
          | (go_at_call 15; refine (hrd.out _ HX).mono ?_; rintro e w' ⟨rfl, hx⟩; replace HX := HX.trans hx; clear hx)
          | (go_at_call 11; refine (hsp.out _ HX).mono ?_; rintro e w' ⟨rfl, hx⟩; replace HX := HX.trans hx; clear hx)
          | (go_at_call_of 10 (Value.agg #[.slice a3 n3 c3, .bool bo]); refine (hsa.out _ HX).mono ?_; rintro e w' ⟨rfl, hx⟩; replace HX := HX.trans hx; clear hx)
          | (go_at_call_of 10 (Value.agg #[.slice a1 n1 c1, .bool o]); refine (hsb.out _ HX).mono ?_; rintro e w' ⟨rfl, hx⟩; replace HX := HX.trans hx; clear hx))
      all_goals
        go_wp2
        go_ret
        exact ⟨rfl, hxw5.trans HX⟩
end Go.Proofs.Ytbekhbgeghhcaaa

/-
  The record of a payload: the program's Take.
-/
import Derived.Test.YtkflikfcpdekdaaDoorSegHead
namespace Go.Proofs.YtkflikfcpdekdaaDoor
open Go.RowKit

theorem rdRest1 (k : Int) (s : List UInt8 × Bool) (h : k = 1) : rdRest k s = rdHead s := by unfold rdRest; rw [if_pos h]
theorem rdRest2 (k : Int) (s : List UInt8 × Bool) (h : k = 2) : rdRest k s = rdPoint s := by unfold rdRest; rw [if_neg (by omega), if_pos h]
theorem rdRest3 (k : Int) (s : List UInt8 × Bool) (h : k = 3) : rdRest k s = rdSlot s := by unfold rdRest; rw [if_neg (by omega), if_neg (by omega), if_pos h]
theorem rdRest0 (k : Int) (s : List UInt8 × Bool) (h1 : k ≠ 1) (h2 : k ≠ 2) (h3 : k ≠ 3) : rdRest k s = (⟨k, [], 0, 0, [], 0, 0, 0, 0⟩, s) := by unfold rdRest; rw [if_neg h1, if_neg h2, if_neg h3]
theorem rds_ext {w0 w w' : World} {R : Nat} {s : List UInt8 × Bool} (h : RdS w0 w R s) (hx : Ext w w') : RdS w0 w' R s := by
  obtain ⟨h1, h2, a, n, c, hh, hb⟩ := h
  exact ⟨h1.trans hx, h2, a, n, c, (hx.block R (Array.getElem?_eq_some_iff.1 hh).1).trans hh, hb⟩
theorem cells9 {w : World} {X : Nat} {v0 v1 v2 v3 v4 v5 v6 v7 v8 : Value} {t : TypeId} (h : w.heap[X]? = some (.cells #[v0, v1, v2, v3, v4, v5, v6, v7, v8] t (0, 0))) :
    w.cell? ⟨X, 0, none⟩ = some v0 ∧ w.cell? ⟨X, 1, none⟩ = some v1 ∧ w.cell? ⟨X, 2, none⟩ = some v2 ∧ w.cell? ⟨X, 3, none⟩ = some v3 ∧ w.cell? ⟨X, 4, none⟩ = some v4 ∧ w.cell? ⟨X, 5, none⟩ = some v5 ∧ w.cell? ⟨X, 6, none⟩ = some v6 ∧ w.cell? ⟨X, 7, none⟩ = some v7 ∧ w.cell? ⟨X, 8, none⟩ = some v8 :=
  ⟨(cell0 h 0 v0 rfl).1, (cell0 h 1 v1 rfl).1, (cell0 h 2 v2 rfl).1, (cell0 h 3 v3 rfl).1, (cell0 h 4 v4 rfl).1, (cell0 h 5 v5 rfl).1, (cell0 h 6 v6 rfl).1, (cell0 h 7 v7 rfl).1, (cell0 h 8 v8 rfl).1⟩
theorem ext9 {w w' : World} (h : Ext w w') (v0 v1 v2 v3 v4 v5 v6 v7 v8 : Value) : Ext w (((((((((w'.setCell ⟨w.heap.size, 0, none⟩ v0).setCell ⟨w.heap.size, 1, none⟩ v1).setCell ⟨w.heap.size, 2, none⟩ v2).setCell ⟨w.heap.size, 3, none⟩ v3).setCell ⟨w.heap.size, 4, none⟩ v4).setCell ⟨w.heap.size, 5, none⟩ v5).setCell ⟨w.heap.size, 6, none⟩ v6).setCell ⟨w.heap.size, 7, none⟩ v7).setCell ⟨w.heap.size, 8, none⟩ v8) := (Ext.set (Ext.set (Ext.set (Ext.set (Ext.set (Ext.set (Ext.set (Ext.set (Ext.set h w.heap.size 0 v0 (Nat.le_refl _)) w.heap.size 1 v1 (Nat.le_refl _)) w.heap.size 2 v2 (Nat.le_refl _)) w.heap.size 3 v3 (Nat.le_refl _)) w.heap.size 4 v4 (Nat.le_refl _)) w.heap.size 5 v5 (Nat.le_refl _)) w.heap.size 6 v6 (Nat.le_refl _)) w.heap.size 7 v7 (Nat.le_refl _)) w.heap.size 8 v8 (Nat.le_refl _))
theorem own9 {w : World} {base b : Nat} {e : TypeId} {size : Nat} {v : Value} {n : Nat} {xs : List Value} (h : w.ownsRow base e size v n xs) (hb : b < base) (v0 v1 v2 v3 v4 v5 v6 v7 v8 : Value) : (((((((((w.setCell ⟨b, 0, none⟩ v0).setCell ⟨b, 1, none⟩ v1).setCell ⟨b, 2, none⟩ v2).setCell ⟨b, 3, none⟩ v3).setCell ⟨b, 4, none⟩ v4).setCell ⟨b, 5, none⟩ v5).setCell ⟨b, 6, none⟩ v6).setCell ⟨b, 7, none⟩ v7).setCell ⟨b, 8, none⟩ v8).ownsRow base e size v n xs := (ownsRow_setCell_below (ownsRow_setCell_below (ownsRow_setCell_below (ownsRow_setCell_below (ownsRow_setCell_below (ownsRow_setCell_below (ownsRow_setCell_below (ownsRow_setCell_below (ownsRow_setCell_below h (a := ⟨b, 0, none⟩) hb v0) (a := ⟨b, 1, none⟩) hb v1) (a := ⟨b, 2, none⟩) hb v2) (a := ⟨b, 3, none⟩) hb v3) (a := ⟨b, 4, none⟩) hb v4) (a := ⟨b, 5, none⟩) hb v5) (a := ⟨b, 6, none⟩) hb v6) (a := ⟨b, 7, none⟩) hb v7) (a := ⟨b, 8, none⟩) hb v8)
theorem rg_of_own {w : World} {base : Nat} {a : Option Addr} {n c : Nat} {l : List (Int × Int)} (h : w.ownsRow base 68 2 (.slice a n c) n (rgc l)) : Rg w a n c l := by
  obtain ⟨a', c', hv, hs⟩ := Sl.of_owns h
  cases hv
  exact hs
/-- Archives in a block of such cells: no write into a row of other ones touches them. -/
def Rt (w : World) (a : Option Addr) (n c : Nat) (l : List (Int × Int)) : Prop := Rg w a n c l ∧ ∀ x, a = some x → ∃ cur fr, w.heap[x.block]? = some (.cells cur 68 fr)
theorem rt_nil (w : World) : Rt w none 0 0 [] := ⟨rg_nil w, fun _ h => by cases h⟩
theorem rt_of_own {w : World} {base : Nat} {a : Option Addr} {n c : Nat} {l : List (Int × Int)} (h : w.ownsRow base 68 2 (.slice a n c) n (rgc l)) : Rt w a n c l :=
  ⟨rg_of_own h, fun x hx => by
    rcases h.2 with ⟨h1, _⟩ | ⟨g, cap, cur, hv, _, hg, _⟩
    · cases h1; cases hx
    · cases hv; cases hx; exact ⟨cur, _, hg⟩⟩
theorem frozen9 {w : World} {X : Nat} {cs : Array Value} {t : TypeId} (h : w.heap[X]? = some (.cells cs t (0, 0))) :
    w.frozen? ⟨X, 0, none⟩ = false ∧ w.frozen? ⟨X, 1, none⟩ = false ∧ w.frozen? ⟨X, 2, none⟩ = false ∧ w.frozen? ⟨X, 3, none⟩ = false ∧ w.frozen? ⟨X, 4, none⟩ = false ∧ w.frozen? ⟨X, 5, none⟩ = false ∧ w.frozen? ⟨X, 6, none⟩ = false ∧ w.frozen? ⟨X, 7, none⟩ = false ∧ w.frozen? ⟨X, 8, none⟩ = false := by
  simp [World.frozen?, h]

set_option maxRecDepth 100000 in
set_option maxHeartbeats 3200000 in
theorem stake1_calls (a : Option Addr) (n c : Nat) (l : List UInt8) (w : World) (hb : Bs w a n c l) (k : Int × (List UInt8 × Bool)) (hk : rdNum 1 (l, false) = k) (q : k.1 = 1) :
    Calls Tryd.prog 53 #[.slice a n c] w fun e w' => ∃ a' n' c', e = .returned (.tuple #[rv (segTake l).1 a' n' c', .int .i64 (segTake l).2]) ∧ Rt w' a' n' c' (segTake l).1.rungs ∧ Ext w w' := by
  obtain ⟨z, hz⟩ : ∃ z, rdRest k.1 k.2 = z := ⟨_, rfl⟩
  have hall : rdAll l = z := by rw [← hz, ← hk]; rfl
  have HT0 := segTake_def l z hall
  obtain ⟨y, hy⟩ : ∃ y, segTake l = y := ⟨_, rfl⟩
  rw [hy] at HT0 ⊢
  have HT := Lib.hid HT0
  clear hy HT0
  have hs0 : RdS w ((w.alloc (.cells (recCells Rec.zero (.slice none 0 0)) 48)).alloc (.cells #[.slice a n c, .bool false] 79)) (w.heap.size + 1) (l, false) := by
    refine ⟨(Ext.alloc _ _).trans (Ext.alloc _ _), by omega, a, n, c, ?_, hb⟩
    have := heap_alloc_new (w.alloc (.cells (recCells Rec.zero (.slice none 0 0)) 48)) (.cells #[.slice a n c, .bool false] 79)
    simpa using this
  clear hall
  rw [rdRest1 _ _ q] at hz
  obtain ⟨k1, ks⟩ := k
  dsimp only at q hz
  subst q
  go_enter Tryd.func53, Tryd.ntmps53
  go_wp2_with fail
  refine (rdnumber_calls w _ (w.heap.size + 1) _ 1 (by decide) (1, ks) hk hs0).mono ?_
  rintro e w1 ⟨rfl, hs1, hg1⟩
  have hB1 : w1.heap[w.heap.size]? = some (.cells (recCells Rec.zero (.slice none 0 0)) 48 (0, 0)) := by
    rw [hg1.block _ (by simp; omega) (by simp)]
    rw [heap_alloc_old _ _ (by simp)]
    exact heap_alloc_new _ _
  have hz1 : w.heap.size + 1 < w1.heap.size := by have := hg1.size; simp at this; omega
  have hs2 := rds_ext hs1 (Ext.alloc w1 (.cells (recCells ⟨1, [], 0, 0, [], 0, 0, 0, 0⟩ (.slice none 0 0)) 48))
  have hB2 : (w1.alloc (.cells (recCells ⟨1, [], 0, 0, [], 0, 0, 0, 0⟩ (.slice none 0 0)) 48)).heap[w.heap.size]? = some (.cells (recCells Rec.zero (.slice none 0 0)) 48 (0, 0)) := by
    rw [heap_alloc_old _ _ (by omega)]; exact hB1
  have hX2 : (w1.alloc (.cells (recCells ⟨1, [], 0, 0, [], 0, 0, 0, 0⟩ (.slice none 0 0)) 48)).heap[w1.heap.size]? = some (.cells (recCells ⟨1, [], 0, 0, [], 0, 0, 0, 0⟩ (.slice none 0 0)) 48 (0, 0)) := heap_alloc_new _ _
  clear hs0 hg1 hs1 hB1 hk
  go_wp2_with fail
  refine (rdhead_calls w _ (w.heap.size + 1) w1.heap.size ks hs2 (by omega) (by omega) hX2 z hz).mono ?_
  rintro e w3 ⟨rfl, hs3, hbut, v, hX3, hown3⟩
  have hB3 := hbut.2 w.heap.size (by simp; omega) (by omega) (by omega)
  rw [hB2] at hB3
  obtain ⟨av, cv, rfl, hsl⟩ := Sl.of_owns hown3
  have hrg : Rg w3 av z.1.rungs.length cv z.1.rungs := hsl
  generalize z.1.rungs.length = nv at hX3 hrg hown3
  obtain ⟨base, hbase, hown⟩ : ∃ base, w.heap.size < base ∧ w3.ownsRow base 68 2 (.slice av nv cv) nv (rgc z.1.rungs) := ⟨_, by simp; omega, hown3⟩
  clear hs2 hX2 hbut hB2 hown3 hsl hz
  have hx3 := hs3.1
  obtain ⟨-, -, a3, n3, c3, hh3, hb3⟩ := hs3
  have hr0 := (cell0 hh3 0 _ rfl).1
  have hr1 := (cell0 hh3 1 _ rfl).1
  have hlen3 := Lib.hid hb3.len
  obtain ⟨⟨kind, path, method, factor, rungs, rung, time, now, value⟩, ⟨sl, sb⟩⟩ := z
  dsimp only [recCells] at hX3 hrg hown hr0 hr1 hlen3 HT
  obtain ⟨x0, x1, x2, x3, x4, x5, x6, x7, x8⟩ := cells9 hX3
  have hX3h := Lib.hid hX3
  have hB3h := Lib.hid hB3
  clear hh3 hb3 hX3 hB3
  dsimp only [recCells] at hB3h
  obtain ⟨y0, y1, y2, y3, y4, y5, y6, y7, y8⟩ := cells9 hB3h.out
  obtain ⟨z0, z1, z2, z3, z4, z5, z6, z7, z8⟩ := frozen9 hB3h.out
  by_cases hbad : sb = true ∨ 0 < n3
  · have HE : Hid (y = (Rec.zero, 7)) := by
      show _ = _
      rw [HT.out, if_pos]
      rcases hbad with h | h
      · exact .inl h
      · exact .inr (.inl (by intro he; rw [he] at hlen3; have := hlen3.out; simp at this; omega))
    clear HT hlen3
    have hbad : sb = true ∨ (sb = false ∧ 0 < n3) := by cases sb with | true => exact .inl rfl | false => exact .inr ⟨rfl, hbad.resolve_left (by decide)⟩
    rcases hbad with rfl | ⟨rfl, hn3⟩
    all_goals
      go_wp2_with fail
      refine bodyPost_ret (v := .tuple #[rv Rec.zero none 0 0, .int .i64 7]) (by simp [results, Tryd.results53, go_sem, rv, Rec.zero, y0, y1, y2, y3, y4, y5, y6, y7, y8]) rfl ?_
      refine ⟨none, 0, 0, by rw [HE.out], by rw [HE.out]; exact rt_nil _, ?_⟩
      exact ext9 hx3 _ _ _ _ _ _ _ _ _
  · obtain rfl : sb = false := Bool.eq_false_iff.2 fun h => hbad (.inl h)
    obtain rfl : n3 = 0 := by omega
    obtain rfl : sl = [] := List.eq_nil_of_length_eq_zero hlen3.out
    obtain ⟨rr, hrr⟩ : ∃ rr, right ⟨kind, path, method, factor, rungs, rung, time, now, value⟩ = rr := ⟨_, rfl⟩
    have hc0 := right_calls ⟨kind, path, method, factor, rungs, rung, time, now, value⟩ av nv cv w3 hrg
    rw [hrr] at hc0 HT
    unfold rv at hc0
    dsimp only at hc0
    have hc0 := Lib.hid hc0
    clear hbad hrr hlen3 y0 y1 y2 y3 y4 y5 y6 y7 y8 z0 z1 z2 z3 z4 z5 z6 z7 z8
    go_wp2_with fail
    refine hc0.out.mono ?_
    rintro e w4 ⟨rfl, hx4⟩
    have hX4 := hx4.block _ (Array.getElem?_eq_some_iff.1 hX3h.out).1
    rw [hX3h.out] at hX4
    have hB4 := hx4.block _ (Array.getElem?_eq_some_iff.1 hB3h.out).1
    rw [hB3h.out] at hB4
    have hx4' := hx3.trans hx4
    have hown4 := owns_ext hown hx4
    obtain ⟨x0', x1', x2', x3', x4', x5', x6', x7', x8'⟩ := cells9 hX4
    obtain ⟨y0, y1, y2, y3, y4, y5, y6, y7, y8⟩ := cells9 hB4
    obtain ⟨z0, z1, z2, z3, z4, z5, z6, z7, z8⟩ := frozen9 hB4
    have hne4 : w1.heap.size ≠ w.heap.size := by omega
    clear hX3h hB3h hX4 hB4 hc0 x0 x1 x2 x3 x4 x5 x6 x7 x8 hr0 hr1 hx4
    cases rr with
    | false =>
      have HE : Hid (y = (Rec.zero, 7)) := by show _ = _; rw [HT.out, if_pos (.inr (.inr rfl))]
      clear HT
      go_wp2_with fail
      refine bodyPost_ret (v := .tuple #[rv Rec.zero none 0 0, .int .i64 7]) (by simp [results, Tryd.results53, go_sem, rv, Rec.zero, y0, y1, y2, y3, y4, y5, y6, y7, y8]) rfl ?_
      refine ⟨none, 0, 0, by rw [HE.out], by rw [HE.out]; exact rt_nil _, ?_⟩
      exact ext9 hx4' _ _ _ _ _ _ _ _ _
    | true =>
      have HE : Hid (y = (⟨kind, path, method, factor, rungs, rung, time, now, value⟩, 0)) := by show _ = _; rw [HT.out, if_neg (by simp)]
      clear HT
      go_wp2_with fail
      refine bodyPost_ret (v := .tuple #[rv ⟨kind, path, method, factor, rungs, rung, time, now, value⟩ av nv cv, .int .i64 0]) (by simp [results, Tryd.results53, go_sem, rv, y0, y1, y2, y3, y4, y5, y6, y7, y8]) rfl ?_
      refine ⟨av, nv, cv, by rw [HE.out], ?_, ?_⟩
      · rw [HE.out]
        exact rt_of_own (own9 hown4 hbase _ _ _ _ _ _ _ _ _)
      · exact ext9 hx4' _ _ _ _ _ _ _ _ _

set_option maxRecDepth 100000 in
set_option maxHeartbeats 3200000 in
theorem stake2_calls (a : Option Addr) (n c : Nat) (l : List UInt8) (w : World) (hb : Bs w a n c l) (k : Int × (List UInt8 × Bool)) (hk : rdNum 1 (l, false) = k) (q : k.1 = 2) :
    Calls Tryd.prog 53 #[.slice a n c] w fun e w' => ∃ a' n' c', e = .returned (.tuple #[rv (segTake l).1 a' n' c', .int .i64 (segTake l).2]) ∧ Rt w' a' n' c' (segTake l).1.rungs ∧ Ext w w' := by
  obtain ⟨z, hz⟩ : ∃ z, rdRest k.1 k.2 = z := ⟨_, rfl⟩
  have hall : rdAll l = z := by rw [← hz, ← hk]; rfl
  have HT0 := segTake_def l z hall
  obtain ⟨y, hy⟩ : ∃ y, segTake l = y := ⟨_, rfl⟩
  rw [hy] at HT0 ⊢
  have HT := Lib.hid HT0
  clear hy HT0
  have hs0 : RdS w ((w.alloc (.cells (recCells Rec.zero (.slice none 0 0)) 48)).alloc (.cells #[.slice a n c, .bool false] 79)) (w.heap.size + 1) (l, false) := by
    refine ⟨(Ext.alloc _ _).trans (Ext.alloc _ _), by omega, a, n, c, ?_, hb⟩
    have := heap_alloc_new (w.alloc (.cells (recCells Rec.zero (.slice none 0 0)) 48)) (.cells #[.slice a n c, .bool false] 79)
    simpa using this
  clear hall
  rw [rdRest2 _ _ q] at hz
  obtain ⟨k1, ks⟩ := k
  dsimp only at q hz
  subst q
  obtain ⟨t, et⟩ : ∃ t, rdNum 8 ks = t := ⟨_, rfl⟩
  obtain ⟨u, eu⟩ : ∃ u, rdNum 8 t.2 = u := ⟨_, rfl⟩
  obtain ⟨v, ev⟩ : ∃ v, rdNum 8 u.2 = v := ⟨_, rfl⟩
  have hzz : Hid (z = (⟨2, [], 0, 0, [], 0, t.1, u.1, v.1⟩, v.2)) := by show _ = _; rw [← hz, ← ev, ← eu, ← et]; rfl
  clear hz
  go_enter Tryd.func53, Tryd.ntmps53
  go_wp2_with fail
  refine (rdnumber_calls w _ (w.heap.size + 1) _ 1 (by decide) (2, ks) hk hs0).mono ?_
  rintro e w1 ⟨rfl, hs1, hg1⟩
  have hB1 : w1.heap[w.heap.size]? = some (.cells (recCells Rec.zero (.slice none 0 0)) 48 (0, 0)) := by
    rw [hg1.block _ (by simp; omega) (by simp)]
    rw [heap_alloc_old _ _ (by simp)]
    exact heap_alloc_new _ _
  have hz1 : w.heap.size + 1 < w1.heap.size := by have := hg1.size; simp at this; omega
  have hs2 := rds_ext hs1 (Ext.alloc w1 (.cells (recCells ⟨2, [], 0, 0, [], 0, 0, 0, 0⟩ (.slice none 0 0)) 48))
  have hB2 : (w1.alloc (.cells (recCells ⟨2, [], 0, 0, [], 0, 0, 0, 0⟩ (.slice none 0 0)) 48)).heap[w.heap.size]? = some (.cells (recCells Rec.zero (.slice none 0 0)) 48 (0, 0)) := by
    rw [heap_alloc_old _ _ (by omega)]; exact hB1
  have hX2 : (w1.alloc (.cells (recCells ⟨2, [], 0, 0, [], 0, 0, 0, 0⟩ (.slice none 0 0)) 48)).heap[w1.heap.size]? = some (.cells (recCells ⟨2, [], 0, 0, [], 0, 0, 0, 0⟩ (.slice none 0 0)) 48 (0, 0)) := heap_alloc_new _ _
  clear hs0 hg1 hs1 hB1 hk
  go_wp2_with fail
  refine (rdnumber_calls w _ (w.heap.size + 1) _ 8 (by decide) t et hs2).mono ?_
  rintro e w3 ⟨rfl, gs3, gg3⟩
  have gX3 := gg3.block w1.heap.size (Array.getElem?_eq_some_iff.1 hX2).1 (by simp; omega)
  rw [hX2] at gX3
  have gB3 := gg3.block w.heap.size (Array.getElem?_eq_some_iff.1 hB2).1 (by simp)
  rw [hB2] at gB3
  obtain ⟨d3, f3⟩ := cell0 gX3 6 (.int .i64 0) rfl
  have hs3 := rds_set (i := 6) (X := w1.heap.size) gs3 (by omega) (by omega) (.int .i64 t.1)
  have hX3 := heap_set (i := 6) gX3 (.int .i64 t.1)
  have hB3 : (w3.setCell ⟨w1.heap.size, 6, none⟩ (.int .i64 t.1)).heap[w.heap.size]? = some (.cells (recCells Rec.zero (.slice none 0 0)) 48 (0, 0)) := by rw [Below.heap_setCell _ _ _ _ (by show w.heap.size ≠ w1.heap.size; omega)]; exact gB3
  clear hs2 hX2 hB2 gs3 gg3 gX3 gB3 
  go_wp2_with fail
  refine (rdnumber_calls w _ (w.heap.size + 1) _ 8 (by decide) u eu hs3).mono ?_
  rintro e w4 ⟨rfl, gs4, gg4⟩
  have gX4 := gg4.block w1.heap.size (Array.getElem?_eq_some_iff.1 hX3).1 (by simp; omega)
  rw [hX3] at gX4
  have gB4 := gg4.block w.heap.size (Array.getElem?_eq_some_iff.1 hB3).1 (by simp)
  rw [hB3] at gB4
  obtain ⟨d4, f4⟩ := cell0 gX4 7 (.int .i64 0) rfl
  have hs4 := rds_set (i := 7) (X := w1.heap.size) gs4 (by omega) (by omega) (.int .i64 u.1)
  have hX4 := heap_set (i := 7) gX4 (.int .i64 u.1)
  have hB4 : (w4.setCell ⟨w1.heap.size, 7, none⟩ (.int .i64 u.1)).heap[w.heap.size]? = some (.cells (recCells Rec.zero (.slice none 0 0)) 48 (0, 0)) := by rw [Below.heap_setCell _ _ _ _ (by show w.heap.size ≠ w1.heap.size; omega)]; exact gB4
  clear hs3 hX3 hB3 gs4 gg4 gX4 gB4 d3 f3
  go_wp2_with fail
  refine (rdnumber_calls w _ (w.heap.size + 1) _ 8 (by decide) v ev hs4).mono ?_
  rintro e w5 ⟨rfl, gs5, gg5⟩
  have gX5 := gg5.block w1.heap.size (Array.getElem?_eq_some_iff.1 hX4).1 (by simp; omega)
  rw [hX4] at gX5
  have gB5 := gg5.block w.heap.size (Array.getElem?_eq_some_iff.1 hB4).1 (by simp)
  rw [hB4] at gB5
  obtain ⟨d5, f5⟩ := cell0 gX5 8 (.int .i64 0) rfl
  have hs5 := rds_set (i := 8) (X := w1.heap.size) gs5 (by omega) (by omega) (.int .i64 v.1)
  have hX5 := heap_set (i := 8) gX5 (.int .i64 v.1)
  have hB5 : (w5.setCell ⟨w1.heap.size, 8, none⟩ (.int .i64 v.1)).heap[w.heap.size]? = some (.cells (recCells Rec.zero (.slice none 0 0)) 48 (0, 0)) := by rw [Below.heap_setCell _ _ _ _ (by show w.heap.size ≠ w1.heap.size; omega)]; exact gB5
  clear hs4 hX4 hB4 gs5 gg5 gX5 gB5 d4 f4
  obtain ⟨w3, hw3⟩ : ∃ w3, w5.setCell ⟨w1.heap.size, 8, none⟩ (.int .i64 v.1) = w3 := ⟨_, rfl⟩
  obtain ⟨base, av, nv, cv, hbase, hrg, hX3, hown⟩ : ∃ (base : Nat) (av : Option Addr) (nv cv : Nat), w.heap.size < base ∧ Rg w3 av nv cv z.1.rungs ∧ w3.heap[w1.heap.size]? = some (.cells (recCells z.1 (.slice av nv cv)) 48 (0, 0)) ∧ w3.ownsRow base 68 2 (.slice av nv cv) nv (rgc z.1.rungs) :=
    ⟨w.heap.size + 1, none, 0, 0, by omega, by rw [hzz.out]; exact rg_nil _, by rw [hzz.out, ← hw3, hX5]; rfl, by rw [hzz.out]; exact World.ownsRow_nil _ _ _ _⟩
  have hB3 : w3.heap[w.heap.size]? = some (.cells (recCells Rec.zero (.slice none 0 0)) 48 (0, 0)) := by rw [← hw3]; exact hB5
  have hs3 : RdS w w3 (w.heap.size + 1) z.2 := by rw [hzz.out, ← hw3]; exact hs5
  clear hs5 hX5 hB5 hzz
  go_upto_region 14 with fail
  clear hw3 d5 f5
  have hx3 := hs3.1
  obtain ⟨-, -, a3, n3, c3, hh3, hb3⟩ := hs3
  have hr0 := (cell0 hh3 0 _ rfl).1
  have hr1 := (cell0 hh3 1 _ rfl).1
  have hlen3 := Lib.hid hb3.len
  obtain ⟨⟨kind, path, method, factor, rungs, rung, time, now, value⟩, ⟨sl, sb⟩⟩ := z
  dsimp only [recCells] at hX3 hrg hown hr0 hr1 hlen3 HT
  obtain ⟨x0, x1, x2, x3, x4, x5, x6, x7, x8⟩ := cells9 hX3
  have hX3h := Lib.hid hX3
  have hB3h := Lib.hid hB3
  clear hh3 hb3 hX3 hB3
  dsimp only [recCells] at hB3h
  obtain ⟨y0, y1, y2, y3, y4, y5, y6, y7, y8⟩ := cells9 hB3h.out
  obtain ⟨z0, z1, z2, z3, z4, z5, z6, z7, z8⟩ := frozen9 hB3h.out
  by_cases hbad : sb = true ∨ 0 < n3
  · have HE : Hid (y = (Rec.zero, 7)) := by
      show _ = _
      rw [HT.out, if_pos]
      rcases hbad with h | h
      · exact .inl h
      · exact .inr (.inl (by intro he; rw [he] at hlen3; have := hlen3.out; simp at this; omega))
    clear HT hlen3
    have hbad : sb = true ∨ (sb = false ∧ 0 < n3) := by cases sb with | true => exact .inl rfl | false => exact .inr ⟨rfl, hbad.resolve_left (by decide)⟩
    rcases hbad with rfl | ⟨rfl, hn3⟩
    all_goals
      go_wp2_with fail
      refine bodyPost_ret (v := .tuple #[rv Rec.zero none 0 0, .int .i64 7]) (by simp [results, Tryd.results53, go_sem, rv, Rec.zero, y0, y1, y2, y3, y4, y5, y6, y7, y8]) rfl ?_
      refine ⟨none, 0, 0, by rw [HE.out], by rw [HE.out]; exact rt_nil _, ?_⟩
      exact ext9 hx3 _ _ _ _ _ _ _ _ _
  · obtain rfl : sb = false := Bool.eq_false_iff.2 fun h => hbad (.inl h)
    obtain rfl : n3 = 0 := by omega
    obtain rfl : sl = [] := List.eq_nil_of_length_eq_zero hlen3.out
    obtain ⟨rr, hrr⟩ : ∃ rr, right ⟨kind, path, method, factor, rungs, rung, time, now, value⟩ = rr := ⟨_, rfl⟩
    have hc0 := right_calls ⟨kind, path, method, factor, rungs, rung, time, now, value⟩ av nv cv w3 hrg
    rw [hrr] at hc0 HT
    unfold rv at hc0
    dsimp only at hc0
    have hc0 := Lib.hid hc0
    clear hbad hrr hlen3 y0 y1 y2 y3 y4 y5 y6 y7 y8 z0 z1 z2 z3 z4 z5 z6 z7 z8
    go_wp2_with fail
    refine hc0.out.mono ?_
    rintro e w4 ⟨rfl, hx4⟩
    have hX4 := hx4.block _ (Array.getElem?_eq_some_iff.1 hX3h.out).1
    rw [hX3h.out] at hX4
    have hB4 := hx4.block _ (Array.getElem?_eq_some_iff.1 hB3h.out).1
    rw [hB3h.out] at hB4
    have hx4' := hx3.trans hx4
    have hown4 := owns_ext hown hx4
    obtain ⟨x0', x1', x2', x3', x4', x5', x6', x7', x8'⟩ := cells9 hX4
    obtain ⟨y0, y1, y2, y3, y4, y5, y6, y7, y8⟩ := cells9 hB4
    obtain ⟨z0, z1, z2, z3, z4, z5, z6, z7, z8⟩ := frozen9 hB4
    have hne4 : w1.heap.size ≠ w.heap.size := by omega
    clear hX3h hB3h hX4 hB4 hc0 x0 x1 x2 x3 x4 x5 x6 x7 x8 hr0 hr1 hx4
    cases rr with
    | false =>
      have HE : Hid (y = (Rec.zero, 7)) := by show _ = _; rw [HT.out, if_pos (.inr (.inr rfl))]
      clear HT
      go_wp2_with fail
      refine bodyPost_ret (v := .tuple #[rv Rec.zero none 0 0, .int .i64 7]) (by simp [results, Tryd.results53, go_sem, rv, Rec.zero, y0, y1, y2, y3, y4, y5, y6, y7, y8]) rfl ?_
      refine ⟨none, 0, 0, by rw [HE.out], by rw [HE.out]; exact rt_nil _, ?_⟩
      exact ext9 hx4' _ _ _ _ _ _ _ _ _
    | true =>
      have HE : Hid (y = (⟨kind, path, method, factor, rungs, rung, time, now, value⟩, 0)) := by show _ = _; rw [HT.out, if_neg (by simp)]
      clear HT
      go_wp2_with fail
      refine bodyPost_ret (v := .tuple #[rv ⟨kind, path, method, factor, rungs, rung, time, now, value⟩ av nv cv, .int .i64 0]) (by simp [results, Tryd.results53, go_sem, rv, y0, y1, y2, y3, y4, y5, y6, y7, y8]) rfl ?_
      refine ⟨av, nv, cv, by rw [HE.out], ?_, ?_⟩
      · rw [HE.out]
        exact rt_of_own (own9 hown4 hbase _ _ _ _ _ _ _ _ _)
      · exact ext9 hx4' _ _ _ _ _ _ _ _ _

set_option maxRecDepth 100000 in
set_option maxHeartbeats 3200000 in
theorem stake3_calls (a : Option Addr) (n c : Nat) (l : List UInt8) (w : World) (hb : Bs w a n c l) (k : Int × (List UInt8 × Bool)) (hk : rdNum 1 (l, false) = k) (q : k.1 = 3) :
    Calls Tryd.prog 53 #[.slice a n c] w fun e w' => ∃ a' n' c', e = .returned (.tuple #[rv (segTake l).1 a' n' c', .int .i64 (segTake l).2]) ∧ Rt w' a' n' c' (segTake l).1.rungs ∧ Ext w w' := by
  obtain ⟨z, hz⟩ : ∃ z, rdRest k.1 k.2 = z := ⟨_, rfl⟩
  have hall : rdAll l = z := by rw [← hz, ← hk]; rfl
  have HT0 := segTake_def l z hall
  obtain ⟨y, hy⟩ : ∃ y, segTake l = y := ⟨_, rfl⟩
  rw [hy] at HT0 ⊢
  have HT := Lib.hid HT0
  clear hy HT0
  have hs0 : RdS w ((w.alloc (.cells (recCells Rec.zero (.slice none 0 0)) 48)).alloc (.cells #[.slice a n c, .bool false] 79)) (w.heap.size + 1) (l, false) := by
    refine ⟨(Ext.alloc _ _).trans (Ext.alloc _ _), by omega, a, n, c, ?_, hb⟩
    have := heap_alloc_new (w.alloc (.cells (recCells Rec.zero (.slice none 0 0)) 48)) (.cells #[.slice a n c, .bool false] 79)
    simpa using this
  clear hall
  rw [rdRest3 _ _ q] at hz
  obtain ⟨k1, ks⟩ := k
  dsimp only at q hz
  subst q
  obtain ⟨t, et⟩ : ∃ t, rdNum 1 ks = t := ⟨_, rfl⟩
  obtain ⟨u, eu⟩ : ∃ u, rdNum 8 t.2 = u := ⟨_, rfl⟩
  obtain ⟨v, ev⟩ : ∃ v, rdNum 8 u.2 = v := ⟨_, rfl⟩
  have hzz : Hid (z = (⟨3, [], 0, 0, [], t.1, u.1, 0, v.1⟩, v.2)) := by show _ = _; rw [← hz, ← ev, ← eu, ← et]; rfl
  clear hz
  go_enter Tryd.func53, Tryd.ntmps53
  go_wp2_with fail
  refine (rdnumber_calls w _ (w.heap.size + 1) _ 1 (by decide) (3, ks) hk hs0).mono ?_
  rintro e w1 ⟨rfl, hs1, hg1⟩
  have hB1 : w1.heap[w.heap.size]? = some (.cells (recCells Rec.zero (.slice none 0 0)) 48 (0, 0)) := by
    rw [hg1.block _ (by simp; omega) (by simp)]
    rw [heap_alloc_old _ _ (by simp)]
    exact heap_alloc_new _ _
  have hz1 : w.heap.size + 1 < w1.heap.size := by have := hg1.size; simp at this; omega
  have hs2 := rds_ext hs1 (Ext.alloc w1 (.cells (recCells ⟨3, [], 0, 0, [], 0, 0, 0, 0⟩ (.slice none 0 0)) 48))
  have hB2 : (w1.alloc (.cells (recCells ⟨3, [], 0, 0, [], 0, 0, 0, 0⟩ (.slice none 0 0)) 48)).heap[w.heap.size]? = some (.cells (recCells Rec.zero (.slice none 0 0)) 48 (0, 0)) := by
    rw [heap_alloc_old _ _ (by omega)]; exact hB1
  have hX2 : (w1.alloc (.cells (recCells ⟨3, [], 0, 0, [], 0, 0, 0, 0⟩ (.slice none 0 0)) 48)).heap[w1.heap.size]? = some (.cells (recCells ⟨3, [], 0, 0, [], 0, 0, 0, 0⟩ (.slice none 0 0)) 48 (0, 0)) := heap_alloc_new _ _
  clear hs0 hg1 hs1 hB1 hk
  go_wp2_with fail
  refine (rdnumber_calls w _ (w.heap.size + 1) _ 1 (by decide) t et hs2).mono ?_
  rintro e w3 ⟨rfl, gs3, gg3⟩
  have gX3 := gg3.block w1.heap.size (Array.getElem?_eq_some_iff.1 hX2).1 (by simp; omega)
  rw [hX2] at gX3
  have gB3 := gg3.block w.heap.size (Array.getElem?_eq_some_iff.1 hB2).1 (by simp)
  rw [hB2] at gB3
  obtain ⟨d3, f3⟩ := cell0 gX3 5 (.int .i64 0) rfl
  have hs3 := rds_set (i := 5) (X := w1.heap.size) gs3 (by omega) (by omega) (.int .i64 t.1)
  have hX3 := heap_set (i := 5) gX3 (.int .i64 t.1)
  have hB3 : (w3.setCell ⟨w1.heap.size, 5, none⟩ (.int .i64 t.1)).heap[w.heap.size]? = some (.cells (recCells Rec.zero (.slice none 0 0)) 48 (0, 0)) := by rw [Below.heap_setCell _ _ _ _ (by show w.heap.size ≠ w1.heap.size; omega)]; exact gB3
  clear hs2 hX2 hB2 gs3 gg3 gX3 gB3 
  go_wp2_with fail
  refine (rdnumber_calls w _ (w.heap.size + 1) _ 8 (by decide) u eu hs3).mono ?_
  rintro e w4 ⟨rfl, gs4, gg4⟩
  have gX4 := gg4.block w1.heap.size (Array.getElem?_eq_some_iff.1 hX3).1 (by simp; omega)
  rw [hX3] at gX4
  have gB4 := gg4.block w.heap.size (Array.getElem?_eq_some_iff.1 hB3).1 (by simp)
  rw [hB3] at gB4
  obtain ⟨d4, f4⟩ := cell0 gX4 6 (.int .i64 0) rfl
  have hs4 := rds_set (i := 6) (X := w1.heap.size) gs4 (by omega) (by omega) (.int .i64 u.1)
  have hX4 := heap_set (i := 6) gX4 (.int .i64 u.1)
  have hB4 : (w4.setCell ⟨w1.heap.size, 6, none⟩ (.int .i64 u.1)).heap[w.heap.size]? = some (.cells (recCells Rec.zero (.slice none 0 0)) 48 (0, 0)) := by rw [Below.heap_setCell _ _ _ _ (by show w.heap.size ≠ w1.heap.size; omega)]; exact gB4
  clear hs3 hX3 hB3 gs4 gg4 gX4 gB4 d3 f3
  go_wp2_with fail
  refine (rdnumber_calls w _ (w.heap.size + 1) _ 8 (by decide) v ev hs4).mono ?_
  rintro e w5 ⟨rfl, gs5, gg5⟩
  have gX5 := gg5.block w1.heap.size (Array.getElem?_eq_some_iff.1 hX4).1 (by simp; omega)
  rw [hX4] at gX5
  have gB5 := gg5.block w.heap.size (Array.getElem?_eq_some_iff.1 hB4).1 (by simp)
  rw [hB4] at gB5
  obtain ⟨d5, f5⟩ := cell0 gX5 8 (.int .i64 0) rfl
  have hs5 := rds_set (i := 8) (X := w1.heap.size) gs5 (by omega) (by omega) (.int .i64 v.1)
  have hX5 := heap_set (i := 8) gX5 (.int .i64 v.1)
  have hB5 : (w5.setCell ⟨w1.heap.size, 8, none⟩ (.int .i64 v.1)).heap[w.heap.size]? = some (.cells (recCells Rec.zero (.slice none 0 0)) 48 (0, 0)) := by rw [Below.heap_setCell _ _ _ _ (by show w.heap.size ≠ w1.heap.size; omega)]; exact gB5
  clear hs4 hX4 hB4 gs5 gg5 gX5 gB5 d4 f4
  obtain ⟨w3, hw3⟩ : ∃ w3, w5.setCell ⟨w1.heap.size, 8, none⟩ (.int .i64 v.1) = w3 := ⟨_, rfl⟩
  obtain ⟨base, av, nv, cv, hbase, hrg, hX3, hown⟩ : ∃ (base : Nat) (av : Option Addr) (nv cv : Nat), w.heap.size < base ∧ Rg w3 av nv cv z.1.rungs ∧ w3.heap[w1.heap.size]? = some (.cells (recCells z.1 (.slice av nv cv)) 48 (0, 0)) ∧ w3.ownsRow base 68 2 (.slice av nv cv) nv (rgc z.1.rungs) :=
    ⟨w.heap.size + 1, none, 0, 0, by omega, by rw [hzz.out]; exact rg_nil _, by rw [hzz.out, ← hw3, hX5]; rfl, by rw [hzz.out]; exact World.ownsRow_nil _ _ _ _⟩
  have hB3 : w3.heap[w.heap.size]? = some (.cells (recCells Rec.zero (.slice none 0 0)) 48 (0, 0)) := by rw [← hw3]; exact hB5
  have hs3 : RdS w w3 (w.heap.size + 1) z.2 := by rw [hzz.out, ← hw3]; exact hs5
  clear hs5 hX5 hB5 hzz
  go_upto_region 14 with fail
  clear hw3 d5 f5
  have hx3 := hs3.1
  obtain ⟨-, -, a3, n3, c3, hh3, hb3⟩ := hs3
  have hr0 := (cell0 hh3 0 _ rfl).1
  have hr1 := (cell0 hh3 1 _ rfl).1
  have hlen3 := Lib.hid hb3.len
  obtain ⟨⟨kind, path, method, factor, rungs, rung, time, now, value⟩, ⟨sl, sb⟩⟩ := z
  dsimp only [recCells] at hX3 hrg hown hr0 hr1 hlen3 HT
  obtain ⟨x0, x1, x2, x3, x4, x5, x6, x7, x8⟩ := cells9 hX3
  have hX3h := Lib.hid hX3
  have hB3h := Lib.hid hB3
  clear hh3 hb3 hX3 hB3
  dsimp only [recCells] at hB3h
  obtain ⟨y0, y1, y2, y3, y4, y5, y6, y7, y8⟩ := cells9 hB3h.out
  obtain ⟨z0, z1, z2, z3, z4, z5, z6, z7, z8⟩ := frozen9 hB3h.out
  by_cases hbad : sb = true ∨ 0 < n3
  · have HE : Hid (y = (Rec.zero, 7)) := by
      show _ = _
      rw [HT.out, if_pos]
      rcases hbad with h | h
      · exact .inl h
      · exact .inr (.inl (by intro he; rw [he] at hlen3; have := hlen3.out; simp at this; omega))
    clear HT hlen3
    have hbad : sb = true ∨ (sb = false ∧ 0 < n3) := by cases sb with | true => exact .inl rfl | false => exact .inr ⟨rfl, hbad.resolve_left (by decide)⟩
    rcases hbad with rfl | ⟨rfl, hn3⟩
    all_goals
      go_wp2_with fail
      refine bodyPost_ret (v := .tuple #[rv Rec.zero none 0 0, .int .i64 7]) (by simp [results, Tryd.results53, go_sem, rv, Rec.zero, y0, y1, y2, y3, y4, y5, y6, y7, y8]) rfl ?_
      refine ⟨none, 0, 0, by rw [HE.out], by rw [HE.out]; exact rt_nil _, ?_⟩
      exact ext9 hx3 _ _ _ _ _ _ _ _ _
  · obtain rfl : sb = false := Bool.eq_false_iff.2 fun h => hbad (.inl h)
    obtain rfl : n3 = 0 := by omega
    obtain rfl : sl = [] := List.eq_nil_of_length_eq_zero hlen3.out
    obtain ⟨rr, hrr⟩ : ∃ rr, right ⟨kind, path, method, factor, rungs, rung, time, now, value⟩ = rr := ⟨_, rfl⟩
    have hc0 := right_calls ⟨kind, path, method, factor, rungs, rung, time, now, value⟩ av nv cv w3 hrg
    rw [hrr] at hc0 HT
    unfold rv at hc0
    dsimp only at hc0
    have hc0 := Lib.hid hc0
    clear hbad hrr hlen3 y0 y1 y2 y3 y4 y5 y6 y7 y8 z0 z1 z2 z3 z4 z5 z6 z7 z8
    go_wp2_with fail
    refine hc0.out.mono ?_
    rintro e w4 ⟨rfl, hx4⟩
    have hX4 := hx4.block _ (Array.getElem?_eq_some_iff.1 hX3h.out).1
    rw [hX3h.out] at hX4
    have hB4 := hx4.block _ (Array.getElem?_eq_some_iff.1 hB3h.out).1
    rw [hB3h.out] at hB4
    have hx4' := hx3.trans hx4
    have hown4 := owns_ext hown hx4
    obtain ⟨x0', x1', x2', x3', x4', x5', x6', x7', x8'⟩ := cells9 hX4
    obtain ⟨y0, y1, y2, y3, y4, y5, y6, y7, y8⟩ := cells9 hB4
    obtain ⟨z0, z1, z2, z3, z4, z5, z6, z7, z8⟩ := frozen9 hB4
    have hne4 : w1.heap.size ≠ w.heap.size := by omega
    clear hX3h hB3h hX4 hB4 hc0 x0 x1 x2 x3 x4 x5 x6 x7 x8 hr0 hr1 hx4
    cases rr with
    | false =>
      have HE : Hid (y = (Rec.zero, 7)) := by show _ = _; rw [HT.out, if_pos (.inr (.inr rfl))]
      clear HT
      go_wp2_with fail
      refine bodyPost_ret (v := .tuple #[rv Rec.zero none 0 0, .int .i64 7]) (by simp [results, Tryd.results53, go_sem, rv, Rec.zero, y0, y1, y2, y3, y4, y5, y6, y7, y8]) rfl ?_
      refine ⟨none, 0, 0, by rw [HE.out], by rw [HE.out]; exact rt_nil _, ?_⟩
      exact ext9 hx4' _ _ _ _ _ _ _ _ _
    | true =>
      have HE : Hid (y = (⟨kind, path, method, factor, rungs, rung, time, now, value⟩, 0)) := by show _ = _; rw [HT.out, if_neg (by simp)]
      clear HT
      go_wp2_with fail
      refine bodyPost_ret (v := .tuple #[rv ⟨kind, path, method, factor, rungs, rung, time, now, value⟩ av nv cv, .int .i64 0]) (by simp [results, Tryd.results53, go_sem, rv, y0, y1, y2, y3, y4, y5, y6, y7, y8]) rfl ?_
      refine ⟨av, nv, cv, by rw [HE.out], ?_, ?_⟩
      · rw [HE.out]
        exact rt_of_own (own9 hown4 hbase _ _ _ _ _ _ _ _ _)
      · exact ext9 hx4' _ _ _ _ _ _ _ _ _

set_option maxRecDepth 100000 in
set_option maxHeartbeats 3200000 in
theorem stake0_calls (a : Option Addr) (n c : Nat) (l : List UInt8) (w : World) (hb : Bs w a n c l) (k : Int × (List UInt8 × Bool)) (hk : rdNum 1 (l, false) = k) (q1 : k.1 ≠ 1) (q2 : k.1 ≠ 2) (q3 : k.1 ≠ 3) :
    Calls Tryd.prog 53 #[.slice a n c] w fun e w' => ∃ a' n' c', e = .returned (.tuple #[rv (segTake l).1 a' n' c', .int .i64 (segTake l).2]) ∧ Rt w' a' n' c' (segTake l).1.rungs ∧ Ext w w' := by
  have qk1 : (k.1 == 1) = false := by simp [q1]
  have qk2 : (k.1 == 2) = false := by simp [q2]
  have qk3 : (k.1 == 3) = false := by simp [q3]
  obtain ⟨z, hz⟩ : ∃ z, rdRest k.1 k.2 = z := ⟨_, rfl⟩
  have hall : rdAll l = z := by rw [← hz, ← hk]; rfl
  have HT0 := segTake_def l z hall
  obtain ⟨y, hy⟩ : ∃ y, segTake l = y := ⟨_, rfl⟩
  rw [hy] at HT0 ⊢
  have HT := Lib.hid HT0
  clear hy HT0
  have hs0 : RdS w ((w.alloc (.cells (recCells Rec.zero (.slice none 0 0)) 48)).alloc (.cells #[.slice a n c, .bool false] 79)) (w.heap.size + 1) (l, false) := by
    refine ⟨(Ext.alloc _ _).trans (Ext.alloc _ _), by omega, a, n, c, ?_, hb⟩
    have := heap_alloc_new (w.alloc (.cells (recCells Rec.zero (.slice none 0 0)) 48)) (.cells #[.slice a n c, .bool false] 79)
    simpa using this
  clear hall
  rw [rdRest0 _ _ q1 q2 q3] at hz
  have hz := Lib.hid hz
  clear q1 q2 q3
  go_enter Tryd.func53, Tryd.ntmps53
  go_wp2_with fail
  refine (rdnumber_calls w _ (w.heap.size + 1) _ 1 (by decide) k hk hs0).mono ?_
  rintro e w1 ⟨rfl, hs1, hg1⟩
  have hB1 : w1.heap[w.heap.size]? = some (.cells (recCells Rec.zero (.slice none 0 0)) 48 (0, 0)) := by
    rw [hg1.block _ (by simp; omega) (by simp)]
    rw [heap_alloc_old _ _ (by simp)]
    exact heap_alloc_new _ _
  have hz1 : w.heap.size + 1 < w1.heap.size := by have := hg1.size; simp at this; omega
  have hs2 := rds_ext hs1 (Ext.alloc w1 (.cells (recCells ⟨k.1, [], 0, 0, [], 0, 0, 0, 0⟩ (.slice none 0 0)) 48))
  have hB2 : (w1.alloc (.cells (recCells ⟨k.1, [], 0, 0, [], 0, 0, 0, 0⟩ (.slice none 0 0)) 48)).heap[w.heap.size]? = some (.cells (recCells Rec.zero (.slice none 0 0)) 48 (0, 0)) := by
    rw [heap_alloc_old _ _ (by omega)]; exact hB1
  have hX2 : (w1.alloc (.cells (recCells ⟨k.1, [], 0, 0, [], 0, 0, 0, 0⟩ (.slice none 0 0)) 48)).heap[w1.heap.size]? = some (.cells (recCells ⟨k.1, [], 0, 0, [], 0, 0, 0, 0⟩ (.slice none 0 0)) 48 (0, 0)) := heap_alloc_new _ _
  clear hs0 hg1 hs1 hB1 hk
  obtain ⟨w3, hw3⟩ : ∃ w3, w1.alloc (.cells (recCells ⟨k.1, [], 0, 0, [], 0, 0, 0, 0⟩ (.slice none 0 0)) 48) = w3 := ⟨_, rfl⟩
  obtain ⟨base, av, nv, cv, hbase, hrg, hX3, hown⟩ : ∃ (base : Nat) (av : Option Addr) (nv cv : Nat), w.heap.size < base ∧ Rg w3 av nv cv z.1.rungs ∧ w3.heap[w1.heap.size]? = some (.cells (recCells z.1 (.slice av nv cv)) 48 (0, 0)) ∧ w3.ownsRow base 68 2 (.slice av nv cv) nv (rgc z.1.rungs) :=
    ⟨w.heap.size + 1, none, 0, 0, by omega, by rw [← hz.out]; exact rg_nil _, by rw [← hz.out, ← hw3, hX2], by rw [← hz.out]; exact World.ownsRow_nil _ _ _ _⟩
  have hB3 : w3.heap[w.heap.size]? = some (.cells (recCells Rec.zero (.slice none 0 0)) 48 (0, 0)) := by rw [← hw3]; exact hB2
  have hs3 : RdS w w3 (w.heap.size + 1) z.2 := by rw [← hz.out, ← hw3]; exact hs2
  clear hs2 hX2 hB2 hz
  dsimp only [recCells] at hw3
  have hw3h := Lib.hid hw3
  clear hw3
  go_upto_region 14 with fail
  rw [hw3h.out]
  clear hw3h
  have hx3 := hs3.1
  obtain ⟨-, -, a3, n3, c3, hh3, hb3⟩ := hs3
  have hr0 := (cell0 hh3 0 _ rfl).1
  have hr1 := (cell0 hh3 1 _ rfl).1
  have hlen3 := Lib.hid hb3.len
  obtain ⟨⟨kind, path, method, factor, rungs, rung, time, now, value⟩, ⟨sl, sb⟩⟩ := z
  dsimp only [recCells] at hX3 hrg hown hr0 hr1 hlen3 HT
  obtain ⟨x0, x1, x2, x3, x4, x5, x6, x7, x8⟩ := cells9 hX3
  have hX3h := Lib.hid hX3
  have hB3h := Lib.hid hB3
  clear hh3 hb3 hX3 hB3
  dsimp only [recCells] at hB3h
  obtain ⟨y0, y1, y2, y3, y4, y5, y6, y7, y8⟩ := cells9 hB3h.out
  obtain ⟨z0, z1, z2, z3, z4, z5, z6, z7, z8⟩ := frozen9 hB3h.out
  by_cases hbad : sb = true ∨ 0 < n3
  · have HE : Hid (y = (Rec.zero, 7)) := by
      show _ = _
      rw [HT.out, if_pos]
      rcases hbad with h | h
      · exact .inl h
      · exact .inr (.inl (by intro he; rw [he] at hlen3; have := hlen3.out; simp at this; omega))
    clear HT hlen3
    have hbad : sb = true ∨ (sb = false ∧ 0 < n3) := by cases sb with | true => exact .inl rfl | false => exact .inr ⟨rfl, hbad.resolve_left (by decide)⟩
    rcases hbad with rfl | ⟨rfl, hn3⟩
    all_goals
      go_wp2_with fail
      refine bodyPost_ret (v := .tuple #[rv Rec.zero none 0 0, .int .i64 7]) (by simp [results, Tryd.results53, go_sem, rv, Rec.zero, y0, y1, y2, y3, y4, y5, y6, y7, y8]) rfl ?_
      refine ⟨none, 0, 0, by rw [HE.out], by rw [HE.out]; exact rt_nil _, ?_⟩
      exact ext9 hx3 _ _ _ _ _ _ _ _ _
  · obtain rfl : sb = false := Bool.eq_false_iff.2 fun h => hbad (.inl h)
    obtain rfl : n3 = 0 := by omega
    obtain rfl : sl = [] := List.eq_nil_of_length_eq_zero hlen3.out
    obtain ⟨rr, hrr⟩ : ∃ rr, right ⟨kind, path, method, factor, rungs, rung, time, now, value⟩ = rr := ⟨_, rfl⟩
    have hc0 := right_calls ⟨kind, path, method, factor, rungs, rung, time, now, value⟩ av nv cv w3 hrg
    rw [hrr] at hc0 HT
    unfold rv at hc0
    dsimp only at hc0
    have hc0 := Lib.hid hc0
    clear hbad hrr hlen3 y0 y1 y2 y3 y4 y5 y6 y7 y8 z0 z1 z2 z3 z4 z5 z6 z7 z8
    go_wp2_with fail
    refine hc0.out.mono ?_
    rintro e w4 ⟨rfl, hx4⟩
    have hX4 := hx4.block _ (Array.getElem?_eq_some_iff.1 hX3h.out).1
    rw [hX3h.out] at hX4
    have hB4 := hx4.block _ (Array.getElem?_eq_some_iff.1 hB3h.out).1
    rw [hB3h.out] at hB4
    have hx4' := hx3.trans hx4
    have hown4 := owns_ext hown hx4
    obtain ⟨x0', x1', x2', x3', x4', x5', x6', x7', x8'⟩ := cells9 hX4
    obtain ⟨y0, y1, y2, y3, y4, y5, y6, y7, y8⟩ := cells9 hB4
    obtain ⟨z0, z1, z2, z3, z4, z5, z6, z7, z8⟩ := frozen9 hB4
    have hne4 : w1.heap.size ≠ w.heap.size := by omega
    clear hX3h hB3h hX4 hB4 hc0 x0 x1 x2 x3 x4 x5 x6 x7 x8 hr0 hr1 hx4
    cases rr with
    | false =>
      have HE : Hid (y = (Rec.zero, 7)) := by show _ = _; rw [HT.out, if_pos (.inr (.inr rfl))]
      clear HT
      go_wp2_with fail
      refine bodyPost_ret (v := .tuple #[rv Rec.zero none 0 0, .int .i64 7]) (by simp [results, Tryd.results53, go_sem, rv, Rec.zero, y0, y1, y2, y3, y4, y5, y6, y7, y8]) rfl ?_
      refine ⟨none, 0, 0, by rw [HE.out], by rw [HE.out]; exact rt_nil _, ?_⟩
      exact ext9 hx4' _ _ _ _ _ _ _ _ _
    | true =>
      have HE : Hid (y = (⟨kind, path, method, factor, rungs, rung, time, now, value⟩, 0)) := by show _ = _; rw [HT.out, if_neg (by simp)]
      clear HT
      go_wp2_with fail
      refine bodyPost_ret (v := .tuple #[rv ⟨kind, path, method, factor, rungs, rung, time, now, value⟩ av nv cv, .int .i64 0]) (by simp [results, Tryd.results53, go_sem, rv, y0, y1, y2, y3, y4, y5, y6, y7, y8]) rfl ?_
      refine ⟨av, nv, cv, by rw [HE.out], ?_, ?_⟩
      · rw [HE.out]
        exact rt_of_own (own9 hown4 hbase _ _ _ _ _ _ _ _ _)
      · exact ext9 hx4' _ _ _ _ _ _ _ _ _

theorem stake_calls (a : Option Addr) (n c : Nat) (l : List UInt8) (w : World) (hb : Bs w a n c l) :
    Calls Tryd.prog 53 #[.slice a n c] w fun e w' => ∃ a' n' c', e = .returned (.tuple #[rv (segTake l).1 a' n' c', .int .i64 (segTake l).2]) ∧ Rt w' a' n' c' (segTake l).1.rungs ∧ Ext w w' := by
  obtain ⟨k, hk⟩ : ∃ k, rdNum 1 (l, false) = k := ⟨_, rfl⟩
  by_cases k1 : k.1 = 1
  · exact stake1_calls a n c l w hb k hk k1
  · by_cases k2 : k.1 = 2
    · exact stake2_calls a n c l w hb k hk k2
    · by_cases k3 : k.1 = 3
      · exact stake3_calls a n c l w hb k hk k3
      · exact stake0_calls a n c l w hb k hk k1 k2 k3
end Go.Proofs.YtkflikfcpdekdaaDoor

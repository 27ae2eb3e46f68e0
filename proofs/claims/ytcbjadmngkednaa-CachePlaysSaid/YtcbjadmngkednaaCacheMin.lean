/-
  Layer 20's contracts: cmp.Compare, the closures of Choose, slices.MinFunc and best with each of them.
-/
import Derived.Test.YtcbjadmngkednaaCacheAdd
namespace Go.Proofs.Ytcbjadmngkednaa
open Go.RowKit

def cmpI (a b : Int) : Int := if a < b then -1 else if b < a then 1 else 0
theorem cmpI_neg (a b : Int) : cmpI a b < 0 ↔ a < b := by
  unfold cmpI
  split
  · simp [*]
  · split <;> simp [*]
theorem nan_calls (a : Int) (w : World) : Calls Try.prog 46 #[.int .i64 a] w fun e w' => e = .returned (.bool false) ∧ w' = w := by
  go_enter Try.func46, Try.ntmps46
  go_wp2_with fail
  go_ret
  exact ⟨by simp, rfl⟩
theorem cmp_calls (a b : Int) (w : World) : Calls Try.prog 37 #[.int .i64 a, .int .i64 b] w fun e w' => e = .returned (.int .i64 (cmpI a b)) ∧ w' = w := by
  unfold cmpI
  by_cases h1 : a < b
  · rw [if_pos h1]
    go_enter Try.func37, Try.ntmps37
    go_wp2_with fail
    refine (nan_calls a w).mono ?_
    rintro e w1 ⟨rfl, rfl⟩
    go_wp2_with fail
    refine (nan_calls b w1).mono ?_
    rintro e w2 ⟨rfl, rfl⟩
    go_wp2_with fail
    go_ret
    exact ⟨rfl, rfl⟩
  · rw [if_neg h1]
    by_cases h2 : b < a
    · rw [if_pos h2]
      go_enter Try.func37, Try.ntmps37
      go_wp2_with fail
      refine (nan_calls a w).mono ?_
      rintro e w1 ⟨rfl, rfl⟩
      go_wp2_with fail
      refine (nan_calls b w1).mono ?_
      rintro e w2 ⟨rfl, rfl⟩
      go_wp2_with fail
      go_ret
      exact ⟨rfl, rfl⟩
    · rw [if_neg h2]
      go_enter Try.func37, Try.ntmps37
      go_wp2_with fail
      refine (nan_calls a w).mono ?_
      rintro e w1 ⟨rfl, rfl⟩
      go_wp2_with fail
      refine (nan_calls b w1).mono ?_
      rintro e w2 ⟨rfl, rfl⟩
      go_wp2_with fail
      go_ret
      exact ⟨rfl, rfl⟩

/-- Has the one more points? Has its first point the lesser order? -/
def ltMost (x y : Wt) : Bool := decide ((y.2.length : Int) < (x.2.length : Int))
def ltEldest (x y : Wt) : Bool := decide ((x.2.head?.map (·.order)).getD 0 < (y.2.head?.map (·.order)).getD 0)
theorem two_waits {w : World} {v0 v1 u0 u1 : Value} {t : TypeId} {W : World} (h : Ext ((w.alloc (.cells #[v0, v1] t)).alloc (.cells #[u0, u1] t)) W) :
    (W.cell? ⟨w.heap.size, 0, none⟩ = some v0 ∧ W.cell? ⟨w.heap.size, 1, none⟩ = some v1) ∧ (W.cell? ⟨w.heap.size + 1, 0, none⟩ = some u0 ∧ W.cell? ⟨w.heap.size + 1, 1, none⟩ = some u1) := by
  obtain ⟨h1, h2⟩ := two_blocks h
  exact ⟨cells_two h1, cells_two h2⟩
theorem most_calls (x y : Wh) (w : World) (hx : As w x.2.1 x.2.2.1 x.2.2.2 x.1.2) (hy : As w y.2.1 y.2.2.1 y.2.2.2 y.1.2) :
    Calls Try.prog 36 #[.agg (wc x).toArray, .agg (wc y).toArray] w fun e w' => ∃ z : Int, e = .returned (.int .i64 z) ∧ (z < 0 ↔ ltMost x.1 y.1 = true) ∧ Ext w w' := by
  have hlx := hx.len
  have hly := hy.len
  have hiff : cmpI (y.2.2.1 : Int) (x.2.2.1 : Int) < 0 ↔ ltMost x.1 y.1 = true := by
    rw [cmpI_neg]; unfold ltMost; rw [decide_eq_true_eq, hlx, hly]
  have hiffh := Lib.hid hiff
  clear hlx hly hiff
  have hX := (Ext.alloc w (.cells #[.string ⟨x.1.1.toArray⟩, .slice x.2.1 x.2.2.1 x.2.2.2] 59)).trans (Ext.alloc _ (.cells #[.string ⟨y.1.1.toArray⟩, .slice y.2.1 y.2.2.1 y.2.2.2] 59))
  show Calls _ _ #[.agg #[.string ⟨x.1.1.toArray⟩, .slice x.2.1 x.2.2.1 x.2.2.2], .agg #[.string ⟨y.1.1.toArray⟩, .slice y.2.1 y.2.2.1 y.2.2.2]] _ _
  go_enter Try.func36, Try.ntmps36
  go_wp2_with fail
  refine (cmp_calls _ _ _).mono ?_
  rintro e w1 ⟨rfl, rfl⟩
  go_wp2_with fail
  go_ret
  exact ⟨_, rfl, hiffh.out, hX⟩
set_option maxRecDepth 100000 in
theorem eldest_calls (x y : Wh) (w : World) (hx : As w x.2.1 x.2.2.1 x.2.2.2 x.1.2) (hy : As w y.2.1 y.2.2.1 y.2.2.2 y.1.2) (hxn : x.1.2 ≠ []) (hyn : y.1.2 ≠ []) :
    Calls Try.prog 38 #[.agg (wc x).toArray, .agg (wc y).toArray] w fun e w' => ∃ z : Int, e = .returned (.int .i64 z) ∧ (z < 0 ↔ ltEldest x.1 y.1 = true) ∧ Ext w w' := by
  obtain ⟨⟨px, lx⟩, ax, nx, cx⟩ := x
  obtain ⟨⟨py, ly⟩, ay, ny, cy⟩ := y
  dsimp only at *
  have hlx := hx.len
  have hly := hy.len
  obtain ⟨p, lx, rfl⟩ := List.exists_cons_of_ne_nil hxn
  obtain ⟨q, ly, rfl⟩ := List.exists_cons_of_ne_nil hyn
  have hnx : 0 < nx := by rw [← hlx]; simp
  have hny : 0 < ny := by rw [← hly]; simp
  obtain ⟨bx, ox, rfl, hcx⟩ := hx.at hnx
  obtain ⟨by_, oy, rfl, hcy⟩ := hy.at hny
  obtain ⟨_, _, _, dx⟩ := hcx 0 (by simp)
  obtain ⟨_, _, _, dy⟩ := hcy 0 (by simp)
  simp only [Nat.zero_mul, Nat.add_zero, List.getElem_cons_zero] at dx dy
  have hX := (Ext.alloc w (.cells #[.string ⟨px.toArray⟩, .slice (some ⟨bx, ox, none⟩) nx cx] 59)).trans (Ext.alloc _ (.cells #[.string ⟨py.toArray⟩, .slice (some ⟨by_, oy, none⟩) ny cy] 59))
  have hiff : Hid (cmpI p.order q.order < 0 ↔ ltEldest (px, p :: lx) (py, q :: ly) = true) := by
    show _ ↔ _
    rw [cmpI_neg]; unfold ltEldest; rw [decide_eq_true_eq]; rfl
  obtain ⟨⟨y0, y1⟩, ⟨z0, z1⟩⟩ := two_waits (Ext.refl ((w.alloc (.cells #[.string ⟨px.toArray⟩, .slice (some ⟨bx, ox, none⟩) nx cx] 59)).alloc (.cells #[.string ⟨py.toArray⟩, .slice (some ⟨by_, oy, none⟩) ny cy] 59)))
  replace dx := hX.cell dx
  replace dy := hX.cell dy
  obtain ⟨P, hP⟩ : ∃ P, p.order = P := ⟨_, rfl⟩
  obtain ⟨Q, hQ⟩ : ∃ Q, q.order = Q := ⟨_, rfl⟩
  rw [hP] at dx hiff
  rw [hQ] at dy hiff
  have hnxI : (0 : Int) < (nx : Int) := by omega
  have hnyI : (0 : Int) < (ny : Int) := by omega
  obtain ⟨W, hW⟩ : ∃ W, (w.alloc (.cells #[.string ⟨px.toArray⟩, .slice (some ⟨bx, ox, none⟩) nx cx] 59)).alloc (.cells #[.string ⟨py.toArray⟩, .slice (some ⟨by_, oy, none⟩) ny cy] 59) = W := ⟨_, rfl⟩
  rw [hW] at y0 y1 z0 z1 dx dy hX
  clear hx hy hcx hcy hP hQ hlx hly
  show Calls _ _ #[.agg #[.string ⟨px.toArray⟩, .slice (some ⟨bx, ox, none⟩) nx cx], .agg #[.string ⟨py.toArray⟩, .slice (some ⟨by_, oy, none⟩) ny cy]] _ _
  go_enter Try.func38, Try.ntmps38
  go_wp2_with fail
  clear hW
  go_quiet ((go_at_call 37; exact Calls.quiet_of_same (cmp_calls _ _ _)))
  go_wp2_with fail
  go_ret
  exact ⟨_, rfl, hiff.out, hX.trans (Ext.drewN _ _)⟩

/-- The first one for which none is better. -/
def minW (lt : Wt → Wt → Bool) : Wt → List Wt → Wt
  | m, [] => m
  | m, x :: r => minW lt (if lt x m then x else m) r
theorem minW_take (lt : Wt → Wt → Bool) (L : List Wt) (h0 : 0 < L.length) (k : Nat) (hk : k < L.length) : minW lt L[0] ((L.take (k + 1)).drop 1) = if lt L[k] (minW lt L[0] ((L.take k).drop 1)) ∧ 1 ≤ k then L[k] else minW lt L[0] ((L.take k).drop 1) := by
  have key : ∀ (l : List Wt) (m x : Wt), minW lt m (l ++ [x]) = if lt x (minW lt m l) then x else minW lt m l := by
    intro l
    induction l with
    | nil => intro m x; rfl
    | cons y l ih => intro m x; exact ih _ x
  by_cases h1 : 1 ≤ k
  · rw [List.take_succ_eq_append_getElem hk, List.drop_append_of_le_length (by rw [List.length_take]; omega), key]
    simp [h1]
  · have : k = 0 := by omega
    subst this
    simp

set_option maxRecDepth 100000 in
set_option maxHeartbeats 1600000 in
theorem min_most (a : Option Addr) (n c : Nat) (M : List Wh) (w : World) (hb : Ws w a n c M) (h0 : 0 < n) (hn : n ≤ 1000000) :
    Calls Try.prog 45 #[.slice a n c, .func (.func 36) #[] #[]] w fun e w' => ∃ x : Wh, e = .returned (.agg #[.string ⟨x.1.1.toArray⟩, .slice x.2.1 x.2.2.1 x.2.2.2]) ∧ (∃ h : 0 < (ws M).length, x.1 = minW ltMost (ws M)[0] ((ws M).drop 1)) ∧ Ext w w' := by
  have hlen := Lib.hid hb.len
  obtain ⟨b, o, rfl, hc⟩ := hb.at h0
  have hM0 : 0 < M.length := by rw [hlen.out]; exact h0
  have hW0 : 0 < (ws M).length := by unfold ws; rw [List.length_map]; exact hM0
  have h0I : ¬ (n : Int) < 1 := by omega
  obtain ⟨d0, d1⟩ := hc 0 hM0
  simp only [Nat.zero_mul, Nat.add_zero] at d0 d1
  have hl0 := World.block_lt_of_cell? w _ d0
  have hm0 := Lib.hid (show (ws M)[0] = M[0].1 by simp [ws])
  have hmem0 : Hid (M[0] ∈ M) := List.getElem_mem hM0
  obtain ⟨x0, hx0⟩ : ∃ x0, M[0] = x0 := ⟨_, rfl⟩
  rw [hx0] at d0 d1 hm0 hmem0
  clear hx0
  go_enter Try.func45, Try.ntmps45
  go_wp2_with fail
  obtain ⟨W0, hW⟩ : ∃ W0, (w.alloc (.cells #[.string ⟨#[]⟩, .slice none 0 0] 59)).alloc (.cells #[.string ⟨x0.1.1.toArray⟩, .slice x0.2.1 x0.2.2.1 x0.2.2.2] 59) = W0 := ⟨_, rfl⟩
  obtain ⟨hr0, hb0⟩ := two_blocks (W := W0) (by rw [hW]; exact Ext.refl _)
  have hX0 : Ext w W0 := by rw [← hW]; exact (Ext.alloc _ _).trans (Ext.alloc _ _)
  rw [hW]
  clear hW d0 d1
  go_loopw [6] (fun vi wr => ∃ (k : Nat) (m : Wh), 1 ≤ k ∧ k ≤ n ∧ vi = .int .i64 k ∧ Hid (m ∈ M) ∧ Hid (m.1 = minW ltMost (ws M)[0] (((ws M).take k).drop 1)) ∧ wr.heap[w.heap.size + 1]? = some (.cells #[.string ⟨m.1.1.toArray⟩, .slice m.2.1 m.2.2.1 m.2.2.2] 59 (0, 0)) ∧ wr.heap[w.heap.size]? = some (.cells #[.string ⟨#[]⟩, .slice none 0 0] 59 (0, 0)) ∧ Ext w wr) (fun vi _ => n - (intOf vi).toNat)
  case atStart => exact ⟨1, x0, by omega, by omega, rfl, hmem0, by show _ = _; rw [hm0.out]; rw [show ((ws M).take 1).drop 1 = [] by simp]; rfl, hb0, hr0, hX0⟩
  case round =>
    obtain ⟨k, m, hk1, hk, rfl, hmem, hmin, hbm, hrm, hX⟩ := hrel
    by_cases hlt : k < n
    · have hkM : k < M.length := by rw [hlen.out]; exact hlt
      have hkW : k < (ws M).length := by unfold ws; rw [List.length_map]; exact hkM
      obtain ⟨d0, d1⟩ := hc k hkM
      replace d0 := hX.cell d0
      replace d1 := hX.cell d1
      have hl1 := World.block_lt_of_cell? wr _ d0
      have hmt := minW_take ltMost (ws M) hW0 k hkW
      rw [← hmin.out, show (ws M)[k] = M[k].1 by simp [ws]] at hmt
      have hcl := Lib.hid (fun W (h : Ext wr W) => most_calls M[k] m W ((hb.2 _ (List.getElem_mem hkM)).ext (hX.trans h)) ((hb.2 m hmem.out).ext (hX.trans h)))
      have hmk : Hid (M[k] ∈ M) := List.getElem_mem hkM
      obtain ⟨x, hxe⟩ : ∃ x, M[k] = x := ⟨_, rfl⟩
      rw [hxe] at d0 d1 hmt hcl hmk
      have hmth := Lib.hid hmt
      clear hxe hmt
      obtain ⟨wo, hwo⟩ : ∃ wo : World, wr = wo := ⟨_, rfl⟩
      rw [hwo] at hbm hrm hX d0 d1 hl1 hcl ⊢
      clear hwo
      obtain ⟨m0, m1⟩ := cells_two hbm
      have hl2 := lt_of_block hbm
      have hl3 := lt_of_block hrm
      go_upto_region 7 with fail
      obtain ⟨X, iX, f, hxS0, hSx0⟩ := letters (fun w' => Ext wo w') wo (Ext.refl wo)
      have hxS := Lib.hid hxS0
      have hSx := Lib.hid hSx0
      clear hxS0 hSx0
      have y0 : ∀ x', (f x').cell? ⟨b, o + k * 2, none⟩ = some (.string ⟨x.1.1.toArray⟩) := fun x' => (hxS.out x').cell d0
      have y1 : ∀ x', (f x').cell? ⟨b, o + k * 2 + 1, none⟩ = some (.slice x.2.1 x.2.2.1 x.2.2.2) := fun x' => (hxS.out x').cell d1
      have y2 : ∀ x', (f x').cell? ⟨w.heap.size + 1, 0, none⟩ = some (.string ⟨m.1.1.toArray⟩) := fun x' => (hxS.out x').cell m0
      have y3 : ∀ x', (f x').cell? ⟨w.heap.size + 1, 1, none⟩ = some (.slice m.2.1 m.2.2.1 m.2.2.2) := fun x' => (hxS.out x').cell m1
      refine region_class_tail 6 (fun w' => ∃ x' : X, w' = f x') (by kernel_rfl) (by kernel_rfl) (hSx.out _ (Ext.drewN wo 1)) ?_
      simp only [List.take_succ_cons, List.take_zero, List.drop_succ_cons, List.drop_zero]
      repeat (go_big_quiet_step (fail))
      refine wpQuiet_nil ?_
      rintro _ ⟨x1, rfl⟩
      have hx1 := hxS.out x1
      go_wp2_with fail
      refine (hcl.out _ hx1).mono ?_
      rintro e w2 ⟨z, rfl, hz, hx2⟩
      have hX2 := (hX.trans hx1).trans hx2
      replace hbm := ((hx1.trans hx2).block _ hl2).trans hbm
      replace hrm := ((hx1.trans hx2).block _ hl3).trans hrm
      replace d0 := (hx1.trans hx2).cell d0
      replace d1 := (hx1.trans hx2).cell d1
      clear y0 y1 y2 y3 m0 m1
      cases hlx : ltMost x.1 m.1 with
      | true =>
        have hz0 : z < 0 := hz.2 hlx
        have hm2 := hmth.out
        rw [hlx] at hm2
        rw [if_pos ⟨rfl, hk1⟩] at hm2
        have hm2h := Lib.hid hm2
        obtain ⟨m0, m1⟩ := cells_two hbm
        have g0 : w2.frozen? ⟨w.heap.size + 1, 0, none⟩ = false := by simp [World.frozen?, hbm]
        have g1 : w2.frozen? ⟨w.heap.size + 1, 1, none⟩ = false := by simp [World.frozen?, hbm]
        have hl5 := World.block_lt_of_cell? w2 _ d0
        clear hz hm2 hlx
        go_wp2_with fail
        have e0 := at_setCell (at_setCell hbm 0 (.string ⟨x.1.1.toArray⟩)) 1 (.slice x.2.1 x.2.2.1 x.2.2.2)
        have hg := grownBy_trans (put_grownBy w2 (w.heap.size + 1) 0 (.string ⟨x.1.1.toArray⟩)) (put_grownBy _ (w.heap.size + 1) 1 (.slice x.2.1 x.2.2.1 x.2.2.2))
        refine ⟨⟨k + 1, x, by omega, by omega, by go_num, hmk, hm2h.out.symm, by simpa using e0, (hg.block _ (lt_of_block hrm) (by simp)).trans hrm, hX2.grown hg (fun k e => by cases e; omega)⟩, by simp [intOf]; omega⟩
      | false =>
        have hz0 : ¬ z < 0 := fun h => by have := hz.1 h; rw [hlx] at this; cases this
        have hm2 := hmth.out
        rw [hlx] at hm2
        rw [if_neg (by simp)] at hm2
        have hm2h := Lib.hid hm2
        clear hz hm2 hlx
        go_wp2_with fail
        refine ⟨⟨k + 1, m, by omega, by omega, by go_num, hmem, hm2h.out.symm, hbm, hrm, hX2⟩, by simp [intOf]; omega⟩
    · obtain rfl : k = n := by omega
      have hfin := hmin.out
      rw [List.take_of_length_le (by unfold ws; rw [List.length_map, hlen.out]; exact Nat.le_refl _)] at hfin
      have hfinh := Lib.hid hfin
      clear hfin
      obtain ⟨m0, m1⟩ := cells_two hbm
      obtain ⟨r0, r1⟩ := cells_two hrm
      have g0 : wr.frozen? ⟨w.heap.size, 0, none⟩ = false := by simp [World.frozen?, hrm]
      have g1 : wr.frozen? ⟨w.heap.size, 1, none⟩ = false := by simp [World.frozen?, hrm]
      go_wp2_with fail
      have e0 := at_setCell (at_setCell hrm 0 (.string ⟨m.1.1.toArray⟩)) 1 (.slice m.2.1 m.2.2.1 m.2.2.2)
      have hg := grownBy_trans (put_grownBy wr w.heap.size 0 (.string ⟨m.1.1.toArray⟩)) (put_grownBy _ w.heap.size 1 (.slice m.2.1 m.2.2.1 m.2.2.2))
      obtain ⟨w9, hw9⟩ : ∃ w9, (wr.setCell ⟨w.heap.size, 0, none⟩ (.string ⟨m.1.1.toArray⟩)).setCell ⟨w.heap.size, 1, none⟩ (.slice m.2.1 m.2.2.1 m.2.2.2) = w9 := ⟨_, rfl⟩
      rw [hw9] at e0 hg ⊢
      obtain ⟨q0, q1⟩ := cells_two (v0 := .string ⟨m.1.1.toArray⟩) (v1 := .slice m.2.1 m.2.2.1 m.2.2.2) (by simpa using e0)
      refine bodyPost_ret (v := .agg #[.string ⟨m.1.1.toArray⟩, .slice m.2.1 m.2.2.1 m.2.2.2]) (by simp [results, Try.results45, go_sem, q0, q1]) rfl ?_
      exact ⟨m, rfl, ⟨hW0, hfinh.out⟩, hX.grown hg (fun k e => by cases e; exact Nat.le_refl _)⟩
theorem best_most (a : Option Addr) (n c : Nat) (M : List Wh) (w : World) (hb : Ws w a n c M) (h0 : 0 < n) (hn : n ≤ 1000000) :
    Calls Try.prog 35 #[.slice a n c, .func (.func 36) #[] #[]] w fun e w' => ∃ s : List UInt8, e = .returned (.string ⟨s.toArray⟩) ∧ (∃ h : 0 < (ws M).length, s = (minW ltMost (ws M)[0] ((ws M).drop 1)).1) ∧ Ext w w' := by
  have hm := Lib.hid (min_most a n c M w hb h0 hn)
  go_enter Try.func35, Try.ntmps35
  go_wp2_with fail
  refine hm.out.mono ?_
  rintro e w1 ⟨x, rfl, ⟨hW0, hx⟩, hx1⟩
  have hfd : (Instr.field 59 (.agg #[.string ⟨x.1.1.toArray⟩, .slice x.2.1 x.2.2.1 x.2.2.2]) 0).run Try.prog w1 = .ok (.string ⟨x.1.1.toArray⟩) w1 := by kernel_rfl
  have hxh := Lib.hid hx
  clear hx
  go_wp2_with fail
  go_ret
  exact ⟨x.1.1, rfl, ⟨hW0, by rw [← hxh.out]⟩, hx1⟩

set_option maxRecDepth 100000 in
set_option maxHeartbeats 1600000 in
theorem min_eldest (a : Option Addr) (n c : Nat) (M : List Wh) (w : World) (hb : Ws w a n c M) (h0 : 0 < n) (hn : n ≤ 1000000) (hne : ∀ x ∈ M, x.1.2 ≠ []) :
    Calls Try.prog 45 #[.slice a n c, .func (.func 38) #[] #[]] w fun e w' => ∃ x : Wh, e = .returned (.agg #[.string ⟨x.1.1.toArray⟩, .slice x.2.1 x.2.2.1 x.2.2.2]) ∧ (∃ h : 0 < (ws M).length, x.1 = minW ltEldest (ws M)[0] ((ws M).drop 1)) ∧ Ext w w' := by
  have hlen := Lib.hid hb.len
  obtain ⟨b, o, rfl, hc⟩ := hb.at h0
  have hM0 : 0 < M.length := by rw [hlen.out]; exact h0
  have hW0 : 0 < (ws M).length := by unfold ws; rw [List.length_map]; exact hM0
  have h0I : ¬ (n : Int) < 1 := by omega
  obtain ⟨d0, d1⟩ := hc 0 hM0
  simp only [Nat.zero_mul, Nat.add_zero] at d0 d1
  have hl0 := World.block_lt_of_cell? w _ d0
  have hm0 := Lib.hid (show (ws M)[0] = M[0].1 by simp [ws])
  have hmem0 : Hid (M[0] ∈ M) := List.getElem_mem hM0
  obtain ⟨x0, hx0⟩ : ∃ x0, M[0] = x0 := ⟨_, rfl⟩
  rw [hx0] at d0 d1 hm0 hmem0
  clear hx0
  go_enter Try.func45, Try.ntmps45
  go_wp2_with fail
  obtain ⟨W0, hW⟩ : ∃ W0, (w.alloc (.cells #[.string ⟨#[]⟩, .slice none 0 0] 59)).alloc (.cells #[.string ⟨x0.1.1.toArray⟩, .slice x0.2.1 x0.2.2.1 x0.2.2.2] 59) = W0 := ⟨_, rfl⟩
  obtain ⟨hr0, hb0⟩ := two_blocks (W := W0) (by rw [hW]; exact Ext.refl _)
  have hX0 : Ext w W0 := by rw [← hW]; exact (Ext.alloc _ _).trans (Ext.alloc _ _)
  rw [hW]
  clear hW d0 d1
  go_loopw [6] (fun vi wr => ∃ (k : Nat) (m : Wh), 1 ≤ k ∧ k ≤ n ∧ vi = .int .i64 k ∧ Hid (m ∈ M) ∧ Hid (m.1 = minW ltEldest (ws M)[0] (((ws M).take k).drop 1)) ∧ wr.heap[w.heap.size + 1]? = some (.cells #[.string ⟨m.1.1.toArray⟩, .slice m.2.1 m.2.2.1 m.2.2.2] 59 (0, 0)) ∧ wr.heap[w.heap.size]? = some (.cells #[.string ⟨#[]⟩, .slice none 0 0] 59 (0, 0)) ∧ Ext w wr) (fun vi _ => n - (intOf vi).toNat)
  case atStart => exact ⟨1, x0, by omega, by omega, rfl, hmem0, by show _ = _; rw [hm0.out]; rw [show ((ws M).take 1).drop 1 = [] by simp]; rfl, hb0, hr0, hX0⟩
  case round =>
    obtain ⟨k, m, hk1, hk, rfl, hmem, hmin, hbm, hrm, hX⟩ := hrel
    by_cases hlt : k < n
    · have hkM : k < M.length := by rw [hlen.out]; exact hlt
      have hkW : k < (ws M).length := by unfold ws; rw [List.length_map]; exact hkM
      obtain ⟨d0, d1⟩ := hc k hkM
      replace d0 := hX.cell d0
      replace d1 := hX.cell d1
      have hl1 := World.block_lt_of_cell? wr _ d0
      have hmt := minW_take ltEldest (ws M) hW0 k hkW
      rw [← hmin.out, show (ws M)[k] = M[k].1 by simp [ws]] at hmt
      have hcl := Lib.hid (fun W (h : Ext wr W) => eldest_calls M[k] m W ((hb.2 _ (List.getElem_mem hkM)).ext (hX.trans h)) ((hb.2 m hmem.out).ext (hX.trans h)) (hne _ (List.getElem_mem _)) (hne _ hmem.out))
      have hmk : Hid (M[k] ∈ M) := List.getElem_mem hkM
      obtain ⟨x, hxe⟩ : ∃ x, M[k] = x := ⟨_, rfl⟩
      rw [hxe] at d0 d1 hmt hcl hmk
      have hmth := Lib.hid hmt
      clear hxe hmt
      obtain ⟨wo, hwo⟩ : ∃ wo : World, wr = wo := ⟨_, rfl⟩
      rw [hwo] at hbm hrm hX d0 d1 hl1 hcl ⊢
      clear hwo
      obtain ⟨m0, m1⟩ := cells_two hbm
      have hl2 := lt_of_block hbm
      have hl3 := lt_of_block hrm
      go_upto_region 7 with fail
      obtain ⟨X, iX, f, hxS0, hSx0⟩ := letters (fun w' => Ext wo w') wo (Ext.refl wo)
      have hxS := Lib.hid hxS0
      have hSx := Lib.hid hSx0
      clear hxS0 hSx0
      have y0 : ∀ x', (f x').cell? ⟨b, o + k * 2, none⟩ = some (.string ⟨x.1.1.toArray⟩) := fun x' => (hxS.out x').cell d0
      have y1 : ∀ x', (f x').cell? ⟨b, o + k * 2 + 1, none⟩ = some (.slice x.2.1 x.2.2.1 x.2.2.2) := fun x' => (hxS.out x').cell d1
      have y2 : ∀ x', (f x').cell? ⟨w.heap.size + 1, 0, none⟩ = some (.string ⟨m.1.1.toArray⟩) := fun x' => (hxS.out x').cell m0
      have y3 : ∀ x', (f x').cell? ⟨w.heap.size + 1, 1, none⟩ = some (.slice m.2.1 m.2.2.1 m.2.2.2) := fun x' => (hxS.out x').cell m1
      refine region_class_tail 6 (fun w' => ∃ x' : X, w' = f x') (by kernel_rfl) (by kernel_rfl) (hSx.out _ (Ext.drewN wo 1)) ?_
      simp only [List.take_succ_cons, List.take_zero, List.drop_succ_cons, List.drop_zero]
      repeat (go_big_quiet_step (fail))
      refine wpQuiet_nil ?_
      rintro _ ⟨x1, rfl⟩
      have hx1 := hxS.out x1
      go_wp2_with fail
      refine (hcl.out _ hx1).mono ?_
      rintro e w2 ⟨z, rfl, hz, hx2⟩
      have hX2 := (hX.trans hx1).trans hx2
      replace hbm := ((hx1.trans hx2).block _ hl2).trans hbm
      replace hrm := ((hx1.trans hx2).block _ hl3).trans hrm
      replace d0 := (hx1.trans hx2).cell d0
      replace d1 := (hx1.trans hx2).cell d1
      clear y0 y1 y2 y3 m0 m1
      cases hlx : ltEldest x.1 m.1 with
      | true =>
        have hz0 : z < 0 := hz.2 hlx
        have hm2 := hmth.out
        rw [hlx] at hm2
        rw [if_pos ⟨rfl, hk1⟩] at hm2
        have hm2h := Lib.hid hm2
        obtain ⟨m0, m1⟩ := cells_two hbm
        have g0 : w2.frozen? ⟨w.heap.size + 1, 0, none⟩ = false := by simp [World.frozen?, hbm]
        have g1 : w2.frozen? ⟨w.heap.size + 1, 1, none⟩ = false := by simp [World.frozen?, hbm]
        have hl5 := World.block_lt_of_cell? w2 _ d0
        clear hz hm2 hlx
        go_wp2_with fail
        have e0 := at_setCell (at_setCell hbm 0 (.string ⟨x.1.1.toArray⟩)) 1 (.slice x.2.1 x.2.2.1 x.2.2.2)
        have hg := grownBy_trans (put_grownBy w2 (w.heap.size + 1) 0 (.string ⟨x.1.1.toArray⟩)) (put_grownBy _ (w.heap.size + 1) 1 (.slice x.2.1 x.2.2.1 x.2.2.2))
        refine ⟨⟨k + 1, x, by omega, by omega, by go_num, hmk, hm2h.out.symm, by simpa using e0, (hg.block _ (lt_of_block hrm) (by simp)).trans hrm, hX2.grown hg (fun k e => by cases e; omega)⟩, by simp [intOf]; omega⟩
      | false =>
        have hz0 : ¬ z < 0 := fun h => by have := hz.1 h; rw [hlx] at this; cases this
        have hm2 := hmth.out
        rw [hlx] at hm2
        rw [if_neg (by simp)] at hm2
        have hm2h := Lib.hid hm2
        clear hz hm2 hlx
        go_wp2_with fail
        refine ⟨⟨k + 1, m, by omega, by omega, by go_num, hmem, hm2h.out.symm, hbm, hrm, hX2⟩, by simp [intOf]; omega⟩
    · obtain rfl : k = n := by omega
      have hfin := hmin.out
      rw [List.take_of_length_le (by unfold ws; rw [List.length_map, hlen.out]; exact Nat.le_refl _)] at hfin
      have hfinh := Lib.hid hfin
      clear hfin
      obtain ⟨m0, m1⟩ := cells_two hbm
      obtain ⟨r0, r1⟩ := cells_two hrm
      have g0 : wr.frozen? ⟨w.heap.size, 0, none⟩ = false := by simp [World.frozen?, hrm]
      have g1 : wr.frozen? ⟨w.heap.size, 1, none⟩ = false := by simp [World.frozen?, hrm]
      go_wp2_with fail
      have e0 := at_setCell (at_setCell hrm 0 (.string ⟨m.1.1.toArray⟩)) 1 (.slice m.2.1 m.2.2.1 m.2.2.2)
      have hg := grownBy_trans (put_grownBy wr w.heap.size 0 (.string ⟨m.1.1.toArray⟩)) (put_grownBy _ w.heap.size 1 (.slice m.2.1 m.2.2.1 m.2.2.2))
      obtain ⟨w9, hw9⟩ : ∃ w9, (wr.setCell ⟨w.heap.size, 0, none⟩ (.string ⟨m.1.1.toArray⟩)).setCell ⟨w.heap.size, 1, none⟩ (.slice m.2.1 m.2.2.1 m.2.2.2) = w9 := ⟨_, rfl⟩
      rw [hw9] at e0 hg ⊢
      obtain ⟨q0, q1⟩ := cells_two (v0 := .string ⟨m.1.1.toArray⟩) (v1 := .slice m.2.1 m.2.2.1 m.2.2.2) (by simpa using e0)
      refine bodyPost_ret (v := .agg #[.string ⟨m.1.1.toArray⟩, .slice m.2.1 m.2.2.1 m.2.2.2]) (by simp [results, Try.results45, go_sem, q0, q1]) rfl ?_
      exact ⟨m, rfl, ⟨hW0, hfinh.out⟩, hX.grown hg (fun k e => by cases e; exact Nat.le_refl _)⟩
theorem best_eldest (a : Option Addr) (n c : Nat) (M : List Wh) (w : World) (hb : Ws w a n c M) (h0 : 0 < n) (hn : n ≤ 1000000) (hne : ∀ x ∈ M, x.1.2 ≠ []) :
    Calls Try.prog 35 #[.slice a n c, .func (.func 38) #[] #[]] w fun e w' => ∃ s : List UInt8, e = .returned (.string ⟨s.toArray⟩) ∧ (∃ h : 0 < (ws M).length, s = (minW ltEldest (ws M)[0] ((ws M).drop 1)).1) ∧ Ext w w' := by
  have hm := Lib.hid (min_eldest a n c M w hb h0 hn hne)
  go_enter Try.func35, Try.ntmps35
  go_wp2_with fail
  refine hm.out.mono ?_
  rintro e w1 ⟨x, rfl, ⟨hW0, hx⟩, hx1⟩
  have hfd : (Instr.field 59 (.agg #[.string ⟨x.1.1.toArray⟩, .slice x.2.1 x.2.2.1 x.2.2.2]) 0).run Try.prog w1 = .ok (.string ⟨x.1.1.toArray⟩) w1 := by kernel_rfl
  have hxh := Lib.hid hx
  clear hx
  go_wp2_with fail
  go_ret
  exact ⟨x.1.1, rfl, ⟨hW0, by rw [← hxh.out]⟩, hx1⟩

end Go.Proofs.Ytcbjadmngkednaa

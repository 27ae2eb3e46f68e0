/-
  The walk of CacheAdds: a sample is added to any cache as the document says.
-/
import Derived.Test.YtcbjadmngkednaaLaw20c
import Derived.Test.YtcbjadmngkednaaCacheRaddK
namespace Go.Proofs.Ytcbjadmngkednaa
open Go.RowKit

theorem addC_max (c : Ca) (s : List UInt8) (time value now : Int) : (addC c s time value now).1.1.max = c.max := by
  unfold addC
  split
  · rfl
  · split
    · rfl
    · split <;> rfl
/-- What is right has few points, and short paths. -/
theorem crt_waits {m : Int} {R : Ca} {M : List Wh} (hm : R.max = m) (hw : ws M = R.waits) (h : crtC R = true) :
    crtC ⟨m, ws M, R.came, R.dropped⟩ = true ∧ cnt (ws M) ≤ 10000 ∧ ∀ x ∈ M, x.1.1.length ≤ 140737488355328 := by
  have e : (⟨m, ws M, R.came, R.dropped⟩ : Ca) = R := by subst hm; rw [hw]
  rw [e]
  obtain ⟨⟨a1, a2, a3, a4, a5, a6, a7, a8⟩, hg⟩ := (crtC_iff R).1 h
  refine ⟨h, by rw [hw]; omega, fun x hx => ?_⟩
  have h1 := (hg.named x.1 (by rw [← hw]; exact List.mem_map.2 ⟨x, hx, rfl⟩)).1
  unfold nmd at h1
  simp only [Bool.and_eq_true, decide_eq_true_eq] at h1
  omega

set_option maxRecDepth 100000 in
set_option maxHeartbeats 6400000 in
theorem adds_walk (m : Int) (a : Option Addr) (n c : Nat) (came dropped : Int) (M : List Wh) (s : List UInt8) (val tim now : Int) (w : World) (hb : Ws w a n c M) (hn : n ≤ 1152921504606846976) (hp : ∀ x ∈ M, x.2.2.1 ≤ 1152921504606846976) (hpaths : ∀ x ∈ M, x.1.1.length ≤ 140737488355328) (hs : s.length ≤ 140737488355328) :
    Calls Try.prog 3 #[cav m a n c came dropped, .agg #[.string ⟨s.toArray⟩, .int .i64 val, .int .i64 tim], .int .i64 now] w fun e w' => e = .returned (.bool true) ∧ Ext w w' := by
  have hx : Ext w ((w.alloc (.cells #[.int .i64 m, .slice a n c, .int .i64 came, .int .i64 dropped] 24)).alloc (.cells #[.string ⟨s.toArray⟩, .int .i64 val, .int .i64 tim] 26)) := (Ext.alloc w _).trans (Ext.alloc _ _)
  have hgr := Lib.hid (fun W (h : Ext w W) => great_calls m a n c came dropped M W (hb.ext h) hn hp)
  have hcwh := Lib.hid (fun (hg : ¬ 1000 < n + cnt (ws M)) => Cw.of_great hb hg hpaths)
  have hbh := Lib.hid hb
  clear hb hn hp hpaths
  by_cases hg : 1000 < n + cnt (ws M)
  · rw [decide_eq_true hg] at hgr
    unfold cav at *
    go_enter Try.func3, Try.ntmps3
    go_wp2_with fail
    refine (alive20_calls _).mono ?_
    rintro e w1 ⟨rfl, hx1⟩
    obtain ⟨hbox, _⟩ := two_blocks hx1
    obtain ⟨⟨y0, y1, y2, y3⟩, _⟩ := cells_four hbox
    have hX := hx.trans hx1
    go_wp2_with fail
    refine (hgr.out _ hX).mono ?_
    rintro e w2 ⟨rfl, hx2⟩
    go_wp2_with fail
    go_ret
    exact ⟨rfl, hX.trans hx2⟩
  · rw [decide_eq_false hg] at hgr
    have hcw := hcwh.out hg
    have hcp := Lib.hid (fun W (h : Ext w W) => rcopy_calls m a n c came dropped M W (hcw.rd.ext h) (by have := hcw.len; omega) (by have := hcw.tot; omega))
    have hcwhh := Lib.hid hcw
    clear hg hcwh hcw
    unfold cav at *
    go_enter Try.func3, Try.ntmps3
    go_wp2_with fail
    refine (alive20_calls _).mono ?_
    rintro e w1 ⟨rfl, hx1⟩
    obtain ⟨hbox, hpk⟩ := two_blocks hx1
    obtain ⟨⟨y0, y1, y2, y3⟩, _⟩ := cells_four hbox
    have hX := hx.trans hx1
    go_wp2_with fail
    refine (hgr.out _ hX).mono ?_
    rintro e w2 ⟨rfl, hx2⟩
    replace hbox := (hx2.block _ (lt_of_block hbox)).trans hbox
    replace hpk := (hx2.block _ (lt_of_block hpk)).trans hpk
    have hX2 := hX.trans hx2
    clear y0 y1 y2 y3
    obtain ⟨⟨y0, y1, y2, y3⟩, _⟩ := cells_four hbox
    go_wp2_with fail
    refine (hcp.out _ hX2).mono ?_
    rintro e w3 ⟨a3, c3, M3, rfl, hm3, hor3, hwo3, hx3⟩
    replace hbox := (hx3.block _ (lt_of_block hbox)).trans hbox
    replace hpk := (hx3.block _ (lt_of_block hpk)).trans hpk
    have hX3 := hX2.trans hx3
    have hws3 := hwo3.ws hor3
    have hm3h := Lib.hid hm3
    clear hor3 hwo3
    have hcw3 : Cw w3 a3 n c3 M3 := ⟨hws3, hcwhh.out.len, by rw [hm3]; exact hcwhh.out.tot, fun x hx => by
      have h1 : x.1 ∈ ws M := by rw [← hm3]; exact List.mem_map.2 ⟨x, hx, rfl⟩
      obtain ⟨y, hy, e⟩ := List.mem_map.1 h1
      rw [← e]
      exact hcwhh.out.paths y hy⟩
    clear hm3 hws3
    obtain ⟨B3, hB3⟩ : ∃ B3, w3.heap.size = B3 := ⟨_, rfl⟩
    obtain ⟨W3, hW3⟩ : ∃ W3, w3.alloc (.cells #[.int .i64 m, .slice a3 n c3, .int .i64 came, .int .i64 dropped] 24) = W3 := ⟨_, rfl⟩
    have hxW3 : Ext w3 W3 := by rw [← hW3]; exact Ext.alloc _ _
    have hbo : W3.heap[B3]? = some (.cells #[.int .i64 m, .slice a3 n c3, .int .i64 came, .int .i64 dropped] 24 (0, 0)) := by rw [← hW3, ← hB3]; exact heap_alloc_new _ _
    replace hbox := (hxW3.block _ (lt_of_block hbox)).trans hbox
    replace hpk := (hxW3.block _ (lt_of_block hpk)).trans hpk
    have hX3' := hX3.trans hxW3
    have had := Lib.hid (fun W (h : Ext W3 W) => add_calls m a3 n c3 came dropped M3 s val tim now W ((hcw3.ext hxW3).ext h) hs)
    have hrad := Lib.hid (fun W (h : Ext w W) => radd_calls m a n c came dropped M s val tim now W (hcwhh.out.ext h) hs)
    have hri := Lib.hid (fun W (h : Ext W3 W) => ((hcw3.ext hxW3).ext h).right (m := m) (came := came) (dropped := dropped))
    have hrri := Lib.hid (fun W (h : Ext w W) => (hcwhh.out.ext h).rright (m := m) (came := came) (dropped := dropped))
    have hsoc := Lib.hid (fun W (h : Ext W3 W) => casame_calls m a3 n c3 came dropped M3 m a n c came dropped M W ((hcw3.ext hxW3).rd.ext h) (hbh.out.ext (hX3'.trans h)))
    rw [hm3h.out] at had hri
    rw [show decide ((⟨m, ws M3, came, dropped⟩ : Ca) = ⟨m, ws M, came, dropped⟩) = true by rw [decide_eq_true_eq, hm3h.out]] at hsoc
    have hRr := addC_right ⟨m, ws M, came, dropped⟩ s tim val now
    obtain ⟨R, hR⟩ : ∃ R, addC ⟨m, ws M, came, dropped⟩ s tim val now = R := ⟨_, rfl⟩
    have hmx := Lib.hid (addC_max ⟨m, ws M, came, dropped⟩ s tim val now)
    rw [hR] at had hrad hRr hmx
    have hRrh := Lib.hid hRr
    unfold AddPost at had
    unfold RaddPost at hrad
    unfold cav at *
    clear hR hRr hcw3 hx1 hx2 hx3 hx
    obtain ⟨⟨y0', y1', y2', y3'⟩, _⟩ := cells_four hbo
    obtain ⟨p0, p1, p2⟩ := cells_three hpk
    go_wp2_with fail
    clear hW3 hB3 y0 y1 y2 y3 y0' y1' y2' y3' p0 p1 p2
    refine (had.out _ (Ext.refl _)).mono ?_
    rintro e w4 ⟨a4, n4, c4, M4, rfl, hw4, hm4, _, hx4⟩
    replace hbox := (hx4.block _ (lt_of_block hbox)).trans hbox
    replace hpk := (hx4.block _ (lt_of_block hpk)).trans hpk
    replace hbo := (hx4.block _ (lt_of_block hbo)).trans hbo
    have hX4 := hX3'.trans hx4
    have hm4h := Lib.hid hm4
    have hw4h := Lib.hid hw4
    clear hm4 hw4
    obtain ⟨B4, hB4⟩ : ∃ B4, w4.heap.size = B4 := ⟨_, rfl⟩
    obtain ⟨W4, hW4⟩ : ∃ W4, w4.alloc (.cells #[.int .i64 m, .slice a4 n4 c4, .int .i64 R.1.1.came, .int .i64 R.1.1.dropped] 24) = W4 := ⟨_, rfl⟩
    have hxW4 : Ext w4 W4 := by rw [← hW4]; exact Ext.alloc _ _
    have hba : W4.heap[B4]? = some (.cells #[.int .i64 m, .slice a4 n4 c4, .int .i64 R.1.1.came, .int .i64 R.1.1.dropped] 24 (0, 0)) := by rw [← hW4, ← hB4]; exact heap_alloc_new _ _
    replace hbox := (hxW4.block _ (lt_of_block hbox)).trans hbox
    replace hpk := (hxW4.block _ (lt_of_block hpk)).trans hpk
    replace hbo := (hxW4.block _ (lt_of_block hbo)).trans hbo
    have hX4' := hX4.trans hxW4
    obtain ⟨⟨y0, y1, y2, y3⟩, _⟩ := cells_four hbox
    obtain ⟨p0, p1, p2⟩ := cells_three hpk
    go_wp2_with fail
    clear hW4 hB4 y0 y1 y2 y3 p0 p1 p2
    refine (hrad.out _ hX4').mono ?_
    rintro e w5 ⟨a5, n5, c5, M5, rfl, hw5, hm5, hx5⟩
    replace hbox := (hx5.block _ (lt_of_block hbox)).trans hbox
    replace hpk := (hx5.block _ (lt_of_block hpk)).trans hpk
    replace hbo := (hx5.block _ (lt_of_block hbo)).trans hbo
    replace hba := (hx5.block _ (lt_of_block hba)).trans hba
    have hX5 := hX4'.trans hx5
    have hm5h := Lib.hid hm5
    have hw5h := Lib.hid hw5
    clear hm5 hw5
    obtain ⟨B5, hB5⟩ : ∃ B5, w5.heap.size = B5 := ⟨_, rfl⟩
    obtain ⟨WZ, hWZ⟩ : ∃ WZ, w5.alloc (.cells #[.int .i64 m, .slice a5 n5 c5, .int .i64 R.1.1.came, .int .i64 R.1.1.dropped] 24) = WZ := ⟨_, rfl⟩
    have hxWZ : Ext w5 WZ := by rw [← hWZ]; exact Ext.alloc _ _
    have hbb : WZ.heap[B5]? = some (.cells #[.int .i64 m, .slice a5 n5 c5, .int .i64 R.1.1.came, .int .i64 R.1.1.dropped] 24 (0, 0)) := by rw [← hWZ, ← hB5]; exact heap_alloc_new _ _
    replace hbox := (hxWZ.block _ (lt_of_block hbox)).trans hbox
    replace hpk := (hxWZ.block _ (lt_of_block hpk)).trans hpk
    replace hbo := (hxWZ.block _ (lt_of_block hbo)).trans hbo
    replace hba := (hxWZ.block _ (lt_of_block hba)).trans hba
    have hX5' := hX5.trans hxWZ
    have hT : Ext W3 WZ := hx4.trans (hxW4.trans (hx5.trans hxWZ))
    have hTa : Ext w4 WZ := hxW4.trans (hx5.trans hxWZ)
    obtain ⟨r, hr⟩ : ∃ r, crtC ⟨m, ws M, came, dropped⟩ = r := ⟨_, rfl⟩
    rw [hr] at hri hrri
    clear hr
    go_upto_region 8 with fail
    obtain ⟨X, iX, f, hxS0, hSx0⟩ := letters (fun w' => Ext WZ w') WZ (Ext.refl WZ)
    have hxS := Lib.hid hxS0
    have hSx := Lib.hid hSx0
    clear hxS0 hSx0
    have u0 : ∀ x', (f x').cell? ⟨w.heap.size, 0, none⟩ = some (.int .i64 m) := fun x' => (hxS.out x').cell (cells_four hbox).1.1
    have u1 : ∀ x', (f x').cell? ⟨w.heap.size, 1, none⟩ = some (.slice a n c) := fun x' => (hxS.out x').cell (cells_four hbox).1.2.1
    have u2 : ∀ x', (f x').cell? ⟨w.heap.size, 2, none⟩ = some (.int .i64 came) := fun x' => (hxS.out x').cell (cells_four hbox).1.2.2.1
    have u3 : ∀ x', (f x').cell? ⟨w.heap.size, 3, none⟩ = some (.int .i64 dropped) := fun x' => (hxS.out x').cell (cells_four hbox).1.2.2.2
    have v0 : ∀ x', (f x').cell? ⟨B3, 0, none⟩ = some (.int .i64 m) := fun x' => (hxS.out x').cell (cells_four hbo).1.1
    have v1 : ∀ x', (f x').cell? ⟨B3, 1, none⟩ = some (.slice a3 n c3) := fun x' => (hxS.out x').cell (cells_four hbo).1.2.1
    have v2 : ∀ x', (f x').cell? ⟨B3, 2, none⟩ = some (.int .i64 came) := fun x' => (hxS.out x').cell (cells_four hbo).1.2.2.1
    have v3 : ∀ x', (f x').cell? ⟨B3, 3, none⟩ = some (.int .i64 dropped) := fun x' => (hxS.out x').cell (cells_four hbo).1.2.2.2
    have s0 : ∀ x', (f x').cell? ⟨B4, 0, none⟩ = some (.int .i64 m) := fun x' => (hxS.out x').cell (cells_four hba).1.1
    have s1 : ∀ x', (f x').cell? ⟨B4, 1, none⟩ = some (.slice a4 n4 c4) := fun x' => (hxS.out x').cell (cells_four hba).1.2.1
    have s2 : ∀ x', (f x').cell? ⟨B4, 2, none⟩ = some (.int .i64 R.1.1.came) := fun x' => (hxS.out x').cell (cells_four hba).1.2.2.1
    have s3 : ∀ x', (f x').cell? ⟨B4, 3, none⟩ = some (.int .i64 R.1.1.dropped) := fun x' => (hxS.out x').cell (cells_four hba).1.2.2.2
    have t0 : ∀ x', (f x').cell? ⟨B5, 0, none⟩ = some (.int .i64 m) := fun x' => (hxS.out x').cell (cells_four hbb).1.1
    have t1 : ∀ x', (f x').cell? ⟨B5, 1, none⟩ = some (.slice a5 n5 c5) := fun x' => (hxS.out x').cell (cells_four hbb).1.2.1
    have t2 : ∀ x', (f x').cell? ⟨B5, 2, none⟩ = some (.int .i64 R.1.1.came) := fun x' => (hxS.out x').cell (cells_four hbb).1.2.2.1
    have t3 : ∀ x', (f x').cell? ⟨B5, 3, none⟩ = some (.int .i64 R.1.1.dropped) := fun x' => (hxS.out x').cell (cells_four hbb).1.2.2.2
    have hk1 : Hid (∀ W, Ext WZ W → Calls Try.prog 13 #[.agg #[.int .i64 m, .slice a4 n4 c4, .int .i64 R.1.1.came, .int .i64 R.1.1.dropped], .agg #[.int .i64 m, .slice a5 n5 c5, .int .i64 R.1.1.came, .int .i64 R.1.1.dropped]] W fun e w'' => e = .returned (.bool true) ∧ Ext W w'') := fun W hW => by
      have h1 := casame_calls m a4 n4 c4 R.1.1.came R.1.1.dropped M4 m a5 n5 c5 R.1.1.came R.1.1.dropped M5 W (hw4h.out.ext (hTa.trans hW)) (hw5h.out.ext (hxWZ.trans hW))
      rw [show decide ((⟨m, ws M4, R.1.1.came, R.1.1.dropped⟩ : Ca) = ⟨m, ws M5, R.1.1.came, R.1.1.dropped⟩) = true by rw [decide_eq_true_eq, hm4h.out, hm5h.out]] at h1
      exact h1
    have hk2 : Hid (∀ W, Ext WZ W → Calls Try.prog 13 #[.agg #[.int .i64 m, .slice a3 n c3, .int .i64 came, .int .i64 dropped], .agg #[.int .i64 m, .slice a n c, .int .i64 came, .int .i64 dropped]] W fun e w'' => e = .returned (.bool true) ∧ Ext W w'') := fun W hW => hsoc.out W (hT.trans hW)
    have hk3 : Hid (∀ W, Ext WZ W → Calls Try.prog 14 #[.agg #[.int .i64 m, .slice a3 n c3, .int .i64 came, .int .i64 dropped]] W fun e w'' => e = .returned (.bool r) ∧ Ext W w'') := fun W hW => hri.out W (hT.trans hW)
    have hk4 : Hid (∀ W, Ext WZ W → Calls Try.prog 15 #[.agg #[.int .i64 m, .slice a n c, .int .i64 came, .int .i64 dropped]] W fun e w'' => e = .returned (.bool r) ∧ Ext W w'') := fun W hW => hrri.out W (hX5'.trans hW)
    have ee1 : (R.1.2 == R.1.2) = true := by simp
    have ee2 : (R.2 == R.2) = true := by simp
    have ee3 : (r == r) = true := by simp
    have hX9 := hX5'
    by_cases h0 : R.2 = 0
    · have hcr := crt_waits (hmx.out) hm4h.out (hRrh.out h0)
      have hk5 : Hid (∀ W, Ext WZ W → Calls Try.prog 14 #[.agg #[.int .i64 m, .slice a4 n4 c4, .int .i64 R.1.1.came, .int .i64 R.1.1.dropped]] W fun e w'' => e = .returned (.bool true) ∧ Ext W w'') := fun W hW => by
        have h1 := cright_calls m a4 n4 c4 R.1.1.came R.1.1.dropped M4 W (hw4h.out.ext (hTa.trans hW)) hcr.2.1 hcr.2.2
        rw [hcr.1] at h1
        exact h1
      have e0 : (R.2 == 0) = true := by simp [h0]
      have e1 : (R.2 != 0) = false := by simp [h0]
      clear hcr
      refine region_plan 33 [.quiet [0, 1], .act 2, .quiet [3, 4, 5, 6, 7, 8, 9, 10, 11, 12, 13, 14, 15], .act 16, .quiet [17, 18, 19, 21], .act 20, .act 22, .quiet [23, 24, 25, 26, 27, 28, 29], .act 30, .quiet [31, 32]] (fun w' => ∃ x' : X, w' = f x') (by kernel_rfl) (by kernel_rfl) (hSx.out _ (Ext.drewN WZ 1)) ?_
      intro Q1 hQ1
      refine plan_quiet ?_
      simp only [sel, List.getElem?_toArray, List.getElem?_cons_zero, List.getElem?_cons_succ]
      repeat (go_big_quiet_step (fail))
      refine wpQuiet_nil ?_
      refine plan_act ?_
      intro Q2 hQ2
      simp only [sel, List.getElem?_toArray, List.getElem?_cons_zero, List.getElem?_cons_succ]
      go_wp2_with fail
      refine (hk1.out _ (Ext.drewN WZ 1)).mono ?_
      rintro e z1 ⟨rfl, hz1⟩
      have hZ1 := ((Ext.drewN WZ 1)).trans hz1
      go_wp2_with fail
      refine hQ2 _ _ (hSx.out _ hZ1) ?_
      refine plan_quiet ?_
      simp only [sel, List.getElem?_toArray, List.getElem?_cons_zero, List.getElem?_cons_succ]
      repeat (go_big_quiet_step (fail))
      refine wpQuiet_nil ?_
      refine plan_act ?_
      intro Q3 hQ3
      simp only [sel, List.getElem?_toArray, List.getElem?_cons_zero, List.getElem?_cons_succ]
      go_wp2_with fail
      refine (hk2.out _ hZ1).mono ?_
      rintro e z2 ⟨rfl, hz2⟩
      have hZ2 := (hZ1).trans hz2
      go_wp2_with fail
      refine hQ3 _ _ (hSx.out _ hZ2) ?_
      refine plan_quiet ?_
      simp only [sel, List.getElem?_toArray, List.getElem?_cons_zero, List.getElem?_cons_succ]
      repeat (go_big_quiet_step (fail))
      refine wpQuiet_nil ?_
      refine plan_act ?_
      intro Q4 hQ4
      simp only [sel, List.getElem?_toArray, List.getElem?_cons_zero, List.getElem?_cons_succ]
      go_wp2_with fail
      refine (hk3.out _ hZ2).mono ?_
      rintro e z3 ⟨rfl, hz3⟩
      have hZ3 := (hZ2).trans hz3
      go_wp2_with fail
      refine hQ4 _ _ (hSx.out _ hZ3) ?_
      refine plan_act ?_
      intro Q5 hQ5
      simp only [sel, List.getElem?_toArray, List.getElem?_cons_zero, List.getElem?_cons_succ]
      go_wp2_with fail
      refine (hk4.out _ hZ3).mono ?_
      rintro e z4 ⟨rfl, hz4⟩
      have hZ4 := (hZ3).trans hz4
      go_wp2_with fail
      refine hQ5 _ _ (hSx.out _ hZ4) ?_
      refine plan_quiet ?_
      simp only [sel, List.getElem?_toArray, List.getElem?_cons_zero, List.getElem?_cons_succ]
      repeat (go_big_quiet_step (fail))
      refine wpQuiet_nil ?_
      refine plan_act ?_
      intro Q6 hQ6
      simp only [sel, List.getElem?_toArray, List.getElem?_cons_zero, List.getElem?_cons_succ]
      go_wp2_with fail
      refine (hk5.out _ hZ4).mono ?_
      rintro e z5 ⟨rfl, hz5⟩
      have hZ5 := (hZ4).trans hz5
      go_wp2_with fail
      refine hQ6 _ _ (hSx.out _ hZ5) ?_
      refine plan_quiet ?_
      simp only [sel, List.getElem?_toArray, List.getElem?_cons_zero, List.getElem?_cons_succ]
      repeat (go_big_quiet_step (fail))
      refine wpQuiet_nil ?_
      refine plan_tail ?_
      simp only [List.drop_succ_cons, List.drop_zero]
      go_wp2_with fail
      go_ret
      exact ⟨rfl, hX9.trans hZ5⟩
    · have e0 : (R.2 == 0) = false := by simp [h0]
      have e1 : (R.2 != 0) = true := by simp [h0]
      refine region_plan 33 [.quiet [0, 1], .act 2, .quiet [3, 4, 5, 6, 7, 8, 9, 10, 11, 12, 13, 14, 15], .act 16, .quiet [17, 18, 19, 21], .act 20, .act 22, .quiet [23, 24, 25, 26, 27, 28, 29], .act 30, .quiet [31, 32]] (fun w' => ∃ x' : X, w' = f x') (by kernel_rfl) (by kernel_rfl) (hSx.out _ (Ext.drewN WZ 1)) ?_
      intro Q1 hQ1
      refine plan_quiet ?_
      simp only [sel, List.getElem?_toArray, List.getElem?_cons_zero, List.getElem?_cons_succ]
      repeat (go_big_quiet_step (fail))
      refine wpQuiet_nil ?_
      refine plan_act ?_
      intro Q2 hQ2
      simp only [sel, List.getElem?_toArray, List.getElem?_cons_zero, List.getElem?_cons_succ]
      go_wp2_with fail
      refine (hk1.out _ (Ext.drewN WZ 1)).mono ?_
      rintro e z1 ⟨rfl, hz1⟩
      have hZ1 := ((Ext.drewN WZ 1)).trans hz1
      go_wp2_with fail
      refine hQ2 _ _ (hSx.out _ hZ1) ?_
      refine plan_quiet ?_
      simp only [sel, List.getElem?_toArray, List.getElem?_cons_zero, List.getElem?_cons_succ]
      repeat (go_big_quiet_step (fail))
      refine wpQuiet_nil ?_
      refine plan_act ?_
      intro Q3 hQ3
      simp only [sel, List.getElem?_toArray, List.getElem?_cons_zero, List.getElem?_cons_succ]
      go_wp2_with fail
      refine (hk2.out _ hZ1).mono ?_
      rintro e z2 ⟨rfl, hz2⟩
      have hZ2 := (hZ1).trans hz2
      go_wp2_with fail
      refine hQ3 _ _ (hSx.out _ hZ2) ?_
      refine plan_quiet ?_
      simp only [sel, List.getElem?_toArray, List.getElem?_cons_zero, List.getElem?_cons_succ]
      repeat (go_big_quiet_step (fail))
      refine wpQuiet_nil ?_
      refine plan_act ?_
      intro Q4 hQ4
      simp only [sel, List.getElem?_toArray, List.getElem?_cons_zero, List.getElem?_cons_succ]
      go_wp2_with fail
      refine (hk3.out _ hZ2).mono ?_
      rintro e z3 ⟨rfl, hz3⟩
      have hZ3 := (hZ2).trans hz3
      go_wp2_with fail
      refine hQ4 _ _ (hSx.out _ hZ3) ?_
      refine plan_act ?_
      intro Q5 hQ5
      simp only [sel, List.getElem?_toArray, List.getElem?_cons_zero, List.getElem?_cons_succ]
      go_wp2_with fail
      refine (hk4.out _ hZ3).mono ?_
      rintro e z4 ⟨rfl, hz4⟩
      have hZ4 := (hZ3).trans hz4
      go_wp2_with fail
      refine hQ5 _ _ (hSx.out _ hZ4) ?_
      refine plan_quiet ?_
      simp only [sel, List.getElem?_toArray, List.getElem?_cons_zero, List.getElem?_cons_succ]
      repeat (go_big_quiet_step (fail))
      refine wpQuiet_nil ?_
      refine plan_act ?_
      intro Q6 hQ6
      simp only [sel, List.getElem?_toArray, List.getElem?_cons_zero, List.getElem?_cons_succ]
      go_wp2_with fail
      refine hQ6 _ _ (hSx.out _ hZ4) ?_
      refine plan_quiet ?_
      simp only [sel, List.getElem?_toArray, List.getElem?_cons_zero, List.getElem?_cons_succ]
      repeat (go_big_quiet_step (fail))
      refine wpQuiet_nil ?_
      refine plan_tail ?_
      simp only [List.drop_succ_cons, List.drop_zero]
      go_wp2_with fail
      go_ret
      exact ⟨rfl, hX9.trans hZ4⟩
end Go.Proofs.Ytcbjadmngkednaa

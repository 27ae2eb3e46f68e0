/-
  The walk of CacheTakes: points are chosen, told and taken of any cache as the document says.
-/
import Derived.Test.YtcbjadmngkednaaLaw20c
import Derived.Test.YtcbjadmngkednaaCacheRtake
import Derived.Test.YtcbjadmngkednaaCacheRchoose
namespace Go.Proofs.Ytcbjadmngkednaa
open Go.RowKit

set_option maxRecDepth 100000 in
set_option maxHeartbeats 6400000 in
theorem takes_walk (m : Int) (a : Option Addr) (n c : Nat) (came dropped : Int) (M : List Wh) (s : List UInt8) (pol num : Int) (w : World) (hb : Ws w a n c M) (hn : n ≤ 1152921504606846976) (hp : ∀ x ∈ M, x.2.2.1 ≤ 1152921504606846976) (hpaths : ∀ x ∈ M, x.1.1.length ≤ 140737488355328) :
    Calls Try.prog 6 #[cav m a n c came dropped, .string ⟨s.toArray⟩, .agg #[.int .i64 pol, .int .i64 num]] w fun e w' => e = .returned (.bool true) ∧ Ext w w' := by
  have hx : Ext w ((w.alloc (.cells #[.int .i64 m, .slice a n c, .int .i64 came, .int .i64 dropped] 24)).alloc (.cells #[.int .i64 pol, .int .i64 num] 53)) := (Ext.alloc w _).trans (Ext.alloc _ _)
  have hgr := Lib.hid (fun W (h : Ext w W) => great_calls m a n c came dropped M W (hb.ext h) hn hp)
  have hcwh := Lib.hid (fun (hg : ¬ 1000 < n + cnt (ws M)) => Cw.of_great hb hg hpaths)
  have hbh := Lib.hid hb
  clear hb hn hp hpaths
  by_cases hg : 1000 < n + cnt (ws M)
  · rw [decide_eq_true hg] at hgr
    unfold cav at *
    go_enter Try.func6, Try.ntmps6
    go_wp2_with fail
    refine (alive20_calls _).mono ?_
    rintro e w1 ⟨rfl, hx1⟩
    obtain ⟨hbox, _⟩ := two_blocks hx1
    obtain ⟨⟨y0, y1, y2, y3⟩, _⟩ := cells_four hbox
    have hX := hx.trans hx1
    go_wp2_with fail
    refine (hgr.out _ hX).mono ?_
    rintro e w2 ⟨rfl, hx2⟩
    go_wp2_with fail
    go_ret
    exact ⟨rfl, hX.trans hx2⟩
  · rw [decide_eq_false hg] at hgr
    have hcw := hcwh.out hg
    have hcp := Lib.hid (fun W (h : Ext w W) => rcopy_calls m a n c came dropped M W (hcw.rd.ext h) (by have := hcw.len; omega) (by have := hcw.tot; omega))
    have hcwhh := Lib.hid hcw
    clear hg hcwh hcw
    unfold cav at *
    go_enter Try.func6, Try.ntmps6
    go_wp2_with fail
    refine (alive20_calls _).mono ?_
    rintro e w1 ⟨rfl, hx1⟩
    obtain ⟨hbox, hpk⟩ := two_blocks hx1
    obtain ⟨⟨y0, y1, y2, y3⟩, _⟩ := cells_four hbox
    have hX := hx.trans hx1
    go_wp2_with fail
    refine (hgr.out _ hX).mono ?_
    rintro e w2 ⟨rfl, hx2⟩
    replace hbox := (hx2.block _ (lt_of_block hbox)).trans hbox
    replace hpk := (hx2.block _ (lt_of_block hpk)).trans hpk
    have hX2 := hX.trans hx2
    clear y0 y1 y2 y3
    obtain ⟨⟨y0, y1, y2, y3⟩, _⟩ := cells_four hbox
    go_wp2_with fail
    refine (hcp.out _ hX2).mono ?_
    rintro e w3 ⟨a3, c3, M3, rfl, hm3, hor3, hwo3, hx3⟩
    replace hbox := (hx3.block _ (lt_of_block hbox)).trans hbox
    replace hpk := (hx3.block _ (lt_of_block hpk)).trans hpk
    have hX3 := hX2.trans hx3
    have hws3 := hwo3.ws hor3
    have hm3h := Lib.hid hm3
    clear hor3 hwo3
    have hcw3 : Cw w3 a3 n c3 M3 := ⟨hws3, hcwhh.out.len, by rw [hm3]; exact hcwhh.out.tot, fun x hx => by
      have h1 : x.1 ∈ ws M := by rw [← hm3]; exact List.mem_map.2 ⟨x, hx, rfl⟩
      obtain ⟨y, hy, e⟩ := List.mem_map.1 h1
      rw [← e]
      exact hcwhh.out.paths y hy⟩
    clear hm3 hws3
    obtain ⟨B3, hB3⟩ : ∃ B3, w3.heap.size = B3 := ⟨_, rfl⟩
    obtain ⟨W3, hW3⟩ : ∃ W3, w3.alloc (.cells #[.int .i64 m, .slice a3 n c3, .int .i64 came, .int .i64 dropped] 24) = W3 := ⟨_, rfl⟩
    have hxW3 : Ext w3 W3 := by rw [← hW3]; exact Ext.alloc _ _
    have hbo : W3.heap[B3]? = some (.cells #[.int .i64 m, .slice a3 n c3, .int .i64 came, .int .i64 dropped] 24 (0, 0)) := by rw [← hW3, ← hB3]; exact heap_alloc_new _ _
    replace hbox := (hxW3.block _ (lt_of_block hbox)).trans hbox
    replace hpk := (hxW3.block _ (lt_of_block hpk)).trans hpk
    have hX3' := hX3.trans hxW3
    have htk := Lib.hid (fun W (h : Ext W3 W) => take_calls m a3 n c3 came dropped M3 s W ((hcw3.ext hxW3).ext h))
    have hch := Lib.hid (fun W (h : Ext W3 W) => choose_calls m a3 n c3 came dropped M3 pol num W ((hcw3.ext hxW3).ext h))
    have hrtk := Lib.hid (fun W (h : Ext w W) => rtake_calls m a n c came dropped M s W (hcwhh.out.ext h))
    have hrch := Lib.hid (fun W (h : Ext w W) => rchoose_calls m a n c came dropped M pol num W (hcwhh.out.ext h))
    have hof := Lib.hid (fun W (h : Ext W3 W) => of_calls m a3 n c3 came dropped M3 s W ((hcw3.ext hxW3).ext h))
    have hrof := Lib.hid (fun W (h : Ext w W) => rof_calls m a n c came dropped M s W (hcwhh.out.ext h))
    have hcnt := Lib.hid (fun W (h : Ext W3 W) => count_calls m a3 n c3 came dropped M3 W ((hcw3.ext hxW3).ext h))
    have hrr := Lib.hid (fun W (h : Ext w W) => (hcwhh.out.ext h).rright (m := m) (came := came) (dropped := dropped))
    have hrct := Lib.hid (fun W (h : Ext w W) => rcount_calls m a n c came dropped M W (hcwhh.out.rd.ext h) (by have := hcwhh.out.tot; omega))
    have hsoc := Lib.hid (fun W (h : Ext W3 W) => casame_calls m a3 n c3 came dropped M3 m a n c came dropped M W ((hcw3.ext hxW3).rd.ext h) (hbh.out.ext (hX3'.trans h)))
    rw [hm3h.out] at htk hch hof hcnt
    rw [show decide ((⟨m, ws M3, came, dropped⟩ : Ca) = ⟨m, ws M, came, dropped⟩) = true by rw [decide_eq_true_eq, hm3h.out]] at hsoc
    obtain ⟨R, hR⟩ : ∃ R, takeC ⟨m, ws M, came, dropped⟩ s = R := ⟨_, rfl⟩
    obtain ⟨R2, hR2⟩ : ∃ R2, chooseC ⟨m, ws M, came, dropped⟩ pol num = R2 := ⟨_, rfl⟩
    obtain ⟨OL, hOL⟩ : ∃ OL, ofC ⟨m, ws M, came, dropped⟩ s = OL := ⟨_, rfl⟩
    rw [hR] at htk hrtk
    rw [hR2] at hch hrch
    rw [hOL] at hof hrof
    unfold ChoosePost at hch hrch
    unfold cav at *
    clear hR hR2 hOL hcw3 hx1 hx2 hx3 hx
    obtain ⟨⟨y0', y1', y2', y3'⟩, _⟩ := cells_four hbo
    go_wp2_with fail
    clear hW3 hB3 y0 y1 y2 y3 y0' y1' y2' y3'
    refine (htk.out _ (Ext.refl _)).mono ?_
    rintro e w4 ⟨a4, n4, c4, M4, pa, pn, pc, rfl, hw4, hm4, hpt4, _, hx4⟩
    replace hbox := (hx4.block _ (lt_of_block hbox)).trans hbox
    replace hpk := (hx4.block _ (lt_of_block hpk)).trans hpk
    replace hbo := (hx4.block _ (lt_of_block hbo)).trans hbo
    have hX4 := hX3'.trans hx4
    have hm4h := Lib.hid hm4
    have hpt4h := Lib.hid hpt4
    have hw4h := Lib.hid hw4
    clear hm4 hpt4 hw4
    obtain ⟨B4, hB4⟩ : ∃ B4, w4.heap.size = B4 := ⟨_, rfl⟩
    obtain ⟨W4, hW4⟩ : ∃ W4, w4.alloc (.cells #[.int .i64 m, .slice a4 n4 c4, .int .i64 came, .int .i64 dropped] 24) = W4 := ⟨_, rfl⟩
    have hxW4 : Ext w4 W4 := by rw [← hW4]; exact Ext.alloc _ _
    have hba : W4.heap[B4]? = some (.cells #[.int .i64 m, .slice a4 n4 c4, .int .i64 came, .int .i64 dropped] 24 (0, 0)) := by rw [← hW4, ← hB4]; exact heap_alloc_new _ _
    replace hbox := (hxW4.block _ (lt_of_block hbox)).trans hbox
    replace hpk := (hxW4.block _ (lt_of_block hpk)).trans hpk
    replace hbo := (hxW4.block _ (lt_of_block hbo)).trans hbo
    have hX4' := hX4.trans hxW4
    obtain ⟨⟨y0, y1, y2, y3⟩, _⟩ := cells_four hbox
    go_wp2_with fail
    clear hW4 hB4 y0 y1 y2 y3
    refine (hrtk.out _ hX4').mono ?_
    rintro e w5 ⟨a5, n5, c5, M5, qa, qn, qc, rfl, hw5, hm5, hpt5, hx5⟩
    replace hbox := (hx5.block _ (lt_of_block hbox)).trans hbox
    replace hpk := (hx5.block _ (lt_of_block hpk)).trans hpk
    replace hbo := (hx5.block _ (lt_of_block hbo)).trans hbo
    replace hba := (hx5.block _ (lt_of_block hba)).trans hba
    have hX5 := hX4'.trans hx5
    have hm5h := Lib.hid hm5
    have hpt5h := Lib.hid hpt5
    have hw5h := Lib.hid hw5
    clear hm5 hpt5 hw5
    obtain ⟨B5, hB5⟩ : ∃ B5, w5.heap.size = B5 := ⟨_, rfl⟩
    obtain ⟨W5, hW5⟩ : ∃ W5, w5.alloc (.cells #[.int .i64 m, .slice a5 n5 c5, .int .i64 came, .int .i64 dropped] 24) = W5 := ⟨_, rfl⟩
    have hxW5 : Ext w5 W5 := by rw [← hW5]; exact Ext.alloc _ _
    have hbb : W5.heap[B5]? = some (.cells #[.int .i64 m, .slice a5 n5 c5, .int .i64 came, .int .i64 dropped] 24 (0, 0)) := by rw [← hW5, ← hB5]; exact heap_alloc_new _ _
    replace hbox := (hxW5.block _ (lt_of_block hbox)).trans hbox
    replace hpk := (hxW5.block _ (lt_of_block hpk)).trans hpk
    replace hbo := (hxW5.block _ (lt_of_block hbo)).trans hbo
    replace hba := (hxW5.block _ (lt_of_block hba)).trans hba
    have hX5' := hX5.trans hxW5
    obtain ⟨⟨y0, y1, y2, y3⟩, _⟩ := cells_four hbo
    obtain ⟨p0, p1⟩ := cells_two hpk
    go_wp2_with fail
    clear hW5 hB5 y0 y1 y2 y3 p0 p1
    refine (hch.out _ (hx4.trans (hxW4.trans (hx5.trans hxW5)))).mono ?_
    rintro e w6 ⟨rfl, hx6⟩
    replace hbox := (hx6.block _ (lt_of_block hbox)).trans hbox
    replace hpk := (hx6.block _ (lt_of_block hpk)).trans hpk
    replace hbo := (hx6.block _ (lt_of_block hbo)).trans hbo
    replace hba := (hx6.block _ (lt_of_block hba)).trans hba
    replace hbb := (hx6.block _ (lt_of_block hbb)).trans hbb
    have hX6 := hX5'.trans hx6
    obtain ⟨⟨y0, y1, y2, y3⟩, _⟩ := cells_four hbox
    obtain ⟨p0, p1⟩ := cells_two hpk
    go_wp2_with fail
    clear y0 y1 y2 y3 p0 p1
    refine (hrch.out _ hX6).mono ?_
    rintro e w7 ⟨rfl, hx7⟩
    replace hbox := (hx7.block _ (lt_of_block hbox)).trans hbox
    replace hpk := (hx7.block _ (lt_of_block hpk)).trans hpk
    replace hbo := (hx7.block _ (lt_of_block hbo)).trans hbo
    replace hba := (hx7.block _ (lt_of_block hba)).trans hba
    replace hbb := (hx7.block _ (lt_of_block hbb)).trans hbb
    have hX7 := hX6.trans hx7
    obtain ⟨⟨y0, y1, y2, y3⟩, _⟩ := cells_four hbox
    go_wp2_with fail
    clear y0 y1 y2 y3
    refine (hrr.out _ hX7).mono ?_
    rintro e w8 ⟨rfl, hx8⟩
    replace hbox := (hx8.block _ (lt_of_block hbox)).trans hbox
    replace hpk := (hx8.block _ (lt_of_block hpk)).trans hpk
    replace hbo := (hx8.block _ (lt_of_block hbo)).trans hbo
    replace hba := (hx8.block _ (lt_of_block hba)).trans hba
    replace hbb := (hx8.block _ (lt_of_block hbb)).trans hbb
    have hX8a := hX7.trans hx8
    have hT : Ext W3 w8 := hx4.trans (hxW4.trans (hx5.trans (hxW5.trans (hx6.trans (hx7.trans hx8)))))
    have hTa : Ext w4 w8 := hxW4.trans (hx5.trans (hxW5.trans (hx6.trans (hx7.trans hx8))))
    have hTb : Ext w5 w8 := hxW5.trans (hx6.trans (hx7.trans hx8))
    clear hx4 hx5 hx6 hx7 hx8 hX3' hX4 hX4' hX5 hX5' hX6 hX7 hxW3 hxW4 hxW5 htk hch hrtk hrch hrr hcp hgr hpk
    cases hcc : crtC ⟨m, ws M, came, dropped⟩ with
    | false =>
      rw [hcc, if_neg (by simp)] at hcnt
      obtain ⟨WZ, hWZ⟩ : ∃ WZ : World, w8 = WZ := ⟨_, rfl⟩
      rw [hWZ] at hT hTa hTb hX8a hbox hbo hba hbb ⊢
      have hX8 := hX8a
      have hsab := Lib.hid (fun W (h : Ext WZ W) => casame_calls m a4 n4 c4 came dropped M4 m a5 n5 c5 came dropped M5 W (hw4h.out.ext (hTa.trans h)) (hw5h.out.ext (hTb.trans h)))
      rw [show decide ((⟨m, ws M4, came, dropped⟩ : Ca) = ⟨m, ws M5, came, dropped⟩) = true by rw [decide_eq_true_eq, hm4h.out, hm5h.out]] at hsab
      have hspt := Lib.hid (fun W (h : Ext WZ W) => asame_calls pa pn pc R.1.2 qa qn qc R.1.2 W (hpt4h.out.ext (hTa.trans h)) (hpt5h.out.ext (hTb.trans h)))
      rw [show decide (R.1.2 = R.1.2) = true by simp] at hspt
      replace hof := Lib.hid (fun W (h : Ext WZ W) => hof.out W (hT.trans h))
      replace hrof := Lib.hid (fun W (h : Ext WZ W) => hrof.out W (hX8.trans h))
      replace hcnt := Lib.hid (fun W (h : Ext WZ W) => hcnt.out W (hT.trans h))
      replace hsoc := Lib.hid (fun W (h : Ext WZ W) => hsoc.out W (hT.trans h))
      clear hWZ hX8a hcc hT hTa hTb
      unfold cav at hsab
      have hX9 := hX8
      obtain ⟨⟨y0, y1, y2, y3⟩, _⟩ := cells_four hbox
      obtain ⟨⟨o0, o1, o2, o3⟩, _⟩ := cells_four hbo
      obtain ⟨⟨a0, a1, a2', a3'⟩, _⟩ := cells_four hba
      obtain ⟨⟨b0, b1, b2, b3⟩, _⟩ := cells_four hbb
      go_upto_region 13 with fail
      obtain ⟨X, iX, f, hxS0, hSx0⟩ := letters (fun w' => Ext WZ w') WZ (Ext.refl WZ)
      have hxS := Lib.hid hxS0
      have hSx := Lib.hid hSx0
      clear hxS0 hSx0
      have u0 : ∀ x', (f x').cell? ⟨w.heap.size, 0, none⟩ = some (.int .i64 m) := fun x' => (hxS.out x').cell y0
      have u1 : ∀ x', (f x').cell? ⟨w.heap.size, 1, none⟩ = some (.slice a n c) := fun x' => (hxS.out x').cell y1
      have u2 : ∀ x', (f x').cell? ⟨w.heap.size, 2, none⟩ = some (.int .i64 came) := fun x' => (hxS.out x').cell y2
      have u3 : ∀ x', (f x').cell? ⟨w.heap.size, 3, none⟩ = some (.int .i64 dropped) := fun x' => (hxS.out x').cell y3
      have v0 : ∀ x', (f x').cell? ⟨B3, 0, none⟩ = some (.int .i64 m) := fun x' => (hxS.out x').cell o0
      have v1 : ∀ x', (f x').cell? ⟨B3, 1, none⟩ = some (.slice a3 n c3) := fun x' => (hxS.out x').cell o1
      have v2 : ∀ x', (f x').cell? ⟨B3, 2, none⟩ = some (.int .i64 came) := fun x' => (hxS.out x').cell o2
      have v3 : ∀ x', (f x').cell? ⟨B3, 3, none⟩ = some (.int .i64 dropped) := fun x' => (hxS.out x').cell o3
      have s0 : ∀ x', (f x').cell? ⟨B4, 0, none⟩ = some (.int .i64 m) := fun x' => (hxS.out x').cell a0
      have s1 : ∀ x', (f x').cell? ⟨B4, 1, none⟩ = some (.slice a4 n4 c4) := fun x' => (hxS.out x').cell a1
      have s2 : ∀ x', (f x').cell? ⟨B4, 2, none⟩ = some (.int .i64 came) := fun x' => (hxS.out x').cell a2'
      have s3 : ∀ x', (f x').cell? ⟨B4, 3, none⟩ = some (.int .i64 dropped) := fun x' => (hxS.out x').cell a3'
      have t0 : ∀ x', (f x').cell? ⟨B5, 0, none⟩ = some (.int .i64 m) := fun x' => (hxS.out x').cell b0
      have t1 : ∀ x', (f x').cell? ⟨B5, 1, none⟩ = some (.slice a5 n5 c5) := fun x' => (hxS.out x').cell b1
      have t2 : ∀ x', (f x').cell? ⟨B5, 2, none⟩ = some (.int .i64 came) := fun x' => (hxS.out x').cell b2
      have t3 : ∀ x', (f x').cell? ⟨B5, 3, none⟩ = some (.int .i64 dropped) := fun x' => (hxS.out x').cell b3
      have ee1 : (R.2 == R.2) = true := by simp
      have ee2 : (R2.1 == R2.1) = true := by simp
      have ee3 : (R2.2 == R2.2) = true := by simp
      refine region_plan 42 [.quiet [0, 1], .act 2, .quiet [3, 4, 5], .act 6, .quiet [7, 8, 9, 10, 11, 12, 13, 14, 15, 16, 17, 18, 19, 20, 21, 22, 23, 24, 25, 27, 28], .act 26, .act 29, .act 30, .quiet [31, 32, 33, 35], .act 34, .quiet [36, 37, 38, 39, 40], .act 41] (fun w' => ∃ x' : X, w' = f x') (by kernel_rfl) (by kernel_rfl) (hSx.out _ (Ext.drewN WZ 1)) ?_
      intro Q1 hQ1
      refine plan_quiet ?_
      simp only [sel, List.getElem?_toArray, List.getElem?_cons_zero, List.getElem?_cons_succ]
      repeat (go_big_quiet_step (fail))
      refine wpQuiet_nil ?_
      refine plan_act ?_
      intro Q2 hQ2
      simp only [sel, List.getElem?_toArray, List.getElem?_cons_zero, List.getElem?_cons_succ]
      go_wp2_with fail
      refine (hsab.out _ (Ext.drewN WZ 1)).mono ?_
      rintro e z1 ⟨rfl, hz1⟩
      have hZ1 := (Ext.drewN WZ 1).trans hz1
      go_wp2_with fail
      refine hQ2 _ _ (hSx.out _ hZ1) ?_
      refine plan_quiet ?_
      simp only [sel, List.getElem?_toArray, List.getElem?_cons_zero, List.getElem?_cons_succ]
      repeat (go_big_quiet_step (fail))
      refine wpQuiet_nil ?_
      refine plan_act ?_
      intro Q3 hQ3
      simp only [sel, List.getElem?_toArray, List.getElem?_cons_zero, List.getElem?_cons_succ]
      go_wp2_with fail
      refine (hspt.out _ hZ1).mono ?_
      rintro e z2 ⟨rfl, hz2⟩
      have hZ2 := hZ1.trans hz2
      go_wp2_with fail
      refine hQ3 _ _ (hSx.out _ hZ2) ?_
      refine plan_quiet ?_
      simp only [sel, List.getElem?_toArray, List.getElem?_cons_zero, List.getElem?_cons_succ]
      repeat (go_big_quiet_step (fail))
      refine wpQuiet_nil ?_
      refine plan_act ?_
      intro Q4 hQ4
      simp only [sel, List.getElem?_toArray, List.getElem?_cons_zero, List.getElem?_cons_succ]
      go_wp2_with fail
      refine (hof.out _ hZ2).mono ?_
      rintro e z3 ⟨ga, gn, gc, rfl, hga, hz3⟩
      have hgah := Lib.hid hga
      clear hga
      have hZ3 := hZ2.trans hz3
      go_wp2_with fail
      refine hQ4 _ _ (hSx.out _ hZ3) ?_
      refine plan_act ?_
      intro Q5 hQ5
      simp only [sel, List.getElem?_toArray, List.getElem?_cons_zero, List.getElem?_cons_succ]
      go_wp2_with fail
      refine (hrof.out _ hZ3).mono ?_
      rintro e z4 ⟨ha, hc', rfl, hha, hz4⟩
      have hhah := Lib.hid hha
      clear hha
      have hZ4 := hZ3.trans hz4
      go_wp2_with fail
      refine hQ5 _ _ (hSx.out _ hZ4) ?_
      refine plan_act ?_
      intro Q6 hQ6
      simp only [sel, List.getElem?_toArray, List.getElem?_cons_zero, List.getElem?_cons_succ]
      have hsp2 : Hid (Calls Try.prog 24 #[.slice ga gn gc, .slice ha OL.length hc'] z4 fun e w' => e = .returned (.bool true) ∧ Ext z4 w') := by
        obtain ⟨_, _, e9, r9⟩ := ORow.row hhah.out
        cases e9
        have := asame_calls ga gn gc _ _ _ _ _ z4 (hgah.out.ext hz4) r9
        rw [show decide (OL = OL) = true by simp] at this
        exact this
      go_wp2_with fail
      refine hsp2.out.mono ?_
      rintro e z5 ⟨rfl, hz5⟩
      have hZ5 := hZ4.trans hz5
      go_wp2_with fail
      refine hQ6 _ _ (hSx.out _ hZ5) ?_
      refine plan_quiet ?_
      simp only [sel, List.getElem?_toArray, List.getElem?_cons_zero, List.getElem?_cons_succ]
      repeat (go_big_quiet_step (fail))
      refine wpQuiet_nil ?_
      refine plan_act ?_
      intro Q7 hQ7
      simp only [sel, List.getElem?_toArray, List.getElem?_cons_zero, List.getElem?_cons_succ]
      go_wp2_with fail
      refine (hcnt.out _ hZ5).mono ?_
      rintro e z6 ⟨rfl, hz6⟩
      have hZ6 := hZ5.trans hz6
      go_wp2_with fail
      refine hQ7 _ _ (hSx.out _ hZ6) ?_
      refine plan_quiet ?_
      simp only [sel, List.getElem?_toArray, List.getElem?_cons_zero, List.getElem?_cons_succ]
      repeat (go_big_quiet_step (fail))
      refine wpQuiet_nil ?_
      refine plan_act ?_
      intro Q8 hQ8
      simp only [sel, List.getElem?_toArray, List.getElem?_cons_zero, List.getElem?_cons_succ]
      go_wp2_with fail
      refine (hsoc.out _ hZ6).mono ?_
      rintro e z7 ⟨rfl, hz7⟩
      have hZ7 := hZ6.trans hz7
      go_wp2_with fail
      refine hQ8 _ _ (hSx.out _ hZ7) ?_
      refine plan_tail ?_
      simp only [List.drop_succ_cons, List.drop_zero]
      go_wp2_with fail
      go_ret
      exact ⟨rfl, hX9.trans hZ7⟩
    | true =>
      have hrct' := hrct.out w8 hX8a
      unfold cav at hrct'
      have hrcth := Lib.hid hrct'
      clear hrct'
      rw [hcc, if_pos rfl] at hcnt
      obtain ⟨⟨y0, y1, y2, y3⟩, _⟩ := cells_four hbox
      clear hcc
      go_wp2_with fail
      clear y0 y1 y2 y3
      refine hrcth.out.mono ?_
      rintro e WZ ⟨rfl, hxZ⟩
      replace hbox := (hxZ.block _ (lt_of_block hbox)).trans hbox
      replace hbo := (hxZ.block _ (lt_of_block hbo)).trans hbo
      replace hba := (hxZ.block _ (lt_of_block hba)).trans hba
      replace hbb := (hxZ.block _ (lt_of_block hbb)).trans hbb
      have hX8 := hX8a.trans hxZ
      replace hT := hT.trans hxZ
      replace hTa := hTa.trans hxZ
      replace hTb := hTb.trans hxZ
      have hsab := Lib.hid (fun W (h : Ext WZ W) => casame_calls m a4 n4 c4 came dropped M4 m a5 n5 c5 came dropped M5 W (hw4h.out.ext (hTa.trans h)) (hw5h.out.ext (hTb.trans h)))
      rw [show decide ((⟨m, ws M4, came, dropped⟩ : Ca) = ⟨m, ws M5, came, dropped⟩) = true by rw [decide_eq_true_eq, hm4h.out, hm5h.out]] at hsab
      have hspt := Lib.hid (fun W (h : Ext WZ W) => asame_calls pa pn pc R.1.2 qa qn qc R.1.2 W (hpt4h.out.ext (hTa.trans h)) (hpt5h.out.ext (hTb.trans h)))
      rw [show decide (R.1.2 = R.1.2) = true by simp] at hspt
      replace hof := Lib.hid (fun W (h : Ext WZ W) => hof.out W (hT.trans h))
      replace hrof := Lib.hid (fun W (h : Ext WZ W) => hrof.out W (hX8.trans h))
      replace hcnt := Lib.hid (fun W (h : Ext WZ W) => hcnt.out W (hT.trans h))
      replace hsoc := Lib.hid (fun W (h : Ext WZ W) => hsoc.out W (hT.trans h))
      clear hX8a hT hTa hTb hxZ hrcth
      unfold cav at hsab
      have hX9 := hX8
      obtain ⟨⟨y0, y1, y2, y3⟩, _⟩ := cells_four hbox
      obtain ⟨⟨o0, o1, o2, o3⟩, _⟩ := cells_four hbo
      obtain ⟨⟨a0, a1, a2', a3'⟩, _⟩ := cells_four hba
      obtain ⟨⟨b0, b1, b2, b3⟩, _⟩ := cells_four hbb
      go_upto_region 13 with fail
      obtain ⟨X, iX, f, hxS0, hSx0⟩ := letters (fun w' => Ext WZ w') WZ (Ext.refl WZ)
      have hxS := Lib.hid hxS0
      have hSx := Lib.hid hSx0
      clear hxS0 hSx0
      have u0 : ∀ x', (f x').cell? ⟨w.heap.size, 0, none⟩ = some (.int .i64 m) := fun x' => (hxS.out x').cell y0
      have u1 : ∀ x', (f x').cell? ⟨w.heap.size, 1, none⟩ = some (.slice a n c) := fun x' => (hxS.out x').cell y1
      have u2 : ∀ x', (f x').cell? ⟨w.heap.size, 2, none⟩ = some (.int .i64 came) := fun x' => (hxS.out x').cell y2
      have u3 : ∀ x', (f x').cell? ⟨w.heap.size, 3, none⟩ = some (.int .i64 dropped) := fun x' => (hxS.out x').cell y3
      have v0 : ∀ x', (f x').cell? ⟨B3, 0, none⟩ = some (.int .i64 m) := fun x' => (hxS.out x').cell o0
      have v1 : ∀ x', (f x').cell? ⟨B3, 1, none⟩ = some (.slice a3 n c3) := fun x' => (hxS.out x').cell o1
      have v2 : ∀ x', (f x').cell? ⟨B3, 2, none⟩ = some (.int .i64 came) := fun x' => (hxS.out x').cell o2
      have v3 : ∀ x', (f x').cell? ⟨B3, 3, none⟩ = some (.int .i64 dropped) := fun x' => (hxS.out x').cell o3
      have s0 : ∀ x', (f x').cell? ⟨B4, 0, none⟩ = some (.int .i64 m) := fun x' => (hxS.out x').cell a0
      have s1 : ∀ x', (f x').cell? ⟨B4, 1, none⟩ = some (.slice a4 n4 c4) := fun x' => (hxS.out x').cell a1
      have s2 : ∀ x', (f x').cell? ⟨B4, 2, none⟩ = some (.int .i64 came) := fun x' => (hxS.out x').cell a2'
      have s3 : ∀ x', (f x').cell? ⟨B4, 3, none⟩ = some (.int .i64 dropped) := fun x' => (hxS.out x').cell a3'
      have t0 : ∀ x', (f x').cell? ⟨B5, 0, none⟩ = some (.int .i64 m) := fun x' => (hxS.out x').cell b0
      have t1 : ∀ x', (f x').cell? ⟨B5, 1, none⟩ = some (.slice a5 n5 c5) := fun x' => (hxS.out x').cell b1
      have t2 : ∀ x', (f x').cell? ⟨B5, 2, none⟩ = some (.int .i64 came) := fun x' => (hxS.out x').cell b2
      have t3 : ∀ x', (f x').cell? ⟨B5, 3, none⟩ = some (.int .i64 dropped) := fun x' => (hxS.out x').cell b3
      have ee1 : (R.2 == R.2) = true := by simp
      have ee2 : (R2.1 == R2.1) = true := by simp
      have ee3 : (R2.2 == R2.2) = true := by simp
      refine region_plan 42 [.quiet [0, 1], .act 2, .quiet [3, 4, 5], .act 6, .quiet [7, 8, 9, 10, 11, 12, 13, 14, 15, 16, 17, 18, 19, 20, 21, 22, 23, 24, 25, 27, 28], .act 26, .act 29, .act 30, .quiet [31, 32, 33, 35], .act 34, .quiet [36, 37, 38, 39, 40], .act 41] (fun w' => ∃ x' : X, w' = f x') (by kernel_rfl) (by kernel_rfl) (hSx.out _ (Ext.drewN WZ 1)) ?_
      intro Q1 hQ1
      refine plan_quiet ?_
      simp only [sel, List.getElem?_toArray, List.getElem?_cons_zero, List.getElem?_cons_succ]
      repeat (go_big_quiet_step (fail))
      refine wpQuiet_nil ?_
      refine plan_act ?_
      intro Q2 hQ2
      simp only [sel, List.getElem?_toArray, List.getElem?_cons_zero, List.getElem?_cons_succ]
      go_wp2_with fail
      refine (hsab.out _ (Ext.drewN WZ 1)).mono ?_
      rintro e z1 ⟨rfl, hz1⟩
      have hZ1 := (Ext.drewN WZ 1).trans hz1
      go_wp2_with fail
      refine hQ2 _ _ (hSx.out _ hZ1) ?_
      refine plan_quiet ?_
      simp only [sel, List.getElem?_toArray, List.getElem?_cons_zero, List.getElem?_cons_succ]
      repeat (go_big_quiet_step (fail))
      refine wpQuiet_nil ?_
      refine plan_act ?_
      intro Q3 hQ3
      simp only [sel, List.getElem?_toArray, List.getElem?_cons_zero, List.getElem?_cons_succ]
      go_wp2_with fail
      refine (hspt.out _ hZ1).mono ?_
      rintro e z2 ⟨rfl, hz2⟩
      have hZ2 := hZ1.trans hz2
      go_wp2_with fail
      refine hQ3 _ _ (hSx.out _ hZ2) ?_
      refine plan_quiet ?_
      simp only [sel, List.getElem?_toArray, List.getElem?_cons_zero, List.getElem?_cons_succ]
      repeat (go_big_quiet_step (fail))
      refine wpQuiet_nil ?_
      refine plan_act ?_
      intro Q4 hQ4
      simp only [sel, List.getElem?_toArray, List.getElem?_cons_zero, List.getElem?_cons_succ]
      go_wp2_with fail
      refine (hof.out _ hZ2).mono ?_
      rintro e z3 ⟨ga, gn, gc, rfl, hga, hz3⟩
      have hgah := Lib.hid hga
      clear hga
      have hZ3 := hZ2.trans hz3
      go_wp2_with fail
      refine hQ4 _ _ (hSx.out _ hZ3) ?_
      refine plan_act ?_
      intro Q5 hQ5
      simp only [sel, List.getElem?_toArray, List.getElem?_cons_zero, List.getElem?_cons_succ]
      go_wp2_with fail
      refine (hrof.out _ hZ3).mono ?_
      rintro e z4 ⟨ha, hc', rfl, hha, hz4⟩
      have hhah := Lib.hid hha
      clear hha
      have hZ4 := hZ3.trans hz4
      go_wp2_with fail
      refine hQ5 _ _ (hSx.out _ hZ4) ?_
      refine plan_act ?_
      intro Q6 hQ6
      simp only [sel, List.getElem?_toArray, List.getElem?_cons_zero, List.getElem?_cons_succ]
      have hsp2 : Hid (Calls Try.prog 24 #[.slice ga gn gc, .slice ha OL.length hc'] z4 fun e w' => e = .returned (.bool true) ∧ Ext z4 w') := by
        obtain ⟨_, _, e9, r9⟩ := ORow.row hhah.out
        cases e9
        have := asame_calls ga gn gc _ _ _ _ _ z4 (hgah.out.ext hz4) r9
        rw [show decide (OL = OL) = true by simp] at this
        exact this
      go_wp2_with fail
      refine hsp2.out.mono ?_
      rintro e z5 ⟨rfl, hz5⟩
      have hZ5 := hZ4.trans hz5
      go_wp2_with fail
      refine hQ6 _ _ (hSx.out _ hZ5) ?_
      refine plan_quiet ?_
      simp only [sel, List.getElem?_toArray, List.getElem?_cons_zero, List.getElem?_cons_succ]
      repeat (go_big_quiet_step (fail))
      refine wpQuiet_nil ?_
      refine plan_act ?_
      intro Q7 hQ7
      simp only [sel, List.getElem?_toArray, List.getElem?_cons_zero, List.getElem?_cons_succ]
      go_wp2_with fail
      refine (hcnt.out _ hZ5).mono ?_
      rintro e z6 ⟨rfl, hz6⟩
      have hZ6 := hZ5.trans hz6
      go_wp2_with fail
      refine hQ7 _ _ (hSx.out _ hZ6) ?_
      refine plan_quiet ?_
      simp only [sel, List.getElem?_toArray, List.getElem?_cons_zero, List.getElem?_cons_succ]
      repeat (go_big_quiet_step (fail))
      refine wpQuiet_nil ?_
      refine plan_act ?_
      intro Q8 hQ8
      simp only [sel, List.getElem?_toArray, List.getElem?_cons_zero, List.getElem?_cons_succ]
      go_wp2_with fail
      refine (hsoc.out _ hZ6).mono ?_
      rintro e z7 ⟨rfl, hz7⟩
      have hZ7 := hZ6.trans hz7
      go_wp2_with fail
      refine hQ8 _ _ (hSx.out _ hZ7) ?_
      refine plan_tail ?_
      simp only [List.drop_succ_cons, List.drop_zero]
      go_wp2_with fail
      go_ret
      exact ⟨rfl, hX9.trans hZ7⟩
end Go.Proofs.Ytcbjadmngkednaa

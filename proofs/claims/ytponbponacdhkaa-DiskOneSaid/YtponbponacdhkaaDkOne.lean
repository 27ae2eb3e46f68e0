/-
  Layer 6's statements: behind a rename and a crash the name leads to the elder file, or to the newer one.
-/
import Derived.Test.YtponbponacdhkaaDkOneP
namespace Go.Proofs.Ytponbponacdhkaa
open Go.RowKit

set_option maxRecDepth 100000 in
set_option maxHeartbeats 12800000 in
theorem one_calls (oa : Option Addr) (on oc : Nat) (old : List UInt8) (ya : Option Addr) (yn yc : Nat) (young : List UInt8) (mv : Int) (kept : Bool) (w : World) (hbo : Bs w oa on oc old) (hby : Bs w ya yn yc young) :
    Calls Try.prog 3 #[.agg #[.slice oa on oc, .slice ya yn yc], .int .i64 mv, .bool kept] w fun e w' => e = .returned (.bool true) ∧ Ext w w' := by
  have hol := hbo.len
  have hyl := hby.len
  go_enter Try.func3, Try.ntmps3
  go_wp2_with fail
  have hbb := heap_alloc_new w (.cells #[.slice oa on oc, .slice ya yn yc] 23)
  have hx0 := Ext.alloc w (.cells #[.slice oa on oc, .slice ya yn yc] 23)
  refine (alive06_calls _).mono ?_
  rintro e w1 ⟨rfl, hx1⟩
  obtain ⟨W1, hW1⟩ : ∃ W1, w1 = W1 := ⟨_, rfl⟩
  have hX1 := hx0.trans hx1
  have hb1 := (hx1.block _ (lt_of_block hbb)).trans hbb
  have c0 : w1.cell? ⟨w.heap.size, 0, none⟩ = some (.slice oa on oc) := by simp [World.cell?, hb1]
  have c1 : w1.cell? ⟨w.heap.size, 1, none⟩ = some (.slice ya yn yc) := by simp [World.cell?, hb1]
  clear hW1 W1 hbb hx0 hx1 hb1
  go_wp2_with fail
  go_region
  clear c0 c1
  have hX1d := hX1.trans (Ext.drewN w1 1)
  by_cases ho4 : 400 < on
  · go_wp2_with fail
    go_ret
    exact ⟨rfl, hX1d⟩
  by_cases hy4 : 400 < yn
  · go_wp2_with fail
    go_ret
    exact ⟨rfl, hX1d⟩
  have ho : old.length ≤ 400 := by omega
  have hy : young.length ≤ 400 := by omega
  have hG0 : Good (⟨1000, [], [], [], [], 1⟩ : Dk) := good_new ⟨by decide, by decide⟩
  obtain ⟨D0, hD0⟩ : ∃ D, (⟨1000, [], [], [], [], 1⟩ : Dk) = D := ⟨_, rfl⟩
  have hG1 : Good (⟨1000, [⟨1, [], 0⟩], [([97], 1)], [], [⟨1, [97], [], 1⟩], 2⟩ : Dk) := by
    have hG0' : Good (⟨1000, [], [], [], [], 1⟩ : Dk) := by first | exact hG0 | (rw [hD0]; exact hG0)
    have h := (good_create hG0' (by simp) [97] rfl).1
    rw [one1] at h
    exact h
  obtain ⟨D1, hD1⟩ : ∃ D, (⟨1000, [⟨1, [], 0⟩], [([97], 1)], [], [⟨1, [97], [], 1⟩], 2⟩ : Dk) = D := ⟨_, rfl⟩
  have hR1 : createD D0 [97] = (D1, 0) := by rw [← hD0, ← hD1]; exact one1
  have hG2 : Good (⟨1000, [⟨1, old, 0⟩], [([97], 1)], [], [⟨1, [97], [], 1⟩], 2⟩ : Dk) := by
    have hG1' : Good (⟨1000, [⟨1, [], 0⟩], [([97], 1)], [], [⟨1, [97], [], 1⟩], 2⟩ : Dk) := by first | exact hG1 | (rw [hD1]; exact hG1)
    have h := (good_append hG1' [97] old).1
    rw [one2 old ho] at h
    exact h
  obtain ⟨D2, hD2⟩ : ∃ D, (⟨1000, [⟨1, old, 0⟩], [([97], 1)], [], [⟨1, [97], [], 1⟩], 2⟩ : Dk) = D := ⟨_, rfl⟩
  have hR2 : appendD D1 [97] old = (D2, 0) := by rw [← hD1, ← hD2]; exact one2 old ho
  have hG3 : Good (⟨1000, [⟨1, old, old.length⟩], [([97], 1)], [], [⟨1, [97], [], 1⟩], 2⟩ : Dk) := by
    have hG2' : Good (⟨1000, [⟨1, old, 0⟩], [([97], 1)], [], [⟨1, [97], [], 1⟩], 2⟩ : Dk) := by first | exact hG2 | (rw [hD2]; exact hG2)
    have h := (good_sync hG2' [97]).1
    rw [one3 old] at h
    exact h
  obtain ⟨D3, hD3⟩ : ∃ D, (⟨1000, [⟨1, old, old.length⟩], [([97], 1)], [], [⟨1, [97], [], 1⟩], 2⟩ : Dk) = D := ⟨_, rfl⟩
  have hR3 : syncD D2 [97] = (D3, 0) := by rw [← hD2, ← hD3]; exact one3 old
  have hG4 : Good (⟨1000, [⟨1, old, old.length⟩], [([97], 1)], [([97], 1)], [], 2⟩ : Dk) := by
    have hG3' : Good (⟨1000, [⟨1, old, old.length⟩], [([97], 1)], [], [⟨1, [97], [], 1⟩], 2⟩ : Dk) := by first | exact hG3 | (rw [hD3]; exact hG3)
    have h := good_syncdir hG3'
    rw [one4 old] at h
    exact h
  obtain ⟨D4, hD4⟩ : ∃ D, (⟨1000, [⟨1, old, old.length⟩], [([97], 1)], [([97], 1)], [], 2⟩ : Dk) = D := ⟨_, rfl⟩
  have hR4 : syncdirD D3  = (D4, 0) := by rw [← hD3, ← hD4]; exact one4 old
  have hG5 : Good (⟨1000, [⟨1, old, old.length⟩, ⟨2, [], 0⟩], [([97], 1), ([98], 2)], [([97], 1)], [⟨1, [98], [], 2⟩], 3⟩ : Dk) := by
    have hG4' : Good (⟨1000, [⟨1, old, old.length⟩], [([97], 1)], [([97], 1)], [], 2⟩ : Dk) := by first | exact hG4 | (rw [hD4]; exact hG4)
    have h := (good_create hG4' (by simp) [98] rfl).1
    rw [one5 old] at h
    exact h
  obtain ⟨D5, hD5⟩ : ∃ D, (⟨1000, [⟨1, old, old.length⟩, ⟨2, [], 0⟩], [([97], 1), ([98], 2)], [([97], 1)], [⟨1, [98], [], 2⟩], 3⟩ : Dk) = D := ⟨_, rfl⟩
  have hR5 : createD D4 [98] = (D5, 0) := by rw [← hD4, ← hD5]; exact one5 old
  have hG6 : Good (⟨1000, [⟨1, old, old.length⟩, ⟨2, young, 0⟩], [([97], 1), ([98], 2)], [([97], 1)], [⟨1, [98], [], 2⟩], 3⟩ : Dk) := by
    have hG5' : Good (⟨1000, [⟨1, old, old.length⟩, ⟨2, [], 0⟩], [([97], 1), ([98], 2)], [([97], 1)], [⟨1, [98], [], 2⟩], 3⟩ : Dk) := by first | exact hG5 | (rw [hD5]; exact hG5)
    have h := (good_append hG5' [98] young).1
    rw [one6 old young ho hy] at h
    exact h
  obtain ⟨D6, hD6⟩ : ∃ D, (⟨1000, [⟨1, old, old.length⟩, ⟨2, young, 0⟩], [([97], 1), ([98], 2)], [([97], 1)], [⟨1, [98], [], 2⟩], 3⟩ : Dk) = D := ⟨_, rfl⟩
  have hR6 : appendD D5 [98] young = (D6, 0) := by rw [← hD5, ← hD6]; exact one6 old young ho hy
  have hG7 : Good (⟨1000, [⟨1, old, old.length⟩, ⟨2, young, young.length⟩], [([97], 1), ([98], 2)], [([97], 1)], [⟨1, [98], [], 2⟩], 3⟩ : Dk) := by
    have hG6' : Good (⟨1000, [⟨1, old, old.length⟩, ⟨2, young, 0⟩], [([97], 1), ([98], 2)], [([97], 1)], [⟨1, [98], [], 2⟩], 3⟩ : Dk) := by first | exact hG6 | (rw [hD6]; exact hG6)
    have h := (good_sync hG6' [98]).1
    rw [one7 old young] at h
    exact h
  obtain ⟨D7, hD7⟩ : ∃ D, (⟨1000, [⟨1, old, old.length⟩, ⟨2, young, young.length⟩], [([97], 1), ([98], 2)], [([97], 1)], [⟨1, [98], [], 2⟩], 3⟩ : Dk) = D := ⟨_, rfl⟩
  have hR7 : syncD D6 [98] = (D7, 0) := by rw [← hD6, ← hD7]; exact one7 old young
  have hG8 : Good (⟨1000, [⟨1, old, old.length⟩, ⟨2, young, young.length⟩], [([97], 2)], [([97], 1)], [⟨1, [98], [], 2⟩, ⟨3, [98], [97], 0⟩], 3⟩ : Dk) := by
    have hG7' : Good (⟨1000, [⟨1, old, old.length⟩, ⟨2, young, young.length⟩], [([97], 1), ([98], 2)], [([97], 1)], [⟨1, [98], [], 2⟩], 3⟩ : Dk) := by first | exact hG7 | (rw [hD7]; exact hG7)
    have h := (good_rename hG7' (by simp) [98] [97] rfl rfl).1
    rw [one8 old young] at h
    exact h
  obtain ⟨D8, hD8⟩ : ∃ D, (⟨1000, [⟨1, old, old.length⟩, ⟨2, young, young.length⟩], [([97], 2)], [([97], 1)], [⟨1, [98], [], 2⟩, ⟨3, [98], [97], 0⟩], 3⟩ : Dk) = D := ⟨_, rfl⟩
  have hR8 : renameD D7 [98] [97] = (D8, 0) := by rw [← hD7, ← hD8]; exact one8 old young
  have hG9 : Good (⟨1000, [⟨2, young, young.length⟩], [([97], 2)], [([97], 2)], [], 3⟩ : Dk) := by
    have hG8' : Good (⟨1000, [⟨1, old, old.length⟩, ⟨2, young, young.length⟩], [([97], 2)], [([97], 1)], [⟨1, [98], [], 2⟩, ⟨3, [98], [97], 0⟩], 3⟩ : Dk) := by first | exact hG8 | (rw [hD8]; exact hG8)
    have h := good_syncdir hG8'
    rw [one9 old young] at h
    exact h
  obtain ⟨D9, hD9⟩ : ∃ D, (⟨1000, [⟨2, young, young.length⟩], [([97], 2)], [([97], 2)], [], 3⟩ : Dk) = D := ⟨_, rfl⟩
  have hR9 : syncdirD D8  = (D9, 0) := by rw [← hD8, ← hD9]; exact one9 old young
  rw [hD0] at hG0
  have hV0 := Lib.hid hD0
  clear hD0
  rw [hD1] at hG1
  clear hD1
  rw [hD2] at hG2
  clear hD2
  rw [hD3] at hG3
  clear hD3
  rw [hD4] at hG4
  clear hD4
  rw [hD5] at hG5
  clear hD5
  rw [hD6] at hG6
  clear hD6
  rw [hD7] at hG7
  clear hD7
  rw [hD8] at hG8
  have hV8 := Lib.hid hD8
  clear hD8
  rw [hD9] at hG9
  have hV9 := Lib.hid hD9
  clear hD9
  go_wp2_with fail
  refine (new_calls 1000 _ (by decide) (by decide)).mono ?_
  rintro e v0 ⟨rfl, hy0⟩
  go_upto_region 7 with fail
  obtain ⟨W0, hW0⟩ : ∃ W0, v0.alloc (.cells #[.int .i64 1000, .slice none 0 0, .slice none 0 0, .slice none 0 0, .slice none 0 0, .int .i64 1] 29) = W0 := ⟨_, rfl⟩
  obtain ⟨B, hB⟩ : ∃ B, v0.heap.size = B := ⟨_, rfl⟩
  have hI0 : InBox w W0 B xnil D0 := by
    rw [← hW0, ← hB, ← hV0.out]
    exact ⟨(hX1d.trans hy0).trans (Ext.alloc _ _), (hX1d.trans hy0).size, heap_alloc_new _ _, OD.nil _ _⟩
  rw [hW0, hB]
  clear hW0 hB hy0 hX1d hX1
  have hc0 := hI0.blk
  obtain ⟨⟨y0, y1, y2, y3, y4, y5⟩, _⟩ := cells_six hc0
  have h1 := create_calls D0 xnil 0 [97] W0 hI0.od hG0 (Nat.zero_le _) rfl
  rw [hR1] at h1
  go_wp2_with fail
  refine (h1).mono ?_
  rintro e v1 ⟨x1, rfl, hO1, hy1⟩
  have hb1 := (hI0.on hy1).blk
  obtain ⟨⟨y0, y1, y2, y3, y4, y5⟩, ⟨g0, g1, g2, g3, g4, g5⟩⟩ := cells_six hb1
  have hl1 := lt_of_block hb1
  unfold dkv dcs
  dsimp only
  go_upto_region 8 with fail
  have hI1 := hI0.step hy1 hO1
  clear y0 y1 y2 y3 y4 y5 g0 g1 g2 g3 g4 g5 hb1 hl1 hy1 hO1 hI0
  obtain ⟨W1, hW1⟩ : ∃ W1, put6 v1 B (.int .i64 D1.quota) (.slice x1.fa x1.fn x1.fc) (.slice x1.na x1.nn x1.nc) (.slice x1.ka x1.kn x1.kc) (.slice x1.ma x1.mn x1.mc) (.int .i64 D1.next) = W1 := ⟨_, rfl⟩
  rw [hW1] at hI1
  change Code.wp _ _ _ _ (put6 v1 B (.int .i64 D1.quota) (.slice x1.fa x1.fn x1.fc) (.slice x1.na x1.nn x1.nc) (.slice x1.ka x1.kn x1.kc) (.slice x1.ma x1.mn x1.mc) (.int .i64 D1.next))
  rw [hW1]
  clear hW1
  have hc1 := hI1.blk
  obtain ⟨⟨y0, y1, y2, y3, y4, y5⟩, _⟩ := cells_six hc1
  clear h1 hR1 hc0
  have h2 := append_calls D1 x1 0 [97] oa on oc old W1 hI1.od hG1 (Nat.zero_le _) rfl (hbo.ext hI1.ext)
  rw [hR2] at h2
  go_wp2_with fail
  refine (h2).mono ?_
  rintro e v2 ⟨x2, rfl, hO2, hy2⟩
  have hb2 := (hI1.on hy2).blk
  obtain ⟨⟨y0, y1, y2, y3, y4, y5⟩, ⟨g0, g1, g2, g3, g4, g5⟩⟩ := cells_six hb2
  have hl2 := lt_of_block hb2
  unfold dkv dcs
  dsimp only
  go_upto_region 9 with fail
  have hI2 := hI1.step hy2 hO2
  clear y0 y1 y2 y3 y4 y5 g0 g1 g2 g3 g4 g5 hb2 hl2 hy2 hO2 hI1
  obtain ⟨W2, hW2⟩ : ∃ W2, put6 v2 B (.int .i64 D2.quota) (.slice x2.fa x2.fn x2.fc) (.slice x2.na x2.nn x2.nc) (.slice x2.ka x2.kn x2.kc) (.slice x2.ma x2.mn x2.mc) (.int .i64 D2.next) = W2 := ⟨_, rfl⟩
  rw [hW2] at hI2
  change Code.wp _ _ _ _ (put6 v2 B (.int .i64 D2.quota) (.slice x2.fa x2.fn x2.fc) (.slice x2.na x2.nn x2.nc) (.slice x2.ka x2.kn x2.kc) (.slice x2.ma x2.mn x2.mc) (.int .i64 D2.next))
  rw [hW2]
  clear hW2
  have hc2 := hI2.blk
  obtain ⟨⟨y0, y1, y2, y3, y4, y5⟩, _⟩ := cells_six hc2
  clear h2 hR2 hc1
  have h3 := sync_calls D2 x2 0 [97] W2 hI2.od hG2 (Nat.zero_le _) rfl
  rw [hR3] at h3
  go_wp2_with fail
  refine (h3).mono ?_
  rintro e v3 ⟨x3, rfl, hO3, hy3⟩
  have hb3 := (hI2.on hy3).blk
  obtain ⟨⟨y0, y1, y2, y3, y4, y5⟩, ⟨g0, g1, g2, g3, g4, g5⟩⟩ := cells_six hb3
  have hl3 := lt_of_block hb3
  unfold dkv dcs
  dsimp only
  go_upto_region 10 with fail
  have hI3 := hI2.step hy3 hO3
  clear y0 y1 y2 y3 y4 y5 g0 g1 g2 g3 g4 g5 hb3 hl3 hy3 hO3 hI2
  obtain ⟨W3, hW3⟩ : ∃ W3, put6 v3 B (.int .i64 D3.quota) (.slice x3.fa x3.fn x3.fc) (.slice x3.na x3.nn x3.nc) (.slice x3.ka x3.kn x3.kc) (.slice x3.ma x3.mn x3.mc) (.int .i64 D3.next) = W3 := ⟨_, rfl⟩
  rw [hW3] at hI3
  change Code.wp _ _ _ _ (put6 v3 B (.int .i64 D3.quota) (.slice x3.fa x3.fn x3.fc) (.slice x3.na x3.nn x3.nc) (.slice x3.ka x3.kn x3.kc) (.slice x3.ma x3.mn x3.mc) (.int .i64 D3.next))
  rw [hW3]
  clear hW3
  have hc3 := hI3.blk
  obtain ⟨⟨y0, y1, y2, y3, y4, y5⟩, _⟩ := cells_six hc3
  clear h3 hR3 hc2
  have h4 := syncdir_calls D3 x3 0 W3 hI3.od hG3 (Nat.zero_le _)
  rw [hR4] at h4
  go_wp2_with fail
  refine (h4).mono ?_
  rintro e v4 ⟨x4, rfl, hO4, hy4⟩
  have hb4 := (hI3.on hy4).blk
  obtain ⟨⟨y0, y1, y2, y3, y4, y5⟩, ⟨g0, g1, g2, g3, g4, g5⟩⟩ := cells_six hb4
  have hl4 := lt_of_block hb4
  unfold dkv dcs
  dsimp only
  go_upto_region 11 with fail
  have hI4 := hI3.step hy4 hO4
  clear y0 y1 y2 y3 y4 y5 g0 g1 g2 g3 g4 g5 hb4 hl4 hy4 hO4 hI3
  obtain ⟨W4, hW4⟩ : ∃ W4, put6 v4 B (.int .i64 D4.quota) (.slice x4.fa x4.fn x4.fc) (.slice x4.na x4.nn x4.nc) (.slice x4.ka x4.kn x4.kc) (.slice x4.ma x4.mn x4.mc) (.int .i64 D4.next) = W4 := ⟨_, rfl⟩
  rw [hW4] at hI4
  change Code.wp _ _ _ _ (put6 v4 B (.int .i64 D4.quota) (.slice x4.fa x4.fn x4.fc) (.slice x4.na x4.nn x4.nc) (.slice x4.ka x4.kn x4.kc) (.slice x4.ma x4.mn x4.mc) (.int .i64 D4.next))
  rw [hW4]
  clear hW4
  have hc4 := hI4.blk
  obtain ⟨⟨y0, y1, y2, y3, y4, y5⟩, _⟩ := cells_six hc4
  clear h4 hR4 hc3
  have h5 := create_calls D4 x4 0 [98] W4 hI4.od hG4 (Nat.zero_le _) rfl
  rw [hR5] at h5
  go_wp2_with fail
  refine (h5).mono ?_
  rintro e v5 ⟨x5, rfl, hO5, hy5⟩
  have hb5 := (hI4.on hy5).blk
  obtain ⟨⟨y0, y1, y2, y3, y4, y5⟩, ⟨g0, g1, g2, g3, g4, g5⟩⟩ := cells_six hb5
  have hl5 := lt_of_block hb5
  unfold dkv dcs
  dsimp only
  go_upto_region 12 with fail
  have hI5 := hI4.step hy5 hO5
  clear y0 y1 y2 y3 y4 y5 g0 g1 g2 g3 g4 g5 hb5 hl5 hy5 hO5 hI4
  obtain ⟨W5, hW5⟩ : ∃ W5, put6 v5 B (.int .i64 D5.quota) (.slice x5.fa x5.fn x5.fc) (.slice x5.na x5.nn x5.nc) (.slice x5.ka x5.kn x5.kc) (.slice x5.ma x5.mn x5.mc) (.int .i64 D5.next) = W5 := ⟨_, rfl⟩
  rw [hW5] at hI5
  change Code.wp _ _ _ _ (put6 v5 B (.int .i64 D5.quota) (.slice x5.fa x5.fn x5.fc) (.slice x5.na x5.nn x5.nc) (.slice x5.ka x5.kn x5.kc) (.slice x5.ma x5.mn x5.mc) (.int .i64 D5.next))
  rw [hW5]
  clear hW5
  have hc5 := hI5.blk
  obtain ⟨⟨y0, y1, y2, y3, y4, y5⟩, _⟩ := cells_six hc5
  clear h5 hR5 hc4
  have h6 := append_calls D5 x5 0 [98] ya yn yc young W5 hI5.od hG5 (Nat.zero_le _) rfl (hby.ext hI5.ext)
  rw [hR6] at h6
  go_wp2_with fail
  refine (h6).mono ?_
  rintro e v6 ⟨x6, rfl, hO6, hy6⟩
  have hb6 := (hI5.on hy6).blk
  obtain ⟨⟨y0, y1, y2, y3, y4, y5⟩, ⟨g0, g1, g2, g3, g4, g5⟩⟩ := cells_six hb6
  have hl6 := lt_of_block hb6
  unfold dkv dcs
  dsimp only
  go_upto_region 13 with fail
  have hI6 := hI5.step hy6 hO6
  clear y0 y1 y2 y3 y4 y5 g0 g1 g2 g3 g4 g5 hb6 hl6 hy6 hO6 hI5
  obtain ⟨W6, hW6⟩ : ∃ W6, put6 v6 B (.int .i64 D6.quota) (.slice x6.fa x6.fn x6.fc) (.slice x6.na x6.nn x6.nc) (.slice x6.ka x6.kn x6.kc) (.slice x6.ma x6.mn x6.mc) (.int .i64 D6.next) = W6 := ⟨_, rfl⟩
  rw [hW6] at hI6
  change Code.wp _ _ _ _ (put6 v6 B (.int .i64 D6.quota) (.slice x6.fa x6.fn x6.fc) (.slice x6.na x6.nn x6.nc) (.slice x6.ka x6.kn x6.kc) (.slice x6.ma x6.mn x6.mc) (.int .i64 D6.next))
  rw [hW6]
  clear hW6
  have hc6 := hI6.blk
  obtain ⟨⟨y0, y1, y2, y3, y4, y5⟩, _⟩ := cells_six hc6
  clear h6 hR6 hc5
  have h7 := sync_calls D6 x6 0 [98] W6 hI6.od hG6 (Nat.zero_le _) rfl
  rw [hR7] at h7
  go_wp2_with fail
  refine (h7).mono ?_
  rintro e v7 ⟨x7, rfl, hO7, hy7⟩
  have hb7 := (hI6.on hy7).blk
  obtain ⟨⟨y0, y1, y2, y3, y4, y5⟩, ⟨g0, g1, g2, g3, g4, g5⟩⟩ := cells_six hb7
  have hl7 := lt_of_block hb7
  unfold dkv dcs
  dsimp only
  go_upto_region 14 with fail
  have hI7 := hI6.step hy7 hO7
  clear y0 y1 y2 y3 y4 y5 g0 g1 g2 g3 g4 g5 hb7 hl7 hy7 hO7 hI6
  obtain ⟨W7, hW7⟩ : ∃ W7, put6 v7 B (.int .i64 D7.quota) (.slice x7.fa x7.fn x7.fc) (.slice x7.na x7.nn x7.nc) (.slice x7.ka x7.kn x7.kc) (.slice x7.ma x7.mn x7.mc) (.int .i64 D7.next) = W7 := ⟨_, rfl⟩
  rw [hW7] at hI7
  change Code.wp _ _ _ _ (put6 v7 B (.int .i64 D7.quota) (.slice x7.fa x7.fn x7.fc) (.slice x7.na x7.nn x7.nc) (.slice x7.ka x7.kn x7.kc) (.slice x7.ma x7.mn x7.mc) (.int .i64 D7.next))
  rw [hW7]
  clear hW7
  have hc7 := hI7.blk
  obtain ⟨⟨y0, y1, y2, y3, y4, y5⟩, _⟩ := cells_six hc7
  clear h7 hR7 hc6
  have h8 := rename_calls D7 x7 0 [98] [97] W7 hI7.od hG7 (Nat.zero_le _) rfl rfl
  rw [hR8] at h8
  go_wp2_with fail
  refine (h8).mono ?_
  rintro e v8 ⟨x8, rfl, hO8, hy8⟩
  have hb8 := (hI7.on hy8).blk
  obtain ⟨⟨y0, y1, y2, y3, y4, y5⟩, ⟨g0, g1, g2, g3, g4, g5⟩⟩ := cells_six hb8
  have hl8 := lt_of_block hb8
  unfold dkv dcs
  dsimp only
  go_upto_region 15 with fail
  have hI8 := hI7.step hy8 hO8
  clear y0 y1 y2 y3 y4 y5 g0 g1 g2 g3 g4 g5 hb8 hl8 hy8 hO8 hI7
  obtain ⟨W8, hW8⟩ : ∃ W8, put6 v8 B (.int .i64 D8.quota) (.slice x8.fa x8.fn x8.fc) (.slice x8.na x8.nn x8.nc) (.slice x8.ka x8.kn x8.kc) (.slice x8.ma x8.mn x8.mc) (.int .i64 D8.next) = W8 := ⟨_, rfl⟩
  rw [hW8] at hI8
  change Code.wp _ _ _ _ (put6 v8 B (.int .i64 D8.quota) (.slice x8.fa x8.fn x8.fc) (.slice x8.na x8.nn x8.nc) (.slice x8.ka x8.kn x8.kc) (.slice x8.ma x8.mn x8.mc) (.int .i64 D8.next))
  rw [hW8]
  clear hW8
  have hc8 := hI8.blk
  obtain ⟨⟨y0, y1, y2, y3, y4, y5⟩, _⟩ := cells_six hc8
  clear h8 hR8 hc7
  cases kept with
  | true =>
    have h9 := syncdir_calls D8 x8 0 W8 hI8.od hG8 (Nat.zero_le _)
    rw [hR9] at h9
    go_wp2_with fail
    refine (h9).mono ?_
    rintro e v9 ⟨x9, rfl, hO9, hy9⟩
    have hb9 := (hI8.on hy9).blk
    obtain ⟨⟨y0, y1, y2, y3, y4, y5⟩, ⟨g0, g1, g2, g3, g4, g5⟩⟩ := cells_six hb9
    have hl9 := lt_of_block hb9
    unfold dkv dcs
    dsimp only
    go_upto_region 19 with fail
    have hI9 := hI8.step hy9 hO9
    clear y0 y1 y2 y3 y4 y5 g0 g1 g2 g3 g4 g5 hb9 hl9 hy9 hO9 hI8
    obtain ⟨W9, hW9⟩ : ∃ W9, put6 v9 B (.int .i64 D9.quota) (.slice x9.fa x9.fn x9.fc) (.slice x9.na x9.nn x9.nc) (.slice x9.ka x9.kn x9.kc) (.slice x9.ma x9.mn x9.mc) (.int .i64 D9.next) = W9 := ⟨_, rfl⟩
    rw [hW9] at hI9
    change Code.wp _ _ _ _ (put6 v9 B (.int .i64 D9.quota) (.slice x9.fa x9.fn x9.fc) (.slice x9.na x9.nn x9.nc) (.slice x9.ka x9.kn x9.kc) (.slice x9.ma x9.mn x9.mc) (.int .i64 D9.next))
    rw [hW9]
    clear hW9
    have hc9 := hI9.blk
    obtain ⟨⟨y0, y1, y2, y3, y4, y5⟩, _⟩ := cells_six hc9
    clear h9 hR9 hc8
    have hcr := crash_calls D9 x9 0 mv none 0 0 [] 0 [([97], 2)] W9 hI9.od hG9 (Nat.zero_le _) (Row.nil _ _ _) (by rw [← hV9.out]; unfold crashM; simp only [List.length_nil]; omega) (by rw [← hV9.out]; rfl)
    have hG11 : Good (crashD D9 [([97], 2)] []) := good_crash hG9 (k := 0) (by rw [← hV9.out]; rfl) _
    have hrp0 : ∀ (rl : List UInt8) (rerr : Int), ReadPost (crashD D9 [([97], 2)] []) [97] rl rerr → rl = young ∧ rerr = 0 := by
      intro rl rerr h
      rw [← hV9.out] at h
      exact one_end9 old young _ _ h
    obtain ⟨D11, hD11⟩ : ∃ D, crashD D9 [([97], 2)] [] = D := ⟨_, rfl⟩
    rw [hD11] at hcr hG11 hrp0
    have hrp0h := Lib.hid hrp0
    clear hD11 hrp0
    go_wp2_with fail
    refine hcr.mono ?_
    rintro e v11 ⟨x11, rfl, hO11, hy11⟩
    have hE11 := hI9.ext.trans hy11
    unfold dkv dcs
    dsimp only
    go_upto_region 20 with fail
    have hO11b := hO11.ext (Ext.alloc v11 (.cells #[.int .i64 D11.quota, .slice x11.fa x11.fn x11.fc, .slice x11.na x11.nn x11.nc, .slice x11.ka x11.kn x11.kc, .slice x11.ma x11.mn x11.mc, .int .i64 D11.next] 29))
    have hn11 := heap_alloc_new v11 (.cells #[.int .i64 D11.quota, .slice x11.fa x11.fn x11.fc, .slice x11.na x11.nn x11.nc, .slice x11.ka x11.kn x11.kc, .slice x11.ma x11.mn x11.mc, .int .i64 D11.next] 29)
    have hz11 := Ext.alloc v11 (.cells #[.int .i64 D11.quota, .slice x11.fa x11.fn x11.fc, .slice x11.na x11.nn x11.nc, .slice x11.ka x11.kn x11.kc, .slice x11.ma x11.mn x11.mc, .int .i64 D11.next] 29)
    obtain ⟨W11, hW11⟩ : ∃ W11, v11.alloc (.cells #[.int .i64 D11.quota, .slice x11.fa x11.fn x11.fc, .slice x11.na x11.nn x11.nc, .slice x11.ka x11.kn x11.kc, .slice x11.ma x11.mn x11.mc, .int .i64 D11.next] 29) = W11 := ⟨_, rfl⟩
    obtain ⟨B11, hB11⟩ : ∃ B, v11.heap.size = B := ⟨_, rfl⟩
    rw [hW11] at hO11b hn11 hz11 ⊢
    rw [hB11] at hn11 ⊢
    clear hW11 hB11 hO11 y0 y1 y2 y3 y4 y5
    obtain ⟨⟨y0, y1, y2, y3, y4, y5⟩, _⟩ := cells_six hn11
    have hrd := read_calls D11 x11 0 [97] W11 hO11b hG11 rfl
    go_wp2_with fail
    refine hrd.mono ?_
    rintro e v12 ⟨ra, rn, rc, rl, rerr, rfl, hrp, hrb, hy12⟩
    obtain ⟨rfl, rfl⟩ := hrp0h.out _ _ hrp
    have hE12 := (hE11.trans hz11).trans hy12
    have hsm := same_calls ra rn rc _ ya yn yc _ v12 hrb (hby.ext hE12)
    clear y0 y1 y2 y3 y4 y5 hrp hrp0h
    go_wp2_with fail
    refine hsm.mono ?_
    rintro e v13 ⟨rfl, q, rfl⟩
    go_wp2_with fail
    go_ret
    exact ⟨by simp, hE12.trans (Ext.drewN v12 q)⟩
  | false =>
    by_cases hm2 : 2 ≤ mv
    · have hm2b : ¬ mv < 2 := by omega
      have hcr := crash_calls D8 x8 0 mv none 0 0 [] 2 [([97], 2)] W8 hI8.od hG8 (Nat.zero_le _) (Row.nil _ _ _) (by rw [← hV8.out]; unfold crashM; simp only [List.length_cons, List.length_nil]; omega) (by rw [← hV8.out]; rfl)
      have hG11 : Good (crashD D8 [([97], 2)] []) := good_crash hG8 (k := 2) (by rw [← hV8.out]; rfl) _
      have hrp0 : ∀ (rl : List UInt8) (rerr : Int), ReadPost (crashD D8 [([97], 2)] []) [97] rl rerr → rl = young ∧ rerr = 0 := by
        intro rl rerr h
        rw [← hV8.out] at h
        exact one_end2 old young _ _ h
      obtain ⟨D11, hD11⟩ : ∃ D, crashD D8 [([97], 2)] [] = D := ⟨_, rfl⟩
      rw [hD11] at hcr hG11 hrp0
      have hrp0h := Lib.hid hrp0
      clear hD11 hrp0
      go_wp2_with fail
      refine hcr.mono ?_
      rintro e v11 ⟨x11, rfl, hO11, hy11⟩
      have hE11 := hI8.ext.trans hy11
      unfold dkv dcs
      dsimp only
      go_upto_region 20 with fail
      have hO11b := hO11.ext (Ext.alloc v11 (.cells #[.int .i64 D11.quota, .slice x11.fa x11.fn x11.fc, .slice x11.na x11.nn x11.nc, .slice x11.ka x11.kn x11.kc, .slice x11.ma x11.mn x11.mc, .int .i64 D11.next] 29))
      have hn11 := heap_alloc_new v11 (.cells #[.int .i64 D11.quota, .slice x11.fa x11.fn x11.fc, .slice x11.na x11.nn x11.nc, .slice x11.ka x11.kn x11.kc, .slice x11.ma x11.mn x11.mc, .int .i64 D11.next] 29)
      have hz11 := Ext.alloc v11 (.cells #[.int .i64 D11.quota, .slice x11.fa x11.fn x11.fc, .slice x11.na x11.nn x11.nc, .slice x11.ka x11.kn x11.kc, .slice x11.ma x11.mn x11.mc, .int .i64 D11.next] 29)
      obtain ⟨W11, hW11⟩ : ∃ W11, v11.alloc (.cells #[.int .i64 D11.quota, .slice x11.fa x11.fn x11.fc, .slice x11.na x11.nn x11.nc, .slice x11.ka x11.kn x11.kc, .slice x11.ma x11.mn x11.mc, .int .i64 D11.next] 29) = W11 := ⟨_, rfl⟩
      obtain ⟨B11, hB11⟩ : ∃ B, v11.heap.size = B := ⟨_, rfl⟩
      rw [hW11] at hO11b hn11 hz11 ⊢
      rw [hB11] at hn11 ⊢
      clear hW11 hB11 hO11 y0 y1 y2 y3 y4 y5
      obtain ⟨⟨y0, y1, y2, y3, y4, y5⟩, _⟩ := cells_six hn11
      have hrd := read_calls D11 x11 0 [97] W11 hO11b hG11 rfl
      go_wp2_with fail
      refine hrd.mono ?_
      rintro e v12 ⟨ra, rn, rc, rl, rerr, rfl, hrp, hrb, hy12⟩
      obtain ⟨rfl, rfl⟩ := hrp0h.out _ _ hrp
      have hE12 := (hE11.trans hz11).trans hy12
      have hsm := same_calls ra rn rc _ ya yn yc _ v12 hrb (hby.ext hE12)
      clear y0 y1 y2 y3 y4 y5 hrp hrp0h
      go_wp2_with fail
      refine hsm.mono ?_
      rintro e v13 ⟨rfl, q, rfl⟩
      go_wp2_with fail
      go_ret
      exact ⟨by simp, hE12.trans (Ext.drewN v12 q)⟩
    · have hm2b : mv < 2 := by omega
      by_cases hm1 : 1 ≤ mv
      · skip
        have hcr := crash_calls D8 x8 0 mv none 0 0 [] 1 [([97], 1), ([98], 2)] W8 hI8.od hG8 (Nat.zero_le _) (Row.nil _ _ _) (by rw [← hV8.out]; unfold crashM; simp only [List.length_cons, List.length_nil]; omega) (by rw [← hV8.out]; rfl)
        have hG11 : Good (crashD D8 [([97], 1), ([98], 2)] []) := good_crash hG8 (k := 1) (by rw [← hV8.out]; rfl) _
        have hrp0 : ∀ (rl : List UInt8) (rerr : Int), ReadPost (crashD D8 [([97], 1), ([98], 2)] []) [97] rl rerr → rl = old ∧ rerr = 0 := by
          intro rl rerr h
          rw [← hV8.out] at h
          exact one_end1 old young _ _ h
        obtain ⟨D11, hD11⟩ : ∃ D, crashD D8 [([97], 1), ([98], 2)] [] = D := ⟨_, rfl⟩
        rw [hD11] at hcr hG11 hrp0
        have hrp0h := Lib.hid hrp0
        clear hD11 hrp0
        go_wp2_with fail
        refine hcr.mono ?_
        rintro e v11 ⟨x11, rfl, hO11, hy11⟩
        have hE11 := hI8.ext.trans hy11
        unfold dkv dcs
        dsimp only
        go_upto_region 20 with fail
        have hO11b := hO11.ext (Ext.alloc v11 (.cells #[.int .i64 D11.quota, .slice x11.fa x11.fn x11.fc, .slice x11.na x11.nn x11.nc, .slice x11.ka x11.kn x11.kc, .slice x11.ma x11.mn x11.mc, .int .i64 D11.next] 29))
        have hn11 := heap_alloc_new v11 (.cells #[.int .i64 D11.quota, .slice x11.fa x11.fn x11.fc, .slice x11.na x11.nn x11.nc, .slice x11.ka x11.kn x11.kc, .slice x11.ma x11.mn x11.mc, .int .i64 D11.next] 29)
        have hz11 := Ext.alloc v11 (.cells #[.int .i64 D11.quota, .slice x11.fa x11.fn x11.fc, .slice x11.na x11.nn x11.nc, .slice x11.ka x11.kn x11.kc, .slice x11.ma x11.mn x11.mc, .int .i64 D11.next] 29)
        obtain ⟨W11, hW11⟩ : ∃ W11, v11.alloc (.cells #[.int .i64 D11.quota, .slice x11.fa x11.fn x11.fc, .slice x11.na x11.nn x11.nc, .slice x11.ka x11.kn x11.kc, .slice x11.ma x11.mn x11.mc, .int .i64 D11.next] 29) = W11 := ⟨_, rfl⟩
        obtain ⟨B11, hB11⟩ : ∃ B, v11.heap.size = B := ⟨_, rfl⟩
        rw [hW11] at hO11b hn11 hz11 ⊢
        rw [hB11] at hn11 ⊢
        clear hW11 hB11 hO11 y0 y1 y2 y3 y4 y5
        obtain ⟨⟨y0, y1, y2, y3, y4, y5⟩, _⟩ := cells_six hn11
        have hrd := read_calls D11 x11 0 [97] W11 hO11b hG11 rfl
        go_wp2_with fail
        refine hrd.mono ?_
        rintro e v12 ⟨ra, rn, rc, rl, rerr, rfl, hrp, hrb, hy12⟩
        obtain ⟨rfl, rfl⟩ := hrp0h.out _ _ hrp
        have hE12 := (hE11.trans hz11).trans hy12
        have hsm := same_calls ra rn rc _ oa on oc _ v12 hrb (hbo.ext hE12)
        clear y0 y1 y2 y3 y4 y5 hrp hrp0h
        go_wp2_with fail
        refine hsm.mono ?_
        rintro e v13 ⟨rfl, q, rfl⟩
        go_wp2_with fail
        go_ret
        exact ⟨by simp, hE12.trans (Ext.drewN v12 q)⟩
      · skip
        have hcr := crash_calls D8 x8 0 mv none 0 0 [] 0 [([97], 1)] W8 hI8.od hG8 (Nat.zero_le _) (Row.nil _ _ _) (by rw [← hV8.out]; unfold crashM; simp only [List.length_cons, List.length_nil]; omega) (by rw [← hV8.out]; rfl)
        have hG11 : Good (crashD D8 [([97], 1)] []) := good_crash hG8 (k := 0) (by rw [← hV8.out]; rfl) _
        have hrp0 : ∀ (rl : List UInt8) (rerr : Int), ReadPost (crashD D8 [([97], 1)] []) [97] rl rerr → rl = old ∧ rerr = 0 := by
          intro rl rerr h
          rw [← hV8.out] at h
          exact one_end0 old young _ _ h
        obtain ⟨D11, hD11⟩ : ∃ D, crashD D8 [([97], 1)] [] = D := ⟨_, rfl⟩
        rw [hD11] at hcr hG11 hrp0
        have hrp0h := Lib.hid hrp0
        clear hD11 hrp0
        go_wp2_with fail
        refine hcr.mono ?_
        rintro e v11 ⟨x11, rfl, hO11, hy11⟩
        have hE11 := hI8.ext.trans hy11
        unfold dkv dcs
        dsimp only
        go_upto_region 20 with fail
        have hO11b := hO11.ext (Ext.alloc v11 (.cells #[.int .i64 D11.quota, .slice x11.fa x11.fn x11.fc, .slice x11.na x11.nn x11.nc, .slice x11.ka x11.kn x11.kc, .slice x11.ma x11.mn x11.mc, .int .i64 D11.next] 29))
        have hn11 := heap_alloc_new v11 (.cells #[.int .i64 D11.quota, .slice x11.fa x11.fn x11.fc, .slice x11.na x11.nn x11.nc, .slice x11.ka x11.kn x11.kc, .slice x11.ma x11.mn x11.mc, .int .i64 D11.next] 29)
        have hz11 := Ext.alloc v11 (.cells #[.int .i64 D11.quota, .slice x11.fa x11.fn x11.fc, .slice x11.na x11.nn x11.nc, .slice x11.ka x11.kn x11.kc, .slice x11.ma x11.mn x11.mc, .int .i64 D11.next] 29)
        obtain ⟨W11, hW11⟩ : ∃ W11, v11.alloc (.cells #[.int .i64 D11.quota, .slice x11.fa x11.fn x11.fc, .slice x11.na x11.nn x11.nc, .slice x11.ka x11.kn x11.kc, .slice x11.ma x11.mn x11.mc, .int .i64 D11.next] 29) = W11 := ⟨_, rfl⟩
        obtain ⟨B11, hB11⟩ : ∃ B, v11.heap.size = B := ⟨_, rfl⟩
        rw [hW11] at hO11b hn11 hz11 ⊢
        rw [hB11] at hn11 ⊢
        clear hW11 hB11 hO11 y0 y1 y2 y3 y4 y5
        obtain ⟨⟨y0, y1, y2, y3, y4, y5⟩, _⟩ := cells_six hn11
        have hrd := read_calls D11 x11 0 [97] W11 hO11b hG11 rfl
        go_wp2_with fail
        refine hrd.mono ?_
        rintro e v12 ⟨ra, rn, rc, rl, rerr, rfl, hrp, hrb, hy12⟩
        obtain ⟨rfl, rfl⟩ := hrp0h.out _ _ hrp
        have hE12 := (hE11.trans hz11).trans hy12
        have hsm := same_calls ra rn rc _ oa on oc _ v12 hrb (hbo.ext hE12)
        clear y0 y1 y2 y3 y4 y5 hrp hrp0h
        go_wp2_with fail
        refine hsm.mono ?_
        rintro e v13 ⟨rfl, q, rfl⟩
        go_wp2_with fail
        go_ret
        exact ⟨by simp, hE12.trans (Ext.drewN v12 q)⟩

end Go.Proofs.Ytponbponacdhkaa

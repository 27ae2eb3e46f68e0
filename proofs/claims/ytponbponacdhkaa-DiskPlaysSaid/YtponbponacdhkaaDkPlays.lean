/-
  Layer 6: whatever is done, the disk is right, and never holds more than its quota.
-/
import Derived.Test.YtponbponacdhkaaDkSureP
import Derived.Test.YtponbponacdhkaaRegTurn
namespace Go.Proofs.Ytponbponacdhkaa
open Go.RowKit

/-- The state between two steps of a play. -/
def PlayI4 (w : World) (B ln : Nat) (q : Int) (vi : Value) (wr : World) : Prop :=
  ∃ (k : Nat) (x : DV) (D : Dk), k ≤ ln ∧ vi = .int .i64 k ∧ Hid (InBox w wr B x D) ∧ Hid (Played D k q)
set_option maxRecDepth 100000 in
set_option maxHeartbeats 12800000 in
theorem plays_calls (a : Option Addr) (n c : Nat) (M : List Sh) (q : Int) (hq0 : 0 ≤ q) (hq1 : q < 256) (w : World) (hs : Steps w a n c M) :
    Calls Try.prog 4 #[.slice a n c, .int .u8 q] w fun e w' => e = .returned (.bool true) ∧ Ext w w' := by
  go_enter Try.func4, Try.ntmps4
  have hlen := hs.len
  have hsh := Lib.hid hs
  have hmx := Nat.le_trans (Sl.le hs.row) (Sl.max hs.row)
  unfold maxLen at hmx
  have hmy := Lib.hid (many_calls a n c M)
  clear hs
  go_wp2_with fail
  refine (alive06_calls _).mono ?_
  rintro e w1 ⟨rfl, hx1⟩
  go_wp2_with fail
  refine (hmy.out w1 (hsh.out.ext hx1)).mono ?_
  rintro e w2 ⟨b, rfl, hb, hx2⟩
  have hX2 := hx1.trans hx2
  clear hx1 hx2 hmy
  cases b with
  | true =>
    go_wp2_with fail
    go_ret
    exact ⟨rfl, hX2⟩
  | false =>
    have hM := hb rfl
    rw [hlen] at hM
    have hlenh := Lib.hid hlen
    clear hb hlen
    go_wp2_with fail
    refine (new_calls q _ (by omega) (by omega)).mono ?_
    rintro e v0 ⟨rfl, hy0⟩
    have hXv := hX2.trans hy0
    clear hX2 hy0
    go_upto_region 6 with fail
    obtain ⟨W0, hW0⟩ : ∃ W0, v0.alloc (.cells #[.int .i64 q, .slice none 0 0, .slice none 0 0, .slice none 0 0, .slice none 0 0, .int .i64 1] 29) = W0 := ⟨_, rfl⟩
    obtain ⟨B, hB⟩ : ∃ B, v0.heap.size = B := ⟨_, rfl⟩
    have hI0 : Hid (InBox w W0 B xnil ⟨q, [], [], [], [], 1⟩) := by
      show InBox _ _ _ _ _
      rw [← hW0, ← hB]
      exact ⟨hXv.trans (Ext.alloc _ _), hXv.size, heap_alloc_new _ _, OD.nil _ _⟩
    have hP0 : Hid (Played ⟨q, [], [], [], [], 1⟩ 0 q) := Played.start ⟨by omega, by omega⟩
    rw [hW0, hB]
    clear hW0 hB hXv
    go_wp2_with fail
    go_loopw [7] (fun vi wr => PlayI4 w B n q vi wr) (fun vi _ => n - (intOf vi).toNat)
    case atStart => exact ⟨0, xnil, _, Nat.zero_le _, rfl, hI0, hP0⟩
    case round =>
      obtain ⟨k, x0, D0, hk, rfl, hIh, hPh⟩ := hrel
      clear hI0 hP0
      obtain ⟨W0, hW0⟩ : ∃ W0 : World, wr = W0 := ⟨_, rfl⟩
      rw [hW0] at hIh ⊢
      clear hW0
      by_cases hlk : k < n
      · obtain ⟨b0, o0, rfl, hc⟩ := hsh.out.at (by omega)
        have hkL : k < M.length := by have := hlenh.out; omega
        have hbs := hsh.out.bytes M[k] (List.getElem_mem hkL)
        have hsm := hsh.out.small M[k] (List.getElem_mem hkL)
        obtain ⟨c0, c1, c2, c3⟩ := hc k hkL
        obtain ⟨⟨⟨kind, nm, dst, data⟩, pa, pn, pc⟩, hy⟩ : ∃ y, M[k] = y := ⟨_, rfl⟩
        rw [hy] at c0 c1 c2 c3 hbs hsm
        dsimp only at c0 c1 c2 c3 hbs hsm
        have hop := Lib.hid (fun W (h : Ext W0 W) => play_calls D0 x0 0 ⟨kind, nm, dst, data⟩ pa pn pc W (hIh.out.on h).od hPh.out.good (Nat.zero_le _) (by have := hPh.out.moves; omega) (hbs.ext (hIh.out.ext.trans h)) hsm)
        have hP1 := Lib.hid (hPh.out.step (by omega) ⟨kind, nm, dst, data⟩)
        obtain ⟨⟨D1, er⟩, hR⟩ : ∃ R, playD D0 ⟨kind, nm, dst, data⟩ = R := ⟨_, rfl⟩
        rw [hR] at hop hP1
        have her : Hid (er ≠ 0 → D1 = D0) := fun h => by have h1 := play_err (D := D0) (y := ⟨kind, nm, dst, data⟩) (by rw [hR]; exact h); rw [hR] at h1; exact h1
        dsimp only at hop hP1
        obtain ⟨⟨y0, y1, y2, y3, y4, y5⟩, _⟩ := cells_six hIh.out.blk
        have t0 := hIh.out.ext.cell c0
        have t1 := hIh.out.ext.cell c1
        have t2 := hIh.out.ext.cell c2
        have t3 := hIh.out.ext.cell c3
        clear hc hbs hsm hy c0 c1 c2 c3
        go_upto_region 9 with fail
        obtain ⟨X, iX, f, hxS0, hSx0⟩ := letters (fun w' => Ext W0 w') W0 (Ext.refl W0)
        have hxS := Lib.hid hxS0
        have hSx := Lib.hid hSx0
        clear hxS0 hSx0
        have u0 : ∀ x', (f x').cell? ⟨B, 0, none⟩ = some (.int .i64 D0.quota) := fun x' => (hxS.out x').cell y0
        have u1 : ∀ x', (f x').cell? ⟨B, 1, none⟩ = some (.slice x0.fa x0.fn x0.fc) := fun x' => (hxS.out x').cell y1
        have u2 : ∀ x', (f x').cell? ⟨B, 2, none⟩ = some (.slice x0.na x0.nn x0.nc) := fun x' => (hxS.out x').cell y2
        have u3 : ∀ x', (f x').cell? ⟨B, 3, none⟩ = some (.slice x0.ka x0.kn x0.kc) := fun x' => (hxS.out x').cell y3
        have u4 : ∀ x', (f x').cell? ⟨B, 4, none⟩ = some (.slice x0.ma x0.mn x0.mc) := fun x' => (hxS.out x').cell y4
        have u5 : ∀ x', (f x').cell? ⟨B, 5, none⟩ = some (.int .i64 D0.next) := fun x' => (hxS.out x').cell y5
        have s0 : ∀ x', (f x').cell? ⟨b0, o0 + k * 4, none⟩ = some (.int .u8 (kind : Int)) := fun x' => (hxS.out x').cell t0
        have s1 : ∀ x', (f x').cell? ⟨b0, o0 + k * 4 + 1, none⟩ = some (.int .u8 (nm : Int)) := fun x' => (hxS.out x').cell t1
        have s2 : ∀ x', (f x').cell? ⟨b0, o0 + k * 4 + 2, none⟩ = some (.int .u8 (dst : Int)) := fun x' => (hxS.out x').cell t2
        have s3 : ∀ x', (f x').cell? ⟨b0, o0 + k * 4 + 3, none⟩ = some (.slice pa pn pc) := fun x' => (hxS.out x').cell t3
        clear y0 y1 y2 y3 y4 y5 t0 t1 t2 t3
        refine region_legs 10 (.quiet [0, 1, 2, 3, 4] (.alt 5 9 (.free [6, 7, 8] (.act 9 (.turn (.free [11] .done)))) (.act 5 (.free [6, 7, 8] (.turn (.free [11] .done)))))) (fun w' => ∃ x' : X, w' = f x') (by kernel_rfl) (by kernel_rfl) (hSx.out _ (Ext.drewN W0 1)) ?_
        refine legs_quiet ?_
        simp only [sel, List.getElem?_toArray, List.getElem?_cons_zero, List.getElem?_cons_succ]
        repeat (go_big_quiet_step (fail))
        refine wpQuiet_nil ?_
        clear u0 u1 u2 u3 u4 u5 s0 s1 s2 s3
        refine legs_alt ?_ ?_
        · intro Q2 hQ2
          simp only [sel, List.getElem?_toArray, List.getElem?_cons_zero, List.getElem?_cons_succ]
          go_wp2_with fail
          refine (hop.out _ (Ext.drewN W0 1)).mono ?_
          rintro e v1 ⟨x1, rfl, hO1, hx1⟩
          have hy1 := (Ext.drewN W0 1).trans hx1
          unfold dkv dcs
          dsimp only
          go_wp2_with fail
          refine hQ2 _ _ (hSx.out _ hy1) ?_
          refine legs_free ?_
          simp only [sel, List.getElem?_toArray, List.getElem?_cons_zero, List.getElem?_cons_succ]
          repeat (go_big_quiet_step (fail))
          refine wpQuiet_nil ?_
          refine legs_act ?_
          intro Q3 hQ3
          simp only [sel, List.getElem?_toArray, List.getElem?_cons_zero, List.getElem?_cons_succ]
          go_wp2_with fail
          refine hQ3 _ _ (hSx.out _ (hy1.trans (Ext.alloc v1 (.cells #[.int .i64 0, .slice none 0 0, .slice none 0 0, .slice none 0 0, .slice none 0 0, .int .i64 0] 29)))) ?_
          obtain ⟨V, hV, hVx, hVb, hVo⟩ : ∃ V, v1.alloc (.cells #[.int .i64 0, .slice none 0 0, .slice none 0 0, .slice none 0 0, .slice none 0 0, .int .i64 0] 29) = V ∧ Ext W0 V ∧ V.heap[v1.heap.size]? = some (.cells #[.int .i64 0, .slice none 0 0, .slice none 0 0, .slice none 0 0, .slice none 0 0, .int .i64 0] 29 (0, 0)) ∧ OD V 0 x1 D1 := ⟨_, rfl, hy1.trans (Ext.alloc _ _), heap_alloc_new _ _, hO1.ext (Ext.alloc _ _)⟩
          obtain ⟨Bx, hBx, hBle⟩ : ∃ Bx, v1.heap.size = Bx ∧ W0.heap.size ≤ Bx := ⟨_, rfl, hy1.size⟩
          rw [hV, hBx]
          rw [hBx] at hVb
          clear hV hBx hQ2 hQ3 hy1 hx1 hO1
          obtain ⟨⟨y0, y1, y2, y3, y4, y5⟩, ⟨g0, g1, g2, g3, g4, g5⟩⟩ := cells_six hVb
          have hl1 := lt_of_block hVb
          refine legs_turn ?_
          intro Q4 hQ4
          simp only [sel, List.getElem?_toArray, List.getElem?_cons_zero, List.getElem?_cons_succ]
          clear hop hSx hxS iX
          go_wp2_with fail
          have hgV := put6_grownBy V Bx (.int .i64 D1.quota) (.slice x1.fa x1.fn x1.fc) (.slice x1.na x1.nn x1.nc) (.slice x1.ka x1.kn x1.kc) (.slice x1.ma x1.mn x1.mc) (.int .i64 D1.next)
          have hbW := put6_block hVb (.int .i64 D1.quota) (.slice x1.fa x1.fn x1.fc) (.slice x1.na x1.nn x1.nc) (.slice x1.ka x1.kn x1.kc) (.slice x1.ma x1.mn x1.mc) (.int .i64 D1.next)
          have hoW := hVo.beside hVb hgV (by decide) (by decide) (by decide) (by decide)
          have hxW := hVx.grown hgV (fun k e => by cases e; exact hBle)
          have hIW := hIh.out.on hxW
          refine legs_free ?_
          simp only [sel, List.getElem?_toArray, List.getElem?_cons_zero, List.getElem?_cons_succ]
          repeat (go_big_quiet_step (fail))
          refine wpQuiet_nil ?_
          refine legs_end ?_
          go_upto_region 10 with fail
          obtain ⟨W1, hW1⟩ : ∃ W1, put6 V Bx (.int .i64 D1.quota) (.slice x1.fa x1.fn x1.fc) (.slice x1.na x1.nn x1.nc) (.slice x1.ka x1.kn x1.kc) (.slice x1.ma x1.mn x1.mc) (.int .i64 D1.next) = W1 := ⟨_, rfl⟩
          rw [hW1] at hbW hoW hIW
          change Code.wp _ _ _ _ (put6 V Bx (.int .i64 D1.quota) (.slice x1.fa x1.fn x1.fc) (.slice x1.na x1.nn x1.nc) (.slice x1.ka x1.kn x1.kc) (.slice x1.ma x1.mn x1.mc) (.int .i64 D1.next))
          rw [hW1]
          clear hW1 hgV hxW hVx hVb hVo hIh y0 y1 y2 y3 y4 y5 g0 g1 g2 g3 g4 g5 hl1 hBle
          obtain ⟨⟨y0, y1, y2, y3, y4, y5⟩, _⟩ := cells_six hbW
          have hrt := right_calls D1 x1 0 W1 hoW hP1.out.good
          go_wp2_with fail
          refine hrt.mono ?_
          rintro e W2 ⟨rfl, hx2⟩
          have hbW2 := (hx2.block _ (lt_of_block hbW)).trans hbW
          have hoW2 := hoW.ext hx2
          have hIW2 := hIW.on hx2
          clear y0 y1 y2 y3 y4 y5 hbW hoW hIW hrt
          obtain ⟨⟨y0, y1, y2, y3, y4, y5⟩, _⟩ := cells_six hbW2
          have hus := used_calls D1 x1 0 W2 hoW2 hP1.out.good
          have hle : (total D1.files : Int) ≤ q := hP1.out.used
          obtain ⟨tt, htt⟩ : ∃ tt, total D1.files = tt := ⟨_, rfl⟩
          rw [htt] at hus hle
          clear htt
          go_wp2_with fail
          refine hus.mono ?_
          rintro e W3 ⟨rfl, hx3⟩
          have hbW3 := (hx3.block _ (lt_of_block hbW2)).trans hbW2
          have ho2 := hoW2.ext hx3
          have hI2 := hIW2.on hx3
          clear y0 y1 y2 y3 y4 y5 hbW2 hoW2 hIW2 hus hx2 hx3
          obtain ⟨⟨y0, y1, y2, y3, y4, y5⟩, _⟩ := cells_six hbW3
          by_cases he0 : er = 0
          · subst he0
            clear her
            have hI3 := (hI2.on (Ext.refl _)).step (Ext.refl _) (ho2)
            have hb3 := (hI2.on (Ext.refl _)).blk
            obtain ⟨⟨p0, p1, p2, p3, p4, p5⟩, ⟨g0, g1, g2, g3, g4, g5⟩⟩ := cells_six hb3
            have hl3 := lt_of_block hb3
            go_wp2_with fail
            go_roundw
            case rel => exact ⟨k + 1, x1, D1, by omega, by go_num, hI3, hP1⟩
            case measure => simp [intOf]; omega
          · obtain rfl := her.out he0
            have he1 : (er != 0) = true := by simpa using he0
            obtain ⟨⟨p0, p1, p2, p3, p4, p5⟩, _⟩ := cells_six hI2.blk
            have hsm := dsame_calls D1 x1 x0 0 0 W3 ho2 hI2.od hP1.out.good
            go_wp2_with fail
            refine hsm.mono ?_
            rintro e W4 ⟨rfl, hx4⟩
            have hbW4 := (hx4.block _ (lt_of_block hbW3)).trans hbW3
            clear y0 y1 y2 y3 y4 y5 hbW3 hsm p0 p1 p2 p3 p4 p5 her
            obtain ⟨⟨y0, y1, y2, y3, y4, y5⟩, _⟩ := cells_six hbW4
            have hI3 := (hI2.on hx4).step (Ext.refl _) (ho2.ext hx4)
            have hb3 := (hI2.on hx4).blk
            obtain ⟨⟨p0, p1, p2, p3, p4, p5⟩, ⟨g0, g1, g2, g3, g4, g5⟩⟩ := cells_six hb3
            have hl3 := lt_of_block hb3
            go_wp2_with fail
            go_roundw
            case rel => exact ⟨k + 1, x1, D1, by omega, by go_num, hI3, hP1⟩
            case measure => simp [intOf]; omega
        · intro Q2 hQ2
          simp only [sel, List.getElem?_toArray, List.getElem?_cons_zero, List.getElem?_cons_succ]
          go_wp2_with fail
          obtain ⟨V0, hV0, hVx0, hVb0⟩ : ∃ V, (W0.alloc (.cells #[.int .i64 0, .slice none 0 0, .slice none 0 0, .slice none 0 0, .slice none 0 0, .int .i64 0] 29)).drew = V ∧ Ext W0 V ∧ V.heap[W0.heap.size]? = some (.cells #[.int .i64 0, .slice none 0 0, .slice none 0 0, .slice none 0 0, .slice none 0 0, .int .i64 0] 29 (0, 0)) := ⟨_, rfl, (Ext.alloc _ _).trans (Ext.drewN _ 1), heap_alloc_new _ _⟩
          obtain ⟨Bx, hBx, hBle⟩ : ∃ Bx, W0.heap.size = Bx ∧ W0.heap.size ≤ Bx := ⟨_, rfl, Nat.le_refl _⟩
          rw [hV0, hBx]
          rw [hBx] at hVb0
          clear hV0
          refine hQ2 _ _ (hSx.out _ hVx0) ?_
          refine legs_act ?_
          intro Q3 hQ3
          simp only [sel, List.getElem?_toArray, List.getElem?_cons_zero, List.getElem?_cons_succ]
          go_wp2_with fail
          refine (hop.out _ hVx0).mono ?_
          rintro e V ⟨x1, rfl, hVo, hx1⟩
          have hVx := hVx0.trans hx1
          have hVb := (hx1.block _ (lt_of_block hVb0)).trans hVb0
          unfold dkv dcs
          dsimp only
          go_wp2_with fail
          refine hQ3 _ _ (hSx.out _ hVx) ?_
          refine legs_free ?_
          simp only [sel, List.getElem?_toArray, List.getElem?_cons_zero, List.getElem?_cons_succ]
          repeat (go_big_quiet_step (fail))
          refine wpQuiet_nil ?_
          clear hQ2 hQ3 hx1 hVx0 hVb0
          obtain ⟨⟨y0, y1, y2, y3, y4, y5⟩, ⟨g0, g1, g2, g3, g4, g5⟩⟩ := cells_six hVb
          have hl1 := lt_of_block hVb
          refine legs_turn ?_
          intro Q4 hQ4
          simp only [sel, List.getElem?_toArray, List.getElem?_cons_zero, List.getElem?_cons_succ]
          clear hop hSx hxS iX hBx
          go_wp2_with fail
          have hgV := put6_grownBy V Bx (.int .i64 D1.quota) (.slice x1.fa x1.fn x1.fc) (.slice x1.na x1.nn x1.nc) (.slice x1.ka x1.kn x1.kc) (.slice x1.ma x1.mn x1.mc) (.int .i64 D1.next)
          have hbW := put6_block hVb (.int .i64 D1.quota) (.slice x1.fa x1.fn x1.fc) (.slice x1.na x1.nn x1.nc) (.slice x1.ka x1.kn x1.kc) (.slice x1.ma x1.mn x1.mc) (.int .i64 D1.next)
          have hoW := hVo.beside hVb hgV (by decide) (by decide) (by decide) (by decide)
          have hxW := hVx.grown hgV (fun k e => by cases e; exact hBle)
          have hIW := hIh.out.on hxW
          refine legs_free ?_
          simp only [sel, List.getElem?_toArray, List.getElem?_cons_zero, List.getElem?_cons_succ]
          repeat (go_big_quiet_step (fail))
          refine wpQuiet_nil ?_
          refine legs_end ?_
          go_upto_region 10 with fail
          obtain ⟨W1, hW1⟩ : ∃ W1, put6 V Bx (.int .i64 D1.quota) (.slice x1.fa x1.fn x1.fc) (.slice x1.na x1.nn x1.nc) (.slice x1.ka x1.kn x1.kc) (.slice x1.ma x1.mn x1.mc) (.int .i64 D1.next) = W1 := ⟨_, rfl⟩
          rw [hW1] at hbW hoW hIW
          change Code.wp _ _ _ _ (put6 V Bx (.int .i64 D1.quota) (.slice x1.fa x1.fn x1.fc) (.slice x1.na x1.nn x1.nc) (.slice x1.ka x1.kn x1.kc) (.slice x1.ma x1.mn x1.mc) (.int .i64 D1.next))
          rw [hW1]
          clear hW1 hgV hxW hVx hVb hVo hIh y0 y1 y2 y3 y4 y5 g0 g1 g2 g3 g4 g5 hl1 hBle
          obtain ⟨⟨y0, y1, y2, y3, y4, y5⟩, _⟩ := cells_six hbW
          have hrt := right_calls D1 x1 0 W1 hoW hP1.out.good
          go_wp2_with fail
          refine hrt.mono ?_
          rintro e W2 ⟨rfl, hx2⟩
          have hbW2 := (hx2.block _ (lt_of_block hbW)).trans hbW
          have hoW2 := hoW.ext hx2
          have hIW2 := hIW.on hx2
          clear y0 y1 y2 y3 y4 y5 hbW hoW hIW hrt
          obtain ⟨⟨y0, y1, y2, y3, y4, y5⟩, _⟩ := cells_six hbW2
          have hus := used_calls D1 x1 0 W2 hoW2 hP1.out.good
          have hle : (total D1.files : Int) ≤ q := hP1.out.used
          obtain ⟨tt, htt⟩ : ∃ tt, total D1.files = tt := ⟨_, rfl⟩
          rw [htt] at hus hle
          clear htt
          go_wp2_with fail
          refine hus.mono ?_
          rintro e W3 ⟨rfl, hx3⟩
          have hbW3 := (hx3.block _ (lt_of_block hbW2)).trans hbW2
          have ho2 := hoW2.ext hx3
          have hI2 := hIW2.on hx3
          clear y0 y1 y2 y3 y4 y5 hbW2 hoW2 hIW2 hus hx2 hx3
          obtain ⟨⟨y0, y1, y2, y3, y4, y5⟩, _⟩ := cells_six hbW3
          by_cases he0 : er = 0
          · subst he0
            clear her
            have hI3 := (hI2.on (Ext.refl _)).step (Ext.refl _) (ho2)
            have hb3 := (hI2.on (Ext.refl _)).blk
            obtain ⟨⟨p0, p1, p2, p3, p4, p5⟩, ⟨g0, g1, g2, g3, g4, g5⟩⟩ := cells_six hb3
            have hl3 := lt_of_block hb3
            go_wp2_with fail
            go_roundw
            case rel => exact ⟨k + 1, x1, D1, by omega, by go_num, hI3, hP1⟩
            case measure => simp [intOf]; omega
          · obtain rfl := her.out he0
            have he1 : (er != 0) = true := by simpa using he0
            obtain ⟨⟨p0, p1, p2, p3, p4, p5⟩, _⟩ := cells_six hI2.blk
            have hsm := dsame_calls D1 x1 x0 0 0 W3 ho2 hI2.od hP1.out.good
            go_wp2_with fail
            refine hsm.mono ?_
            rintro e W4 ⟨rfl, hx4⟩
            have hbW4 := (hx4.block _ (lt_of_block hbW3)).trans hbW3
            clear y0 y1 y2 y3 y4 y5 hbW3 hsm p0 p1 p2 p3 p4 p5 her
            obtain ⟨⟨y0, y1, y2, y3, y4, y5⟩, _⟩ := cells_six hbW4
            have hI3 := (hI2.on hx4).step (Ext.refl _) (ho2.ext hx4)
            have hb3 := (hI2.on hx4).blk
            obtain ⟨⟨p0, p1, p2, p3, p4, p5⟩, ⟨g0, g1, g2, g3, g4, g5⟩⟩ := cells_six hb3
            have hl3 := lt_of_block hb3
            go_wp2_with fail
            go_roundw
            case rel => exact ⟨k + 1, x1, D1, by omega, by go_num, hI3, hP1⟩
            case measure => simp [intOf]; omega
      · obtain rfl : k = n := by omega
        go_wp2_with fail
        go_ret
        exact ⟨rfl, hIh.out.ext⟩
end Go.Proofs.Ytponbponacdhkaa

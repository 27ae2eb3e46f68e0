/-
  Layer 6: what was synced, and whose name was kept, is there behind any crash.
-/
import Derived.Test.YtponbponacdhkaaDkSureP
import Derived.Test.YtponbponacdhkaaRegTurn
namespace Go.Proofs.Ytponbponacdhkaa
open Go.RowKit

/-- The state between two steps of a play. -/
def PlayI5 (w : World) (B ln : Nat) (q : Int) (vi : Value) (wr : World) : Prop :=
  ∃ (k : Nat) (x : DV) (D : Dk), k ≤ ln ∧ vi = .int .i64 k ∧ Hid (InBox w wr B x D) ∧ Hid (Played D k q)
set_option maxRecDepth 100000 in
set_option maxHeartbeats 12800000 in
theorem sure_calls (a : Option Addr) (n c : Nat) (M : List Sh) (mv : Int) (qa : Option Addr) (qn qc : Nat) (K : List Kp) (w : World) (hs : Steps w a n c M) (hK : Row kcl 2 w qa qn qc K) :
    Calls Try.prog 5 #[.slice a n c, .int .i64 mv, .slice qa qn qc] w fun e w' => e = .returned (.bool true) ∧ Ext w w' := by
  have hKh := Lib.hid hK
  clear hK
  go_enter Try.func5, Try.ntmps5
  have hlen := hs.len
  have hsh := Lib.hid hs
  have hmx := Nat.le_trans (Sl.le hs.row) (Sl.max hs.row)
  unfold maxLen at hmx
  have hmy := Lib.hid (many_calls a n c M)
  clear hs
  go_wp2_with fail
  refine (alive06_calls _).mono ?_
  rintro e w1 ⟨rfl, hx1⟩
  go_wp2_with fail
  refine (hmy.out w1 (hsh.out.ext hx1)).mono ?_
  rintro e w2 ⟨b, rfl, hb, hx2⟩
  have hX2 := hx1.trans hx2
  clear hx1 hx2 hmy
  cases b with
  | true =>
    go_wp2_with fail
    go_ret
    exact ⟨rfl, hX2⟩
  | false =>
    have hM := hb rfl
    rw [hlen] at hM
    have hlenh := Lib.hid hlen
    clear hb hlen
    by_cases hq : 100 < qn
    · go_wp2_with fail
      go_ret
      exact ⟨rfl, hX2⟩
    go_wp2_with fail
    refine (new_calls 1000 _ (by decide) (by decide)).mono ?_
    rintro e v0 ⟨rfl, hy0⟩
    have hXv := hX2.trans hy0
    clear hX2 hy0
    go_upto_region 6 with fail
    obtain ⟨W0, hW0⟩ : ∃ W0, v0.alloc (.cells #[.int .i64 1000, .slice none 0 0, .slice none 0 0, .slice none 0 0, .slice none 0 0, .int .i64 1] 29) = W0 := ⟨_, rfl⟩
    obtain ⟨B, hB⟩ : ∃ B, v0.heap.size = B := ⟨_, rfl⟩
    have hI0 : Hid (InBox w W0 B xnil ⟨1000, [], [], [], [], 1⟩) := by
      show InBox _ _ _ _ _
      rw [← hW0, ← hB]
      exact ⟨hXv.trans (Ext.alloc _ _), hXv.size, heap_alloc_new _ _, OD.nil _ _⟩
    have hP0 : Hid (Played ⟨1000, [], [], [], [], 1⟩ 0 1000) := Played.start ⟨by decide, by decide⟩
    rw [hW0, hB]
    clear hW0 hB hXv
    go_wp2_with fail
    go_loopw [9] (fun vi wr => PlayI5 w B n 1000 vi wr) (fun vi _ => n - (intOf vi).toNat)
    case atStart => exact ⟨0, xnil, _, Nat.zero_le _, rfl, hI0, hP0⟩
    case round =>
      obtain ⟨k, x0, D0, hk, rfl, hIh, hPh⟩ := hrel
      clear hI0 hP0
      obtain ⟨W0, hW0⟩ : ∃ W0 : World, wr = W0 := ⟨_, rfl⟩
      rw [hW0] at hIh ⊢
      clear hW0
      by_cases hlk : k < n
      · obtain ⟨b0, o0, rfl, hc⟩ := hsh.out.at (by omega)
        have hkL : k < M.length := by have := hlenh.out; omega
        have hbs := hsh.out.bytes M[k] (List.getElem_mem hkL)
        have hsm := hsh.out.small M[k] (List.getElem_mem hkL)
        obtain ⟨c0, c1, c2, c3⟩ := hc k hkL
        obtain ⟨⟨⟨kind, nm, dst, data⟩, pa, pn, pc⟩, hy⟩ : ∃ y, M[k] = y := ⟨_, rfl⟩
        rw [hy] at c0 c1 c2 c3 hbs hsm
        dsimp only at c0 c1 c2 c3 hbs hsm
        have hop := Lib.hid (fun W (h : Ext W0 W) => play_calls D0 x0 0 ⟨kind, nm, dst, data⟩ pa pn pc W (hIh.out.on h).od hPh.out.good (Nat.zero_le _) (by have := hPh.out.moves; omega) (hbs.ext (hIh.out.ext.trans h)) hsm)
        have hP1 := Lib.hid (hPh.out.step (by omega) ⟨kind, nm, dst, data⟩)
        obtain ⟨⟨D1, er⟩, hR⟩ : ∃ R, playD D0 ⟨kind, nm, dst, data⟩ = R := ⟨_, rfl⟩
        rw [hR] at hop hP1
        clear hR
        dsimp only at hop hP1
        obtain ⟨⟨y0, y1, y2, y3, y4, y5⟩, _⟩ := cells_six hIh.out.blk
        have t0 := hIh.out.ext.cell c0
        have t1 := hIh.out.ext.cell c1
        have t2 := hIh.out.ext.cell c2
        have t3 := hIh.out.ext.cell c3
        clear hc hbs hsm hy c0 c1 c2 c3
        go_upto_region 9 with fail
        obtain ⟨X, iX, f, hxS0, hSx0⟩ := letters (fun w' => Ext W0 w') W0 (Ext.refl W0)
        have hxS := Lib.hid hxS0
        have hSx := Lib.hid hSx0
        clear hxS0 hSx0
        have u0 : ∀ x', (f x').cell? ⟨B, 0, none⟩ = some (.int .i64 D0.quota) := fun x' => (hxS.out x').cell y0
        have u1 : ∀ x', (f x').cell? ⟨B, 1, none⟩ = some (.slice x0.fa x0.fn x0.fc) := fun x' => (hxS.out x').cell y1
        have u2 : ∀ x', (f x').cell? ⟨B, 2, none⟩ = some (.slice x0.na x0.nn x0.nc) := fun x' => (hxS.out x').cell y2
        have u3 : ∀ x', (f x').cell? ⟨B, 3, none⟩ = some (.slice x0.ka x0.kn x0.kc) := fun x' => (hxS.out x').cell y3
        have u4 : ∀ x', (f x').cell? ⟨B, 4, none⟩ = some (.slice x0.ma x0.mn x0.mc) := fun x' => (hxS.out x').cell y4
        have u5 : ∀ x', (f x').cell? ⟨B, 5, none⟩ = some (.int .i64 D0.next) := fun x' => (hxS.out x').cell y5
        have s0 : ∀ x', (f x').cell? ⟨b0, o0 + k * 4, none⟩ = some (.int .u8 (kind : Int)) := fun x' => (hxS.out x').cell t0
        have s1 : ∀ x', (f x').cell? ⟨b0, o0 + k * 4 + 1, none⟩ = some (.int .u8 (nm : Int)) := fun x' => (hxS.out x').cell t1
        have s2 : ∀ x', (f x').cell? ⟨b0, o0 + k * 4 + 2, none⟩ = some (.int .u8 (dst : Int)) := fun x' => (hxS.out x').cell t2
        have s3 : ∀ x', (f x').cell? ⟨b0, o0 + k * 4 + 3, none⟩ = some (.slice pa pn pc) := fun x' => (hxS.out x').cell t3
        clear y0 y1 y2 y3 y4 y5 t0 t1 t2 t3
        refine region_legs 9 (.quiet [0, 1, 2, 3, 4] (.act 5 (.free [6, 7, 8] (.turn .done)))) (fun w' => ∃ x' : X, w' = f x') (by kernel_rfl) (by kernel_rfl) (hSx.out _ (Ext.drewN W0 1)) ?_
        refine legs_quiet ?_
        simp only [sel, List.getElem?_toArray, List.getElem?_cons_zero, List.getElem?_cons_succ]
        repeat (go_big_quiet_step (fail))
        refine wpQuiet_nil ?_
        clear u0 u1 u2 u3 u4 u5 s0 s1 s2 s3
        refine legs_act ?_
        intro Q2 hQ2
        simp only [sel, List.getElem?_toArray, List.getElem?_cons_zero, List.getElem?_cons_succ]
        go_wp2_with fail
        refine (hop.out _ (Ext.drewN W0 1)).mono ?_
        rintro e v1 ⟨x1, rfl, hO1, hx1⟩
        have hy1 := (Ext.drewN W0 1).trans hx1
        have hb1 := (hIh.out.on hy1).blk
        obtain ⟨⟨y0, y1, y2, y3, y4, y5⟩, ⟨g0, g1, g2, g3, g4, g5⟩⟩ := cells_six hb1
        have hl1 := lt_of_block hb1
        unfold dkv dcs
        dsimp only
        go_wp2_with fail
        refine hQ2 _ _ (hSx.out _ hy1) ?_
        refine legs_free ?_
        simp only [sel, List.getElem?_toArray, List.getElem?_cons_zero, List.getElem?_cons_succ]
        repeat (go_big_quiet_step (fail))
        refine wpQuiet_nil ?_
        refine legs_turn ?_
        intro Q3 hQ3
        simp only [sel, List.getElem?_toArray, List.getElem?_cons_zero, List.getElem?_cons_succ]
        have hI1 := Lib.hid (hIh.out.step hy1 hO1)
        clear hop hIh hPh hSx hxS iX hO1 hx1
        go_wp2_with fail
        refine legs_end ?_
        go_wp2_with fail
        go_roundw
        case rel => exact ⟨k + 1, x1, D1, by omega, by go_num, hI1, hP1⟩
        case measure => simp [intOf]; omega
      · obtain rfl : k = n := by omega
        clear hlk
        have hI0 := hIh.out
        have hP := hPh.out
        have hG0 := hP.good
        have hc0 := hI0.blk
        clear hIh hPh
        obtain ⟨⟨y0, y1, y2, y3, y4, y5⟩, _⟩ := cells_six hc0
        obtain ⟨D1, hR1, hH1⟩ := has_create hP hM
        obtain ⟨z, hz⟩ : ∃ z, D0.next = z := ⟨_, rfl⟩
        rw [hz] at hH1
        have hG1 : Good D1 := by
          have h1 := (good_create hG0 (by have := hP.moves; omega) [101] rfl).1
          rw [hR1] at h1
          exact h1
        have hH1h := Lib.hid hH1
        clear hH1 hz hP
        have h1 := create_calls D0 x0 0 [101] W0 hI0.od hG0 (Nat.zero_le _) rfl
        rw [hR1] at h1
        clear hR1
        go_wp2_with fail
        refine (h1).mono ?_
        rintro e v1 ⟨x1, rfl, hO1, hy1⟩
        have hb1 := (hI0.on hy1).blk
        obtain ⟨⟨y0, y1, y2, y3, y4, y5⟩, ⟨g0, g1, g2, g3, g4, g5⟩⟩ := cells_six hb1
        have hl1 := lt_of_block hb1
        unfold dkv dcs
        dsimp only
        go_upto_region 11 with fail
        have hI1 := hI0.step hy1 hO1
        clear y0 y1 y2 y3 y4 y5 g0 g1 g2 g3 g4 g5 hb1 hl1 hy1 hO1 hI0
        obtain ⟨W1, hW1⟩ : ∃ W1, put6 v1 B (.int .i64 D1.quota) (.slice x1.fa x1.fn x1.fc) (.slice x1.na x1.nn x1.nc) (.slice x1.ka x1.kn x1.kc) (.slice x1.ma x1.mn x1.mc) (.int .i64 D1.next) = W1 := ⟨_, rfl⟩
        rw [hW1] at hI1
        change Code.wp _ _ _ _ (put6 v1 B (.int .i64 D1.quota) (.slice x1.fa x1.fn x1.fc) (.slice x1.na x1.nn x1.nc) (.slice x1.ka x1.kn x1.kc) (.slice x1.ma x1.mn x1.mc) (.int .i64 D1.next))
        rw [hW1]
        clear hW1
        have hc1 := hI1.blk
        obtain ⟨⟨y0, y1, y2, y3, y4, y5⟩, _⟩ := cells_six hc1
        clear h1 hc0
        rcases has_append hH1h.out [115, 117, 114, 101] with hR2 | ⟨D2, hR2, hH2, _⟩
        · obtain ⟨D2, hR2⟩ : ∃ D2, appendD D1 [101] [115, 117, 114, 101] = (D2, 6) := ⟨D1, hR2⟩
          have h2 := fun W (hx : Ext W1 W) (ba : Option Addr) (bn bc : Nat) (hb : Bs W ba bn bc [115, 117, 114, 101]) => append_calls D1 x1 0 [101] ba bn bc [115, 117, 114, 101] W (hI1.on hx).od hG1 (Nat.zero_le _) rfl hb
          rw [hR2] at h2
          have kc := Lib.run_convert_bytes_const (P := Try.prog) W1 22 5 #[.int .u8 115, .int .u8 117, .int .u8 114, .int .u8 101] 4 4 Try.underlying22 Try.underlying5
          simp only [List.size_toArray, List.length_cons, List.length_nil] at kc
          go_wp2_with fail
          have hbs1 : Bs (W1.alloc (.cells #[.int .u8 115, .int .u8 117, .int .u8 114, .int .u8 101] 5 (4, 5))) (some ⟨W1.heap.size, 0, none⟩) 4 4 [115, 117, 114, 101] := sl_blockf (s := 1) (cs := bvs [115, 117, 114, 101]) (heap_alloc_new W1 _) rfl (by decide)
          have hJ1 := hI1.on (Ext.alloc W1 (.cells #[.int .u8 115, .int .u8 117, .int .u8 114, .int .u8 101] 5 (4, 5)))
          have h2b := h2 _ (Ext.alloc W1 (.cells #[.int .u8 115, .int .u8 117, .int .u8 114, .int .u8 101] 5 (4, 5))) _ _ _ hbs1
          clear kc h2 hbs1 hR2
          obtain ⟨Z1, hZ1⟩ : ∃ Z1, W1.alloc (.cells #[.int .u8 115, .int .u8 117, .int .u8 114, .int .u8 101] 5 (4, 5)) = Z1 := ⟨_, rfl⟩
          rw [hZ1] at hJ1 h2b ⊢
          clear hZ1
          refine (h2b).mono ?_
          rintro e v2 ⟨x2, rfl, hO2, hy2⟩
          have hb2 := (hJ1.on hy2).blk
          obtain ⟨⟨y0, y1, y2, y3, y4, y5⟩, ⟨g0, g1, g2, g3, g4, g5⟩⟩ := cells_six hb2
          have hl2 := lt_of_block hb2
          unfold dkv dcs
          dsimp only
          go_upto_region 12 with fail
          have hI2 := hJ1.step hy2 hO2
          clear y0 y1 y2 y3 y4 y5 g0 g1 g2 g3 g4 g5 hb2 hl2 hy2 hO2 hI1
          obtain ⟨W2, hW2⟩ : ∃ W2, put6 v2 B (.int .i64 D2.quota) (.slice x2.fa x2.fn x2.fc) (.slice x2.na x2.nn x2.nc) (.slice x2.ka x2.kn x2.kc) (.slice x2.ma x2.mn x2.mc) (.int .i64 D2.next) = W2 := ⟨_, rfl⟩
          rw [hW2] at hI2
          change Code.wp _ _ _ _ (put6 v2 B (.int .i64 D2.quota) (.slice x2.fa x2.fn x2.fc) (.slice x2.na x2.nn x2.nc) (.slice x2.ka x2.kn x2.kc) (.slice x2.ma x2.mn x2.mc) (.int .i64 D2.next))
          rw [hW2]
          clear hW2
          have hc2 := hI2.blk
          obtain ⟨⟨y0, y1, y2, y3, y4, y5⟩, _⟩ := cells_six hc2
          clear h2b hJ1 hc1
          go_wp2_with fail
          go_ret
          exact ⟨rfl, hI2.ext⟩
        · have hG2 : Good D2 := by
            have h1 := (good_append hG1 [101] [115, 117, 114, 101]).1
            rw [hR2] at h1
            exact h1
          have hH2h := Lib.hid hH2
          clear hH2
          have h2 := fun W (hx : Ext W1 W) (ba : Option Addr) (bn bc : Nat) (hb : Bs W ba bn bc [115, 117, 114, 101]) => append_calls D1 x1 0 [101] ba bn bc [115, 117, 114, 101] W (hI1.on hx).od hG1 (Nat.zero_le _) rfl hb
          rw [hR2] at h2
          have kc := Lib.run_convert_bytes_const (P := Try.prog) W1 22 5 #[.int .u8 115, .int .u8 117, .int .u8 114, .int .u8 101] 4 4 Try.underlying22 Try.underlying5
          simp only [List.size_toArray, List.length_cons, List.length_nil] at kc
          go_wp2_with fail
          have hbs1 : Bs (W1.alloc (.cells #[.int .u8 115, .int .u8 117, .int .u8 114, .int .u8 101] 5 (4, 5))) (some ⟨W1.heap.size, 0, none⟩) 4 4 [115, 117, 114, 101] := sl_blockf (s := 1) (cs := bvs [115, 117, 114, 101]) (heap_alloc_new W1 _) rfl (by decide)
          have hJ1 := hI1.on (Ext.alloc W1 (.cells #[.int .u8 115, .int .u8 117, .int .u8 114, .int .u8 101] 5 (4, 5)))
          have h2b := h2 _ (Ext.alloc W1 (.cells #[.int .u8 115, .int .u8 117, .int .u8 114, .int .u8 101] 5 (4, 5))) _ _ _ hbs1
          clear kc h2 hbs1 hR2
          obtain ⟨Z1, hZ1⟩ : ∃ Z1, W1.alloc (.cells #[.int .u8 115, .int .u8 117, .int .u8 114, .int .u8 101] 5 (4, 5)) = Z1 := ⟨_, rfl⟩
          rw [hZ1] at hJ1 h2b ⊢
          clear hZ1
          refine (h2b).mono ?_
          rintro e v2 ⟨x2, rfl, hO2, hy2⟩
          have hb2 := (hJ1.on hy2).blk
          obtain ⟨⟨y0, y1, y2, y3, y4, y5⟩, ⟨g0, g1, g2, g3, g4, g5⟩⟩ := cells_six hb2
          have hl2 := lt_of_block hb2
          unfold dkv dcs
          dsimp only
          go_upto_region 12 with fail
          have hI2 := hJ1.step hy2 hO2
          clear y0 y1 y2 y3 y4 y5 g0 g1 g2 g3 g4 g5 hb2 hl2 hy2 hO2 hI1
          obtain ⟨W2, hW2⟩ : ∃ W2, put6 v2 B (.int .i64 D2.quota) (.slice x2.fa x2.fn x2.fc) (.slice x2.na x2.nn x2.nc) (.slice x2.ka x2.kn x2.kc) (.slice x2.ma x2.mn x2.mc) (.int .i64 D2.next) = W2 := ⟨_, rfl⟩
          rw [hW2] at hI2
          change Code.wp _ _ _ _ (put6 v2 B (.int .i64 D2.quota) (.slice x2.fa x2.fn x2.fc) (.slice x2.na x2.nn x2.nc) (.slice x2.ka x2.kn x2.kc) (.slice x2.ma x2.mn x2.mc) (.int .i64 D2.next))
          rw [hW2]
          clear hW2
          have hc2 := hI2.blk
          obtain ⟨⟨y0, y1, y2, y3, y4, y5⟩, _⟩ := cells_six hc2
          clear h2b hJ1 hc1
          obtain ⟨D3, hR3, hH3⟩ := has_sync hH2h.out
          have hG3 : Good D3 := by
            have h1 := (good_sync hG2 [101]).1
            rw [hR3] at h1
            exact h1
          obtain ⟨D4, hR4, hH4, hm4, hk4⟩ := has_syncdir hH3
          have hG4 : Good D4 := by
            have h1 := good_syncdir hG3
            rw [hR4] at h1
            exact h1
          have hH4h := Lib.hid hH4
          have hm4h := Lib.hid hm4
          have hk4h := Lib.hid hk4
          clear hH4 hm4 hk4 hH3 hH2h hH1h
          have h3 := sync_calls D2 x2 0 [101] W2 hI2.od hG2 (Nat.zero_le _) rfl
          rw [hR3] at h3
          clear hR3
          go_wp2_with fail
          refine (h3).mono ?_
          rintro e v3 ⟨x3, rfl, hO3, hy3⟩
          have hb3 := (hI2.on hy3).blk
          obtain ⟨⟨y0, y1, y2, y3, y4, y5⟩, ⟨g0, g1, g2, g3, g4, g5⟩⟩ := cells_six hb3
          have hl3 := lt_of_block hb3
          unfold dkv dcs
          dsimp only
          go_upto_region 15 with fail
          have hI3 := hI2.step hy3 hO3
          clear y0 y1 y2 y3 y4 y5 g0 g1 g2 g3 g4 g5 hb3 hl3 hy3 hO3 hI2
          obtain ⟨W3, hW3⟩ : ∃ W3, put6 v3 B (.int .i64 D3.quota) (.slice x3.fa x3.fn x3.fc) (.slice x3.na x3.nn x3.nc) (.slice x3.ka x3.kn x3.kc) (.slice x3.ma x3.mn x3.mc) (.int .i64 D3.next) = W3 := ⟨_, rfl⟩
          rw [hW3] at hI3
          change Code.wp _ _ _ _ (put6 v3 B (.int .i64 D3.quota) (.slice x3.fa x3.fn x3.fc) (.slice x3.na x3.nn x3.nc) (.slice x3.ka x3.kn x3.kc) (.slice x3.ma x3.mn x3.mc) (.int .i64 D3.next))
          rw [hW3]
          clear hW3
          have hc3 := hI3.blk
          obtain ⟨⟨y0, y1, y2, y3, y4, y5⟩, _⟩ := cells_six hc3
          clear h3 hc2
          have h4 := syncdir_calls D3 x3 0 W3 hI3.od hG3 (Nat.zero_le _)
          rw [hR4] at h4
          clear hR4
          go_wp2_with fail
          refine (h4).mono ?_
          rintro e v4 ⟨x4, rfl, hO4, hy4⟩
          have hb4 := (hI3.on hy4).blk
          obtain ⟨⟨y0, y1, y2, y3, y4, y5⟩, ⟨g0, g1, g2, g3, g4, g5⟩⟩ := cells_six hb4
          have hl4 := lt_of_block hb4
          unfold dkv dcs
          dsimp only
          go_upto_region 16 with fail
          have hI4 := hI3.step hy4 hO4
          clear y0 y1 y2 y3 y4 y5 g0 g1 g2 g3 g4 g5 hb4 hl4 hy4 hO4 hI3
          obtain ⟨W4, hW4⟩ : ∃ W4, put6 v4 B (.int .i64 D4.quota) (.slice x4.fa x4.fn x4.fc) (.slice x4.na x4.nn x4.nc) (.slice x4.ka x4.kn x4.kc) (.slice x4.ma x4.mn x4.mc) (.int .i64 D4.next) = W4 := ⟨_, rfl⟩
          rw [hW4] at hI4
          change Code.wp _ _ _ _ (put6 v4 B (.int .i64 D4.quota) (.slice x4.fa x4.fn x4.fc) (.slice x4.na x4.nn x4.nc) (.slice x4.ka x4.kn x4.kc) (.slice x4.ma x4.mn x4.mc) (.int .i64 D4.next))
          rw [hW4]
          clear hW4
          have hc4 := hI4.blk
          obtain ⟨⟨y0, y1, y2, y3, y4, y5⟩, _⟩ := cells_six hc4
          clear h4 hc3
          rcases has_append hH4h.out [109, 97, 121, 98, 101] with hR5 | ⟨D5, hR5, hH5, hm5, hk5, hn5⟩
          · obtain ⟨D5, hR5⟩ : ∃ D5, appendD D4 [101] [109, 97, 121, 98, 101] = (D5, 6) := ⟨D4, hR5⟩
            have h5 := fun W (hx : Ext W4 W) (ba : Option Addr) (bn bc : Nat) (hb : Bs W ba bn bc [109, 97, 121, 98, 101]) => append_calls D4 x4 0 [101] ba bn bc [109, 97, 121, 98, 101] W (hI4.on hx).od hG4 (Nat.zero_le _) rfl hb
            rw [hR5] at h5
            have kc := Lib.run_convert_bytes_const (P := Try.prog) W4 22 5 #[.int .u8 109, .int .u8 97, .int .u8 121, .int .u8 98, .int .u8 101] 5 5 Try.underlying22 Try.underlying5
            simp only [List.size_toArray, List.length_cons, List.length_nil] at kc
            go_wp2_with fail
            have hbs1 : Bs (W4.alloc (.cells #[.int .u8 109, .int .u8 97, .int .u8 121, .int .u8 98, .int .u8 101] 5 (5, 6))) (some ⟨W4.heap.size, 0, none⟩) 5 5 [109, 97, 121, 98, 101] := sl_blockf (s := 1) (cs := bvs [109, 97, 121, 98, 101]) (heap_alloc_new W4 _) rfl (by decide)
            have hJ4 := hI4.on (Ext.alloc W4 (.cells #[.int .u8 109, .int .u8 97, .int .u8 121, .int .u8 98, .int .u8 101] 5 (5, 6)))
            have h5b := h5 _ (Ext.alloc W4 (.cells #[.int .u8 109, .int .u8 97, .int .u8 121, .int .u8 98, .int .u8 101] 5 (5, 6))) _ _ _ hbs1
            clear kc h5 hbs1 hR5
            obtain ⟨Z4, hZ4⟩ : ∃ Z4, W4.alloc (.cells #[.int .u8 109, .int .u8 97, .int .u8 121, .int .u8 98, .int .u8 101] 5 (5, 6)) = Z4 := ⟨_, rfl⟩
            rw [hZ4] at hJ4 h5b ⊢
            clear hZ4
            refine (h5b).mono ?_
            rintro e v5 ⟨x5, rfl, hO5, hy5⟩
            have hb5 := (hJ4.on hy5).blk
            obtain ⟨⟨y0, y1, y2, y3, y4, y5⟩, ⟨g0, g1, g2, g3, g4, g5⟩⟩ := cells_six hb5
            have hl5 := lt_of_block hb5
            unfold dkv dcs
            dsimp only
            go_upto_region 17 with fail
            have hI5 := hJ4.step hy5 hO5
            clear y0 y1 y2 y3 y4 y5 g0 g1 g2 g3 g4 g5 hb5 hl5 hy5 hO5 hI4
            obtain ⟨W5, hW5⟩ : ∃ W5, put6 v5 B (.int .i64 D5.quota) (.slice x5.fa x5.fn x5.fc) (.slice x5.na x5.nn x5.nc) (.slice x5.ka x5.kn x5.kc) (.slice x5.ma x5.mn x5.mc) (.int .i64 D5.next) = W5 := ⟨_, rfl⟩
            rw [hW5] at hI5
            change Code.wp _ _ _ _ (put6 v5 B (.int .i64 D5.quota) (.slice x5.fa x5.fn x5.fc) (.slice x5.na x5.nn x5.nc) (.slice x5.ka x5.kn x5.kc) (.slice x5.ma x5.mn x5.mc) (.int .i64 D5.next))
            rw [hW5]
            clear hW5
            have hc5 := hI5.blk
            obtain ⟨⟨y0, y1, y2, y3, y4, y5⟩, _⟩ := cells_six hc5
            clear h5b hJ4 hc4
            go_wp2_with fail
            go_ret
            exact ⟨rfl, hI5.ext⟩
          · have hG5 : Good D5 := by
              have h1 := (good_append hG4 [101] [109, 97, 121, 98, 101]).1
              rw [hR5] at h1
              exact h1
            have hrun5 : Hid (runN D5.kept (D5.moves.take 0) = some D5.kept) := by show _ = _; rfl
            have hcm5 : Hid (crashM mv D5.moves.length = ((0 : Nat) : Int)) := by show _ = _; rw [hm5, hm4h.out]; unfold crashM; simp only [List.length_nil]; omega
            have hk5h : Hid (D5.kept = D5.names) := by show _ = _; rw [hk5, hn5]; exact hk4h.out
            have hH5h := Lib.hid hH5
            clear hH5 hm5 hk5 hn5
            have h5 := fun W (hx : Ext W4 W) (ba : Option Addr) (bn bc : Nat) (hb : Bs W ba bn bc [109, 97, 121, 98, 101]) => append_calls D4 x4 0 [101] ba bn bc [109, 97, 121, 98, 101] W (hI4.on hx).od hG4 (Nat.zero_le _) rfl hb
            rw [hR5] at h5
            have kc := Lib.run_convert_bytes_const (P := Try.prog) W4 22 5 #[.int .u8 109, .int .u8 97, .int .u8 121, .int .u8 98, .int .u8 101] 5 5 Try.underlying22 Try.underlying5
            simp only [List.size_toArray, List.length_cons, List.length_nil] at kc
            go_wp2_with fail
            have hbs1 : Bs (W4.alloc (.cells #[.int .u8 109, .int .u8 97, .int .u8 121, .int .u8 98, .int .u8 101] 5 (5, 6))) (some ⟨W4.heap.size, 0, none⟩) 5 5 [109, 97, 121, 98, 101] := sl_blockf (s := 1) (cs := bvs [109, 97, 121, 98, 101]) (heap_alloc_new W4 _) rfl (by decide)
            have hJ4 := hI4.on (Ext.alloc W4 (.cells #[.int .u8 109, .int .u8 97, .int .u8 121, .int .u8 98, .int .u8 101] 5 (5, 6)))
            have h5b := h5 _ (Ext.alloc W4 (.cells #[.int .u8 109, .int .u8 97, .int .u8 121, .int .u8 98, .int .u8 101] 5 (5, 6))) _ _ _ hbs1
            clear kc h5 hbs1 hR5
            obtain ⟨Z4, hZ4⟩ : ∃ Z4, W4.alloc (.cells #[.int .u8 109, .int .u8 97, .int .u8 121, .int .u8 98, .int .u8 101] 5 (5, 6)) = Z4 := ⟨_, rfl⟩
            rw [hZ4] at hJ4 h5b ⊢
            clear hZ4
            refine (h5b).mono ?_
            rintro e v5 ⟨x5, rfl, hO5, hy5⟩
            have hb5 := (hJ4.on hy5).blk
            obtain ⟨⟨y0, y1, y2, y3, y4, y5⟩, ⟨g0, g1, g2, g3, g4, g5⟩⟩ := cells_six hb5
            have hl5 := lt_of_block hb5
            unfold dkv dcs
            dsimp only
            go_upto_region 17 with fail
            have hI5 := hJ4.step hy5 hO5
            clear y0 y1 y2 y3 y4 y5 g0 g1 g2 g3 g4 g5 hb5 hl5 hy5 hO5 hI4
            obtain ⟨W5, hW5⟩ : ∃ W5, put6 v5 B (.int .i64 D5.quota) (.slice x5.fa x5.fn x5.fc) (.slice x5.na x5.nn x5.nc) (.slice x5.ka x5.kn x5.kc) (.slice x5.ma x5.mn x5.mc) (.int .i64 D5.next) = W5 := ⟨_, rfl⟩
            rw [hW5] at hI5
            change Code.wp _ _ _ _ (put6 v5 B (.int .i64 D5.quota) (.slice x5.fa x5.fn x5.fc) (.slice x5.na x5.nn x5.nc) (.slice x5.ka x5.kn x5.kc) (.slice x5.ma x5.mn x5.mc) (.int .i64 D5.next))
            rw [hW5]
            clear hW5
            have hc5 := hI5.blk
            obtain ⟨⟨y0, y1, y2, y3, y4, y5⟩, _⟩ := cells_six hc5
            clear h5b hJ4 hc4
            have hcr := crash_calls D5 x5 0 mv qa qn qc K 0 D5.kept W5 hI5.od hG5 (Nat.zero_le _) (hKh.out.ext hI5.ext) hcm5.out hrun5.out
            have hG6 : Good (crashD D5 D5.kept K) := good_crash hG5 hrun5.out _
            have hread : Hid (∀ (rl : List UInt8) (rerr : Int), ReadPost (crashD D5 D5.kept K) [101] rl rerr → rerr = 0 ∧ ∃ m : Nat, 4 ≤ m ∧ m ≤ 9 ∧ rl = ([115, 117, 114, 101, 109, 97, 121, 98, 101] : List UInt8).take m) := by
              intro rl rerr h
              obtain ⟨h1, m, h2, h3, h4⟩ := has_read hH5h.out hG5 hk5h.out h
              exact ⟨h1, m, by simp at h2; omega, h3, h4⟩
            obtain ⟨D6, hD6⟩ : ∃ D, crashD D5 D5.kept K = D := ⟨_, rfl⟩
            rw [hD6] at hcr hG6 hread
            clear hD6 hcm5 hrun5 hk5h hH5h hm4h hk4h hH4h
            go_wp2_with fail
            refine hcr.mono ?_
            rintro e v6 ⟨x6, rfl, hO6, hy6⟩
            unfold dkv dcs
            dsimp only
            go_upto_region 20 with fail
            have hO6b := hO6.ext (Ext.alloc v6 (.cells #[.int .i64 D6.quota, .slice x6.fa x6.fn x6.fc, .slice x6.na x6.nn x6.nc, .slice x6.ka x6.kn x6.kc, .slice x6.ma x6.mn x6.mc, .int .i64 D6.next] 29))
            have hn6 := heap_alloc_new v6 (.cells #[.int .i64 D6.quota, .slice x6.fa x6.fn x6.fc, .slice x6.na x6.nn x6.nc, .slice x6.ka x6.kn x6.kc, .slice x6.ma x6.mn x6.mc, .int .i64 D6.next] 29)
            have hz6 := Ext.alloc v6 (.cells #[.int .i64 D6.quota, .slice x6.fa x6.fn x6.fc, .slice x6.na x6.nn x6.nc, .slice x6.ka x6.kn x6.kc, .slice x6.ma x6.mn x6.mc, .int .i64 D6.next] 29)
            obtain ⟨W6, hW6⟩ : ∃ W6, v6.alloc (.cells #[.int .i64 D6.quota, .slice x6.fa x6.fn x6.fc, .slice x6.na x6.nn x6.nc, .slice x6.ka x6.kn x6.kc, .slice x6.ma x6.mn x6.mc, .int .i64 D6.next] 29) = W6 := ⟨_, rfl⟩
            obtain ⟨B6, hB6⟩ : ∃ B, v6.heap.size = B := ⟨_, rfl⟩
            rw [hW6] at hO6b hn6 hz6 ⊢
            rw [hB6] at hn6 ⊢
            clear hW6 hB6 hO6 y0 y1 y2 y3 y4 y5
            obtain ⟨⟨y0, y1, y2, y3, y4, y5⟩, _⟩ := cells_six hn6
            have hE6 := (hI5.ext.trans hy6).trans hz6
            have hrd := read_calls D6 x6 0 [101] W6 hO6b hG6 rfl
            go_wp2_with fail
            refine hrd.mono ?_
            rintro e v7 ⟨ra, rn, rc, rl, rerr, rfl, hrp, hrb, hy7⟩
            obtain ⟨rfl, m, hm4, hm9, hrl⟩ := hread.out _ _ hrp
            have hE7 := hE6.trans hy7
            clear hrd hread hrp y0 y1 y2 y3 y4 y5 hcr hI5 hO6b hn6 hz6 hy6 hE6 hy7
            have hrn := hrb.len
            obtain rfl | rfl | rfl | rfl | rfl | rfl : m = 4 ∨ m = 5 ∨ m = 6 ∨ m = 7 ∨ m = 8 ∨ m = 9 := by omega
            all_goals
              simp only [List.take_succ_cons, List.take_zero] at hrl
              subst hrl
              simp only [List.length_cons, List.length_nil, Nat.zero_add, Nat.reduceAdd] at hrn
              subst hrn
              have hcs := Lib.hid (fun W (h : Ext v7 W) => (hrb.ext h).string (P := Try.prog) 22 5 9 Try.underlying22 Try.underlying5 Try.underlying9)
              go_upto_region 24 with fail
              obtain ⟨X, iX, f, hxS0, hSx0⟩ := letters (fun w' => Ext v7 w') v7 (Ext.refl v7)
              have hxS := Lib.hid hxS0
              have hSx := Lib.hid hSx0
              clear hxS0 hSx0
              have hcx := fun x' => hcs.out (f x') (hxS.out x')
              refine region_class (fun w' => ∃ x' : X, w' = f x') (by kernel_rfl) (by kernel_rfl) (hSx.out _ (Ext.drewN v7 1)) ?_
              repeat (go_big_quiet_step (fail))
              refine wpQuiet_nil ?_
              rintro _ ⟨x1, rfl⟩
              have hxA := hxS.out x1
              clear hcx
              go_wp2_with fail
              go_ret
              exact ⟨by first | rfl | (simp; decide +kernel) | (simp; rfl) | simp, hE7.trans hxA⟩
end Go.Proofs.Ytponbponacdhkaa

/-
  Layer 6: behind a SyncDir a crash keeps all names, and of each file all that was synced.
-/
import Derived.Test.YtponbponacdhkaaDkSureP
import Derived.Test.YtponbponacdhkaaDkOneP
import Derived.Test.YtponbponacdhkaaRegTurn
namespace Go.Proofs.Ytponbponacdhkaa
open Go.RowKit

/-- The state between two steps of a play. -/
def PlayI (w : World) (B ln : Nat) (q : Int) (vi : Value) (wr : World) : Prop :=
  ∃ (k : Nat) (x : DV) (D : Dk), k ≤ ln ∧ vi = .int .i64 k ∧ Hid (InBox w wr B x D) ∧ Hid (Played D k q)
set_option maxRecDepth 100000 in
set_option maxHeartbeats 12800000 in
theorem kept_calls (a : Option Addr) (n c : Nat) (M : List Sh) (mv : Int) (w : World) (hs : Steps w a n c M) :
    Calls Try.prog 6 #[.slice a n c, .int .i64 mv] w fun e w' => e = .returned (.bool true) ∧ Ext w w' := by
  go_enter Try.func6, Try.ntmps6
  have hlen := hs.len
  have hsh := Lib.hid hs
  have hmx := Nat.le_trans (Sl.le hs.row) (Sl.max hs.row)
  unfold maxLen at hmx
  have hmy := Lib.hid (many_calls a n c M)
  clear hs
  go_wp2_with fail
  refine (alive06_calls _).mono ?_
  rintro e w1 ⟨rfl, hx1⟩
  go_wp2_with fail
  refine (hmy.out w1 (hsh.out.ext hx1)).mono ?_
  rintro e w2 ⟨b, rfl, hb, hx2⟩
  have hX2 := hx1.trans hx2
  clear hx1 hx2 hmy
  cases b with
  | true =>
    go_wp2_with fail
    go_ret
    exact ⟨rfl, hX2⟩
  | false =>
    have hM := hb rfl
    rw [hlen] at hM
    have hlenh := Lib.hid hlen
    clear hb hlen
    go_wp2_with fail
    refine (new_calls 1000 _ (by decide) (by decide)).mono ?_
    rintro e v0 ⟨rfl, hy0⟩
    have hXv := hX2.trans hy0
    clear hX2 hy0
    go_upto_region 6 with fail
    obtain ⟨W0, hW0⟩ : ∃ W0, v0.alloc (.cells #[.int .i64 1000, .slice none 0 0, .slice none 0 0, .slice none 0 0, .slice none 0 0, .int .i64 1] 29) = W0 := ⟨_, rfl⟩
    obtain ⟨B, hB⟩ : ∃ B, v0.heap.size = B := ⟨_, rfl⟩
    have hI0 : Hid (InBox w W0 B xnil ⟨1000, [], [], [], [], 1⟩) := by
      show InBox _ _ _ _ _
      rw [← hW0, ← hB]
      exact ⟨hXv.trans (Ext.alloc _ _), hXv.size, heap_alloc_new _ _, OD.nil _ _⟩
    have hP0 : Hid (Played ⟨1000, [], [], [], [], 1⟩ 0 1000) := Played.start ⟨by decide, by decide⟩
    rw [hW0, hB]
    clear hW0 hB hXv
    go_wp2_with fail
    go_loopw [7] (fun vi wr => PlayI w B n 1000 vi wr) (fun vi _ => n - (intOf vi).toNat)
    case atStart => exact ⟨0, xnil, _, Nat.zero_le _, rfl, hI0, hP0⟩
    case round =>
      obtain ⟨k, x0, D0, hk, rfl, hIh, hPh⟩ := hrel
      clear hI0 hP0
      obtain ⟨W0, hW0⟩ : ∃ W0 : World, wr = W0 := ⟨_, rfl⟩
      rw [hW0] at hIh ⊢
      clear hW0
      by_cases hlk : k < n
      · obtain ⟨b0, o0, rfl, hc⟩ := hsh.out.at (by omega)
        have hkL : k < M.length := by have := hlenh.out; omega
        have hbs := hsh.out.bytes M[k] (List.getElem_mem hkL)
        have hsm := hsh.out.small M[k] (List.getElem_mem hkL)
        obtain ⟨c0, c1, c2, c3⟩ := hc k hkL
        obtain ⟨⟨⟨kind, nm, dst, data⟩, pa, pn, pc⟩, hy⟩ : ∃ y, M[k] = y := ⟨_, rfl⟩
        rw [hy] at c0 c1 c2 c3 hbs hsm
        dsimp only at c0 c1 c2 c3 hbs hsm
        have hop := Lib.hid (fun W (h : Ext W0 W) => play_calls D0 x0 0 ⟨kind, nm, dst, data⟩ pa pn pc W (hIh.out.on h).od hPh.out.good (Nat.zero_le _) (by have := hPh.out.moves; omega) (hbs.ext (hIh.out.ext.trans h)) hsm)
        have hP1 := Lib.hid (hPh.out.step (by omega) ⟨kind, nm, dst, data⟩)
        obtain ⟨⟨D1, er⟩, hR⟩ : ∃ R, playD D0 ⟨kind, nm, dst, data⟩ = R := ⟨_, rfl⟩
        rw [hR] at hop hP1
        clear hR
        dsimp only at hop hP1
        obtain ⟨⟨y0, y1, y2, y3, y4, y5⟩, _⟩ := cells_six hIh.out.blk
        have t0 := hIh.out.ext.cell c0
        have t1 := hIh.out.ext.cell c1
        have t2 := hIh.out.ext.cell c2
        have t3 := hIh.out.ext.cell c3
        clear hc hbs hsm hy c0 c1 c2 c3
        go_upto_region 9 with fail
        obtain ⟨X, iX, f, hxS0, hSx0⟩ := letters (fun w' => Ext W0 w') W0 (Ext.refl W0)
        have hxS := Lib.hid hxS0
        have hSx := Lib.hid hSx0
        clear hxS0 hSx0
        have u0 : ∀ x', (f x').cell? ⟨B, 0, none⟩ = some (.int .i64 D0.quota) := fun x' => (hxS.out x').cell y0
        have u1 : ∀ x', (f x').cell? ⟨B, 1, none⟩ = some (.slice x0.fa x0.fn x0.fc) := fun x' => (hxS.out x').cell y1
        have u2 : ∀ x', (f x').cell? ⟨B, 2, none⟩ = some (.slice x0.na x0.nn x0.nc) := fun x' => (hxS.out x').cell y2
        have u3 : ∀ x', (f x').cell? ⟨B, 3, none⟩ = some (.slice x0.ka x0.kn x0.kc) := fun x' => (hxS.out x').cell y3
        have u4 : ∀ x', (f x').cell? ⟨B, 4, none⟩ = some (.slice x0.ma x0.mn x0.mc) := fun x' => (hxS.out x').cell y4
        have u5 : ∀ x', (f x').cell? ⟨B, 5, none⟩ = some (.int .i64 D0.next) := fun x' => (hxS.out x').cell y5
        have s0 : ∀ x', (f x').cell? ⟨b0, o0 + k * 4, none⟩ = some (.int .u8 (kind : Int)) := fun x' => (hxS.out x').cell t0
        have s1 : ∀ x', (f x').cell? ⟨b0, o0 + k * 4 + 1, none⟩ = some (.int .u8 (nm : Int)) := fun x' => (hxS.out x').cell t1
        have s2 : ∀ x', (f x').cell? ⟨b0, o0 + k * 4 + 2, none⟩ = some (.int .u8 (dst : Int)) := fun x' => (hxS.out x').cell t2
        have s3 : ∀ x', (f x').cell? ⟨b0, o0 + k * 4 + 3, none⟩ = some (.slice pa pn pc) := fun x' => (hxS.out x').cell t3
        clear y0 y1 y2 y3 y4 y5 t0 t1 t2 t3
        refine region_legs 9 (.quiet [0, 1, 2, 3, 4] (.act 5 (.free [6, 7, 8] (.turn .done)))) (fun w' => ∃ x' : X, w' = f x') (by kernel_rfl) (by kernel_rfl) (hSx.out _ (Ext.drewN W0 1)) ?_
        refine legs_quiet ?_
        simp only [sel, List.getElem?_toArray, List.getElem?_cons_zero, List.getElem?_cons_succ]
        repeat (go_big_quiet_step (fail))
        refine wpQuiet_nil ?_
        clear u0 u1 u2 u3 u4 u5 s0 s1 s2 s3
        refine legs_act ?_
        intro Q2 hQ2
        simp only [sel, List.getElem?_toArray, List.getElem?_cons_zero, List.getElem?_cons_succ]
        go_wp2_with fail
        refine (hop.out _ (Ext.drewN W0 1)).mono ?_
        rintro e v1 ⟨x1, rfl, hO1, hx1⟩
        have hy1 := (Ext.drewN W0 1).trans hx1
        have hb1 := (hIh.out.on hy1).blk
        obtain ⟨⟨y0, y1, y2, y3, y4, y5⟩, ⟨g0, g1, g2, g3, g4, g5⟩⟩ := cells_six hb1
        have hl1 := lt_of_block hb1
        unfold dkv dcs
        dsimp only
        go_wp2_with fail
        refine hQ2 _ _ (hSx.out _ hy1) ?_
        refine legs_free ?_
        simp only [sel, List.getElem?_toArray, List.getElem?_cons_zero, List.getElem?_cons_succ]
        repeat (go_big_quiet_step (fail))
        refine wpQuiet_nil ?_
        refine legs_turn ?_
        intro Q3 hQ3
        simp only [sel, List.getElem?_toArray, List.getElem?_cons_zero, List.getElem?_cons_succ]
        have hI1 := Lib.hid (hIh.out.step hy1 hO1)
        clear hop hIh hPh hSx hxS iX hO1 hx1
        go_wp2_with fail
        refine legs_end ?_
        go_wp2_with fail
        go_roundw
        case rel => exact ⟨k + 1, x1, D1, by omega, by go_num, hI1, hP1⟩
        case measure => simp [intOf]; omega
      · obtain rfl : k = n := by omega
        clear hlk
        have hI0 := hIh.out
        have hG0 := hPh.out.good
        have hc0 := hI0.blk
        clear hIh hPh
        obtain ⟨⟨y0, y1, y2, y3, y4, y5⟩, _⟩ := cells_six hc0
        obtain ⟨Nl, hNl⟩ : ∃ l, D0.names = l := ⟨_, rfl⟩
        obtain ⟨D1, hD1⟩ : ∃ D, settleD D0 D0.names = D := ⟨_, rfl⟩
        have hG1 : Good D1 := by rw [← hD1]; exact good_syncdir hG0
        have hn1 : D1.names = Nl := by rw [← hD1]; exact hNl
        have hk1 : D1.kept = Nl := by rw [← hD1]; exact hNl
        have hm1 : D1.moves = [] := by rw [← hD1]; rfl
        have hrun1 : runN D1.kept (D1.moves.take 0) = some Nl := by rw [hk1]; rfl
        have hcm1 : crashM mv D1.moves.length = ((0 : Nat) : Int) := by rw [hm1]; unfold crashM; simp only [List.length_nil]; omega
        obtain ⟨D2, hD2⟩ : ∃ D, crashD D1 Nl [] = D := ⟨_, rfl⟩
        have hG2 : Good D2 := by rw [← hD2]; exact good_crash hG1 hrun1 _
        have hn2 : D2.names = Nl := by rw [← hD2]; rfl
        have hf2 : D2.files = D1.files.map (crashF []) := by rw [← hD2, ← hD1, ← hNl]; exact (kept_crash D0).2
        have hsd := syncdir_calls D0 x0 0 W0 hI0.od hG0 (Nat.zero_le _)
        rw [show syncdirD D0 = (D1, 0) by rw [← hD1]; rfl] at hsd
        have hk1h := Lib.hid hk1
        have hm1h := Lib.hid hm1
        have hn1h := Lib.hid hn1
        have hn2h := Lib.hid hn2
        have hf2h := Lib.hid hf2
        have hrun1h := Lib.hid hrun1
        have hcm1h := Lib.hid hcm1
        have hD2h := Lib.hid hD2
        clear hNl hD1 hD2 hn1 hk1 hm1 hrun1 hcm1 hn2 hf2
        go_wp2_with fail
        refine (hsd).mono ?_
        rintro e v1 ⟨x1, rfl, hO1, hy1⟩
        have hb1 := (hI0.on hy1).blk
        obtain ⟨⟨y0, y1, y2, y3, y4, y5⟩, ⟨g0, g1, g2, g3, g4, g5⟩⟩ := cells_six hb1
        have hl1 := lt_of_block hb1
        unfold dkv dcs
        dsimp only
        go_upto_region 11 with fail
        have hI1 := hI0.step hy1 hO1
        clear y0 y1 y2 y3 y4 y5 g0 g1 g2 g3 g4 g5 hb1 hl1 hy1 hO1 hI0
        obtain ⟨W1, hW1⟩ : ∃ W1, put6 v1 B (.int .i64 D1.quota) (.slice x1.fa x1.fn x1.fc) (.slice x1.na x1.nn x1.nc) (.slice x1.ka x1.kn x1.kc) (.slice x1.ma x1.mn x1.mc) (.int .i64 D1.next) = W1 := ⟨_, rfl⟩
        rw [hW1] at hI1
        change Code.wp _ _ _ _ (put6 v1 B (.int .i64 D1.quota) (.slice x1.fa x1.fn x1.fc) (.slice x1.na x1.nn x1.nc) (.slice x1.ka x1.kn x1.kc) (.slice x1.ma x1.mn x1.mc) (.int .i64 D1.next))
        rw [hW1]
        clear hW1
        have hc1 := hI1.blk
        obtain ⟨⟨y0, y1, y2, y3, y4, y5⟩, _⟩ := cells_six hc1
        clear hsd hc0
        have hcr := crash_calls D1 x1 0 mv none 0 0 [] 0 Nl W1 hI1.od hG1 (Nat.zero_le _) (Row.nil _ _ _) hcm1h.out hrun1h.out
        rw [hD2h.out] at hcr
        clear hcm1h hrun1h hD2h
        go_wp2_with fail
        refine hcr.mono ?_
        rintro e v2 ⟨x2, rfl, hO2, hy2⟩
        unfold dkv dcs
        dsimp only
        go_upto_region 12 with fail
        have hO2b := hO2.ext (Ext.alloc v2 (.cells #[.int .i64 D2.quota, .slice x2.fa x2.fn x2.fc, .slice x2.na x2.nn x2.nc, .slice x2.ka x2.kn x2.kc, .slice x2.ma x2.mn x2.mc, .int .i64 D2.next] 29))
        have hn2 := heap_alloc_new v2 (.cells #[.int .i64 D2.quota, .slice x2.fa x2.fn x2.fc, .slice x2.na x2.nn x2.nc, .slice x2.ka x2.kn x2.kc, .slice x2.ma x2.mn x2.mc, .int .i64 D2.next] 29)
        have hz2 := Ext.alloc v2 (.cells #[.int .i64 D2.quota, .slice x2.fa x2.fn x2.fc, .slice x2.na x2.nn x2.nc, .slice x2.ka x2.kn x2.kc, .slice x2.ma x2.mn x2.mc, .int .i64 D2.next] 29)
        obtain ⟨W2, hW2⟩ : ∃ W2, v2.alloc (.cells #[.int .i64 D2.quota, .slice x2.fa x2.fn x2.fc, .slice x2.na x2.nn x2.nc, .slice x2.ka x2.kn x2.kc, .slice x2.ma x2.mn x2.mc, .int .i64 D2.next] 29) = W2 := ⟨_, rfl⟩
        obtain ⟨B2, hB2⟩ : ∃ B, v2.heap.size = B := ⟨_, rfl⟩
        rw [hW2] at hO2b hn2 hz2 ⊢
        rw [hB2] at hn2 ⊢
        clear hW2 hB2 hO2 y0 y1 y2 y3 y4 y5
        obtain ⟨⟨y0, y1, y2, y3, y4, y5⟩, _⟩ := cells_six hn2
        have hI1b := hI1.on (hy2.trans hz2)
        clear hcr hI1 hc1 hy2 hz2 y0 y1 y2 y3 y4 y5
        obtain ⟨⟨y0, y1, y2, y3, y4, y5⟩, _⟩ := cells_six hI1b.blk
        have hli := list_calls D1 x1 0 W2 hI1b.od hG1
        rw [hn1h.out] at hli
        go_wp2_with fail
        refine hli.mono ?_
        rintro e v3 ⟨g3, rfl, hr3, hy3⟩
        go_upto_region 13 with fail
        have hI1c := hI1b.on hy3
        have hO2c := hO2b.ext hy3
        have hn2c := (hy3.block _ (lt_of_block hn2)).trans hn2
        clear hli hI1b hO2b hn2 y0 y1 y2 y3 y4 y5 hy3
        obtain ⟨⟨z0, z1, z2, z3, z4, z5⟩, _⟩ := cells_six hn2c
        have hli := list_calls D2 x2 0 v3 hO2c hG2
        rw [hn2h.out] at hli
        go_wp2_with fail
        refine hli.mono ?_
        rintro e v4 ⟨g4, rfl, hr4, hy4⟩
        go_upto_region 14 with fail
        have hI1d := hI1c.on hy4
        have hO2d := hO2c.ext hy4
        have hn2d := (hy4.block _ (lt_of_block hn2c)).trans hn2c
        have hr3d := hr3.ext hy4
        clear hli hI1c hO2c hn2c hr3 hy4 z0 z1 z2 z3 z4 z5
        have htx := texts_calls _ _ _ _ _ _ v4 hr3d hr4
        clear hr3d hr4
        go_wp2_with fail
        refine htx.mono ?_
        rintro e v5 ⟨rfl, hy5⟩
        have hI5 := hI1d.on hy5
        have hO5 := hO2d.ext hy5
        have hn5 := (hy5.block _ (lt_of_block hn2d)).trans hn2d
        clear htx hI1d hO2d hn2d hy5 y0 y1 y2 y3 y4 y5
        obtain ⟨⟨y0, y1, y2, y3, y4, y5⟩, _⟩ := cells_six hI5.blk
        obtain ⟨⟨z0, z1, z2, z3, z4, z5⟩, _⟩ := cells_six hn5
        obtain ⟨fa1, fn1, fc1, fm1, na1, nn1, nc1, ka1, kn1, kc1, ma1, mn1, mc1⟩ := x1
        obtain ⟨fa2, fn2, fc2, fm2, na2, nn2, nc2, ka2, kn2, kc2, ma2, mn2, mc2⟩ := x2
        dsimp only at y0 y1 y2 y3 y4 y5 z0 z1 z2 z3 z4 z5
        have hfn1 : fn1 = D1.files.length := hI5.od.fn.1
        have hfn2 : fn2 = fn1 := by
          have h1 : fn2 = D2.files.length := hO5.fn.1
          rw [h1, hf2h.out, List.length_map, hfn1]
        subst hfn2
        have hff : ((fn2 : Int) != (fn2 : Int)) = false := by simp
        have hI5h := Lib.hid hI5
        have hO5h := Lib.hid hO5
        have hn5h := Lib.hid hn5
        have hfn1h := Lib.hid hfn1
        clear hI5 hO5 hn5 hfn1
        have hmr := (slice_row hO5h.out.files).1
        have hmy := Nat.le_trans (Sl.le hmr) (Sl.max hmr)
        unfold maxLen at hmy
        clear hmr
        obtain ⟨W5, hW5⟩ : ∃ W5 : World, v5 = W5 := ⟨_, rfl⟩
        rw [hW5] at hI5h hO5h hn5h y0 y1 y2 y3 y4 y5 z0 z1 z2 z3 z4 z5 ⊢
        clear hW5
        go_wp2_with fail
        go_loopw [15] (fun vi wr => ∃ j : Nat, j ≤ fn2 ∧ vi = .int .i64 j ∧ Ext W5 wr) (fun vi _ => fn2 - (intOf vi).toNat)
        case atStart => exact ⟨0, Nat.zero_le _, rfl, Ext.refl _⟩
        case round =>
          obtain ⟨j, hj, rfl, hX⟩ := hrel
          clear y0 y2 y3 y4 y5 z0 z2 z3 z4 z5
          replace y1 := hX.cell y1
          replace z1 := hX.cell z1
          by_cases hlj : j < fn2
          · have hj1 : j < D1.files.length := by rw [← hfn1h.out]; exact hlj
            have hj2 : j < D2.files.length := by rw [hf2h.out, List.length_map]; exact hj1
            obtain ⟨b1, o1, pa, pn, pc, ha1, c1, c2, hbs1⟩ := (hI5h.out.od.ext hX).file hj1
            obtain ⟨b2, o2, qa, qn, qc2, ha2, d1, d2, hbs2⟩ := (hO5h.out.ext hX).file hj2
            dsimp only at ha1 ha2
            subst ha1 ha2
            have hrg := hG1.range _ (List.getElem_mem hj1)
            obtain ⟨sn, hsn⟩ : ∃ sn : Nat, D1.files[j].sure = (sn : Int) := ⟨D1.files[j].sure.toNat, by omega⟩
            have hbn := hbs1.len
            have hqq : D2.files[j].bytes = D1.files[j].bytes.take sn := by
              have h1 : D2.files[j] = crashF [] D1.files[j] := by simp only [hf2h.out, List.getElem_map]
              rw [h1, crashF_nil, hsn]
              rfl
            rw [hsn] at c2 hrg
            have hs1 : sn ≤ pn := by omega
            have hs2 := Sl.le hbs1
            have hs3 := Sl.max hbs1
            have hs4 : sn ≤ pc := by omega
            unfold maxLen at hs3
            rw [hqq] at hbs2
            have hbs3 := hbs1.take sn hs1
            have hsm := Lib.hid (fun W (h : Ext wr W) => same_calls _ _ _ _ _ _ _ _ W (hbs2.ext h) (hbs3.ext h))
            clear hbs1 hbs2 hbs3 hqq hbn hrg hsn d2 hs2
            obtain ⟨wo, hwo⟩ : ∃ wo : World, wr = wo := ⟨_, rfl⟩
            rw [hwo] at hX y1 z1 c1 c2 d1 hsm ⊢
            clear hwo
            go_upto_region 19 with fail
            obtain ⟨X, iX, f, hxS0, hSx0⟩ := letters (fun w' => Ext wo w') wo (Ext.refl wo)
            have hxS := Lib.hid hxS0
            have hSx := Lib.hid hSx0
            clear hxS0 hSx0
            have u1 : ∀ x', (f x').cell? ⟨B, 1, none⟩ = some (.slice (some ⟨b1, o1, none⟩) fn2 fc1) := fun x' => (hxS.out x').cell y1
            have u2 : ∀ x', (f x').cell? ⟨B2, 1, none⟩ = some (.slice (some ⟨b2, o2, none⟩) fn2 fc2) := fun x' => (hxS.out x').cell z1
            have u3 : ∀ x', (f x').cell? ⟨b1, o1 + j * 3 + 1, none⟩ = some (.slice pa pn pc) := fun x' => (hxS.out x').cell c1
            have u4 : ∀ x', (f x').cell? ⟨b1, o1 + j * 3 + 2, none⟩ = some (.int .i64 (sn : Int)) := fun x' => (hxS.out x').cell c2
            have u5 : ∀ x', (f x').cell? ⟨b2, o2 + j * 3 + 1, none⟩ = some (.slice qa qn qc2) := fun x' => (hxS.out x').cell d1
            have hk1 : Hid (∀ x', Calls Try.prog 16 #[.slice qa qn qc2, .slice pa sn pc] (f x') fun e w'' => e = .returned (.bool true) ∧ ∃ y, w'' = f y) := fun x' =>
              (hsm.out (f x') (hxS.out x')).mono (fun e w'' ⟨he, q, hx2⟩ => ⟨by rw [he]; simp, hSx.out w'' (by rw [hx2]; exact (hxS.out x').trans (Ext.drewN _ q))⟩)
            clear y1 z1 c1 c2 d1 hsm
            refine region_class (fun w' => ∃ x' : X, w' = f x') (by kernel_rfl) (by kernel_rfl) (hSx.out _ (Ext.drewN wo 1)) ?_
            repeat (go_big_quiet_step ((go_at_call 16; exact (hk1.out _))))
            refine wpQuiet_nil ?_
            rintro _ ⟨x1, rfl⟩
            have hxA := hxS.out x1
            clear u1 u2 u3 u4 u5
            go_wp2_with fail
            go_roundw
            case rel => exact ⟨j + 1, by omega, by go_num, hX.trans hxA⟩
            case measure => simp [intOf]; omega
          · go_wp2_with fail
            go_ret
            exact ⟨rfl, hI5h.out.ext.trans hX⟩
end Go.Proofs.Ytponbponacdhkaa

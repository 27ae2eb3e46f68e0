/-
  Layer 8's statements: the walk of SegmentBack.
-/
import Derived.Test.YtkflikfcpdekdaaDoorLaw08b
import Derived.Test.YtkflikfcpdekdaaDoorRscan
import Derived.Test.YtkflikfcpdekdaaDoorRwrite
namespace Go.Proofs.YtkflikfcpdekdaaDoor
open Go.RowKit

theorem Rcs.take {w : World} {a : Option Addr} {n c : Nat} {M : List El} (h : Rcs w a n c M) (k : Nat) (hk : k ≤ n) : Rcs w a k c (M.take k) := by
  have hl := h.len
  have hle := h.1.le
  have hll := lcells_length (M.take k)
  refine ⟨⟨by rw [hll, List.length_take]; omega, by omega, h.1.max, h.1.nil, fun hn => ?_⟩, fun e he => h.2 e (List.mem_of_mem_take he)⟩
  obtain ⟨b, o, ha, hc⟩ := h.1.at_ (by omega)
  refine ⟨b, o, ha, fun i hi => ?_⟩
  have hsp : lcells M = lcells (M.take k) ++ lcells (M.drop k) := by rw [← lcells_append, List.take_append_drop]
  have hi2 : i < (lcells M).length := by rw [hsp, List.length_append]; omega
  rw [hc i hi2]
  have h3 : (lcells M)[i]? = (lcells (M.take k))[i]? := by rw [hsp, List.getElem?_append_left hi]
  rw [List.getElem?_eq_getElem hi2, List.getElem?_eq_getElem hi] at h3
  exact h3
theorem ext9at {w w' : World} {b : Nat} (h : Ext w w') (hb : w.heap.size ≤ b) (v0 v1 v2 v3 v4 v5 v6 v7 v8 : Value) : Ext w (((((((((w'.setCell ⟨b, 0, none⟩ v0).setCell ⟨b, 1, none⟩ v1).setCell ⟨b, 2, none⟩ v2).setCell ⟨b, 3, none⟩ v3).setCell ⟨b, 4, none⟩ v4).setCell ⟨b, 5, none⟩ v5).setCell ⟨b, 6, none⟩ v6).setCell ⟨b, 7, none⟩ v7).setCell ⟨b, 8, none⟩ v8) := (Ext.set (Ext.set (Ext.set (Ext.set (Ext.set (Ext.set (Ext.set (Ext.set (Ext.set h b 0 v0 hb) b 1 v1 hb) b 2 v2 hb) b 3 v3 hb) b 4 v4 hb) b 5 v5 hb) b 6 v6 hb) b 7 v7 hb) b 8 v8 hb)
theorem wholeR_step (L : List Rec) (i e : Nat) (hi : i < L.length) (h : (sfr L[i]).length ≤ e) :
    wholeR (L.drop i) e = (L[i] :: (wholeR (L.drop (i + 1)) (e - (sfr L[i]).length)).1, (sfr L[i]).length + (wholeR (L.drop (i + 1)) (e - (sfr L[i]).length)).2) := by
  rw [List.drop_eq_getElem_cons hi, wholeR_cons, if_pos h]
theorem wholeR_stop (L : List Rec) (i e : Nat) (h : ∀ hi : i < L.length, e < (sfr L[i]).length) : wholeR (L.drop i) e = ([], 0) := by
  by_cases hi : i < L.length
  · rw [List.drop_eq_getElem_cons hi, wholeR_cons, if_neg (by have := h hi; omega)]
  · rw [List.drop_of_length_le (by omega)]; rfl

set_option maxRecDepth 100000 in
set_option maxHeartbeats 6400000 in
theorem segback_walk (r : Rec) (a : Option Addr) (n c : Nat) (ap : Option Addr) (np cp : Nat) (M : List El) (x : Int) (w : World) (hT : Tab w) (hrg : Rg w a n c r.rungs) (hv : valued r) (hl : Rcs w ap np cp M) (hvM : ∀ e ∈ M, valued e.1) (hx0 : 0 ≤ x) (hx1 : x ≤ 65535) :
    Calls Tryd.prog 13 #[rv r a n c, .slice ap np cp, .int .u16 x] w fun e w' => e = .returned (.bool true) ∧ Ext w w' := by
  have hlen := Lib.hid hl.len
  have hmx := Nat.le_trans hl.1.le hl.1.max
  have hmc := hl.1.le
  have hmc2 := hl.1.max
  unfold maxLen at hmx hmc2
  have hgreat := great08_calls r a n c
  have hsw := fun wx (ht : Tab wx) (h1 : Rg wx a n c r.rungs) (h2 : Rcs wx ap np cp M) hn => swrite_calls r a n c ap np cp M wx ht h1 h2 hn
  have hrw := fun wx (h1 : Rg wx a n c r.rungs) (h2 : Rcs wx ap np cp M) hn => rwrite_calls r a n c ap np cp M wx h1 h2 hn
  have hfy := fun wx (ht : Tab wx) (h : Rg wx a n c r.rungs) hr => sframe_yes r a n c wx ht h hr
  have hsame := fun (a5 : Option Addr) (n5 c5 : Nat) wx h1 h2 => same8_calls r a5 n5 c5 r a n c wx h1 h2
  rw [decide_eq_true rfl] at hsame
  have hbx := Ext.alloc w (.cells (recCells r (.slice a n c)) 48)
  obtain ⟨z, hz⟩ : ∃ z, wrote r M = z := ⟨_, rfl⟩
  rw [hz] at hsw hrw
  -- what is scanned of what was written
  have hscan : r.kind = 1 → right r = true → M.all okE = true → z = (segAll r (M.map (·.1)), 0) ∧ ∀ e, segScan ((segAll r (M.map (·.1))).take e) = if (sfr r).length ≤ e then (r, (wholeR (M.map (·.1)) (e - (sfr r).length)).1, (sfr r).length + (wholeR (M.map (·.1)) (e - (sfr r).length)).2, 0) else (Rec.zero, [], 0, 7) := by
    intro h1 h2 h3
    have hL : ∀ q ∈ M.map (·.1), tailOk q := by
      intro q hq
      obtain ⟨e, he, rfl⟩ := List.mem_map.1 hq
      have h4 := List.all_eq_true.1 h3 e he
      unfold okE at h4
      rw [Bool.and_eq_true, decide_eq_true_eq] at h4
      exact ⟨h4.1, h4.2, hvM e he⟩
    refine ⟨?_, fun e => segScan_beginning r _ e h2 h1 hv hL⟩
    rw [← hz, wrote_yes r M h1 h2 h3]
    unfold segAll
    rw [List.map_map]
    rfl
  have hwhole : r.kind = 1 → right r = true → M.all okE = true → segScan (segAll r (M.map (·.1))) = (r, M.map (·.1), (segAll r (M.map (·.1))).length, 0) := by
    intro h1 h2 h3
    refine segScan_all r _ h2 h1 hv ?_
    intro q hq
    obtain ⟨e, he, rfl⟩ := List.mem_map.1 hq
    have h4 := List.all_eq_true.1 h3 e he
    unfold okE at h4
    rw [Bool.and_eq_true, decide_eq_true_eq] at h4
    exact ⟨h4.1, h4.2, hvM e he⟩
  have hbytes : right r = true → M.all okE = true → (segAll r (M.map (·.1))).length ≤ 302 + 302 * M.length := by
    intro h2 h3
    have h4 := frames_length M h3
    have h5 := sfr_le r h2
    unfold segAll
    rw [List.length_append, List.map_map]
    exact Nat.add_le_add h5 h4
  have hno1 : ¬ (r.kind = 1 ∧ right r = true ∧ M.all okE = true) → z = ([], 1) := by
    intro h
    rw [← hz]; unfold wrote; rw [if_neg h]
  clear hz
  obtain ⟨gb, hgb⟩ : ∃ gb, (decide (1000 < (n : Int)) || decide (1000 < (r.path.length : Int))) = gb := ⟨_, rfl⟩
  rw [hgb] at hgreat
  clear hgb
  have hframes := fun e (he : e ∈ M) wx (ht : Tab wx) (h : Rg wx e.2.1 e.2.2.1 e.2.2.2 e.1.rungs) hr => sframe_yes e.1 e.2.1 e.2.2.1 e.2.2.2 wx ht h hr
  obtain ⟨kind, path, method, factor, rungs, rung, time, now, value⟩ := r
  dsimp only [recCells] at hbx
  unfold rv at hgreat hsw hrw hfy hsame ⊢
  dsimp only at hgreat hsw hrw hfy hsame hrg hscan hwhole hbytes hno1 ⊢
  have hgreat := Lib.hid hgreat
  have hswk := Lib.hid hsw
  have hrwk := Lib.hid hrw
  have hsamek := Lib.hid hsame
  clear hsw hrw hsame
  cases gb with
  | true =>
    clear hscan hwhole hbytes hno1 hframes hfy hswk hrwk hsamek
    go_enter Tryd.func13, Tryd.ntmps13
    go_wp2_with fail
    refine (alive08_calls _).mono ?_
    rintro e w1 ⟨rfl, hx1⟩
    obtain ⟨x0, x1, x2, x3, x4, x5, x6, x7, x8⟩ := box9b hx1
    go_wp2_with fail
    refine (hgreat.out w1).mono ?_
    rintro e w2 ⟨rfl, hx2⟩
    go_wp2
    go_ret
    exact ⟨rfl, hbx.trans (hx1.trans hx2)⟩
  | false =>
    by_cases hn : 100 < np
    · have hnb : decide ((100 : Int) < (np : Int)) = true := by simp; omega
      clear hscan hwhole hbytes hno1 hframes hfy hswk hrwk hsamek
      go_enter Tryd.func13, Tryd.ntmps13
      go_wp2_with fail
      refine (alive08_calls _).mono ?_
      rintro e w1 ⟨rfl, hx1⟩
      obtain ⟨x0, x1, x2, x3, x4, x5, x6, x7, x8⟩ := box9b hx1
      go_wp2_with fail
      refine (hgreat.out w1).mono ?_
      rintro e w2 ⟨rfl, hx2⟩
      go_wp2
      go_ret
      exact ⟨rfl, hbx.trans (hx1.trans hx2)⟩
    · have hnb : decide ((100 : Int) < (np : Int)) = false := by simp; omega
      have hsc := Lib.hid hscan
      have hwh := Lib.hid hwhole
      have hby := Lib.hid hbytes
      have hno := Lib.hid hno1
      have hfyk := Lib.hid hfy
      have hfrk := Lib.hid hframes
      clear hscan hwhole hbytes hno1 hframes hfy
      go_enter Tryd.func13, Tryd.ntmps13
      go_wp2_with fail
      refine (alive08_calls _).mono ?_
      rintro e w1 ⟨rfl, hx1⟩
      obtain ⟨x0, x1, x2, x3, x4, x5, x6, x7, x8⟩ := box9b hx1
      go_wp2_with fail
      refine (hgreat.out w1).mono ?_
      rintro e w2 ⟨rfl, hx2⟩
      have hxx2 := hx1.trans hx2
      clear x0 x1 x2 x3 x4 x5 x6 x7 x8 hgreat hx1 hx2
      go_wp2_with fail
      go_loopw [7] (fun i wr => ∃ k : Nat, k ≤ np ∧ i = .int .i64 k ∧ Ext (w.alloc (.cells #[.int .i64 kind, .string ⟨path.toArray⟩, .int .i64 method, .int .i64 factor, .slice a n c, .int .i64 rung, .int .i64 time, .int .i64 now, .int .i64 value] 48)) wr) (fun i _ => np - (intOf i).toNat)
      case atStart => exact ⟨0, by omega, rfl, hxx2⟩
      case round =>
        obtain ⟨k, hk, rfl, hxr⟩ := hrel
        have hxw := hbx.trans hxr
        by_cases hlt : k < np
        · obtain ⟨b, o, rfl, hc⟩ := (hl.ext hxw).at (by omega)
          have hkl : k < M.length := by rw [hlen.out]; exact hlt
          have hx9 := hc k hkl
          obtain ⟨y, hy⟩ : ∃ y, M[k] = y := ⟨_, rfl⟩
          rw [hy] at hx9
          clear hc hy
          have hgy := great08_calls y.1 y.2.1 y.2.2.1 y.2.2.2
          obtain ⟨⟨kind2, path2, method2, factor2, rungs2, rung2, time2, now2, value2⟩, a2, n2, c2⟩ := y
          unfold At9 at hx9
          unfold rv at hgy
          dsimp only at hx9 hgy
          obtain ⟨gy, hgy2⟩ : ∃ gb, (decide (1000 < (n2 : Int)) || decide (1000 < (path2.length : Int))) = gb := ⟨_, rfl⟩
          rw [hgy2] at hgy
          have hgyk := Lib.hid hgy
          clear hgy hgy2
          obtain ⟨x0, x1, x2, x3, x4, x5, x6, x7, x8⟩ := hx9
          go_wp2_with fail
          refine (hgyk.out wr).mono ?_
          rintro e w4 ⟨rfl, hx4⟩
          cases gy with
          | true =>
            go_wp2
            go_ret
            exact ⟨rfl, hxw.trans hx4⟩
          | false =>
            go_wp2
            go_roundw
            case rel => exact ⟨k + 1, by omega, by go_num, hxr.trans hx4⟩
            case measure => simp [intOf]; omega
        · obtain rfl : k = np := by omega
          obtain ⟨x0, x1, x2, x3, x4, x5, x6, x7, x8⟩ := box9b hxr
          go_wp2_with fail
          refine (hswk.out wr (hT.ext hxw) (hrg.ext hxw) (hl.ext hxw) (by omega)).mono ?_
          rintro e w5 ⟨v, rfl, ho5, hx5⟩
          obtain ⟨a5, n5, c5, rfl, hb5⟩ := ho5.bs
          have hxr5 := hxr.trans hx5
          have hxw5 := hxw.trans hx5
          clear x0 x1 x2 x3 x4 x5 x6 x7 x8 ho5
          obtain ⟨x0, x1, x2, x3, x4, x5, x6, x7, x8⟩ := box9b hxr5
          go_wp2_with fail
          refine (hrwk.out w5 (hrg.ext hxw5) (hl.ext hxw5) (by omega)).mono ?_
          rintro e w6 ⟨v, rfl, ho6, hx6⟩
          obtain ⟨a6, n6, c6, rfl, hb6⟩ := ho6.bs
          have hxr6 := hxr5.trans hx6
          have hxw6 := hxw5.trans hx6
          clear x0 x1 x2 x3 x4 x5 x6 x7 x8 ho6 hswk hrwk
          go_wp2_with fail
          refine (same_ext a5 n5 c5 _ a6 n6 c6 _ w6 (hb5.ext hx6) hb6).mono ?_
          rw [show (z.1 == z.1) = true by simp]
          rintro e w7 ⟨rfl, hx7⟩
          have hxr7 := hxr6.trans hx7
          have hxw7 := hxw6.trans hx7
          have hb57 := hb5.ext (hx6.trans hx7)
          have hqz : (z.2 != z.2) = false := by simp
          clear hb5 hb6 hx5 hx6 hx7 hxr5 hxr6 hxw5 hxw6
          by_cases hok : kind = 1 ∧ right ⟨kind, path, method, factor, rungs, rung, time, now, value⟩ = true ∧ M.all okE = true
          · obtain ⟨rfl, hr2, hM3⟩ := hok
            have hnp : M.length ≤ 100 := by have := hlen.out; omega
            obtain ⟨hz, hsb⟩ := hsc.out rfl hr2 hM3
            have hwh1 := hwh.out rfl hr2 hM3
            have hbb := hby.out hr2 hM3
            have hfy1 := fun wx h1 h2 => hfyk.out wx h1 h2 hr2
            have hfr1 : ∀ e ∈ M, right e.1 = true := fun e he => by
              have h4 := List.all_eq_true.1 hM3 e he
              unfold okE at h4
              rw [Bool.and_eq_true] at h4
              exact h4.1
            obtain ⟨B, hB⟩ : ∃ B, segAll ⟨1, path, method, factor, rungs, rung, time, now, value⟩ (M.map (·.1)) = B := ⟨_, rfl⟩
            rw [hB] at hz hsb hwh1 hbb
            clear hB
            subst hz
            have hlB := hb57.len
            dsimp only at hlB hb57
            have hn5 : n5 ≤ 31000 := by omega
            have hs1 := scan_calls a5 n5 c5 B w7 (by omega) (hT.ext hxw7) hb57
            rw [hwh1, hlB] at hs1
            unfold ScanOut rv at hs1
            dsimp only at hs1
            obtain ⟨sf, hsf⟩ : ∃ sf, sfr ⟨1, path, method, factor, rungs, rung, time, now, value⟩ = sf := ⟨_, rfl⟩
            rw [hsf] at hsb hfy1
            have hsfp : 0 < sf.length := by rw [← hsf]; exact sfr_pos _
            have hs1k := Lib.hid hs1
            have hfy1k := Lib.hid hfy1
            have hsbk := Lib.hid hsb
            have hqn5 : ((n5 : Int) != (n5 : Int)) = false := by simp
            clear hs1 hfy1 hsb hwh1 hsf hbb hsc hwh hby hno hfyk hlB hqz
            go_wp2_with fail
            refine hs1k.out.mono ?_
            rintro e w8 ⟨a8, n8, c8, a9, n9, c9, M2, rfl, hg8, hr9, hM2, hx8⟩
            have hM2k := Lib.hid hM2
            have hxr8 := hxr7.trans hx8
            have hxw8 := hxw7.trans hx8
            have hsz8 : w.heap.size < w8.heap.size := by have := hxr8.size; simp at this; omega
            clear hs1k hM2
            obtain ⟨x0, x1, x2, x3, x4, x5, x6, x7, x8⟩ := box9b hxr8
            have hxH : Ext w8 (w8.alloc (.cells #[.int .i64 1, .string ⟨path.toArray⟩, .int .i64 method, .int .i64 factor, .slice a8 n8 c8, .int .i64 rung, .int .i64 time, .int .i64 now, .int .i64 value] 48)) := Ext.alloc _ _
            go_wp2_with fail
            refine (hsamek.out a8 n8 c8 _ (hg8.1.ext hxH) (hrg.ext (hxw8.trans hxH))).mono ?_
            rintro e w9 ⟨rfl, hx9⟩
            have hH9 := hx9.block w8.heap.size (by simp)
            rw [heap_alloc_new] at hH9
            have hxr9 := (hxr8.trans hxH).trans hx9
            have hxw9 := (hxw8.trans hxH).trans hx9
            have hr99 := hr9.rcs.ext (hxH.trans hx9)
            have hb59 := hb57.ext (hx8.trans (hxH.trans hx9))
            clear x0 x1 x2 x3 x4 x5 x6 x7 x8 hr9 hg8 hb57 hx8 hxH hx9
            go_wp2_with fail
            refine (samelist_calls a9 n9 c9 M2 ap k cp M w9 hr99 (hl.ext hxw9)).mono ?_
            rw [hM2k.out, decide_eq_true rfl]
            rintro e w10 ⟨rfl, hx10⟩
            have hH10 := hx10.block _ (Array.getElem?_eq_some_iff.1 hH9).1
            rw [hH9] at hH10
            have hxr10 := hxr9.trans hx10
            have hxw10 := hxw9.trans hx10
            have hb510 := hb59.ext hx10
            clear hr99 hH9 hb59 hM2k
            obtain ⟨x0, x1, x2, x3, x4, x5, x6, x7, x8⟩ := box9b hxr10
            go_wp2_with fail
            refine (hfy1k.out w10 (hT.ext hxw10) (hrg.ext hxw10)).mono ?_
            rintro e w11 ⟨v, rfl, ho11, hx11⟩
            obtain ⟨a11, lf, c11, rfl, hb11⟩ := ho11.bs
            have hlf := hb11.len
            have hH11 := hx11.block _ (Array.getElem?_eq_some_iff.1 hH10).1
            rw [hH10] at hH11
            have hx8c : w8.heap.size < w11.heap.size := (Array.getElem?_eq_some_iff.1 hH11).1
            have hxr11 := hxr10.trans hx11
            have hxw11 := hxw10.trans hx11
            have hb511 := hb510.ext hx11
            obtain ⟨en, hen, hen2⟩ : ∃ en : Nat, x % ((n5 : Int) + 1) = en ∧ en ≤ n5 := ⟨(x % ((n5 : Int) + 1)).toNat, by have := Int.emod_nonneg x (show ((n5 : Int) + 1) ≠ 0 by omega); omega, by
              have := Int.emod_nonneg x (show ((n5 : Int) + 1) ≠ 0 by omega)
              have := Int.emod_lt_of_pos x (show (0 : Int) < ((n5 : Int) + 1) by omega)
              omega⟩
            have hc5 := Sl.le hb511
            have hs2 := scan_calls a5 en c5 (B.take en) w11 (by omega) (hT.ext hxw11) (hb511.take en hen2)
            rw [hsbk.out en, hlf] at hs2
            have hlfp : 0 < lf := by omega
            clear x0 x1 x2 x3 x4 x5 x6 x7 x8 ho11 hb11 hH10 hb510 hfy1k hsbk hlf hsfp
            by_cases hfe : en < lf
            · rw [if_neg (by omega)] at hs2
              unfold ScanOut rv Rec.zero at hs2
              dsimp only at hs2
              have hs2k := Lib.hid hs2
              have hfei : (en : Int) < (lf : Int) := by omega
              clear hs2
              go_wp2_with fail
              rw [hen]
              clear hen
              refine hs2k.out.mono ?_
              rintro e w12 ⟨a13, n13, c13, a14, n14, c14, M3, rfl, hg13, hr14, hM3', hx12⟩
              obtain rfl : n14 = 0 := by have h1 := hr14.1; have h2 := congrArg List.length hM3'; simp at h2; rw [h2] at h1; exact h1.symm
              have hH12 := hx12.block _ (Array.getElem?_eq_some_iff.1 hH11).1
              rw [hH11] at hH12
              obtain ⟨y0, y1, y2, y3, y4, y5, y6, y7, y8⟩ := cells9 hH12
              obtain ⟨z0, z1, z2, z3, z4, z5, z6, z7, z8⟩ := frozen9 hH12
              have hxw12 := hxw11.trans hx12
              clear hs2k hM3' hr14 hg13 hH11 hH12
              go_wp2
              go_ret
              exact ⟨rfl, ext9at hxw12 (Nat.le_of_lt hsz8) _ _ _ _ _ _ _ _ _⟩
            · rw [if_pos (by omega)] at hs2
              unfold ScanOut rv at hs2
              obtain ⟨wl, hwl⟩ : ∃ wl, wholeR (M.map (·.1)) (en - lf) = wl := ⟨_, rfl⟩
              rw [hwl] at hs2
              have HWL := Lib.hid hwl
              obtain ⟨nn, hnn⟩ : ∃ nn, lf + wl.2 = nn := ⟨_, rfl⟩
              rw [hnn] at hs2
              have HNN := Lib.hid hnn
              dsimp only at hs2
              have hs2k := Lib.hid hs2
              have hfei : ¬ (en : Int) < (lf : Int) := by omega
              clear hs2 hwl hnn
              go_wp2_with fail
              rw [hen]
              clear hen
              refine hs2k.out.mono ?_
              rintro e w12 ⟨a13, n13, c13, a14, n14, c14, M3, rfl, hg13, hr14, hM3', hx12⟩
              have HM3 := Lib.hid hM3'
              have hH12 := hx12.block _ (Array.getElem?_eq_some_iff.1 hH11).1
              rw [hH11] at hH12
              obtain ⟨y0, y1, y2, y3, y4, y5, y6, y7, y8⟩ := cells9 hH12
              obtain ⟨z0, z1, z2, z3, z4, z5, z6, z7, z8⟩ := frozen9 hH12
              have hxw12 := hxw11.trans hx12
              have hxr12 := hxr11.trans hx12
              have hx8b : w8.heap.size < w11.heap.size := hx8c
              have hx8a : w8.heap.size < w12.heap.size := (Array.getElem?_eq_some_iff.1 hH12).1
              have hH13 := heap_set9 hH12 (.int .i64 1) (.string ⟨path.toArray⟩) (.int .i64 method) (.int .i64 factor) (.slice a13 n13 c13) (.int .i64 rung) (.int .i64 time) (.int .i64 now) (.int .i64 value)
              have hx13 := ext9at (b := w8.heap.size) hxr12 (by simp; omega) (.int .i64 1) (.string ⟨path.toArray⟩) (.int .i64 method) (.int .i64 factor) (.slice a13 n13 c13) (.int .i64 rung) (.int .i64 time) (.int .i64 now) (.int .i64 value)
              have hs13 := size9 w12 w8.heap.size (.int .i64 1) (.string ⟨path.toArray⟩) (.int .i64 method) (.int .i64 factor) (.slice a13 n13 c13) (.int .i64 rung) (.int .i64 time) (.int .i64 now) (.int .i64 value)
              have hg14 := rt_set9 hg13 hH12 (by decide) (.int .i64 1) (.string ⟨path.toArray⟩) (.int .i64 method) (.int .i64 factor) (.slice a13 n13 c13) (.int .i64 rung) (.int .i64 time) (.int .i64 now) (.int .i64 value)
              have hr15 : Rcf (((((((((w12.setCell ⟨w8.heap.size, 0, none⟩ (.int .i64 1)).setCell ⟨w8.heap.size, 1, none⟩ (.string ⟨path.toArray⟩)).setCell ⟨w8.heap.size, 2, none⟩ (.int .i64 method)).setCell ⟨w8.heap.size, 3, none⟩ (.int .i64 factor)).setCell ⟨w8.heap.size, 4, none⟩ (.slice a13 n13 c13)).setCell ⟨w8.heap.size, 5, none⟩ (.int .i64 rung)).setCell ⟨w8.heap.size, 6, none⟩ (.int .i64 time)).setCell ⟨w8.heap.size, 7, none⟩ (.int .i64 now)).setCell ⟨w8.heap.size, 8, none⟩ (.int .i64 value)) w11.heap.size a14 n14 c14 M3 := ⟨hr14.1, own9 hr14.2.1 hx8b (.int .i64 1) (.string ⟨path.toArray⟩) (.int .i64 method) (.int .i64 factor) (.slice a13 n13 c13) (.int .i64 rung) (.int .i64 time) (.int .i64 now) (.int .i64 value), fun e he => rt_set9 (hr14.2.2 e he) hH12 (by decide) (.int .i64 1) (.string ⟨path.toArray⟩) (.int .i64 method) (.int .i64 factor) (.slice a13 n13 c13) (.int .i64 rung) (.int .i64 time) (.int .i64 now) (.int .i64 value)⟩
              clear hs2k hM3' hH11 hH12 hg13 hr14
              go_wp2_with fail
              clear y0 y1 y2 y3 y4 y5 y6 y7 y8 z0 z1 z2 z3 z4 z5 z6 z7 z8
              obtain ⟨w13, hw13⟩ : ∃ w13, (((((((((w12.setCell ⟨w8.heap.size, 0, none⟩ (.int .i64 1)).setCell ⟨w8.heap.size, 1, none⟩ (.string ⟨path.toArray⟩)).setCell ⟨w8.heap.size, 2, none⟩ (.int .i64 method)).setCell ⟨w8.heap.size, 3, none⟩ (.int .i64 factor)).setCell ⟨w8.heap.size, 4, none⟩ (.slice a13 n13 c13)).setCell ⟨w8.heap.size, 5, none⟩ (.int .i64 rung)).setCell ⟨w8.heap.size, 6, none⟩ (.int .i64 time)).setCell ⟨w8.heap.size, 7, none⟩ (.int .i64 now)).setCell ⟨w8.heap.size, 8, none⟩ (.int .i64 value)) = w13 := ⟨_, rfl⟩
              rw [hw13] at hH13 hx13 hg14 hr15 ⊢
              clear hw13 hs13 hx8a
              have hr14s := hr15.rcs
              clear hr15
              go_loopw [19, 20, 21] (fun sz wh i wr => ∃ j s : Nat, j ≤ k ∧ s ≤ en ∧ lf ≤ s ∧ i = .int .i64 j ∧ wh = .int .i64 j ∧ sz = .int .i64 s ∧ Ext w13 wr ∧ wl = ((M.map (·.1)).take j ++ (wholeR ((M.map (·.1)).drop j) (en - s)).1, (s - lf) + (wholeR ((M.map (·.1)).drop j) (en - s)).2)) (fun _ _ i _ => k - (intOf i).toNat)
              case atStart => exact ⟨0, lf, by omega, by omega, Nat.le_refl _, rfl, rfl, rfl, Ext.refl _, by rw [← HWL.out]; simp⟩
              case round =>
                obtain ⟨j, s, hj, hse, hls, rfl, rfl, rfl, hxq, hw0⟩ := hrel
                have HW0 := Lib.hid hw0
                clear hw0
                have hxr13 := hx13.trans hxq
                have hxw13 := hbx.trans hxr13
                have hHq := hxq.block _ (Array.getElem?_eq_some_iff.1 hH13).1
                rw [hH13] at hHq
                by_cases hlt : j < k
                · obtain ⟨b2, o2, rfl, hc⟩ := (hl.ext hxw13).at (by omega)
                  have hkl : j < M.length := by rw [hlen.out]; exact hlt
                  have hxe := hc j hkl
                  have hme : M[j] ∈ M := List.getElem_mem hkl
                  have hge := hl.2 M[j] hme
                  have hfe1 := hfrk.out M[j] hme wr (hT.ext hxw13) (hge.ext hxw13) (hfr1 _ hme)
                  have hle1 := sfr_le M[j].1 (hfr1 _ hme)
                  have hst1 := wholeR_step (M.map (·.1)) j (en - s) (by rw [List.length_map]; exact hkl)
                  have hst2 := wholeR_stop (M.map (·.1)) j (en - s)
                  have htk1 : (M.map (·.1)).take (j + 1) = (M.map (·.1)).take j ++ [M[j].1] := by
                    rw [List.take_add_one, List.getElem?_map, List.getElem?_eq_getElem hkl]; rfl
                  rw [List.getElem_map] at hst1
                  have hst2 : en - s < (sfr M[j].1).length → wholeR ((M.map (·.1)).drop j) (en - s) = ([], 0) := fun h => hst2 (fun hi => by rw [List.getElem_map]; exact h)
                  clear hc hme hge
                  obtain ⟨y, hy⟩ : ∃ y, M[j] = y := ⟨_, rfl⟩
                  rw [hy] at hxe hfe1 hle1 hst1 hst2 htk1
                  clear hy
                  obtain ⟨sy, hsy⟩ : ∃ sy, sfr y.1 = sy := ⟨_, rfl⟩
                  rw [hsy] at hfe1 hle1 hst1 hst2
                  clear hsy
                  have hst1k := Lib.hid hst1
                  have hst2k := Lib.hid hst2
                  have htk1k := Lib.hid htk1
                  clear hst1 hst2 htk1
                  obtain ⟨⟨kind2, path2, method2, factor2, rungs2, rung2, time2, now2, value2⟩, a2, n2, c2⟩ := y
                  unfold At9 at hxe
                  unfold rv at hfe1
                  dsimp only at hxe hfe1 htk1k hst1k
                  have hfe1k := Lib.hid hfe1
                  clear hfe1
                  obtain ⟨x0, x1, x2, x3, x4, x5, x6, x7, x8⟩ := hxe
                  go_wp2_with fail
                  refine hfe1k.out.mono ?_
                  rintro e w14 ⟨v, rfl, ho14, hx14⟩
                  obtain ⟨a15, ly, c15, rfl, hb15⟩ := ho14.bs
                  have hly := hb15.len
                  have hxr14 := hxr13.trans hx14
                  have hxq14 := hxq.trans hx14
                  have hH14 := hx14.block _ (Array.getElem?_eq_some_iff.1 hHq).1
                  rw [hHq] at hH14
                  clear x0 x1 x2 x3 x4 x5 x6 x7 x8 ho14 hb15 hHq hfe1k
                  by_cases hfi : s + ly ≤ en
                  · have hfii : ¬ ((en : Int) < (s : Int) + (ly : Int)) := by omega
                    go_wp2
                    go_roundw
                    case rel =>
                      refine ⟨j + 1, s + ly, by omega, hfi, by omega, by go_num, by go_num, by go_num, hxq14, ?_⟩
                      rw [HW0.out, hst1k.out (by omega), htk1k.out, hly, show en - s - ly = en - (s + ly) by omega, show s + ly - lf = (s - lf) + ly by omega]
                      simp [Nat.add_assoc]
                    case measure => simp [intOf]; omega
                  · have hfii : (en : Int) < (s : Int) + (ly : Int) := by omega
                    have hstp := hst2k.out (by omega)
                    have HE : Hid (wl.1 = (M.map (·.1)).take j) := Lib.hid (by rw [HW0.out, hstp]; simp)
                    obtain rfl : nn = s := by rw [← HNN.out, HW0.out, hstp]; simp; omega
                    clear hstp hst1k hst2k htk1k
                    obtain ⟨h0, h1, h2, h3, h4, h5, h6, h7, h8⟩ := cells9 hH14
                    obtain ⟨x0, x1, x2, x3, x4, x5, x6, x7, x8⟩ := box9b hxr14
                    have hkc : (j : Int) ≤ (cp : Int) := by omega
                    have HMT : Hid ((M.take j).map (·.1) = (M.map (·.1)).take j) := Lib.hid (List.map_take ..)
                    go_wp2_with fail
                    refine (hsamek.out a13 n13 c13 _ (hg14.1.ext hxq14) (hrg.ext (hbx.trans hxr14))).mono ?_
                    rintro e u1 ⟨rfl, hu1⟩
                    go_wp2_with fail
                    refine (samelist_calls a14 n14 c14 M3 (some ⟨b2, o2, none⟩) j cp (M.take j) u1 ((hr14s.ext hxq14).ext hu1) ((hl.take j (by omega)).ext ((hbx.trans hxr14).trans hu1))).mono ?_
                    rw [HM3.out, HMT.out, HE.out, decide_eq_true rfl]
                    rintro e u2 ⟨rfl, hu2⟩
                    go_wp2
                    go_ret
                    exact ⟨rfl, ((hbx.trans hxr14).trans hu1).trans hu2⟩
                · obtain rfl : j = k := by omega
                  have hstp := wholeR_stop (M.map (·.1)) j (en - s) (fun hi => by rw [List.length_map, hlen.out] at hi; omega)
                  have HE : Hid (wl.1 = (M.map (·.1)).take j) := Lib.hid (by rw [HW0.out, hstp]; simp)
                  obtain rfl : nn = s := by rw [← HNN.out, HW0.out, hstp]; simp; omega
                  clear hstp
                  obtain ⟨h0, h1, h2, h3, h4, h5, h6, h7, h8⟩ := cells9 hHq
                  obtain ⟨x0, x1, x2, x3, x4, x5, x6, x7, x8⟩ := box9b hxr13
                  have hkc : (j : Int) ≤ (cp : Int) := by omega
                  have HMT : Hid ((M.take j).map (·.1) = (M.map (·.1)).take j) := Lib.hid (List.map_take ..)
                  go_wp2_with fail
                  refine (hsamek.out a13 n13 c13 _ (hg14.1.ext hxq) (hrg.ext (hbx.trans hxr13))).mono ?_
                  rintro e u1 ⟨rfl, hu1⟩
                  go_wp2_with fail
                  refine (samelist_calls a14 n14 c14 M3 ap j cp (M.take j) u1 ((hr14s.ext hxq).ext hu1) ((hl.take j (by omega)).ext ((hbx.trans hxr13).trans hu1))).mono ?_
                  rw [HM3.out, HMT.out, HE.out, decide_eq_true rfl]
                  rintro e u2 ⟨rfl, hu2⟩
                  go_wp2
                  go_ret
                  exact ⟨rfl, ((hbx.trans hxr13).trans hu1).trans hu2⟩
          · have hz := hno.out hok
            subst hz
            obtain rfl : n5 = 0 := hb57.len.symm
            clear hok
            go_wp2
            go_ret
            exact ⟨rfl, hxw7⟩
end Go.Proofs.YtkflikfcpdekdaaDoor

/-
  A record's payload: the program's Put, of heads.
-/
import Derived.Test.YtkflikfcpdekdaaDoorSegPut
import Derived.Test.YtkflikfcpdekdaaDoorSegPos
import Derived.Deep.RegionLaw
import Derived.Deep.DeepCutAuto
namespace Go.Proofs.YtkflikfcpdekdaaDoor
open Go.RowKit

set_option maxRecDepth 100000 in
set_option maxHeartbeats 1600000 in
theorem put1_calls (r : Rec) (a : Option Addr) (n c : Nat) (w : World) (hb : Rg w a n c r.rungs) (hr : right r = true) (k1 : r.kind = 1) :
    Calls Tryd.prog 39 #[rv r a n c] w fun e w' => ∃ v, e = .returned (.tuple #[v, .int .i64 0]) ∧ Own w' w.heap.size 5 v (segPut r) ∧ Ext w w' := by
  have hpp := Lib.hid (segPut1 r k1)
  have hc0 := fun w' (hx : Ext w w') => right_calls r a n c w' (hb.ext hx)
  rw [hr] at hc0
  obtain ⟨-, -, -, -, -, h6, h7, h8, h9, h10, h11, h12, -⟩ := right1 r k1 hr
  obtain ⟨kind, path, method, factor, rungs, rung, time, now, value⟩ := r
  unfold rv at *
  dsimp only at hb k1 hpp h6 h7 h8 h9 h10 h11 h12 ⊢
  subst k1
  have hc0 := Lib.hid hc0
  have hlen := Lib.hid hb.len
  rw [hlen.out] at h11 h12
  clear hr
  go_enter Tryd.func39, Tryd.ntmps39
  go_wp2_with fail
  refine (hc0.out _ (Ext.alloc _ _)).mono ?_
  rintro e w2 ⟨rfl, hx2⟩
  have hxx := (Ext.alloc _ _).trans hx2
  have c0 := hx2.cell (a := ⟨w.heap.size, 0, none⟩) (v := .int .i64 1) (by simp)
  have c1 := hx2.cell (a := ⟨w.heap.size, 1, none⟩) (v := .string ⟨path.toArray⟩) (by simp)
  have c2 := hx2.cell (a := ⟨w.heap.size, 2, none⟩) (v := .int .i64 method) (by simp)
  have c3 := hx2.cell (a := ⟨w.heap.size, 3, none⟩) (v := .int .i64 factor) (by simp)
  have c4 := hx2.cell (a := ⟨w.heap.size, 4, none⟩) (v := .slice a n c) (by simp)
  have hw2 := wr_new w2 1 (.int .u8 1) rfl
  have hz : w.heap.size < w2.heap.size := by have := hx2.size; simp at this; omega
  clear hx2 hc0
  go_wp2_with fail
  refine (wnumber_calls w2 _ (w2.heap.size + 1) _ path.length 2 hw2 (by decide) (by decide)).mono ?_
  rintro e w3 ⟨rfl, ⟨hx3, hR3, v3, hh3, ho3⟩, -⟩
  have d1 := hx3.cell c1
  have d0 := (cell0 hh3 0 v3 rfl).1
  obtain ⟨v4, w4, hrun, ho4, hx4, hg4⟩ := run_append_str w2 22 9 22 5 Tryd.underlying22 Tryd.underlying9 infoU8 v3 _ (ho3.ext (Ext.refl _).drew) hx3.drew path (by simp [le_length]; omega)
  obtain ⟨hh4, hw4⟩ := wr_store (w := w3.drew) hR3 hh3 (ho3.ext (Ext.refl _).drew) hg4 hx4 ho4
  obtain ⟨a4, n4, c4', rfl, -⟩ := ho4.bs
  obtain ⟨hc4, hf4⟩ := cell0 hh4 0 v3 rfl
  have hrun := Lib.hid hrun
  have hpl := Lib.hid hlen.out
  obtain ⟨a3, n3, c3', rfl, -⟩ := ho3.bs
  clear hw2 hh3 ho3 hh4 ho4 hx4 hg4 hx3
  go_upto_region 7 with fail
  go_cut [] (fun wx => Wr w2 wx (w2.heap.size + 1) ([1] ++ le 2 path.length ++ path))
  case first =>
    go_region_law (refine step_builtin2 rfl (.tmp 29) (.tmp 31) 22 9 rfl rfl rfl hrun.out ?_)
    all_goals (go_wp2_with fail; go_meet; exact hw4)
  case rest =>
  clear hrun hw4 hf4 d0 d1
  have hw4 := hcut
  clear hcut
  have e2 := hw4.1.cell c2
  go_wp2_with fail
  refine (wnumber_calls w2 _ (w2.heap.size + 1) _ method 1 hw4 (by decide) (by simp [le_length]; omega)).mono ?_
  rintro e w5 ⟨rfl, hw5, -⟩
  have e3 := hw5.1.cell c3
  clear hw4 e2
  go_wp2_with fail
  refine (wnumber_calls w2 _ (w2.heap.size + 1) _ factor 4 hw5 (by decide) (by simp [le_length]; omega)).mono ?_
  rintro e w6 ⟨rfl, hw6, -⟩
  have e4 := hw6.1.cell c4
  clear hw5 e3
  go_wp2_with fail
  refine (wnumber_calls w2 _ (w2.heap.size + 1) _ n 1 hw6 (by decide) (by simp [le_length]; omega)).mono ?_
  rintro e w7 ⟨rfl, hw7, -⟩
  have e5 := hw7.1.cell c4
  clear hw6 e4
  obtain ⟨pre, hpre⟩ : ∃ pre, ([1] ++ le 2 ↑path.length ++ path ++ le 1 method ++ le 4 factor ++ le 1 (n : Int)) = pre := ⟨_, rfl⟩
  have hprel : pre.length ≤ 1000 := by rw [← hpre]; simp [le_length]; omega
  have HP : Hid (segPut ⟨1, path, method, factor, rungs, rung, time, now, value⟩ = pre ++ (rungs.map rungPut).flatten) := by
    show _ = _
    rw [hpp.out, ← hpre, hpl.out]; simp
  rw [hpre] at hw7
  clear hpre hpp
  go_wp2_with fail
  go_loopw [51] (fun i wr => ∃ k : Nat, k ≤ n ∧ i = .int .i64 k ∧ Wr w2 wr (w2.heap.size + 1) (pre ++ ((rungs.take k).map rungPut).flatten)) (fun i _ => n - (intOf i).toNat)
  case atStart => exact ⟨0, by omega, rfl, by simpa using hw7⟩
  case round =>
    obtain ⟨k, hk, rfl, hwr⟩ := hrel
    have hll : ((rungs.take k).map rungPut).flatten.length ≤ 24 := by
      rw [rungs_put_length, List.length_take]; omega
    by_cases hlt : k < n
    · have hkl : k < rungs.length := by rw [hpl.out]; exact hlt
      obtain ⟨b, o, rfl, hc⟩ := (hb.ext (hxx.trans hwr.1)).at (by omega)
      obtain ⟨hc1, hc2⟩ := hc k hkl
      obtain ⟨x, hxx2⟩ : ∃ x, rungs[k] = x := ⟨_, rfl⟩
      rw [hxx2] at hc1 hc2
      have HS : Hid (((rungs.take (k + 1)).map rungPut).flatten = ((rungs.take k).map rungPut).flatten ++ (le 4 x.1 ++ le 2 x.2)) := by
        show _ = _
        rw [List.take_succ_eq_append_getElem hkl, hxx2]; simp [rungPut]
      have hRlt : w2.heap.size + 1 < wr.heap.size := by obtain ⟨_, _, v, g3, _⟩ := hwr; exact (Array.getElem?_eq_some_iff.1 g3).1
      have hwr1 : Wr w2 (wr.alloc (.cells #[.int .i64 x.1, .int .i64 x.2] 68)) (w2.heap.size + 1) (pre ++ ((rungs.take k).map rungPut).flatten) := by
        obtain ⟨g1, g2, v, g3, g4⟩ := hwr
        exact ⟨g1.trans (Ext.alloc _ _), g2, v, by rw [heap_alloc_old _ _ (Array.getElem?_eq_some_iff.1 g3).1]; exact g3, g4.ext (Ext.alloc _ _)⟩
      clear hc hxx2 hw7
      go_wp2_with fail
      refine (wnumber_calls w2 _ (w2.heap.size + 1) _ x.1 4 hwr1 (by decide) (by rw [List.length_append]; omega)).mono ?_
      rintro e w8 ⟨rfl, hw8, hk8⟩
      have hb8 := hk8 wr.heap.size #[.int .i64 x.1, .int .i64 x.2] 68 (0, 0) (by omega) (by decide) (heap_alloc_new _ _)
      obtain ⟨f1, -⟩ := cell0 hb8 1 (.int .i64 x.2) rfl
      clear hwr1 hk8 hb8 hc1 hc2
      go_wp2_with fail
      refine (wnumber_calls w2 _ (w2.heap.size + 1) _ x.2 2 hw8 (by decide) (by rw [List.length_append, List.length_append, le_length]; omega)).mono ?_
      rintro e w9 ⟨rfl, hw9, -⟩
      clear hw8 f1
      go_wp2
      go_roundw
      case rel => exact ⟨k + 1, by omega, by go_num, by rw [HS.out, ← List.append_assoc, ← List.append_assoc]; exact hw9⟩
      case measure => simp [intOf]; omega
    · obtain rfl : k = n := by omega
      rw [List.take_of_length_le (by rw [hpl.out]; omega)] at hwr
      obtain ⟨hx9, hR, v, hh, ho⟩ := hwr
      obtain ⟨a1, n1, c1, rfl, -⟩ := ho.bs
      have hcr := (cell0 hh 0 _ rfl).1
      have hoh := Lib.hid (ho.mono hxx.size)
      clear hh ho hw7
      go_wp2
      go_ret2
      exact ⟨_, rfl, by rw [HP.out]; exact hoh.out, hxx.trans hx9⟩
theorem put_calls (r : Rec) (a : Option Addr) (n c : Nat) (w : World) (hb : Rg w a n c r.rungs) (hr : right r = true) :
    Calls Tryd.prog 39 #[rv r a n c] w fun e w' => ∃ v, e = .returned (.tuple #[v, .int .i64 0]) ∧ Own w' w.heap.size 5 v (segPut r) ∧ Ext w w' := by
  rcases right_kind r hr with k | k | k
  · exact put1_calls r a n c w hb hr k
  · exact put2_calls r a n c w hb hr k
  · exact put3_calls r a n c w hb hr k
theorem putno_calls (r : Rec) (a : Option Addr) (n c : Nat) (w : World) (hb : Rg w a n c r.rungs) (hr : right r = false) :
    Calls Tryd.prog 39 #[rv r a n c] w fun e w' => e = .returned (.tuple #[.slice none 0 0, .int .i64 1]) ∧ Ext w w' := by
  have hc0 := fun w' (hx : Ext w w') => right_calls r a n c w' (hb.ext hx)
  rw [hr] at hc0
  have hc0 := Lib.hid hc0
  obtain ⟨kind, path, method, factor, rungs, rung, time, now, value⟩ := r
  unfold rv at *
  clear hr
  go_enter Tryd.func39, Tryd.ntmps39
  go_wp2_with fail
  refine (hc0.out _ (Ext.alloc _ _)).mono ?_
  rintro e w2 ⟨rfl, hx2⟩
  have hxx := (Ext.alloc _ _).trans hx2
  clear hx2 hc0 hb
  go_wp2
  go_ret2
  exact ⟨rfl, hxx⟩
end Go.Proofs.YtkflikfcpdekdaaDoor

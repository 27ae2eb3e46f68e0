/-
  Layer 6's contracts: a name goes; another name.
-/
import Derived.Test.YtponbponacdhkaaDkMoved
namespace Go.Proofs.Ytponbponacdhkaa
open Go.RowKit

def removeD (D : Dk) (s : List UInt8) : Dk × Int := match findN s D.names with
  | none => (D, 4)
  | some _ => ({ D with names := dropN s D.names, moves := D.moves ++ [⟨2, s, [], 0⟩] }, 0)
def renameD (D : Dk) (s t : List UInt8) : Dk × Int := match findN s D.names with
  | none => (D, 4)
  | some x => if s = t then (D, 0) else ({ D with names := insN t x.2 (dropN t (dropN s D.names)), moves := D.moves ++ [⟨3, s, t, 0⟩] }, 0)
/-- What a changing call answers. -/
def DPost (R : Dk × Int) (base : Nat) (w : World) (e : Ending) (w' : World) : Prop := ∃ x2, e = .returned (.tuple #[dkv R.1 x2, .int .i64 R.2]) ∧ OD w' base x2 R.1 ∧ Ext w w'
theorem done_remove {M : List Nm} {s : List UInt8} {x : Nm} (hv : vld s = true) (h : findN s M = some x) : doneN M ⟨2, s, [], 0⟩ = some (dropN s M) := by
  unfold doneN
  simp [hv, h]
theorem done_rename {M : List Nm} {s t : List UInt8} {x : Nm} (hv : vld s = true) (ht : vld t = true) (h : findN s M = some x) (hne : ¬ s = t) : doneN M ⟨3, s, t, 0⟩ = some (insN t x.2 (dropN t (dropN s M))) := by
  unfold doneN
  simp [hv, ht, h, Ne.symm hne]

set_option maxRecDepth 100000 in
set_option maxHeartbeats 6400000 in
theorem remove_calls (D : Dk) (x : DV) (base : Nat) (s : List UInt8) (w : World) (hO : OD w base x D) (hG : Good D) (hbase : base ≤ w.heap.size) (hv : vld s = true) :
    Calls Try.prog 36 #[dkv D x, .string ⟨s.toArray⟩] w (DPost (removeD D s) base w) := by
  have hmv := Lib.hid (fun W (h : Ext w W) (M1 : List Nm) (hd : doneN D.names ⟨2, s, [], 0⟩ = some M1) => moved_calls D x base 2 s [] 0 M1 W (hO.ext h) hG (by have := h.size; omega) hd)
  have hfd := Lib.hid (fun W (h : Ext w W) => find_calls D x base s W (hO.ext h) hG hv)
  have hOh := Lib.hid hO
  have hGh := Lib.hid hG
  have hvh := Lib.hid hv
  clear hO hG hv
  unfold dkv at *
  unfold dcs at *
  obtain ⟨fa, fn, fc, fm, na, nn, nc0, ka, kn, kc, ma, mn, mc⟩ := x
  dsimp only at *
  obtain ⟨hbk, hrk⟩ := two_blocks (Ext.refl ((w.alloc (.cells #[.int .i64 D.quota, .slice fa fn fc, .slice na nn nc0, .slice ka kn kc, .slice ma mn mc, .int .i64 D.next] 29)).alloc (.cells #[.int .i64 0, .slice none 0 0, .slice none 0 0, .slice none 0 0, .slice none 0 0, .int .i64 0] 29)))
  have hx0 : Ext w ((w.alloc (.cells #[.int .i64 D.quota, .slice fa fn fc, .slice na nn nc0, .slice ka kn kc, .slice ma mn mc, .int .i64 D.next] 29)).alloc (.cells #[.int .i64 0, .slice none 0 0, .slice none 0 0, .slice none 0 0, .slice none 0 0, .int .i64 0] 29)) := (Ext.alloc w _).trans (Ext.alloc _ _)
  obtain ⟨W0, hW0⟩ : ∃ W0, (w.alloc (.cells #[.int .i64 D.quota, .slice fa fn fc, .slice na nn nc0, .slice ka kn kc, .slice ma mn mc, .int .i64 D.next] 29)).alloc (.cells #[.int .i64 0, .slice none 0 0, .slice none 0 0, .slice none 0 0, .slice none 0 0, .int .i64 0] 29) = W0 := ⟨_, rfl⟩
  rw [hW0] at hx0 hbk hrk
  obtain ⟨⟨y0, y1, y2, y3, y4, y5⟩, _⟩ := cells_six hbk
  go_enter Try.func36, Try.ntmps36
  go_wp2_with fail
  refine (hfd.out _ hx0).mono ?_
  rintro e w1 ⟨i, err, rfl, hpost, hx1⟩
  clear hW0 y0 y1 y2 y3 y4 y5
  have hX1 := hx0.trans hx1
  have hb1 := (hx1.block _ (lt_of_block hbk)).trans hbk
  have hr1 := (hx1.block _ (lt_of_block hrk)).trans hrk
  obtain ⟨⟨s0, s1, s2, s3, s4, s5⟩, ⟨g0, g1, g2, g3, g4, g5⟩⟩ := cells_six hr1
  have hlr1 := lt_of_block hr1
  obtain ⟨⟨y0, y1, y2, y3, y4, y5⟩, ⟨i0, i1, i2, i3, i4, i5⟩⟩ := cells_six hb1
  have hlb1 := lt_of_block hb1
  have hs0 := hx0.size
  clear hx1 hbk hrk hx0 hfd
  rcases hpost with ⟨hnone, rfl, rfl⟩ | ⟨z, t, ht, hsome, htz, rfl, rfl⟩
  · have hR : removeD D s = (D, 4) := by unfold removeD; rw [hnone]
    have hRh := Lib.hid hR
    clear hR
    clear hnone
    go_wp2_with fail
    have hwq : put6 w1 (w.heap.size + 1) (.int .i64 D.quota) (.slice fa fn fc) (.slice na nn nc0) (.slice ka kn kc) (.slice ma mn mc) (.int .i64 D.next) = ((((((w1.setCell ⟨w.heap.size + 1, 0, none⟩ (.int .i64 D.quota)).setCell ⟨w.heap.size + 1, 1, none⟩ (.slice fa fn fc)).setCell ⟨w.heap.size + 1, 2, none⟩ (.slice na nn nc0)).setCell ⟨w.heap.size + 1, 3, none⟩ (.slice ka kn kc)).setCell ⟨w.heap.size + 1, 4, none⟩ (.slice ma mn mc)).setCell ⟨w.heap.size + 1, 5, none⟩ (.int .i64 D.next)) := rfl
    have hgq := put6_grownBy w1 (w.heap.size + 1) (.int .i64 D.quota) (.slice fa fn fc) (.slice na nn nc0) (.slice ka kn kc) (.slice ma mn mc) (.int .i64 D.next)
    have hhq := put6_block hr1 (.int .i64 D.quota) (.slice fa fn fc) (.slice na nn nc0) (.slice ka kn kc) (.slice ma mn mc) (.int .i64 D.next)
    rw [← hwq]
    obtain ⟨wq, hwqe⟩ : ∃ wq, put6 w1 (w.heap.size + 1) (.int .i64 D.quota) (.slice fa fn fc) (.slice na nn nc0) (.slice ka kn kc) (.slice ma mn mc) (.int .i64 D.next) = wq := ⟨_, rfl⟩
    rw [hwqe] at hgq hhq ⊢
    obtain ⟨⟨q0, q1, q2, q3, q4, q5⟩, _⟩ := cells_six hhq
    refine bodyPost_ret (v := .tuple #[.agg #[.int .i64 D.quota, .slice fa fn fc, .slice na nn nc0, .slice ka kn kc, .slice ma mn mc, .int .i64 D.next], .int .i64 4]) (by simp [results, Try.results36, go_sem, q0, q1, q2, q3, q4, q5]) rfl ?_
    have hXq := hX1.grown hgq (fun k e => by cases e; omega)
    show DPost _ _ _ _ _
    rw [hRh.out]
    exact ⟨⟨fa, fn, fc, fm, na, nn, nc0, ka, kn, kc, ma, mn, mc⟩, rfl, hOh.out.ext hXq, hXq⟩
  · have hR : removeD D s = ({ D with names := dropN s D.names, moves := D.moves ++ [⟨2, s, [], 0⟩] }, 0) := by unfold removeD; rw [hsome]
    have hRh := Lib.hid hR
    clear hR
    have hm2 := hmv.out w1 hX1 _ (done_remove hvh.out hsome)
    have hm2h := Lib.hid hm2
    clear hsome htz hmv hm2
    go_wp2_with fail
    refine hm2h.out.mono ?_
    rintro e w2 ⟨⟨fa2, fn2, fc2, fm2, na2, nn2, nc2, ka2, kn2, kc2, ma2, mn2, mc2⟩, rfl, hO2, hx2⟩
    dsimp only
    have hX2 := hX1.trans hx2
    have hr2 := (hx2.block _ hlr1).trans hr1
    have hO2h := Lib.hid hO2
    clear s0 s1 s2 s3 s4 s5 g0 g1 g2 g3 g4 g5 hO2
    obtain ⟨⟨s0, s1, s2, s3, s4, s5⟩, ⟨g0, g1, g2, g3, g4, g5⟩⟩ := cells_six hr2
    have hlr2 := lt_of_block hr2
    go_wp2_with fail
    have hwq : put6 w2 (w.heap.size + 1) (.int .i64 D.quota) (.slice fa2 fn2 fc2) (.slice na2 nn2 nc2) (.slice ka2 kn2 kc2) (.slice ma2 mn2 mc2) (.int .i64 D.next) = ((((((w2.setCell ⟨w.heap.size + 1, 0, none⟩ (.int .i64 D.quota)).setCell ⟨w.heap.size + 1, 1, none⟩ (.slice fa2 fn2 fc2)).setCell ⟨w.heap.size + 1, 2, none⟩ (.slice na2 nn2 nc2)).setCell ⟨w.heap.size + 1, 3, none⟩ (.slice ka2 kn2 kc2)).setCell ⟨w.heap.size + 1, 4, none⟩ (.slice ma2 mn2 mc2)).setCell ⟨w.heap.size + 1, 5, none⟩ (.int .i64 D.next)) := rfl
    have hgq := put6_grownBy w2 (w.heap.size + 1) (.int .i64 D.quota) (.slice fa2 fn2 fc2) (.slice na2 nn2 nc2) (.slice ka2 kn2 kc2) (.slice ma2 mn2 mc2) (.int .i64 D.next)
    have hhq := put6_block hr2 (.int .i64 D.quota) (.slice fa2 fn2 fc2) (.slice na2 nn2 nc2) (.slice ka2 kn2 kc2) (.slice ma2 mn2 mc2) (.int .i64 D.next)
    rw [← hwq]
    obtain ⟨wq, hwqe⟩ : ∃ wq, put6 w2 (w.heap.size + 1) (.int .i64 D.quota) (.slice fa2 fn2 fc2) (.slice na2 nn2 nc2) (.slice ka2 kn2 kc2) (.slice ma2 mn2 mc2) (.int .i64 D.next) = wq := ⟨_, rfl⟩
    rw [hwqe] at hgq hhq ⊢
    obtain ⟨⟨q0, q1, q2, q3, q4, q5⟩, _⟩ := cells_six hhq
    refine bodyPost_ret (v := .tuple #[.agg #[.int .i64 D.quota, .slice fa2 fn2 fc2, .slice na2 nn2 nc2, .slice ka2 kn2 kc2, .slice ma2 mn2 mc2, .int .i64 D.next], .int .i64 0]) (by simp [results, Try.results36, go_sem, q0, q1, q2, q3, q4, q5]) rfl ?_
    have hXq := hX2.grown hgq (fun k e => by cases e; omega)
    show DPost _ _ _ _ _
    rw [hRh.out]
    exact ⟨⟨fa2, fn2, fc2, fm2, na2, nn2, nc2, ka2, kn2, kc2, ma2, mn2, mc2⟩, rfl, hO2h.out.beside hr2 hgq (by decide) (by decide) (by decide) (by decide), hXq⟩

set_option maxRecDepth 100000 in
set_option maxHeartbeats 6400000 in
theorem rename_calls (D : Dk) (x : DV) (base : Nat) (s tn : List UInt8) (w : World) (hO : OD w base x D) (hG : Good D) (hbase : base ≤ w.heap.size) (hv : vld s = true) (hvt : vld tn = true) :
    Calls Try.prog 13 #[dkv D x, .string ⟨s.toArray⟩, .string ⟨tn.toArray⟩] w (DPost (renameD D s tn) base w) := by
  have hmv := Lib.hid (fun W (h : Ext w W) (M1 : List Nm) (hd : doneN D.names ⟨3, s, tn, 0⟩ = some M1) => moved_calls D x base 3 s tn 0 M1 W (hO.ext h) hG (by have := h.size; omega) hd)
  have hvl := vld_len hvt
  have hvc := Lib.hid (fun W => valid_calls tn W (by omega))
  rw [hvt] at hvc
  have hvth := Lib.hid hvt
  clear hvt
  have hfd := Lib.hid (fun W (h : Ext w W) => find_calls D x base s W (hO.ext h) hG hv)
  have hOh := Lib.hid hO
  have hGh := Lib.hid hG
  have hvh := Lib.hid hv
  clear hO hG hv
  unfold dkv at *
  unfold dcs at *
  obtain ⟨fa, fn, fc, fm, na, nn, nc0, ka, kn, kc, ma, mn, mc⟩ := x
  dsimp only at *
  obtain ⟨hbk, hrk⟩ := two_blocks (Ext.refl ((w.alloc (.cells #[.int .i64 D.quota, .slice fa fn fc, .slice na nn nc0, .slice ka kn kc, .slice ma mn mc, .int .i64 D.next] 29)).alloc (.cells #[.int .i64 0, .slice none 0 0, .slice none 0 0, .slice none 0 0, .slice none 0 0, .int .i64 0] 29)))
  have hx0 : Ext w ((w.alloc (.cells #[.int .i64 D.quota, .slice fa fn fc, .slice na nn nc0, .slice ka kn kc, .slice ma mn mc, .int .i64 D.next] 29)).alloc (.cells #[.int .i64 0, .slice none 0 0, .slice none 0 0, .slice none 0 0, .slice none 0 0, .int .i64 0] 29)) := (Ext.alloc w _).trans (Ext.alloc _ _)
  obtain ⟨W0, hW0⟩ : ∃ W0, (w.alloc (.cells #[.int .i64 D.quota, .slice fa fn fc, .slice na nn nc0, .slice ka kn kc, .slice ma mn mc, .int .i64 D.next] 29)).alloc (.cells #[.int .i64 0, .slice none 0 0, .slice none 0 0, .slice none 0 0, .slice none 0 0, .int .i64 0] 29) = W0 := ⟨_, rfl⟩
  rw [hW0] at hx0 hbk hrk
  obtain ⟨⟨y0, y1, y2, y3, y4, y5⟩, _⟩ := cells_six hbk
  go_enter Try.func13, Try.ntmps13
  go_wp2_with fail
  refine (hfd.out _ hx0).mono ?_
  rintro e w1 ⟨i, err, rfl, hpost, hx1⟩
  clear hW0 y0 y1 y2 y3 y4 y5
  have hX1 := hx0.trans hx1
  have hb1 := (hx1.block _ (lt_of_block hbk)).trans hbk
  have hr1 := (hx1.block _ (lt_of_block hrk)).trans hrk
  obtain ⟨⟨s0, s1, s2, s3, s4, s5⟩, ⟨g0, g1, g2, g3, g4, g5⟩⟩ := cells_six hr1
  have hlr1 := lt_of_block hr1
  obtain ⟨⟨y0, y1, y2, y3, y4, y5⟩, ⟨i0, i1, i2, i3, i4, i5⟩⟩ := cells_six hb1
  have hlb1 := lt_of_block hb1
  have hs0 := hx0.size
  clear hx1 hbk hrk hx0 hfd
  rcases hpost with ⟨hnone, rfl, rfl⟩ | ⟨z, t, ht, hsome, htz, rfl, rfl⟩
  · have hR : renameD D s tn = (D, 4) := by unfold renameD; rw [hnone]
    have hRh := Lib.hid hR
    clear hR
    clear hnone
    go_wp2_with fail
    refine (hvc.out _).mono ?_
    rintro e w2 ⟨rfl, rfl⟩
    go_wp2_with fail
    have hwq : put6 w2 (w.heap.size + 1) (.int .i64 D.quota) (.slice fa fn fc) (.slice na nn nc0) (.slice ka kn kc) (.slice ma mn mc) (.int .i64 D.next) = ((((((w2.setCell ⟨w.heap.size + 1, 0, none⟩ (.int .i64 D.quota)).setCell ⟨w.heap.size + 1, 1, none⟩ (.slice fa fn fc)).setCell ⟨w.heap.size + 1, 2, none⟩ (.slice na nn nc0)).setCell ⟨w.heap.size + 1, 3, none⟩ (.slice ka kn kc)).setCell ⟨w.heap.size + 1, 4, none⟩ (.slice ma mn mc)).setCell ⟨w.heap.size + 1, 5, none⟩ (.int .i64 D.next)) := rfl
    have hgq := put6_grownBy w2 (w.heap.size + 1) (.int .i64 D.quota) (.slice fa fn fc) (.slice na nn nc0) (.slice ka kn kc) (.slice ma mn mc) (.int .i64 D.next)
    have hhq := put6_block hr1 (.int .i64 D.quota) (.slice fa fn fc) (.slice na nn nc0) (.slice ka kn kc) (.slice ma mn mc) (.int .i64 D.next)
    rw [← hwq]
    obtain ⟨wq, hwqe⟩ : ∃ wq, put6 w2 (w.heap.size + 1) (.int .i64 D.quota) (.slice fa fn fc) (.slice na nn nc0) (.slice ka kn kc) (.slice ma mn mc) (.int .i64 D.next) = wq := ⟨_, rfl⟩
    rw [hwqe] at hgq hhq ⊢
    obtain ⟨⟨q0, q1, q2, q3, q4, q5⟩, _⟩ := cells_six hhq
    refine bodyPost_ret (v := .tuple #[.agg #[.int .i64 D.quota, .slice fa fn fc, .slice na nn nc0, .slice ka kn kc, .slice ma mn mc, .int .i64 D.next], .int .i64 4]) (by simp [results, Try.results13, go_sem, q0, q1, q2, q3, q4, q5]) rfl ?_
    have hXq := hX1.grown hgq (fun k e => by cases e; omega)
    show DPost _ _ _ _ _
    rw [hRh.out]
    exact ⟨⟨fa, fn, fc, fm, na, nn, nc0, ka, kn, kc, ma, mn, mc⟩, rfl, hOh.out.ext hXq, hXq⟩
  · by_cases hst : s = tn
    · have hR : renameD D s tn = (D, 0) := by unfold renameD; rw [hsome]; dsimp only; rw [if_pos hst]
      have hRh := Lib.hid hR
      clear hR
      have hbq : (s == tn) = true := by simp [hst]
      have hbq2 : (s.toArray == tn.toArray) = true := by simp [hst]
      subst hst
      clear hsome htz
      go_wp2_with fail
      refine (hvc.out _).mono ?_
      rintro e w2 ⟨rfl, rfl⟩
      go_wp2_with fail
      have hwq : put6 w2 (w.heap.size + 1) (.int .i64 D.quota) (.slice fa fn fc) (.slice na nn nc0) (.slice ka kn kc) (.slice ma mn mc) (.int .i64 D.next) = ((((((w2.setCell ⟨w.heap.size + 1, 0, none⟩ (.int .i64 D.quota)).setCell ⟨w.heap.size + 1, 1, none⟩ (.slice fa fn fc)).setCell ⟨w.heap.size + 1, 2, none⟩ (.slice na nn nc0)).setCell ⟨w.heap.size + 1, 3, none⟩ (.slice ka kn kc)).setCell ⟨w.heap.size + 1, 4, none⟩ (.slice ma mn mc)).setCell ⟨w.heap.size + 1, 5, none⟩ (.int .i64 D.next)) := rfl
      have hgq := put6_grownBy w2 (w.heap.size + 1) (.int .i64 D.quota) (.slice fa fn fc) (.slice na nn nc0) (.slice ka kn kc) (.slice ma mn mc) (.int .i64 D.next)
      have hhq := put6_block hr1 (.int .i64 D.quota) (.slice fa fn fc) (.slice na nn nc0) (.slice ka kn kc) (.slice ma mn mc) (.int .i64 D.next)
      rw [← hwq]
      obtain ⟨wq, hwqe⟩ : ∃ wq, put6 w2 (w.heap.size + 1) (.int .i64 D.quota) (.slice fa fn fc) (.slice na nn nc0) (.slice ka kn kc) (.slice ma mn mc) (.int .i64 D.next) = wq := ⟨_, rfl⟩
      rw [hwqe] at hgq hhq ⊢
      obtain ⟨⟨q0, q1, q2, q3, q4, q5⟩, _⟩ := cells_six hhq
      refine bodyPost_ret (v := .tuple #[.agg #[.int .i64 D.quota, .slice fa fn fc, .slice na nn nc0, .slice ka kn kc, .slice ma mn mc, .int .i64 D.next], .int .i64 0]) (by simp [results, Try.results13, go_sem, q0, q1, q2, q3, q4, q5]) rfl ?_
      have hXq := hX1.grown hgq (fun k e => by cases e; omega)
      show DPost _ _ _ _ _
      rw [hRh.out]
      exact ⟨⟨fa, fn, fc, fm, na, nn, nc0, ka, kn, kc, ma, mn, mc⟩, rfl, hOh.out.ext hXq, hXq⟩
    · have hR : renameD D s tn = ({ D with names := insN tn z (dropN tn (dropN s D.names)), moves := D.moves ++ [⟨3, s, tn, 0⟩] }, 0) := by unfold renameD; rw [hsome]; dsimp only; rw [if_neg hst]
      have hRh := Lib.hid hR
      clear hR
      have hm2 := hmv.out w1 hX1 _ (done_rename hvh.out hvth.out hsome hst)
      have hm2h := Lib.hid hm2
      have hbq : (s == tn) = false := by simp [hst]
      have hbq2 : (s.toArray == tn.toArray) = false := by
        rw [beq_eq_false_iff_ne]
        intro e
        apply hst
        simpa using e
      clear hsome htz hmv hm2
      go_wp2_with fail
      refine (hvc.out _).mono ?_
      rintro e w2 ⟨rfl, rfl⟩
      go_wp2_with fail
      refine hm2h.out.mono ?_
      rintro e w3 ⟨⟨fa2, fn2, fc2, fm2, na2, nn2, nc2, ka2, kn2, kc2, ma2, mn2, mc2⟩, rfl, hO2, hx2⟩
      dsimp only
      have hX2 := hX1.trans hx2
      have hr2 := (hx2.block _ hlr1).trans hr1
      have hO2h := Lib.hid hO2
      clear s0 s1 s2 s3 s4 s5 g0 g1 g2 g3 g4 g5 hO2
      obtain ⟨⟨s0, s1, s2, s3, s4, s5⟩, ⟨g0, g1, g2, g3, g4, g5⟩⟩ := cells_six hr2
      have hlr2 := lt_of_block hr2
      go_wp2_with fail
      have hwq : put6 w3 (w.heap.size + 1) (.int .i64 D.quota) (.slice fa2 fn2 fc2) (.slice na2 nn2 nc2) (.slice ka2 kn2 kc2) (.slice ma2 mn2 mc2) (.int .i64 D.next) = ((((((w3.setCell ⟨w.heap.size + 1, 0, none⟩ (.int .i64 D.quota)).setCell ⟨w.heap.size + 1, 1, none⟩ (.slice fa2 fn2 fc2)).setCell ⟨w.heap.size + 1, 2, none⟩ (.slice na2 nn2 nc2)).setCell ⟨w.heap.size + 1, 3, none⟩ (.slice ka2 kn2 kc2)).setCell ⟨w.heap.size + 1, 4, none⟩ (.slice ma2 mn2 mc2)).setCell ⟨w.heap.size + 1, 5, none⟩ (.int .i64 D.next)) := rfl
      have hgq := put6_grownBy w3 (w.heap.size + 1) (.int .i64 D.quota) (.slice fa2 fn2 fc2) (.slice na2 nn2 nc2) (.slice ka2 kn2 kc2) (.slice ma2 mn2 mc2) (.int .i64 D.next)
      have hhq := put6_block hr2 (.int .i64 D.quota) (.slice fa2 fn2 fc2) (.slice na2 nn2 nc2) (.slice ka2 kn2 kc2) (.slice ma2 mn2 mc2) (.int .i64 D.next)
      rw [← hwq]
      obtain ⟨wq, hwqe⟩ : ∃ wq, put6 w3 (w.heap.size + 1) (.int .i64 D.quota) (.slice fa2 fn2 fc2) (.slice na2 nn2 nc2) (.slice ka2 kn2 kc2) (.slice ma2 mn2 mc2) (.int .i64 D.next) = wq := ⟨_, rfl⟩
      rw [hwqe] at hgq hhq ⊢
      obtain ⟨⟨q0, q1, q2, q3, q4, q5⟩, _⟩ := cells_six hhq
      refine bodyPost_ret (v := .tuple #[.agg #[.int .i64 D.quota, .slice fa2 fn2 fc2, .slice na2 nn2 nc2, .slice ka2 kn2 kc2, .slice ma2 mn2 mc2, .int .i64 D.next], .int .i64 0]) (by simp [results, Try.results13, go_sem, q0, q1, q2, q3, q4, q5]) rfl ?_
      have hXq := hX2.grown hgq (fun k e => by cases e; omega)
      show DPost _ _ _ _ _
      rw [hRh.out]
      exact ⟨⟨fa2, fn2, fc2, fm2, na2, nn2, nc2, ka2, kn2, kc2, ma2, mn2, mc2⟩, rfl, hO2h.out.beside hr2 hgq (by decide) (by decide) (by decide) (by decide), hXq⟩
end Go.Proofs.Ytponbponacdhkaa

/-
  Layer 6's contracts: bytes behind a file's; a file's bytes are sure.
-/
import Derived.Test.YtponbponacdhkaaDkSet
import Derived.Test.YtponbponacdhkaaDkConcat
namespace Go.Proofs.Ytponbponacdhkaa
open Go.RowKit

def updF (L : List Fl) (z : Int) (g : Fl → Fl) : List Fl := L.map fun f => if f.id = z then g f else f
theorem updF_set {L : List Fl} {z : Int} {g : Fl → Fl} (hr : L.Pairwise fun f h => f.id < h.id) {t : Nat} (ht : t < L.length) (htz : L[t].id = z) : updF L z g = L.set t (g L[t]) := by
  apply List.ext_getElem
  · simp [updF]
  · intro i h1 h2
    simp only [updF, List.getElem_map, List.getElem_set]
    rw [List.length_set] at h2
    by_cases hti : t = i
    · subst hti; rw [if_pos htz, if_pos rfl]
    · rw [if_neg hti, if_neg]
      intro he
      rcases Nat.lt_or_ge t i with h | h
      · have := List.pairwise_iff_getElem.1 hr t i ht h2 h; omega
      · have := List.pairwise_iff_getElem.1 hr i t h2 ht (by omega); omega
def appendD (D : Dk) (s b : List UInt8) : Dk × Int := match findN s D.names with
  | none => (D, 4)
  | some x => if D.quota - total D.files < b.length then (D, 6) else ({ D with files := updF D.files x.2 fun f => { f with bytes := f.bytes ++ b } }, 0)
def syncD (D : Dk) (s : List UInt8) : Dk × Int := match findN s D.names with
  | none => (D, 4)
  | some x => ({ D with files := updF D.files x.2 fun f => { f with sure := f.bytes.length } }, 0)

set_option maxRecDepth 100000 in
set_option maxHeartbeats 6400000 in
theorem sync_calls (D : Dk) (x : DV) (base : Nat) (s : List UInt8) (w : World) (hO : OD w base x D) (hG : Good D) (hbase : base ≤ w.heap.size) (hv : vld s = true) :
    Calls Try.prog 11 #[dkv D x, .string ⟨s.toArray⟩] w (DPost (syncD D s) base w) := by
  have hst := Lib.hid (fun W (h : Ext w W) (t : Nat) (y : Fh) (ht : t < D.files.length) (hy : Own W base 5 (.slice y.2.1 y.2.2.1 y.2.2.2) y.1.bytes) => set_calls D x base t y W (hO.ext h) hG (by have := h.size; omega) ht hy)
  have hfd := Lib.hid (fun W (h : Ext w W) => find_calls D x base s W (hO.ext h) hG hv)
  have hOh := Lib.hid hO
  have hGh := Lib.hid hG
  have hvh := Lib.hid hv
  clear hO hG hv
  unfold dkv at *
  unfold dcs at *
  obtain ⟨fa, fn, fc, fm, na, nn, nc0, ka, kn, kc, ma, mn, mc⟩ := x
  dsimp only at *
  obtain ⟨hbk, hrk⟩ := two_blocks (Ext.refl ((w.alloc (.cells #[.int .i64 D.quota, .slice fa fn fc, .slice na nn nc0, .slice ka kn kc, .slice ma mn mc, .int .i64 D.next] 29)).alloc (.cells #[.int .i64 0, .slice none 0 0, .slice none 0 0, .slice none 0 0, .slice none 0 0, .int .i64 0] 29)))
  have hx0 : Ext w ((w.alloc (.cells #[.int .i64 D.quota, .slice fa fn fc, .slice na nn nc0, .slice ka kn kc, .slice ma mn mc, .int .i64 D.next] 29)).alloc (.cells #[.int .i64 0, .slice none 0 0, .slice none 0 0, .slice none 0 0, .slice none 0 0, .int .i64 0] 29)) := (Ext.alloc w _).trans (Ext.alloc _ _)
  obtain ⟨W0, hW0⟩ : ∃ W0, (w.alloc (.cells #[.int .i64 D.quota, .slice fa fn fc, .slice na nn nc0, .slice ka kn kc, .slice ma mn mc, .int .i64 D.next] 29)).alloc (.cells #[.int .i64 0, .slice none 0 0, .slice none 0 0, .slice none 0 0, .slice none 0 0, .int .i64 0] 29) = W0 := ⟨_, rfl⟩
  rw [hW0] at hx0 hbk hrk
  obtain ⟨⟨y0, y1, y2, y3, y4, y5⟩, _⟩ := cells_six hbk
  go_enter Try.func11, Try.ntmps11
  go_wp2_with fail
  refine (hfd.out _ hx0).mono ?_
  rintro e w1 ⟨i, err, rfl, hpost, hx1⟩
  clear hW0 y0 y1 y2 y3 y4 y5
  have hX1 := hx0.trans hx1
  have hb1 := (hx1.block _ (lt_of_block hbk)).trans hbk
  have hr1 := (hx1.block _ (lt_of_block hrk)).trans hrk
  obtain ⟨⟨s0, s1, s2, s3, s4, s5⟩, ⟨g0, g1, g2, g3, g4, g5⟩⟩ := cells_six hr1
  have hlr1 := lt_of_block hr1
  obtain ⟨⟨y0, y1, y2, y3, y4, y5⟩, ⟨i0, i1, i2, i3, i4, i5⟩⟩ := cells_six hb1
  have hlb1 := lt_of_block hb1
  have hs0 := hx0.size
  clear hx1 hbk hrk hx0 hfd
  rcases hpost with ⟨hnone, rfl, rfl⟩ | ⟨z, t, ht, hsome, htz, rfl, rfl⟩
  · have hRh : Hid (syncD D s = (D, 4)) := by show _ = _; unfold syncD; rw [hnone]
    clear hnone
    go_wp2_with fail
    have hwq : put6 w1 (w.heap.size + 1) (.int .i64 D.quota) (.slice fa fn fc) (.slice na nn nc0) (.slice ka kn kc) (.slice ma mn mc) (.int .i64 D.next) = ((((((w1.setCell ⟨w.heap.size + 1, 0, none⟩ (.int .i64 D.quota)).setCell ⟨w.heap.size + 1, 1, none⟩ (.slice fa fn fc)).setCell ⟨w.heap.size + 1, 2, none⟩ (.slice na nn nc0)).setCell ⟨w.heap.size + 1, 3, none⟩ (.slice ka kn kc)).setCell ⟨w.heap.size + 1, 4, none⟩ (.slice ma mn mc)).setCell ⟨w.heap.size + 1, 5, none⟩ (.int .i64 D.next)) := rfl
    have hgq := put6_grownBy w1 (w.heap.size + 1) (.int .i64 D.quota) (.slice fa fn fc) (.slice na nn nc0) (.slice ka kn kc) (.slice ma mn mc) (.int .i64 D.next)
    have hhq := put6_block hr1 (.int .i64 D.quota) (.slice fa fn fc) (.slice na nn nc0) (.slice ka kn kc) (.slice ma mn mc) (.int .i64 D.next)
    rw [← hwq]
    obtain ⟨wq, hwqe⟩ : ∃ wq, put6 w1 (w.heap.size + 1) (.int .i64 D.quota) (.slice fa fn fc) (.slice na nn nc0) (.slice ka kn kc) (.slice ma mn mc) (.int .i64 D.next) = wq := ⟨_, rfl⟩
    rw [hwqe] at hgq hhq ⊢
    obtain ⟨⟨q0, q1, q2, q3, q4, q5⟩, _⟩ := cells_six hhq
    refine bodyPost_ret (v := .tuple #[.agg #[.int .i64 D.quota, .slice fa fn fc, .slice na nn nc0, .slice ka kn kc, .slice ma mn mc, .int .i64 D.next], .int .i64 4]) (by simp [results, Try.results11, go_sem, q0, q1, q2, q3, q4, q5]) rfl ?_
    have hXq := hX1.grown hgq (fun k e => by cases e; omega)
    show DPost _ _ _ _ _
    rw [hRh.out]
    exact ⟨⟨fa, fn, fc, fm, na, nn, nc0, ka, kn, kc, ma, mn, mc⟩, rfl, hOh.out.ext hXq, hXq⟩
  · have hR : syncD D s = ({ D with files := D.files.set t { D.files[t] with sure := D.files[t].bytes.length } }, 0) := by unfold syncD; rw [hsome]; dsimp only; rw [updF_set hGh.out.files ht htz]
    have hRh := Lib.hid hR
    clear hR hsome htz
    have hnm := hOh.out.fn
    have htm : t < fm.length := by have h1 := hnm.1; have h2 := hnm.2.1; dsimp only at h1 h2; omega
    obtain ⟨b0, o0, hfa, hc⟩ := files_at hOh.out (by have h2 := hnm.2.1; dsimp only at h2 ⊢; omega)
    dsimp only at hfa
    subst hfa
    have d0 := hX1.cell (hc t htm).1
    have d1 := hX1.cell (hc t htm).2.1
    have d2 := hX1.cell (hc t htm).2.2
    have hkf := (fm_at hOh.out htm).2
    have hby := hOh.out.bytes fm[t] (List.getElem_mem htm)
    have hbl := bytes_len hOh.out (List.getElem_mem htm)
    dsimp only at d0 d1 d2 hkf hby hbl
    obtain ⟨⟨⟨id, bys, su⟩, pa, pn, pc⟩, hx⟩ : ∃ y, fm[t] = y := ⟨_, rfl⟩
    have htf : (t : Int) < (fn : Int) := by have h2 := hnm.2.1; dsimp only at h2; omega
    clear hnm
    rw [hx] at d0 d1 d2 hkf hby hbl
    dsimp only at d0 d1 d2 hkf hby hbl
    have hkfh := Lib.hid hkf
    have hbyh := Lib.hid hby
    have hblh := Lib.hid hbl
    clear hc hx hkf hby hbl
    have hx2 := Ext.alloc w1 (.cells #[.int .i64 id, .slice pa pn pc, .int .i64 su] 58)
    have hf2 := heap_alloc_new w1 (.cells #[.int .i64 id, .slice pa pn pc, .int .i64 su] 58)
    obtain ⟨BF, hBF⟩ : ∃ BF, w1.heap.size = BF := ⟨_, rfl⟩
    have hlb2 := World.block_lt_of_cell? w1 _ d0
    go_upto_region 5 with fail
    obtain ⟨w2, hw2⟩ : ∃ w2, w1.alloc (.cells #[.int .i64 id, .slice pa pn pc, .int .i64 su] 58) = w2 := ⟨_, rfl⟩
    rw [hw2] at hx2
    rw [hw2, hBF] at hf2
    rw [hw2]
    clear hw2
    have hX2 := hX1.trans hx2
    have hb2 := (hx2.block _ hlb1).trans hb1
    have hr2 := (hx2.block _ hlr1).trans hr1
    have hBFw : w.heap.size + 1 < BF := by have := lt_of_block hr1; omega
    clear d0 d1 d2 y0 y1 y2 y3 y4 y5 i0 i1 i2 i3 i4 i5 s0 s1 s2 s3 s4 s5 g0 g1 g2 g3 g4 g5 hlb1 hlr1 hlb2
    obtain ⟨f0, f1, f2⟩ := cells_three hf2
    have hlf := lt_of_block hf2
    have hfz := frozen_row hf2 2
    go_upto_region 6 with fail
    have hgp := put_grownBy w2 BF 2 (.int .i64 (pn : Int))
    have hf3 := at_setCell hf2 2 (.int .i64 (pn : Int))
    simp only [List.setIfInBounds_toArray, List.set_cons_succ, List.set_cons_zero] at hf3
    have hb3 := (hgp.block _ (lt_of_block hb2) (by simp; omega)).trans hb2
    have hr3 := (hgp.block _ (lt_of_block hr2) (by simp; omega)).trans hr2
    have hX3 := hX2.grown hgp (fun k e => by cases e; omega)
    obtain ⟨w3, hw3⟩ : ∃ w3, w2.setCell ⟨BF, 2, none⟩ (.int .i64 (pn : Int)) = w3 := ⟨_, rfl⟩
    rw [hw3] at hf3 hb3 hr3 hX3 ⊢
    clear hw3 hgp hfz f0 f1 f2 hlf
    obtain ⟨⟨y0, y1, y2, y3, y4, y5⟩, _⟩ := cells_six hb3
    obtain ⟨⟨s0, s1, s2, s3, s4, s5⟩, ⟨g0, g1, g2, g3, g4, g5⟩⟩ := cells_six hr3
    obtain ⟨f0, f1, f2⟩ := cells_three hf3
    have hlr3 := lt_of_block hr3
    have hlb3 := lt_of_block hb3
    have hst2 := Lib.hid (hst.out w3 hX3 t (⟨id, bys, (pn : Int)⟩, (pa, pn, pc)) ht (owns_ext hbyh.out hX3))
    dsimp only at hst2
    clear hst
    go_wp2_with fail
    refine hst2.out.mono ?_
    rintro e w4 ⟨⟨fa2, fn2, fc2, fm2, na2, nn2, nc2, ka2, kn2, kc2, ma2, mn2, mc2⟩, rfl, hO2, hx4⟩
    dsimp only
    have hX4 := hX3.trans hx4
    have hr4 := (hx4.block _ hlr3).trans hr3
    have hO2h := Lib.hid hO2
    clear s0 s1 s2 s3 s4 s5 g0 g1 g2 g3 g4 g5 hO2 y0 y1 y2 y3 y4 y5 f0 f1 f2
    obtain ⟨⟨s0, s1, s2, s3, s4, s5⟩, ⟨g0, g1, g2, g3, g4, g5⟩⟩ := cells_six hr4
    have hlr4 := lt_of_block hr4
    go_wp2_with fail
    have hwq : put6 w4 (w.heap.size + 1) (.int .i64 D.quota) (.slice fa2 fn2 fc2) (.slice na2 nn2 nc2) (.slice ka2 kn2 kc2) (.slice ma2 mn2 mc2) (.int .i64 D.next) = ((((((w4.setCell ⟨w.heap.size + 1, 0, none⟩ (.int .i64 D.quota)).setCell ⟨w.heap.size + 1, 1, none⟩ (.slice fa2 fn2 fc2)).setCell ⟨w.heap.size + 1, 2, none⟩ (.slice na2 nn2 nc2)).setCell ⟨w.heap.size + 1, 3, none⟩ (.slice ka2 kn2 kc2)).setCell ⟨w.heap.size + 1, 4, none⟩ (.slice ma2 mn2 mc2)).setCell ⟨w.heap.size + 1, 5, none⟩ (.int .i64 D.next)) := rfl
    have hgq := put6_grownBy w4 (w.heap.size + 1) (.int .i64 D.quota) (.slice fa2 fn2 fc2) (.slice na2 nn2 nc2) (.slice ka2 kn2 kc2) (.slice ma2 mn2 mc2) (.int .i64 D.next)
    have hhq := put6_block hr4 (.int .i64 D.quota) (.slice fa2 fn2 fc2) (.slice na2 nn2 nc2) (.slice ka2 kn2 kc2) (.slice ma2 mn2 mc2) (.int .i64 D.next)
    rw [← hwq]
    obtain ⟨wq, hwqe⟩ : ∃ wq, put6 w4 (w.heap.size + 1) (.int .i64 D.quota) (.slice fa2 fn2 fc2) (.slice na2 nn2 nc2) (.slice ka2 kn2 kc2) (.slice ma2 mn2 mc2) (.int .i64 D.next) = wq := ⟨_, rfl⟩
    rw [hwqe] at hgq hhq ⊢
    obtain ⟨⟨q0, q1, q2, q3, q4, q5⟩, _⟩ := cells_six hhq
    refine bodyPost_ret (v := .tuple #[.agg #[.int .i64 D.quota, .slice fa2 fn2 fc2, .slice na2 nn2 nc2, .slice ka2 kn2 kc2, .slice ma2 mn2 mc2, .int .i64 D.next], .int .i64 0]) (by simp [results, Try.results11, go_sem, q0, q1, q2, q3, q4, q5]) rfl ?_
    have hXq := hX4.grown hgq (fun k e => by cases e; omega)
    show DPost _ _ _ _ _
    rw [hRh.out]
    have he : ({ D.files[t] with sure := (D.files[t].bytes.length : Int) } : Fl) = ⟨id, bys, (pn : Int)⟩ := by rw [← hkfh.out, ← hblh.out]
    rw [he]
    exact ⟨⟨fa2, fn2, fc2, fm2, na2, nn2, nc2, ka2, kn2, kc2, ma2, mn2, mc2⟩, rfl, hO2h.out.beside hr4 hgq (by decide) (by decide) (by decide) (by decide), hXq⟩

theorem mem_total {f : Fl} : ∀ {L : List Fl}, f ∈ L → f.bytes.length ≤ total L
  | y :: r, h => by
    have e : total (y :: r) = y.bytes.length + total r := by simp [total]
    rcases List.mem_cons.1 h with rfl | h
    · omega
    · have := mem_total h; omega
theorem append_room {D : Dk} (_hG : Good D) (b : List UInt8) : D.quota - total D.files < b.length ∨ ¬ D.quota - total D.files < b.length := by omega
set_option maxRecDepth 100000 in
set_option maxHeartbeats 6400000 in
theorem append_calls (D : Dk) (x : DV) (base : Nat) (s : List UInt8) (ba : Option Addr) (bn bc : Nat) (bl : List UInt8) (w : World) (hO : OD w base x D) (hG : Good D) (hbase : base ≤ w.heap.size) (hv : vld s = true) (hbs : Bs w ba bn bc bl) :
    Calls Try.prog 10 #[dkv D x, .string ⟨s.toArray⟩, .slice ba bn bc] w (DPost (appendD D s bl) base w) := by
  have hst := Lib.hid (fun W (h : Ext w W) (t : Nat) (y : Fh) (ht : t < D.files.length) (hy : Own W base 5 (.slice y.2.1 y.2.2.1 y.2.2.2) y.1.bytes) => set_calls D x base t y W (hO.ext h) hG (by have := h.size; omega) ht hy)
  have hus := Lib.hid (fun W (h : Ext w W) => used_calls D x base W (hO.ext h) hG)
  have hblen : bl.length = bn := by have := Sl.len hbs; simpa [bvs] using this
  have hbmx := Nat.le_trans (Sl.le hbs) (Sl.max hbs)
  unfold maxLen at hbmx
  have hbsh := Lib.hid hbs
  have hblh := Lib.hid hblen
  clear hbs hblen
  have hfd := Lib.hid (fun W (h : Ext w W) => find_calls D x base s W (hO.ext h) hG hv)
  have hOh := Lib.hid hO
  have hGh := Lib.hid hG
  have hvh := Lib.hid hv
  clear hO hG hv
  unfold dkv at *
  unfold dcs at *
  obtain ⟨fa, fn, fc, fm, na, nn, nc0, ka, kn, kc, ma, mn, mc⟩ := x
  dsimp only at *
  obtain ⟨hbk, hrk⟩ := two_blocks (Ext.refl ((w.alloc (.cells #[.int .i64 D.quota, .slice fa fn fc, .slice na nn nc0, .slice ka kn kc, .slice ma mn mc, .int .i64 D.next] 29)).alloc (.cells #[.int .i64 0, .slice none 0 0, .slice none 0 0, .slice none 0 0, .slice none 0 0, .int .i64 0] 29)))
  have hx0 : Ext w ((w.alloc (.cells #[.int .i64 D.quota, .slice fa fn fc, .slice na nn nc0, .slice ka kn kc, .slice ma mn mc, .int .i64 D.next] 29)).alloc (.cells #[.int .i64 0, .slice none 0 0, .slice none 0 0, .slice none 0 0, .slice none 0 0, .int .i64 0] 29)) := (Ext.alloc w _).trans (Ext.alloc _ _)
  obtain ⟨W0, hW0⟩ : ∃ W0, (w.alloc (.cells #[.int .i64 D.quota, .slice fa fn fc, .slice na nn nc0, .slice ka kn kc, .slice ma mn mc, .int .i64 D.next] 29)).alloc (.cells #[.int .i64 0, .slice none 0 0, .slice none 0 0, .slice none 0 0, .slice none 0 0, .int .i64 0] 29) = W0 := ⟨_, rfl⟩
  rw [hW0] at hx0 hbk hrk
  obtain ⟨⟨y0, y1, y2, y3, y4, y5⟩, _⟩ := cells_six hbk
  go_enter Try.func10, Try.ntmps10
  go_wp2_with fail
  refine (hfd.out _ hx0).mono ?_
  rintro e w1 ⟨i, err, rfl, hpost, hx1⟩
  clear hW0 y0 y1 y2 y3 y4 y5
  have hX1 := hx0.trans hx1
  have hb1 := (hx1.block _ (lt_of_block hbk)).trans hbk
  have hr1 := (hx1.block _ (lt_of_block hrk)).trans hrk
  obtain ⟨⟨s0, s1, s2, s3, s4, s5⟩, ⟨g0, g1, g2, g3, g4, g5⟩⟩ := cells_six hr1
  have hlr1 := lt_of_block hr1
  obtain ⟨⟨y0, y1, y2, y3, y4, y5⟩, ⟨i0, i1, i2, i3, i4, i5⟩⟩ := cells_six hb1
  have hlb1 := lt_of_block hb1
  have hs0 := hx0.size
  clear hx1 hbk hrk hx0 hfd
  rcases hpost with ⟨hnone, rfl, rfl⟩ | ⟨z, t, ht, hsome, htz, rfl, rfl⟩
  · have hRh : Hid (appendD D s bl = (D, 4)) := by show _ = _; unfold appendD; rw [hnone]
    clear hnone
    go_wp2_with fail
    have hwq : put6 w1 (w.heap.size + 1) (.int .i64 D.quota) (.slice fa fn fc) (.slice na nn nc0) (.slice ka kn kc) (.slice ma mn mc) (.int .i64 D.next) = ((((((w1.setCell ⟨w.heap.size + 1, 0, none⟩ (.int .i64 D.quota)).setCell ⟨w.heap.size + 1, 1, none⟩ (.slice fa fn fc)).setCell ⟨w.heap.size + 1, 2, none⟩ (.slice na nn nc0)).setCell ⟨w.heap.size + 1, 3, none⟩ (.slice ka kn kc)).setCell ⟨w.heap.size + 1, 4, none⟩ (.slice ma mn mc)).setCell ⟨w.heap.size + 1, 5, none⟩ (.int .i64 D.next)) := rfl
    have hgq := put6_grownBy w1 (w.heap.size + 1) (.int .i64 D.quota) (.slice fa fn fc) (.slice na nn nc0) (.slice ka kn kc) (.slice ma mn mc) (.int .i64 D.next)
    have hhq := put6_block hr1 (.int .i64 D.quota) (.slice fa fn fc) (.slice na nn nc0) (.slice ka kn kc) (.slice ma mn mc) (.int .i64 D.next)
    rw [← hwq]
    obtain ⟨wq, hwqe⟩ : ∃ wq, put6 w1 (w.heap.size + 1) (.int .i64 D.quota) (.slice fa fn fc) (.slice na nn nc0) (.slice ka kn kc) (.slice ma mn mc) (.int .i64 D.next) = wq := ⟨_, rfl⟩
    rw [hwqe] at hgq hhq ⊢
    obtain ⟨⟨q0, q1, q2, q3, q4, q5⟩, _⟩ := cells_six hhq
    refine bodyPost_ret (v := .tuple #[.agg #[.int .i64 D.quota, .slice fa fn fc, .slice na nn nc0, .slice ka kn kc, .slice ma mn mc, .int .i64 D.next], .int .i64 4]) (by simp [results, Try.results10, go_sem, q0, q1, q2, q3, q4, q5]) rfl ?_
    have hXq := hX1.grown hgq (fun k e => by cases e; omega)
    show DPost _ _ _ _ _
    rw [hRh.out]
    exact ⟨⟨fa, fn, fc, fm, na, nn, nc0, ka, kn, kc, ma, mn, mc⟩, rfl, hOh.out.ext hXq, hXq⟩
  · obtain ⟨tt, htt⟩ : ∃ tt, total D.files = tt := ⟨_, rfl⟩
    have htq : (tt : Int) ≤ D.quota := by rw [← htt]; exact hGh.out.total
    have hqb : 0 ≤ D.quota ∧ D.quota ≤ 1073741824 := hGh.out.quota
    rw [htt] at hus
    have htth := Lib.hid htt
    clear htt
    have hws : IntKind.i64.wrap (D.quota - (tt : Int)) = D.quota - (tt : Int) := by rw [IntKind.wrap_i64]; omega
    obtain ⟨X, iX, f, hxS0, hSx0⟩ := letters (fun w' => Ext w1 w') w1 (Ext.refl w1)
    have hxS := Lib.hid hxS0
    have hSx := Lib.hid hSx0
    clear hxS0 hSx0
    have u0 : ∀ x', (f x').cell? ⟨w.heap.size, 0, none⟩ = some (.int .i64 D.quota) := fun x' => (hxS.out x').cell y0
    have u1 : ∀ x', (f x').cell? ⟨w.heap.size, 1, none⟩ = some (.slice fa fn fc) := fun x' => (hxS.out x').cell y1
    have u2 : ∀ x', (f x').cell? ⟨w.heap.size, 2, none⟩ = some (.slice na nn nc0) := fun x' => (hxS.out x').cell y2
    have u3 : ∀ x', (f x').cell? ⟨w.heap.size, 3, none⟩ = some (.slice ka kn kc) := fun x' => (hxS.out x').cell y3
    have u4 : ∀ x', (f x').cell? ⟨w.heap.size, 4, none⟩ = some (.slice ma mn mc) := fun x' => (hxS.out x').cell y4
    have u5 : ∀ x', (f x').cell? ⟨w.heap.size, 5, none⟩ = some (.int .i64 D.next) := fun x' => (hxS.out x').cell y5
    have hk1 : Hid (∀ x', Calls Try.prog 20 #[.agg #[.int .i64 D.quota, .slice fa fn fc, .slice na nn nc0, .slice ka kn kc, .slice ma mn mc, .int .i64 D.next]] (f x') fun e w'' => e = .returned (.int .i64 (tt : Nat)) ∧ ∃ y, w'' = f y) := fun x' =>
      (hus.out (f x') (hX1.trans (hxS.out x'))).mono (fun e w'' ⟨he, hx2⟩ => ⟨he, hSx.out w'' ((hxS.out x').trans hx2)⟩)
    by_cases hfull : D.quota - (tt : Int) < (bn : Int)
    · have hRh : Hid (appendD D s bl = (D, 6)) := by show _ = _; unfold appendD; rw [hsome]; dsimp only; rw [if_pos (by rw [htth.out, hblh.out]; exact hfull)]
      have hq1 : decide (D.quota - (tt : Int) < (bn : Int)) = true := decide_eq_true hfull
      clear hsome htz
      go_upto_region 4 with fail
      refine region_class (fun w' => ∃ x' : X, w' = f x') (by kernel_rfl) (by kernel_rfl) (hSx.out _ (Ext.drewN w1 1)) ?_
      repeat (go_big_quiet_step ((go_at_call 20; exact (hk1.out _))))
      refine wpQuiet_nil ?_
      rintro _ ⟨x1, rfl⟩
      have hx2 := hxS.out x1
      obtain ⟨w2, hw2⟩ : ∃ w2, f x1 = w2 := ⟨_, rfl⟩
      rw [hw2] at hx2 ⊢
      have hX2 := hX1.trans hx2
      have hb2 := (hx2.block _ hlb1).trans hb1
      have hr2 := (hx2.block _ hlr1).trans hr1
      clear u0 u1 u2 u3 u4 u5 hk1 hxS hSx hw2 iX y0 y1 y2 y3 y4 y5 i0 i1 i2 i3 i4 i5 s0 s1 s2 s3 s4 s5 g0 g1 g2 g3 g4 g5 hlb1 hlr1
      obtain ⟨⟨y0, y1, y2, y3, y4, y5⟩, _⟩ := cells_six hb2
      obtain ⟨⟨s0, s1, s2, s3, s4, s5⟩, ⟨g0, g1, g2, g3, g4, g5⟩⟩ := cells_six hr2
      have hlr2 := lt_of_block hr2
      go_wp2_with fail
      have hwq : put6 w2 (w.heap.size + 1) (.int .i64 D.quota) (.slice fa fn fc) (.slice na nn nc0) (.slice ka kn kc) (.slice ma mn mc) (.int .i64 D.next) = ((((((w2.setCell ⟨w.heap.size + 1, 0, none⟩ (.int .i64 D.quota)).setCell ⟨w.heap.size + 1, 1, none⟩ (.slice fa fn fc)).setCell ⟨w.heap.size + 1, 2, none⟩ (.slice na nn nc0)).setCell ⟨w.heap.size + 1, 3, none⟩ (.slice ka kn kc)).setCell ⟨w.heap.size + 1, 4, none⟩ (.slice ma mn mc)).setCell ⟨w.heap.size + 1, 5, none⟩ (.int .i64 D.next)) := rfl
      have hgq := put6_grownBy w2 (w.heap.size + 1) (.int .i64 D.quota) (.slice fa fn fc) (.slice na nn nc0) (.slice ka kn kc) (.slice ma mn mc) (.int .i64 D.next)
      have hhq := put6_block hr2 (.int .i64 D.quota) (.slice fa fn fc) (.slice na nn nc0) (.slice ka kn kc) (.slice ma mn mc) (.int .i64 D.next)
      rw [← hwq]
      obtain ⟨wq, hwqe⟩ : ∃ wq, put6 w2 (w.heap.size + 1) (.int .i64 D.quota) (.slice fa fn fc) (.slice na nn nc0) (.slice ka kn kc) (.slice ma mn mc) (.int .i64 D.next) = wq := ⟨_, rfl⟩
      rw [hwqe] at hgq hhq ⊢
      obtain ⟨⟨q0, q1, q2, q3, q4, q5⟩, _⟩ := cells_six hhq
      refine bodyPost_ret (v := .tuple #[.agg #[.int .i64 D.quota, .slice fa fn fc, .slice na nn nc0, .slice ka kn kc, .slice ma mn mc, .int .i64 D.next], .int .i64 6]) (by simp [results, Try.results10, go_sem, q0, q1, q2, q3, q4, q5]) rfl ?_
      have hXq := hX2.grown hgq (fun k e => by cases e; omega)
      show DPost _ _ _ _ _
      rw [hRh.out]
      exact ⟨⟨fa, fn, fc, fm, na, nn, nc0, ka, kn, kc, ma, mn, mc⟩, rfl, hOh.out.ext hXq, hXq⟩
    · have hR : appendD D s bl = ({ D with files := D.files.set t { D.files[t] with bytes := D.files[t].bytes ++ bl } }, 0) := by
        unfold appendD; rw [hsome]; dsimp only; rw [if_neg (by rw [htth.out, hblh.out]; exact hfull), updF_set hGh.out.files ht htz]
      have hRh := Lib.hid hR
      have hq1 : decide (D.quota - (tt : Int) < (bn : Int)) = false := decide_eq_false hfull
      clear hsome htz hR
      have hnm := hOh.out.fn
      have htm : t < fm.length := by have h1 := hnm.1; have h2 := hnm.2.1; dsimp only at h1 h2; omega
      obtain ⟨b0, o0, hfa, hc⟩ := files_at hOh.out (by have h2 := hnm.2.1; dsimp only at h2 ⊢; omega)
      dsimp only at hfa
      subst hfa
      have d0 := hX1.cell (hc t htm).1
      have d1 := hX1.cell (hc t htm).2.1
      have d2 := hX1.cell (hc t htm).2.2
      have hkf := (fm_at hOh.out htm).2
      have hby := hOh.out.bytes fm[t] (List.getElem_mem htm)
      have hbl := bytes_len hOh.out (List.getElem_mem htm)
      dsimp only at d0 d1 d2 hkf hby hbl
      obtain ⟨⟨⟨id, bys, su⟩, pa, pn, pc⟩, hx⟩ : ∃ y, fm[t] = y := ⟨_, rfl⟩
      have htf : (t : Int) < (fn : Int) := by have h2 := hnm.2.1; dsimp only at h2; omega
      clear hnm
      rw [hx] at d0 d1 d2 hkf hby hbl
      dsimp only at d0 d1 d2 hkf hby hbl
      have hkfh := Lib.hid hkf
      have hbyh := Lib.hid hby
      have hblh2 := Lib.hid hbl
      clear hc hx hkf hby hbl
      go_upto_region 4 with fail
      refine region_class (fun w' => ∃ x' : X, w' = f x') (by kernel_rfl) (by kernel_rfl) (hSx.out _ (Ext.drewN w1 1)) ?_
      repeat (go_big_quiet_step ((go_at_call 20; exact (hk1.out _))))
      refine wpQuiet_nil ?_
      rintro _ ⟨x1, rfl⟩
      have hx2 := hxS.out x1
      obtain ⟨w2, hw2⟩ : ∃ w2, f x1 = w2 := ⟨_, rfl⟩
      rw [hw2] at hx2 ⊢
      have hX2 := hX1.trans hx2
      have hb2 := (hx2.block _ hlb1).trans hb1
      have hr2 := (hx2.block _ hlr1).trans hr1
      replace d0 := hx2.cell d0
      replace d1 := hx2.cell d1
      replace d2 := hx2.cell d2
      clear u0 u1 u2 u3 u4 u5 hk1 hxS hSx hw2 iX y0 y1 y2 y3 y4 y5 i0 i1 i2 i3 i4 i5 s0 s1 s2 s3 s4 s5 g0 g1 g2 g3 g4 g5 hlb1 hlr1
      obtain ⟨⟨y0, y1, y2, y3, y4, y5⟩, _⟩ := cells_six hb2
      have hlb2 := lt_of_block hb2
      have hld := World.block_lt_of_cell? w2 _ d0
      have hx3 := Ext.alloc w2 (.cells #[.int .i64 id, .slice pa pn pc, .int .i64 su] 58)
      have hf3 := heap_alloc_new w2 (.cells #[.int .i64 id, .slice pa pn pc, .int .i64 su] 58)
      obtain ⟨BF, hBF⟩ : ∃ BF, w2.heap.size = BF := ⟨_, rfl⟩
      have hBFw : w.heap.size + 1 < BF := by have := lt_of_block hr2; omega
      go_upto_region 7 with fail
      obtain ⟨w3, hw3⟩ : ∃ w3, w2.alloc (.cells #[.int .i64 id, .slice pa pn pc, .int .i64 su] 58) = w3 := ⟨_, rfl⟩
      rw [hw3] at hx3
      rw [hw3, hBF] at hf3
      rw [hw3]
      clear hw3
      have hX3 := hX2.trans hx3
      have hb3 := (hx3.block _ hlb2).trans hb2
      have hr3 := (hx3.block _ (lt_of_block hr2)).trans hr2
      clear d0 d1 d2 y0 y1 y2 y3 y4 y5 hlb2 hld
      obtain ⟨f0, f1, f2⟩ := cells_three hf3
      have hlf := lt_of_block hf3
      have hx4 := Ext.alloc w3 (.cells #[.slice pa pn pc, .slice ba bn bc] 22)
      have hV := BsAll.two ((hbyh.out.bs_at).ext (hX3.trans hx4)) (hbsh.out.ext (hX3.trans hx4))
      have hsum : ([bys, bl].flatten).length ≤ 140737488355328 := by
        have h1 := hblh.out
        have h2 : bys.length ≤ total D.files := by
          have h3 := mem_total (List.getElem_mem ht)
          rw [← hkfh.out] at h3
          exact h3
        rw [htth.out] at h2
        simp only [List.flatten_cons, List.flatten_nil, List.append_nil, List.length_append]
        omega
      have hcon := Lib.hid (concat_calls (some ⟨w3.heap.size, 0, none⟩) 2 2 [.slice pa pn pc, .slice ba bn bc] [bys, bl] (w3.alloc (.cells #[.slice pa pn pc, .slice ba bn bc] 22)) (sl_block (heap_alloc_new w3 _) rfl (by decide)) hV hsum)
      clear hV hsum
      go_wp2_with fail
      refine hcon.out.mono ?_
      rintro e w5 ⟨vb, rfl, hob, hx5⟩
      obtain ⟨pa2, pn2, pc2, rfl, _⟩ := hob.bs
      have hX5 := hX3.trans (hx4.trans hx5)
      have hf5 := ((hx4.trans hx5).block _ hlf).trans hf3
      have hb5 := ((hx4.trans hx5).block _ (lt_of_block hb3)).trans hb3
      have hr5 := ((hx4.trans hx5).block _ (lt_of_block hr3)).trans hr3
      have hobh := Lib.hid (owns_mono hob (show w.heap.size ≤ (w3.alloc (.cells #[.slice pa pn pc, .slice ba bn bc] 22)).heap.size from (hX3.trans hx4).size))
      clear hcon hob f0 f1 f2 hlf
      have hlf5 := lt_of_block hf5
      have hfz := frozen_row hf5 1
      obtain ⟨f0, f1, f2⟩ := cells_three hf5
      go_upto_region 8 with fail
      have hgp := put_grownBy w5 BF 1 (.slice pa2 pn2 pc2)
      have hf6 := at_setCell hf5 1 (.slice pa2 pn2 pc2)
      simp only [List.setIfInBounds_toArray, List.set_cons_succ, List.set_cons_zero] at hf6
      have hb6 := (hgp.block _ (lt_of_block hb5) (by simp; omega)).trans hb5
      have hr6 := (hgp.block _ (lt_of_block hr5) (by simp; omega)).trans hr5
      have hX6 := hX5.grown hgp (fun k e => by cases e; omega)
      have hob6 : Hid (Own (w5.setCell ⟨BF, 1, none⟩ (.slice pa2 pn2 pc2)) w.heap.size 5 (.slice pa2 pn2 pc2) [bys, bl].flatten) := owns_beside hobh.out (owns_other hobh.out hf5 (by decide)) hgp
      obtain ⟨w6, hw6⟩ : ∃ w6, w5.setCell ⟨BF, 1, none⟩ (.slice pa2 pn2 pc2) = w6 := ⟨_, rfl⟩
      rw [hw6] at hf6 hb6 hr6 hX6 hob6 ⊢
      clear hw6 hgp hfz hlf5 f0 f1 f2
      obtain ⟨⟨y0, y1, y2, y3, y4, y5⟩, _⟩ := cells_six hb6
      obtain ⟨f0, f1, f2⟩ := cells_three hf6
      have hlr6 := lt_of_block hr6
      have hlb6 := lt_of_block hb6
      have hst2 := Lib.hid (hst.out w6 hX6 t (⟨id, [bys, bl].flatten, su⟩, (pa2, pn2, pc2)) ht (owns_mono hob6.out hbase))
      dsimp only at hst2
      clear hst
      go_wp2_with fail
      refine hst2.out.mono ?_
      rintro e w7 ⟨⟨fa2, fn2, fc2, fm2, na2, nn2, nc2, ka2, kn2, kc2, ma2, mn2, mc2⟩, rfl, hO2, hx7⟩
      dsimp only
      have hX7 := hX6.trans hx7
      have hr7 := (hx7.block _ hlr6).trans hr6
      have hO2h := Lib.hid hO2
      clear hO2 y0 y1 y2 y3 y4 y5 f0 f1 f2
      obtain ⟨⟨s0, s1, s2, s3, s4, s5⟩, ⟨g0, g1, g2, g3, g4, g5⟩⟩ := cells_six hr7
      have hlr7 := lt_of_block hr7
      go_wp2_with fail
      have hwq : put6 w7 (w.heap.size + 1) (.int .i64 D.quota) (.slice fa2 fn2 fc2) (.slice na2 nn2 nc2) (.slice ka2 kn2 kc2) (.slice ma2 mn2 mc2) (.int .i64 D.next) = ((((((w7.setCell ⟨w.heap.size + 1, 0, none⟩ (.int .i64 D.quota)).setCell ⟨w.heap.size + 1, 1, none⟩ (.slice fa2 fn2 fc2)).setCell ⟨w.heap.size + 1, 2, none⟩ (.slice na2 nn2 nc2)).setCell ⟨w.heap.size + 1, 3, none⟩ (.slice ka2 kn2 kc2)).setCell ⟨w.heap.size + 1, 4, none⟩ (.slice ma2 mn2 mc2)).setCell ⟨w.heap.size + 1, 5, none⟩ (.int .i64 D.next)) := rfl
      have hgq := put6_grownBy w7 (w.heap.size + 1) (.int .i64 D.quota) (.slice fa2 fn2 fc2) (.slice na2 nn2 nc2) (.slice ka2 kn2 kc2) (.slice ma2 mn2 mc2) (.int .i64 D.next)
      have hhq := put6_block hr7 (.int .i64 D.quota) (.slice fa2 fn2 fc2) (.slice na2 nn2 nc2) (.slice ka2 kn2 kc2) (.slice ma2 mn2 mc2) (.int .i64 D.next)
      rw [← hwq]
      obtain ⟨wq, hwqe⟩ : ∃ wq, put6 w7 (w.heap.size + 1) (.int .i64 D.quota) (.slice fa2 fn2 fc2) (.slice na2 nn2 nc2) (.slice ka2 kn2 kc2) (.slice ma2 mn2 mc2) (.int .i64 D.next) = wq := ⟨_, rfl⟩
      rw [hwqe] at hgq hhq ⊢
      obtain ⟨⟨q0, q1, q2, q3, q4, q5⟩, _⟩ := cells_six hhq
      refine bodyPost_ret (v := .tuple #[.agg #[.int .i64 D.quota, .slice fa2 fn2 fc2, .slice na2 nn2 nc2, .slice ka2 kn2 kc2, .slice ma2 mn2 mc2, .int .i64 D.next], .int .i64 0]) (by simp [results, Try.results10, go_sem, q0, q1, q2, q3, q4, q5]) rfl ?_
      have hXq := hX7.grown hgq (fun k e => by cases e; omega)
      show DPost _ _ _ _ _
      rw [hRh.out]
      have he : ({ D.files[t] with bytes := D.files[t].bytes ++ bl } : Fl) = ⟨id, [bys, bl].flatten, su⟩ := by rw [← hkfh.out]; simp
      rw [he]
      exact ⟨⟨fa2, fn2, fc2, fm2, na2, nn2, nc2, ka2, kn2, kc2, ma2, mn2, mc2⟩, rfl, hO2h.out.beside hr7 hgq (by decide) (by decide) (by decide) (by decide), hXq⟩
end Go.Proofs.Ytponbponacdhkaa

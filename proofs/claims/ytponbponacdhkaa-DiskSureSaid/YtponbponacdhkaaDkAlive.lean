/-
  Layer 6's statements: a disk in a law's box; what all their walks begin with.
-/
import Derived.Test.YtponbponacdhkaaDkPlay
import Derived.Lib.SlBytesConst
namespace Go.Proofs.Ytponbponacdhkaa
open Go.RowKit

theorem sl_blockf {w : World} {b : Nat} {cs : List Value} {e : TypeId} {n s : Nat} {fr : Nat × Nat} (h : w.heap[b]? = some (.cells cs.toArray e fr)) (hl : cs.length = n * s) (hn : n ≤ maxLen) : Sl w (some ⟨b, 0, none⟩) n n s cs :=
  ⟨hl, Nat.le_refl _, hn, (fun h => by cases h), fun _ => ⟨b, 0, rfl, fun i hi => by simp [World.cell?, h, hi]⟩⟩
structure InBox (w W : World) (B : Nat) (x : DV) (D : Dk) : Prop where
  ext : Ext w W
  le : w.heap.size ≤ B
  blk : W.heap[B]? = some (.cells #[.int .i64 D.quota, .slice x.fa x.fn x.fc, .slice x.na x.nn x.nc, .slice x.ka x.kn x.kc, .slice x.ma x.mn x.mc, .int .i64 D.next] 29 (0, 0))
  od : OD W 0 x D
def xnil : DV := ⟨none, 0, 0, [], none, 0, 0, none, 0, 0, none, 0, 0⟩
theorem OD.nil (w : World) (q : Int) : OD w 0 xnil ⟨q, [], [], [], [], 1⟩ :=
  ⟨World.ownsRow_nil w _ _ _, rfl, (fun _ h => by cases h), World.ownsRow_nil w _ _ _, World.ownsRow_nil w _ _ _, World.ownsRow_nil w _ _ _⟩
theorem InBox.step {w W W2 : World} {B : Nat} {x x2 : DV} {D D2 : Dk} (h : InBox w W B x D) (hx : Ext W W2) (ho : OD W2 0 x2 D2) :
    InBox w (put6 W2 B (.int .i64 D2.quota) (.slice x2.fa x2.fn x2.fc) (.slice x2.na x2.nn x2.nc) (.slice x2.ka x2.kn x2.kc) (.slice x2.ma x2.mn x2.mc) (.int .i64 D2.next)) B x2 D2 := by
  have hb := (hx.block _ (lt_of_block h.blk)).trans h.blk
  have hg := put6_grownBy W2 B (.int .i64 D2.quota) (.slice x2.fa x2.fn x2.fc) (.slice x2.na x2.nn x2.nc) (.slice x2.ka x2.kn x2.kc) (.slice x2.ma x2.mn x2.mc) (.int .i64 D2.next)
  exact ⟨(h.ext.trans hx).grown hg (fun k e => by cases e; exact h.le), h.le, put6_block hb _ _ _ _ _ _, ho.beside hb hg (by decide) (by decide) (by decide) (by decide)⟩
theorem InBox.on {w W W2 : World} {B : Nat} {x : DV} {D : Dk} (h : InBox w W B x D) (hx : Ext W W2) : InBox w W2 B x D :=
  ⟨h.ext.trans hx, h.le, (hx.block _ (lt_of_block h.blk)).trans h.blk, h.od.ext hx⟩

set_option maxRecDepth 100000 in
set_option maxHeartbeats 6400000 in
theorem alive06_calls (w : World) : Calls Try.prog 7 #[] w fun e w' => e = .returned (.bool true) ∧ Ext w w' := by
  obtain ⟨D1, hD1⟩ : ∃ D, createD ⟨10, [], [], [], [], 1⟩ [97] = (D, 0) := ⟨_, rfl⟩
  have hG0 : Good ⟨10, [], [], [], [], 1⟩ := good_new ⟨by decide, by decide⟩
  have hG1 : Good D1 := by have := (good_create hG0 (by decide) [97] rfl).1; rw [hD1] at this; exact this
  obtain ⟨D2, hD2⟩ : ∃ D, appendD D1 [97] [104, 101, 108, 108, 111] = (D, 0) := by injection hD1 with h1 _; subst h1; exact ⟨_, rfl⟩
  have hG2 : Good D2 := by have := (good_append hG1 [97] [104, 101, 108, 108, 111]).1; rw [hD2] at this; exact this
  have hQ2 : D2 = ⟨10, [⟨1, [104, 101, 108, 108, 111], 0⟩], [([97], 1)], [], [⟨1, [97], [], 1⟩], 2⟩ := by injection hD1 with h1 _; subst h1; injection hD2 with h2 _; exact h2.symm
  have hQh := Lib.hid hQ2
  clear hQ2
  go_enter Try.func7, Try.ntmps7
  go_wp2_with fail
  refine (new_calls 10 _ (by decide) (by decide)).mono ?_
  rintro e v0 ⟨rfl, hy0⟩
  go_upto_region 2 with fail
  obtain ⟨W0, hW0⟩ : ∃ W0, v0.alloc (.cells #[.int .i64 10, .slice none 0 0, .slice none 0 0, .slice none 0 0, .slice none 0 0, .int .i64 1] 29) = W0 := ⟨_, rfl⟩
  obtain ⟨B, hB⟩ : ∃ B, v0.heap.size = B := ⟨_, rfl⟩
  have hI0 : InBox w W0 B xnil ⟨10, [], [], [], [], 1⟩ := by
    rw [← hW0, ← hB]
    exact ⟨hy0.trans (Ext.alloc _ _), hy0.size, heap_alloc_new _ _, OD.nil _ _⟩
  rw [hW0, hB]
  clear hW0 hB hy0
  have hc0 := hI0.blk
  obtain ⟨⟨y0, y1, y2, y3, y4, y5⟩, _⟩ := cells_six hc0
  have h1 := create_calls _ _ 0 [97] W0 hI0.od hG0 (Nat.zero_le _) rfl
  rw [hD1] at h1
  go_wp2_with fail
  refine (h1).mono ?_
  rintro e v1 ⟨x1, rfl, hO1, hy1⟩
  have hb1 := (hI0.on hy1).blk
  obtain ⟨⟨y0, y1, y2, y3, y4, y5⟩, ⟨g0, g1, g2, g3, g4, g5⟩⟩ := cells_six hb1
  have hl1 := lt_of_block hb1
  unfold dkv dcs
  dsimp only
  go_upto_region 3 with fail
  have hI1 := hI0.step hy1 hO1
  clear y0 y1 y2 y3 y4 y5 g0 g1 g2 g3 g4 g5 hb1 hl1 hy1 hO1 hI0
  obtain ⟨W1, hW1⟩ : ∃ W1, put6 v1 B (.int .i64 D1.quota) (.slice x1.fa x1.fn x1.fc) (.slice x1.na x1.nn x1.nc) (.slice x1.ka x1.kn x1.kc) (.slice x1.ma x1.mn x1.mc) (.int .i64 D1.next) = W1 := ⟨_, rfl⟩
  rw [hW1] at hI1
  change Code.wp _ _ _ _ (put6 v1 B (.int .i64 D1.quota) (.slice x1.fa x1.fn x1.fc) (.slice x1.na x1.nn x1.nc) (.slice x1.ka x1.kn x1.kc) (.slice x1.ma x1.mn x1.mc) (.int .i64 D1.next))
  rw [hW1]
  clear hW1
  have hc1 := hI1.blk
  obtain ⟨⟨y0, y1, y2, y3, y4, y5⟩, _⟩ := cells_six hc1
  have h2 := fun W (hx : Ext W1 W) (a : Option Addr) (n c : Nat) (hb : Bs W a n c [104, 101, 108, 108, 111]) => append_calls D1 x1 0 [97] a n c [104, 101, 108, 108, 111] W (hI1.on hx).od hG1 (Nat.zero_le _) rfl hb
  rw [hD2] at h2
  have kc := Lib.run_convert_bytes_const (P := Try.prog) W1 22 5 #[.int .u8 104, .int .u8 101, .int .u8 108, .int .u8 108, .int .u8 111] 5 5 Try.underlying22 Try.underlying5
  simp only [List.size_toArray, List.length_cons, List.length_nil] at kc
  go_wp2_with fail
  have hbs1 : Bs (W1.alloc (.cells #[.int .u8 104, .int .u8 101, .int .u8 108, .int .u8 108, .int .u8 111] 5 (5, 6))) (some ⟨W1.heap.size, 0, none⟩) 5 5 [104, 101, 108, 108, 111] := sl_blockf (s := 1) (cs := bvs [104, 101, 108, 108, 111]) (heap_alloc_new W1 _) rfl (by decide)
  have hJ1 := hI1.on (Ext.alloc W1 (.cells #[.int .u8 104, .int .u8 101, .int .u8 108, .int .u8 108, .int .u8 111] 5 (5, 6)))
  have h2b := h2 _ (Ext.alloc W1 (.cells #[.int .u8 104, .int .u8 101, .int .u8 108, .int .u8 108, .int .u8 111] 5 (5, 6))) _ _ _ hbs1
  clear kc h2 hbs1
  obtain ⟨Z1, hZ1⟩ : ∃ Z1, W1.alloc (.cells #[.int .u8 104, .int .u8 101, .int .u8 108, .int .u8 108, .int .u8 111] 5 (5, 6)) = Z1 := ⟨_, rfl⟩
  rw [hZ1] at hJ1 h2b ⊢
  clear hZ1
  refine (h2b).mono ?_
  rintro e v2 ⟨x2, rfl, hO2, hy2⟩
  have hb2 := (hJ1.on hy2).blk
  obtain ⟨⟨y0, y1, y2, y3, y4, y5⟩, ⟨g0, g1, g2, g3, g4, g5⟩⟩ := cells_six hb2
  have hl2 := lt_of_block hb2
  unfold dkv dcs
  dsimp only
  go_upto_region 4 with fail
  have hI2 := hJ1.step hy2 hO2
  clear y0 y1 y2 y3 y4 y5 g0 g1 g2 g3 g4 g5 hb2 hl2 hy2 hO2 hI1
  obtain ⟨W2, hW2⟩ : ∃ W2, put6 v2 B (.int .i64 D2.quota) (.slice x2.fa x2.fn x2.fc) (.slice x2.na x2.nn x2.nc) (.slice x2.ka x2.kn x2.kc) (.slice x2.ma x2.mn x2.mc) (.int .i64 D2.next) = W2 := ⟨_, rfl⟩
  rw [hW2] at hI2
  change Code.wp _ _ _ _ (put6 v2 B (.int .i64 D2.quota) (.slice x2.fa x2.fn x2.fc) (.slice x2.na x2.nn x2.nc) (.slice x2.ka x2.kn x2.kc) (.slice x2.ma x2.mn x2.mc) (.int .i64 D2.next))
  rw [hW2]
  clear hW2
  have hc2 := hI2.blk
  obtain ⟨⟨y0, y1, y2, y3, y4, y5⟩, _⟩ := cells_six hc2
  have h3 := fun W (hx : Ext W2 W) (a : Option Addr) (n c : Nat) (hb : Row kcl 2 W a n c [(1, 2)]) => crash_calls D2 x2 0 1 a n c [(1, 2)] 1 [([97], 1)] W (hI2.on hx).od hG2 (Nat.zero_le _) hb (by rw [hQh.out]; rfl) (by rw [hQh.out]; rfl)
  have h5 := fun W (hx : Ext W2 W) => crash_calls D2 x2 0 0 none 0 0 [] 0 [] W (hI2.on hx).od hG2 (Nat.zero_le _) (Row.nil _ _ _) (by rw [hQh.out]; rfl) (by rw [hQh.out]; rfl)
  obtain ⟨D3, hD3⟩ : ∃ D, crashD D2 [([97], 1)] [(1, 2)] = D := ⟨_, rfl⟩
  obtain ⟨D4, hD4⟩ : ∃ D, crashD D2 [] [] = D := ⟨_, rfl⟩
  rw [hD3] at h3
  rw [hD4] at h5
  go_wp2_with fail
  have hks2 : Row kcl 2 (W2.alloc (.cells #[.int .i64 1, .int .i64 2] 61)) (some ⟨W2.heap.size, 0, none⟩) 1 1 [(1, 2)] := sl_block (s := 2) (cs := rcells kcl [(1, 2)]) (heap_alloc_new W2 _) rfl (by decide)
  refine (h3 _ (Ext.alloc _ _) _ _ _ hks2).mono ?_
  rintro e v3 ⟨x3, rfl, hO3, hy3⟩
  have hI3 := (hI2.on (Ext.alloc W2 (.cells #[.int .i64 1, .int .i64 2] 61))).on hy3
  have hG3 : Good D3 := by rw [← hD3]; exact good_crash hG2 (k := 1) (by rw [hQh.out]; rfl) _
  unfold dkv dcs
  dsimp only
  clear y0 y1 y2 y3 y4 y5
  obtain ⟨⟨y0, y1, y2, y3, y4, y5⟩, _⟩ := cells_six hI3.blk
  go_upto_region 5 with fail
  have hO3b := hO3.ext (Ext.alloc v3 (.cells #[.int .i64 D3.quota, .slice x3.fa x3.fn x3.fc, .slice x3.na x3.nn x3.nc, .slice x3.ka x3.kn x3.kc, .slice x3.ma x3.mn x3.mc, .int .i64 D3.next] 29))
  have hI3b := hI3.on (Ext.alloc v3 (.cells #[.int .i64 D3.quota, .slice x3.fa x3.fn x3.fc, .slice x3.na x3.nn x3.nc, .slice x3.ka x3.kn x3.kc, .slice x3.ma x3.mn x3.mc, .int .i64 D3.next] 29))
  have hn3 := heap_alloc_new v3 (.cells #[.int .i64 D3.quota, .slice x3.fa x3.fn x3.fc, .slice x3.na x3.nn x3.nc, .slice x3.ka x3.kn x3.kc, .slice x3.ma x3.mn x3.mc, .int .i64 D3.next] 29)
  obtain ⟨W3, hW3⟩ : ∃ W3, v3.alloc (.cells #[.int .i64 D3.quota, .slice x3.fa x3.fn x3.fc, .slice x3.na x3.nn x3.nc, .slice x3.ka x3.kn x3.kc, .slice x3.ma x3.mn x3.mc, .int .i64 D3.next] 29) = W3 := ⟨_, rfl⟩
  obtain ⟨B3, hB3⟩ : ∃ B, v3.heap.size = B := ⟨_, rfl⟩
  rw [hW3] at hO3b hI3b hn3 ⊢
  rw [hB3] at hn3 ⊢
  clear hW3 hB3 hO3 hI3 y0 y1 y2 y3 y4 y5
  obtain ⟨⟨y0, y1, y2, y3, y4, y5⟩, _⟩ := cells_six hn3
  have h4 := read_calls D3 x3 0 [97] W3 hO3b hG3 rfl
  go_wp2_with fail
  refine h4.mono ?_
  rintro e v4 ⟨ra, rn, rc, rl, rerr, rfl, hrp, hrb, hy4⟩
  have hrr : rl = [104, 101] ∧ rerr = 0 := by
    have hQ3 : D3 = ⟨10, [⟨1, [104, 101], 2⟩], [([97], 1)], [([97], 1)], [], 2⟩ := by rw [← hD3, hQh.out]; rfl
    subst hQ3
    rcases hrp with ⟨h, _, _⟩ | ⟨z, t, ht, _, _, h1, h2⟩
    · cases h
    · obtain rfl : t = 0 := by simp at ht; exact ht
      exact ⟨h1, h2⟩
  obtain ⟨rfl, rfl⟩ := hrr
  have hI4 := hI3b.on hy4
  clear y0 y1 y2 y3 y4 y5 hrp
  obtain ⟨⟨y0, y1, y2, y3, y4, y5⟩, _⟩ := cells_six hI4.blk
  go_wp2_with fail
  have h6 := crash_calls D2 x2 0 0 none 0 0 [] 0 [] v4 hI4.od hG2 (Nat.zero_le _) (Row.nil _ _ _) (by rw [hQh.out]; rfl) (by rw [hQh.out]; rfl)
  rw [hD4] at h6
  have hG4 : Good D4 := by rw [← hD4]; exact good_crash hG2 (k := 0) (by rw [hQh.out]; rfl) _
  refine h6.mono ?_
  rintro e v5 ⟨x5, rfl, hO5, hy5⟩
  obtain ⟨D5, hD5⟩ : ∃ D, D4 = D := ⟨_, rfl⟩
  rw [hD5] at hO5 hG4
  have hD5h := Lib.hid (hD4.trans hD5)
  rw [hD5] at hD4 ⊢
  clear hD5
  have hI5 := hI4.on hy5
  unfold dkv dcs
  dsimp only
  clear y0 y1 y2 y3 y4 y5
  obtain ⟨⟨y0, y1, y2, y3, y4, y5⟩, _⟩ := cells_six hI5.blk
  go_upto_region 7 with fail
  have hO5b := hO5.ext (Ext.alloc v5 (.cells #[.int .i64 D5.quota, .slice x5.fa x5.fn x5.fc, .slice x5.na x5.nn x5.nc, .slice x5.ka x5.kn x5.kc, .slice x5.ma x5.mn x5.mc, .int .i64 D5.next] 29))
  have hI5b := hI5.on (Ext.alloc v5 (.cells #[.int .i64 D5.quota, .slice x5.fa x5.fn x5.fc, .slice x5.na x5.nn x5.nc, .slice x5.ka x5.kn x5.kc, .slice x5.ma x5.mn x5.mc, .int .i64 D5.next] 29))
  have hn5 := heap_alloc_new v5 (.cells #[.int .i64 D5.quota, .slice x5.fa x5.fn x5.fc, .slice x5.na x5.nn x5.nc, .slice x5.ka x5.kn x5.kc, .slice x5.ma x5.mn x5.mc, .int .i64 D5.next] 29)
  have hz5 := Ext.alloc v5 (.cells #[.int .i64 D5.quota, .slice x5.fa x5.fn x5.fc, .slice x5.na x5.nn x5.nc, .slice x5.ka x5.kn x5.kc, .slice x5.ma x5.mn x5.mc, .int .i64 D5.next] 29)
  obtain ⟨W5, hW5⟩ : ∃ W5, v5.alloc (.cells #[.int .i64 D5.quota, .slice x5.fa x5.fn x5.fc, .slice x5.na x5.nn x5.nc, .slice x5.ka x5.kn x5.kc, .slice x5.ma x5.mn x5.mc, .int .i64 D5.next] 29) = W5 := ⟨_, rfl⟩
  obtain ⟨B5, hB5⟩ : ∃ B, v5.heap.size = B := ⟨_, rfl⟩
  rw [hW5] at hO5b hI5b hn5 hz5 ⊢
  rw [hB5] at hn5 ⊢
  clear hW5 hB5 hO5 hI5 y0 y1 y2 y3 y4 y5
  obtain ⟨⟨y0, y1, y2, y3, y4, y5⟩, _⟩ := cells_six hn5
  have h7 := list_calls D5 x5 0 W5 hO5b hG4
  have hQ5 : D5.names.length = 0 := by rw [← hD5h.out, hQh.out]; rfl
  rw [hQ5] at h7
  go_wp2_with fail
  refine h7.mono ?_
  rintro e v6 ⟨gl, rfl, _, hy6⟩
  have hcs := (hrb.ext ((hy5.trans hz5).trans hy6)).string (P := Try.prog) 22 5 9 Try.underlying22 Try.underlying5 Try.underlying9
  have hEnd := hI5b.ext.trans hy6
  clear y0 y1 y2 y3 y4 y5
  go_wp2_with fail
  go_ret
  exact ⟨rfl, hEnd⟩
end Go.Proofs.Ytponbponacdhkaa

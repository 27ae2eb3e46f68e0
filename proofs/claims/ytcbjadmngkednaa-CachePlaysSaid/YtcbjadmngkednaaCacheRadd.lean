/-
  Layer 20's contracts: the document's Add.
-/
import Derived.Test.YtcbjadmngkednaaCacheRaddL
namespace Go.Proofs.Ytcbjadmngkednaa
open Go.RowKit

def RaddPost (m : Int) (R : (Ca × Bool) × Int) (w : World) (e : Ending) (w' : World) : Prop :=
  ∃ a2 n2 c2 M2, e = .returned (.tuple #[cav m a2 n2 c2 R.1.1.came R.1.1.dropped, .bool R.1.2, .int .i64 R.2]) ∧ Ws w' a2 n2 c2 M2 ∧ ws M2 = R.1.1.waits ∧ Ext w w'

set_option maxRecDepth 100000 in
set_option maxHeartbeats 3200000 in
theorem radd_no (m : Int) (a : Option Addr) (n c : Nat) (came dropped : Int) (M : List Wh) (s : List UInt8) (val tim now : Int) (w : World) (hb : Cw w a n c M) (hs : s.length ≤ 140737488355328) (hno : nmd s = false ∨ crtC ⟨m, ws M, came, dropped⟩ = false) :
    Calls Try.prog 12 #[cav m a n c came dropped, .agg #[.string ⟨s.toArray⟩, .int .i64 val, .int .i64 tim], .int .i64 now] w (RaddPost m ((⟨m, ws M, came, dropped⟩, false), 1) w) := by
  have hx : Ext w (((w.alloc (.cells #[.int .i64 m, .slice a n c, .int .i64 came, .int .i64 dropped] 24)).alloc (.cells #[.string ⟨s.toArray⟩, .int .i64 val, .int .i64 tim] 26)).alloc (.cells #[.int .i64 0, .slice none 0 0, .int .i64 0, .int .i64 0] 24)) := ((Ext.alloc w _).trans (Ext.alloc _ _)).trans (Ext.alloc _ _)
  obtain ⟨hbox, hsb, hres⟩ := three_blocks (Ext.refl (((w.alloc (.cells #[.int .i64 m, .slice a n c, .int .i64 came, .int .i64 dropped] 24)).alloc (.cells #[.string ⟨s.toArray⟩, .int .i64 val, .int .i64 tim] 26)).alloc (.cells #[.int .i64 0, .slice none 0 0, .int .i64 0, .int .i64 0] 24)))
  have hr := (hb.ext hx).rright (m := m) (came := came) (dropped := dropped)
  obtain ⟨W0, hW0⟩ : ∃ W0, ((w.alloc (.cells #[.int .i64 m, .slice a n c, .int .i64 came, .int .i64 dropped] 24)).alloc (.cells #[.string ⟨s.toArray⟩, .int .i64 val, .int .i64 tim] 26)).alloc (.cells #[.int .i64 0, .slice none 0 0, .int .i64 0, .int .i64 0] 24) = W0 := ⟨_, rfl⟩
  rw [hW0] at hx hbox hsb hres hr

  obtain ⟨⟨y0, y1, y2, y3⟩, _⟩ := cells_four hbox
  obtain ⟨x0, x1, x2⟩ := cells_three hsb

  unfold cav at *
  by_cases hc : crtC ⟨m, ws M, came, dropped⟩ = false
  · rw [hc] at hr
    have hrh := Lib.hid hr
    clear hr hno hc
    go_enter Try.func12, Try.ntmps12
    go_wp2_with fail

    refine hrh.out.mono ?_
    rintro e w1 ⟨rfl, hx1⟩
    clear hW0
    replace hres := (hx1.block _ (lt_of_block hres)).trans hres
    replace hbox := (hx1.block _ (lt_of_block hbox)).trans hbox
    replace hsb := (hx1.block _ (lt_of_block hsb)).trans hsb
    have hX := hx.trans hx1
    clear y0 y1 y2 y3 x0 x1 x2
    obtain ⟨⟨y0, y1, y2, y3⟩, ⟨u0, u1, u2, u3⟩⟩ := cells_four hbox
    obtain ⟨x0, x1, x2⟩ := cells_three hsb

    obtain ⟨⟨z0, z1, z2, z3⟩, ⟨f0, f1, f2, f3⟩⟩ := cells_four hres
    go_wp2_with fail
    have hw9 : put4 w1 (w.heap.size + 1 + 1) (.int .i64 m) (.slice a n c) (.int .i64 came) (.int .i64 dropped) = (((w1.setCell ⟨w.heap.size + 1 + 1, 0, none⟩ (.int .i64 m)).setCell ⟨w.heap.size + 1 + 1, 1, none⟩ (.slice a n c)).setCell ⟨w.heap.size + 1 + 1, 2, none⟩ (.int .i64 came)).setCell ⟨w.heap.size + 1 + 1, 3, none⟩ (.int .i64 dropped) := rfl
    have hg9 := put4_grownBy w1 (w.heap.size + 1 + 1) (.int .i64 m) (.slice a n c) (.int .i64 came) (.int .i64 dropped)
    have hh9 := put4_block hres (.int .i64 m) (.slice a n c) (.int .i64 came) (.int .i64 dropped)
    rw [← hw9]
    obtain ⟨w9, hw9e⟩ : ∃ w9, put4 w1 (w.heap.size + 1 + 1) (.int .i64 m) (.slice a n c) (.int .i64 came) (.int .i64 dropped) = w9 := ⟨_, rfl⟩
    rw [hw9e] at hg9 hh9 ⊢
    obtain ⟨⟨q0, q1, q2, q3⟩, _⟩ := cells_four hh9
    refine bodyPost_ret (v := .tuple #[.agg #[.int .i64 m, .slice a n c, .int .i64 came, .int .i64 dropped], .bool false, .int .i64 1]) (by simp [results, Try.results12, go_sem, q0, q1, q2, q3]) rfl ?_
    have hX9 := hX.grown hg9 (fun k e => by cases e; omega)
    exact ⟨_, _, _, M, rfl, hb.rd.ext hX9, rfl, hX9⟩
  · have hc1 : crtC ⟨m, ws M, came, dropped⟩ = true := by simpa using hc
    have hn1 : nmd s = false := hno.resolve_right (by rw [hc1]; simp)
    have hnmh := Lib.hid (fun W => rnamed_calls s W hs)
    rw [hn1] at hnmh
    rw [hc1] at hr
    have hrh := Lib.hid hr
    clear hr hno hc hc1 hn1
    go_enter Try.func12, Try.ntmps12
    go_wp2_with fail

    refine hrh.out.mono ?_
    rintro e w1 ⟨rfl, hx1⟩
    clear hW0
    replace hres := (hx1.block _ (lt_of_block hres)).trans hres
    replace hbox := (hx1.block _ (lt_of_block hbox)).trans hbox
    replace hsb := (hx1.block _ (lt_of_block hsb)).trans hsb
    have hX := hx.trans hx1
    clear y0 y1 y2 y3 x0 x1 x2
    obtain ⟨⟨y0, y1, y2, y3⟩, ⟨u0, u1, u2, u3⟩⟩ := cells_four hbox
    obtain ⟨x0, x1, x2⟩ := cells_three hsb

    go_wp2_with fail
    refine (hnmh.out _).mono ?_
    rintro e w2 ⟨rfl, rfl⟩
    obtain ⟨⟨z0, z1, z2, z3⟩, ⟨f0, f1, f2, f3⟩⟩ := cells_four hres
    go_wp2_with fail
    have hw9 : put4 w2 (w.heap.size + 1 + 1) (.int .i64 m) (.slice a n c) (.int .i64 came) (.int .i64 dropped) = (((w2.setCell ⟨w.heap.size + 1 + 1, 0, none⟩ (.int .i64 m)).setCell ⟨w.heap.size + 1 + 1, 1, none⟩ (.slice a n c)).setCell ⟨w.heap.size + 1 + 1, 2, none⟩ (.int .i64 came)).setCell ⟨w.heap.size + 1 + 1, 3, none⟩ (.int .i64 dropped) := rfl
    have hg9 := put4_grownBy w2 (w.heap.size + 1 + 1) (.int .i64 m) (.slice a n c) (.int .i64 came) (.int .i64 dropped)
    have hh9 := put4_block hres (.int .i64 m) (.slice a n c) (.int .i64 came) (.int .i64 dropped)
    rw [← hw9]
    obtain ⟨w9, hw9e⟩ : ∃ w9, put4 w2 (w.heap.size + 1 + 1) (.int .i64 m) (.slice a n c) (.int .i64 came) (.int .i64 dropped) = w9 := ⟨_, rfl⟩
    rw [hw9e] at hg9 hh9 ⊢
    obtain ⟨⟨q0, q1, q2, q3⟩, _⟩ := cells_four hh9
    refine bodyPost_ret (v := .tuple #[.agg #[.int .i64 m, .slice a n c, .int .i64 came, .int .i64 dropped], .bool false, .int .i64 1]) (by simp [results, Try.results12, go_sem, q0, q1, q2, q3]) rfl ?_
    have hX9 := hX.grown hg9 (fun k e => by cases e; omega)
    exact ⟨_, _, _, M, rfl, hb.rd.ext hX9, rfl, hX9⟩

set_option maxRecDepth 100000 in
set_option maxHeartbeats 3200000 in
theorem radd_range (m : Int) (a : Option Addr) (n c : Nat) (came dropped : Int) (M : List Wh) (s : List UInt8) (val tim now : Int) (w : World) (hb : Cw w a n c M) (hs : s.length ≤ 140737488355328) (hn : nmd s = true) (hc : crtC ⟨m, ws M, came, dropped⟩ = true) (hq : came = 1099511627776) :
    Calls Try.prog 12 #[cav m a n c came dropped, .agg #[.string ⟨s.toArray⟩, .int .i64 val, .int .i64 tim], .int .i64 now] w (RaddPost m ((⟨m, ws M, came, dropped⟩, false), 3) w) := by
  subst hq
  obtain ⟨⟨g1, g2, g3, g4, g5, g6, g7, g8⟩, hgood⟩ := (crtC_iff _).1 hc
  dsimp only at g1 g2 g3 g4 g5 g6 g7 g8 hgood
  have hx : Ext w (((w.alloc (.cells #[.int .i64 m, .slice a n c, .int .i64 1099511627776, .int .i64 dropped] 24)).alloc (.cells #[.string ⟨s.toArray⟩, .int .i64 val, .int .i64 tim] 26)).alloc (.cells #[.int .i64 0, .slice none 0 0, .int .i64 0, .int .i64 0] 24)) := ((Ext.alloc w _).trans (Ext.alloc _ _)).trans (Ext.alloc _ _)
  obtain ⟨hbox, hsb, hres⟩ := three_blocks (Ext.refl (((w.alloc (.cells #[.int .i64 m, .slice a n c, .int .i64 1099511627776, .int .i64 dropped] 24)).alloc (.cells #[.string ⟨s.toArray⟩, .int .i64 val, .int .i64 tim] 26)).alloc (.cells #[.int .i64 0, .slice none 0 0, .int .i64 0, .int .i64 0] 24)))
  have hr := (hb.ext hx).rright (m := m) (came := 1099511627776) (dropped := dropped)
  obtain ⟨W0, hW0⟩ : ∃ W0, ((w.alloc (.cells #[.int .i64 m, .slice a n c, .int .i64 1099511627776, .int .i64 dropped] 24)).alloc (.cells #[.string ⟨s.toArray⟩, .int .i64 val, .int .i64 tim] 26)).alloc (.cells #[.int .i64 0, .slice none 0 0, .int .i64 0, .int .i64 0] 24) = W0 := ⟨_, rfl⟩
  rw [hW0] at hx hbox hsb hres hr
  obtain ⟨⟨y0, y1, y2, y3⟩, _⟩ := cells_four hbox
  obtain ⟨x0, x1, x2⟩ := cells_three hsb
  have hnmh := Lib.hid (fun W => rnamed_calls s W hs)
  rw [hn] at hnmh
  rw [hc] at hr
  have hrh := Lib.hid hr
  have hgoodh := Lib.hid hgood
  have hch := Lib.hid hc
  clear hr hn hc hgood
  unfold cav at *
  go_enter Try.func12, Try.ntmps12
  go_wp2_with fail
  refine hrh.out.mono ?_
  rintro e w1 ⟨rfl, hx1⟩
  clear hW0
  replace hres := (hx1.block _ (lt_of_block hres)).trans hres
  replace hbox := (hx1.block _ (lt_of_block hbox)).trans hbox
  replace hsb := (hx1.block _ (lt_of_block hsb)).trans hsb
  have hX := hx.trans hx1
  clear y0 y1 y2 y3 x0 x1 x2
  obtain ⟨⟨y0, y1, y2, y3⟩, ⟨u0, u1, u2, u3⟩⟩ := cells_four hbox
  obtain ⟨x0, x1, x2⟩ := cells_three hsb
  go_wp2_with fail
  refine (hnmh.out _).mono ?_
  rintro e w2 ⟨rfl, rfl⟩

  obtain ⟨⟨z0, z1, z2, z3⟩, ⟨f0, f1, f2, f3⟩⟩ := cells_four hres
  go_wp2_with fail
  have hw9 : put4 w2 (w.heap.size + 1 + 1) (.int .i64 m) (.slice a n c) (.int .i64 1099511627776) (.int .i64 dropped) = (((w2.setCell ⟨w.heap.size + 1 + 1, 0, none⟩ (.int .i64 m)).setCell ⟨w.heap.size + 1 + 1, 1, none⟩ (.slice a n c)).setCell ⟨w.heap.size + 1 + 1, 2, none⟩ (.int .i64 1099511627776)).setCell ⟨w.heap.size + 1 + 1, 3, none⟩ (.int .i64 dropped) := rfl
  have hg9 := put4_grownBy w2 (w.heap.size + 1 + 1) (.int .i64 m) (.slice a n c) (.int .i64 1099511627776) (.int .i64 dropped)
  have hh9 := put4_block hres (.int .i64 m) (.slice a n c) (.int .i64 1099511627776) (.int .i64 dropped)
  rw [← hw9]
  obtain ⟨w9, hw9e⟩ : ∃ w9, put4 w2 (w.heap.size + 1 + 1) (.int .i64 m) (.slice a n c) (.int .i64 1099511627776) (.int .i64 dropped) = w9 := ⟨_, rfl⟩
  rw [hw9e] at hg9 hh9 ⊢
  obtain ⟨⟨q0, q1, q2, q3⟩, _⟩ := cells_four hh9
  refine bodyPost_ret (v := .tuple #[.agg #[.int .i64 m, .slice a n c, .int .i64 1099511627776, .int .i64 dropped], .bool false, .int .i64 3]) (by simp [results, Try.results12, go_sem, q0, q1, q2, q3]) rfl ?_
  have hX9 := hX.grown hg9 (fun k e => by cases e; omega)
  exact ⟨_, _, _, M, rfl, hb.rd.ext hX9, rfl, hX9⟩

set_option maxRecDepth 100000 in
set_option maxHeartbeats 3200000 in
theorem radd_full (m : Int) (a : Option Addr) (n c : Nat) (came dropped : Int) (M : List Wh) (s : List UInt8) (val tim now : Int) (w : World) (hb : Cw w a n c M) (hs : s.length ≤ 140737488355328) (hn : nmd s = true) (hc : crtC ⟨m, ws M, came, dropped⟩ = true) (hq : ¬ came = 1099511627776) (hf : (cnt (ws M) : Int) = m) :
    Calls Try.prog 12 #[cav m a n c came dropped, .agg #[.string ⟨s.toArray⟩, .int .i64 val, .int .i64 tim], .int .i64 now] w (RaddPost m ((⟨m, ws M, came + 1, dropped + 1⟩, false), 0) w) := by
  obtain ⟨⟨g1, g2, g3, g4, g5, g6, g7, g8⟩, hgood⟩ := (crtC_iff _).1 hc
  dsimp only at g1 g2 g3 g4 g5 g6 g7 g8 hgood
  have hx : Ext w (((w.alloc (.cells #[.int .i64 m, .slice a n c, .int .i64 came, .int .i64 dropped] 24)).alloc (.cells #[.string ⟨s.toArray⟩, .int .i64 val, .int .i64 tim] 26)).alloc (.cells #[.int .i64 0, .slice none 0 0, .int .i64 0, .int .i64 0] 24)) := ((Ext.alloc w _).trans (Ext.alloc _ _)).trans (Ext.alloc _ _)
  obtain ⟨hbox, hsb, hres⟩ := three_blocks (Ext.refl (((w.alloc (.cells #[.int .i64 m, .slice a n c, .int .i64 came, .int .i64 dropped] 24)).alloc (.cells #[.string ⟨s.toArray⟩, .int .i64 val, .int .i64 tim] 26)).alloc (.cells #[.int .i64 0, .slice none 0 0, .int .i64 0, .int .i64 0] 24)))
  have hr := (hb.ext hx).rright (m := m) (came := came) (dropped := dropped)
  obtain ⟨W0, hW0⟩ : ∃ W0, ((w.alloc (.cells #[.int .i64 m, .slice a n c, .int .i64 came, .int .i64 dropped] 24)).alloc (.cells #[.string ⟨s.toArray⟩, .int .i64 val, .int .i64 tim] 26)).alloc (.cells #[.int .i64 0, .slice none 0 0, .int .i64 0, .int .i64 0] 24) = W0 := ⟨_, rfl⟩
  rw [hW0] at hx hbox hsb hres hr
  obtain ⟨⟨y0, y1, y2, y3⟩, _⟩ := cells_four hbox
  obtain ⟨x0, x1, x2⟩ := cells_three hsb
  have hnmh := Lib.hid (fun W => rnamed_calls s W hs)
  rw [hn] at hnmh
  rw [hc] at hr
  have hrh := Lib.hid hr
  have hgoodh := Lib.hid hgood
  have hch := Lib.hid hc
  clear hr hn hc hgood
  unfold cav at *
  go_enter Try.func12, Try.ntmps12
  go_wp2_with fail
  refine hrh.out.mono ?_
  rintro e w1 ⟨rfl, hx1⟩
  clear hW0
  replace hres := (hx1.block _ (lt_of_block hres)).trans hres
  replace hbox := (hx1.block _ (lt_of_block hbox)).trans hbox
  replace hsb := (hx1.block _ (lt_of_block hsb)).trans hsb
  have hX := hx.trans hx1
  clear y0 y1 y2 y3 x0 x1 x2
  obtain ⟨⟨y0, y1, y2, y3⟩, ⟨u0, u1, u2, u3⟩⟩ := cells_four hbox
  obtain ⟨x0, x1, x2⟩ := cells_three hsb
  go_wp2_with fail
  refine (hnmh.out _).mono ?_
  rintro e w2 ⟨rfl, rfl⟩

  have hq1 : (came == 1099511627776) = false := by rw [beq_eq_false_iff_ne]; exact hq
  have hcph := Lib.hid (rcopy_calls m a n c came dropped M w2 (hb.rd.ext hX) (by have := hb.len; omega) (by have := hb.tot; omega))
  unfold cav at hcph
  go_wp2_with fail
  refine hcph.out.mono ?_
  rintro e w3 ⟨a3, c3, M3, rfl, hws3, hown3, hwo3, hx3⟩
  clear hcph
  have hws3h := Lib.hid hws3
  have hown3h := Lib.hid hown3
  have hwo3h := Lib.hid hwo3
  clear hws3 hown3 hwo3
  replace hbox := (hx3.block _ (lt_of_block hbox)).trans hbox
  replace hres := (hx3.block _ (lt_of_block hres)).trans hres
  replace hsb := (hx3.block _ (lt_of_block hsb)).trans hsb
  clear y0 y1 y2 y3 u0 u1 u2 u3 x0 x1 x2
  obtain ⟨⟨y0, y1, y2, y3⟩, ⟨u0, u1, u2, u3⟩⟩ := cells_four hbox
  obtain ⟨x0, x1, x2⟩ := cells_three hsb
  have hX3 := hX.trans hx3
  have hl0 := lt_of_block hbox
  have hl1 := lt_of_block hsb
  have hl2 := lt_of_block hres
  go_upto_region 7 with fail
  have hx34 := Ext.alloc w3 (.cells #[.int .i64 m, .slice a3 n c3, .int .i64 (came + 1), .int .i64 dropped] 24)
  have hv3 := heap_alloc_new w3 (.cells #[.int .i64 m, .slice a3 n c3, .int .i64 (came + 1), .int .i64 dropped] 24)
  obtain ⟨W4, hW4⟩ : ∃ W4, w3.alloc (.cells #[.int .i64 m, .slice a3 n c3, .int .i64 (came + 1), .int .i64 dropped] 24) = W4 := ⟨_, rfl⟩
  rw [hW4] at hx34 hv3 ⊢
  clear hW4
  replace hbox := (hx34.block _ (lt_of_block hbox)).trans hbox
  replace hres := (hx34.block _ (lt_of_block hres)).trans hres
  replace hsb := (hx34.block _ (lt_of_block hsb)).trans hsb
  replace hown3h := Lib.hid (ORow.ext hown3h.out hx34)
  replace hwo3h := Lib.hid (Wo.ext hwo3h.out hx34)
  have hX4 := hX3.trans hx34
  obtain ⟨B, hB⟩ : ∃ B, w3.heap.size = B := ⟨_, rfl⟩
  rw [hB] at hv3 hl0 hl1 hl2 ⊢
  have hBs : w2.heap.size ≤ B := by rw [← hB]; exact hx3.size
  have hBv : Hid (∀ k, (Value.slice a3 n c3).ownBlock = some k → k < W4.heap.size) := fun k hk => (World.ownsRow.lt hown3h.out k hk).2
  clear hB hx34 y0 y1 y2 y3 u0 u1 u2 u3 x0 x1 x2 hx3
  obtain ⟨X, iX, f, hxS0, hSx0⟩ := letters (fun w' => Ext W4 w') W4 (Ext.refl W4)
  have hxS := Lib.hid hxS0
  have hSx := Lib.hid hSx0
  clear hxS0 hSx0
  have y0 : ∀ x, (f x).cell? ⟨w.heap.size, 0, none⟩ = some (.int .i64 m) := fun x => (hxS.out x).cell (cells_four hbox).1.1
  have y1 : ∀ x, (f x).cell? ⟨w.heap.size, 1, none⟩ = some (.slice a n c) := fun x => (hxS.out x).cell (cells_four hbox).1.2.1
  have y2 : ∀ x, (f x).cell? ⟨w.heap.size, 2, none⟩ = some (.int .i64 came) := fun x => (hxS.out x).cell (cells_four hbox).1.2.2.1
  have y3 : ∀ x, (f x).cell? ⟨w.heap.size, 3, none⟩ = some (.int .i64 dropped) := fun x => (hxS.out x).cell (cells_four hbox).1.2.2.2
  have hcount : Hid (∀ x, Calls Try.prog 23 #[.agg #[.int .i64 m, .slice a n c, .int .i64 came, .int .i64 dropped]] (f x) fun e w'' => e = .returned (.int .i64 (cnt (ws M) : Nat)) ∧ ∃ y, w'' = f y) := fun x =>
    (rcount_calls m a n c came dropped M (f x) (hb.rd.ext (hX4.trans (hxS.out x))) (by have := hb.tot; omega)).mono (fun e w'' ⟨he, hx2⟩ => ⟨he, hSx.out w'' ((hxS.out x).trans hx2)⟩)
  have hq7 : ((cnt (ws M) : Int) == m) = true := by simp [hf]
  refine region_class (fun w' => ∃ x : X, w' = f x) (by kernel_rfl) (by kernel_rfl) (hSx.out _ (Ext.drewN W4 1)) ?_
  repeat (go_big_quiet_step ((go_at_call 23; exact (hcount.out _))))
  refine wpQuiet_nil ?_
  rintro _ ⟨x1, rfl⟩
  have hx4 := hxS.out x1
  obtain ⟨w4, hw4⟩ : ∃ w4, f x1 = w4 := ⟨_, rfl⟩
  rw [hw4] at hx4 ⊢
  replace hbox := (hx4.block _ (lt_of_block hbox)).trans hbox
  replace hres := (hx4.block _ (lt_of_block hres)).trans hres
  replace hsb := (hx4.block _ (lt_of_block hsb)).trans hsb
  replace hv3 := (hx4.block _ (lt_of_block hv3)).trans hv3
  replace hown3h := Lib.hid (ORow.ext hown3h.out hx4)
  replace hwo3h := Lib.hid (Wo.ext hwo3h.out hx4)
  replace hX4 := hX4.trans hx4
  replace hBv : Hid (∀ k, (Value.slice a3 n c3).ownBlock = some k → k < w4.heap.size) := fun k hk => Nat.lt_of_lt_of_le (hBv.out k hk) hx4.size
  clear y0 y1 y2 y3 hcount hxS hSx hw4 hx4
  obtain ⟨⟨y0, y1, y2, y3⟩, ⟨u0, u1, u2, u3⟩⟩ := cells_four hbox
  obtain ⟨x0, x1, x2⟩ := cells_three hsb
  obtain ⟨⟨v0, v1, v2, v3⟩, ⟨d0, d1, d2, d3⟩⟩ := cells_four hv3
  obtain ⟨⟨z0, z1, z2, z3⟩, ⟨f0, f1, f2, f3⟩⟩ := cells_four hres
  have hlB := lt_of_block hv3
  have hg5 := put_grownBy w4 B 3 (.int .i64 (dropped + 1))
  have hres5 := (hg5.block _ (lt_of_block hres) (by simp; omega)).trans hres
  have hX5 := hX4.grown hg5 (fun k e => by cases e; omega)
  have hown5 := owns_beside hown3h.out (owns_other hown3h.out hv3 (by decide)) hg5
  have hwo5 := Wo.beside hwo3h.out hv3 (by decide) hg5
  go_wp2_with fail
  have hw9 : put4 (w4.setCell ⟨B, 3, none⟩ (.int .i64 (dropped + 1))) (w.heap.size + 1 + 1) (.int .i64 m) (.slice a3 n c3) (.int .i64 (came + 1)) (.int .i64 (dropped + 1)) = ((((w4.setCell ⟨B, 3, none⟩ (.int .i64 (dropped + 1))).setCell ⟨w.heap.size + 1 + 1, 0, none⟩ (.int .i64 m)).setCell ⟨w.heap.size + 1 + 1, 1, none⟩ (.slice a3 n c3)).setCell ⟨w.heap.size + 1 + 1, 2, none⟩ (.int .i64 (came + 1))).setCell ⟨w.heap.size + 1 + 1, 3, none⟩ (.int .i64 (dropped + 1)) := rfl
  have hg9 := put4_grownBy (w4.setCell ⟨B, 3, none⟩ (.int .i64 (dropped + 1))) (w.heap.size + 1 + 1) (.int .i64 m) (.slice a3 n c3) (.int .i64 (came + 1)) (.int .i64 (dropped + 1))
  have hh9 := put4_block hres5 (.int .i64 m) (.slice a3 n c3) (.int .i64 (came + 1)) (.int .i64 (dropped + 1))
  rw [← hw9]
  obtain ⟨w9, hw9e⟩ : ∃ w9, put4 (w4.setCell ⟨B, 3, none⟩ (.int .i64 (dropped + 1))) (w.heap.size + 1 + 1) (.int .i64 m) (.slice a3 n c3) (.int .i64 (came + 1)) (.int .i64 (dropped + 1)) = w9 := ⟨_, rfl⟩
  rw [hw9e] at hg9 hh9 ⊢
  obtain ⟨⟨q0, q1, q2, q3⟩, _⟩ := cells_four hh9
  refine bodyPost_ret (v := .tuple #[.agg #[.int .i64 m, .slice a3 n c3, .int .i64 (came + 1), .int .i64 (dropped + 1)], .bool false, .int .i64 0]) (by simp [results, Try.results12, go_sem, q0, q1, q2, q3]) rfl ?_
  have hX9 := hX5.grown hg9 (fun k e => by cases e; omega)
  have hown9 := owns_beside hown5 (owns_other hown5 hres5 (by decide)) hg9
  have hwo9 := Wo.beside hwo5 hres5 (by decide) hg9
  exact ⟨_, _, _, M3, rfl, hwo9.ws hown9, hws3h.out, hX9⟩


end Go.Proofs.Ytcbjadmngkednaa

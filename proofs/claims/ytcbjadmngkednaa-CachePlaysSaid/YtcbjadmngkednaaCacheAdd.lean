/-
  Layer 20's contracts: the code's Add.
-/
import Derived.Test.YtcbjadmngkednaaCacheTake
namespace Go.Proofs.Ytcbjadmngkednaa
open Go.RowKit

theorem three_blocks {w W : World} {o1 o2 o3 : Obj} (h : Ext (((w.alloc o1).alloc o2).alloc o3) W) : W.heap[w.heap.size]? = some o1 ∧ W.heap[w.heap.size + 1]? = some o2 ∧ W.heap[w.heap.size + 1 + 1]? = some o3 := by
  obtain ⟨h1, h2⟩ := two_blocks ((Ext.alloc ((w.alloc o1).alloc o2) o3).trans h)
  refine ⟨h1, h2, (h.block _ (by simp)).trans ?_⟩
  have := heap_alloc_new ((w.alloc o1).alloc o2) o3
  simpa using this
theorem cells_three {w : World} {b : Nat} {v0 v1 v2 : Value} {t : TypeId} (h : w.heap[b]? = some (.cells #[v0, v1, v2] t (0, 0))) : w.cell? ⟨b, 0, none⟩ = some v0 ∧ w.cell? ⟨b, 1, none⟩ = some v1 ∧ w.cell? ⟨b, 2, none⟩ = some v2 :=
  ⟨by simp [World.cell?, h], by simp [World.cell?, h], by simp [World.cell?, h]⟩
theorem own_block {α : Type} {enc : α → List Value} {s : Nat} {w : World} {base : Nat} {e : TypeId} {v : Value} {l : List α} (h : ORow enc s w base e v l) (h0 : 0 < l.length) :
    ∃ g cap cur, v = .slice (some ⟨g, 0, none⟩) l.length cap ∧ w.heap[g]? = some (.cells cur e (0, 0)) := by
  rcases h.2 with ⟨_, hn⟩ | ⟨g, cap, cur, hv, _, hg, _⟩
  · omega
  · exact ⟨g, cap, cur, hv, hg⟩
theorem own_cell {α : Type} {enc : α → List Value} {s : Nat} (hs : ∀ x, (enc x).length = s) {w : World} {base : Nat} {e : TypeId} {g n c : Nat} {l : List α} (h : ORow enc s w base e (.slice (some ⟨g, 0, none⟩) n c) l) (i : Nat) (hi : i < l.length) (j : Nat) (v : Value) (hv : (enc l[i])[j]? = some v) :
    w.cell? ⟨g, i * s + j, none⟩ = some v := by
  have hj : j < s := by have := (List.getElem?_eq_some_iff.1 hv).1; rwa [hs] at this
  rw [← rcells_at enc s hs l i hi j hj] at hv
  have := World.ownsRow.cells (g := g) h rfl (i * s + j) v hv
  rwa [add_at, Nat.zero_add] at this
theorem rcells_set {α : Type} (enc : α → List Value) (s : Nat) (hs : ∀ x, (enc x).length = s) : ∀ (l : List α) (i : Nat) (hi : i < l.length) (j : Nat) (v : Value) (x : α), j < s → enc x = (enc l[i]).set j v → (rcells enc l).set (i * s + j) v = rcells enc (l.set i x)
  | y :: l, 0, _, j, v, x, hj, hx => by
    rw [rcells_cons, Nat.zero_mul, Nat.zero_add, List.set_append_left _ _ (by rw [hs]; exact hj), List.set_cons_zero, rcells_cons, hx]; rfl
  | y :: l, i + 1, hi, j, v, x, hj, hx => by
    have ih := rcells_set enc s hs l i (by simpa using hi) j v x hj hx
    rw [rcells_cons, List.set_append_right _ _ (by rw [hs, Nat.succ_mul]; omega), hs, show (i + 1) * s + j - s = i * s + j by rw [Nat.succ_mul]; omega, ih, List.set_cons_succ, rcells_cons]
theorem ws_found {s : List UInt8} {M : List Wh} {i : Nat} (hr : ((ws M).map (·.1)).Pairwise fun a b => bl a b = true) (hst : Stands s (ws M) i) (hi : i < M.length) {sp : List UInt8} {pts : List Ar} {q : Option Addr × Nat × Nat} (hM : M[i] = ((sp, pts), q)) (hs : sp = s) (p : Ar) (y : Option Addr × Nat × Nat) :
    ws (M.set i ((s, pts ++ [p]), y)) = addW s p (ws M) := by
  have hiW : i < (ws M).length := by unfold ws; rw [List.length_map]; exact hi
  have hw : (ws M)[i] = (sp, pts) := by unfold ws; rw [List.getElem_map, hM]
  obtain ⟨_, _, f3⟩ := stands_found s p _ i hr hst hiW (by rw [hw]; exact hs)
  rw [f3, hw]
  unfold ws
  rw [List.map_set]
theorem ws_not {s : List UInt8} {M : List Wh} {i : Nat} (hr : ((ws M).map (·.1)).Pairwise fun a b => bl a b = true) (hst : Stands s (ws M) i) (hno : ¬ ∃ h : i < (ws M).length, (ws M)[i].1 = s) (p : Ar) (y : Option Addr × Nat × Nat) (x0 : Wh) :
    ws ((M.take i ++ x0 :: M.drop i).set i ((s, [p]), y)) = addW s p (ws M) := by
  obtain ⟨_, _, f3⟩ := stands_not s p _ i hr hst hno
  have hl : (M.take i).length = i := by
    have := hst.1
    unfold ws at this
    rw [List.length_map] at this
    rw [List.length_take]; omega
  rw [f3]
  unfold ws
  rw [List.set_append_right _ _ (by omega), hl, Nat.sub_self, List.set_cons_zero, List.map_append, List.map_cons, List.map_take, List.map_drop]
def AddPost (m : Int) (a : Option Addr) (M : List Wh) (R : (Ca × Bool) × Int) (w : World) (e : Ending) (w' : World) : Prop :=
  ∃ a2 n2 c2 M2, e = .returned (.tuple #[cav m a2 n2 c2 R.1.1.came R.1.1.dropped, .bool R.1.2, .int .i64 R.2]) ∧ Ws w' a2 n2 c2 M2 ∧ ws M2 = R.1.1.waits ∧ (∀ B, B < w.heap.size → Av B a M → Av B a2 M2) ∧ Ext w w'

set_option maxRecDepth 100000 in
set_option maxHeartbeats 1600000 in
theorem add_no (m : Int) (a : Option Addr) (n c : Nat) (came dropped : Int) (M : List Wh) (s : List UInt8) (val tim now : Int) (w : World) (hb : Cw w a n c M) (hs : s.length ≤ 140737488355328) (hno : nmd s = false ∨ crtC ⟨m, ws M, came, dropped⟩ = false) :
    Calls Try.prog 11 #[cav m a n c came dropped, .agg #[.string ⟨s.toArray⟩, .int .i64 val, .int .i64 tim], .int .i64 now] w (AddPost m a M ((⟨m, ws M, came, dropped⟩, false), 1) w) := by
  have hx : Ext w (((w.alloc (.cells #[.int .i64 m, .slice a n c, .int .i64 came, .int .i64 dropped] 24)).alloc (.cells #[.string ⟨s.toArray⟩, .int .i64 val, .int .i64 tim] 26)).alloc (.cells #[.int .i64 0, .slice none 0 0, .int .i64 0, .int .i64 0] 24)) := ((Ext.alloc w _).trans (Ext.alloc _ _)).trans (Ext.alloc _ _)
  obtain ⟨hbox, hsb, hres⟩ := three_blocks (Ext.refl (((w.alloc (.cells #[.int .i64 m, .slice a n c, .int .i64 came, .int .i64 dropped] 24)).alloc (.cells #[.string ⟨s.toArray⟩, .int .i64 val, .int .i64 tim] 26)).alloc (.cells #[.int .i64 0, .slice none 0 0, .int .i64 0, .int .i64 0] 24)))
  have hnm := named_calls s (((w.alloc (.cells #[.int .i64 m, .slice a n c, .int .i64 came, .int .i64 dropped] 24)).alloc (.cells #[.string ⟨s.toArray⟩, .int .i64 val, .int .i64 tim] 26)).alloc (.cells #[.int .i64 0, .slice none 0 0, .int .i64 0, .int .i64 0] 24)) hs
  have hr := (hb.ext hx).right (m := m) (came := came) (dropped := dropped)
  obtain ⟨W0, hW0⟩ : ∃ W0, ((w.alloc (.cells #[.int .i64 m, .slice a n c, .int .i64 came, .int .i64 dropped] 24)).alloc (.cells #[.string ⟨s.toArray⟩, .int .i64 val, .int .i64 tim] 26)).alloc (.cells #[.int .i64 0, .slice none 0 0, .int .i64 0, .int .i64 0] 24) = W0 := ⟨_, rfl⟩
  rw [hW0] at hx hbox hsb hres hnm hr
  have hrh := Lib.hid hr
  clear hr
  obtain ⟨⟨y0, y1, y2, y3⟩, _⟩ := cells_four hbox
  obtain ⟨⟨z0, z1, z2, z3⟩, ⟨f0, f1, f2, f3⟩⟩ := cells_four hres
  obtain ⟨x0, x1, x2⟩ := cells_three hsb
  unfold cav at *
  by_cases hn : nmd s = false
  · rw [hn] at hnm
    have hnmh := Lib.hid hnm
    clear hnm hno hn hrh
    go_enter Try.func11, Try.ntmps11
    go_wp2_with fail
    refine hnmh.out.mono ?_
    rintro e w1 ⟨rfl, rfl⟩
    clear hW0
    go_wp2_with fail
    have hw9 : put4 w1 (w.heap.size + 1 + 1) (.int .i64 m) (.slice a n c) (.int .i64 came) (.int .i64 dropped) = (((w1.setCell ⟨w.heap.size + 1 + 1, 0, none⟩ (.int .i64 m)).setCell ⟨w.heap.size + 1 + 1, 1, none⟩ (.slice a n c)).setCell ⟨w.heap.size + 1 + 1, 2, none⟩ (.int .i64 came)).setCell ⟨w.heap.size + 1 + 1, 3, none⟩ (.int .i64 dropped) := rfl
    have hg9 := put4_grownBy w1 (w.heap.size + 1 + 1) (.int .i64 m) (.slice a n c) (.int .i64 came) (.int .i64 dropped)
    have hh9 := put4_block hres (.int .i64 m) (.slice a n c) (.int .i64 came) (.int .i64 dropped)
    rw [← hw9]
    obtain ⟨w9, hw9e⟩ : ∃ w9, put4 w1 (w.heap.size + 1 + 1) (.int .i64 m) (.slice a n c) (.int .i64 came) (.int .i64 dropped) = w9 := ⟨_, rfl⟩
    rw [hw9e] at hg9 hh9 ⊢
    obtain ⟨⟨q0, q1, q2, q3⟩, _⟩ := cells_four hh9
    refine bodyPost_ret (v := .tuple #[.agg #[.int .i64 m, .slice a n c, .int .i64 came, .int .i64 dropped], .bool false, .int .i64 1]) (by simp [results, Try.results11, go_sem, q0, q1, q2, q3]) rfl ?_
    have hX9 := hx.grown hg9 (fun k e => by cases e; omega)
    exact ⟨_, _, _, M, rfl, hb.rd.ext hX9, rfl, fun _ _ h => h, hX9⟩
  · have hn1 : nmd s = true := by simpa using hn
    have hc1 : crtC ⟨m, ws M, came, dropped⟩ = false := hno.resolve_left hn
    rw [hn1] at hnm
    have hrh2 := hrh.out
    rw [hc1] at hrh2
    have hrh3 := Lib.hid hrh2
    have hnmh := Lib.hid hnm
    clear hnm hno hn hrh hn1 hrh2 hc1
    go_enter Try.func11, Try.ntmps11
    go_wp2_with fail
    refine hnmh.out.mono ?_
    rintro e w1 ⟨rfl, rfl⟩
    clear hW0
    go_wp2_with fail
    refine hrh3.out.mono ?_
    rintro e w2 ⟨rfl, hx2⟩
    replace hres := (hx2.block _ (lt_of_block hres)).trans hres
    replace hbox := (hx2.block _ (lt_of_block hbox)).trans hbox
    obtain ⟨⟨y0, y1, y2, y3⟩, _⟩ := cells_four hbox
    obtain ⟨⟨z0, z1, z2, z3⟩, ⟨f0, f1, f2, f3⟩⟩ := cells_four hres
    have hX := hx.trans hx2
    go_wp2_with fail
    have hw9 : put4 w2 (w.heap.size + 1 + 1) (.int .i64 m) (.slice a n c) (.int .i64 came) (.int .i64 dropped) = (((w2.setCell ⟨w.heap.size + 1 + 1, 0, none⟩ (.int .i64 m)).setCell ⟨w.heap.size + 1 + 1, 1, none⟩ (.slice a n c)).setCell ⟨w.heap.size + 1 + 1, 2, none⟩ (.int .i64 came)).setCell ⟨w.heap.size + 1 + 1, 3, none⟩ (.int .i64 dropped) := rfl
    have hg9 := put4_grownBy w2 (w.heap.size + 1 + 1) (.int .i64 m) (.slice a n c) (.int .i64 came) (.int .i64 dropped)
    have hh9 := put4_block hres (.int .i64 m) (.slice a n c) (.int .i64 came) (.int .i64 dropped)
    rw [← hw9]
    obtain ⟨w9, hw9e⟩ : ∃ w9, put4 w2 (w.heap.size + 1 + 1) (.int .i64 m) (.slice a n c) (.int .i64 came) (.int .i64 dropped) = w9 := ⟨_, rfl⟩
    rw [hw9e] at hg9 hh9 ⊢
    obtain ⟨⟨q0, q1, q2, q3⟩, _⟩ := cells_four hh9
    refine bodyPost_ret (v := .tuple #[.agg #[.int .i64 m, .slice a n c, .int .i64 came, .int .i64 dropped], .bool false, .int .i64 1]) (by simp [results, Try.results11, go_sem, q0, q1, q2, q3]) rfl ?_
    have hX9 := hX.grown hg9 (fun k e => by cases e; omega)
    exact ⟨_, _, _, M, rfl, hb.rd.ext hX9, rfl, fun _ _ h => h, hX9⟩

set_option maxRecDepth 100000 in
set_option maxHeartbeats 1600000 in
theorem add_range (m : Int) (a : Option Addr) (n c : Nat) (came dropped : Int) (M : List Wh) (s : List UInt8) (val tim now : Int) (w : World) (hb : Cw w a n c M) (hs : s.length ≤ 140737488355328) (hn : nmd s = true) (hc : crtC ⟨m, ws M, came, dropped⟩ = true) (hq : came = 1099511627776) :
    Calls Try.prog 11 #[cav m a n c came dropped, .agg #[.string ⟨s.toArray⟩, .int .i64 val, .int .i64 tim], .int .i64 now] w (AddPost m a M ((⟨m, ws M, came, dropped⟩, false), 3) w) := by
  subst hq
  obtain ⟨⟨g1, g2, g3, g4, g5, g6, g7, g8⟩, hgood⟩ := (crtC_iff _).1 hc
  dsimp only at g1 g2 g3 g4 g5 g6 g7 g8 hgood
  have hlen := Lib.hid hb.rd.len
  have hx : Ext w (((w.alloc (.cells #[.int .i64 m, .slice a n c, .int .i64 1099511627776, .int .i64 dropped] 24)).alloc (.cells #[.string ⟨s.toArray⟩, .int .i64 val, .int .i64 tim] 26)).alloc (.cells #[.int .i64 0, .slice none 0 0, .int .i64 0, .int .i64 0] 24)) := ((Ext.alloc w _).trans (Ext.alloc _ _)).trans (Ext.alloc _ _)
  obtain ⟨hbox, hsb, hres⟩ := three_blocks (Ext.refl (((w.alloc (.cells #[.int .i64 m, .slice a n c, .int .i64 1099511627776, .int .i64 dropped] 24)).alloc (.cells #[.string ⟨s.toArray⟩, .int .i64 val, .int .i64 tim] 26)).alloc (.cells #[.int .i64 0, .slice none 0 0, .int .i64 0, .int .i64 0] 24)))
  have hnm := named_calls s (((w.alloc (.cells #[.int .i64 m, .slice a n c, .int .i64 1099511627776, .int .i64 dropped] 24)).alloc (.cells #[.string ⟨s.toArray⟩, .int .i64 val, .int .i64 tim] 26)).alloc (.cells #[.int .i64 0, .slice none 0 0, .int .i64 0, .int .i64 0] 24)) hs
  have hr := (hb.ext hx).right (m := m) (came := 1099511627776) (dropped := dropped)
  rw [hn] at hnm
  rw [hc] at hr
  obtain ⟨W0, hW0⟩ : ∃ W0, ((w.alloc (.cells #[.int .i64 m, .slice a n c, .int .i64 1099511627776, .int .i64 dropped] 24)).alloc (.cells #[.string ⟨s.toArray⟩, .int .i64 val, .int .i64 tim] 26)).alloc (.cells #[.int .i64 0, .slice none 0 0, .int .i64 0, .int .i64 0] 24) = W0 := ⟨_, rfl⟩
  rw [hW0] at hx hbox hsb hres hnm hr
  have hrh := Lib.hid hr
  have hnmh := Lib.hid hnm
  have hgoodh := Lib.hid hgood
  have hch := Lib.hid hc
  clear hr hnm hn hc hgood
  obtain ⟨⟨y0, y1, y2, y3⟩, _⟩ := cells_four hbox
  obtain ⟨x0, x1, x2⟩ := cells_three hsb
  unfold cav at *
  go_enter Try.func11, Try.ntmps11
  go_wp2_with fail
  refine hnmh.out.mono ?_
  rintro e w1 ⟨rfl, rfl⟩
  clear hW0
  go_wp2_with fail
  refine hrh.out.mono ?_
  rintro e w2 ⟨rfl, hx2⟩
  replace hres := (hx2.block _ (lt_of_block hres)).trans hres
  replace hbox := (hx2.block _ (lt_of_block hbox)).trans hbox
  replace hsb := (hx2.block _ (lt_of_block hsb)).trans hsb
  have hX := hx.trans hx2
  clear y0 y1 y2 y3 x0 x1 x2
  obtain ⟨⟨y0, y1, y2, y3⟩, ⟨u0, u1, u2, u3⟩⟩ := cells_four hbox
  obtain ⟨x0, x1, x2⟩ := cells_three hsb

  obtain ⟨⟨z0, z1, z2, z3⟩, ⟨f0, f1, f2, f3⟩⟩ := cells_four hres
  go_wp2_with fail
  have hw9 : put4 w2 (w.heap.size + 1 + 1) (.int .i64 m) (.slice a n c) (.int .i64 1099511627776) (.int .i64 dropped) = (((w2.setCell ⟨w.heap.size + 1 + 1, 0, none⟩ (.int .i64 m)).setCell ⟨w.heap.size + 1 + 1, 1, none⟩ (.slice a n c)).setCell ⟨w.heap.size + 1 + 1, 2, none⟩ (.int .i64 1099511627776)).setCell ⟨w.heap.size + 1 + 1, 3, none⟩ (.int .i64 dropped) := rfl
  have hg9 := put4_grownBy w2 (w.heap.size + 1 + 1) (.int .i64 m) (.slice a n c) (.int .i64 1099511627776) (.int .i64 dropped)
  have hh9 := put4_block hres (.int .i64 m) (.slice a n c) (.int .i64 1099511627776) (.int .i64 dropped)
  rw [← hw9]
  obtain ⟨w9, hw9e⟩ : ∃ w9, put4 w2 (w.heap.size + 1 + 1) (.int .i64 m) (.slice a n c) (.int .i64 1099511627776) (.int .i64 dropped) = w9 := ⟨_, rfl⟩
  rw [hw9e] at hg9 hh9 ⊢
  obtain ⟨⟨q0, q1, q2, q3⟩, _⟩ := cells_four hh9
  refine bodyPost_ret (v := .tuple #[.agg #[.int .i64 m, .slice a n c, .int .i64 1099511627776, .int .i64 dropped], .bool false, .int .i64 3]) (by simp [results, Try.results11, go_sem, q0, q1, q2, q3]) rfl ?_
  have hX9 := hX.grown hg9 (fun k e => by cases e; omega)
  exact ⟨_, _, _, M, rfl, hb.rd.ext hX9, rfl, fun _ _ h => h, hX9⟩

set_option maxRecDepth 100000 in
set_option maxHeartbeats 1600000 in
theorem add_full (m : Int) (a : Option Addr) (n c : Nat) (came dropped : Int) (M : List Wh) (s : List UInt8) (val tim now : Int) (w : World) (hb : Cw w a n c M) (hs : s.length ≤ 140737488355328) (hn : nmd s = true) (hc : crtC ⟨m, ws M, came, dropped⟩ = true) (hq : ¬ came = 1099511627776) (hf : (cnt (ws M) : Int) = m) :
    Calls Try.prog 11 #[cav m a n c came dropped, .agg #[.string ⟨s.toArray⟩, .int .i64 val, .int .i64 tim], .int .i64 now] w (AddPost m a M ((⟨m, ws M, came + 1, dropped + 1⟩, false), 0) w) := by
  obtain ⟨⟨g1, g2, g3, g4, g5, g6, g7, g8⟩, hgood⟩ := (crtC_iff _).1 hc
  dsimp only at g1 g2 g3 g4 g5 g6 g7 g8 hgood
  have hlen := Lib.hid hb.rd.len
  have hx : Ext w (((w.alloc (.cells #[.int .i64 m, .slice a n c, .int .i64 came, .int .i64 dropped] 24)).alloc (.cells #[.string ⟨s.toArray⟩, .int .i64 val, .int .i64 tim] 26)).alloc (.cells #[.int .i64 0, .slice none 0 0, .int .i64 0, .int .i64 0] 24)) := ((Ext.alloc w _).trans (Ext.alloc _ _)).trans (Ext.alloc _ _)
  obtain ⟨hbox, hsb, hres⟩ := three_blocks (Ext.refl (((w.alloc (.cells #[.int .i64 m, .slice a n c, .int .i64 came, .int .i64 dropped] 24)).alloc (.cells #[.string ⟨s.toArray⟩, .int .i64 val, .int .i64 tim] 26)).alloc (.cells #[.int .i64 0, .slice none 0 0, .int .i64 0, .int .i64 0] 24)))
  have hnm := named_calls s (((w.alloc (.cells #[.int .i64 m, .slice a n c, .int .i64 came, .int .i64 dropped] 24)).alloc (.cells #[.string ⟨s.toArray⟩, .int .i64 val, .int .i64 tim] 26)).alloc (.cells #[.int .i64 0, .slice none 0 0, .int .i64 0, .int .i64 0] 24)) hs
  have hr := (hb.ext hx).right (m := m) (came := came) (dropped := dropped)
  rw [hn] at hnm
  rw [hc] at hr
  obtain ⟨W0, hW0⟩ : ∃ W0, ((w.alloc (.cells #[.int .i64 m, .slice a n c, .int .i64 came, .int .i64 dropped] 24)).alloc (.cells #[.string ⟨s.toArray⟩, .int .i64 val, .int .i64 tim] 26)).alloc (.cells #[.int .i64 0, .slice none 0 0, .int .i64 0, .int .i64 0] 24) = W0 := ⟨_, rfl⟩
  rw [hW0] at hx hbox hsb hres hnm hr
  have hrh := Lib.hid hr
  have hnmh := Lib.hid hnm
  have hgoodh := Lib.hid hgood
  have hch := Lib.hid hc
  clear hr hnm hn hc hgood
  obtain ⟨⟨y0, y1, y2, y3⟩, _⟩ := cells_four hbox
  obtain ⟨x0, x1, x2⟩ := cells_three hsb
  unfold cav at *
  go_enter Try.func11, Try.ntmps11
  go_wp2_with fail
  refine hnmh.out.mono ?_
  rintro e w1 ⟨rfl, rfl⟩
  clear hW0
  go_wp2_with fail
  refine hrh.out.mono ?_
  rintro e w2 ⟨rfl, hx2⟩
  replace hres := (hx2.block _ (lt_of_block hres)).trans hres
  replace hbox := (hx2.block _ (lt_of_block hbox)).trans hbox
  replace hsb := (hx2.block _ (lt_of_block hsb)).trans hsb
  have hX := hx.trans hx2
  clear y0 y1 y2 y3 x0 x1 x2
  obtain ⟨⟨y0, y1, y2, y3⟩, ⟨u0, u1, u2, u3⟩⟩ := cells_four hbox
  obtain ⟨x0, x1, x2⟩ := cells_three hsb

  have hl0 := lt_of_block hbox
  have hl1 := lt_of_block hsb
  have hl2 := lt_of_block hres
  have hq1 : (came == 1099511627776) = false := by rw [beq_eq_false_iff_ne]; exact hq
  go_upto_region 7 with fail
  have hgs := put_grownBy w2 w.heap.size 2 (.int .i64 (came + 1))
  have hb3 := at_setCell hbox 2 (.int .i64 (came + 1))
  have hr3 := (hgs.block _ hl2 (by simp; omega)).trans hres
  have hs3 := (hgs.block _ hl1 (by simp)).trans hsb
  have hX3 := hX.grown hgs (fun k e => by cases e; exact Nat.le_refl _)
  have hz3 : (w2.setCell ⟨w.heap.size, 2, none⟩ (.int .i64 (came + 1))).heap.size = w2.heap.size := by simp [World.setCell]
  obtain ⟨w3, hw3⟩ : ∃ w3, (w2.setCell ⟨w.heap.size, 2, none⟩ (.int .i64 (came + 1))).alloc (.cells #[.int .i64 tim, .int .i64 val, .int .i64 now, .int .i64 came] 50) = w3 := ⟨_, rfl⟩
  have hx34 : Ext (w2.setCell ⟨w.heap.size, 2, none⟩ (.int .i64 (came + 1))) w3 := by rw [← hw3]; exact Ext.alloc _ _
  have hp3 : w3.heap[w2.heap.size]? = some (.cells #[.int .i64 tim, .int .i64 val, .int .i64 now, .int .i64 came] 50) := by rw [← hw3, ← hz3]; exact heap_alloc_new _ _
  replace hb3 := (hx34.block _ (lt_of_block hb3)).trans hb3
  replace hr3 := (hx34.block _ (lt_of_block hr3)).trans hr3
  replace hs3 := (hx34.block _ (lt_of_block hs3)).trans hs3
  replace hX3 := hX3.trans hx34
  replace hb3 : w3.heap[w.heap.size]? = some (.cells #[.int .i64 m, .slice a n c, .int .i64 (came + 1), .int .i64 dropped] 24 (0, 0)) := by simpa using hb3
  rw [hw3]
  have hl3 := lt_of_block hp3
  clear hw3 hx34 hz3 hgs hbox hres hsb y0 y1 y2 y3 u0 u1 u2 u3 x0 x1 x2 hx2 hX
  obtain ⟨X, iX, f, hxS0, hSx0⟩ := letters (fun w' => Ext w3 w') w3 (Ext.refl w3)
  have hxS := Lib.hid hxS0
  have hSx := Lib.hid hSx0
  clear hxS0 hSx0
  have y0 : ∀ x, (f x).cell? ⟨w.heap.size, 0, none⟩ = some (.int .i64 m) := fun x => (hxS.out x).cell (cells_four hb3).1.1
  have y1 : ∀ x, (f x).cell? ⟨w.heap.size, 1, none⟩ = some (.slice a n c) := fun x => (hxS.out x).cell (cells_four hb3).1.2.1
  have y2 : ∀ x, (f x).cell? ⟨w.heap.size, 2, none⟩ = some (.int .i64 (came + 1)) := fun x => (hxS.out x).cell (cells_four hb3).1.2.2.1
  have y3 : ∀ x, (f x).cell? ⟨w.heap.size, 3, none⟩ = some (.int .i64 dropped) := fun x => (hxS.out x).cell (cells_four hb3).1.2.2.2
  have hcount : Hid (∀ x, Calls Try.prog 28 #[.agg #[.int .i64 m, .slice a n c, .int .i64 (came + 1), .int .i64 dropped]] (f x) fun e w'' => e = .returned (.int .i64 (cnt (ws M) : Nat)) ∧ ∃ y, w'' = f y) := fun x =>
    (total_calls m a n c (came + 1) dropped M (f x) (hb.rd.ext (hX3.trans (hxS.out x))) (by have := hb.tot; omega)).mono (fun e w'' ⟨he, hx2⟩ => ⟨he, hSx.out w'' ((hxS.out x).trans hx2)⟩)
  have hq7 : ((cnt (ws M) : Int) == m) = true := by simp [hf]
  refine region_class (fun w' => ∃ x : X, w' = f x) (by kernel_rfl) (by kernel_rfl) (hSx.out _ (Ext.drewN w3 1)) ?_
  repeat (go_big_quiet_step ((go_at_call 28; exact (hcount.out _))))
  refine wpQuiet_nil ?_
  rintro _ ⟨x1, rfl⟩
  have hx4 := hxS.out x1
  obtain ⟨w4, hw4⟩ : ∃ w4, f x1 = w4 := ⟨_, rfl⟩
  rw [hw4] at hx4 ⊢
  replace hb3 := (hx4.block _ (lt_of_block hb3)).trans hb3
  replace hr3 := (hx4.block _ (lt_of_block hr3)).trans hr3
  replace hs3 := (hx4.block _ (lt_of_block hs3)).trans hs3
  replace hp3 := (hx4.block _ (lt_of_block hp3)).trans hp3
  have hX4 := hX3.trans hx4
  clear y0 y1 y2 y3 hcount hxS hSx hw4
  obtain ⟨⟨y0, y1, y2, y3⟩, ⟨u0, u1, u2, u3⟩⟩ := cells_four hb3
  obtain ⟨x0, x1, x2⟩ := cells_three hs3
  obtain ⟨⟨z0, z1, z2, z3⟩, ⟨f0, f1, f2, f3⟩⟩ := cells_four hr3
  have hg5 := put_grownBy w4 w.heap.size 3 (.int .i64 (dropped + 1))
  have hres := (hg5.block _ (lt_of_block hr3) (by simp; omega)).trans hr3
  have hX5 := hX4.grown hg5 (fun k e => by cases e; exact Nat.le_refl _)
  go_wp2_with fail
  have hw9 : put4 (w4.setCell ⟨w.heap.size, 3, none⟩ (.int .i64 (dropped + 1))) (w.heap.size + 1 + 1) (.int .i64 m) (.slice a n c) (.int .i64 (came + 1)) (.int .i64 (dropped + 1)) = ((((w4.setCell ⟨w.heap.size, 3, none⟩ (.int .i64 (dropped + 1))).setCell ⟨w.heap.size + 1 + 1, 0, none⟩ (.int .i64 m)).setCell ⟨w.heap.size + 1 + 1, 1, none⟩ (.slice a n c)).setCell ⟨w.heap.size + 1 + 1, 2, none⟩ (.int .i64 (came + 1))).setCell ⟨w.heap.size + 1 + 1, 3, none⟩ (.int .i64 (dropped + 1)) := rfl
  have hg9 := put4_grownBy (w4.setCell ⟨w.heap.size, 3, none⟩ (.int .i64 (dropped + 1))) (w.heap.size + 1 + 1) (.int .i64 m) (.slice a n c) (.int .i64 (came + 1)) (.int .i64 (dropped + 1))
  have hh9 := put4_block hres (.int .i64 m) (.slice a n c) (.int .i64 (came + 1)) (.int .i64 (dropped + 1))
  rw [← hw9]
  obtain ⟨w9, hw9e⟩ : ∃ w9, put4 (w4.setCell ⟨w.heap.size, 3, none⟩ (.int .i64 (dropped + 1))) (w.heap.size + 1 + 1) (.int .i64 m) (.slice a n c) (.int .i64 (came + 1)) (.int .i64 (dropped + 1)) = w9 := ⟨_, rfl⟩
  rw [hw9e] at hg9 hh9 ⊢
  obtain ⟨⟨q0, q1, q2, q3⟩, _⟩ := cells_four hh9
  refine bodyPost_ret (v := .tuple #[.agg #[.int .i64 m, .slice a n c, .int .i64 (came + 1), .int .i64 (dropped + 1)], .bool false, .int .i64 0]) (by simp [results, Try.results11, go_sem, q0, q1, q2, q3]) rfl ?_
  have hX9 := hX5.grown hg9 (fun k e => by cases e; omega)
  exact ⟨_, _, _, M, rfl, hb.rd.ext hX9, rfl, fun _ _ h => h, hX9⟩

set_option maxRecDepth 100000 in
set_option maxHeartbeats 3200000 in
theorem add_kept (m : Int) (a : Option Addr) (n c : Nat) (came dropped : Int) (M : List Wh) (s : List UInt8) (val tim now : Int) (w : World) (hb : Cw w a n c M) (hs : s.length ≤ 140737488355328) (hn : nmd s = true) (hc : crtC ⟨m, ws M, came, dropped⟩ = true) (hq : ¬ came = 1099511627776) (hf : ¬ (cnt (ws M) : Int) = m) :
    Calls Try.prog 11 #[cav m a n c came dropped, .agg #[.string ⟨s.toArray⟩, .int .i64 val, .int .i64 tim], .int .i64 now] w (AddPost m a M ((⟨m, addW s ⟨tim, val, now, came⟩ (ws M), came + 1, dropped⟩, true), 0) w) := by
  obtain ⟨⟨g1, g2, g3, g4, g5, g6, g7, g8⟩, hgood⟩ := (crtC_iff _).1 hc
  dsimp only at g1 g2 g3 g4 g5 g6 g7 g8 hgood
  have hlen := Lib.hid hb.rd.len
  have hx : Ext w (((w.alloc (.cells #[.int .i64 m, .slice a n c, .int .i64 came, .int .i64 dropped] 24)).alloc (.cells #[.string ⟨s.toArray⟩, .int .i64 val, .int .i64 tim] 26)).alloc (.cells #[.int .i64 0, .slice none 0 0, .int .i64 0, .int .i64 0] 24)) := ((Ext.alloc w _).trans (Ext.alloc _ _)).trans (Ext.alloc _ _)
  obtain ⟨hbox, hsb, hres⟩ := three_blocks (Ext.refl (((w.alloc (.cells #[.int .i64 m, .slice a n c, .int .i64 came, .int .i64 dropped] 24)).alloc (.cells #[.string ⟨s.toArray⟩, .int .i64 val, .int .i64 tim] 26)).alloc (.cells #[.int .i64 0, .slice none 0 0, .int .i64 0, .int .i64 0] 24)))
  have hnm := named_calls s (((w.alloc (.cells #[.int .i64 m, .slice a n c, .int .i64 came, .int .i64 dropped] 24)).alloc (.cells #[.string ⟨s.toArray⟩, .int .i64 val, .int .i64 tim] 26)).alloc (.cells #[.int .i64 0, .slice none 0 0, .int .i64 0, .int .i64 0] 24)) hs
  have hr := (hb.ext hx).right (m := m) (came := came) (dropped := dropped)
  rw [hn] at hnm
  rw [hc] at hr
  obtain ⟨W0, hW0⟩ : ∃ W0, ((w.alloc (.cells #[.int .i64 m, .slice a n c, .int .i64 came, .int .i64 dropped] 24)).alloc (.cells #[.string ⟨s.toArray⟩, .int .i64 val, .int .i64 tim] 26)).alloc (.cells #[.int .i64 0, .slice none 0 0, .int .i64 0, .int .i64 0] 24) = W0 := ⟨_, rfl⟩
  rw [hW0] at hx hbox hsb hres hnm hr
  have hrh := Lib.hid hr
  have hnmh := Lib.hid hnm
  have hgoodh := Lib.hid hgood
  have hch := Lib.hid hc
  clear hr hnm hn hc hgood
  obtain ⟨⟨y0, y1, y2, y3⟩, _⟩ := cells_four hbox
  obtain ⟨x0, x1, x2⟩ := cells_three hsb
  unfold cav at *
  go_enter Try.func11, Try.ntmps11
  go_wp2_with fail
  refine hnmh.out.mono ?_
  rintro e w1 ⟨rfl, rfl⟩
  clear hW0
  go_wp2_with fail
  refine hrh.out.mono ?_
  rintro e w2 ⟨rfl, hx2⟩
  replace hres := (hx2.block _ (lt_of_block hres)).trans hres
  replace hbox := (hx2.block _ (lt_of_block hbox)).trans hbox
  replace hsb := (hx2.block _ (lt_of_block hsb)).trans hsb
  have hX := hx.trans hx2
  clear y0 y1 y2 y3 x0 x1 x2
  obtain ⟨⟨y0, y1, y2, y3⟩, ⟨u0, u1, u2, u3⟩⟩ := cells_four hbox
  obtain ⟨x0, x1, x2⟩ := cells_three hsb

  have hl0 := lt_of_block hbox
  have hl1 := lt_of_block hsb
  have hl2 := lt_of_block hres
  have hq1 : (came == 1099511627776) = false := by rw [beq_eq_false_iff_ne]; exact hq
  go_upto_region 7 with fail
  have hgs := put_grownBy w2 w.heap.size 2 (.int .i64 (came + 1))
  have hb3 := at_setCell hbox 2 (.int .i64 (came + 1))
  have hr3 := (hgs.block _ hl2 (by simp; omega)).trans hres
  have hs3 := (hgs.block _ hl1 (by simp)).trans hsb
  have hX3 := hX.grown hgs (fun k e => by cases e; exact Nat.le_refl _)
  have hz3 : (w2.setCell ⟨w.heap.size, 2, none⟩ (.int .i64 (came + 1))).heap.size = w2.heap.size := by simp [World.setCell]
  obtain ⟨w3, hw3⟩ : ∃ w3, (w2.setCell ⟨w.heap.size, 2, none⟩ (.int .i64 (came + 1))).alloc (.cells #[.int .i64 tim, .int .i64 val, .int .i64 now, .int .i64 came] 50) = w3 := ⟨_, rfl⟩
  have hx34 : Ext (w2.setCell ⟨w.heap.size, 2, none⟩ (.int .i64 (came + 1))) w3 := by rw [← hw3]; exact Ext.alloc _ _
  have hp3 : w3.heap[w2.heap.size]? = some (.cells #[.int .i64 tim, .int .i64 val, .int .i64 now, .int .i64 came] 50) := by rw [← hw3, ← hz3]; exact heap_alloc_new _ _
  replace hb3 := (hx34.block _ (lt_of_block hb3)).trans hb3
  replace hr3 := (hx34.block _ (lt_of_block hr3)).trans hr3
  replace hs3 := (hx34.block _ (lt_of_block hs3)).trans hs3
  replace hX3 := hX3.trans hx34
  replace hb3 : w3.heap[w.heap.size]? = some (.cells #[.int .i64 m, .slice a n c, .int .i64 (came + 1), .int .i64 dropped] 24 (0, 0)) := by simpa using hb3
  rw [hw3]
  have hl3 := lt_of_block hp3
  clear hw3 hx34 hz3 hgs hbox hres hsb y0 y1 y2 y3 u0 u1 u2 u3 x0 x1 x2 hx2 hX
  obtain ⟨X, iX, f, hxS0, hSx0⟩ := letters (fun w' => Ext w3 w') w3 (Ext.refl w3)
  have hxS := Lib.hid hxS0
  have hSx := Lib.hid hSx0
  clear hxS0 hSx0
  have y0 : ∀ x, (f x).cell? ⟨w.heap.size, 0, none⟩ = some (.int .i64 m) := fun x => (hxS.out x).cell (cells_four hb3).1.1
  have y1 : ∀ x, (f x).cell? ⟨w.heap.size, 1, none⟩ = some (.slice a n c) := fun x => (hxS.out x).cell (cells_four hb3).1.2.1
  have y2 : ∀ x, (f x).cell? ⟨w.heap.size, 2, none⟩ = some (.int .i64 (came + 1)) := fun x => (hxS.out x).cell (cells_four hb3).1.2.2.1
  have y3 : ∀ x, (f x).cell? ⟨w.heap.size, 3, none⟩ = some (.int .i64 dropped) := fun x => (hxS.out x).cell (cells_four hb3).1.2.2.2
  have hcount : Hid (∀ x, Calls Try.prog 28 #[.agg #[.int .i64 m, .slice a n c, .int .i64 (came + 1), .int .i64 dropped]] (f x) fun e w'' => e = .returned (.int .i64 (cnt (ws M) : Nat)) ∧ ∃ y, w'' = f y) := fun x =>
    (total_calls m a n c (came + 1) dropped M (f x) (hb.rd.ext (hX3.trans (hxS.out x))) (by have := hb.tot; omega)).mono (fun e w'' ⟨he, hx2⟩ => ⟨he, hSx.out w'' ((hxS.out x).trans hx2)⟩)
  have hq7 : ((cnt (ws M) : Int) == m) = false := by rw [beq_eq_false_iff_ne]; exact hf
  refine region_class (fun w' => ∃ x : X, w' = f x) (by kernel_rfl) (by kernel_rfl) (hSx.out _ (Ext.drewN w3 1)) ?_
  repeat (go_big_quiet_step ((go_at_call 28; exact (hcount.out _))))
  refine wpQuiet_nil ?_
  rintro _ ⟨x1, rfl⟩
  have hx4 := hxS.out x1
  obtain ⟨w4, hw4⟩ : ∃ w4, f x1 = w4 := ⟨_, rfl⟩
  rw [hw4] at hx4 ⊢
  replace hb3 := (hx4.block _ (lt_of_block hb3)).trans hb3
  replace hr3 := (hx4.block _ (lt_of_block hr3)).trans hr3
  replace hs3 := (hx4.block _ (lt_of_block hs3)).trans hs3
  replace hp3 := (hx4.block _ (lt_of_block hp3)).trans hp3
  have hX4 := hX3.trans hx4
  clear y0 y1 y2 y3 hcount hxS hSx hw4
  obtain ⟨⟨y0, y1, y2, y3⟩, ⟨u0, u1, u2, u3⟩⟩ := cells_four hb3
  obtain ⟨x0, x1, x2⟩ := cells_three hs3
  have hri := hgoodh.out.rising
  have hpl := Lib.hid (place_calls m a n c (came + 1) dropped M s w4 (hb.rd.ext hX4) hri (by have := hb.len; omega))
  have hrih := Lib.hid hri
  clear hri
  go_wp2_with fail
  refine hpl.out.mono ?_
  rintro e w5 ⟨i, b, rfl, hst, hiff, hx5⟩
  have hsth := Lib.hid hst
  have hX5 := hX4.trans hx5
  replace hb3 := (hx5.block _ (lt_of_block hb3)).trans hb3
  replace hr3 := (hx5.block _ (lt_of_block hr3)).trans hr3
  replace hs3 := (hx5.block _ (lt_of_block hs3)).trans hs3
  replace hp3 := (hx5.block _ (lt_of_block hp3)).trans hp3
  clear y0 y1 y2 y3 u0 u1 u2 u3 x0 x1 x2
  obtain ⟨⟨y0, y1, y2, y3⟩, ⟨u0, u1, u2, u3⟩⟩ := cells_four hb3
  have hwcl := Lib.hid (wclone_calls a n c M w5 (by have := hb.len; omega) (hb.rd.ext hX5).1)
  have hlb3 := lt_of_block hb3
  have hlr3 := lt_of_block hr3
  have hls3 := lt_of_block hs3
  have hlp3 := lt_of_block hp3
  go_wp2_with fail
  refine hwcl.out.mono ?_
  rintro e w6 ⟨v6, rfl, hown6, hx6⟩
  replace hb3 := (hx6.block _ hlb3).trans hb3
  replace hr3 := (hx6.block _ hlr3).trans hr3
  replace hs3 := (hx6.block _ hls3).trans hs3
  replace hp3 := (hx6.block _ hlp3).trans hp3
  have hX6 := hX5.trans hx6
  obtain ⟨a6, c6, rfl, _⟩ := ORow.row hown6
  have hown6h := Lib.hid hown6
  clear hown6 hwcl y0 y1 y2 y3 u0 u1 u2 u3
  obtain ⟨⟨y0, y1, y2, y3⟩, ⟨u0, u1, u2, u3⟩⟩ := cells_four hb3
  obtain ⟨x0, x1, x2⟩ := cells_three hs3
  have hgs := put_grownBy w6 w.heap.size 1 (.slice a6 M.length c6)
  have hb7 := at_setCell hb3 1 (.slice a6 M.length c6)
  have hr7 := (hgs.block _ (lt_of_block hr3) (by simp; omega)).trans hr3
  have hs7 := (hgs.block _ (lt_of_block hs3) (by simp)).trans hs3
  have hp7 := (hgs.block _ (lt_of_block hp3) (by simp; omega)).trans hp3
  have hX7 := hX6.grown hgs (fun k e => by cases e; exact Nat.le_refl _)
  have hown7 := Lib.hid (owns_beside hown6h.out (owns_other hown6h.out hb3 (by decide)) hgs)
  replace hb7 : (w6.setCell ⟨w.heap.size, 1, none⟩ (.slice a6 M.length c6)).heap[w.heap.size]? = some (.cells #[.int .i64 m, .slice a6 M.length c6, .int .i64 (came + 1), .int .i64 dropped] 24 (0, 0)) := by simpa using hb7
  cases b with
  | true =>
    obtain ⟨hiW, his⟩ := hiff.1 rfl
    have hiM : i < M.length := by unfold ws at hiW; rwa [List.length_map] at hiW
    clear hst hiff
    go_upto_region 14 with fail
    have hish := Lib.hid his
    have own7 := hown7
    have hi1 := hiM
    have hAs := hb.rd.2
    have hAv : ∀ B, B < w.heap.size → Av B a M → ∀ y ∈ M, ∀ x, y.2.1 = some x → x.block ≠ B := fun B _ hav => hav.2
    have hNs : M[i].1.1 = s := by rw [← his]; simp [ws]
    have hplen : M[i].1.2.length ≤ 5000 := by have h1 := hb.mem_len (List.getElem_mem hiM); have h2 := (hb.rd.2 M[i] (List.getElem_mem hiM)).len; omega
    obtain ⟨w7, hw7⟩ : ∃ w7, w6.setCell ⟨w.heap.size, 1, none⟩ (.slice a6 M.length c6) = w7 := ⟨_, rfl⟩
    rw [hw7] at hb7 hr7 hp7 hX7 own7 ⊢
    clear hw7
    obtain ⟨g7, cap7, cur7, hv7, hcur⟩ := own_block own7.out (by omega)
    injection hv7 with e1 e2 e3
    subst e1 e3
    have d1 := own_cell wc_len own7.out i hi1 1 _ rfl
    have hasi := (hAs M[i] (List.getElem_mem hi1)).ext hX7
    have hpl0 : M[i].1.2.length ≤ 5000 := hplen
    obtain ⟨⟨⟨sp, pts0⟩, pa, pn, pc⟩, hMi⟩ : ∃ x, M[i] = x := ⟨_, rfl⟩
    have hMih := Lib.hid hMi
    rw [hMi] at d1 hasi hpl0
    have hs1 : sp = s := by have := hNs; rw [hMi] at this; exact this
    have hs1h := Lib.hid hs1
    dsimp only at d1 hasi hpl0
    have hpnl := Lib.hid (As.len hasi)
    clear hMi hs1 hpl
    have hlb := lt_of_block hb7
    have hlg := lt_of_block hcur
    have hlp := lt_of_block hp7
    obtain ⟨X, iX, f, hxS0, hSx0⟩ := letters (fun w' => Ext w7 w') w7 (Ext.refl w7)
    have hxS := Lib.hid hxS0
    have hSx := Lib.hid hSx0
    clear hxS0 hSx0
    have y1 : ∀ x, (f x).cell? ⟨w.heap.size, 1, none⟩ = some (.slice (some ⟨g7, 0, none⟩) M.length c6) := fun x => (hxS.out x).cell (cells_four hb7).1.2.1
    have y2 : ∀ x, (f x).cell? ⟨g7, i * 2 + 1, none⟩ = some (.slice pa pn pc) := fun x => (hxS.out x).cell d1
    have p0 : ∀ x, (f x).cell? ⟨w2.heap.size, 0, none⟩ = some (.int .i64 tim) := fun x => (hxS.out x).cell (cells_four hp7).1.1
    have p1 : ∀ x, (f x).cell? ⟨w2.heap.size, 1, none⟩ = some (.int .i64 val) := fun x => (hxS.out x).cell (cells_four hp7).1.2.1
    have p2 : ∀ x, (f x).cell? ⟨w2.heap.size, 2, none⟩ = some (.int .i64 now) := fun x => (hxS.out x).cell (cells_four hp7).1.2.2.1
    have p3 : ∀ x, (f x).cell? ⟨w2.heap.size, 3, none⟩ = some (.int .i64 came) := fun x => (hxS.out x).cell (cells_four hp7).1.2.2.2
    refine region_plan 13 [.quiet [0, 1, 2, 3, 4, 5, 6, 7, 8, 10], .alt 9 11, .act 12] (fun w' => ∃ x : X, w' = f x) (by kernel_rfl) (by kernel_rfl) (hSx.out _ (Ext.drewN w7 1)) ?_
    intro Q1 hQ1
    refine plan_quiet ?_
    simp only [sel, List.getElem?_toArray, List.getElem?_cons_zero, List.getElem?_cons_succ]
    repeat (go_big_quiet_step (fail))
    refine wpQuiet_nil ?_
    clear y1 y2 p0 p1 p2 p3
    have hcl := Lib.hid (fun W (h : Ext w7 W) => aclone_calls pa pn pc pts0 W (by have := hpnl.out; omega) (hasi.ext h))
    refine plan_alt ?_ ?_
    · intro Q2 hQ2
      simp only [sel, List.getElem?_toArray, List.getElem?_cons_zero, List.getElem?_cons_succ]
      go_wp2_with fail
      refine (hcl.out _ (Ext.drewN w7 1)).mono ?_
      rintro e w8 ⟨v8, rfl, hown8, hx8⟩
      have hown8h := Lib.hid hown8
      obtain ⟨a8, c8, rfl, _⟩ := ORow.row hown8
      clear hown8
      have hX8 := (Ext.drewN w7 1).trans hx8
      go_wp2_with fail
      refine hQ2 _ _ (hSx.out _ hX8) ?_
      intro Q3 hQ3
      simp only [sel, List.getElem?_toArray, List.getElem?_cons_zero, List.getElem?_cons_succ]
      go_wp2_with fail
      have hx9 := Lib.hid (hX8.trans (Ext.alloc w8 (.cells #[.int .i64 tim, .int .i64 val, .int .i64 now, .int .i64 came] 50)))
      have hown9 : Hid (ORow ac 4 (w8.alloc (.cells #[.int .i64 tim, .int .i64 val, .int .i64 now, .int .i64 came] 50)) w7.heap.size 50 (.slice a8 pts0.length c8) pts0) := ORow.ext hown8h.out (Ext.alloc _ _)
      have hsrc9 : Hid (Sl (w8.alloc (.cells #[.int .i64 tim, .int .i64 val, .int .i64 now, .int .i64 came] 50)) (some ⟨w8.heap.size, 0, none⟩) 1 1 4 (ac ⟨tim, val, now, came⟩)) := sl_block (heap_alloc_new _ _) rfl (by decide)
      refine hQ3 _ _ (hSx.out _ hx9.out) ?_
      refine plan_act ?_
      intro Q4 hQ4
      simp only [sel, List.getElem?_toArray, List.getElem?_cons_zero, List.getElem?_cons_succ]
      have hz1 : Hid ((pts0.length + 1) * 32 ≤ 140737488355328) := by show _ ≤ _; omega
      have hz2 : Hid (pts0.length + 1 ≤ maxLen) := by show _ ≤ _; unfold maxLen; omega
      have hz3 := Lib.hid hx9.out.size
      go_wp2_with (at_builtin; refine wpList_append_sl rfl _ _ 46 rfl w7.heap.size 50 Try.underlying46 infoAr rfl (by decide) _ _ _ rfl hown9.out _ _ _ (ac ⟨tim, val, now, came⟩) rfl hsrc9.out (by intro u hu; simp [ac] at hu; rcases hu with rfl | rfl | rfl | rfl <;> rfl) hz1.out hz2.out hz3.out ?_; intro v10 w10 hown10 hgrow10)
      have hx10 := Lib.hid (hx9.out.grown hgrow10 (fun k e => owns_row hown9.out k e))
      obtain ⟨a10, c10, hv10, _⟩ := Sl.of_owns hown10
      subst hv10
      have hown10h : Hid (ORow ac 4 w10 w7.heap.size 50 (.slice a10 (pts0.length + 1) c10) (pts0 ++ [⟨tim, val, now, came⟩])) := by
        show _
        unfold ORow
        rw [rcells_append, show rcells ac [(⟨tim, val, now, came⟩ : Ar)] = ac ⟨tim, val, now, came⟩ by simp [rcells], List.length_append]
        exact hown10
      clear hown10 hgrow10 hz1 hz2 hz3
      refine hQ4 _ _ (hSx.out _ hx10.out) ?_
      refine plan_tail ?_
      simp only [List.drop_succ_cons, List.drop_zero]
      have hb10 := (hx10.out.block _ (lt_of_block hb7)).trans hb7
      have hr10 := (hx10.out.block _ (lt_of_block hr7)).trans hr7
      obtain ⟨⟨y0, y1, y2, y3⟩, ⟨u0, u1, u2, u3⟩⟩ := cells_four hb10
      obtain ⟨⟨z0, z1, z2, z3⟩, ⟨f0, f1, f2, f3⟩⟩ := cells_four hr10
      have own10 := Lib.hid (ORow.ext own7.out hx10.out)
      have hcur10 := (hx10.out.block _ (lt_of_block hcur)).trans hcur
      have dd1 := hx10.out.cell d1
      have fd1 : w10.frozen? ⟨g7, i * 2 + 1, none⟩ = false := by simp [World.frozen?, hcur10]
      have hlg := World.block_lt_of_cell? w10 _ dd1
      have hlb := World.block_lt_of_cell? w10 _ y1
      have ne1 : ¬ g7 = w.heap.size := fun e => by rw [e, hb10] at hcur10; cases hcur10
      have ne2 : ¬ w.heap.size = g7 := fun e => ne1 e.symm
      have ne3 : ¬ g7 = w.heap.size + 1 + 1 := fun e => by rw [e, hr10] at hcur10; cases hcur10
      have ne4 : ¬ w.heap.size + 1 + 1 = g7 := fun e => ne3 e.symm
      have hgst := put_grownBy w10 g7 (i * 2 + 1) (.slice a10 (pts0.length + 1) c10)
      go_wp2_with fail
      have hres := (hgst.block _ (lt_of_block hr10) (by simp; exact ne4)).trans hr10
      have hw9 : put4 (w10.setCell ⟨g7, i * 2 + 1, none⟩ (.slice a10 (pts0.length + 1) c10)) (w.heap.size + 1 + 1) (.int .i64 m) (.slice (some ⟨g7, 0, none⟩) M.length c6) (.int .i64 (came + 1)) (.int .i64 dropped) = ((((w10.setCell ⟨g7, i * 2 + 1, none⟩ (.slice a10 (pts0.length + 1) c10)).setCell ⟨w.heap.size + 1 + 1, 0, none⟩ (.int .i64 m)).setCell ⟨w.heap.size + 1 + 1, 1, none⟩ (.slice (some ⟨g7, 0, none⟩) M.length c6)).setCell ⟨w.heap.size + 1 + 1, 2, none⟩ (.int .i64 (came + 1))).setCell ⟨w.heap.size + 1 + 1, 3, none⟩ (.int .i64 dropped) := rfl
      have hg9 := put4_grownBy (w10.setCell ⟨g7, i * 2 + 1, none⟩ (.slice a10 (pts0.length + 1) c10)) (w.heap.size + 1 + 1) (.int .i64 m) (.slice (some ⟨g7, 0, none⟩) M.length c6) (.int .i64 (came + 1)) (.int .i64 dropped)
      have hh9 := put4_block hres (.int .i64 m) (.slice (some ⟨g7, 0, none⟩) M.length c6) (.int .i64 (came + 1)) (.int .i64 dropped)
      rw [← hw9]
      obtain ⟨w9, hw9e⟩ : ∃ w9, put4 (w10.setCell ⟨g7, i * 2 + 1, none⟩ (.slice a10 (pts0.length + 1) c10)) (w.heap.size + 1 + 1) (.int .i64 m) (.slice (some ⟨g7, 0, none⟩) M.length c6) (.int .i64 (came + 1)) (.int .i64 dropped) = w9 := ⟨_, rfl⟩
      rw [hw9e] at hg9 hh9 ⊢
      obtain ⟨⟨q0, q1, q2, q3⟩, _⟩ := cells_four hh9
      refine bodyPost_ret (v := .tuple #[.agg #[.int .i64 m, .slice (some ⟨g7, 0, none⟩) M.length c6, .int .i64 (came + 1), .int .i64 dropped], .bool true, .int .i64 0]) (by simp [results, Try.results11, go_sem, q0, q1, q2, q3]) rfl ?_
      have hX9 : Ext w w9 := ((hX7.trans hx10.out).grown hgst (fun k e => by cases e; have h1 := owns_row own10.out g7 rfl; have h2 := hX5.size; omega)).grown hg9 (fun k e => by cases e; omega)
      have o1 : ORow wc 2 (w10.setCell ⟨g7, i * 2 + 1, none⟩ (.slice a10 (pts0.length + 1) c10)) w5.heap.size 59 (.slice (some ⟨g7, 0, none⟩) M.length c6) (M.set i ((s, pts0 ++ [(⟨tim, val, now, came⟩ : Ar)]), (a10, pts0.length + 1, c10))) := by
        have h1 := (World.ownsRow.stored own10.out (i * 2 + 1) (.slice a10 (pts0.length + 1) c10)).1
        rw [rcells_set wc 2 wc_len M i hi1 1 _ ((s, pts0 ++ [(⟨tim, val, now, came⟩ : Ar)]), (a10, pts0.length + 1, c10)) (by decide) (by rw [hMih.out, hs1h.out]; rfl)] at h1
        unfold ORow
        rw [List.length_set]
        exact h1
      have o2 := owns_beside o1 (owns_other o1 hres (by decide)) hg9
      have p1 := owns_beside hown10h.out (owns_other hown10h.out hcur10 (by decide)) hgst
      have p2 := owns_beside p1 (owns_other p1 hres (by decide)) hg9
      obtain ⟨_, _, e2, r2⟩ := Sl.of_owns o2
      obtain ⟨_, _, e3, r3⟩ := Sl.of_owns p2
      rw [List.length_set] at e2 r2
      cases e2
      have e3' : pts0.length + 1 = (pts0 ++ [(⟨tim, val, now, came⟩ : Ar)]).length := by simp
      rw [← e3'] at e3 r3
      cases e3
      refine ⟨_, _, _, M.set i ((s, pts0 ++ [(⟨tim, val, now, came⟩ : Ar)]), (a10, pts0.length + 1, c10)), rfl, ⟨r2, fun x hx => ?_⟩, ?_, fun B hB hav => ⟨av_own own10.out (by have h2 := hX5.size; omega), fun y hy x hx => ?_⟩, hX9⟩
      · rcases List.mem_or_eq_of_mem_set hx with hx | rfl
        · exact (hAs x hx).ext hX9
        · exact r3
      · exact ws_found hrih.out hsth.out hiM hMih.out hs1h.out ⟨tim, val, now, came⟩ (a10, pts0.length + 1, c10)
      · rcases List.mem_or_eq_of_mem_set hy with hy | rfl
        · exact hAv B hB hav y hy x hx
        · exact av_own hown10h.out (by have h2 := hX7.size; omega) x hx
    · intro Q2 hQ2
      simp only [sel, List.getElem?_toArray, List.getElem?_cons_zero, List.getElem?_cons_succ]
      go_wp2_with fail
      have hXA := (Ext.alloc w7 (.cells #[.int .i64 tim, .int .i64 val, .int .i64 now, .int .i64 came] 50)).trans (Ext.drewN _ 1)
      refine hQ2 _ _ (hSx.out _ hXA) ?_
      intro Q3 hQ3
      simp only [sel, List.getElem?_toArray, List.getElem?_cons_zero, List.getElem?_cons_succ]
      go_wp2_with fail
      refine (hcl.out _ hXA).mono ?_
      rintro e w8 ⟨v8, rfl, hown8, hx8⟩
      have hown8h := Lib.hid hown8
      obtain ⟨a8, c8, rfl, _⟩ := ORow.row hown8
      clear hown8
      have hx9 := Lib.hid (hXA.trans hx8)
      have hown9 : Hid (ORow ac 4 w8 w7.heap.size 50 (.slice a8 pts0.length c8) pts0) := owns_mono hown8h.out (by simp)
      have hsrc9 : Hid (Sl w8 (some ⟨w7.heap.size, 0, none⟩) 1 1 4 (ac ⟨tim, val, now, came⟩)) := Sl.ext (Sl.ext (sl_block (heap_alloc_new w7 (.cells #[.int .i64 tim, .int .i64 val, .int .i64 now, .int .i64 came] 50)) rfl (by decide)) (Ext.drewN _ 1)) hx8
      go_wp2_with fail
      refine hQ3 _ _ (hSx.out _ hx9.out) ?_
      refine plan_act ?_
      intro Q4 hQ4
      simp only [sel, List.getElem?_toArray, List.getElem?_cons_zero, List.getElem?_cons_succ]
      have hz1 : Hid ((pts0.length + 1) * 32 ≤ 140737488355328) := by show _ ≤ _; omega
      have hz2 : Hid (pts0.length + 1 ≤ maxLen) := by show _ ≤ _; unfold maxLen; omega
      have hz3 := Lib.hid hx9.out.size
      go_wp2_with (at_builtin; refine wpList_append_sl rfl _ _ 46 rfl w7.heap.size 50 Try.underlying46 infoAr rfl (by decide) _ _ _ rfl hown9.out _ _ _ (ac ⟨tim, val, now, came⟩) rfl hsrc9.out (by intro u hu; simp [ac] at hu; rcases hu with rfl | rfl | rfl | rfl <;> rfl) hz1.out hz2.out hz3.out ?_; intro v10 w10 hown10 hgrow10)
      have hx10 := Lib.hid (hx9.out.grown hgrow10 (fun k e => owns_row hown9.out k e))
      obtain ⟨a10, c10, hv10, _⟩ := Sl.of_owns hown10
      subst hv10
      have hown10h : Hid (ORow ac 4 w10 w7.heap.size 50 (.slice a10 (pts0.length + 1) c10) (pts0 ++ [⟨tim, val, now, came⟩])) := by
        show _
        unfold ORow
        rw [rcells_append, show rcells ac [(⟨tim, val, now, came⟩ : Ar)] = ac ⟨tim, val, now, came⟩ by simp [rcells], List.length_append]
        exact hown10
      clear hown10 hgrow10 hz1 hz2 hz3
      refine hQ4 _ _ (hSx.out _ hx10.out) ?_
      refine plan_tail ?_
      simp only [List.drop_succ_cons, List.drop_zero]
      have hb10 := (hx10.out.block _ (lt_of_block hb7)).trans hb7
      have hr10 := (hx10.out.block _ (lt_of_block hr7)).trans hr7
      obtain ⟨⟨y0, y1, y2, y3⟩, ⟨u0, u1, u2, u3⟩⟩ := cells_four hb10
      obtain ⟨⟨z0, z1, z2, z3⟩, ⟨f0, f1, f2, f3⟩⟩ := cells_four hr10
      have own10 := Lib.hid (ORow.ext own7.out hx10.out)
      have hcur10 := (hx10.out.block _ (lt_of_block hcur)).trans hcur
      have dd1 := hx10.out.cell d1
      have fd1 : w10.frozen? ⟨g7, i * 2 + 1, none⟩ = false := by simp [World.frozen?, hcur10]
      have hlg := World.block_lt_of_cell? w10 _ dd1
      have hlb := World.block_lt_of_cell? w10 _ y1
      have ne1 : ¬ g7 = w.heap.size := fun e => by rw [e, hb10] at hcur10; cases hcur10
      have ne2 : ¬ w.heap.size = g7 := fun e => ne1 e.symm
      have ne3 : ¬ g7 = w.heap.size + 1 + 1 := fun e => by rw [e, hr10] at hcur10; cases hcur10
      have ne4 : ¬ w.heap.size + 1 + 1 = g7 := fun e => ne3 e.symm
      have hgst := put_grownBy w10 g7 (i * 2 + 1) (.slice a10 (pts0.length + 1) c10)
      go_wp2_with fail
      have hres := (hgst.block _ (lt_of_block hr10) (by simp; exact ne4)).trans hr10
      have hw9 : put4 (w10.setCell ⟨g7, i * 2 + 1, none⟩ (.slice a10 (pts0.length + 1) c10)) (w.heap.size + 1 + 1) (.int .i64 m) (.slice (some ⟨g7, 0, none⟩) M.length c6) (.int .i64 (came + 1)) (.int .i64 dropped) = ((((w10.setCell ⟨g7, i * 2 + 1, none⟩ (.slice a10 (pts0.length + 1) c10)).setCell ⟨w.heap.size + 1 + 1, 0, none⟩ (.int .i64 m)).setCell ⟨w.heap.size + 1 + 1, 1, none⟩ (.slice (some ⟨g7, 0, none⟩) M.length c6)).setCell ⟨w.heap.size + 1 + 1, 2, none⟩ (.int .i64 (came + 1))).setCell ⟨w.heap.size + 1 + 1, 3, none⟩ (.int .i64 dropped) := rfl
      have hg9 := put4_grownBy (w10.setCell ⟨g7, i * 2 + 1, none⟩ (.slice a10 (pts0.length + 1) c10)) (w.heap.size + 1 + 1) (.int .i64 m) (.slice (some ⟨g7, 0, none⟩) M.length c6) (.int .i64 (came + 1)) (.int .i64 dropped)
      have hh9 := put4_block hres (.int .i64 m) (.slice (some ⟨g7, 0, none⟩) M.length c6) (.int .i64 (came + 1)) (.int .i64 dropped)
      rw [← hw9]
      obtain ⟨w9, hw9e⟩ : ∃ w9, put4 (w10.setCell ⟨g7, i * 2 + 1, none⟩ (.slice a10 (pts0.length + 1) c10)) (w.heap.size + 1 + 1) (.int .i64 m) (.slice (some ⟨g7, 0, none⟩) M.length c6) (.int .i64 (came + 1)) (.int .i64 dropped) = w9 := ⟨_, rfl⟩
      rw [hw9e] at hg9 hh9 ⊢
      obtain ⟨⟨q0, q1, q2, q3⟩, _⟩ := cells_four hh9
      refine bodyPost_ret (v := .tuple #[.agg #[.int .i64 m, .slice (some ⟨g7, 0, none⟩) M.length c6, .int .i64 (came + 1), .int .i64 dropped], .bool true, .int .i64 0]) (by simp [results, Try.results11, go_sem, q0, q1, q2, q3]) rfl ?_
      have hX9 : Ext w w9 := ((hX7.trans hx10.out).grown hgst (fun k e => by cases e; have h1 := owns_row own10.out g7 rfl; have h2 := hX5.size; omega)).grown hg9 (fun k e => by cases e; omega)
      have o1 : ORow wc 2 (w10.setCell ⟨g7, i * 2 + 1, none⟩ (.slice a10 (pts0.length + 1) c10)) w5.heap.size 59 (.slice (some ⟨g7, 0, none⟩) M.length c6) (M.set i ((s, pts0 ++ [(⟨tim, val, now, came⟩ : Ar)]), (a10, pts0.length + 1, c10))) := by
        have h1 := (World.ownsRow.stored own10.out (i * 2 + 1) (.slice a10 (pts0.length + 1) c10)).1
        rw [rcells_set wc 2 wc_len M i hi1 1 _ ((s, pts0 ++ [(⟨tim, val, now, came⟩ : Ar)]), (a10, pts0.length + 1, c10)) (by decide) (by rw [hMih.out, hs1h.out]; rfl)] at h1
        unfold ORow
        rw [List.length_set]
        exact h1
      have o2 := owns_beside o1 (owns_other o1 hres (by decide)) hg9
      have p1 := owns_beside hown10h.out (owns_other hown10h.out hcur10 (by decide)) hgst
      have p2 := owns_beside p1 (owns_other p1 hres (by decide)) hg9
      obtain ⟨_, _, e2, r2⟩ := Sl.of_owns o2
      obtain ⟨_, _, e3, r3⟩ := Sl.of_owns p2
      rw [List.length_set] at e2 r2
      cases e2
      have e3' : pts0.length + 1 = (pts0 ++ [(⟨tim, val, now, came⟩ : Ar)]).length := by simp
      rw [← e3'] at e3 r3
      cases e3
      refine ⟨_, _, _, M.set i ((s, pts0 ++ [(⟨tim, val, now, came⟩ : Ar)]), (a10, pts0.length + 1, c10)), rfl, ⟨r2, fun x hx => ?_⟩, ?_, fun B hB hav => ⟨av_own own10.out (by have h2 := hX5.size; omega), fun y hy x hx => ?_⟩, hX9⟩
      · rcases List.mem_or_eq_of_mem_set hx with hx | rfl
        · exact (hAs x hx).ext hX9
        · exact r3
      · exact ws_found hrih.out hsth.out hiM hMih.out hs1h.out ⟨tim, val, now, came⟩ (a10, pts0.length + 1, c10)
      · rcases List.mem_or_eq_of_mem_set hy with hy | rfl
        · exact hAv B hB hav y hy x hx
        · exact av_own hown10h.out (by have h2 := hX7.size; omega) x hx

  | false =>
    have hno : Hid (¬ ∃ h : i < (ws M).length, (ws M)[i].1 = s) := fun h => by cases hiff.2 h
    clear hst hiff
    have hnl : M.length ≤ 1000000 := by rw [hlen.out]; have := hb.len; omega
    have hiM : i ≤ M.length := by have := hsth.out.1; unfold ws at this; rwa [List.length_map] at this
    have hownA := Lib.hid (ORow.ext hown7.out (Ext.alloc (w6.setCell ⟨w.heap.size, 1, none⟩ (.slice a6 M.length c6)) (.cells #[.string ⟨s.toArray⟩, .slice none 0 0] 59)))
    have hzz : (w6.setCell ⟨w.heap.size, 1, none⟩ (.slice a6 M.length c6)).heap.size = w6.heap.size := by simp [World.setCell]
    have hvb := heap_alloc_new (w6.setCell ⟨w.heap.size, 1, none⟩ (.slice a6 M.length c6)) (.cells (wc (((s, []), (none, 0, 0)) : Wh)).toArray 59)
    rw [hzz] at hvb
    have hne0 : (Value.slice a6 M.length c6).ownBlock ≠ some w6.heap.size := fun e => by
      have := (World.ownsRow.lt hown7.out w6.heap.size e).2
      omega
    have hins := Lib.hid (insert_calls w5.heap.size (.slice a6 M.length c6) M i ((s, []), (none, 0, 0)) w6.heap.size _ hownA.out hiM hvb hne0 hnl (by have h1 := hx6.size; simp [hzz]; omega))
    have hxA := Ext.alloc (w6.setCell ⟨w.heap.size, 1, none⟩ (.slice a6 M.length c6)) (.cells #[.string ⟨s.toArray⟩, .slice none 0 0] 59)
    have hbA := (hxA.block _ (lt_of_block hb7)).trans hb7
    have hrA := (hxA.block _ (lt_of_block hr7)).trans hr7
    have hpA := (hxA.block _ (lt_of_block hp7)).trans hp7
    have hXA := hX7.trans hxA
    have hlb7 := lt_of_block hb7
    have hls7 := lt_of_block hs7
    clear hvb hne0 hzz
    go_wp2_with fail
    refine hins.out.mono ?_
    rintro e w8 ⟨v8, rfl, hown8, hgrow8⟩
    have hX8 := hXA.grown hgrow8 (fun k e => by have h1 := owns_row hownA.out k e; have h2 := hX5.size; omega)
    replace hb7 := block_beside hownA.out hgrow8 hbA (by decide)
    replace hr7 := block_beside hownA.out hgrow8 hrA (by decide)
    replace hp7 := block_beside hownA.out hgrow8 hpA (by decide)
    have hl1 : (M.take i ++ ((((s, []), (none, 0, 0)) : Wh) :: M.drop i)).length = M.length + 1 := by simp; omega
    have hAs1 : ∀ x ∈ (M.take i ++ ((((s, []), (none, 0, 0)) : Wh) :: M.drop i)), As w x.2.1 x.2.2.1 x.2.2.2 x.1.2 := fun x hx => by
      rcases List.mem_append.1 hx with hx | hx
      · exact hb.rd.2 x (List.mem_of_mem_take hx)
      · rcases List.mem_cons.1 hx with rfl | hx
        · exact Row.nil _ _ _
        · exact hb.rd.2 x (List.mem_of_mem_drop hx)
    have hget : ∀ h : i < (M.take i ++ ((((s, []), (none, 0, 0)) : Wh) :: M.drop i)).length, (M.take i ++ ((((s, []), (none, 0, 0)) : Wh) :: M.drop i))[i] = ((s, []), (none, 0, 0)) := fun h => by
      rw [List.getElem_append_right (by rw [List.length_take]; omega)]
      simp [Nat.min_eq_left hiM]
    have hAv1 : ∀ B, B < w.heap.size → Av B a M → ∀ y ∈ (M.take i ++ ((((s, []), (none, 0, 0)) : Wh) :: M.drop i)), ∀ x, y.2.1 = some x → x.block ≠ B := fun B _ hav y hy x hx => by
      rcases List.mem_append.1 hy with hy | hy
      · exact hav.2 y (List.mem_of_mem_take hy) x hx
      · rcases List.mem_cons.1 hy with rfl | hy
        · cases hx
        · exact hav.2 y (List.mem_of_mem_drop hy) x hx
    have hwsn : ∀ y, ws ((M.take i ++ ((((s, []), (none, 0, 0)) : Wh) :: M.drop i)).set i ((s, [(⟨tim, val, now, came⟩ : Ar)]), y)) = addW s ⟨tim, val, now, came⟩ (ws M) := fun y => ws_not hrih.out hsth.out hno.out _ _ _
    obtain ⟨M1, hM1⟩ : ∃ M1, (M.take i ++ ((((s, []), (none, 0, 0)) : Wh) :: M.drop i)) = M1 := ⟨_, rfl⟩
    rw [hM1] at hl1 hAs1 hAv1 hget hwsn hown8
    have hi1 : i < M1.length := by omega
    have hgeti := hget hi1
    obtain ⟨aI, cI, rfl, _⟩ := ORow.row hown8
    have hown8h := Lib.hid hown8
    have hwsnh := Lib.hid hwsn
    have hgetih := Lib.hid hgeti
    clear hl1 hown8 hwsn hget hM1 hins hownA hbA hrA hpA hxA hXA hgrow8 hgeti y0 y1 y2 y3 u0 u1 u2 u3 x0 x1 x2 hs7
    obtain ⟨⟨y0, y1, y2, y3⟩, ⟨u0, u1, u2, u3⟩⟩ := cells_four hb7
    have hgs8 := put_grownBy w8 w.heap.size 1 (.slice aI M1.length cI)
    have own7 := Lib.hid (owns_beside hown8h.out (owns_other hown8h.out hb7 (by decide)) hgs8)
    have hb8 := at_setCell hb7 1 (.slice aI M1.length cI)
    replace hr7 := (hgs8.block _ (lt_of_block hr7) (by simp; omega)).trans hr7
    replace hp7 := (hgs8.block _ (lt_of_block hp7) (by simp; omega)).trans hp7
    have hX7b := hX8.grown hgs8 (fun k e => by cases e; exact Nat.le_refl _)
    go_upto_region 14 with fail
    clear hb7 hX7 hX6
    have hX7 := hX7b
    have hb7 : (w8.setCell ⟨w.heap.size, 1, none⟩ (.slice aI M1.length cI)).heap[w.heap.size]? = some (.cells #[.int .i64 m, .slice aI M1.length cI, .int .i64 (came + 1), .int .i64 dropped] 24 (0, 0)) := by simpa using hb8
    have hAs := hAs1
    have hAv := hAv1
    have hNs : M1[i].1.1 = s := by rw [hgetih.out]
    have hplen : M1[i].1.2.length ≤ 5000 := by rw [hgetih.out]; simp
    clear hX7b hb8
    obtain ⟨w7, hw7⟩ : ∃ w7, w8.setCell ⟨w.heap.size, 1, none⟩ (.slice aI M1.length cI) = w7 := ⟨_, rfl⟩
    rw [hw7] at hb7 hr7 hp7 hX7 own7 ⊢
    clear hw7
    obtain ⟨g7, cap7, cur7, hv7, hcur⟩ := own_block own7.out (by omega)
    injection hv7 with e1 e2 e3
    subst e1 e3
    have d1 := own_cell wc_len own7.out i hi1 1 _ rfl
    have hasi := (hAs M1[i] (List.getElem_mem hi1)).ext hX7
    have hpl0 : M1[i].1.2.length ≤ 5000 := hplen
    obtain ⟨⟨⟨sp, pts0⟩, pa, pn, pc⟩, hMi⟩ : ∃ x, M1[i] = x := ⟨_, rfl⟩
    have hMih := Lib.hid hMi
    rw [hMi] at d1 hasi hpl0
    have hs1 : sp = s := by have := hNs; rw [hMi] at this; exact this
    have hs1h := Lib.hid hs1
    dsimp only at d1 hasi hpl0
    have hpnl := Lib.hid (As.len hasi)
    clear hMi hs1 hpl
    have hlb := lt_of_block hb7
    have hlg := lt_of_block hcur
    have hlp := lt_of_block hp7
    obtain ⟨X, iX, f, hxS0, hSx0⟩ := letters (fun w' => Ext w7 w') w7 (Ext.refl w7)
    have hxS := Lib.hid hxS0
    have hSx := Lib.hid hSx0
    clear hxS0 hSx0
    have y1 : ∀ x, (f x).cell? ⟨w.heap.size, 1, none⟩ = some (.slice (some ⟨g7, 0, none⟩) M1.length cI) := fun x => (hxS.out x).cell (cells_four hb7).1.2.1
    have y2 : ∀ x, (f x).cell? ⟨g7, i * 2 + 1, none⟩ = some (.slice pa pn pc) := fun x => (hxS.out x).cell d1
    have p0 : ∀ x, (f x).cell? ⟨w2.heap.size, 0, none⟩ = some (.int .i64 tim) := fun x => (hxS.out x).cell (cells_four hp7).1.1
    have p1 : ∀ x, (f x).cell? ⟨w2.heap.size, 1, none⟩ = some (.int .i64 val) := fun x => (hxS.out x).cell (cells_four hp7).1.2.1
    have p2 : ∀ x, (f x).cell? ⟨w2.heap.size, 2, none⟩ = some (.int .i64 now) := fun x => (hxS.out x).cell (cells_four hp7).1.2.2.1
    have p3 : ∀ x, (f x).cell? ⟨w2.heap.size, 3, none⟩ = some (.int .i64 came) := fun x => (hxS.out x).cell (cells_four hp7).1.2.2.2
    refine region_plan 13 [.quiet [0, 1, 2, 3, 4, 5, 6, 7, 8, 10], .alt 9 11, .act 12] (fun w' => ∃ x : X, w' = f x) (by kernel_rfl) (by kernel_rfl) (hSx.out _ (Ext.drewN w7 1)) ?_
    intro Q1 hQ1
    refine plan_quiet ?_
    simp only [sel, List.getElem?_toArray, List.getElem?_cons_zero, List.getElem?_cons_succ]
    repeat (go_big_quiet_step (fail))
    refine wpQuiet_nil ?_
    clear y1 y2 p0 p1 p2 p3
    have hcl := Lib.hid (fun W (h : Ext w7 W) => aclone_calls pa pn pc pts0 W (by have := hpnl.out; omega) (hasi.ext h))
    refine plan_alt ?_ ?_
    · intro Q2 hQ2
      simp only [sel, List.getElem?_toArray, List.getElem?_cons_zero, List.getElem?_cons_succ]
      go_wp2_with fail
      refine (hcl.out _ (Ext.drewN w7 1)).mono ?_
      rintro e w8 ⟨v8, rfl, hown8, hx8⟩
      have hown8h := Lib.hid hown8
      obtain ⟨a8, c8, rfl, _⟩ := ORow.row hown8
      clear hown8
      have hX8 := (Ext.drewN w7 1).trans hx8
      go_wp2_with fail
      refine hQ2 _ _ (hSx.out _ hX8) ?_
      intro Q3 hQ3
      simp only [sel, List.getElem?_toArray, List.getElem?_cons_zero, List.getElem?_cons_succ]
      go_wp2_with fail
      have hx9 := Lib.hid (hX8.trans (Ext.alloc w8 (.cells #[.int .i64 tim, .int .i64 val, .int .i64 now, .int .i64 came] 50)))
      have hown9 : Hid (ORow ac 4 (w8.alloc (.cells #[.int .i64 tim, .int .i64 val, .int .i64 now, .int .i64 came] 50)) w7.heap.size 50 (.slice a8 pts0.length c8) pts0) := ORow.ext hown8h.out (Ext.alloc _ _)
      have hsrc9 : Hid (Sl (w8.alloc (.cells #[.int .i64 tim, .int .i64 val, .int .i64 now, .int .i64 came] 50)) (some ⟨w8.heap.size, 0, none⟩) 1 1 4 (ac ⟨tim, val, now, came⟩)) := sl_block (heap_alloc_new _ _) rfl (by decide)
      refine hQ3 _ _ (hSx.out _ hx9.out) ?_
      refine plan_act ?_
      intro Q4 hQ4
      simp only [sel, List.getElem?_toArray, List.getElem?_cons_zero, List.getElem?_cons_succ]
      have hz1 : Hid ((pts0.length + 1) * 32 ≤ 140737488355328) := by show _ ≤ _; omega
      have hz2 : Hid (pts0.length + 1 ≤ maxLen) := by show _ ≤ _; unfold maxLen; omega
      have hz3 := Lib.hid hx9.out.size
      go_wp2_with (at_builtin; refine wpList_append_sl rfl _ _ 46 rfl w7.heap.size 50 Try.underlying46 infoAr rfl (by decide) _ _ _ rfl hown9.out _ _ _ (ac ⟨tim, val, now, came⟩) rfl hsrc9.out (by intro u hu; simp [ac] at hu; rcases hu with rfl | rfl | rfl | rfl <;> rfl) hz1.out hz2.out hz3.out ?_; intro v10 w10 hown10 hgrow10)
      have hx10 := Lib.hid (hx9.out.grown hgrow10 (fun k e => owns_row hown9.out k e))
      obtain ⟨a10, c10, hv10, _⟩ := Sl.of_owns hown10
      subst hv10
      have hown10h : Hid (ORow ac 4 w10 w7.heap.size 50 (.slice a10 (pts0.length + 1) c10) (pts0 ++ [⟨tim, val, now, came⟩])) := by
        show _
        unfold ORow
        rw [rcells_append, show rcells ac [(⟨tim, val, now, came⟩ : Ar)] = ac ⟨tim, val, now, came⟩ by simp [rcells], List.length_append]
        exact hown10
      clear hown10 hgrow10 hz1 hz2 hz3
      refine hQ4 _ _ (hSx.out _ hx10.out) ?_
      refine plan_tail ?_
      simp only [List.drop_succ_cons, List.drop_zero]
      have hb10 := (hx10.out.block _ (lt_of_block hb7)).trans hb7
      have hr10 := (hx10.out.block _ (lt_of_block hr7)).trans hr7
      obtain ⟨⟨y0, y1, y2, y3⟩, ⟨u0, u1, u2, u3⟩⟩ := cells_four hb10
      obtain ⟨⟨z0, z1, z2, z3⟩, ⟨f0, f1, f2, f3⟩⟩ := cells_four hr10
      have own10 := Lib.hid (ORow.ext own7.out hx10.out)
      have hcur10 := (hx10.out.block _ (lt_of_block hcur)).trans hcur
      have dd1 := hx10.out.cell d1
      have fd1 : w10.frozen? ⟨g7, i * 2 + 1, none⟩ = false := by simp [World.frozen?, hcur10]
      have hlg := World.block_lt_of_cell? w10 _ dd1
      have hlb := World.block_lt_of_cell? w10 _ y1
      have ne1 : ¬ g7 = w.heap.size := fun e => by rw [e, hb10] at hcur10; cases hcur10
      have ne2 : ¬ w.heap.size = g7 := fun e => ne1 e.symm
      have ne3 : ¬ g7 = w.heap.size + 1 + 1 := fun e => by rw [e, hr10] at hcur10; cases hcur10
      have ne4 : ¬ w.heap.size + 1 + 1 = g7 := fun e => ne3 e.symm
      have hgst := put_grownBy w10 g7 (i * 2 + 1) (.slice a10 (pts0.length + 1) c10)
      go_wp2_with fail
      have hres := (hgst.block _ (lt_of_block hr10) (by simp; exact ne4)).trans hr10
      have hw9 : put4 (w10.setCell ⟨g7, i * 2 + 1, none⟩ (.slice a10 (pts0.length + 1) c10)) (w.heap.size + 1 + 1) (.int .i64 m) (.slice (some ⟨g7, 0, none⟩) M1.length cI) (.int .i64 (came + 1)) (.int .i64 dropped) = ((((w10.setCell ⟨g7, i * 2 + 1, none⟩ (.slice a10 (pts0.length + 1) c10)).setCell ⟨w.heap.size + 1 + 1, 0, none⟩ (.int .i64 m)).setCell ⟨w.heap.size + 1 + 1, 1, none⟩ (.slice (some ⟨g7, 0, none⟩) M1.length cI)).setCell ⟨w.heap.size + 1 + 1, 2, none⟩ (.int .i64 (came + 1))).setCell ⟨w.heap.size + 1 + 1, 3, none⟩ (.int .i64 dropped) := rfl
      have hg9 := put4_grownBy (w10.setCell ⟨g7, i * 2 + 1, none⟩ (.slice a10 (pts0.length + 1) c10)) (w.heap.size + 1 + 1) (.int .i64 m) (.slice (some ⟨g7, 0, none⟩) M1.length cI) (.int .i64 (came + 1)) (.int .i64 dropped)
      have hh9 := put4_block hres (.int .i64 m) (.slice (some ⟨g7, 0, none⟩) M1.length cI) (.int .i64 (came + 1)) (.int .i64 dropped)
      rw [← hw9]
      obtain ⟨w9, hw9e⟩ : ∃ w9, put4 (w10.setCell ⟨g7, i * 2 + 1, none⟩ (.slice a10 (pts0.length + 1) c10)) (w.heap.size + 1 + 1) (.int .i64 m) (.slice (some ⟨g7, 0, none⟩) M1.length cI) (.int .i64 (came + 1)) (.int .i64 dropped) = w9 := ⟨_, rfl⟩
      rw [hw9e] at hg9 hh9 ⊢
      obtain ⟨⟨q0, q1, q2, q3⟩, _⟩ := cells_four hh9
      refine bodyPost_ret (v := .tuple #[.agg #[.int .i64 m, .slice (some ⟨g7, 0, none⟩) M1.length cI, .int .i64 (came + 1), .int .i64 dropped], .bool true, .int .i64 0]) (by simp [results, Try.results11, go_sem, q0, q1, q2, q3]) rfl ?_
      have hX9 : Ext w w9 := ((hX7.trans hx10.out).grown hgst (fun k e => by cases e; have h1 := owns_row own10.out g7 rfl; have h2 := hX5.size; omega)).grown hg9 (fun k e => by cases e; omega)
      have o1 : ORow wc 2 (w10.setCell ⟨g7, i * 2 + 1, none⟩ (.slice a10 (pts0.length + 1) c10)) w5.heap.size 59 (.slice (some ⟨g7, 0, none⟩) M1.length cI) (M1.set i ((s, pts0 ++ [(⟨tim, val, now, came⟩ : Ar)]), (a10, pts0.length + 1, c10))) := by
        have h1 := (World.ownsRow.stored own10.out (i * 2 + 1) (.slice a10 (pts0.length + 1) c10)).1
        rw [rcells_set wc 2 wc_len M1 i hi1 1 _ ((s, pts0 ++ [(⟨tim, val, now, came⟩ : Ar)]), (a10, pts0.length + 1, c10)) (by decide) (by rw [hMih.out, hs1h.out]; rfl)] at h1
        unfold ORow
        rw [List.length_set]
        exact h1
      have o2 := owns_beside o1 (owns_other o1 hres (by decide)) hg9
      have p1 := owns_beside hown10h.out (owns_other hown10h.out hcur10 (by decide)) hgst
      have p2 := owns_beside p1 (owns_other p1 hres (by decide)) hg9
      obtain ⟨_, _, e2, r2⟩ := Sl.of_owns o2
      obtain ⟨_, _, e3, r3⟩ := Sl.of_owns p2
      rw [List.length_set] at e2 r2
      cases e2
      have e3' : pts0.length + 1 = (pts0 ++ [(⟨tim, val, now, came⟩ : Ar)]).length := by simp
      rw [← e3'] at e3 r3
      cases e3
      refine ⟨_, _, _, M1.set i ((s, pts0 ++ [(⟨tim, val, now, came⟩ : Ar)]), (a10, pts0.length + 1, c10)), rfl, ⟨r2, fun x hx => ?_⟩, ?_, fun B hB hav => ⟨av_own own10.out (by have h2 := hX5.size; omega), fun y hy x hx => ?_⟩, hX9⟩
      · rcases List.mem_or_eq_of_mem_set hx with hx | rfl
        · exact (hAs x hx).ext hX9
        · exact r3
      · exact (by rw [show pts0 = [] by have h1 := hMih.out; rw [hgetih.out] at h1; cases h1; rfl]; exact hwsnh.out _)
      · rcases List.mem_or_eq_of_mem_set hy with hy | rfl
        · exact hAv B hB hav y hy x hx
        · exact av_own hown10h.out (by have h2 := hX7.size; omega) x hx
    · intro Q2 hQ2
      simp only [sel, List.getElem?_toArray, List.getElem?_cons_zero, List.getElem?_cons_succ]
      go_wp2_with fail
      have hXA := (Ext.alloc w7 (.cells #[.int .i64 tim, .int .i64 val, .int .i64 now, .int .i64 came] 50)).trans (Ext.drewN _ 1)
      refine hQ2 _ _ (hSx.out _ hXA) ?_
      intro Q3 hQ3
      simp only [sel, List.getElem?_toArray, List.getElem?_cons_zero, List.getElem?_cons_succ]
      go_wp2_with fail
      refine (hcl.out _ hXA).mono ?_
      rintro e w8 ⟨v8, rfl, hown8, hx8⟩
      have hown8h := Lib.hid hown8
      obtain ⟨a8, c8, rfl, _⟩ := ORow.row hown8
      clear hown8
      have hx9 := Lib.hid (hXA.trans hx8)
      have hown9 : Hid (ORow ac 4 w8 w7.heap.size 50 (.slice a8 pts0.length c8) pts0) := owns_mono hown8h.out (by simp)
      have hsrc9 : Hid (Sl w8 (some ⟨w7.heap.size, 0, none⟩) 1 1 4 (ac ⟨tim, val, now, came⟩)) := Sl.ext (Sl.ext (sl_block (heap_alloc_new w7 (.cells #[.int .i64 tim, .int .i64 val, .int .i64 now, .int .i64 came] 50)) rfl (by decide)) (Ext.drewN _ 1)) hx8
      go_wp2_with fail
      refine hQ3 _ _ (hSx.out _ hx9.out) ?_
      refine plan_act ?_
      intro Q4 hQ4
      simp only [sel, List.getElem?_toArray, List.getElem?_cons_zero, List.getElem?_cons_succ]
      have hz1 : Hid ((pts0.length + 1) * 32 ≤ 140737488355328) := by show _ ≤ _; omega
      have hz2 : Hid (pts0.length + 1 ≤ maxLen) := by show _ ≤ _; unfold maxLen; omega
      have hz3 := Lib.hid hx9.out.size
      go_wp2_with (at_builtin; refine wpList_append_sl rfl _ _ 46 rfl w7.heap.size 50 Try.underlying46 infoAr rfl (by decide) _ _ _ rfl hown9.out _ _ _ (ac ⟨tim, val, now, came⟩) rfl hsrc9.out (by intro u hu; simp [ac] at hu; rcases hu with rfl | rfl | rfl | rfl <;> rfl) hz1.out hz2.out hz3.out ?_; intro v10 w10 hown10 hgrow10)
      have hx10 := Lib.hid (hx9.out.grown hgrow10 (fun k e => owns_row hown9.out k e))
      obtain ⟨a10, c10, hv10, _⟩ := Sl.of_owns hown10
      subst hv10
      have hown10h : Hid (ORow ac 4 w10 w7.heap.size 50 (.slice a10 (pts0.length + 1) c10) (pts0 ++ [⟨tim, val, now, came⟩])) := by
        show _
        unfold ORow
        rw [rcells_append, show rcells ac [(⟨tim, val, now, came⟩ : Ar)] = ac ⟨tim, val, now, came⟩ by simp [rcells], List.length_append]
        exact hown10
      clear hown10 hgrow10 hz1 hz2 hz3
      refine hQ4 _ _ (hSx.out _ hx10.out) ?_
      refine plan_tail ?_
      simp only [List.drop_succ_cons, List.drop_zero]
      have hb10 := (hx10.out.block _ (lt_of_block hb7)).trans hb7
      have hr10 := (hx10.out.block _ (lt_of_block hr7)).trans hr7
      obtain ⟨⟨y0, y1, y2, y3⟩, ⟨u0, u1, u2, u3⟩⟩ := cells_four hb10
      obtain ⟨⟨z0, z1, z2, z3⟩, ⟨f0, f1, f2, f3⟩⟩ := cells_four hr10
      have own10 := Lib.hid (ORow.ext own7.out hx10.out)
      have hcur10 := (hx10.out.block _ (lt_of_block hcur)).trans hcur
      have dd1 := hx10.out.cell d1
      have fd1 : w10.frozen? ⟨g7, i * 2 + 1, none⟩ = false := by simp [World.frozen?, hcur10]
      have hlg := World.block_lt_of_cell? w10 _ dd1
      have hlb := World.block_lt_of_cell? w10 _ y1
      have ne1 : ¬ g7 = w.heap.size := fun e => by rw [e, hb10] at hcur10; cases hcur10
      have ne2 : ¬ w.heap.size = g7 := fun e => ne1 e.symm
      have ne3 : ¬ g7 = w.heap.size + 1 + 1 := fun e => by rw [e, hr10] at hcur10; cases hcur10
      have ne4 : ¬ w.heap.size + 1 + 1 = g7 := fun e => ne3 e.symm
      have hgst := put_grownBy w10 g7 (i * 2 + 1) (.slice a10 (pts0.length + 1) c10)
      go_wp2_with fail
      have hres := (hgst.block _ (lt_of_block hr10) (by simp; exact ne4)).trans hr10
      have hw9 : put4 (w10.setCell ⟨g7, i * 2 + 1, none⟩ (.slice a10 (pts0.length + 1) c10)) (w.heap.size + 1 + 1) (.int .i64 m) (.slice (some ⟨g7, 0, none⟩) M1.length cI) (.int .i64 (came + 1)) (.int .i64 dropped) = ((((w10.setCell ⟨g7, i * 2 + 1, none⟩ (.slice a10 (pts0.length + 1) c10)).setCell ⟨w.heap.size + 1 + 1, 0, none⟩ (.int .i64 m)).setCell ⟨w.heap.size + 1 + 1, 1, none⟩ (.slice (some ⟨g7, 0, none⟩) M1.length cI)).setCell ⟨w.heap.size + 1 + 1, 2, none⟩ (.int .i64 (came + 1))).setCell ⟨w.heap.size + 1 + 1, 3, none⟩ (.int .i64 dropped) := rfl
      have hg9 := put4_grownBy (w10.setCell ⟨g7, i * 2 + 1, none⟩ (.slice a10 (pts0.length + 1) c10)) (w.heap.size + 1 + 1) (.int .i64 m) (.slice (some ⟨g7, 0, none⟩) M1.length cI) (.int .i64 (came + 1)) (.int .i64 dropped)
      have hh9 := put4_block hres (.int .i64 m) (.slice (some ⟨g7, 0, none⟩) M1.length cI) (.int .i64 (came + 1)) (.int .i64 dropped)
      rw [← hw9]
      obtain ⟨w9, hw9e⟩ : ∃ w9, put4 (w10.setCell ⟨g7, i * 2 + 1, none⟩ (.slice a10 (pts0.length + 1) c10)) (w.heap.size + 1 + 1) (.int .i64 m) (.slice (some ⟨g7, 0, none⟩) M1.length cI) (.int .i64 (came + 1)) (.int .i64 dropped) = w9 := ⟨_, rfl⟩
      rw [hw9e] at hg9 hh9 ⊢
      obtain ⟨⟨q0, q1, q2, q3⟩, _⟩ := cells_four hh9
      refine bodyPost_ret (v := .tuple #[.agg #[.int .i64 m, .slice (some ⟨g7, 0, none⟩) M1.length cI, .int .i64 (came + 1), .int .i64 dropped], .bool true, .int .i64 0]) (by simp [results, Try.results11, go_sem, q0, q1, q2, q3]) rfl ?_
      have hX9 : Ext w w9 := ((hX7.trans hx10.out).grown hgst (fun k e => by cases e; have h1 := owns_row own10.out g7 rfl; have h2 := hX5.size; omega)).grown hg9 (fun k e => by cases e; omega)
      have o1 : ORow wc 2 (w10.setCell ⟨g7, i * 2 + 1, none⟩ (.slice a10 (pts0.length + 1) c10)) w5.heap.size 59 (.slice (some ⟨g7, 0, none⟩) M1.length cI) (M1.set i ((s, pts0 ++ [(⟨tim, val, now, came⟩ : Ar)]), (a10, pts0.length + 1, c10))) := by
        have h1 := (World.ownsRow.stored own10.out (i * 2 + 1) (.slice a10 (pts0.length + 1) c10)).1
        rw [rcells_set wc 2 wc_len M1 i hi1 1 _ ((s, pts0 ++ [(⟨tim, val, now, came⟩ : Ar)]), (a10, pts0.length + 1, c10)) (by decide) (by rw [hMih.out, hs1h.out]; rfl)] at h1
        unfold ORow
        rw [List.length_set]
        exact h1
      have o2 := owns_beside o1 (owns_other o1 hres (by decide)) hg9
      have p1 := owns_beside hown10h.out (owns_other hown10h.out hcur10 (by decide)) hgst
      have p2 := owns_beside p1 (owns_other p1 hres (by decide)) hg9
      obtain ⟨_, _, e2, r2⟩ := Sl.of_owns o2
      obtain ⟨_, _, e3, r3⟩ := Sl.of_owns p2
      rw [List.length_set] at e2 r2
      cases e2
      have e3' : pts0.length + 1 = (pts0 ++ [(⟨tim, val, now, came⟩ : Ar)]).length := by simp
      rw [← e3'] at e3 r3
      cases e3
      refine ⟨_, _, _, M1.set i ((s, pts0 ++ [(⟨tim, val, now, came⟩ : Ar)]), (a10, pts0.length + 1, c10)), rfl, ⟨r2, fun x hx => ?_⟩, ?_, fun B hB hav => ⟨av_own own10.out (by have h2 := hX5.size; omega), fun y hy x hx => ?_⟩, hX9⟩
      · rcases List.mem_or_eq_of_mem_set hx with hx | rfl
        · exact (hAs x hx).ext hX9
        · exact r3
      · exact (by rw [show pts0 = [] by have h1 := hMih.out; rw [hgetih.out] at h1; cases h1; rfl]; exact hwsnh.out _)
      · rcases List.mem_or_eq_of_mem_set hy with hy | rfl
        · exact hAv B hB hav y hy x hx
        · exact av_own hown10h.out (by have h2 := hX7.size; omega) x hx


/-- The code's Add. -/
theorem add_calls (m : Int) (a : Option Addr) (n c : Nat) (came dropped : Int) (M : List Wh) (s : List UInt8) (val tim now : Int) (w : World) (hb : Cw w a n c M) (hs : s.length ≤ 140737488355328) :
    Calls Try.prog 11 #[cav m a n c came dropped, .agg #[.string ⟨s.toArray⟩, .int .i64 val, .int .i64 tim], .int .i64 now] w (AddPost m a M (addC ⟨m, ws M, came, dropped⟩ s tim val now) w) := by
  unfold addC
  by_cases h1 : nmd s = false ∨ crtC ⟨m, ws M, came, dropped⟩ = false
  · rw [if_pos h1]
    exact add_no m a n c came dropped M s val tim now w hb hs h1
  · rw [if_neg h1]
    simp only [not_or, Bool.not_eq_false] at h1
    by_cases h2 : came = 1099511627776
    · rw [if_pos h2]
      exact add_range m a n c came dropped M s val tim now w hb hs h1.1 h1.2 h2
    · rw [if_neg h2]
      by_cases h3 : (cnt (ws M) : Int) = m
      · rw [if_pos h3]
        exact add_full m a n c came dropped M s val tim now w hb hs h1.1 h1.2 h2 h3
      · rw [if_neg h3]
        exact add_kept m a n c came dropped M s val tim now w hb hs h1.1 h1.2 h2 h3

end Go.Proofs.Ytcbjadmngkednaa

/-
  The reader: a head.
-/
import Derived.Test.YtkflikfcpdekdaaDoorSegRd
import Derived.Deep.RegionLaw
import Derived.Deep.DeepCutAuto
import Derived.Outline
namespace Go.Proofs.YtkflikfcpdekdaaDoor
open Go.RowKit

theorem infoRung : (Tryd.prog.info? 68).map (fun i => (i.zero, i.size, i.bytes)) = some (some (.agg #[.int .i64 0, .int .i64 0]), 2, 16) := by kernel_rfl
theorem rgc_append (l m : List (Int × Int)) : rgc (l ++ m) = rgc l ++ rgc m := by simp [rgc]
theorem rds_set {w0 w : World} {R X i : Nat} {s : List UInt8 × Bool} (h : RdS w0 w R s) (hX : w0.heap.size ≤ X) (hne : X ≠ R) (v : Value) : RdS w0 (w.setCell ⟨X, i, none⟩ v) R s := by
  obtain ⟨hx, hR, a, n, c, hh, hb⟩ := h
  exact ⟨hx.set X i v hX, hR, a, n, c, by rw [Below.heap_setCell _ _ _ _ (Ne.symm hne)]; exact hh, hb⟩
/-- What a head's reading leaves as it was: all blocks that were there, but the reader's and the record's. -/
def But2 (w w' : World) (R X : Nat) : Prop := w.heap.size ≤ w'.heap.size ∧ ∀ k, k < w.heap.size → k ≠ R → k ≠ X → w'.heap[k]? = w.heap[k]?
theorem But2.refl (w : World) (R X : Nat) : But2 w w R X := ⟨Nat.le_refl _, fun _ _ _ _ => rfl⟩
theorem But2.grown {w w1 w2 : World} {R X : Nat} {row : Option Nat} (h : But2 w w1 R X) (hg : w1.grownBy w2 row) (hr : ∀ k, row = some k → k = R ∨ k = X ∨ w.heap.size ≤ k) : But2 w w2 R X :=
  ⟨Nat.le_trans h.1 hg.size, fun k hk h1 h2 => by
    rw [hg.block k (by have := h.1; omega) (fun e => by rcases hr k e.symm with h | h | h; exact h1 h; exact h2 h; omega)]
    exact h.2 k hk h1 h2⟩
theorem But2.alloc {w w1 : World} {R X : Nat} (h : But2 w w1 R X) (o : Obj) : But2 w (w1.alloc o) R X := h.grown (World.grownBy_alloc w1 o none) (fun _ e => by cases e)
/-- The record at X. -/
def recCells (r : Rec) (v : Value) : Array Value :=
  #[.int .i64 r.kind, .string ⟨r.path.toArray⟩, .int .i64 r.method, .int .i64 r.factor, v, .int .i64 r.rung, .int .i64 r.time, .int .i64 r.now, .int .i64 r.value]

/-- 'append(l, Rung{x, y})': the run. -/
theorem run_append_rung {w : World} {base : Nat} {v : Value} {l : List (Int × Int)} (hown : w.ownsRow base 68 2 v l.length (rgc l)) (hl : l.length ≤ 1000) (hbase : base ≤ w.heap.size) (x y : Int) (ty : TypeId) :
    ∃ a' c' w', (Builtin.append_ #[46, 46] ty #[v, .slice (some ⟨w.heap.size, 0, none⟩) 1 1]).run Tryd.prog (w.alloc (.cells #[.int .i64 x, .int .i64 y] 68)) = .ok (.slice a' (l.length + 1) c') w' ∧
      w'.ownsRow base 68 2 (.slice a' (l.length + 1) c') (l ++ [(x, y)]).length (rgc (l ++ [(x, y)])) ∧ w.grownBy w' v.ownBlock := by
  obtain ⟨i, hi0, hz0, hz1, hz2⟩ := info_parts infoRung
  obtain ⟨v', w', hr, h2, h3, _⟩ := run_append_own (P := Tryd.prog) (w.alloc (.cells #[.int .i64 x, .int .i64 y] 68)) base 46 ty 68 i (.agg #[.int .i64 0, .int .i64 0]) 2 16 Tryd.underlying46 hi0 hz0 hz1 hz2 rfl (by decide) v l.length (rgc l) (owns_ext hown (Ext.alloc _ _)) ⟨w.heap.size, 0, none⟩ 1 1 [.int .i64 x, .int .i64 y] rfl (World.news_of_block (cs := #[.int .i64 x, .int .i64 y]) (heap_alloc_new w _)) (by intro u hu; simp at hu; rcases hu with rfl | rfl <;> rfl) (by unfold maxLen; omega) (by omega) (by simp; omega)
  have h2' : w'.ownsRow base 68 2 v' (l ++ [(x, y)]).length (rgc (l ++ [(x, y)])) := by
    rw [rgc_append, List.length_append]; exact h2
  obtain ⟨a', c', rfl, -⟩ := Sl.of_owns h2'
  exact ⟨a', c', w', by simpa using hr, by simpa using h2', (World.grownBy_alloc w _ _).trans h3⟩

set_option maxRecDepth 100000 in
set_option maxHeartbeats 3200000 in
theorem rdhead_calls (w0 w : World) (R X : Nat) (s : List UInt8 × Bool) (hs : RdS w0 w R s) (hX : w0.heap.size ≤ X) (hne : X ≠ R)
    (hx0 : w.heap[X]? = some (.cells (recCells ⟨1, [], 0, 0, [], 0, 0, 0, 0⟩ (.slice none 0 0)) 48 (0, 0))) (z : Rec × (List UInt8 × Bool)) (hz : rdHead s = z) :
    Calls Tryd.prog 66 #[.pointer (some ⟨R, 0, none⟩), .pointer (some ⟨X, 0, none⟩)] w fun e w' => e = .returned (.tuple #[]) ∧ RdS w0 w' R z.2 ∧ But2 w w' R X ∧
      ∃ v, w'.heap[X]? = some (.cells (recCells z.1 v) 48 (0, 0)) ∧ w'.ownsRow w.heap.size 68 2 v z.1.rungs.length (rgc z.1.rungs) := by
  obtain ⟨n, q, m, f, k, l, e1, e2, e3, e4, e5, e6, he⟩ := rdHead_eq s
  have HZ : Hid (z = (⟨1, q.1, m.1, f.1, l.1, 0, 0, 0, 0⟩, l.2)) := by show _ = _; rw [← hz, he]
  have gn : 0 ≤ n.1 := by rw [← e1]; exact rdNum_nonneg 2 s (by decide)
  have gk : 0 ≤ k.1 ∧ k.1 < 256 := by
    rw [← e5]
    refine ⟨rdNum_nonneg 1 _ (by decide), ?_⟩
    have h1 := rdTake_le 1 f.2
    have h2 := rdn_lt (rdTake ((1 : Nat) : Int) f.2).1
    have h3 : 256 ^ (rdTake ((1 : Nat) : Int) f.2).1.length ≤ 256 ^ 1 := Nat.pow_le_pow_right (by decide) h1
    show num _ < 256
    unfold num wrap64
    omega
  obtain ⟨n', hn'⟩ : ∃ n' : Nat, n.1 = (n' : Int) := ⟨n.1.toNat, by omega⟩
  rw [hn'] at e2
  obtain ⟨k', hk'⟩ : ∃ k' : Nat, k.1 = (k' : Int) := ⟨k.1.toNat, by omega⟩
  rw [hk', Int.toNat_natCast] at e6
  rw [hk'] at gk
  clear hz he gn
  have hn' := Lib.hid hn'
  have hk' := Lib.hid hk'
  have hxlt : X < w.heap.size := (Array.getElem?_eq_some_iff.1 hx0).1
  go_enter Tryd.func66, Tryd.ntmps66
  go_wp2_with fail
  refine (rdnumber_calls w0 w R s 2 (by decide) n e1 hs).mono ?_
  rw [hn'.out]
  rintro e w1 ⟨rfl, hs1, hg1⟩
  have b1 := (But2.refl w R X).grown hg1 (fun k e => by cases e; exact .inl rfl)
  have hx1 := hg1.block X hxlt (by simp [hne])
  rw [hx0] at hx1
  go_wp2_with fail
  refine (rdtake_calls w0 w1 R n.2 n' q e2 hs1).mono ?_
  rintro e w2 ⟨a2, n2, c2, rfl, hb2, hs2, hg2⟩
  have b2 := b1.grown hg2 (fun k e => by cases e; exact .inl rfl)
  have hx2 := hg2.block X (by have := b1.1; omega) (by simp [hne])
  rw [hx1] at hx2
  have hst := Bs.string (P := Tryd.prog) (hb2.ext hs2.1) 22 5 9 Tryd.underlying22 Tryd.underlying5 Tryd.underlying9
  obtain ⟨d1, g1⟩ := cell0 hx2 1 (.string ⟨([] : List UInt8).toArray⟩) rfl
  have hs3 := rds_set (i := 1) hs2 hX hne (.string ⟨q.1.toArray⟩)
  have b3 := b2.grown (grownBy_set1 w2 X 1 (.string ⟨q.1.toArray⟩)) (fun k e => by cases e; exact .inr (.inl rfl))
  have hx3 := heap_set (i := 1) hx2 (.string ⟨q.1.toArray⟩)
  clear hs hs1 hs2 b1 b2 hx0 hx1 hx2 hg1 hg2 hb2
  go_wp2_with fail
  refine (rdnumber_calls w0 _ R q.2 1 (by decide) m e3 hs3).mono ?_
  rintro e w4 ⟨rfl, hs4, hg4⟩
  have b4 := b3.grown hg4 (fun k e => by cases e; exact .inl rfl)
  have hx4 := hg4.block X (by simp; have := b3.1; simp at this; omega) (by simp [hne])
  rw [hx3] at hx4
  obtain ⟨d4, g4⟩ := cell0 hx4 2 (.int .i64 0) rfl
  have hs5 := rds_set (i := 2) hs4 hX hne (.int .i64 m.1)
  have b5 := b4.grown (grownBy_set1 w4 X 2 (.int .i64 m.1)) (fun k e => by cases e; exact .inr (.inl rfl))
  have hx5 := heap_set (i := 2) hx4 (.int .i64 m.1)
  clear hs3 hs4 b3 b4 hx3 hx4 hg4 d1 g1 hst
  go_wp2_with fail
  refine (rdnumber_calls w0 _ R m.2 4 (by decide) f e4 hs5).mono ?_
  rintro e w6 ⟨rfl, hs6, hg6⟩
  have b6 := b5.grown hg6 (fun k e => by cases e; exact .inl rfl)
  have hx6 := hg6.block X (by simp; have := b5.1; simp at this; omega) (by simp [hne])
  rw [hx5] at hx6
  obtain ⟨d6, g6⟩ := cell0 hx6 3 (.int .i64 0) rfl
  have hs7 := rds_set (i := 3) hs6 hX hne (.int .i64 f.1)
  have b7 := b6.grown (grownBy_set1 w6 X 3 (.int .i64 f.1)) (fun k e => by cases e; exact .inr (.inl rfl))
  have hx7 := heap_set (i := 3) hx6 (.int .i64 f.1)
  clear hs5 hs6 b5 b6 hx5 hx6 hg6 d4 g4
  go_wp2_with fail
  refine (rdnumber_calls w0 _ R f.2 1 (by decide) k e5 hs7).mono ?_
  rw [hk'.out]
  rintro e w8 ⟨rfl, hs8, hg8⟩
  have b8 := b7.grown hg8 (fun k e => by cases e; exact .inl rfl)
  have hx8 := hg8.block X (by simp; have := b7.1; simp at this; omega) (by simp [hne])
  rw [hx7] at hx8
  have hx9 : w8.heap[X]? = some (.cells (recCells ⟨1, q.1, m.1, f.1, [], 0, 0, 0, 0⟩ (.slice none 0 0)) 48 (0, 0)) := by rw [hx8]; rfl
  clear hs7 b7 hx7 hg8 d6 g6 hx8
  go_wp2_with fail
  go_loopw [4] (fun i wr => ∃ (j : Nat) (acc : List (Int × Int)) (s : List UInt8 × Bool) (v : Value), i = .int .i64 j ∧ rdRungs j acc s = l ∧ RdS w0 wr R s ∧ But2 w wr R X ∧
      wr.heap[X]? = some (.cells (recCells ⟨1, q.1, m.1, f.1, [], 0, 0, 0, 0⟩ v) 48 (0, 0)) ∧ wr.ownsRow w.heap.size 68 2 v acc.length (rgc acc) ∧ acc.length + j ≤ 255) (fun i _ => (intOf i).toNat)
  case atStart => exact ⟨k', [], k.2, .slice none 0 0, rfl, e6, hs8, b8, hx9, World.ownsRow_nil _ _ _ _, by simp; omega⟩
  case round =>
    obtain ⟨j, acc, ⟨sl, sb⟩, v, rfl, hrr, hsr, hbr, hxr, hown, hlen⟩ := hrel
    obtain ⟨av, cv, rfl, -⟩ := Sl.of_owns hown
    have hrr := Lib.hid hrr
    clear hs8 b8 hx9 e1 e2 e3 e4 e5 e6
    cases j with
    | zero =>
      have HL : Hid (l = (acc, (sl, sb))) := by show _ = _; rw [← hrr.out]; rfl
      go_wp2
      go_end0
      exact ⟨rfl, by rw [HZ.out, HL.out]; exact hsr, hbr, _, by rw [HZ.out]; exact hxr, by rw [HZ.out, HL.out]; exact hown⟩
    | succ j =>
      have c1 : wr.cell? ⟨R, 1, none⟩ = some (.bool sb) := by obtain ⟨_, _, _, _, _, hh, _⟩ := hsr; exact (cell0 hh 1 _ rfl).1
      have hj0 : (0 : Int) < ((j + 1 : Nat) : Int) := by omega
      cases sb with
      | true =>
        have HL : Hid (l = (acc, (sl, true))) := by show _ = _; rw [← hrr.out]; rfl
        go_wp2
        go_end0
        exact ⟨rfl, by rw [HZ.out, HL.out]; exact hsr, hbr, _, by rw [HZ.out]; exact hxr, by rw [HZ.out, HL.out]; exact hown⟩
      | false =>
        obtain ⟨x, hx⟩ : ∃ x, rdNum 4 (sl, false) = x := ⟨_, rfl⟩
        obtain ⟨y, hy⟩ : ∃ y, rdNum 2 x.2 = y := ⟨_, rfl⟩
        have HL : Hid (rdRungs j (acc ++ [(x.1, y.1)]) y.2 = l) := by
          show _ = _
          have := hrr.out
          rw [rdRungs, if_neg (by simp), hx, hy] at this
          exact this
        clear hrr
        go_wp2_with fail
        refine (rdnumber_calls w0 _ R _ 4 (by decide) x hx hsr).mono ?_
        rintro e wa ⟨rfl, hsa, hga⟩
        have ba := hbr.grown hga (fun k e => by cases e; exact .inl rfl)
        have hxa := hga.block X (by have := hbr.1; omega) (by simp [hne])
        rw [hxr] at hxa
        have hnR : (Value.slice av acc.length cv).ownBlock ≠ some R := by obtain ⟨_, _, _, _, _, hh, _⟩ := hsr; exact own_ne hown hh (by decide)
        have hoa := hown.kept hga (.inr hnR)
        obtain ⟨da, ga⟩ := cell0 hxa 4 (.slice av acc.length cv) rfl
        clear hsr hbr hxr hown c1
        go_wp2_with fail
        have hsd : RdS w0 wa.drew R x.2 := ⟨hsa.1.drew, hsa.2.1, hsa.2.2⟩
        have bd : But2 w wa.drew R X := ⟨ba.1, ba.2⟩
        have hxd : wa.drew.heap[X]? = some (.cells (recCells ⟨1, q.1, m.1, f.1, [], 0, 0, 0, 0⟩ (.slice av acc.length cv)) 48 (0, 0)) := hxa
        have hod : wa.drew.ownsRow w.heap.size 68 2 (.slice av acc.length cv) acc.length (rgc acc) := owns_ext hoa (Ext.refl _).drew
        have hxd := Lib.hid hxd
        go_region_law (first
          | (refine step_builtin2 rfl (.tmp 43) (.tmp 48) 46 46 rfl rfl rfl hrun.out ?_)
          | (go_simp; go_at_call 65; refine (rdnumber_calls w0 _ R x.2 2 (by decide) y hy hsd).mono ?_; rintro e wb ⟨rfl, hsb, hgb⟩; have bb := bd.grown hgb (fun k e => by cases e; exact .inl rfl); have hxb := hgb.block X (by have := bd.1; omega) (by simp [hne]); rw [hxd.out] at hxb; have hob := hod.kept hgb (.inr hnR); obtain ⟨db, gb⟩ := cell0 hxb 4 (.slice av acc.length cv) rfl; have db2 := (Ext.alloc wb (.cells #[.int .i64 x.1, .int .i64 y.1] 68)).cell db; obtain ⟨a', c', wc, hrun, hoc, hgc⟩ := run_append_rung hob (by omega) bb.1 x.1 y.1 46; have hrun := Lib.hid hrun; have bc := bb.grown hgc (fun k e => .inr (.inr (owns_row hob k e))); have hxc := hgc.block X (by have := bb.1; omega) (Ne.symm (own_ne hob hxb (by decide))); rw [hxb] at hxc; obtain ⟨dc, gc⟩ := cell0 hxc 4 (.slice av acc.length cv) rfl; have hsc : RdS w0 wc R y.2 := (by obtain ⟨h1, h2, a3, n3, c3, h4, h5⟩ := hsb; exact ⟨h1.grown hgc (fun k e => by have := owns_row hob k e; have := hxlt; omega), h2, a3, n3, c3, (by rw [hgc.block R (Array.getElem?_eq_some_iff.1 h4).1 (Ne.symm (own_ne hob h4 (by decide)))]; exact h4), h5⟩); have hse := rds_set (i := 4) hsc hX hne (.slice a' (acc.length + 1) c'); have hxe := heap_set (i := 4) hxc (.slice a' (acc.length + 1) c'); have be := bc.grown (grownBy_set1 wc X 4 (.slice a' (acc.length + 1) c')) (fun k e => by cases e; exact .inr (.inl rfl)); have hoe := ownsRow_setCell_other hoc (a := ⟨X, 4, none⟩) (own_ne hoc hxc (by decide)) (.slice a' (acc.length + 1) c'); have hxe := Lib.hid hxe; clear hsb hgb bb hxb hob hoc hgc bc hxc hsc))
        all_goals
          go_wp2_with fail
          go_roundw
          case rel => exact ⟨j, _, y.2, _, by go_num, HL.out, hse, be, hxe.out, hoe, by simp; omega⟩
          case measure => first | (simp [intOf]; done) | (simp [intOf]; omega)
end Go.Proofs.YtkflikfcpdekdaaDoor

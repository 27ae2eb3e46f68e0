/-
  A segment's scan: the program's.
-/
import Derived.Test.YtkflikfcpdekdaaDoorNext
namespace Go.Proofs.YtkflikfcpdekdaaDoor
open Go.RowKit

theorem heap_set9 {w : World} {b : Nat} {t : TypeId} {u0 u1 u2 u3 u4 u5 u6 u7 u8 : Value} (hb : w.heap[b]? = some (.cells #[u0, u1, u2, u3, u4, u5, u6, u7, u8] t (0, 0))) (v0 v1 v2 v3 v4 v5 v6 v7 v8 : Value) :
    (((((((((w.setCell ⟨b, 0, none⟩ v0).setCell ⟨b, 1, none⟩ v1).setCell ⟨b, 2, none⟩ v2).setCell ⟨b, 3, none⟩ v3).setCell ⟨b, 4, none⟩ v4).setCell ⟨b, 5, none⟩ v5).setCell ⟨b, 6, none⟩ v6).setCell ⟨b, 7, none⟩ v7).setCell ⟨b, 8, none⟩ v8).heap[b]? = some (.cells #[v0, v1, v2, v3, v4, v5, v6, v7, v8] t (0, 0)) := by
  have h0 := heap_set (i := 0) hb v0
  have h1 := heap_set (i := 1) h0 v1
  have h2 := heap_set (i := 2) h1 v2
  have h3 := heap_set (i := 3) h2 v3
  have h4 := heap_set (i := 4) h3 v4
  have h5 := heap_set (i := 5) h4 v5
  have h6 := heap_set (i := 6) h5 v6
  have h7 := heap_set (i := 7) h6 v7
  have h8 := heap_set (i := 8) h7 v8
  simpa using h8
theorem infoRec : (Tryd.prog.info? 48).map (fun i => (i.zero, i.size, i.bytes)) = some (some (.agg #[.int .i64 0, .string ⟨#[]⟩, .int .i64 0, .int .i64 0, .slice none 0 0, .int .i64 0, .int .i64 0, .int .i64 0, .int .i64 0]), 9, 96) := by kernel_rfl
/-- 'append(l, r)', of records: the run. -/
theorem run_append_rec {w : World} {base : Nat} {v : Value} {M : List El} (hown : w.ownsRow base 48 9 v M.length (lcells M)) (hl : M.length ≤ 1000000) (hbase : base ≤ w.heap.size) (e : El) (ty : TypeId) :
    ∃ a' c' w', (Builtin.append_ #[51, 51] ty #[v, .slice (some ⟨w.heap.size, 0, none⟩) 1 1]).run Tryd.prog (w.alloc (.cells (recCells e.1 (.slice e.2.1 e.2.2.1 e.2.2.2)) 48)) = .ok (.slice a' (M.length + 1) c') w' ∧
      w'.ownsRow base 48 9 (.slice a' (M.length + 1) c') (M ++ [e]).length (lcells (M ++ [e])) ∧ w.grownBy w' v.ownBlock := by
  obtain ⟨i, hi0, hz0, hz1, hz2⟩ := info_parts infoRec
  obtain ⟨v', w', hr, h2, h3, _⟩ := run_append_own (P := Tryd.prog) (w.alloc (.cells (recCells e.1 (.slice e.2.1 e.2.2.1 e.2.2.2)) 48)) base 51 ty 48 i (.agg #[.int .i64 0, .string ⟨#[]⟩, .int .i64 0, .int .i64 0, .slice none 0 0, .int .i64 0, .int .i64 0, .int .i64 0, .int .i64 0]) 9 96 Tryd.underlying51 hi0 hz0 hz1 hz2 rfl (by decide) v M.length (lcells M) (owns_ext hown (Ext.alloc _ _)) ⟨w.heap.size, 0, none⟩ 1 1 (ecells e) (by rw [ecells_length]) (World.news_of_block (cs := recCells e.1 (.slice e.2.1 e.2.2.1 e.2.2.2)) (heap_alloc_new w _)) (ecells_one e) (by unfold maxLen; omega) (by omega) (by simp; omega)
  have h2' : w'.ownsRow base 48 9 v' (M ++ [e]).length (lcells (M ++ [e])) := by
    rw [lcells_append, lcells_one, List.length_append]; exact h2
  obtain ⟨a', c', rfl, -⟩ := Sl.of_owns h2'
  exact ⟨a', c', w', by simpa using hr, by simpa using h2', (World.grownBy_alloc w _ _).trans h3⟩
/-- Records in a row of the call's own. -/
def Rcf (w : World) (base : Nat) (a : Option Addr) (n c : Nat) (M : List El) : Prop := M.length = n ∧ w.ownsRow base 48 9 (.slice a n c) n (lcells M) ∧ ∀ e ∈ M, Rt w e.2.1 e.2.2.1 e.2.2.2 e.1.rungs
theorem Rcf.rcs {w : World} {base : Nat} {a : Option Addr} {n c : Nat} {M : List El} (h : Rcf w base a n c M) : Rcs w a n c M := by
  obtain ⟨h0, h1, h2⟩ := h
  obtain ⟨a', c', hv, hs⟩ := Sl.of_owns h1
  cases hv
  exact ⟨hs, fun e he => (h2 e he).1⟩
theorem rcf_nil (w : World) (base : Nat) : Rcf w base none 0 0 [] := ⟨rfl, World.ownsRow_nil _ _ _ _, fun _ h => by cases h⟩
theorem rcf_of_own {w : World} {base base' : Nat} {a : Option Addr} {c : Nat} {M : List El} (h : w.ownsRow base 48 9 (.slice a M.length c) M.length (lcells M)) (hb : base' ≤ base) (hg : ∀ e ∈ M, Rt w e.2.1 e.2.2.1 e.2.2.2 e.1.rungs) : Rcf w base' a M.length c M := by
  refine ⟨rfl, ⟨h.1, ?_⟩, hg⟩
  rcases h.2 with h | ⟨g, cap, cur, hv, hg, r⟩
  · exact .inl h
  · exact .inr ⟨g, cap, cur, hv, Nat.le_trans hb hg, r⟩
theorem rcf_ext {w w' : World} {base : Nat} {a : Option Addr} {n c : Nat} {M : List El} (h : Rcf w base a n c M) (hx : Ext w w') : Rcf w' base a n c M := ⟨h.1, owns_ext h.2.1 hx, fun e he => rt_ext (h.2.2 e he) hx⟩
/-- What a scan hands back. -/
def ScanOut (w w' : World) (z : Rec × List Rec × Nat × Int) (e : Ending) : Prop :=
  ∃ (a1 : Option Addr) (n1 c1 : Nat) (a2 : Option Addr) (n2 c2 : Nat) (M : List El), e = .returned (.tuple #[rv z.1 a1 n1 c1, .slice a2 n2 c2, .int .i64 z.2.2.1, .int .i64 z.2.2.2]) ∧ Rt w' a1 n1 c1 z.1.rungs ∧ Rcf w' w.heap.size a2 n2 c2 M ∧ M.map (·.1) = z.2.1 ∧ Ext w w'
theorem rcs_nil (w : World) : Rcs w none 0 0 [] := ⟨⟨rfl, Nat.le_refl _, Nat.zero_le _, fun _ => rfl, fun h => absurd h (by omega)⟩, fun _ h => by cases h⟩
theorem rcs_of_own {w : World} {base : Nat} {a : Option Addr} {n c : Nat} {M : List El} (h : w.ownsRow base 48 9 (.slice a n c) M.length (lcells M)) (hg : ∀ e ∈ M, Rt w e.2.1 e.2.2.1 e.2.2.2 e.1.rungs) : Rcs w a n c M := by
  obtain ⟨a', c', hv, hs⟩ := Sl.of_owns h
  cases hv
  exact ⟨hs, fun e he => (hg e he).1⟩
theorem size9 (w : World) (b : Nat) (v0 v1 v2 v3 v4 v5 v6 v7 v8 : Value) : (((((((((w.setCell ⟨b, 0, none⟩ v0).setCell ⟨b, 1, none⟩ v1).setCell ⟨b, 2, none⟩ v2).setCell ⟨b, 3, none⟩ v3).setCell ⟨b, 4, none⟩ v4).setCell ⟨b, 5, none⟩ v5).setCell ⟨b, 6, none⟩ v6).setCell ⟨b, 7, none⟩ v7).setCell ⟨b, 8, none⟩ v8).heap.size = w.heap.size := by simp [World.setCell]

set_option maxRecDepth 100000 in
set_option maxHeartbeats 3200000 in
theorem scan_calls (a : Option Addr) (n c : Nat) (l : List UInt8) (w : World) (hn : n ≤ 1000000) (ht : Tab w) (hb : Bs w a n c l) :
    Calls Tryd.prog 45 #[.slice a n c] w fun e w' => ScanOut w w' (segScan l) e := by
  have hlen := Lib.hid hb.len
  have hle := Sl.le hb
  have hmx := Sl.max hb
  unfold maxLen at hmx
  obtain ⟨z, hz⟩ : ∃ z, segScan l = z := ⟨_, rfl⟩
  rw [hz]
  cases hq : nxt l with
  | none =>
    have HE : Hid (z = (Rec.zero, [], 0, 7)) := by show _ = _; rw [← hz, segScan_none l hq]
    clear hz
    go_enter Tryd.func45, Tryd.ntmps45
    go_wp2_with fail
    refine (next_no a n c l _ (ht.ext (Ext.alloc _ _)) (hb.ext (Ext.alloc _ _)) hq).mono ?_
    rintro e w1 ⟨m, ⟨kind, path, method, factor, rungs, rung, time, now, value⟩, a1, n1, c1, rfl, hx1⟩
    unfold rv
    dsimp only
    have hB1 := hx1.block w.heap.size (by simp)
    rw [heap_alloc_new] at hB1
    have hxx := (Ext.alloc w _).trans hx1
    obtain ⟨y0, y1, y2, y3, y4, y5, y6, y7, y8⟩ := cells9 hB1
    obtain ⟨z0, z1, z2, z3, z4, z5, z6, z7, z8⟩ := frozen9 hB1
    have hB2 := heap_set9 hB1 (.int .i64 kind) (.string ⟨path.toArray⟩) (.int .i64 method) (.int .i64 factor) (.slice a1 n1 c1) (.int .i64 rung) (.int .i64 time) (.int .i64 now) (.int .i64 value)
    have hx2 := ext9 hxx (.int .i64 kind) (.string ⟨path.toArray⟩) (.int .i64 method) (.int .i64 factor) (.slice a1 n1 c1) (.int .i64 rung) (.int .i64 time) (.int .i64 now) (.int .i64 value)
    go_upto_region 2 with fail
    clear y0 y1 y2 y3 y4 y5 y6 y7 y8 z0 z1 z2 z3 z4 z5 z6 z7 z8
    obtain ⟨w2, hw2⟩ : ∃ w2, (((((((((w1.setCell ⟨w.heap.size, 0, none⟩ (.int .i64 kind)).setCell ⟨w.heap.size, 1, none⟩ (.string ⟨path.toArray⟩)).setCell ⟨w.heap.size, 2, none⟩ (.int .i64 method)).setCell ⟨w.heap.size, 3, none⟩ (.int .i64 factor)).setCell ⟨w.heap.size, 4, none⟩ (.slice a1 n1 c1)).setCell ⟨w.heap.size, 5, none⟩ (.int .i64 rung)).setCell ⟨w.heap.size, 6, none⟩ (.int .i64 time)).setCell ⟨w.heap.size, 7, none⟩ (.int .i64 now)).setCell ⟨w.heap.size, 8, none⟩ (.int .i64 value)) = w2 := ⟨_, rfl⟩
    rw [hw2] at hB2 hx2 ⊢
    clear hw2
    obtain ⟨y0, y1, y2, y3, y4, y5, y6, y7, y8⟩ := cells9 hB2
    obtain ⟨z0, z1, z2, z3, z4, z5, z6, z7, z8⟩ := frozen9 hB2
    clear hB2
    clear hB1 hx1 hq
    go_wp2_with fail
    refine bodyPost_ret (v := .tuple #[rv Rec.zero none 0 0, .slice none 0 0, .int .i64 0, .int .i64 7]) (by simp [results, Tryd.results45, go_sem, rv, Rec.zero, y0, y1, y2, y3, y4, y5, y6, y7, y8]) rfl ?_
    exact ⟨none, 0, 0, none, 0, 0, [], by rw [HE.out]; rfl, by rw [HE.out]; exact rt_nil _, rcf_nil _ _, by rw [HE.out]; rfl, ext9 hx2 _ _ _ _ _ _ _ _ _⟩
  | some rm =>
    obtain ⟨r, m⟩ := rm
    have hsz := nxt_some l r m hq
    rw [hlen.out] at hsz
    by_cases hk : r.kind = 1
    · have HZ : Hid (z = (r, (recs (l.drop m)).1, m + (recs (l.drop m)).2, 0)) := by show _ = _; rw [← hz, segScan_head l r m hq hk]
      clear hz
      go_enter Tryd.func45, Tryd.ntmps45
      go_wp2_with fail
      refine (next_yes a n c l _ (ht.ext (Ext.alloc _ _)) (hb.ext (Ext.alloc _ _)) r m hq).mono ?_
      obtain ⟨kind, path, method, factor, rungs, rung, time, now, value⟩ := r
      dsimp only at hk hsz
      subst hk
      rintro e w1 ⟨a1, n1, c1, rfl, hg1, hx1⟩
      unfold rv
      dsimp only
      have hB1 := hx1.block w.heap.size (by simp)
      rw [heap_alloc_new] at hB1
      have hxx := (Ext.alloc w _).trans hx1
      obtain ⟨y0, y1, y2, y3, y4, y5, y6, y7, y8⟩ := cells9 hB1
      obtain ⟨z0, z1, z2, z3, z4, z5, z6, z7, z8⟩ := frozen9 hB1
      have hB2 := heap_set9 hB1 (.int .i64 1) (.string ⟨path.toArray⟩) (.int .i64 method) (.int .i64 factor) (.slice a1 n1 c1) (.int .i64 rung) (.int .i64 time) (.int .i64 now) (.int .i64 value)
      have hg2 := rt_set9 hg1 hB1 (by decide) (.int .i64 1) (.string ⟨path.toArray⟩) (.int .i64 method) (.int .i64 factor) (.slice a1 n1 c1) (.int .i64 rung) (.int .i64 time) (.int .i64 now) (.int .i64 value)
      have hx2 := ext9 hxx (.int .i64 1) (.string ⟨path.toArray⟩) (.int .i64 method) (.int .i64 factor) (.slice a1 n1 c1) (.int .i64 rung) (.int .i64 time) (.int .i64 now) (.int .i64 value)
      have hs2 := size9 w1 w.heap.size (.int .i64 1) (.string ⟨path.toArray⟩) (.int .i64 method) (.int .i64 factor) (.slice a1 n1 c1) (.int .i64 rung) (.int .i64 time) (.int .i64 now) (.int .i64 value)
      have hs1 : w.heap.size + 1 ≤ w1.heap.size := by have := hx1.size; simpa using this
      rw [← hs2] at hs1
      clear hB1 hx1 hq hg1 hxx hs2
      go_wp2_with fail
      clear y0 y1 y2 y3 y4 y5 y6 y7 y8 z0 z1 z2 z3 z4 z5 z6 z7 z8
      obtain ⟨w2, hw2⟩ : ∃ w2, (((((((((w1.setCell ⟨w.heap.size, 0, none⟩ (.int .i64 1)).setCell ⟨w.heap.size, 1, none⟩ (.string ⟨path.toArray⟩)).setCell ⟨w.heap.size, 2, none⟩ (.int .i64 method)).setCell ⟨w.heap.size, 3, none⟩ (.int .i64 factor)).setCell ⟨w.heap.size, 4, none⟩ (.slice a1 n1 c1)).setCell ⟨w.heap.size, 5, none⟩ (.int .i64 rung)).setCell ⟨w.heap.size, 6, none⟩ (.int .i64 time)).setCell ⟨w.heap.size, 7, none⟩ (.int .i64 now)).setCell ⟨w.heap.size, 8, none⟩ (.int .i64 value)) = w2 := ⟨_, rfl⟩
      rw [hw2] at hB2 hg2 hx2 hs1 ⊢
      clear hw2
      go_loopw [3, 4] (fun v s wr => ∃ (M : List El) (k : Nat), s = .int .i64 k ∧ k ≤ n ∧ M.length ≤ k ∧ m ≤ k ∧ wr.ownsRow (w.heap.size + 1) 48 9 v M.length (lcells M) ∧ (∀ e ∈ M, Rt wr e.2.1 e.2.2.1 e.2.2.2 e.1.rungs) ∧
          wr.heap[w.heap.size]? = some (.cells #[.int .i64 1, .string ⟨path.toArray⟩, .int .i64 method, .int .i64 factor, .slice a1 n1 c1, .int .i64 rung, .int .i64 time, .int .i64 now, .int .i64 value] 48 (0, 0)) ∧ Rt wr a1 n1 c1 rungs ∧ Ext w wr ∧ w.heap.size + 1 ≤ wr.heap.size ∧
          recs (l.drop m) = (M.map (·.1) ++ (recs (l.drop k)).1, (k - m) + (recs (l.drop k)).2)) (fun _ s _ => n - (intOf s).toNat)
      case atStart => exact ⟨[], m, rfl, by omega, by simp, Nat.le_refl _, World.ownsRow_nil _ _ _ _, (fun _ h => by cases h), hB2, hg2, hx2, hs1, by simp⟩
      case round =>
        obtain ⟨M, k, rfl, hk, hMk, hmk, hown, hall, hBr, hgr, hxr, hsr, hrec⟩ := hrel
        obtain ⟨av, cv, rfl, -⟩ := Sl.of_owns hown
        have hbk : Bs wr (subA a c k 1) (n - k) (c - k) (l.drop k) := by
          have := (hb.ext hxr).sub k n hk (Nat.le_refl _)
          rwa [List.take_of_length_le (by rw [List.length_drop, hlen.out]; exact Nat.le_refl _)] at this
        have HR := Lib.hid hrec
        have hkc : (k : Int) ≤ (n : Int) := by omega
        clear hrec hB2 hg2 hx2 hs1
        cases hq2 : nxt (l.drop k) with
        | none =>
          have hr0 := recs_none _ hq2
          have HE : Hid (z = (⟨1, path, method, factor, rungs, rung, time, now, value⟩, M.map (·.1), k, 0)) := by show _ = _; rw [HZ.out, HR.out, hr0]; simp; omega
          clear hr0 HR HZ
          go_wp2_with fail
          refine (next_no _ _ _ _ wr (ht.ext hxr) hbk hq2).mono ?_
          rintro e w3 ⟨m2, ⟨kind2, path2, method2, factor2, rungs2, rung2, time2, now2, value2⟩, a3, n3, c3, rfl, hx3⟩
          unfold rv
          dsimp only
          have hx4 := hx3
          have ho4 := owns_ext hown hx4
          have hB4 := hx4.block _ (Array.getElem?_eq_some_iff.1 hBr).1
          rw [hBr] at hB4
          have hgr4 := rt_ext hgr hx4
          have hall4 : ∀ e ∈ M, Rt w3 e.2.1 e.2.2.1 e.2.2.2 e.1.rungs := fun e he => rt_ext (hall e he) hx4
          have hx5 := hxr.trans hx4
          have hsz3 : w.heap.size < w3.heap.size := by have := hx4.size; omega
          obtain ⟨y0, y1, y2, y3, y4, y5, y6, y7, y8⟩ := cells9 hB4
          obtain ⟨z0, z1, z2, z3, z4, z5, z6, z7, z8⟩ := frozen9 hB4
          clear hown hall hBr hgr hx4 hx3
          go_wp2_with fail
          refine bodyPost_ret (v := .tuple #[.agg #[.int .i64 1, .string ⟨path.toArray⟩, .int .i64 method, .int .i64 factor, .slice a1 n1 c1, .int .i64 rung, .int .i64 time, .int .i64 now, .int .i64 value], .slice av M.length cv, .int .i64 k, .int .i64 0]) (by simp [results, Tryd.results45, go_sem, y0, y1, y2, y3, y4, y5, y6, y7, y8, hsz3]) rfl ?_
          exact ⟨a1, n1, c1, av, M.length, cv, M, by rw [HE.out]; rfl, by rw [HE.out]; exact rt_ext (rt_set9 hgr4 hB4 (by decide) _ _ _ _ _ _ _ _ _) (Ext.alloc _ _),
            rcf_ext (rcf_of_own (own9 ho4 (Nat.lt_succ_self _) _ _ _ _ _ _ _ _ _) (Nat.le_succ _) (fun e he => rt_set9 (hall4 e he) hB4 (by decide) _ _ _ _ _ _ _ _ _)) (Ext.alloc _ _), by rw [HE.out], (ext9 hx5 _ _ _ _ _ _ _ _ _).trans (Ext.alloc _ _)⟩
        | some rm2 =>
          obtain ⟨r2, m2⟩ := rm2
          have hsz2 := nxt_some _ r2 m2 hq2
          rw [List.length_drop, hlen.out] at hsz2
          by_cases hk2 : r2.kind = 1
          · have hr0 := recs_head _ r2 m2 hq2 hk2
            have HE : Hid (z = (⟨1, path, method, factor, rungs, rung, time, now, value⟩, M.map (·.1), k, 0)) := by show _ = _; rw [HZ.out, HR.out, hr0]; simp; omega
            clear hr0 HR HZ
            go_wp2_with fail
            refine (next_yes _ _ _ _ wr (ht.ext hxr) hbk r2 m2 hq2).mono ?_
            obtain ⟨kind2, path2, method2, factor2, rungs2, rung2, time2, now2, value2⟩ := r2
            dsimp only at hk2 hsz2
            subst hk2
            rintro e w3 ⟨a3, n3, c3, rfl, hg3, hx3⟩
            unfold rv
            dsimp only
            have hx4 := hx3
            have ho4 := owns_ext hown hx4
            have hB4 := hx4.block _ (Array.getElem?_eq_some_iff.1 hBr).1
            rw [hBr] at hB4
            have hgr4 := rt_ext hgr hx4
            have hall4 : ∀ e ∈ M, Rt w3 e.2.1 e.2.2.1 e.2.2.2 e.1.rungs := fun e he => rt_ext (hall e he) hx4
            have hx5 := hxr.trans hx4
            have hsz3 : w.heap.size < w3.heap.size := by have := hx4.size; omega
            obtain ⟨y0, y1, y2, y3, y4, y5, y6, y7, y8⟩ := cells9 hB4
            obtain ⟨z0, z1, z2, z3, z4, z5, z6, z7, z8⟩ := frozen9 hB4
            clear hown hall hBr hgr hx4 hx3
            go_wp2_with fail
            refine bodyPost_ret (v := .tuple #[.agg #[.int .i64 1, .string ⟨path.toArray⟩, .int .i64 method, .int .i64 factor, .slice a1 n1 c1, .int .i64 rung, .int .i64 time, .int .i64 now, .int .i64 value], .slice av M.length cv, .int .i64 k, .int .i64 0]) (by simp [results, Tryd.results45, go_sem, y0, y1, y2, y3, y4, y5, y6, y7, y8, hsz3]) rfl ?_
            exact ⟨a1, n1, c1, av, M.length, cv, M, by rw [HE.out]; rfl, by rw [HE.out]; exact rt_ext (rt_set9 hgr4 hB4 (by decide) _ _ _ _ _ _ _ _ _) (Ext.alloc _ _),
              rcf_ext (rcf_of_own (own9 ho4 (Nat.lt_succ_self _) _ _ _ _ _ _ _ _ _) (Nat.le_succ _) (fun e he => rt_set9 (hall4 e he) hB4 (by decide) _ _ _ _ _ _ _ _ _)) (Ext.alloc _ _), by rw [HE.out], (ext9 hx5 _ _ _ _ _ _ _ _ _).trans (Ext.alloc _ _)⟩
          · have hr0 := recs_step _ r2 m2 hq2 hk2
            have HS : Hid (recs (l.drop m) = (M.map (·.1) ++ r2 :: (recs (l.drop (k + m2))).1, k + m2 - m + (recs (l.drop (k + m2))).2)) := by
              show _ = _
              rw [HR.out, hr0, List.drop_drop]
              dsimp only
              rw [show k - m + (m2 + (recs (l.drop (k + m2))).2) = k + m2 - m + (recs (l.drop (k + m2))).2 by omega]
            clear hr0 HR
            go_wp2_with fail
            refine (next_yes _ _ _ _ wr (ht.ext hxr) hbk r2 m2 hq2).mono ?_
            obtain ⟨kind2, path2, method2, factor2, rungs2, rung2, time2, now2, value2⟩ := r2
            dsimp only at hk2 hsz2
            have hkb : (kind2 == 1) = false := by simp [hk2]
            rintro e w3 ⟨a3, n3, c3, rfl, hg3, hx3⟩
            unfold rv
            dsimp only
            obtain ⟨x, hxe⟩ : ∃ x : El, x = (⟨kind2, path2, method2, factor2, rungs2, rung2, time2, now2, value2⟩, (a3, n3, c3)) := ⟨_, rfl⟩
            have hx4 := hx3.trans (Ext.alloc w3 (.cells (recCells x.1 (.slice x.2.1 x.2.2.1 x.2.2.2)) 48))
            have ho4 := owns_ext hown hx4
            have hs4 : w.heap.size + 1 ≤ (w3.alloc (.cells (recCells x.1 (.slice x.2.1 x.2.2.1 x.2.2.2)) 48)).heap.size := Nat.le_trans hsr hx4.size
            obtain ⟨a5, c5, w5, hrun, ho5, hg5⟩ := run_append_rec ho4 (by omega) hs4 x 51
            have hrow := owns_block ho4
            have hB4 := hx4.block _ (Array.getElem?_eq_some_iff.1 hBr).1
            rw [hBr] at hB4
            have hB5 := hg5.block _ (Array.getElem?_eq_some_iff.1 hB4).1 (fun he => by have := owns_row ho4 _ he.symm; omega)
            rw [hB4] at hB5
            have hall5 : ∀ e ∈ M ++ [x], Rt w5 e.2.1 e.2.2.1 e.2.2.2 e.1.rungs := by
              intro e he
              rcases List.mem_append.1 he with he | he
              · exact (rt_ext (hall e he) hx4).grown hg5 hrow (by decide)
              · obtain rfl : e = x := by simpa using he
                subst hxe
                exact (rt_ext hg3 (Ext.alloc _ _)).grown hg5 hrow (by decide)
            have hgr5 := (rt_ext hgr hx4).grown hg5 hrow (by decide)
            have hx5 : Ext w w5 := (hxr.trans hx4).grown hg5 (fun j e => by have := owns_row ho4 j e; omega)
            have hs5 : w.heap.size + 1 ≤ w5.heap.size := Nat.le_trans hs4 hg5.size
            have hM5 : (M ++ [x]).map (·.1) = M.map (·.1) ++ [⟨kind2, path2, method2, factor2, rungs2, rung2, time2, now2, value2⟩] := by rw [hxe]; simp
            rw [hxe] at hrun
            dsimp only [recCells] at hrun
            rw [sz_alloc] at hrun
            have hrun := Lib.hid hrun
            have HM5 := Lib.hid hM5
            clear hown hall hBr hgr hx4 ho4 hs4 hB4 hrow hg5 hg3 hM5 hxe
            go_wp2_with (at_builtin; refine wpList_append_run2 rfl _ _ 51 rfl rfl rfl hrun.out ?_)
            go_roundw
            case rel => exact ⟨M ++ [x], k + m2, by go_num, by omega, by simp; omega, by omega, ho5, hall5, hB5, hgr5, hx5, hs5, by rw [HS.out, HM5.out]; simp⟩
            case measure => simp [intOf]; omega
    · have HE : Hid (z = (Rec.zero, [], 0, 7)) := by show _ = _; rw [← hz, segScan_other l r m hq hk]
      clear hz
      go_enter Tryd.func45, Tryd.ntmps45
      go_wp2_with fail
      refine (next_yes a n c l _ (ht.ext (Ext.alloc _ _)) (hb.ext (Ext.alloc _ _)) r m hq).mono ?_
      obtain ⟨kind, path, method, factor, rungs, rung, time, now, value⟩ := r
      dsimp only at hk
      have hkb : (kind == 1) = false := by simp [hk]
      have hkb2 : (kind != 1) = true := by simp [hk]
      rintro e w1 ⟨a1, n1, c1, rfl, hg1, hx1⟩
      unfold rv
      dsimp only
      have hB1 := hx1.block w.heap.size (by simp)
      rw [heap_alloc_new] at hB1
      have hxx := (Ext.alloc w _).trans hx1
      obtain ⟨y0, y1, y2, y3, y4, y5, y6, y7, y8⟩ := cells9 hB1
      obtain ⟨z0, z1, z2, z3, z4, z5, z6, z7, z8⟩ := frozen9 hB1
      have hB2 := heap_set9 hB1 (.int .i64 kind) (.string ⟨path.toArray⟩) (.int .i64 method) (.int .i64 factor) (.slice a1 n1 c1) (.int .i64 rung) (.int .i64 time) (.int .i64 now) (.int .i64 value)
      have hx2 := ext9 hxx (.int .i64 kind) (.string ⟨path.toArray⟩) (.int .i64 method) (.int .i64 factor) (.slice a1 n1 c1) (.int .i64 rung) (.int .i64 time) (.int .i64 now) (.int .i64 value)
      go_upto_region 2 with fail
      clear y0 y1 y2 y3 y4 y5 y6 y7 y8 z0 z1 z2 z3 z4 z5 z6 z7 z8
      obtain ⟨w2, hw2⟩ : ∃ w2, (((((((((w1.setCell ⟨w.heap.size, 0, none⟩ (.int .i64 kind)).setCell ⟨w.heap.size, 1, none⟩ (.string ⟨path.toArray⟩)).setCell ⟨w.heap.size, 2, none⟩ (.int .i64 method)).setCell ⟨w.heap.size, 3, none⟩ (.int .i64 factor)).setCell ⟨w.heap.size, 4, none⟩ (.slice a1 n1 c1)).setCell ⟨w.heap.size, 5, none⟩ (.int .i64 rung)).setCell ⟨w.heap.size, 6, none⟩ (.int .i64 time)).setCell ⟨w.heap.size, 7, none⟩ (.int .i64 now)).setCell ⟨w.heap.size, 8, none⟩ (.int .i64 value)) = w2 := ⟨_, rfl⟩
      rw [hw2] at hB2 hx2 ⊢
      clear hw2
      obtain ⟨y0, y1, y2, y3, y4, y5, y6, y7, y8⟩ := cells9 hB2
      obtain ⟨z0, z1, z2, z3, z4, z5, z6, z7, z8⟩ := frozen9 hB2
      clear hB2
      clear hB1 hx1 hq hg1 hk
      go_wp2_with fail
      refine bodyPost_ret (v := .tuple #[rv Rec.zero none 0 0, .slice none 0 0, .int .i64 0, .int .i64 7]) (by simp [results, Tryd.results45, go_sem, rv, Rec.zero, y0, y1, y2, y3, y4, y5, y6, y7, y8]) rfl ?_
      exact ⟨none, 0, 0, none, 0, 0, [], by rw [HE.out]; rfl, by rw [HE.out]; exact rt_nil _, rcf_nil _ _, by rw [HE.out]; rfl, ext9 hx2 _ _ _ _ _ _ _ _ _⟩
end Go.Proofs.YtkflikfcpdekdaaDoor

/-
  Layer 6's contracts: slices.Insert of one name into a row of the call's own.
-/
import Derived.Test.YtponbponacdhkaaDkNames
namespace Go.Proofs.Ytponbponacdhkaa
open Go.RowKit

theorem nc_one1 (x : Nm) : ∀ u ∈ nc x, u.oneCell' = true := by intro u hu; simp [nc] at hu; rcases hu with rfl | rfl <;> rfl
set_option maxRecDepth 100000 in
set_option maxHeartbeats 1600000 in
theorem insert_end (base : Nat) (v : Value) (M : List Nm) (x : Nm) (vb : Nat) (w : World) (hv : ORow nc 2 w base 81 v M) (hx : w.heap[vb]? = some (.cells (nc x).toArray 81 (0, 0))) (hbig : M.length ≤ 1000000) (hbase : base ≤ w.heap.size) :
    Calls Try.prog 57 #[v, .int .i64 M.length, .slice (some ⟨vb, 0, none⟩) 1 1] w fun e w' => ∃ v', e = .returned v' ∧ ORow nc 2 w' base 81 v' (M ++ [x]) ∧ w.grownBy w' v.ownBlock := by
  have hsrc := Lib.hid (sl_block (n := 1) (s := 2) hx rfl (by simp [maxLen]))
  have ho := Lib.hid hv
  obtain ⟨n, hn⟩ : ∃ n, M.length = n := ⟨_, rfl⟩
  have hz1 : Hid ((n + 1) * 24 ≤ 140737488355328) := by show _ ≤ _; omega
  have hz2 : Hid (n + 1 ≤ maxLen) := by show _ ≤ _; unfold maxLen; omega
  have ho2 : Hid (w.ownsRow base 81 2 v n (rcells nc M)) := by rw [← hn]; exact hv
  have hz3 := Lib.hid hbase
  rw [hn]
  rcases hv.2 with ⟨rfl, h0⟩ | ⟨g, cap, cur, rfl, hb, hg, hnc, hcm, hcs, htake⟩
  · have hn0 : n = 0 := by omega
    subst hn0
    clear hv
    go_enter Try.func57, Try.ntmps57
    go_wp2_with (at_builtin; refine wpList_append_sl rfl _ _ 26 rfl base 81 Try.underlying26 infoNm rfl (by decide) _ _ _ rfl ho2.out _ _ _ (nc x) rfl hsrc.out (by intro u hu; simp [nc] at hu; rcases hu with rfl | rfl <;> rfl) hz1.out hz2.out hz3.out ?_; intro v' w1 hown hgrow)
    go_ret
    refine ⟨_, rfl, ?_, hgrow⟩
    unfold ORow
    rw [rcells_append, List.length_append, hn]
    exact hown
  · rw [hn] at hnc ho2 ⊢
    clear hv ho htake
    unfold maxLen at hcm
    go_enter Try.func57, Try.ntmps57
    go_wp2_with (at_builtin; refine wpList_append_sl rfl _ _ 26 rfl base 81 Try.underlying26 infoNm rfl (by decide) _ _ _ rfl ho2.out _ _ _ (nc x) rfl hsrc.out (by intro u hu; simp [nc] at hu; rcases hu with rfl | rfl <;> rfl) hz1.out hz2.out hz3.out ?_; intro v' w1 hown hgrow)
    go_ret
    refine ⟨_, rfl, ?_, hgrow⟩
    unfold ORow
    rw [rcells_append, List.length_append, hn]
    exact hown

set_option maxRecDepth 100000 in
set_option maxHeartbeats 3200000 in
theorem insert_grow (base g n c i : Nat) (M : List Nm) (x : Nm) (vb : Nat) (w : World) (hv : w.ownsRow base 81 2 (.slice (some ⟨g, 0, none⟩) n c) n (rcells nc M)) (hi : i < n) (hc : c < n + 1) (hx : w.heap[vb]? = some (.cells (nc x).toArray 81 (0, 0))) (hbig : n ≤ 1000000) (hbase : base ≤ w.heap.size) (hM : M.length = n) :
    Calls Try.prog 57 #[.slice (some ⟨g, 0, none⟩) n c, .int .i64 i, .slice (some ⟨vb, 0, none⟩) 1 1] w fun e w' => ∃ v', e = .returned v' ∧ ORow nc 2 w' base 81 v' (M.take i ++ x :: M.drop i) ∧ w.grownBy w' (some g) := by
  obtain ⟨i0, hi0, hz0, hzs, hzb⟩ := info_parts infoNm
  have hl2 : (rcells nc M).length = n * 2 := by rw [rcells_length nc 2 nc_len, hM]
  have hcell : ∀ j u, (rcells nc M)[j]? = some u → w.cell? ⟨g, 0 + j, none⟩ = some u := by
    intro j u hj
    have := World.ownsRow.cells (g := g) hv rfl j u hj
    rwa [add_at] at this
  have hgw : g < w.heap.size := by
    rcases hv.2 with ⟨h, _⟩ | ⟨g', cap, cur, hv', _, hg, _⟩
    · cases h
    · cases hv'; exact lt_of_block hg
  have hnc : n ≤ c := by
    rcases hv.2 with ⟨h, _⟩ | ⟨g', cap, cur, hv', _, hg, hnc, _⟩
    · cases h
    · cases hv'; exact hnc
  have hvw := lt_of_block hx
  have hvcell : ∀ j u, (nc x)[j]? = some u → w.cell? ⟨vb, 0 + j, none⟩ = some u := by
    intro j u hj
    simp [World.cell?, hx]
    simpa using hj
  have hik : i + (n + 1 - i) = n + 1 := by omega
  have hkk : (n : Int) + 1 - (i : Int) = ((n + 1 - i : Nat) : Int) := by omega
  have hold : (Builtin.firstCells i0.size i (.slice (some ⟨g, 0, none⟩) i c)).run Try.prog w.drew = .ok ((rcells nc M).take (i * 2)).toArray w.drew := by
    rw [hzs]
    exact run_firstCells_some (w := w.drew) 2 i ⟨g, 0, none⟩ i c ((rcells nc M).take (i * 2)) (by rw [List.length_take]; omega) (fun j v hj => by
      rw [add_at]
      rw [List.getElem?_take] at hj
      split at hj
      · exact hcell j v hj
      · cases hj)
  have hrz0 := fun ty => Lib.run_append_grow_zeros (P := Try.prog) w 26 3 ty 81 i0 _ .i64 .i64 Try.underlying26 Try.underlying3 hi0 hz0 (some ⟨g, 0, none⟩) i c ((rcells nc M).take (i * 2)) hold (n + 1 - i) (by omega) (by omega) (by omega) (by omega) (by rw [hzb]; omega) (by rw [hzb, hik]; exact growslice_fits hc (by omega))
  rw [hik] at hrz0
  have hGn : n + 1 ≤ grownCap w (n + 1) c 81 := grownCap_ge w _ _ _
  have hG63 := grownCap_le_maxLen w (n + 1) c 81 (by unfold maxLen; omega)
  obtain ⟨G, hG⟩ : ∃ G, G = grownCap w (n + 1) c 81 := ⟨_, rfl⟩
  rw [← hG] at hrz0 hGn hG63
  obtain ⟨ROW, hROW⟩ : ∃ ROW : Array Value, ROW = ((rcells nc M).take (i * 2)).toArray ++ Builtin.zeroCells (Value.agg #[.string ⟨#[]⟩, .int .i64 0]).cells (n + 1 - i) ++ Builtin.zeroCells (Value.agg #[.string ⟨#[]⟩, .int .i64 0]).cells (G - (n + 1)) := ⟨_, rfl⟩
  rw [← hROW] at hrz0
  have hRs : ROW.size = G * 2 := by
    rw [hROW]
    simp [size_zeroCells, Value.cells, hl2]
    omega
  have hRt : ROW.toList.take (i * 2) = (rcells nc M).take (i * 2) := by
    have hA : ((rcells nc M).take (i * 2)).length = i * 2 := by rw [List.length_take]; omega
    rw [hROW]
    simp only [Array.toList_append, List.append_assoc]
    exact List.take_left' hA
  obtain ⟨W1, hW1⟩ : ∃ W1, W1 = w.drew.alloc (.cells ROW 81) := ⟨_, rfl⟩
  rw [← hW1] at hrz0
  have hW1g : W1.heap[w.heap.size]? = some (.cells ROW 81 (0, 0)) := by rw [hW1]; exact heap_alloc_new w.drew _
  have hxw : Ext w W1 := by rw [hW1]; exact (Ext.drewN w 1).trans (Ext.alloc _ _)
  obtain ⟨R1, hR1⟩ : ∃ R1 : Array Value, R1 = (ROW.toList.take (i * 2) ++ nc x ++ ROW.toList.drop (i * 2 + 2)).toArray := ⟨_, rfl⟩
  obtain ⟨W2, hW2⟩ : ∃ W2, W2 = W1.setRow w.heap.size R1 := ⟨_, rfl⟩
  have hcp1 : ∀ ty dc, (Builtin.copy_ #[26, 26] ty #[.slice (some ⟨w.heap.size, i * 2, none⟩) (n + 1 - i) dc, .slice (some ⟨vb, 0, none⟩) 1 1]).run Try.prog W1 = .ok (goInt 1) W2 := fun ty dc => by
    have h := run_copy_rows (P := Try.prog) W1 26 26 ty 81 i0 w.heap.size (i * 2) (n + 1 - i) dc ⟨vb, 0, none⟩ 1 1 ROW 81 (nc x) 1 Try.underlying26 hi0 hW1g (by simp only [Nat.min_def]; split <;> omega) (by rw [hzs]; rfl)
      (fun j v hj => by rw [add_at]; exact hxw.cell (hvcell j v hj)) (by rw [hRs, nc_len]; omega) (nc_one1 x)
    rw [nc_len, ← hR1, ← hW2] at h
    exact h
  have hW2g : W2.heap[w.heap.size]? = some (.cells R1 81 (0, 0)) := by rw [hW2]; exact heap_setRow hW1g _
  have hW2o : ∀ k, k < w.heap.size → W2.heap[k]? = w.heap[k]? := fun k hk => by rw [hW2]; exact (heap_setRow_other _ (by omega)).trans (hxw.block k hk)
  have hR1s : R1.size = G * 2 := by
    rw [hR1]
    simp only [List.size_toArray, List.length_append, List.length_take, List.length_drop, Array.length_toList, nc_len, hRs]
    omega
  have hR1t : R1.toList.take ((i + 1) * 2) = (rcells nc M).take (i * 2) ++ nc x := by
    have hA : ((rcells nc M).take (i * 2) ++ nc x).length = (i + 1) * 2 := by rw [List.length_append, List.length_take, nc_len]; omega
    rw [hR1, hRt]
    show List.take _ ((rcells nc M).take (i * 2) ++ nc x ++ _) = _
    exact List.take_left' hA
  obtain ⟨R2, hR2⟩ : ∃ R2 : Array Value, R2 = (R1.toList.take ((i + 1) * 2) ++ (rcells nc M).drop (i * 2) ++ R1.toList.drop ((i + 1) * 2 + ((rcells nc M).drop (i * 2)).length)).toArray := ⟨_, rfl⟩
  have hdl : ((rcells nc M).drop (i * 2)).length = (n - i) * 2 := by rw [List.length_drop, hl2]; omega
  have hcp2 : ∀ W : World, W.heap = W2.heap → ∀ ty dc sc, (Builtin.copy_ #[26, 26] ty #[.slice (some ⟨w.heap.size, (i + 1) * 2, none⟩) (n - i) dc, .slice (some ⟨g, i * 2, none⟩) (n - i) sc]).run Try.prog W = .ok (goInt (n - i : Nat)) (W.setRow w.heap.size R2) := fun W hW ty dc sc => by
    have h := run_copy_rows (P := Try.prog) W 26 26 ty 81 i0 w.heap.size ((i + 1) * 2) (n - i) dc ⟨g, i * 2, none⟩ (n - i) sc R1 81 ((rcells nc M).drop (i * 2)) (n - i) Try.underlying26 hi0 (by rw [hW]; exact hW2g) (by simp only [Nat.min_def]; split <;> omega) (by rw [hzs]; exact hdl)
      (fun j v hj => by
        rw [add_at]
        rw [List.getElem?_drop] at hj
        have h1 := hcell _ v hj
        rw [Nat.zero_add] at h1
        rw [← h1]
        exact World.cell?_of_block (a := ⟨g, i * 2 + j, none⟩) (by rw [hW]; exact hW2o g hgw)) (by rw [hR1s, hdl]; omega) (fun u hu => nc_one M u (List.mem_of_mem_drop hu))
    rw [← hR2] at h
    exact h
  have hs1 : subA (some ⟨w.heap.size, 0, none⟩) G i 2 = some ⟨w.heap.size, i * 2, none⟩ := by rw [subA_some _ _ _ _ _ (by omega), Nat.zero_add]
  have hs2 : subA (some ⟨w.heap.size, 0, none⟩) G (i + 1) 2 = some ⟨w.heap.size, (i + 1) * 2, none⟩ := by rw [subA_some _ _ _ _ _ (by omega), Nat.zero_add]
  have hs3 : subA (some ⟨g, 0, none⟩) c i 2 = some ⟨g, i * 2, none⟩ := by rw [subA_some _ _ _ _ _ (by omega), Nat.zero_add]
  have hrz : ∀ ty, (Builtin.append_ #[26, 3] ty #[.slice (some ⟨g, 0, none⟩) i c, .int .i64 ((n : Int) + 1 - (i : Int))]).run Try.prog w = .ok (.slice (some ⟨w.heap.size, 0, none⟩) (n + 1) G) W1 := fun ty => by rw [hkk]; exact hrz0 ty
  have hrzh := Lib.hid hrz
  have hcp1h := Lib.hid hcp1
  have hcp2h := Lib.hid hcp2
  have hn1 : ¬ ((i : Int) = (n : Int)) := by omega
  have hn3 : (c : Int) < (n : Int) + 1 := by omega
  have hin : (i : Int) ≤ (n : Int) := by omega
  have hi0' : (0 : Int) ≤ (i : Int) := by omega
  unfold maxLen at hG63
  have mixed : Try.prog.follows Departure.mixedOrders = true := by kernel_rfl
  have hR2h := Lib.hid hR2
  have hW2h := Lib.hid hW2
  clear hrz0 hrz hcp1 hcp2 hold hkk hik hG hROW hRt hW1 hR1 hW2 hR2
  go_enter Try.func57, Try.ntmps57
  go_wp2_with (at_builtin; refine Lib.wpList_append_run _ rfl _ _ _ _ rfl _ _ rfl rfl _ _ (hrzh.out _) ?_)
  rw [hcp1h.out]
  simp only [Result.andThen]
  rw [Oper.upon_value]
  have hw1 : IntKind.i64.wrap ((i : Int) + 1) = (i : Int) + 1 := by rw [IntKind.wrap_i64]; omega
  have hb1 : (0 : Int) ≤ (i : Int) + 1 := by omega
  have hb2 : (i : Int) + 1 ≤ (n : Int) + 1 := by omega
  have hb4 : ((i : Int) + 1).toNat = i + 1 := by omega
  have hb5 : n + 1 - (i + 1) = n - i := by omega
  go_wp2
  go_region_law_o (refine step_copy_runI rfl _ _ 26 26 rfl (.slice (some ⟨w.heap.size, (i + 1) * 2, none⟩) (n - i) (G - (i + 1))) (.slice (some ⟨g, i * 2, none⟩) (n - i) (c - i)) (by simp [Act.eval, Act.put]) (by simp [Act.eval, Act.put]) (hcp2h.out W2.drew rfl _ _ _) ?_)
  go_wp2
  go_ret
  have h3 : (W2.drew.setRow w.heap.size R2).heap[w.heap.size]? = some (.cells R2 81 (0, 0)) := heap_setRow (w := W2.drew) hW2g _
  have hcs : rcells nc (M.take i ++ x :: M.drop i) = (rcells nc M).take (i * 2) ++ nc x ++ (rcells nc M).drop (i * 2) := by
    rw [rcells_append, rcells_cons, rcells_take nc 2 nc_len, rcells_drop nc 2 nc_len, List.append_assoc]
  have hlen : (M.take i ++ x :: M.drop i).length = n + 1 := by simp; omega
  have hR2s : R2.size = G * 2 := by
    rw [hR2h.out]
    simp only [List.size_toArray, List.length_append, List.length_take, List.length_drop, Array.length_toList, hR1s, hl2]
    omega
  have hR2t : R2.toList.take ((n + 1) * 2) = (rcells nc M).take (i * 2) ++ nc x ++ (rcells nc M).drop (i * 2) := by
    have hA : (R1.toList.take ((i + 1) * 2) ++ (rcells nc M).drop (i * 2)).length = (n + 1) * 2 := by
      rw [List.length_append, List.length_take, hdl, Array.length_toList, hR1s]; omega
    rw [hR2h.out]
    show List.take _ (R1.toList.take ((i + 1) * 2) ++ (rcells nc M).drop (i * 2) ++ _) = _
    rw [List.take_left' hA, hR1t]
  refine ⟨.slice (some ⟨w.heap.size, 0, none⟩) (n + 1) G, rfl, ⟨by rw [rcells_length nc 2 nc_len], .inr ⟨w.heap.size, G, R2, by rw [hlen], hbase, h3, by rw [hlen]; exact hGn, by unfold maxLen; omega, hR2s, by rw [hlen, hcs]; exact hR2t⟩⟩, ?_⟩
  have e2 : W2.os = w.os ∧ W2.tape = w.tape ∧ W2.output = w.output ∧ w.heap.size ≤ W2.heap.size := by
    rw [hW2h.out]
    exact ⟨hxw.os, hxw.tape, hxw.output, by have := hxw.size; simpa [World.setRow] using this⟩
  exact ⟨e2.1, e2.2.1, e2.2.2.1, by have := e2.2.2.2; simpa [World.setRow] using this, fun k hk _ => (heap_setRow_other (w := W2.drew) _ (by omega)).trans (hW2o k hk)⟩

set_option maxRecDepth 100000 in
set_option maxHeartbeats 3200000 in
theorem insert_shift (base g n c i : Nat) (M : List Nm) (x : Nm) (vb : Nat) (w : World) (hv : w.ownsRow base 81 2 (.slice (some ⟨g, 0, none⟩) n c) n (rcells nc M)) (hi : i < n) (hc : n + 1 ≤ c) (hx : w.heap[vb]? = some (.cells (nc x).toArray 81 (0, 0))) (hne : vb ≠ g) (hbig : n ≤ 1000000) (hM : M.length = n) :
    Calls Try.prog 57 #[.slice (some ⟨g, 0, none⟩) n c, .int .i64 i, .slice (some ⟨vb, 0, none⟩) 1 1] w fun e w' => ∃ v', e = .returned v' ∧ ORow nc 2 w' base 81 v' (M.take i ++ x :: M.drop i) ∧ w.grownBy w' (some g) := by
  obtain ⟨i0, hi0, hz0, hzs, hzb⟩ := info_parts infoNm
  have hl2 : (rcells nc M).length = n * 2 := by rw [rcells_length nc 2 nc_len, hM]
  obtain ⟨cur, hb, hg, hcm, hcs, htake⟩ : ∃ cur : Array Value, base ≤ g ∧ w.heap[g]? = some (.cells cur 81 (0, 0)) ∧ c ≤ maxLen ∧ cur.size = c * 2 ∧ cur.toList.take (n * 2) = rcells nc M := by
    rcases hv.2 with ⟨h, _⟩ | ⟨g', cap, cur, hv', hb, hg, hnc, hcm, hcs, htake⟩
    · cases h
    · cases hv'; exact ⟨cur, hb, hg, hcm, hcs, htake⟩
  have hcell : ∀ j u, (rcells nc M)[j]? = some u → w.cell? ⟨g, j, none⟩ = some u := by
    intro j u hj
    have := World.ownsRow.cells (g := g) hv rfl j u hj
    rw [add_at, Nat.zero_add] at this
    exact this
  have hvcell : ∀ j u, (nc x)[j]? = some u → w.cell? ⟨vb, j, none⟩ = some u := by
    intro j u hj
    simp [World.cell?, hx]
    simpa using hj
  have hov : ∀ lb cb, (callFunc 60 #[.slice (some ⟨vb, 0, none⟩) 1 1, .slice (some ⟨g, (i + 1) * 2, none⟩) lb cb]).run Try.prog w = .ok (.value (.bool false)) w := fun lb cb => by
    rw [run_callFunc_extern Try.func60 (by kernel_rfl) (by kernel_rfl) (by kernel_rfl) (e := Extern.SlicesOverlaps.overlaps #[26, 26] #[4]) (by kernel_rfl),
      Lib.run_overlaps_apart w 26 4 81 Try.underlying26 2 (fun w => by kernel_rfl) ⟨vb, 0, none⟩ ⟨g, (i + 1) * 2, none⟩ 1 1 lb cb hne 81 81 2 (c * 2) (by simp [World.shape?, hx, nc_len]) (by simp [World.shape?, hg, hcs]) (by omega) (by simp [World.frozen?, hx]) (by simp [World.frozen?, hx])]
    rfl
  have hdl : ((rcells nc M).drop (i * 2)).length = (n - i) * 2 := by rw [List.length_drop, hl2]; omega
  obtain ⟨R1, hR1⟩ : ∃ R1 : Array Value, R1 = (cur.toList.take ((i + 1) * 2) ++ (rcells nc M).drop (i * 2) ++ cur.toList.drop ((i + 1) * 2 + ((rcells nc M).drop (i * 2)).length)).toArray := ⟨_, rfl⟩
  obtain ⟨W1, hW1⟩ : ∃ W1, W1 = w.drew.setRow g R1 := ⟨_, rfl⟩
  have hcp1 : ∀ ty dc sc, (Builtin.copy_ #[26, 26] ty #[.slice (some ⟨g, (i + 1) * 2, none⟩) (n - i) dc, .slice (some ⟨g, i * 2, none⟩) (n + 1 - i) sc]).run Try.prog w.drew = .ok (goInt (n - i : Nat)) W1 := fun ty dc sc => by
    have h := run_copy_rows (P := Try.prog) w.drew 26 26 ty 81 i0 g ((i + 1) * 2) (n - i) dc ⟨g, i * 2, none⟩ (n + 1 - i) sc cur 81 ((rcells nc M).drop (i * 2)) (n - i) Try.underlying26 hi0 hg (by simp only [Nat.min_def]; split <;> omega) (by rw [hzs]; exact hdl)
      (fun j v hj => by
        rw [add_at]
        rw [List.getElem?_drop] at hj
        exact hcell _ v hj) (by rw [hcs, hdl]; omega) (fun u hu => nc_one M u (List.mem_of_mem_drop hu))
    rw [← hR1, ← hW1] at h
    exact h
  have hW1g : W1.heap[g]? = some (.cells R1 81 (0, 0)) := by rw [hW1]; exact heap_setRow (w := w.drew) hg _
  have hW1o : ∀ k, k ≠ g → W1.heap[k]? = w.heap[k]? := fun k hk => by rw [hW1]; exact heap_setRow_other (w := w.drew) _ hk
  have hR1s : R1.size = c * 2 := by
    rw [hR1]
    simp only [List.size_toArray, List.length_append, List.length_take, List.length_drop, Array.length_toList, hcs, hl2]
    omega
  have hRt : R1.toList.take (i * 2) = (rcells nc M).take (i * 2) := by
    rw [hR1]
    show List.take _ (cur.toList.take ((i + 1) * 2) ++ (rcells nc M).drop (i * 2) ++ _) = _
    rw [List.append_assoc, List.take_append_of_le_length (by rw [List.length_take, Array.length_toList, hcs]; omega), List.take_take, Nat.min_eq_left (by omega), ← htake, List.take_take, Nat.min_eq_left (by omega)]
  have hRd : (R1.toList.drop (i * 2 + 2)).take ((n - i) * 2) = (rcells nc M).drop (i * 2) := by
    have hA : (cur.toList.take ((i + 1) * 2)).length = i * 2 + 2 := by rw [List.length_take, Array.length_toList, hcs]; omega
    rw [hR1]
    show List.take _ (List.drop _ (cur.toList.take ((i + 1) * 2) ++ (rcells nc M).drop (i * 2) ++ _)) = _
    rw [List.append_assoc, List.drop_left' hA, List.take_left' hdl]
  obtain ⟨R2, hR2⟩ : ∃ R2 : Array Value, R2 = (R1.toList.take (i * 2) ++ nc x ++ R1.toList.drop (i * 2 + 2)).toArray := ⟨_, rfl⟩
  have hcp2 : ∀ W : World, W.heap = W1.heap → ∀ ty dc, (Builtin.copy_ #[26, 26] ty #[.slice (some ⟨g, i * 2, none⟩) (n + 1 - i) dc, .slice (some ⟨vb, 0, none⟩) 1 1]).run Try.prog W = .ok (goInt 1) (W.setRow g R2) := fun W hW ty dc => by
    have h := run_copy_rows (P := Try.prog) W 26 26 ty 81 i0 g (i * 2) (n + 1 - i) dc ⟨vb, 0, none⟩ 1 1 R1 81 (nc x) 1 Try.underlying26 hi0 (by rw [hW]; exact hW1g) (by simp only [Nat.min_def]; split <;> omega) (by rw [hzs]; rfl)
      (fun j v hj => by
        rw [add_at, Nat.zero_add]
        rw [← hvcell j v hj]
        exact World.cell?_of_block (a := ⟨vb, j, none⟩) (by rw [hW]; exact hW1o vb hne)) (by rw [hR1s, nc_len]; omega) (nc_one1 x)
    rw [nc_len, ← hR2] at h
    exact h
  have hs2 : subA (some ⟨g, 0, none⟩) c (i + 1) 2 = some ⟨g, (i + 1) * 2, none⟩ := by rw [subA_some _ _ _ _ _ (by omega), Nat.zero_add]
  have hs3 : subA (some ⟨g, 0, none⟩) c i 2 = some ⟨g, i * 2, none⟩ := by rw [subA_some _ _ _ _ _ (by omega), Nat.zero_add]
  have hcp1h := Lib.hid hcp1
  have hcp2h := Lib.hid hcp2
  have hn1 : ¬ ((i : Int) = (n : Int)) := by omega
  have hn3 : ¬ (c : Int) < (n : Int) + 1 := by omega
  have hn4 : (n : Int) + 1 ≤ (c : Int) := by omega
  have hin : (i : Int) ≤ (n : Int) := by omega
  have hi0' : (0 : Int) ≤ (i : Int) := by omega
  have hin2 : (i : Int) ≤ (n : Int) + 1 := by omega
  have hw1 : IntKind.i64.wrap ((i : Int) + 1) = (i : Int) + 1 := by rw [IntKind.wrap_i64]; omega
  have hb1 : (0 : Int) ≤ (i : Int) + 1 := by omega
  have hb2 : (i : Int) + 1 ≤ (n : Int) + 1 := by omega
  have hb4 : ((i : Int) + 1).toNat = i + 1 := by omega
  have hb5 : n + 1 - (i + 1) = n - i := by omega
  unfold maxLen at hcm
  have mixed : Try.prog.follows Departure.mixedOrders = true := by kernel_rfl
  have hR2h := Lib.hid hR2
  have hW1h := Lib.hid hW1
  have hovh := Lib.hid hov
  clear hcp1 hcp2 hR1 hW1 hR2 hov
  have hov := hovh.out
  go_enter Try.func57, Try.ntmps57
  go_wp2_with (simp only [hov])
  go_region_law_o (refine step_copy_runI rfl _ _ 26 26 rfl (.slice (some ⟨g, (i + 1) * 2, none⟩) (n - i) (c - (i + 1))) (.slice (some ⟨g, i * 2, none⟩) (n + 1 - i) (c - i)) (by simp [Act.eval, Act.put]) (by simp [Act.eval, Act.put]) (hcp1h.out _ _ _) ?_)
  go_wp2
  rw [hcp2h.out W1 rfl]
  simp only [Result.andThen]
  rw [Oper.upon_value]
  go_wp2
  go_ret
  have h3 : (W1.setRow g R2).heap[g]? = some (.cells R2 81 (0, 0)) := heap_setRow hW1g _
  have hcs2 : rcells nc (M.take i ++ x :: M.drop i) = (rcells nc M).take (i * 2) ++ nc x ++ (rcells nc M).drop (i * 2) := by
    rw [rcells_append, rcells_cons, rcells_take nc 2 nc_len, rcells_drop nc 2 nc_len, List.append_assoc]
  have hlen : (M.take i ++ x :: M.drop i).length = n + 1 := by simp; omega
  have hR2s : R2.size = c * 2 := by
    rw [hR2h.out]
    simp only [List.size_toArray, List.length_append, List.length_take, List.length_drop, Array.length_toList, hR1s, nc_len]
    omega
  have hR2t : R2.toList.take ((n + 1) * 2) = (rcells nc M).take (i * 2) ++ nc x ++ (rcells nc M).drop (i * 2) := by
    have hA : (R1.toList.take (i * 2) ++ nc x).length = i * 2 + 2 := by rw [List.length_append, List.length_take, Array.length_toList, hR1s, nc_len]; omega
    rw [hR2h.out]
    show List.take _ (R1.toList.take (i * 2) ++ nc x ++ R1.toList.drop (i * 2 + 2)) = _
    rw [show (n + 1) * 2 = (i * 2 + 2) + (n - i) * 2 by omega, List.take_append, hA, List.take_of_length_le (by rw [hA]; omega), show i * 2 + 2 + (n - i) * 2 - (i * 2 + 2) = (n - i) * 2 by omega, hRd, hRt]
  refine ⟨.slice (some ⟨g, 0, none⟩) (n + 1) c, rfl, ⟨by rw [rcells_length nc 2 nc_len], .inr ⟨g, c, R2, by rw [hlen], hb, h3, by rw [hlen]; exact hc, by unfold maxLen; omega, hR2s, by rw [hlen, hcs2]; exact hR2t⟩⟩, ?_⟩
  have e2 : W1.os = w.os ∧ W1.tape = w.tape ∧ W1.output = w.output ∧ w.heap.size ≤ W1.heap.size := by
    rw [hW1h.out]
    exact ⟨rfl, rfl, rfl, by simp [World.setRow]⟩
  exact ⟨e2.1, e2.2.1, e2.2.2.1, by have := e2.2.2.2; simpa [World.setRow] using this, fun k hk hkg => (heap_setRow_other _ (fun e => hkg (by rw [e]))).trans (hW1o k (fun e => hkg (by rw [e])))⟩

/-- slices.Insert of one wait. -/
theorem insert_calls (base : Nat) (v : Value) (M : List Nm) (i : Nat) (x : Nm) (vb : Nat) (w : World) (hv : ORow nc 2 w base 81 v M) (hi : i ≤ M.length) (hx : w.heap[vb]? = some (.cells (nc x).toArray 81 (0, 0))) (hne : v.ownBlock ≠ some vb) (hbig : M.length ≤ 1000000) (hbase : base ≤ w.heap.size) :
    Calls Try.prog 57 #[v, .int .i64 i, .slice (some ⟨vb, 0, none⟩) 1 1] w fun e w' => ∃ v', e = .returned v' ∧ ORow nc 2 w' base 81 v' (M.take i ++ x :: M.drop i) ∧ w.grownBy w' v.ownBlock := by
  by_cases hin : i = M.length
  · subst hin
    have := insert_end base v M x vb w hv hx hbig hbase
    rw [List.take_length, List.drop_length]
    exact this
  · rcases hv.2 with ⟨rfl, h0⟩ | ⟨g, cap, cur, rfl, hb, hg, hnc, hcm, hcs, htake⟩
    · omega
    · have hne2 : vb ≠ g := fun e => hne (by rw [e]; rfl)
      by_cases hc : cap < M.length + 1
      · exact insert_grow base g M.length cap i M x vb w hv (by omega) hc hx hbig hbase rfl
      · exact insert_shift base g M.length cap i M x vb w hv (by omega) (by omega) hx hne2 hbig rfl
end Go.Proofs.Ytponbponacdhkaa

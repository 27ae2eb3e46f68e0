/-
  Layer 6's contracts: slices.Delete of one name out of a row of the call's own.
-/
import Derived.Test.YtponbponacdhkaaDkInsert
import Derived.Test.YtponbponacdhkaaRegPlan
import Derived.Shelf.RegionOpenPlain
namespace Go.Proofs.Ytponbponacdhkaa
open Go.RowKit

set_option maxRecDepth 100000 in
set_option maxHeartbeats 3200000 in
theorem delete_row (base g n c i : Nat) (M : List Nm) (w : World) (hv : w.ownsRow base 81 2 (.slice (some ⟨g, 0, none⟩) n c) n (rcells nc M)) (hi : i < n) (hbig : n ≤ 1000000) (hM : M.length = n) :
    Calls Try.prog 58 #[.slice (some ⟨g, 0, none⟩) n c, .int .i64 i, .int .i64 ((i : Int) + 1)] w fun e w' => ∃ v', e = .returned v' ∧ ORow nc 2 w' base 81 v' (M.eraseIdx i) ∧ w.grownBy w' (some g) := by
  obtain ⟨i0, hi0, hz0, hzs, hzb⟩ := info_parts infoNm
  have hl2 : (rcells nc M).length = n * 2 := by rw [rcells_length nc 2 nc_len, hM]
  obtain ⟨cur, hb, hg, hnc, hcm, hcs, htake⟩ : ∃ cur : Array Value, base ≤ g ∧ w.heap[g]? = some (.cells cur 81 (0, 0)) ∧ n ≤ c ∧ c ≤ maxLen ∧ cur.size = c * 2 ∧ cur.toList.take (n * 2) = rcells nc M := by
    rcases hv.2 with ⟨h, _⟩ | ⟨g', cap, cur, hv', hb, hg, hnc, hcm, hcs, htake⟩
    · cases h
    · cases hv'; exact ⟨cur, hb, hg, hnc, hcm, hcs, htake⟩
  have hcell : ∀ j u, (rcells nc M)[j]? = some u → w.cell? ⟨g, j, none⟩ = some u := by
    intro j u hj
    have := World.ownsRow.cells (g := g) hv rfl j u hj
    rw [add_at, Nat.zero_add] at this
    exact this
  have hdl : ((rcells nc M).drop ((i + 1) * 2)).length = (n - (i + 1)) * 2 := by rw [List.length_drop, hl2]; omega
  obtain ⟨R1, hR1⟩ : ∃ R1 : Array Value, R1 = (cur.toList.take (i * 2) ++ (rcells nc M).drop ((i + 1) * 2) ++ cur.toList.drop (i * 2 + ((rcells nc M).drop ((i + 1) * 2)).length)).toArray := ⟨_, rfl⟩
  obtain ⟨A, hA, hsrc⟩ : ∃ A : Addr, (if c = i + 1 then (some ⟨g, 0, none⟩ : Option Addr) else some ⟨g, (i + 1) * 2, none⟩) = some A ∧ ∀ t u, ((rcells nc M).drop ((i + 1) * 2))[t]? = some u → w.cell? (A.add t) = some u := by
    by_cases h : c = i + 1
    · refine ⟨⟨g, 0, none⟩, by rw [if_pos h], fun t u hu => ?_⟩
      have h0 : ((rcells nc M).drop ((i + 1) * 2)).length = 0 := by rw [hdl]; omega
      rw [List.length_eq_zero_iff.1 h0] at hu
      simp at hu
    · refine ⟨⟨g, (i + 1) * 2, none⟩, by rw [if_neg h], fun t u hu => ?_⟩
      rw [List.getElem?_drop] at hu
      rw [add_at]
      exact hcell _ u hu
  have happ : ∀ W : World, W.heap = w.heap → ∀ ty, (Builtin.append_ #[26, 26] ty #[.slice (some ⟨g, 0, none⟩) i c, .slice (some A) (n - (i + 1)) (c - (i + 1))]).run Try.prog W = .ok (.slice (some ⟨g, 0, none⟩) (i + (n - (i + 1))) c) (W.setRow g R1) := fun W hW ty => by
    have h := run_append_room (P := Try.prog) W 26 ty 81 i0 Try.underlying26 hi0 g i c cur (by rw [hW]; exact hg) A (n - (i + 1)) (c - (i + 1)) ((rcells nc M).drop ((i + 1) * 2)) (by rw [hzs]; exact hdl)
      (fun j u hj => (World.cell?_of_block (a := A.add j) (by rw [hW])).trans (hsrc j u hj)) (fun u hu => nc_one M u (List.mem_of_mem_drop hu)) (by omega) (by rw [hzs, hcs, hdl]; omega)
    rw [hzs] at h
    rw [h, hR1]
  have hn1 : i + (n - (i + 1)) = n - 1 := by omega
  have hR1s : R1.size = c * 2 := by
    rw [hR1]
    simp only [List.size_toArray, List.length_append, List.length_take, List.length_drop, Array.length_toList, hcs, hl2]
    omega
  have hR1t : R1.toList.take ((n - 1) * 2) = (rcells nc M).take (i * 2) ++ (rcells nc M).drop ((i + 1) * 2) := by
    have hAl : (cur.toList.take (i * 2) ++ (rcells nc M).drop ((i + 1) * 2)).length = (n - 1) * 2 := by
      rw [List.length_append, List.length_take, hdl, Array.length_toList, hcs]; omega
    rw [hR1]
    show List.take _ (cur.toList.take (i * 2) ++ (rcells nc M).drop ((i + 1) * 2) ++ _) = _
    rw [List.take_left' hAl, ← htake, List.take_take, Nat.min_eq_left (by omega)]
  obtain ⟨R2, hR2⟩ : ∃ R2 : Array Value, R2 = (R1.toList.take ((n - 1) * 2) ++ ([.string ⟨#[]⟩, .int .i64 0] : List Value) ++ R1.toList.drop ((n - 1) * 2 + 2)).toArray := ⟨_, rfl⟩
  have hR2s : R2.size = c * 2 := by
    rw [hR2]
    simp only [List.size_toArray, List.length_append, List.length_take, List.length_drop, Array.length_toList, hR1s, List.length_cons, List.length_nil]
    omega
  have hR2t : R2.toList.take ((n - 1) * 2) = (rcells nc M).take (i * 2) ++ (rcells nc M).drop ((i + 1) * 2) := by
    have hAl : (R1.toList.take ((n - 1) * 2)).length = (n - 1) * 2 := by rw [List.length_take, Array.length_toList, hR1s]; omega
    rw [hR2, ← hR1t]
    show List.take _ (R1.toList.take ((n - 1) * 2) ++ _ ++ _) = _
    rw [List.append_assoc, List.take_left' hAl]
  have hcl : ∀ W : World, W.heap[g]? = some (.cells R1 81 (0, 0)) → ∀ ty cc, (Builtin.clear_ #[26] ty #[.slice (some ⟨g, (n - 1) * 2, none⟩) 1 cc]).run Try.prog W = .ok (.tuple #[]) (W.setRow g R2) := fun W hW ty cc => by
    have h := run_storeCells_at Try.prog g ((n - 1) * 2) 81 [.string ⟨#[]⟩, .int .i64 0] 0 R1 W hW (by rw [hR1s]; simp; omega) (by intro v hv; simp at hv; rcases hv with rfl | rfl <;> rfl)
    simp only [Nat.add_zero, List.length_cons, List.length_nil] at h
    have hzc : (Builtin.zeroCells (Value.agg #[.string ⟨#[]⟩, .int .i64 0]).cells 1).toList = [.string ⟨#[]⟩, .int .i64 0] := by kernel_rfl
    rw [hR2]
    simp [Builtin.clear_, run_underlying Try.underlying26, hzc, h]
  have hcn : ¬ c = n - 1 := by omega
  have happh := Lib.hid happ
  have hclh := Lib.hid hcl
  have hR2th := Lib.hid hR2t
  have hw1 : IntKind.i64.wrap ((i : Int) + 1) = (i : Int) + 1 := by rw [IntKind.wrap_i64]; omega
  have hq1 : ((i : Int) == (i : Int) + 1) = false := by rw [beq_eq_false_iff_ne]; omega
  have hin : (i : Int) + 1 ≤ (n : Int) := by omega
  have hi0' : (0 : Int) ≤ (i : Int) := by omega
  have hic : (i : Int) ≤ (c : Int) := by omega
  have hncI : (n : Int) ≤ (c : Int) := by omega
  have hb4 : ((i : Int) + 1).toNat = i + 1 := by omega
  unfold maxLen at hcm
  clear happ hcl hR2 hR1 hR1t hR2t hcell htake hsrc
  go_enter Try.func58, Try.ntmps58
  go_wp2_with fail
  refine region_class_tail 6 (fun w' => ∃ n, w' = World.drewN _ n) (by kernel_rfl) (by kernel_rfl) ⟨1, rfl⟩ ?_
  simp only [List.take_succ_cons, List.take_zero, List.drop_succ_cons, List.drop_zero]
  repeat (go_big_quiet_step (fail))
  refine wpQuiet_nil ?_
  rintro _ ⟨nq, rfl⟩
  refine Lib.wpList_append_run _ rfl _ _ _ _ rfl _ _ rfl rfl _ _ (happh.out (w.drewN nq) rfl _) ?_
  go_wp2_with fail
  have hgW : ((w.drewN nq).setRow g R1).heap[g]? = some (.cells R1 81 (0, 0)) := heap_setRow (w := w.drewN nq) hg R1
  rw [subA_some _ _ _ _ _ hcn, Nat.zero_add, show n - (n - 1) = 1 by omega, hclh.out _ hgW _ _]
  simp only [Result.andThen]
  rw [Oper.upon_value]
  go_wp2_with fail
  go_ret
  have hgW2 := heap_setRow hgW R2
  have hlen : (M.eraseIdx i).length = n - 1 := by rw [List.length_eraseIdx_of_lt (by omega), hM]
  have hcs2 : rcells nc (M.eraseIdx i) = (rcells nc M).take (i * 2) ++ (rcells nc M).drop ((i + 1) * 2) := by
    rw [List.eraseIdx_eq_take_drop_succ, rcells_append, rcells_take nc 2 nc_len, rcells_drop nc 2 nc_len]
  refine ⟨.slice (some ⟨g, 0, none⟩) (n - 1) c, rfl, ⟨by rw [rcells_length nc 2 nc_len], .inr ⟨g, c, R2, by rw [hlen], hb, hgW2, by rw [hlen]; omega, by unfold maxLen; omega, hR2s, by rw [hlen, hcs2]; exact hR2th.out⟩⟩, ?_⟩
  exact ⟨rfl, rfl, rfl, by simp [World.setRow, World.drewN], fun k hk hkg => (heap_setRow_other _ (fun e => hkg (by rw [e]))).trans (heap_setRow_other (w := w.drewN nq) _ (fun e => hkg (by rw [e])))⟩
/-- slices.Delete of one wait. -/
theorem delete_calls (base : Nat) (v : Value) (M : List Nm) (i : Nat) (w : World) (hv : ORow nc 2 w base 81 v M) (hi : i < M.length) (hbig : M.length ≤ 1000000) :
    Calls Try.prog 58 #[v, .int .i64 i, .int .i64 ((i : Int) + 1)] w fun e w' => ∃ v', e = .returned v' ∧ ORow nc 2 w' base 81 v' (M.eraseIdx i) ∧ w.grownBy w' v.ownBlock := by
  rcases hv.2 with ⟨rfl, h0⟩ | ⟨g, cap, cur, rfl, hb, hg, hnc, hcm, hcs, htake⟩
  · omega
  · exact delete_row base g M.length cap i M w hv hi hbig rfl
end Go.Proofs.Ytponbponacdhkaa

/-
  Layer 8's statements: the fixed fact; what is too great.
-/
import Derived.Test.YtkflikfcpdekdaaDoorSegRtake1
namespace Go.Proofs.YtkflikfcpdekdaaDoor
open Go.RowKit

def aliveRec : Rec := ⟨2, [], 0, 0, [], 0, 60, 61, 1500000⟩
theorem aliveRec_right : right aliveRec = true := by decide
theorem aliveRec_put : segPut aliveRec = [2, 60, 0, 0, 0, 0, 0, 0, 0, 61, 0, 0, 0, 0, 0, 0, 0, 96, 227, 22, 0, 0, 0, 0, 0] := by decide
theorem aliveRec_take : segTake [2, 60, 0, 0, 0, 0, 0, 0, 0, 61, 0, 0, 0, 0, 0, 0, 0, 96, 227, 22, 0, 0, 0, 0, 0] = (aliveRec, 0) := by
  rw [← aliveRec_put]
  exact segTake_put aliveRec aliveRec_right ⟨by decide, by decide⟩

set_option maxHeartbeats 800000 in
theorem alive08_calls (w : World) : Calls Tryd.prog 37 #[] w fun e w' => e = .returned (.bool true) ∧ Ext w w' := by
  have hput := fun w' => put_calls aliveRec none 0 0 w' (rg_nil _) aliveRec_right
  rw [aliveRec_put] at hput
  have htake := fun a n c w' h => stake_calls a n c [2, 60, 0, 0, 0, 0, 0, 0, 0, 61, 0, 0, 0, 0, 0, 0, 0, 96, 227, 22, 0, 0, 0, 0, 0] w' h
  rw [aliveRec_take] at htake
  unfold rv aliveRec at hput htake
  dsimp only at hput htake
  have hput := Lib.hid hput
  have htake := Lib.hid htake
  go_enter Tryd.func37, Tryd.ntmps37
  go_wp2_with fail
  refine (hput.out _).mono ?_
  rintro e w1 ⟨v, rfl, ho, hx1⟩
  obtain ⟨a1, n1, c1, rfl, hb1⟩ := ho.bs
  obtain rfl : n1 = 25 := hb1.len.symm
  clear ho
  go_wp2_with fail
  refine (htake.out _ _ _ _ hb1).mono ?_
  rintro e w2 ⟨a2, n2, c2, rfl, hrg, hx2⟩
  obtain ⟨b, o, rfl, hc⟩ := (hb1.ext hx2).at (by decide)
  have d1 := hc 1 (by decide)
  have d17 := hc 17 (by decide)
  have d18 := hc 18 (by decide)
  have d19 := hc 19 (by decide)
  have hbl := World.block_lt_of_cell? w2 _ d1
  simp only [List.getElem_cons_succ, List.getElem_cons_zero] at d1 d17 d18 d19
  clear hc hput htake hb1 hrg
  go_wp2
  go_ret
  exact ⟨rfl, (hx1.trans hx2).trans (Ext.alloc _ _)⟩

theorem great08_calls (r : Rec) (a : Option Addr) (n c : Nat) (w : World) : Calls Tryd.prog 38 #[rv r a n c] w fun e w' => e = .returned (.bool (decide (1000 < (n : Int)) || decide (1000 < (r.path.length : Int)))) ∧ Ext w w' := by
  obtain ⟨kind, path, method, factor, rungs, rung, time, now, value⟩ := r
  unfold rv
  by_cases h1 : 1000 < (n : Int)
  · rw [decide_eq_true h1]
    go_enter Tryd.func38, Tryd.ntmps38
    go_wp2
    go_ret
    exact ⟨rfl, Ext.alloc _ _⟩
  · rw [decide_eq_false h1]
    go_enter Tryd.func38, Tryd.ntmps38
    go_wp2
    go_ret
    exact ⟨by simp, Ext.alloc _ _⟩
end Go.Proofs.YtkflikfcpdekdaaDoor

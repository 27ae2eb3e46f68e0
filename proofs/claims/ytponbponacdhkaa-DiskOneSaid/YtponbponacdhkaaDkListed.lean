/-
  Layer 6's contracts: is a list one of names as it must be? (where it is)
-/
import Derived.Test.YtponbponacdhkaaDkDoneC
import Derived.Test.YtponbponacdhkaaDkMet
import Derived.BigQuiet
namespace Go.Proofs.Ytponbponacdhkaa
open Go.RowKit

set_option maxRecDepth 100000 in
set_option maxHeartbeats 3200000 in
theorem listed_calls (a : Option Addr) (n c : Nat) (M : List Nm) (w : World) (hb : Ns w a n c M) (hr : Rising M) (hv : ∀ x ∈ M, vld x.1 = true) (hi : (M.map (·.2)).Nodup) (hz : ∀ x ∈ M, 0 ≤ x.2 ∧ x.2 ≤ 1099511627776) (hn : n ≤ 10000) :
    Calls Try.prog 37 #[.slice a n c] w fun e w' => e = .returned (.bool true) ∧ Ext w w' := by
  have hlen := Row.len nc_len (by decide) hb
  subst hlen
  have hrh := Lib.hid hr
  have hvh := Lib.hid hv
  have hih := Lib.hid hi
  have hzh := Lib.hid hz
  have hbh := Lib.hid hb
  clear hr hv hi hz hb
  have hm0 := Lib.hid (met_made w)
  have hx0 := Lib.hid (Ext.alloc w (.map #[] 0))
  obtain ⟨b, hbd⟩ : ∃ b, w.heap.size = b := ⟨_, rfl⟩
  rw [hbd] at hm0
  have hbw : w.heap.size ≤ b := by omega
  have hmk := @run_makeMap Try.prog
  go_enter Try.func37, Try.ntmps37
  go_wp2_with fail
  clear hbd
  clear hmk
  go_loopw [9] (fun vi wr => ∃ k : Nat, k ≤ M.length ∧ vi = .int .i64 k ∧ Met wr b ((M.take k).map (·.2)) ∧ Ext w wr) (fun vi _ => M.length - (intOf vi).toNat)
  case atStart => exact ⟨0, Nat.zero_le _, rfl, hm0.out, hx0.out⟩
  case round =>
    obtain ⟨k, hk, rfl, hM, hX⟩ := hrel
    by_cases hlt : k < M.length
    · obtain ⟨b0, o0, rfl, hc⟩ := Ns.at hbh.out (by omega)
      obtain ⟨wo, hwo⟩ : ∃ wo : World, wr = wo := ⟨_, rfl⟩
      rw [hwo] at hM hX ⊢
      clear hwo
      have d0 := hX.cell (hc k hlt).1
      have d1 := hX.cell (hc k hlt).2
      have hvx := hvh.out M[k] (List.getElem_mem hlt)
      have hzx := hzh.out M[k] (List.getElem_mem hlt)
      have htk : (M.take (k + 1)).map (·.2) = (M.take k).map (·.2) ++ [M[k].2] := by
        rw [List.take_succ_eq_append_getElem hlt, List.map_append]; rfl
      have hni : M[k].2 ∉ (M.take k).map (·.2) := by
        have h1 := hih.out.sublist ((List.take_sublist (k + 1) M).map (·.2))
        rw [htk, List.nodup_append] at h1
        exact fun hm => h1.2.2 _ hm _ (by simp) rfl
      have hml : ((M.take k).map (·.2)).length < 1000000 := by rw [List.length_map, List.length_take]; omega
      have hprev : ∀ j, j + 1 = k → ∃ s0 : List UInt8, (∀ W, Ext w W → W.cell? ⟨b0, o0 + j * 2, none⟩ = some (.string ⟨s0.toArray⟩)) ∧ Op.bytesLess s0 M[k].1 = true := fun j hj =>
        ⟨(M[j]'(by omega)).1, fun W h => h.cell (hc j (by omega)).1, rising_at hrh.out j k hlt (by omega)⟩
      obtain ⟨⟨s, z⟩, hx⟩ : ∃ x, M[k] = x := ⟨_, rfl⟩
      rw [hx] at d0 d1 hvx hzx htk hni hprev
      dsimp only at d0 d1 hvx hzx htk hni hprev
      have hwf := wf_small z hzx.1 hzx.2
      have htkh := Lib.hid htk
      have hpvh := Lib.hid hprev
      have hvl := vld_len hvx
      clear hc hx htk hprev hzx
      go_upto_region 5 with fail
      have hx1 := Ext.alloc wo (.cells #[.string ⟨s.toArray⟩, .int .i64 z] 81)
      have hb1 := heap_alloc_new wo (.cells #[.string ⟨s.toArray⟩, .int .i64 z] 81)
      obtain ⟨B, hB⟩ : ∃ B, wo.heap.size = B := ⟨_, rfl⟩
      obtain ⟨W1, hW1⟩ : ∃ W1, wo.alloc (.cells #[.string ⟨s.toArray⟩, .int .i64 z] 81) = W1 := ⟨_, rfl⟩
      rw [hW1] at hx1
      rw [hW1, hB] at hb1 ⊢
      clear hW1 hB
      have hM1 := hM.ext hx1
      have hX1 := hX.trans hx1
      obtain ⟨e0, e1⟩ : W1.cell? ⟨B, 0, none⟩ = some (.string ⟨s.toArray⟩) ∧ W1.cell? ⟨B, 1, none⟩ = some (.int .i64 z) := ⟨by simp [World.cell?, hb1], by simp [World.cell?, hb1]⟩
      clear d0 d1 hM hX hx1 hb1
      obtain ⟨X, iX, f, hxS0, hSx0⟩ := letters (fun w' => Ext W1 w') W1 (Ext.refl W1)
      have hxS := Lib.hid hxS0
      have hSx := Lib.hid hSx0
      clear hxS0 hSx0
      have u0 : ∀ x', (f x').cell? ⟨B, 0, none⟩ = some (.string ⟨s.toArray⟩) := fun x' => (hxS.out x').cell e0
      have u1 : ∀ x', (f x').cell? ⟨B, 1, none⟩ = some (.int .i64 z) := fun x' => (hxS.out x').cell e1
      have hlk : ∀ x', (Instr.lookup 79 (.map (some b)) (.int .i64 z) false).run Try.prog (f x') = .ok (.bool false) (f x') := fun x' => by
        have h1 := (hM1.ext (hxS.out x')).lookup z hwf
        rw [decide_eq_false hni] at h1
        exact h1
      have hvc : Hid (∀ x', Calls Try.prog 30 #[.string ⟨s.toArray⟩] (f x') fun e w'' => e = .returned (.bool true) ∧ ∃ y, w'' = f y) := fun x' => by
        have h1 := valid_calls s (f x') (by omega)
        rw [hvx] at h1
        exact h1.mono (fun e w'' ⟨he, hw⟩ => ⟨he, x', hw⟩)
      have hM1h := Lib.hid hM1
      have hwfh := Lib.hid hwf
      have hmlh := Lib.hid hml
      clear e0 e1 hvx hni hM1 hwf hml
      cases k with
      | zero =>
        refine region_class (fun w' => ∃ x' : X, w' = f x') (by kernel_rfl) (by kernel_rfl) (hSx.out _ (Ext.drewN W1 1)) ?_
        repeat (go_big_quiet_step ((go_at_call 30; exact (hvc.out _))))
        refine wpQuiet_nil ?_
        rintro _ ⟨x1, rfl⟩
        have hxA := hxS.out x1
        obtain ⟨wA, hwA⟩ : ∃ wA, f x1 = wA := ⟨_, rfl⟩
        have e1 := u1 x1
        rw [hwA] at hxA e1 ⊢
        obtain ⟨w5, hup, hM5, hg5⟩ := (hM1h.out.ext hxA).update z hwfh.out hmlh.out
        rw [← htkh.out] at hM5
        have hM5h := Lib.hid hM5
        have hX5 := Lib.hid ((hX1.trans hxA).grown hg5 (fun k e => by cases e; exact hbw))
        have hlA := World.block_lt_of_cell? wA _ e1
        clear u0 u1 hlk hvc hSx hxS hwA iX hM5 hg5
        go_wp2_with fail
        go_roundw
        case rel => exact ⟨0 + 1, by omega, by go_num, hM5h.out, hX5.out⟩
        case measure => simp [intOf]; omega
      | succ j =>
        obtain ⟨s0, hc0, hl0⟩ := hpvh.out j rfl
        have u2 : ∀ x', (f x').cell? ⟨b0, o0 + j * 2, none⟩ = some (.string ⟨s0.toArray⟩) := fun x' => hc0 _ (hX1.trans (hxS.out x'))
        clear hc0
        refine region_class (fun w' => ∃ x' : X, w' = f x') (by kernel_rfl) (by kernel_rfl) (hSx.out _ (Ext.drewN W1 1)) ?_
        repeat (go_big_quiet_step ((go_at_call 30; exact (hvc.out _))))
        refine wpQuiet_nil ?_
        rintro _ ⟨x1, rfl⟩
        have hxA := hxS.out x1
        obtain ⟨wA, hwA⟩ : ∃ wA, f x1 = wA := ⟨_, rfl⟩
        have e1 := u1 x1
        rw [hwA] at hxA e1 ⊢
        obtain ⟨w5, hup, hM5, hg5⟩ := (hM1h.out.ext hxA).update z hwfh.out hmlh.out
        rw [← htkh.out] at hM5
        have hM5h := Lib.hid hM5
        have hX5 := Lib.hid ((hX1.trans hxA).grown hg5 (fun k e => by cases e; exact hbw))
        have hlA := World.block_lt_of_cell? wA _ e1
        clear u0 u1 u2 hlk hvc hSx hxS hwA iX hM5 hg5
        go_wp2_with fail
        go_roundw
        case rel => exact ⟨j + 1 + 1, by omega, by go_num, hM5h.out, hX5.out⟩
        case measure => simp [intOf]; omega
    · obtain rfl : k = M.length := by omega
      go_wp2_with fail
      go_ret
      exact ⟨rfl, hX⟩
end Go.Proofs.Ytponbponacdhkaa

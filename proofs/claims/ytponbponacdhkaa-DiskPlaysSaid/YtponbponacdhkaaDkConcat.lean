/-
  slices.Concat of slices of bytes; slices.Grow of nil.
-/
import Derived.Test.YtponbponacdhkaaDkBytes
namespace Go.Proofs.Ytponbponacdhkaa
open Go.RowKit

set_option maxRecDepth 100000 in
set_option maxHeartbeats 1600000 in
theorem grow_calls (n : Nat) (w : World) (hn : n ≤ 140737488355328) :
    Calls Try.prog 46 #[.slice none 0 0, .int .i64 n] w fun e w' => ∃ v, e = .returned v ∧ Own w' w.heap.size 5 v [] ∧ Ext w w' := by
  obtain ⟨i0, hi, hz0, hz1, hz2⟩ := info_parts infoU8
  by_cases h0 : n = 0
  · subst h0
    go_enter Try.func46, Try.ntmps46
    go_wp2
    go_ret
    exact ⟨_, rfl, own_nil _ _ _, Ext.refl _⟩
  · have hp : (0 : Int) < (n : Int) := by omega
    have hrun := Lib.run_append_nil_zeros (P := Try.prog) w 22 3 22 5 i0 (.int .u8 0) .i64 .i64 Try.underlying22 Try.underlying3 hi hz0 n (by omega) (by omega) (by omega) (by rw [hz2]; omega)
    have hge := grownCap_ge w n 0 5
    have hle := grownCap_le_maxLen w n 0 5 (by unfold maxLen; omega)
    have hown : Own (w.drew.alloc (.cells (Builtin.zeroCells (Value.int .u8 0).cells n ++ Builtin.zeroCells (Value.int .u8 0).cells (grownCap w n 0 5 - n)) 5)) w.heap.size 5 (.slice (some ⟨w.heap.size, 0, none⟩) 0 (grownCap w n 0 5)) [] :=
      World.ownsRow_made w.drew _ (grownCap w n 0 5) (Nat.le_refl _) hle (by simp [size_zeroCells, Value.cells]; omega)
    have hxt : Ext w (w.drew.alloc (.cells (Builtin.zeroCells (Value.int .u8 0).cells n ++ Builtin.zeroCells (Value.int .u8 0).cells (grownCap w n 0 5 - n)) 5)) := (Ext.drewN w 1).trans (Ext.alloc _ _)
    obtain ⟨cap, hcap⟩ : ∃ cap, cap = grownCap w n 0 5 := ⟨_, rfl⟩
    rw [← hcap] at hrun hown hxt hge hle
    clear hcap
    obtain ⟨wz, hwz⟩ : ∃ wz, wz = (w.drew.alloc (.cells (Builtin.zeroCells (Value.int .u8 0).cells n ++ Builtin.zeroCells (Value.int .u8 0).cells (cap - n)) 5)) := ⟨_, rfl⟩
    rw [← hwz] at hrun hown hxt
    have hrunh := Lib.hid hrun
    clear hwz hrun
    go_enter Try.func46, Try.ntmps46
    go_wp2_with (at_builtin; refine Lib.wpList_append_run _ rfl _ _ 22 3 rfl _ _ rfl rfl _ _ hrunh.out ?_)
    go_ret
    exact ⟨_, rfl, hown, hxt⟩

theorem flatten_take_succ (L : List (List UInt8)) (k : Nat) (h : k < L.length) : (L.take (k + 1)).flatten = (L.take k).flatten ++ L[k] := by
  rw [List.take_succ_eq_append_getElem h, List.flatten_append, List.flatten_cons, List.flatten_nil, List.append_nil]
theorem flatten_take_le (L : List (List UInt8)) (k : Nat) : (L.take k).flatten.length ≤ L.flatten.length := by
  have h : L.flatten = (L.take k).flatten ++ (L.drop k).flatten := by rw [← List.flatten_append, List.take_append_drop]
  rw [h, List.length_append]; omega

set_option maxRecDepth 100000 in
set_option maxHeartbeats 1600000 in
theorem concat_calls (a : Option Addr) (n c : Nat) (vs : List Value) (L : List (List UInt8)) (w : World) (hs : Sl w a n c 1 vs) (hv : BsAll w vs L) (hsum : L.flatten.length ≤ 140737488355328) :
    Calls Try.prog 27 #[.slice a n c] w fun e w' => ∃ v, e = .returned v ∧ Own w' w.heap.size 5 v L.flatten ∧ Ext w w' := by
  have hlen : Hid (L.length = n) := by show _ = _; rw [← hv.1, hs.len, Nat.mul_one]
  have hm := Nat.le_trans hs.le hs.max
  unfold maxLen at hm
  have hsh := Lib.hid hs
  clear hs
  go_enter Try.func27, Try.ntmps27
  go_wp2
  go_loop [3, 11] (fun s i => ∃ k : Nat, k ≤ n ∧ i = .int .i64 k ∧ s = .int .i64 ((L.take k).flatten.length : Nat)) (fun _ i => n - (intOf i).toNat)
  case atStart => exact ⟨0, by omega, rfl, rfl⟩
  case round =>
    obtain ⟨k, hk, rfl, rfl⟩ := hrel
    by_cases hlt : k < n
    · obtain ⟨b, o, rfl, hc⟩ := hsh.out.at_ (by omega)
      have hkL : k < L.length := by rw [hlen.out]; exact hlt
      have hkv : k < vs.length := by rw [hv.1]; exact hkL
      obtain ⟨ak, nk, ck, h1, h2⟩ := hv.2 k hkL
      have hcell := hc k hkv
      rw [List.getElem?_eq_getElem hkv] at h1
      rw [Option.some.inj h1] at hcell
      have hs1 := flatten_take_succ L k hkL
      have hle1 := flatten_take_le L k
      have hle2 := flatten_take_le L (k + 1)
      have HN : Hid ((L.take (k + 1)).flatten.length = (L.take k).flatten.length + nk) := by show _ = _; rw [hs1, List.length_append, h2.len]
      obtain ⟨s, hs⟩ : ∃ s, s = (L.take k).flatten.length := ⟨_, rfl⟩
      rw [HN.out] at hle2
      rw [← hs] at HN hle1 hle2 ⊢
      have hge : ¬ ((s : Int) + nk < 0) := by omega
      clear hc hs hs1 h1 h2
      go_wp2
      go_round
      case rel => exact ⟨k + 1, by omega, by go_num, by rw [HN.out]; go_num⟩
      case measure => simp [intOf]; omega
    · obtain rfl : k = n := by omega
      have htk : (L.take k).flatten = L.flatten := by rw [List.take_of_length_le (by rw [hlen.out]; exact Nat.le_refl _)]
      rw [htk]
      obtain ⟨t, ht⟩ : ∃ t, t = L.flatten.length := ⟨_, rfl⟩
      have hsum2 := hsum
      rw [← ht] at hsum2 ⊢
      clear htk ht
      go_wp2_with fail
      refine (grow_calls t w hsum2).mono ?_
      rintro e w1 ⟨v, rfl, ho, hx⟩
      go_wp2_with fail
      go_loopw [6, 27] (fun v i wr => ∃ j : Nat, j ≤ k ∧ i = .int .i64 j ∧ Own wr w.heap.size 5 v ((L.take j).flatten) ∧ Ext w wr) (fun _ i _ => k - (intOf i).toNat)
      case atStart => exact ⟨0, by omega, rfl, by simpa using ho, hx⟩
      case round =>
        obtain ⟨j, hj, rfl, ho2, hx2⟩ := hrel
        by_cases hjk : j < k
        · obtain ⟨b, o, rfl, hc⟩ := hsh.out.at_ (by omega)
          have hkL : j < L.length := by rw [hlen.out]; exact hjk
          have hkv : j < vs.length := by rw [hv.1]; exact hkL
          obtain ⟨ak, nk, ck, h1, h2⟩ := hv.2 j hkL
          have hcell := hx2.cell (hc j hkv)
          rw [List.getElem?_eq_getElem hkv] at h1
          rw [Option.some.inj h1] at hcell
          have HF : Hid ((L.take (j + 1)).flatten = (L.take j).flatten ++ L[j]) := flatten_take_succ L j hkL
          have HL : Hid ((L.take j).flatten.length + nk ≤ 140737488355328) := by
            have := flatten_take_le L (j + 1)
            rw [HF.out, List.length_append, h2.len] at this
            show _ ≤ _
            omega
          have h2h := Lib.hid (h2.ext hx2)
          have ho2h := Lib.hid ho2
          clear hc h1 h2 ho2
          go_wp2_with (at_builtin; refine wpList_append_bytes rfl _ _ 22 rfl w 5 Try.underlying22 infoU8 _ _ rfl ho2h.out hx2 _ nk _ _ rfl h2h.out HL.out ?_; intro v' w3 hown3 hx3 hgrow)
          go_roundw
          case rel => exact ⟨j + 1, by omega, by go_num, by rw [HF.out]; exact hown3, hx3⟩
          case measure => simp [intOf]; omega
        · obtain rfl : j = k := by omega
          have htk : (L.take j).flatten = L.flatten := by rw [List.take_of_length_le (by rw [hlen.out]; exact Nat.le_refl _)]
          rw [htk] at ho2
          clear htk
          go_wp2
          go_ret
          exact ⟨_, rfl, ho2, hx2⟩
end Go.Proofs.Ytponbponacdhkaa

/-
  Layer 20's contracts: names, how many, points held against each other.
-/
import Derived.Test.YtcbjadmngkednaaCacheMem
namespace Go.Proofs.Ytcbjadmngkednaa
open Go.RowKit

theorem nmd_eq (s : List UInt8) : nmd s = (!s.isEmpty && decide ((s.length : Int) ≤ 263)) := by
  unfold nmd
  rw [Bool.eq_iff_iff]
  simp
  omega
theorem named_calls (s : List UInt8) (w : World) (hl : s.length ≤ 140737488355328) : Calls Try.prog 27 #[.string ⟨s.toArray⟩] w fun e w' => e = .returned (.bool (nmd s)) ∧ w' = w := by
  rw [nmd_eq]
  cases hs : s.isEmpty with
  | true =>
    obtain rfl : s = [] := by simpa using hs
    go_enter Try.func27, Try.ntmps27
    go_wp2
    go_ret
    exact ⟨rfl, rfl⟩
  | false =>
    rw [Bool.not_false, Bool.true_and]
    go_enter Try.func27, Try.ntmps27
    go_wp2
    go_ret
    exact ⟨rfl, rfl⟩
theorem rnamed_calls (s : List UInt8) (w : World) (hl : s.length ≤ 140737488355328) : Calls Try.prog 33 #[.string ⟨s.toArray⟩] w fun e w' => e = .returned (.bool (nmd s)) ∧ w' = w := by
  have hn : nmd s = (decide ((1 : Int) ≤ (s.length : Int)) && decide ((s.length : Int) ≤ 263)) := by
    unfold nmd
    cases s with
    | nil => rfl
    | cons x s =>
      rw [Bool.eq_iff_iff]
      simp
      omega
  rw [hn]
  clear hn
  by_cases h1 : (1 : Int) ≤ (s.length : Int)
  · rw [decide_eq_true h1, Bool.true_and]
    go_enter Try.func33, Try.ntmps33
    go_wp2
    go_ret
    exact ⟨rfl, rfl⟩
  · rw [decide_eq_false h1, Bool.false_and]
    go_enter Try.func33, Try.ntmps33
    go_wp2
    go_ret
    exact ⟨rfl, rfl⟩

theorem cnt_append (L M : List Wt) : cnt (L ++ M) = cnt L + cnt M := by simp [cnt]
theorem cnt_take_succ (M : List Wh) (k : Nat) (h : k < M.length) : cnt (ws (M.take (k + 1))) = cnt (ws (M.take k)) + M[k].1.2.length := by
  rw [List.take_succ_eq_append_getElem h]
  unfold ws
  rw [List.map_append, cnt_append]
  rfl
theorem cnt_take_le (M : List Wh) (k : Nat) : cnt (ws (M.take k)) ≤ cnt (ws M) := by
  have h : ws M = ws (M.take k) ++ ws (M.drop k) := by unfold ws; rw [← List.map_append, List.take_append_drop]
  rw [h, cnt_append]; omega
set_option maxRecDepth 100000 in
theorem total_calls (m : Int) (a : Option Addr) (n c : Nat) (came dropped : Int) (M : List Wh) (w : World) (hb : Ws w a n c M) (hs : cnt (ws M) ≤ 1000000) :
    Calls Try.prog 28 #[cav m a n c came dropped] w fun e w' => e = .returned (.int .i64 (cnt (ws M) : Nat)) ∧ Ext w w' := by
  have hlen := Lib.hid hb.len
  have hm := Nat.le_trans (Sl.le hb.1) (Sl.max hb.1)
  unfold maxLen at hm
  have hx := Ext.alloc w (.cells #[.int .i64 m, .slice a n c, .int .i64 came, .int .i64 dropped] 24)
  unfold cav
  go_enter Try.func28, Try.ntmps28
  go_wp2
  go_loopw [3, 9] (fun s i wr => ∃ k : Nat, k ≤ n ∧ i = .int .i64 k ∧ s = .int .i64 (cnt (ws (M.take k)) : Nat) ∧ Ext w wr) (fun _ i _ => n - (intOf i).toNat)
  case atStart => exact ⟨0, by omega, rfl, rfl, hx⟩
  case round =>
    obtain ⟨k, hk, rfl, rfl, hX⟩ := hrel
    by_cases hlt : k < n
    · obtain ⟨b, o, rfl, hc⟩ := hb.at (by omega)
      have hkM : k < M.length := by rw [hlen.out]; exact hlt
      obtain ⟨d0, d1⟩ := hc k hkM
      replace d0 := hX.cell d0
      replace d1 := hX.cell d1
      have hct := cnt_take_succ M k hkM
      have hle := cnt_take_le M (k + 1)
      have hpl := (hb.2 M[k] (List.getElem_mem hkM)).len
      rw [hpl] at hct
      have hlt2 := World.block_lt_of_cell? wr _ d0
      obtain ⟨s, hs2⟩ : ∃ s, cnt (ws (M.take k)) = s := ⟨_, rfl⟩
      rw [hs2] at hct ⊢
      rw [hct] at hle
      have hcth := Lib.hid hct
      obtain ⟨⟨⟨pp, pts⟩, pa, pn, pc⟩, hx2⟩ : ∃ x, M[k] = x := ⟨_, rfl⟩
      rw [hx2] at d0 d1 hle hcth
      dsimp only at d0 d1 hle hcth
      clear hc hs2 hct hpl hx2
      go_wp2
      go_roundw
      case rel => exact ⟨k + 1, by omega, by go_num, by rw [hcth.out]; go_num, hX.trans (Ext.alloc _ _)⟩
      case measure => simp [intOf]; omega
    · obtain rfl : k = n := by omega
      have htk : M.take k = M := List.take_of_length_le (by rw [hlen.out]; exact Nat.le_refl _)
      rw [htk]
      clear htk
      go_wp2
      go_ret
      exact ⟨rfl, hX⟩

set_option maxRecDepth 100000 in
set_option maxHeartbeats 800000 in
theorem asame_calls (a : Option Addr) (n c : Nat) (l : List Ar) (a2 : Option Addr) (n2 c2 : Nat) (l2 : List Ar) (w : World) (hb : As w a n c l) (hb2 : As w a2 n2 c2 l2) :
    Calls Try.prog 24 #[.slice a n c, .slice a2 n2 c2] w fun e w' => e = .returned (.bool (decide (l = l2))) ∧ Ext w w' := by
  have hl1 := Lib.hid hb.len
  have hl2 := Lib.hid hb2.len
  have hm1 := Nat.le_trans (Sl.le hb) (Sl.max hb)
  have hm2 := Nat.le_trans (Sl.le hb2) (Sl.max hb2)
  unfold maxLen at hm1 hm2
  by_cases he : n = n2
  · subst he
    have hq : ((n : Int) != (n : Int)) = false := by simp
    go_enter Try.func24, Try.ntmps24
    go_wp2
    go_loopw [5] (fun i wr => ∃ k q : Nat, k ≤ n ∧ i = .int .i64 k ∧ wr = w.drewN q ∧ l.take k = l2.take k) (fun i _ => n - (intOf i).toNat)
    case atStart => exact ⟨0, 0, Nat.zero_le _, rfl, rfl, rfl⟩
    case round =>
      obtain ⟨k, q, hk, rfl, rfl, htk⟩ := hrel
      have HT := Lib.hid htk
      clear htk
      by_cases hlt : k < n
      · obtain ⟨b, o, rfl, hc⟩ := hb.at (by omega)
        obtain ⟨b2, o2, rfl, hc2⟩ := hb2.at (by omega)
        have hkl : k < l.length := by rw [hl1.out]; exact hlt
        have hkl2 : k < l2.length := by rw [hl2.out]; exact hlt
        obtain ⟨d0, d1, d2, d3⟩ := hc k hkl
        obtain ⟨e0, e1, e2, e3⟩ := hc2 k hkl2
        have hsn : Hid (l.take (k + 1) = l.take k ++ [l[k]]) := List.take_succ_eq_append_getElem hkl
        have hsn2 : Hid (l2.take (k + 1) = l2.take k ++ [l2[k]]) := List.take_succ_eq_append_getElem hkl2
        have hne : Hid (l[k] ≠ l2[k] → decide (l = l2) = false) := fun h => by
          rw [decide_eq_false_iff_not]; intro e; subst e; exact h rfl
        obtain ⟨⟨t0, t1, t2, t3⟩, hx⟩ : ∃ x, x = l[k] := ⟨_, rfl⟩
        obtain ⟨⟨u0, u1, u2, u3⟩, hy⟩ : ∃ x, x = l2[k] := ⟨_, rfl⟩
        rw [← hx] at d0 d1 d2 d3 hsn hne
        rw [← hy] at e0 e1 e2 e3 hsn2 hne
        dsimp only at d0 d1 d2 d3 e0 e1 e2 e3
        clear hc hc2 hx hy
        by_cases hxy : t0 = u0 ∧ t1 = u1 ∧ t2 = u2 ∧ t3 = u3
        · obtain ⟨rfl, rfl, rfl, rfl⟩ := hxy
          go_wp2
          go_quiet (fail)
          go_wp2
          go_roundw
          case rel => exact ⟨k + 1, _, by omega, by go_num, rfl, by rw [hsn.out, hsn2.out, HT.out]⟩
          case measure => simp [intOf]; omega
        · have hfin := Lib.hid (hne.out (fun h => by injection h with h1 h2 h3 h4; exact hxy ⟨h1, h2, h3, h4⟩))
          clear hne
          by_cases h0 : t0 = u0
          · by_cases h1 : t1 = u1
            · by_cases h2 : t2 = u2
              · have h3 : ¬ t3 = u3 := fun h => hxy ⟨h0, h1, h2, h⟩
                subst h0 h1 h2
                clear hxy
                go_wp2
                go_region
                go_wp2
                go_ret
                exact ⟨ret_bool hfin.out.symm, Ext.drewN _ _⟩
              · subst h0 h1
                clear hxy
                go_wp2
                go_region
                go_wp2
                go_ret
                exact ⟨ret_bool hfin.out.symm, Ext.drewN _ _⟩
            · subst h0
              clear hxy
              go_wp2
              go_region
              go_wp2
              go_ret
              exact ⟨ret_bool hfin.out.symm, Ext.drewN _ _⟩
          · clear hxy
            go_wp2
            go_region
            go_wp2
            go_ret
            exact ⟨ret_bool hfin.out.symm, Ext.drewN _ _⟩
      · obtain rfl : k = n := by omega
        have hfin : Hid (decide (l = l2) = true) := by
          have h1 := HT.out
          rw [List.take_of_length_le (by rw [hl1.out]; exact Nat.le_refl _), List.take_of_length_le (by rw [hl2.out]; exact Nat.le_refl _)] at h1
          show _ = _
          rw [h1]; simp
        go_wp2
        go_ret
        exact ⟨ret_bool hfin.out.symm, Ext.drewN _ _⟩
  · have hq : ((n : Int) != (n2 : Int)) = true := by rw [bne_iff_ne]; omega
    have hfin : Hid (decide (l = l2) = false) := by
      show _ = _
      rw [decide_eq_false_iff_not]; intro e; subst e; exact he (hl1.out.symm.trans hl2.out)
    go_enter Try.func24, Try.ntmps24
    go_wp2
    go_ret
    exact ⟨ret_bool hfin.out.symm, Ext.refl _⟩
end Go.Proofs.Ytcbjadmngkednaa

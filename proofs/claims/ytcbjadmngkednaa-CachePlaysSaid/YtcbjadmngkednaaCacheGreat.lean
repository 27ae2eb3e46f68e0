/-
  Layer 20's contracts: are there more points than are looked at?
-/
import Derived.Test.YtcbjadmngkednaaLaw20a
namespace Go.Proofs.Ytcbjadmngkednaa
open Go.RowKit

set_option maxRecDepth 100000 in
set_option maxHeartbeats 800000 in
theorem great_calls (m : Int) (a : Option Addr) (n c : Nat) (came dropped : Int) (M : List Wh) (w : World) (hb : Ws w a n c M) (hn : n ≤ 1152921504606846976) (hp : ∀ x ∈ M, x.2.2.1 ≤ 1152921504606846976) :
    Calls Try.prog 9 #[cav m a n c came dropped] w fun e w' => e = .returned (.bool (decide (1000 < n + cnt (ws M)))) ∧ Ext w w' := by
  have hlen := Lib.hid hb.len
  have hx := Ext.alloc w (.cells #[.int .i64 m, .slice a n c, .int .i64 came, .int .i64 dropped] 24)
  obtain ⟨g, hg⟩ : ∃ g, decide (1000 < n + cnt (ws M)) = g := ⟨_, rfl⟩
  rw [hg]
  have hgh := Lib.hid hg
  clear hg
  unfold cav
  go_enter Try.func9, Try.ntmps9
  go_wp2_with fail
  go_loop [3, 4] (fun s i => ∃ k t : Nat, k ≤ n ∧ i = .int .i64 k ∧ s = .int .i64 (t : Int) ∧ Hid (t = n + cnt (ws (M.take k))) ∧ t ≤ 2305843009213693952) (fun _ i => n - (intOf i).toNat)
  case atStart => exact ⟨0, n, by omega, rfl, rfl, by show _ = _; simp [cnt], by omega⟩
  case round =>
    obtain ⟨k, t, hk, rfl, rfl, ht, htb⟩ := hrel
    by_cases hlt : k < n
    · by_cases ht1 : t ≤ 1000
      · obtain ⟨b, o, rfl, hc⟩ := hb.at (by omega)
        have hkM : k < M.length := by rw [hlen.out]; exact hlt
        obtain ⟨d0, d1⟩ := hc k hkM
        have hlt2 := World.block_lt_of_cell? w _ d0
        have hct := cnt_take_succ M k hkM
        have hpl := (hb.2 M[k] (List.getElem_mem hkM)).len
        have hpk := hp M[k] (List.getElem_mem hkM)
        rw [hpl] at hct
        obtain ⟨⟨⟨pp, pts⟩, pa, pn, pc⟩, hx2⟩ : ∃ x, M[k] = x := ⟨_, rfl⟩
        rw [hx2] at d0 d1 hpk hct
        dsimp only at d0 d1 hpk hct
        have hct2 : Hid (t + pn = n + cnt (ws (M.take (k + 1)))) := by show _ = _; rw [ht.out, hct]; omega
        have q1 : decide ((t : Int) ≤ 1000) = true := by simp; omega
        clear hc hct hpl hx2
        go_wp2_with fail
        go_round
        case rel => exact ⟨k + 1, t + pn, by omega, by go_num, by go_num, hct2, by omega⟩
        case measure => simp [intOf]; omega
      · have q1 : decide ((t : Int) ≤ 1000) = false := by simp; omega
        have hle : t ≤ n + cnt (ws M) := by rw [ht.out]; have := cnt_take_le M k; omega
        obtain rfl : g = true := by rw [← hgh.out, decide_eq_true_eq]; omega
        have q2 : (1000 : Int) < (t : Int) := by omega
        clear hle
        go_wp2_with fail
        go_ret
        exact ⟨rfl, hx⟩
    · obtain rfl : k = n := by omega
      have htk : t = k + cnt (ws M) := by
        rw [ht.out, show M.take k = M from List.take_of_length_le (by rw [hlen.out]; exact Nat.le_refl _)]
      have hgt : Hid (g = decide ((1000 : Int) < (t : Int))) := by
        show _ = _
        rw [← hgh.out, htk]
        simp
        omega
      clear htk
      go_wp2_with fail
      go_ret
      exact ⟨ret_bool hgt.out.symm, hx⟩
end Go.Proofs.Ytcbjadmngkednaa

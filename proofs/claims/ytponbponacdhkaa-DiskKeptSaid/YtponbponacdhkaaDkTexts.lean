/-
  Layer 6's contracts: two lists of texts, or of names, that are the same, are told so; names of numbers.
-/
import Derived.Test.YtponbponacdhkaaDkList
namespace Go.Proofs.Ytponbponacdhkaa
open Go.RowKit
theorem Strs.at {w : World} {a : Option Addr} {n c : Nat} {l : List (List UInt8)} (h : Row tcl 1 w a n c l) (hn : 0 < n) : ∃ b o, a = some ⟨b, o, none⟩ ∧ ∀ k (hk : k < l.length), w.cell? ⟨b, o + k, none⟩ = some (.string ⟨l[k].toArray⟩) := by
  obtain ⟨b, o, ha, hc⟩ := Row.at tcl_len h hn
  exact ⟨b, o, ha, fun k hk => by have := hc k hk 0 _ rfl; simpa using this⟩

set_option maxRecDepth 100000 in
set_option maxHeartbeats 3200000 in
theorem texts_calls (a : Option Addr) (n c : Nat) (a2 : Option Addr) (c2 : Nat) (M : List (List UInt8)) (w : World) (hb : Row tcl 1 w a n c M) (hb2 : Row tcl 1 w a2 n c2 M) :
    Calls Try.prog 23 #[.slice a n c, .slice a2 n c2] w fun e w' => e = .returned (.bool true) ∧ Ext w w' := by
  have hlen := Row.len tcl_len (by decide) hb
  subst hlen
  have hbh := Lib.hid hb
  have hb2h := Lib.hid hb2
  have hmx := Nat.le_trans (Sl.le hb) (Sl.max hb)
  unfold maxLen at hmx
  clear hb hb2
  go_enter Try.func23, Try.ntmps23
  have hq : ((M.length : Int) != (M.length : Int)) = false := by simp
  go_wp2_with fail
  go_loopw [5] (fun vi wr => ∃ k : Nat, k ≤ M.length ∧ vi = .int .i64 k ∧ Ext w wr) (fun vi _ => M.length - (intOf vi).toNat)
  case atStart => exact ⟨0, Nat.zero_le _, rfl, Ext.refl _⟩
  case round =>
    obtain ⟨k, hk, rfl, hX⟩ := hrel
    by_cases hlt : k < M.length
    · obtain ⟨b0, o0, rfl, hc⟩ := Strs.at hbh.out (by omega)
      obtain ⟨b1, o1, rfl, hc1⟩ := Strs.at hb2h.out (by omega)
      have d0 := hX.cell (hc k hlt)
      have d2 := hX.cell (hc1 k hlt)
      obtain ⟨s, hx⟩ : ∃ x, M[k] = x := ⟨_, rfl⟩
      rw [hx] at d0 d2
      clear hc hc1 hx
      go_wp2_with fail
      go_region
      go_wp2_with fail
      go_roundw
      case rel => exact ⟨k + 1, by omega, by go_num, hX.trans (Ext.drewN _ 1)⟩
      case measure => simp [intOf]; omega
    · obtain rfl : k = M.length := by omega
      go_wp2_with fail
      go_ret
      exact ⟨rfl, hX⟩

set_option maxRecDepth 100000 in
set_option maxHeartbeats 3200000 in
theorem samenames_calls (a : Option Addr) (n c : Nat) (a2 : Option Addr) (c2 : Nat) (M : List Nm) (w : World) (hb : Ns w a n c M) (hb2 : Ns w a2 n c2 M) :
    Calls Try.prog 40 #[.slice a n c, .slice a2 n c2] w fun e w' => e = .returned (.bool true) ∧ Ext w w' := by
  have hlen := Row.len nc_len (by decide) hb
  subst hlen
  have hbh := Lib.hid hb
  have hb2h := Lib.hid hb2
  have hmx := Nat.le_trans (Sl.le hb) (Sl.max hb)
  unfold maxLen at hmx
  clear hb hb2
  go_enter Try.func40, Try.ntmps40
  have hq : ((M.length : Int) != (M.length : Int)) = false := by simp
  go_wp2_with fail
  go_loopw [5] (fun vi wr => ∃ k : Nat, k ≤ M.length ∧ vi = .int .i64 k ∧ Ext w wr) (fun vi _ => M.length - (intOf vi).toNat)
  case atStart => exact ⟨0, Nat.zero_le _, rfl, Ext.refl _⟩
  case round =>
    obtain ⟨k, hk, rfl, hX⟩ := hrel
    by_cases hlt : k < M.length
    · obtain ⟨b0, o0, rfl, hc⟩ := Ns.at hbh.out (by omega)
      obtain ⟨b1, o1, rfl, hc1⟩ := Ns.at hb2h.out (by omega)
      have d0 := hX.cell (hc k hlt).1
      have d1 := hX.cell (hc k hlt).2
      have d2 := hX.cell (hc1 k hlt).1
      have d3 := hX.cell (hc1 k hlt).2
      obtain ⟨⟨s, z⟩, hx⟩ : ∃ x, M[k] = x := ⟨_, rfl⟩
      rw [hx] at d0 d1 d2 d3
      dsimp only at d0 d1 d2 d3
      clear hc hc1 hx
      go_wp2_with fail
      go_region
      go_wp2_with fail
      go_roundw
      case rel => exact ⟨k + 1, by omega, by go_num, hX.trans (Ext.drewN _ 1)⟩
      case measure => simp [intOf]; omega
    · obtain rfl : k = M.length := by omega
      go_wp2_with fail
      go_ret
      exact ⟨rfl, hX⟩

def dnm (n : Nat) : List UInt8 := if n % 4 = 0 then [97] else if n % 4 = 1 then [98] else if n % 4 = 2 then [99] else [100]
theorem dnm_vld (n : Nat) : vld (dnm n) = true := by unfold dnm; split <;> (try split) <;> (try split) <;> rfl
set_option maxRecDepth 100000 in
set_option maxHeartbeats 3200000 in
theorem name_calls (n : Nat) (_hn : n < 256) (w : World) : Calls Try.prog 35 #[.int .u8 n] w fun e w' => e = .returned (.string ⟨(dnm n).toArray⟩) ∧ w' = w := by
  obtain ⟨r, hr, hr4⟩ : ∃ r : Nat, n % 4 = r ∧ r < 4 := ⟨_, rfl, Nat.mod_lt _ (by decide)⟩
  have h1 : (n : Int).tmod 4 = (r : Int) := by rw [← hr]; rfl
  have h2 : IntKind.u8.wrap (r : Int) = (r : Int) := by rw [IntKind.wrap_u8]; omega
  unfold dnm
  rw [hr]
  go_enter Try.func35, Try.ntmps35
  obtain rfl | rfl | rfl | rfl : r = 0 ∨ r = 1 ∨ r = 2 ∨ r = 3 := by omega
  all_goals
    go_wp2_with fail
    go_ret
    exact ⟨rfl, rfl⟩
end Go.Proofs.Ytponbponacdhkaa

/-
  Layer 6's contracts: where a name's file stands.
-/
import Derived.Test.YtponbponacdhkaaDkRight
namespace Go.Proofs.Ytponbponacdhkaa
open Go.RowKit

def cmpI (a b : Int) : Int := if a < b then -1 else if b < a then 1 else 0
theorem cmpI_neg (a b : Int) : cmpI a b < 0 ↔ a < b := by
  unfold cmpI
  split
  · simp [*]
  · split <;> simp [*]
theorem nan_calls (a : Int) (w : World) : Calls Try.prog 55 #[.int .i64 a] w fun e w' => e = .returned (.bool false) ∧ w' = w := by
  go_enter Try.func55, Try.ntmps55
  go_wp2_with fail
  go_ret
  exact ⟨by simp, rfl⟩
theorem cmp_calls (a b : Int) (w : World) : Calls Try.prog 44 #[.int .i64 a, .int .i64 b] w fun e w' => e = .returned (.int .i64 (cmpI a b)) ∧ w' = w := by
  unfold cmpI
  by_cases h1 : a < b
  · rw [if_pos h1]
    go_enter Try.func44, Try.ntmps44
    go_wp2_with fail
    refine (nan_calls a w).mono ?_
    rintro e w1 ⟨rfl, rfl⟩
    go_wp2_with fail
    refine (nan_calls b w1).mono ?_
    rintro e w2 ⟨rfl, rfl⟩
    go_wp2_with fail
    go_ret
    exact ⟨rfl, rfl⟩
  · rw [if_neg h1]
    by_cases h2 : b < a
    · rw [if_pos h2]
      go_enter Try.func44, Try.ntmps44
      go_wp2_with fail
      refine (nan_calls a w).mono ?_
      rintro e w1 ⟨rfl, rfl⟩
      go_wp2_with fail
      refine (nan_calls b w1).mono ?_
      rintro e w2 ⟨rfl, rfl⟩
      go_wp2_with fail
      go_ret
      exact ⟨rfl, rfl⟩
    · rw [if_neg h2]
      go_enter Try.func44, Try.ntmps44
      go_wp2_with fail
      refine (nan_calls a w).mono ?_
      rintro e w1 ⟨rfl, rfl⟩
      go_wp2_with fail
      refine (nan_calls b w1).mono ?_
      rintro e w2 ⟨rfl, rfl⟩
      go_wp2_with fail
      go_ret
      exact ⟨rfl, rfl⟩

/-- Has the one more points? Has its first point the lesser order? -/

theorem cmpI_eq (a b : Int) : cmpI a b = 0 ↔ a = b := by
  unfold cmpI
  split
  · constructor
    · intro h; cases h
    · intro h; omega
  · split
    · constructor
      · intro h; cases h
      · intro h; omega
    · constructor
      · intro _; omega
      · intro _; rfl
theorem find1_calls (id su : Int) (pa : Option Addr) (pn pc : Nat) (z : Int) (w : World) : Calls Try.prog 43 #[.agg #[.int .i64 id, .slice pa pn pc, .int .i64 su], .int .i64 z] w fun e w' => e = .returned (.int .i64 (cmpI id z)) ∧ Ext w w' := by
  have hx := Ext.alloc w (.cells #[.int .i64 id, .slice pa pn pc, .int .i64 su] 58)
  go_enter Try.func43, Try.ntmps43
  go_wp2_with fail
  refine (cmp_calls id z _).mono ?_
  rintro e w1 ⟨rfl, rfl⟩
  go_wp2
  go_ret
  exact ⟨rfl, hx⟩
set_option maxRecDepth 100000 in
set_option maxHeartbeats 1600000 in
theorem fsearch_calls (a : Option Addr) (n c : Nat) (M : List Fh) (z : Int) (w : World) (hb : Row fcl 3 w a n c M) (hr : M.Pairwise fun f g => f.1.id < g.1.id) (t : Nat) (ht : t < M.length) (htz : M[t].1.id = z) (hn : n ≤ 1000000) :
    Calls Try.prog 42 #[.slice a n c, .int .i64 z, .func (.func 43) #[] #[]] w fun e w' =>
      e = .returned (.tuple #[.int .i64 (t : Int), .bool true]) ∧ Ext w w' := by
  have hlen : M.length = n := Row.len fcl_len (by decide) hb
  subst hlen
  have hrh := Lib.hid hr
  have hth := Lib.hid htz
  have hbh := Lib.hid hb
  clear hr htz hb
  go_enter Try.func42, Try.ntmps42
  go_wp2_with fail
  go_loopw [9, 10] (fun vi vj wr => ∃ i j : Nat, i ≤ j ∧ j ≤ M.length ∧ vi = .int .i64 i ∧ vj = .int .i64 j ∧ i ≤ t ∧ t ≤ j ∧ Hid (∀ k (h : k < M.length), j ≤ k → z ≤ M[k].1.id) ∧ Ext w wr) (fun vi vj _ => (intOf vj).toNat - (intOf vi).toNat)
  case atStart => exact ⟨0, M.length, by omega, by omega, rfl, rfl, by omega, by omega, fun k h1 h2 => by omega, Ext.refl _⟩
  case round =>
    obtain ⟨i, j, hij, hjn, rfl, rfl, hit, htj, hhi, hX⟩ := hrel
    by_cases hlt : i < j
    · obtain ⟨m, hm⟩ : ∃ m, m = (i + j) / 2 := ⟨_, rfl⟩
      have hmi : ((i : Int) + (j : Int)) / 2 = (m : Int) := by omega
      have him : i ≤ m := by omega
      have hmj : m < j := by omega
      clear hm
      obtain ⟨b, o, rfl, hc⟩ := Row.at fcl_len hbh.out (by omega)
      have hmM : m < M.length := by omega
      have d0 := hX.cell (hc m hmM 0 _ rfl)
      have d1 := hX.cell (hc m hmM 1 _ rfl)
      have d2 := hX.cell (hc m hmM 2 _ rfl)
      rw [Nat.add_zero] at d0
      have hmt : M[m].1.id < z ↔ m < t := by
        constructor
        · intro h
          rcases Nat.lt_trichotomy m t with h1 | h1 | h1
          · exact h1
          · subst h1; rw [hth.out] at h; omega
          · have h2 := List.pairwise_iff_getElem.1 hrh.out t m ht hmM h1
            rw [hth.out] at h2
            omega
        · intro h
          have h2 := List.pairwise_iff_getElem.1 hrh.out m t hmM ht h
          rw [hth.out] at h2
          exact h2
      have hge : ∀ k (h : k < M.length), m ≤ k → ¬ M[m].1.id < z → z ≤ M[k].1.id := fun k hk hmk h1 => by
        by_cases hkm : k = m
        · subst hkm; omega
        · have h3 := List.pairwise_iff_getElem.1 hrh.out m k hmM hk (by omega)
          omega
      obtain ⟨⟨⟨id, by0, su⟩, pa, pn, pc⟩, hx⟩ : ∃ y, M[m] = y := ⟨_, rfl⟩
      rw [hx] at d0 d1 d2 hmt hge
      dsimp only at d0 d1 d2 hmt hge
      have hcl := find1_calls id su pa pn pc z wr
      have hneg := cmpI_neg id z
      obtain ⟨q, hq⟩ : ∃ q, cmpI id z = q := ⟨_, rfl⟩
      rw [hq] at hcl hneg
      have hgeh := Lib.hid hge
      have hlb := World.block_lt_of_cell? wr _ d0
      clear hc hx hq hge
      by_cases hlo2 : id < z
      · have hz0 : q < 0 := hneg.2 hlo2
        have hmt2 := hmt.1 hlo2
        clear hneg hmt
        go_wp2_with fail
        refine hcl.mono ?_
        rintro e w1 ⟨rfl, hx1⟩
        go_wp2
        go_roundw
        case rel => exact ⟨m + 1, j, by omega, hjn, by go_num, rfl, by omega, htj, hhi, hX.trans hx1⟩
        case measure => simp [intOf]; omega
      · have hz0 : ¬ q < 0 := fun h => hlo2 (hneg.1 h)
        have hmt2 : ¬ m < t := fun h => hlo2 (hmt.2 h)
        clear hneg hmt
        go_wp2_with fail
        refine hcl.mono ?_
        rintro e w1 ⟨rfl, hx1⟩
        go_wp2
        go_roundw
        case rel => exact ⟨i, m, by omega, by omega, rfl, rfl, hit, by omega, fun k hk hkm => hgeh.out k hk hkm hlo2, hX.trans hx1⟩
        case measure => simp [intOf]; omega
    · obtain rfl : i = j := by omega
      obtain rfl : i = t := by omega
      obtain ⟨b, o, rfl, hc⟩ := Row.at fcl_len hbh.out (by omega)
      have d0 := hX.cell (hc i ht 0 _ rfl)
      have d1 := hX.cell (hc i ht 1 _ rfl)
      have d2 := hX.cell (hc i ht 2 _ rfl)
      rw [Nat.add_zero] at d0
      have hthz := hth.out
      obtain ⟨⟨⟨id, by0, su⟩, pa, pn, pc⟩, hx⟩ : ∃ y, M[i] = y := ⟨_, rfl⟩
      rw [hx] at d0 d1 d2 hthz
      dsimp only at d0 d1 d2 hthz
      subst hthz
      have hcl := find1_calls id su pa pn pc id wr
      rw [(cmpI_eq id id).2 rfl] at hcl
      have hlb := World.block_lt_of_cell? wr _ d0
      clear hc hx hhi hth
      go_wp2_with fail
      refine hcl.mono ?_
      rintro e w1 ⟨rfl, hx1⟩
      go_wp2
      go_ret2
      exact ⟨rfl, hX.trans hx1⟩
end Go.Proofs.Ytponbponacdhkaa

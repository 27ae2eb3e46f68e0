/-
  Layer 6's contracts: which keep is a file's?
-/
import Derived.Test.YtponbponacdhkaaDkRead
namespace Go.Proofs.Ytponbponacdhkaa
open Go.RowKit

abbrev Kp := Int × Int
def kcl (k : Kp) : List Value := [.int .i64 k.1, .int .i64 k.2]
theorem kcl_len (k : Kp) : (kcl k).length = 2 := rfl
theorem crash1_calls (k : Kp) (B : Nat) (fid : Int) (v1 v2 : Value) (w : World) (hB : w.heap[B]? = some (.cells #[.int .i64 fid, v1, v2] 58 (0, 0))) :
    Calls Try.prog 33 #[.agg #[.int .i64 k.1, .int .i64 k.2], .pointer (some ⟨B, 0, none⟩)] w fun e w' => e = .returned (.bool (k.1 == fid)) ∧ Ext w w' := by
  obtain ⟨kid, kb⟩ := k
  dsimp only
  have hx := Ext.alloc w (.cells #[.int .i64 kid, .int .i64 kb] 61)
  have hc : (w.alloc (.cells #[.int .i64 kid, .int .i64 kb] 61)).cell? ⟨B, 0, none⟩ = some (.int .i64 fid) := hx.cell (by simp [World.cell?, hB])
  have hlb := lt_of_block hB
  clear hB
  go_enter Try.func33, Try.ntmps33
  go_wp2_with fail
  go_ret
  exact ⟨rfl, hx⟩
set_option maxRecDepth 100000 in
set_option maxHeartbeats 3200000 in
theorem kindex_calls (a : Option Addr) (n c : Nat) (M : List Kp) (B : Nat) (fid : Int) (v1 v2 : Value) (w : World) (hb : Row kcl 2 w a n c M) (hB : w.heap[B]? = some (.cells #[.int .i64 fid, v1, v2] 58 (0, 0)))  :
    Calls Try.prog 32 #[.slice a n c, .func (.func 33) #[] #[.pointer (some ⟨B, 0, none⟩)]] w fun e w' => Ext w w' ∧
      ((e = .returned (.int .i64 (-1)) ∧ ∀ y ∈ M, (y.1 == fid) = false) ∨ ∃ i : Nat, ∃ hi : i < M.length, e = .returned (.int .i64 i) ∧ (M[i].1 == fid) = true ∧ ∀ y ∈ M.take i, (y.1 == fid) = false) := by
  have hlen : M.length = n := Row.len kcl_len (by decide) hb
  subst hlen
  have hmx := Nat.le_trans (Sl.le hb) (Sl.max hb)
  unfold maxLen at hmx
  have hbh := Lib.hid hb
  have hBh := Lib.hid hB
  clear hb hB
  go_enter Try.func32, Try.ntmps32
  go_wp2_with fail
  go_loopw [8] (fun vi wr => ∃ k : Nat, k ≤ M.length ∧ vi = .int .i64 k ∧ Hid (∀ y ∈ M.take k, (y.1 == fid) = false) ∧ Ext w wr) (fun vi _ => M.length - (intOf vi).toNat)
  case atStart => exact ⟨0, Nat.zero_le _, rfl, (fun y hy => by simp at hy), Ext.refl _⟩
  case round =>
    obtain ⟨k, hk, rfl, hno, hX⟩ := hrel
    by_cases hlt : k < M.length
    · obtain ⟨b0, o0, rfl, hc⟩ := Row.at kcl_len hbh.out (by omega)
      have d0 := hX.cell (hc k hlt 0 _ rfl)
      have d1 := hX.cell (hc k hlt 1 _ rfl)
      rw [Nat.add_zero] at d0
      have hcl := crash1_calls M[k] B fid v1 v2 wr ((hX.block _ (lt_of_block hBh.out)).trans hBh.out)
      have htk : M.take (k + 1) = M.take k ++ [M[k]] := List.take_succ_eq_append_getElem hlt
      have hgk : ∀ q, (M[k].1 == fid) = q → (M[k].1 == fid) = q := fun _ h => h
      obtain ⟨y, hy⟩ : ∃ y, M[k] = y := ⟨_, rfl⟩
      rw [hy] at d0 d1 hcl htk
      have htkh := Lib.hid htk
      have hyh := Lib.hid hy
      obtain ⟨⟨kid, kb⟩, hyy⟩ : ∃ z, z = y := ⟨y, rfl⟩
      rw [← hyy] at d0 d1 hcl
      dsimp only at d0 d1 hcl
      have hyyh := Lib.hid hyy
      have hlb := World.block_lt_of_cell? wr _ d0
      cases hq : (kid == fid) with
      | true =>
        rw [hq] at hcl
        have hqh := Lib.hid hq
        clear hc hy htk hgk hyy hq
        go_wp2_with fail
        refine hcl.mono ?_
        rintro e w1 ⟨rfl, hx1⟩
        go_wp2_with fail
        go_ret
        refine ⟨hX.trans hx1, .inr ⟨k, hlt, rfl, ?_, hno.out⟩⟩
        rw [hyh.out, ← hyyh.out]
        exact hqh.out
      | false =>
        rw [hq] at hcl
        have hqh := Lib.hid hq
        clear hc hy htk hgk hyy hq
        go_wp2_with fail
        refine hcl.mono ?_
        rintro e w1 ⟨rfl, hx1⟩
        go_wp2_with fail
        go_roundw
        case rel =>
          refine ⟨k + 1, by omega, by go_num, ?_, hX.trans hx1⟩
          show ∀ _ ∈ _, _
          intro z hz
          rw [htkh.out] at hz
          rcases List.mem_append.1 hz with hz | hz
          · exact hno.out z hz
          · obtain rfl : z = y := by simpa using hz
            rw [← hyyh.out]
            exact hqh.out
        case measure => simp [intOf]; omega
    · obtain rfl : k = M.length := by omega
      have hno2 := hno.out
      rw [List.take_length] at hno2
      have hno3 := Lib.hid hno2
      clear hno2 hno
      go_wp2_with fail
      go_ret
      exact ⟨hX, .inl ⟨rfl, hno3.out⟩⟩
end Go.Proofs.Ytponbponacdhkaa
